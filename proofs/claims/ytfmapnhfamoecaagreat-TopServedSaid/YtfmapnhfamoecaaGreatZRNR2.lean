/- The walks that this claim needs, printed by a program of mine; part 2. -/
import Derived.Test.YtfmapnhfamoecaaGreatZRNR1
namespace Go.Proofs.YtfmapnhfamoecaaGreat
open Go.SH Go.PL
open Tryz 
variable {Mz Md KF Kx : Array Value} {Ds : Bool} {F : FS} {Mk Kw : FuncId} {down h hi hour Ae lo n BW p BT stand start wide BC : Int} {A1 : List (Int × Int × Int)} {walks : List (List Int)} {SI : List Bool} {HL plots Aw : List Int} {bK KG MN Yj QH bR Hh Bq At N5 Ar AT AW RU SN B0 AF : Nat} {Re Y5 RI aS : Nat × Nat} {bQ bL Hi Bp As Oz Aq AS AX Sm Sh B5 AG : Option Addr}
set_option maxHeartbeats 1000000 in
theorem IS {aa : Int} {cw : FuncId} {cx cy : Array Value} {x : (Int × Int) → Option Bool} {bq : Nat} {x2 : Int} {br : Nat × Nat} {Ac : Int} {Ak : List (List (List Int))} {ba al : Nat} {aj : Array MapEntry} {av : Nat} {x3 : List ((Int × (List Bool)) × Bool)} {bg : Nat × Nat} {ab : Nat} {ad : Option Addr} {ae af : Nat} {ai : LH} {aw : List (Int × (List Bool) × (List Int))} (aq : SI.length = 24) (ak : Ax 1 (iE .i64) F Hi Hh HL) (cn : F bR = some (.cells #[.func (.func cw) cx cy] 162 aS)) (cz : IQ Tryz.prog F cw cx cy (Cd (iE .i64) (iE .i64)) Value.bool x) (bb : F bq = some (.cells #[.int .i64 x2] 3 br)) (cp : F MN = some (.cells #[.pointer (some ⟨Yj, 0, none⟩)] 215 Re)) (bu : F Yj = some (.cells #[.int .i64 Ae, .int .i64 Ac, .slice As Ak.length At, .slice AX Aw.length AW, .slice Bp A1.length Bq] 247 Y5)) (ax : Ax 1 (Cn 1 (Cn 1 (iE .i64))) F As At Ak) (au : Ax 1 (iE .i64) F AX AW Aw) (ay : Ax 3 (Cd (iE .i64) (Cd (iE .i64) (iE .i64))) F Bp Bq A1) (ao : F ba = some (.cells #[.map (some al)] 311 bg)) (az : Jw HH (vA (cP (cI .i64) (cA cB))) Value.bool aj x3) (ah : A6 0 315 26 (Cd (iE .i64) (Cd (JA 24 cB) (Cn 1 (iE .i64)))) F ad ae af aw ai) {r : List ((Int × (List Bool)) × Bool)} {r2 : List (Int × (List Bool) × (List Int))} (hr : Gb BC SI HL aa x x2 Ae Ac Ak Aw A1 x3 aw = some (r, r2)) :
    SH.Spec Tryz.prog 174 #[.agg ((([.int .i64 BC] : List Value) ++ (SI.flatMap cB ++ (([.slice Hi HL.length Hh] : List Value)))).toArray), .int .i64 aa, .pointer (some ⟨bR, 0, none⟩), .pointer (some ⟨bq, 0, none⟩), .pointer (some ⟨MN, 0, none⟩), .pointer (some ⟨ba, 0, none⟩), .pointer (some ⟨ab, 0, none⟩)] F ((al, .map aj av) :: ((ab, ce #[.slice ad ae af] 310) :: (ai ++ []))) fun F' L' v => ∃ (bc : Array MapEntry) (bx : Nat) (da : Option Addr) (db : Nat) (dd : Nat) (de : LH), v = .tuple #[] ∧ L' = (al, .map bc bx) :: ((ab, ce #[.slice da db dd] 310) :: (de ++ [])) ∧ Jw HH (vA (cP (cI .i64) (cA cB))) Value.bool bc r ∧ A6 0 315 26 (Cd (iE .i64) (Cd (JA 24 cB) (Cn 1 (iE .i64)))) F' da db dd r2 de := by
 refine sp func174 ntmps174 fun K _ _ => ?_
 rw [Gb] at hr
 refine Fi (L' := (al, .map aj av) :: ((ab, ce #[.slice ad ae af] 310) :: (ai ++ []))) (by simp) (AO ?_)
 refine BH rfl rfl ?_; intro b1 fx
 refine Aa (Ao (AO ?_))
 refine uv (Aj isAgg162 rfl (Has.frozen cn) rfl) (uv (Aj isAgg3 rfl (Has.frozen bb) rfl) (um ?_))
 obtain ⟨ok, h2, r3⟩ := AI hr
 refine FI rfl cz.1 rfl rfl rfl (cz.2 _ (AZ.refl _) _ _ _ ⟨_, _, rfl, rfl, rfl⟩ h2) (uv (Cc rfl) (Aa ?_))
 refine AY rfl (fun c4 => ?_) (fun c4 => ?_)
 ·have r5 := bt r3 c4
  refine kW (kd kr) ?_
  refine Al (Ah ?_)
  refine Q5 (.inl rfl) results174 ?_
  obtain ⟨rfl, rfl⟩ := DH r5
  exact ⟨_, _, _, _, _, _, rfl, rfl, az, ah.any⟩
 have r6 := bf r3 c4
 refine An (AO (um ?_))
 refine uv (Aj isAgg215 rfl (Has.frozen cp) rfl) (uv (Ab Ob rfl) (uv (Ab Qv rfl) (uv (AL (cs := arr cB SI) isAgg221 sizeOf221 rfl (Has.own 0 rfl) (Hm (AE (A := ([.int .i64 BC] : List Value)) (k := 1) (o := 0) rfl (BV (FV Bi aq)))) (Js (FV Bi aq) (AE (A := ([.int .i64 BC] : List Value)) (k := 1) (o := 0) rfl (BV (FV Bi aq))))) (uv (Aj isAgg3 rfl (Has.frozen bb) rfl) (um ?_)))))
 obtain ⟨a, h7, r8⟩ := AI r6
 refine c0 call160 (OZ bu ax au ay aq h7) ?_; rintro _ F9 _ bj dm ⟨rfl, rfl, ar⟩
 replace ak := ak.mono (Ad _) bj
 replace ah := ah.mono (AD (Ad _) (AD (Ca (n := 24) (sz := 1) Bi) (Az (Ad _)))) bj
 replace ao := bj _ _ ao
 refine AK (ln rfl) ?_
 refine uv (Bx (v := .agg ((([.int .i64 aa] : List Value) ++ (a.flatMap cB)).toArray)) rfl (by intro w; obtain ⟨a0, a1, a2, a3, a4, a5, a6, a7, a8, a9, dn, dp, dq, dr, dt, du, dv, dw, dx, dy, dz, e9, eg, eh, rfl⟩ := Mr ar; kernel_rfl)) ?_
 refine Bj rfl zeroValue313 ?_; intro bn ej
 refine AK (L' := (bn, ce ((([.int .i64 0] : List Value) ++ ((List.replicate 24 false).flatMap cB)).toArray) 313) :: ((b1, ce ((([.int .i64 BC] : List Value) ++ (SI.flatMap cB ++ (([.slice Hi HL.length Hh] : List Value)))).toArray) 315) :: ((al, .map aj av) :: ((ab, ce #[.slice ad ae af] 310) :: (ai ++ []))))) rfl (Hl (i := 0) sizeOf313 rfl rfl rfl (lz (la rfl (FV Bi List.length_replicate))) (lz (la rfl (FV Bi ar))) (OT (by simp [Value.oneCell']) (J4 Bi _)) (AK (L' := (bn, ce ((([.int .i64 aa] : List Value) ++ (a.flatMap cB)).toArray) 313) :: ((b1, ce ((([.int .i64 BC] : List Value) ++ (SI.flatMap cB ++ (([.slice Hi HL.length Hh] : List Value)))).toArray) 315) :: ((al, .map aj av) :: ((ab, ce #[.slice ad ae af] 310) :: (ai ++ []))))) rfl (Cj (uv (Aj isAgg311 rfl (Has.frozen ao) rfl) (uv (AL (cs := (([.int .i64 aa] : List Value) ++ (a.flatMap cB)).toArray) isAgg313 sizeOf313 rfl (Has.own 0 rfl) (Hm (Ku rfl (BV rfl) (AE (A := ([.int .i64 aa] : List Value)) (k := 1) (o := 0) rfl (Em (FV Bi ar))))) (Js (la rfl (FV Bi ar)) (Ku rfl (BV rfl) (AE (A := ([.int .i64 aa] : List Value)) (k := 1) (o := 0) rfl (Em (FV Bi ar)))))) ?_)))))
 obtain ⟨eo, df⟩ := A2 r8
 refine uv (Fw.eq (v' := .bool ((A7 x3 (aa, a)).getD false)) (VW (k := (aa, a)) (z0 := false) rfl underlying311 U4 zeroValue4 rfl rfl (KW.own 2 rfl) (show Jw HH (vA (cP (cI .i64) (cA cB))) Value.bool aj (x3 : List ((Int × (List Bool)) × Bool)) from az) ⟨eo, ar⟩) rfl) (uv (Cc rfl) (Aa ?_))
 refine AY rfl (fun cq => ?_) (fun cq => ?_)
 ·have er := bt df cq
  refine AO (uv (Aj isAgg311 rfl (Has.frozen ao) rfl) (uv (AL (cs := (([.int .i64 aa] : List Value) ++ (a.flatMap cB)).toArray) isAgg313 sizeOf313 rfl (Has.own 0 rfl) (Hm (Ku rfl (BV rfl) (AE (A := ([.int .i64 aa] : List Value)) (k := 1) (o := 0) rfl (Em (FV Bi ar))))) (Js (la rfl (FV Bi ar)) (Ku rfl (BV rfl) (AE (A := ([.int .i64 aa] : List Value)) (k := 1) (o := 0) rfl (Em (FV Bi ar)))))) ?_))
  obtain ⟨et, eu⟩ := A2 er
  refine Sg (i := 2) (k := (aa, a)) (v := true) underlying311 U4 rfl rfl rfl rfl (show Jw HH (vA (cP (cI .i64) (cA cB))) Value.bool aj (x3 : List ((Int × (List Bool)) × Bool)) from az) ⟨et, ar⟩ ?_; intro bk bl bz
  obtain ⟨met, ew, ey⟩ := DK eu
  rw [← ew] at bz
  refine AK (L' := (bn, ce ((([.int .i64 aa] : List Value) ++ (a.flatMap cB)).toArray) 313) :: ((b1, ce ((([.int .i64 BC] : List Value) ++ (SI.flatMap cB ++ (([.slice Hi HL.length Hh] : List Value)))).toArray) 315) :: ((al, .map bk bl) :: ((ab, ce #[.slice ad ae af] 310) :: (ai ++ []))))) rfl (Aa (DB [(.still, 0), (.still, 1), (.still, 2), (.still, 3), (.still, 5), (.pre, 6), (.seq, 4), (.alloc (ce #[.int .i64 aa] 3) (fun b => .slice (some ⟨b, 0, none⟩) 1 1) [(35, .int .i64 aa)], 6), (.seq, 7), (.still, 8), (.seq, 9), (.seq, 10), (.seq, 11)] (by kernel_rfl) (by kernel_rfl) (⟨⟨_, _, rfl, rfl, rfl, rfl, rfl, Qf rfl (Hu CD [.int .i64 aa] rfl (by decide) (by simp [Value.cells]) (by decide))⟩, trivial⟩) (by rfl) (by kernel_rfl) (mL [6] ([(ab, ce #[.slice ad ae af] 310)]) rfl (s0 (s1 (s1 (s1 (s2 (s3 sr)))))) (fun H F' L' bo bp => Aj isAgg310 rfl ((Has.own 0 rfl).ext bo bp) rfl) (mL [9] ([(bn, ce ((([.int .i64 aa] : List Value) ++ (a.flatMap cB)).toArray) 313)]) rfl (s0 (s2 (s1 (s1 (s1 (s3 sr)))))) (fun H F' L' bo bp => AL (cs := (([.int .i64 aa] : List Value) ++ (a.flatMap cB)).toArray) isAgg313 sizeOf313 rfl ((Has.own 0 rfl).ext bo bp) (Hm (Ku rfl (BV rfl) (AE (A := ([.int .i64 aa] : List Value)) (k := 1) (o := 0) rfl (Em (FV Bi ar))))) (Js (la rfl (FV Bi ar)) (Ku rfl (BV rfl) (AE (A := ([.int .i64 aa] : List Value)) (k := 1) (o := 0) rfl (Em (FV Bi ar)))))) (mS [7] rfl (Ab Tu rfl) (mL [32] ([(b1, ce ((([.int .i64 BC] : List Value) ++ (SI.flatMap cB ++ (([.slice Hi HL.length Hh] : List Value)))).toArray) 315)]) rfl (s0 (s1 (s2 (s1 (s1 (s3 sr)))))) (fun H F' L' bo bp => Aj isAgg33 rfl ((Has.own 0 rfl).ext bo bp) (Fs (AE (A := ([.int .i64 BC] : List Value)) (k := 1) (o := 24) rfl (AE (A := SI.flatMap cB) (k := 24) (o := 0) (FV Bi aq) (Em rfl))))) (mS [1] rfl (B3 rfl) ?_)))))))
  refine ⟨⟨_, rfl, z1, by kernel_rfl⟩, ?_⟩
  refine ⟨_, [(33, .slice Hi HL.length Hh)], rfl, rfl, z1, by kernel_rfl, ?_⟩; intro H
  obtain ⟨l, fa, fb⟩ := AI ey
  refine c0 call110 (Lw ak fa) ?_; rintro _ fy _ ca cr ⟨fe, ff, fg, ct, rfl, rfl, bm⟩
  replace ah := ah.mono (AD (Ad _) (AD (Ca (n := 24) (sz := 1) Bi) (Az (Ad _)))) ca
  replace bm := bm.new fun p hp => cr p (by simp [hp])
  refine AK (lp (ln rfl)) (kO (kf (fS fO) (kf (fS fO) (kf (fS fO) (kf (fS fO) kr)))) ?_)
  refine Aa ⟨_, rfl, ca, [5, 1, 0], by kernel_rfl, .inl (.inr (fun d h => by cases h; rfl)), (fc sm (fc (s0 (s2 (s1 (s1 (s1 (s3 (s3 sr))))))) (fc (s0 (s1 (s1 (s1 (s2 (s3 (s3 sr))))))) nm))), ?_⟩
  refine Ul rfl ?_; intro dg fh
  refine TN (L' := (dg, ce #[.int .i64 aa] 3) :: ((bn, ce ((([.int .i64 aa] : List Value) ++ (a.flatMap cB)).toArray) 313) :: ((b1, ce ((([.int .i64 BC] : List Value) ++ (SI.flatMap cB ++ (([.slice Hi HL.length Hh] : List Value)))).toArray) 315) :: ((al, .map bk bl) :: ((ab, ce #[.slice ad ae af] 310) :: (ct ++ (ai ++ []))))))) rfl ?_
  refine ⟨_, [(34, .slice fe ff fg), (36, .slice (some ⟨dg, 0, none⟩) 1 1)], rfl, rfl, z2, by kernel_rfl, ?_⟩; intro H
  obtain ⟨l2, fi, fj, fk⟩ := Hv fb
  refine Fg (xs := l) (ys := [aa]) (zs := l2) rfl CD rfl rfl (Nat.le_refl _) (fun _ => .c (.c (.c (.c (.c .h))))) bm (HE.box (vss := [[.int .i64 aa]]) (ys := [aa]) 0 rfl (Ad _) (.cons rfl .nil) rfl rfl) fi fj (by decide) ?_; intro cb cj cc fl cf
  refine kO (kd kr) ?_
  refine Aa ⟨_, rfl, AZ.refl _, [1, 0], by kernel_rfl, .inl (.inr (fun d h => by cases h; rfl)), (fc (s0 (s2 (s1 (s1 (s1 (s3 (s3 sr))))))) (fc (s0 (s1 (s1 (s1 (s2 (s3 (s3 sr))))))) nm)), ?_⟩
  refine mL [31, 37] ([]) rfl sm (fun H F' L' bo bp => Bx (v := .agg ((([.int .i64 aa] : List Value) ++ (a.flatMap cB ++ (([.slice cb cj cc] : List Value)))).toArray)) rfl (by intro w; obtain ⟨a0, a1, a2, a3, a4, a5, a6, a7, a8, a9, dn, dp, dq, dr, dt, du, dv, dw, dx, dy, dz, e9, eg, eh, rfl⟩ := Mr ar; kernel_rfl)) ?_
  refine ⟨_, [(38, .agg ((([.int .i64 aa] : List Value) ++ (a.flatMap cB ++ (([.slice cb cj cc] : List Value)))).toArray))], rfl, rfl, z1, by kernel_rfl, ?_⟩; intro H
  refine HC (cs := (([.int .i64 aa] : List Value) ++ (a.flatMap cB ++ (([.slice cb cj cc] : List Value)))).toArray) rfl rfl (Mc UW (.agg (([.int .i64 aa] : List Value) ++ (a.flatMap cB ++ (([.slice cb cj cc] : List Value)))).toArray) (lz (la rfl (la (FV Bi ar) rfl))) (by decide)) ?_; intro fm fo
  refine Aa ⟨_, rfl, AZ.refl _, [0], by kernel_rfl, .inl (.inr (fun d h => by cases h; rfl)), (fc (s0 (s1 (s1 (s1 (s1 (s2 (s3 (s3 sr)))))))) nm), ?_⟩
  refine ⟨_, [(30, .slice ad ae af), (39, .slice (some ⟨fm, 0, none⟩) 1 1)], rfl, rfl, z2, by kernel_rfl, ?_⟩; intro H
  obtain rfl := (A6.D9 cf).1
  refine Gv (Nat.le_refl _) (Ad _) (fC (fC (fC (fC (fC fP))))) cf ?_; intro ga cg fp
  replace ah := ah.mono (AD (Ad _) (AD (Ca (n := 24) (sz := 1) Bi) (Az (Ad _)))) cg
  obtain ⟨l3, fq, ft, fv⟩ := Hv fk
  refine Fg (xs := aw) (ys := [(aa, a, l2)]) (zs := l3) rfl UW rfl rfl (Nat.zero_le _) (fun _ => .c (.c (.c (.c (.c .h))))) ah (HE.box (vss := [(([.int .i64 aa] : List Value) ++ (a.flatMap cB ++ (([.slice cb l2.length cc] : List Value))))]) (ys := [(aa, a, l2)]) 0 rfl (AD (Ad _) (AD (Ca (n := 24) (sz := 1) Bi) (Az (Ad _)))) (.cons ⟨_, _, rfl, rfl, ⟨_, _, rfl, ⟨rfl, ar⟩, ⟨_, _, rfl, fp⟩⟩⟩ .nil) (by simp) rfl) fq ft (by decide) ?_; intro dh di dk cu cv
  refine kO (kd kr) ?_
  refine Aa ⟨_, rfl, cg, [], by kernel_rfl, .inl (.inl rfl), nm, ?_⟩
  refine ⟨_, [(6, .pointer (some ⟨ab, 0, none⟩)), (40, .slice dh di dk)], rfl, rfl, z2, by kernel_rfl, ?_⟩; intro H
  refine CN (i := 3) sizeOf310 rfl rfl rfl rfl (Ce rfl) (AK (L' := (bn, ce ((([.int .i64 aa] : List Value) ++ (a.flatMap cB)).toArray) 313) :: ((b1, ce ((([.int .i64 BC] : List Value) ++ (SI.flatMap cB ++ (([.slice Hi HL.length Hh] : List Value)))).toArray) 315) :: ((al, .map bk bl) :: ((ab, ce #[.slice dh di dk] 310) :: (cu ++ []))))) rfl ?_)
  refine Aa ⟨undef, rfl, AZ.refl _, [], by kernel_rfl, .inl (.inl rfl), nm, ?_⟩
  refine EW (IE (.inr rfl) results174 (s1 (s1 (s2 (s2 (s4 sr))))) ?_)
  obtain ⟨rfl, rfl⟩ := DH fv
  exact ⟨_, _, _, _, _, _, rfl, rfl, bz, cv.any⟩
 have fw := bf df cq
 refine An (IE (.inr rfl) results174 (s1 (s1 (s2 (s2 (s4 sr))))) ?_)
 obtain ⟨rfl, rfl⟩ := DH fw
 exact ⟨_, _, _, _, _, _, rfl, rfl, az, ah.any⟩
theorem LS {ah : List Bool} {aa : Option Addr} {ab : Nat} {ad : List Int} (af : SI.length = 24) (_h_course : Ax 1 (iE .i64) F Hi Hh HL) (ai : F bR = some (.cells ((([.int .i64 BC] : List Value) ++ (ah.flatMap cB ++ (([.slice aa ad.length ab] : List Value)))).toArray) 315 aS)) (ae : ah.length = 24) (_h_course2 : Ax 1 (iE .i64) F aa ab ad) {r : Bool} (hr : FX SI HL BC ah ad = some r) :
    Bw Tryz.prog 177 #[.agg ((SI.flatMap cB ++ (([.slice Hi HL.length Hh] : List Value))).toArray), .pointer (some ⟨bR, 0, none⟩)] F (.bool r) := by
 refine sp func177 ntmps177 fun K _ _ => ?_
 rw [FX] at hr
 refine AO ?_
 refine BH rfl rfl ?_; intro b1 aj
 refine ua (Cj ?_)
 refine uv (Ab TS rfl) (uv (AL isAgg221 sizeOf221 rfl (Has.own 0 rfl) (Hm (BV (FV Bi af))) (Js (FV Bi af) (BV (FV Bi af)))) (uv (Ab Ob rfl) (uv (Ab Qv rfl) (uv (AL isAgg221 sizeOf221 rfl (Has.frozen ai) (Hm (AE (k := 1) (o := 0) rfl (BV (FV Bi ae)))) (Js (FV Bi ae) (AE (k := 1) (o := 0) rfl (BV (FV Bi ae))))) (uv (Pe (YO _ _ _ _) (fun w => XU (Yg SI ah af ae w)) rfl rfl) ?_)))))
 refine ua (Aa ?_)
 refine kW kn (Al (Cq results177 ?_))
 obtain rfl := AM hr
 exact rfl
set_option maxHeartbeats 1000000 in
theorem M0 {Ac : Int} {Ak : List (List (List Int))} (ae : F MN = some (.cells #[.int .i64 Ae, .int .i64 Ac, .slice As Ak.length At, .slice AX Aw.length AW, .slice Bp A1.length Bq] 247 Re)) (ab : Ax 1 (Cn 1 (Cn 1 (iE .i64))) F As At Ak) (aa : Ax 1 (iE .i64) F AX AW Aw) (ad : Ax 3 (Cd (iE .i64) (Cd (iE .i64) (iE .i64))) F Bp Bq A1) {r : List ((List Bool) × (List Int))} (hr : Ir Ae Ac Ak Aw A1 = some r) :
    SH.Spec Tryz.prog 109 #[.pointer (some ⟨MN, 0, none⟩)] F [] fun F' L' v => ∃ (ra : Option Addr) (rn : Nat) (rc : Nat) (rL : LH), v = .slice ra rn rc ∧ L' = rL ++ [] ∧ A6 0 223 25 (Cd (JA 24 cB) (Cn 1 (iE .i64))) F' ra rn rc r rL := by
 refine sp func109 ntmps109 fun K _ _ => ?_
 rw [Ir] at hr
 refine AO ?_
 refine BH rfl rfl ?_; intro b1 qi
 refine ua (Cj (ua (Aa ?_)))
 obtain ⟨now, h8, r9⟩ := AI hr
 refine AV (fun e1 F1 L1 => ∃ (a2 : Option Addr) (n6 : Nat) (c3 : Nat) (gm : LH), AZ F F1 ∧ L1 = (gm ++ []) ∧ e1.sub [(3, .slice a2 n6 c3)] ∧ A6 0 315 26 (Cd (iE .i64) (Cd (JA 24 cB) (Cn 1 (iE .i64)))) F1 a2 n6 c3 now gm) ?_ ?_
 ·clear r9
  refine AO (uv (Aj isAgg215 rfl (Has.own 0 rfl) rfl) (uv (A4 rfl) (uv (Ab NP rfl) (uv (Ab KR rfl) (uv (Aj isAgg33 rfl (Has.frozen ae) rfl) (uv (A3 underlying33 rfl) ?_))))))
  refine um (Aa ?_)
  refine Am ?_
  refine CX 0 rfl qi ?_; intro qj dv af
  refine Fi (L' := []) rfl ?_
  replace ab := ab.mono (Az (Az (Ad _))) dv
  replace aa := aa.mono (Ad _) dv
  replace ad := ad.mono (AD (Ad _) (AD (Ad _) (Ad _))) dv
  replace ae := dv _ _ ae
  refine VH (fun pa e1 F1 L1 => LA Aw pa fun tl k => ∃ (ct : List (Int × (List Bool) × (List Int))) (fi : Option Addr) (fj : Nat) (fk : Nat) (ah : LH), ED Ae Ac Ak Aw A1 tl k ct = some now ∧ AZ qj F1 ∧ L1 = (ah ++ []) ∧ e1.sub [(1, .pointer (some ⟨b1, 0, none⟩)), (3, .slice fi fj fk), (21, .int .i64 (Aw.length : Int)), (22, .int .i64 k)] ∧ A6 0 315 26 (Cd (iE .i64) (Cd (JA 24 cB) (Cn 1 (iE .i64)))) F1 fi fj fk ct ah) _ (m0 (ke kr) ⟨_, _, rfl, BP.start _, [], none, 0, 0, [], h8, AZ.refl _, rfl, z4, A6.nil _ _ _ _ _⟩) ?_
  rintro pa e1 pb _ ⟨tl, k, na, ie, ct, fi, fj, fk, ah, ml, cu, rfl, nc, ax⟩
  refine AA _ nc ?_
  replace ab := ab.mono (Az (Az (Ad _))) cu
  replace aa := aa.mono (Ad _) cu
  replace ad := ad.mono (AD (Ad _) (AD (Ad _) (Ad _))) cu
  replace ae := cu _ _ ae
  replace af := cu _ _ af
  refine AO (uv (Bg rfl rfl) ?_)
  refine Aa (Ao ?_)
  refine cQ (fun mo => ?_) fun mo => ?_
  ·obtain ⟨x, s8, rfl, qk, s9, nf⟩ := BP.succ ie mo
   rw [ED] at ml
   refine An ?_
   obtain ⟨iw, ql, pc⟩ := AI ml
   refine AV (fun e1 F1 L1 => ∃ (mq : Option Addr) (mr : Nat) (mv : Nat) (fl : LH), AZ pb F1 ∧ L1 = (fl ++ []) ∧ e1.sub [(1, .pointer (some ⟨b1, 0, none⟩)), (3, .slice mq mr mv), (21, .int .i64 (Aw.length : Int)), (22, .int .i64 k)] ∧ A6 0 315 26 (Cd (iE .i64) (Cd (JA 24 cB) (Cn 1 (iE .i64)))) F1 mq mr mv iw fl) ?_ ?_
   ·clear pc
    refine Am ?_
    refine AO (um ?_)
    refine Bj rfl zeroValue3 ?_; intro bk iy
    refine CN (i := 0) sizeOf3 rfl rfl rfl rfl (Ce rfl) (AK rfl (Cj ?_))
    refine KJ rfl ?_; intro bc qn
    refine Bj rfl zeroValue311 ?_; intro bg iz
    refine CN (i := 0) sizeOf311 rfl rfl rfl rfl (Ce rfl) (AK rfl (Cj ?_))
    refine Bj rfl zeroValue310 ?_; intro ai qo
    refine Cj (uv (Aj isAgg215 rfl (Has.frozen af) rfl) (uv (A4 rfl) (uv (Ab NP rfl) (uv (AL (cs := #[.int .i64 Ae, .int .i64 Ac, .slice As Ak.length At, .slice AX Aw.length AW, .slice Bp A1.length Bq]) isAgg100 sizeOf100 rfl (Has.frozen ae) (Ce rfl) rfl) (uv (C8 rfl rfl) ?_)))))
    refine Bj rfl zeroValue162 ?_; intro bp j0
    refine CN (i := 0) sizeOf162 rfl rfl rfl rfl (Ce rfl) (AK rfl (Cj (uv (C8 rfl rfl) ?_)))
    refine Bj rfl zeroValue316 ?_; intro bj qp
    refine CN (i := 0) sizeOf316 rfl rfl rfl rfl (Ce rfl) (AK rfl (Aa ?_))
    obtain ⟨cv, m, pd, pf⟩ := DA ql
    refine VP (fun e1 F1 L1 => ∃ (mw : Option Addr) (mx : Nat) (my : Nat) (fm : LH) (fo : Array MapEntry) (ig : Nat), AZ pb F1 ∧ L1 = ((bj, ce (#[.func (.func 174) #[] #[.pointer (some ⟨bp, 0, none⟩), .pointer (some ⟨bk, 0, none⟩), .pointer (some ⟨b1, 0, none⟩), .pointer (some ⟨bg, 0, none⟩), .pointer (some ⟨ai, 0, none⟩)]]) 316) :: ((ai, ce #[.slice mw mx my] 310) :: ((bc, .map fo ig) :: (ah ++ (fm ++ []))))) ∧ e1.sub [(1, .pointer (some ⟨b1, 0, none⟩)), (3, .slice fi fj fk), (6, .pointer (some ⟨ai, 0, none⟩)), (8, .pointer (some ⟨bj, 0, none⟩)), (21, .int .i64 (Aw.length : Int)), (22, .int .i64 k)] ∧ A6 0 315 26 (Cd (iE .i64) (Cd (JA 24 cB) (Cn 1 (iE .i64)))) F1 mw mx my cv fm ∧ F1 bp = some (ce (#[.func (.func 173) #[.agg #[.int .i64 Ae, .int .i64 Ac, .slice As Ak.length At, .slice AX Aw.length AW, .slice Bp A1.length Bq]] #[]]) 162) ∧ F1 bk = some (ce #[.int .i64 k] 3) ∧ Jw HH (vA (cP (cI .i64) (cA cB))) Value.bool fo m ∧ F1 bg = some (ce #[.map (some bc)] 311)) ?_ ?_
    ·clear pf
     refine AO (uv (Aj isAgg3 rfl (Has.own 5 rfl) rfl) (uv (Dn rfl rfl) (Aa ?_)))
     refine cQ (fun ng => ?_) fun ng => ?_
     ·have qq := A8 pd ng
      refine AO (um (Aa ?_))
      refine Am ?_
      refine CX 1 rfl j0 ?_; intro sa dm bq
      refine Fi (L' := (bj, ce (#[.func (.func 174) #[] #[.pointer (some ⟨bp, 0, none⟩), .pointer (some ⟨bk, 0, none⟩), .pointer (some ⟨b1, 0, none⟩), .pointer (some ⟨bg, 0, none⟩), .pointer (some ⟨ai, 0, none⟩)]]) 316) :: ((ai, ce #[.slice none 0 0] 310) :: ((bg, ce #[.map (some bc)] 311) :: ((bc, .map #[] 0) :: ((bk, ce #[.int .i64 k] 3) :: (ah ++ [])))))) rfl ?_
      replace ab := ab.mono (Az (Az (Ad _))) dm
      replace aa := aa.mono (Ad _) dm
      replace ad := ad.mono (AD (Ad _) (AD (Ad _) (Ad _))) dm
      replace ae := dm _ _ ae
      replace af := dm _ _ af
      refine CX 4 rfl iy ?_; intro sb cw dn
      refine Fi (L' := (bj, ce (#[.func (.func 174) #[] #[.pointer (some ⟨bp, 0, none⟩), .pointer (some ⟨bk, 0, none⟩), .pointer (some ⟨b1, 0, none⟩), .pointer (some ⟨bg, 0, none⟩), .pointer (some ⟨ai, 0, none⟩)]]) 316) :: ((ai, ce #[.slice none 0 0] 310) :: ((bg, ce #[.map (some bc)] 311) :: ((bc, .map #[] 0) :: (ah ++ []))))) rfl ?_
      replace ab := ab.mono (Az (Az (Ad _))) cw
      replace aa := aa.mono (Ad _) cw
      replace ad := ad.mono (AD (Ad _) (AD (Ad _) (Ad _))) cw
      replace ae := cw _ _ ae
      replace af := cw _ _ af
      replace bq := cw _ _ bq
      refine CX 2 rfl iz ?_; intro qs br fp
      refine Fi (L' := (bj, ce (#[.func (.func 174) #[] #[.pointer (some ⟨bp, 0, none⟩), .pointer (some ⟨bk, 0, none⟩), .pointer (some ⟨b1, 0, none⟩), .pointer (some ⟨bg, 0, none⟩), .pointer (some ⟨ai, 0, none⟩)]]) 316) :: ((ai, ce #[.slice none 0 0] 310) :: ((bc, .map #[] 0) :: (ah ++ [])))) rfl ?_
      replace ab := ab.mono (Az (Az (Ad _))) br
      replace aa := aa.mono (Ad _) br
      replace ad := ad.mono (AD (Ad _) (AD (Ad _) (Ad _))) br
      replace ae := br _ _ ae
      replace af := br _ _ af
      replace bq := br _ _ bq
      replace dn := br _ _ dn
      obtain ⟨nh, ni⟩ := A2 qq
      refine VH (fun mz e1 F1 L1 => ∃ (k2 : Int), Fp 0 8 k2 mz ∧ ∃ (cx : List (Int × (List Bool) × (List Int))) (m2 : List ((Int × (List Bool)) × Bool)) (j3 : Option Addr) (dw : Nat) (dx : Nat) (bu : LH) (bx : Array MapEntry) (dd : Nat), EF Ae Ac Ak Aw A1 k mz k2 cx m2 = some (cv, m) ∧ AZ qs F1 ∧ L1 = ((bj, ce (#[.func (.func 174) #[] #[.pointer (some ⟨bp, 0, none⟩), .pointer (some ⟨bk, 0, none⟩), .pointer (some ⟨b1, 0, none⟩), .pointer (some ⟨bg, 0, none⟩), .pointer (some ⟨ai, 0, none⟩)]]) 316) :: ((ai, ce #[.slice j3 dw dx] 310) :: ((bc, .map bx dd) :: (ah ++ (bu ++ []))))) ∧ e1.sub [(1, .pointer (some ⟨b1, 0, none⟩)), (3, .slice fi fj fk), (6, .pointer (some ⟨ai, 0, none⟩)), (8, .pointer (some ⟨bj, 0, none⟩)), (21, .int .i64 (Aw.length : Int)), (22, .int .i64 k), (34, .int .i64 k2)] ∧ A6 0 315 26 (Cd (iE .i64) (Cd (JA 24 cB) (Cn 1 (iE .i64)))) F1 j3 dw dx cx bu ∧ Jw HH (vA (cP (cI .i64) (cA cB))) Value.bool bx m2) _ (m0 (kc (kc (kc (ka (ke kr))))) ⟨_, Fp.start _ _, [], [], none, 0, 0, [], #[], 0, ni, AZ.refl _, rfl, z7, A6.nil _ _ _ _ _, Jw.nil⟩) ?_
      rintro mz e1 nj _ ⟨k2, dy, cx, m2, j3, dw, dx, bu, bx, dd, fq, ao, rfl, j4, gp, gq⟩
      refine AA _ j4 ?_
      replace ab := ab.mono (Az (Az (Ad _))) ao
      replace aa := aa.mono (Ad _) ao
      replace ad := ad.mono (AD (Ad _) (AD (Ad _) (Ad _))) ao
      replace ae := ao _ _ ae
      replace af := ao _ _ af
      replace bq := ao _ _ bq
      replace dn := ao _ _ dn
      replace fp := ao _ _ fp
      refine AO (uv (Bg rfl rfl) ?_)
      refine Aa (Ao ?_)
      refine cQ (fun ft => ?_) fun ft => ?_
      ·obtain ⟨mz, rfl, j5⟩ := Fp.succ dy ft
       rw [EF] at fq
       refine An (Ao ?_)
       refine Am ?_
       refine AO (um (ua (Aa (Ai ?_))))
       refine uv (Aj isAgg316 rfl (Has.own 0 rfl) rfl) ?_
       refine uv (Bx (v := .agg ((([.int .i64 0] : List Value) ++ ((List.replicate 24 false).flatMap cB ++ (([.slice none 0 0] : List Value)))).toArray)) rfl (by intro w; kernel_rfl)) ?_
       refine um ?_
       have j6 : IQ Tryz.prog nj 173 #[.agg #[.int .i64 Ae, .int .i64 Ac, .slice As Ak.length At, .slice AX Aw.length AW, .slice Bp A1.length Bq]] #[] (Cd (iE .i64) (iE .i64)) Value.bool (fun dz : Int × Int => GU Ae Ac Ak Aw A1 dz.1 dz.2) := ⟨call173, fun F2 h2 vs dz r ha hr => by obtain ⟨_, _, rfl, rfl, rfl⟩ := ha; exact LM (ab.mono (Az (Az (Ad _))) h2) (aa.mono (Ad _) h2) (ad.mono (AD (Ad _) (AD (Ad _) (Ad _))) h2) hr⟩
       obtain ⟨x2, ij, nk, nn⟩ := DA fq
       refine GJ (Lb := (bc, .map bx dd) :: ((ai, ce #[.slice j3 dw dx] 310) :: (bu ++ []))) (Lr := (bj, ce (#[.func (.func 174) #[] #[.pointer (some ⟨bp, 0, none⟩), .pointer (some ⟨bk, 0, none⟩), .pointer (some ⟨b1, 0, none⟩), .pointer (some ⟨bg, 0, none⟩), .pointer (some ⟨ai, 0, none⟩)]]) 316) :: (ah ++ [])) rfl call174 rfl rfl rfl (pT ((fC (fC fO)).trans (pC ((fC fO).trans (pC ((fC (fS fP)).trans (pA pR)))))) (lb (lb (lp (ln rfl))))) (IS List.length_replicate (Ax.nil _ _ _) bq j6 dn af ae ab aa ad fp gq gp nk) ?_; rintro _ qt _ j7 pg ph ⟨j8, j9, np, nq, nr, ja, rfl, rfl, jb, jc⟩
       refine AK (lb (lb (lp (ln rfl)))) (kO (kc (kc (kf (fS fO) kr))) ?_)
       refine Aa (Au (id := 3) (Ai ?_))
       refine uv (Bd rfl rfl (Fp.EP dy ft nh)) ?_
       refine um (Aa ?_)
       refine lf ?_
       exact mf (kf (fC (fC fO)) (kf (fC fO) (kc (kg (fS fP) kr)))) ⟨_, j5, ij, x2, np, nq, nr, ja, j8, j9, nn, (ao.trans j7), rfl, z7, jc, jb⟩
      obtain rfl := Fp.zero dy ft
      rw [EF] at fq
      refine AQ (Af (Af ?_))
      refine Av ?_
      obtain ⟨rfl, rfl⟩ := DH fq
      exact mf kr ⟨j3, dw, dx, bu, bx, dd, (((dm.trans cw).trans br).trans ao), rfl, z6, gp, bq, dn, gq, fp⟩
     have nt := A9 pd ng
     refine An ?_
     refine L9 1 rfl j0 ?_; intro qu jd bz
     refine UN (L' := (bj, ce (#[.func (.func 174) #[] #[.pointer (some ⟨bp, 0, none⟩), .pointer (some ⟨bk, 0, none⟩), .pointer (some ⟨b1, 0, none⟩), .pointer (some ⟨bg, 0, none⟩), .pointer (some ⟨ai, 0, none⟩)]]) 316) :: ((ai, ce #[.slice none 0 0] 310) :: ((bg, ce #[.map (some bc)] 311) :: ((bc, .map #[] 0) :: ((bk, ce #[.int .i64 k] 3) :: (ah ++ [])))))) rfl ?_
     refine L9 4 rfl iy ?_; intro qw gr e9
     refine UN (L' := (bj, ce (#[.func (.func 174) #[] #[.pointer (some ⟨bp, 0, none⟩), .pointer (some ⟨bk, 0, none⟩), .pointer (some ⟨b1, 0, none⟩), .pointer (some ⟨bg, 0, none⟩), .pointer (some ⟨ai, 0, none⟩)]]) 316) :: ((ai, ce #[.slice none 0 0] 310) :: ((bg, ce #[.map (some bc)] 311) :: ((bc, .map #[] 0) :: (ah ++ []))))) rfl ?_
     replace bz := gr _ _ bz
     refine L9 2 rfl iz ?_; intro qx eg je
     refine UN (L' := (bj, ce (#[.func (.func 174) #[] #[.pointer (some ⟨bp, 0, none⟩), .pointer (some ⟨bk, 0, none⟩), .pointer (some ⟨b1, 0, none⟩), .pointer (some ⟨bg, 0, none⟩), .pointer (some ⟨ai, 0, none⟩)]]) 316) :: ((ai, ce #[.slice none 0 0] 310) :: ((bc, .map #[] 0) :: (ah ++ [])))) rfl ?_
     replace bz := eg _ _ bz
     replace e9 := eg _ _ e9
     obtain ⟨rfl, rfl⟩ := DH nt
     exact mf (kc (kc (kc (ka (ke kr))))) ⟨none, 0, 0, [], #[], 0, ((jd.trans gr).trans eg), rfl, z6, A6.nil _ _ _ _ _, bz, e9, Jw.nil, je⟩
    rintro e1 jf _ ⟨mw, mx, my, fm, fo, ig, ay, rfl, jg, nu, cy, cz, nv, da⟩
    refine AA _ jg ?_
    replace ab := ab.mono (Az (Az (Ad _))) ay
    replace aa := aa.mono (Ad _) ay
    replace ad := ad.mono (AD (Ad _) (AD (Ad _) (Ad _))) ay
    replace ax := ax.mono (AD (Ad _) (AD (Ca (n := 24) (sz := 1) Bi) (Az (Ad _)))) ay
    replace ae := ay _ _ ae
    replace af := ay _ _ af
    obtain ⟨eh, nw, jh⟩ := AI pf
    refine AV (fun e1 F1 L1 => ∃ (fv : Option Addr) (fw : Nat) (fx : Nat) (de : LH), AZ jf F1 ∧ L1 = ((ai, ce #[.slice fv fw fx] 310) :: (de ++ [])) ∧ e1.sub [(1, .pointer (some ⟨b1, 0, none⟩)), (6, .pointer (some ⟨ai, 0, none⟩)), (21, .int .i64 (Aw.length : Int)), (22, .int .i64 k)] ∧ A6 0 315 26 (Cd (iE .i64) (Cd (JA 24 cB) (Cn 1 (iE .i64)))) F1 fv fw fx eh de) ?_ ?_
    ·clear jh
     refine AO (um ?_)
     refine uv ((A3 underlying310 rfl).i (A6.Je ax)) ?_
     refine um (Aa ?_)
     refine Am ?_
     refine Bk (fun pj e1 F1 L1 => LA ct pj fun pk k3 => ∃ (bm : List (Int × (List Bool) × (List Int))) (m3 : List ((Int × (List Bool)) × Bool)) (ca : Option Addr) (cb : Nat) (cc : Nat) (au : LH) (az : Array MapEntry) (bl : Nat), EA Ae Ac Ak Aw A1 k pk bm m3 = some eh ∧ AZ jf F1 ∧ L1 = ((bj, ce (#[.func (.func 174) #[] #[.pointer (some ⟨bp, 0, none⟩), .pointer (some ⟨bk, 0, none⟩), .pointer (some ⟨b1, 0, none⟩), .pointer (some ⟨bg, 0, none⟩), .pointer (some ⟨ai, 0, none⟩)]]) 316) :: ((ai, ce #[.slice ca cb cc] 310) :: ((bc, .map az bl) :: (au ++ (ah ++ []))))) ∧ e1.sub [(1, .pointer (some ⟨b1, 0, none⟩)), (6, .pointer (some ⟨ai, 0, none⟩)), (8, .pointer (some ⟨bj, 0, none⟩)), (21, .int .i64 (Aw.length : Int)), (22, .int .i64 k), (42, .slice fi fj fk), (43, .int .i64 (ct.length : Int)), (44, .int .i64 k3)] ∧ A6 0 315 26 (Cd (iE .i64) (Cd (JA 24 cB) (Cn 1 (iE .i64)))) F1 ca cb cc bm au ∧ Jw HH (vA (cP (cI .i64) (cA cB))) Value.bool az m3) _ (m0 (kc (kc (kc (kg (fS fP) kr)))) ⟨_, _, rfl, BP.start _, cv, m, mw, mx, my, fm, fo, ig, nw, AZ.refl _, rfl, z8, nu, nv⟩) ?_
     rintro pj e1 ny _ ⟨pk, k3, ji, ej, bm, m3, ca, cb, cc, au, az, bl, fy, aj, rfl, jj, df, jk⟩
     refine AA _ jj ?_
     replace ab := ab.mono (Az (Az (Ad _))) aj
     replace aa := aa.mono (Ad _) aj
     replace ad := ad.mono (AD (Ad _) (AD (Ad _) (Ad _))) aj
     replace ax := ax.mono (AD (Ad _) (AD (Ca (n := 24) (sz := 1) Bi) (Az (Ad _)))) aj
     replace ae := aj _ _ ae
     replace af := aj _ _ af
     replace cy := aj _ _ cy
     replace cz := aj _ _ cz
     replace da := aj _ _ da
     refine AO (uv (Bg rfl rfl) ?_)
     refine Aa (Ao ?_)
     refine cQ (fun ga => ?_) fun ga => ?_
     ·obtain ⟨x3, se, rfl, jl, jm, jn⟩ := BP.succ ej ga
      rw [EA] at fy
      refine An ?_
      obtain ⟨db, m4, nz, jo⟩ := DA fy
      refine AV (fun e1 F1 L1 => ∃ (gb : Option Addr) (gg : Nat) (gh : Nat) (dg : LH) (dh : Array MapEntry) (eo : Nat), AZ ny F1 ∧ L1 = ((bj, ce (#[.func (.func 174) #[] #[.pointer (some ⟨bp, 0, none⟩), .pointer (some ⟨bk, 0, none⟩), .pointer (some ⟨b1, 0, none⟩), .pointer (some ⟨bg, 0, none⟩), .pointer (some ⟨ai, 0, none⟩)]]) 316) :: ((ai, ce #[.slice gb gg gh] 310) :: ((bc, .map dh eo) :: (dg ++ (ah ++ []))))) ∧ e1.sub [(1, .pointer (some ⟨b1, 0, none⟩)), (6, .pointer (some ⟨ai, 0, none⟩)), (8, .pointer (some ⟨bj, 0, none⟩)), (21, .int .i64 (Aw.length : Int)), (22, .int .i64 k), (42, .slice fi fj fk), (43, .int .i64 (ct.length : Int)), (44, .int .i64 k3)] ∧ A6 0 315 26 (Cd (iE .i64) (Cd (JA 24 cB) (Cn 1 (iE .i64)))) F1 gb gg gh db dg ∧ Jw HH (vA (cP (cI .i64) (cA cB))) Value.bool dh m4) ?_ ?_
      ·clear jo
       refine Am (AO ?_)
       obtain ⟨qy, qz, re, pn, jq, jr, er, ⟨_, _, rfl, rfl, ⟨_, _, rfl, ⟨rfl, bn⟩, ⟨dp, dq, rfl, et⟩⟩⟩, js, jt⟩ := A6.at (AD (Ad _) (AD (Ca (n := 24) (sz := 1) Bi) (Az (Ad _)))) ax (L := (bj, ce (#[.func (.func 174) #[] #[.pointer (some ⟨bp, 0, none⟩), .pointer (some ⟨bk, 0, none⟩), .pointer (some ⟨b1, 0, none⟩), .pointer (some ⟨bg, 0, none⟩), .pointer (some ⟨ai, 0, none⟩)]]) 316) :: ((ai, ce #[.slice ca cb cc] 310) :: ((bc, .map az bl) :: (au ++ (ah ++ []))))) (fC (fC (fC (fS fP)))) jm.1 jl
       refine uv (AN underlying310 sizeOf315 rfl jq rfl (A6.idx ax jm)) (uv (AL (cs := (([.int .i64 x3.1] : List Value) ++ (x3.2.1.flatMap cB ++ (([.slice dp x3.2.2.length dq] : List Value)))).toArray) isAgg315 sizeOf315 rfl jr er (By er js jt)) ?_)
       refine Bj rfl zeroValue315 ?_; intro dr po
       refine AK (L' := (dr, ce ((([.int .i64 0] : List Value) ++ ((List.replicate 24 false).flatMap cB ++ (([.slice none 0 0] : List Value)))).toArray) 315) :: ((bj, ce (#[.func (.func 174) #[] #[.pointer (some ⟨bp, 0, none⟩), .pointer (some ⟨bk, 0, none⟩), .pointer (some ⟨b1, 0, none⟩), .pointer (some ⟨bg, 0, none⟩), .pointer (some ⟨ai, 0, none⟩)]]) 316) :: ((ai, ce #[.slice ca cb cc] 310) :: ((bc, .map az bl) :: (au ++ (ah ++ [])))))) rfl (Hl (i := 0) sizeOf315 rfl rfl rfl (lz (la rfl (la (FV Bi List.length_replicate) rfl))) (lz (la rfl (la (FV Bi bn) rfl))) (OT (by simp [Value.oneCell']) (OT (J4 Bi _) (by simp [Value.oneCell']))) (AK (L' := (dr, ce ((([.int .i64 x3.1] : List Value) ++ (x3.2.1.flatMap cB ++ (([.slice dp x3.2.2.length dq] : List Value)))).toArray) 315) :: ((bj, ce (#[.func (.func 174) #[] #[.pointer (some ⟨bp, 0, none⟩), .pointer (some ⟨bk, 0, none⟩), .pointer (some ⟨b1, 0, none⟩), .pointer (some ⟨bg, 0, none⟩), .pointer (some ⟨ai, 0, none⟩)]]) 316) :: ((ai, ce #[.slice ca cb cc] 310) :: ((bc, .map az bl) :: (au ++ (ah ++ [])))))) rfl (Cj (uv (Ab Ob rfl) (uv (Ab XO rfl) (uv (Aj isAgg3 rfl (Has.own 0 rfl) (Fs (BV rfl))) ?_))))))
       obtain ⟨y, o7, o8⟩ := AI nz
       refine c0 call175 (Rn o7) ?_; rintro _ rf _ ak pq ⟨ju, rfl, rfl, ik⟩
       replace ab := ab.mono (Az (Az (Ad _))) ak
       replace aa := aa.mono (Ad _) ak
       replace ad := ad.mono (AD (Ad _) (AD (Ad _) (Ad _))) ak
       replace et := et.mono (Ad _) ak
       replace df := df.mono (AD (Ad _) (AD (Ca (n := 24) (sz := 1) Bi) (Az (Ad _)))) ak
       replace ae := ak _ _ ae
       replace af := ak _ _ af
       replace cy := ak _ _ cy
       replace cz := ak _ _ cz
       replace da := ak _ _ da
       refine AK (ln rfl) (Aa (Am ?_))
       refine I8 (encs := (fun x : Int => #[.int .i64 x])) (xs := y) rfl call220 rfl (fun _ => rfl) ik (fun pre F1 L1 => ∃ (iv : List Int) (al : List (Int × (List Bool) × (List Int))) (m5 : List ((Int × (List Bool)) × Bool)) (cf : Option Addr) (cg : Nat) (cj : Nat) (av : LH) (aw : Array MapEntry) (ba : Nat), y = pre ++ iv ∧ Ev Ae Ac Ak Aw A1 k x3 iv al m5 = some (db, m4) ∧ L1 = ((dr, ce ((([.int .i64 x3.1] : List Value) ++ (x3.2.1.flatMap cB ++ (([.slice dp x3.2.2.length dq] : List Value)))).toArray) 315) :: ((bj, ce (#[.func (.func 174) #[] #[.pointer (some ⟨bp, 0, none⟩), .pointer (some ⟨bk, 0, none⟩), .pointer (some ⟨b1, 0, none⟩), .pointer (some ⟨bg, 0, none⟩), .pointer (some ⟨ai, 0, none⟩)]]) 316) :: ((ai, ce #[.slice cf cg cj] 310) :: ((bc, .map aw ba) :: (av ++ (ah ++ [])))))) ∧ A6 0 315 26 (Cd (iE .i64) (Cd (JA 24 cB) (Cn 1 (iE .i64)))) F1 cf cg cj al av ∧ Jw HH (vA (cP (cI .i64) (cA cB))) Value.bool aw m5) (fun _ _ _ => False) ?_ ?_ ?_ ?_ ?_ ?_
       ·rintro pre F1 F2 L1 ⟨iv, al, m5, cf, cg, cj, av, aw, ba, cn, o9, rfl, cp, cq⟩ hx; exact ⟨iv, al, m5, cf, cg, cj, av, aw, ba, cn, o9, rfl, cp.mono (AD (Ad _) (AD (Ca (n := 24) (sz := 1) Bi) (Az (Ad _)))) hx, cq⟩
       ·intro c F1 F2 L1 h hx; exact h
       ·exact ⟨_, bm, m3, ca, cb, cc, au, az, bl, rfl, o8, rfl, df, jk⟩
       ·rintro rh pr pt pv pw px oc py pre x4 sf eu od _ aq ⟨iv, al, m5, cf, cg, cj, av, aw, ba, cn, jv, rfl, cp, cq⟩
        obtain rfl := MC cn eu
        rw [Ev] at jv
        replace ab := ab.mono (Az (Az (Ad _))) aq
        replace aa := aa.mono (Ad _) aq
        replace ad := ad.mono (AD (Ad _) (AD (Ad _) (Ad _))) aq
        replace et := et.mono (Ad _) aq
        replace ae := aq _ _ ae
        replace af := aq _ _ af
        replace cy := aq _ _ cy
        replace cz := aq _ _ cz
        replace da := aq _ _ da
        refine AA [(1, .pointer (some ⟨b1, 0, none⟩)), (6, .pointer (some ⟨ai, 0, none⟩)), (8, .pointer (some ⟨bj, 0, none⟩)), (11, .pointer (some ⟨dr, 0, none⟩)), (21, .int .i64 (Aw.length : Int)), (22, .int .i64 k), (42, .slice fi fj fk), (43, .int .i64 (ct.length : Int)), (44, .int .i64 k3), (51, .func (.func 220) #[] ju), (52, .int .i64 x4)] (by exact (sc rfl (sc rfl (sc rfl z8)))) ?_
        refine Ai (ua (Aa ?_))
        refine ⟨rfl, ?_⟩
        refine Am (Ai (uv (Aj isAgg316 rfl (Has.own 1 rfl) rfl) (uv (AL (cs := (([.int .i64 x3.1] : List Value) ++ (x3.2.1.flatMap cB ++ (([.slice dp x3.2.2.length dq] : List Value)))).toArray) isAgg315 sizeOf315 rfl (Has.own 0 rfl) (Hm (Ku rfl (BV rfl) (Ku (FV Bi bn) (AE (A := ([.int .i64 x3.1] : List Value)) (k := 1) (o := 0) rfl (BV (FV Bi bn))) (AE (A := ([.int .i64 x3.1] : List Value)) (k := 1) (o := 24) rfl (AE (A := x3.2.1.flatMap cB) (k := 24) (o := 0) (FV Bi bn) (Em rfl)))))) (Js (la rfl (la (FV Bi bn) rfl)) (Ku rfl (BV rfl) (Ku (FV Bi bn) (AE (A := ([.int .i64 x3.1] : List Value)) (k := 1) (o := 0) rfl (BV (FV Bi bn))) (AE (A := ([.int .i64 x3.1] : List Value)) (k := 1) (o := 24) rfl (AE (A := x3.2.1.flatMap cB) (k := 24) (o := 0) (FV Bi bn) (Em rfl))))))) (um ?_))))
        have jw : IQ Tryz.prog od 173 #[.agg #[.int .i64 Ae, .int .i64 Ac, .slice As Ak.length At, .slice AX Aw.length AW, .slice Bp A1.length Bq]] #[] (Cd (iE .i64) (iE .i64)) Value.bool (fun dz : Int × Int => GU Ae Ac Ak Aw A1 dz.1 dz.2) := ⟨call173, fun F2 h2 vs dz r ha hr => by obtain ⟨_, _, rfl, rfl, rfl⟩ := ha; exact LM (ab.mono (Az (Az (Ad _))) h2) (aa.mono (Ad _) h2) (ad.mono (AD (Ad _) (AD (Ad _) (Ad _))) h2) hr⟩
        obtain ⟨x5, gi, oe, og⟩ := DA jv
        refine GJ (Lb := (bc, .map aw ba) :: ((ai, ce #[.slice cf cg cj] 310) :: (av ++ []))) (Lr := (dr, ce ((([.int .i64 x3.1] : List Value) ++ (x3.2.1.flatMap cB ++ (([.slice dp x3.2.2.length dq] : List Value)))).toArray) 315) :: ((bj, ce (#[.func (.func 174) #[] #[.pointer (some ⟨bp, 0, none⟩), .pointer (some ⟨bk, 0, none⟩), .pointer (some ⟨b1, 0, none⟩), .pointer (some ⟨bg, 0, none⟩), .pointer (some ⟨ai, 0, none⟩)]]) 316) :: (ah ++ []))) rfl call174 rfl rfl rfl (pT ((fC (fC (fC fO))).trans (pC ((fC (fC fO)).trans (pC ((fC (fC fP)).trans (pA pR)))))) (lb (lb (lp (ln rfl))))) (IS bn et cy jw cz af ae ab aa ad da cq cp oe) ?_; rintro _ ri _ pz q0 qb ⟨gu, gv, jx, jz, kb, gw, rfl, rfl, kh, kj⟩
        refine AK (lb (lb (lp (ln rfl)))) (kO (kc (kc (kf (fS fO) (kf (fS fO) kr)))) ?_)
        refine Aa (Au (id := 7) ?_)
        refine ⟨(dr, ce ((([.int .i64 x3.1] : List Value) ++ (x3.2.1.flatMap cB ++ (([.slice dp x3.2.2.length dq] : List Value)))).toArray) 315) :: ((bj, ce (#[.func (.func 174) #[] #[.pointer (some ⟨bp, 0, none⟩), .pointer (some ⟨bk, 0, none⟩), .pointer (some ⟨b1, 0, none⟩), .pointer (some ⟨bg, 0, none⟩), .pointer (some ⟨ai, 0, none⟩)]]) 316) :: ((ai, ce #[.slice jx jz kb] 310) :: ((bc, .map gu gv) :: (gw ++ (ah ++ []))))), (show KL _ _ from kf (fC (fC fO)) (kf (fC (fC fO)) (kf (fC fO) kr))), ?_⟩; exact ⟨_, gi, x5, jx, jz, kb, gw, gu, gv, (by rw [eu]; simp), og, rfl, kj, kh⟩
       ·rintro rj _ kl ⟨iv, al, m5, cf, cg, cj, av, aw, ba, cn, km, rfl, cp, cq⟩
        obtain rfl := Oe cn; rw [Ev] at km
        refine Au (id := 6) (Au (id := 5) ?_)
        obtain ⟨rfl, rfl⟩ := DH km
        exact mi (kd kr) ⟨cf, cg, cj, av, aw, ba, (ak.trans kl), rfl, z8, cp, cq⟩
       intro c F1 L1 hx h; exact h.elim
      rintro e1 rk _ ⟨gb, gg, gh, dg, dh, eo, gz, rfl, ko, kt, ku⟩
      refine AA _ ko ?_
      replace ax := ax.mono (AD (Ad _) (AD (Ca (n := 24) (sz := 1) Bi) (Az (Ad _)))) gz
      refine Ai (uv (Bd rfl rfl (BP.EP ej ga (A6.Xq ax))) ?_)
      refine um (Aa ?_)
      subst ji; exact le kr ⟨_, _, rfl, jn, db, m4, gb, gg, gh, dg, dh, eo, jo, (aj.trans gz), rfl, z8, kt, ku⟩
     obtain rfl := BP.zero ej ga
     rw [EA] at fy
     refine AQ (Af (Af ?_))
     refine Av ?_
     obtain rfl := AM fy
     exact mi (kd (kc (kd (ka kn)))) ⟨ca, cb, cc, au, aj, rfl, z4, df⟩
    rintro e1 rl _ ⟨fv, fw, fx, de, kv, rfl, kz, l0⟩
    refine AA _ kz (Ai (uv (Aj isAgg310 rfl (Has.own 0 rfl) rfl) ?_))
    refine ua (Aa (Au (id := 1) ?_))
    obtain rfl := AM jh
    exact mi (kd kr) ⟨fv, fw, fx, de, (ay.trans kv), rfl, z4, l0⟩
   rintro e1 rm _ ⟨mq, mr, mv, fl, ia, rfl, ld, oh⟩
   refine AA _ ld ?_
   replace aa := aa.mono (Ad _) ia
   refine Ai (uv (Bd rfl rfl (BP.EP ie mo (Ax.lt aa))) ?_)
   refine um (Aa ?_)
   subst na; refine lf ?_
   exact mf kr ⟨_, _, rfl, nf, iw, mq, mr, mv, fl, pc, (cu.trans ia), rfl, z4, oh⟩
  obtain rfl := BP.zero ie mo
  rw [ED] at ml
  refine AQ (Af (Af ?_))
  refine Av ?_
  obtain rfl := AM ml
  exact mi kr ⟨fi, fj, fk, ah, (dv.trans cu), rfl, z1, ax⟩
 rintro e1 lg _ ⟨a2, n6, c3, gm, qc, rfl, lh, gj⟩
 refine AA _ lh ?_
 refine AO (ua (Aa ?_))
 obtain ⟨out, oi, lj⟩ := AI r9
 refine AV (fun e1 F1 L1 => ∃ (il : Option Addr) (im : Nat) (iq : Nat) (ew : LH), AZ lg F1 ∧ L1 = (ew ++ []) ∧ e1.sub [(13, .slice il im iq)] ∧ A6 K.w0.heap.size 223 25 (Cd (JA 24 cB) (Cn 1 (iE .i64))) F1 il im iq out ew) ?_ ?_
 ·clear lj
  refine AO (um ?_)
  refine uv ((A3 underlying310 rfl).i (A6.Je gj)) ?_
  refine um (Aa ?_)
  refine Am ?_
  refine Bk (fun qd e1 F1 L1 => LA now qd fun qe k4 => ∃ (ey : List ((List Bool) × (List Int))) (fa : Option Addr) (fb : Nat) (fe : Nat) (ar : LH), D7 qe ey = some out ∧ AZ lg F1 ∧ L1 = (ar ++ (gm ++ [])) ∧ e1.sub [(13, .slice fa fb fe), (60, .slice a2 n6 c3), (61, .int .i64 (now.length : Int)), (62, .int .i64 k4)] ∧ A6 K.w0.heap.size 223 25 (Cd (JA 24 cB) (Cn 1 (iE .i64))) F1 fa fb fe ey ar) _ (m0 (ke kr) ⟨_, _, rfl, BP.start _, [], none, 0, 0, [], oi, AZ.refl _, rfl, z4, A6.nil _ _ _ _ _⟩) ?_
  rintro qd e1 rp _ ⟨qe, k4, ib, di, ey, fa, fb, fe, ar, gk, dk, rfl, lk, bb⟩
  refine AA _ lk ?_
  replace gj := gj.mono (AD (Ad _) (AD (Ca (n := 24) (sz := 1) Bi) (Az (Ad _)))) dk
  refine AO (uv (Bg rfl rfl) ?_)
  refine Aa (Ao ?_)
  refine cQ (fun ff => ?_) fun ff => ?_
  ·obtain ⟨x6, sg, rfl, ll, lq, ic⟩ := BP.succ di ff
   rw [D7] at gk
   refine An (Ao ?_)
   refine Am (AO ?_)
   obtain ⟨rq, rr, ru, qf, lr, lu, fg, ⟨_, _, rfl, rfl, ⟨_, _, rfl, ⟨rfl, bo⟩, ⟨dt, du, rfl, gl⟩⟩⟩, lv, lx⟩ := A6.at (AD (Ad _) (AD (Ca (n := 24) (sz := 1) Bi) (Az (Ad _)))) gj (L := ar ++ (gm ++ [])) (fS fP) lq.1 ll
   refine uv (AN underlying310 sizeOf315 rfl lr rfl (A6.idx gj lq)) (uv (AL (cs := (([.int .i64 x6.1] : List Value) ++ (x6.2.1.flatMap cB ++ (([.slice dt x6.2.2.length du] : List Value)))).toArray) isAgg315 sizeOf315 rfl lu fg (By fg lv lx)) ?_)
   refine Bj rfl zeroValue315 ?_; intro ir ly
   refine AK (L' := (ir, ce ((([.int .i64 0] : List Value) ++ ((List.replicate 24 false).flatMap cB ++ (([.slice none 0 0] : List Value)))).toArray) 315) :: (ar ++ (gm ++ []))) rfl (Hl (i := 0) sizeOf315 rfl rfl rfl (lz (la rfl (la (FV Bi List.length_replicate) rfl))) (lz (la rfl (la (FV Bi bo) rfl))) (OT (by simp [Value.oneCell']) (OT (J4 Bi _) (by simp [Value.oneCell']))) (AK (L' := (ir, ce ((([.int .i64 x6.1] : List Value) ++ (x6.2.1.flatMap cB ++ (([.slice dt x6.2.2.length du] : List Value)))).toArray) 315) :: (ar ++ (gm ++ []))) rfl ?_))
   refine Cj (um ?_)
   refine uv (C8 rfl rfl) ?_
   refine Bo 0 rfl ly ?_; intro oj cr fh
   refine AK rfl ?_
   replace gl := gl.mono (Ad _) cr
   replace gj := gj.mono (AD (Ad _) (AD (Ca (n := 24) (sz := 1) Bi) (Az (Ad _)))) cr
   replace bb := bb.mono (AD (Ca (n := 24) (sz := 1) Bi) (Az (Ad _))) cr
   have ma : IQ Tryz.prog oj 177 #[] #[.pointer (some ⟨ir, 0, none⟩)] (XE (Cd (JA 24 cB) (Cn 1 (iE .i64)))) Value.bool (fun dz : ((List Bool) × (List Int)) => FX dz.1 dz.2 x6.1 x6.2.1 x6.2.2) := ⟨call177, fun F2 h2 vs dz r ha hr => by obtain ⟨_, rfl, ⟨_, _, rfl, ⟨rfl, oo⟩, ⟨ry, rz, rfl, oq⟩⟩⟩ := ha; exact LS oo oq (h2 _ _ fh) bo (gl.mono (Ad _) h2) hr⟩
   obtain ⟨ok, ot, mb⟩ := AI gk
   refine Ks (Lt := ar ++ []) (Lr := gm ++ []) rfl call176 rfl rfl rfl (pT pR (lp (ln rfl))) (fun F2 h2 h3 => by rw [(A6.D9 bb).1]; exact FT (bb.row (AD (Ca (n := 24) (sz := 1) Bi) (Az (Ad _))) h2 (fun p hp => h3 p (List.mem_append_left _ hp))) (ma.mono h2) ot) ?_
   refine uv (Cc rfl) (Aa ?_)
   refine AY rfl (fun iu => ?_) (fun iu => ?_)
   ·have ou := bt mb iu
    refine Ai (um ?_)
    refine uv (Ab Ob rfl) (uv (Ab Qv rfl) (uv (AL (cs := arr cB x6.2.1) isAgg221 sizeOf221 rfl (Has.frozen fh) (Hm (AE (A := ([.int .i64 x6.1] : List Value)) (k := 1) (o := 0) rfl (BV (FV Bi bo)))) (Js (FV Bi bo) (AE (A := ([.int .i64 x6.1] : List Value)) (k := 1) (o := 0) rfl (BV (FV Bi bo))))) (uv (Ab Tu rfl) (uv (Aj isAgg33 rfl (Has.frozen fh) (Fs (AE (A := ([.int .i64 x6.1] : List Value)) (k := 1) (o := 24) rfl (AE (A := x6.2.1.flatMap cB) (k := 24) (o := 0) (FV Bi bo) (Em rfl))))) ?_))))
    refine uv (Bx (v := .agg ((x6.2.1.flatMap cB ++ (([.slice dt x6.2.2.length du] : List Value))).toArray)) rfl (by intro w; have ow := bo; revert ow; generalize x6.2.1 = zq_; intro ow; obtain ⟨a0, a1, a2, a3, a4, a5, a6, a7, a8, a9, sh, si, sj, fi, sk, sq, ss, su, sv, sw, sx, sy, ta, tc, rfl⟩ := Mr ow; show _ = _; kernel_rfl)) ?_
    refine HC (cs := (x6.2.1.flatMap cB ++ (([.slice dt x6.2.2.length du] : List Value))).toArray) rfl rfl (Mc VF (.agg (x6.2.1.flatMap cB ++ (([.slice dt x6.2.2.length du] : List Value))).toArray) (lz (la (FV Bi bo) rfl)) (by decide)) ?_; intro s6 qg
    obtain ⟨mc, oy, oz, p0⟩ := Hv ou
    refine Fg (xs := ey) (ys := [(x6.2.1, x6.2.2)]) (zs := mc) rfl VF rfl rfl (Nat.le_refl _) (fun _ => .c .h) bb (HE.box (vss := [(x6.2.1.flatMap cB ++ (([.slice dt x6.2.2.length du] : List Value)))]) (ys := [(x6.2.1, x6.2.2)]) 0 rfl (AD (Ca (n := 24) (sz := 1) Bi) (Az (Ad _))) (.cons ⟨_, _, rfl, ⟨rfl, bo⟩, ⟨_, _, rfl, gl⟩⟩ .nil) (by simp) rfl) oy oz (by decide) ?_; intro p6 p7 p8 me mg
    refine kO (kd kr) ?_
    refine ua (Aa (Au (id := 9) (Ai ?_)))
    refine uv (Bd rfl rfl (BP.EP di ff (A6.Xq gj))) ?_
    refine um (Aa ?_)
    subst ib; exact le kr ⟨_, _, rfl, ic, mc, p6, p7, p8, me, p0, (dk.trans cr), rfl, z4, mg⟩
   have p9 := bf mb iu
   refine An (Au (id := 9) (Ai ?_))
   refine uv (Bd rfl rfl (BP.EP di ff (A6.Xq gj))) ?_
   refine um (Aa ?_)
   subst ib; exact le kr ⟨_, _, rfl, ic, ey, fa, fb, fe, ar, p9, (dk.trans cr), rfl, z4, bb⟩
  obtain rfl := BP.zero di ff
  rw [D7] at gk
  refine AQ (Af (Af ?_))
  refine Av ?_
  obtain rfl := AM gk
  exact mi (ka kn) ⟨fa, fb, fe, ar, dk, rfl, z1, bb⟩
 rintro e1 s7 _ ⟨il, im, iq, ew, qh, rfl, mh, mj⟩
 refine AA _ mh ?_
 refine AO (um (ua (Aa (Al ?_))))
 refine Cq results109 ?_
 obtain rfl := AM lj
 exact ⟨_, _, _, _, rfl, rfl, mj.any⟩
theorem HB {r : Bool} (hr : Iw n lo hi = some r) :
    Bw Tryz.prog 159 #[.int .i64 n, .int .i64 lo, .int .i64 hi] F (.bool r) := by
 refine sp func159 ntmps159 fun K _ _ => ?_
 rw [Iw] at hr
 refine AO (ua (Cj (um (um ?_))))
 refine uv (Hn rfl rfl) (um ?_)
 by_cases c1 : lo ≤ n
 ·have r2 := A8 hr c1
  refine nT c1 (um (nT c1 (um (nT c1 ?_))))
  refine uv (LG rfl rfl) (uv (AP (Bf rfl c1) rfl) ?_)
  refine ua (Aa (Al ?_))
  refine Cq results159 ?_
  obtain rfl := AM r2
  exact rfl
 have r3 := A9 hr c1
 refine fF c1 (fF c1 (fF c1 ?_))
 refine uv (AB (AU rfl c1) rfl) ?_
 refine ua (Aa (Al ?_))
 refine Cq results159 ?_
 obtain rfl := AM r3
 exact rfl
theorem Oi {Ac : Int} {Ak : List (List (List Int))} (_h_hears : Ax 1 (Cn 1 (Cn 1 (iE .i64))) F As At Ak) (_h_readings : Ax 1 (iE .i64) F AX AW Aw) (_h_cries : Ax 3 (Cd (iE .i64) (Cd (iE .i64) (iE .i64))) F Bp Bq A1) {r : Bool} (hr : Jl Ae Ac Ak Aw A1 h = some r) :
    Bw Tryz.prog 171 #[.agg #[.int .i64 Ae, .int .i64 Ac, .slice As Ak.length At, .slice AX Aw.length AW, .slice Bp A1.length Bq], .int .i64 h] F (.bool r) := by
 refine sp func171 ntmps171 fun K _ _ => ?_
 rw [Jl] at hr
 refine AO ?_
 refine BH rfl rfl ?_; intro b1 aa
 refine ua (Cj (um ?_))
 refine uv (Ab QA rfl) (uv (Aj isAgg3 rfl (Has.own 0 rfl) rfl) ?_)
 obtain ⟨g2, r3⟩ := A2 hr
 refine uv (Gl rfl rfl g2) ?_
 obtain ⟨ok, h4, r5⟩ := AI r3
 refine cV call159 (HB h4) ?_
 refine ua (Aa ?_)
 refine kW kn (Al (Cq results171 ?_))
 obtain rfl := AM r5
 exact rfl
set_option maxHeartbeats 1000000 in
theorem Nd {Ac : Int} {Ak : List (List (List Int))} {l : List Int} (ab : Ax 1 (Cn 1 (Cn 1 (iE .i64))) F As At Ak) (aa : Ax 1 (iE .i64) F AX AW Aw) (ad : Ax 3 (Cd (iE .i64) (Cd (iE .i64) (iE .i64))) F Bp Bq A1) (af : Ax 1 (iE .i64) F Oz N5 l) {r : Int} (hr : I4 Ae Ac Ak Aw A1 l = some r) :
    Bw Tryz.prog 103 #[.agg #[.int .i64 Ae, .int .i64 Ac, .slice As Ak.length At, .slice AX Aw.length AW, .slice Bp A1.length Bq], .slice Oz l.length N5] F (.int .i64 r) := by
 refine sp func103 ntmps103 fun K _ _ => ?_
 rw [I4] at hr
 refine AO ?_
 refine BH rfl rfl ?_; intro b1 ca
 refine ua (Aa ?_)
 refine AV (fun e1 F1 L1 => HK = some r ∧ F = F1 ∧ L1 = [] ∧ e1.sub []) ?_ ?_
 ·refine AO (um ?_)
  refine uv (A3 underlying33 rfl) ?_
  refine um (Aa ?_)
  refine Am ?_
  refine Bk (fun ar e1 F1 L1 => LA l ar fun tl k => EU Ae Ac Ak Aw A1 l tl k = some r ∧ F = F1 ∧ L1 = [(b1, ce #[.int .i64 Ae, .int .i64 Ac, .slice As Ak.length At, .slice AX Aw.length AW, .slice Bp A1.length Bq] 100)] ∧ e1.sub [(1, .slice Oz l.length N5), (2, .pointer (some ⟨b1, 0, none⟩)), (7, .slice Oz l.length N5), (8, .int .i64 (l.length : Int)), (9, .int .i64 k)]) _ (m0 kr ⟨_, _, rfl, BP.start _, hr, rfl, rfl, z5⟩) ?_
  rintro ar e1 _ _ ⟨tl, k, az, ah, r4, rfl, rfl, ba⟩
  refine AA _ ba (AO (uv (Bg rfl rfl) ?_))
  refine Aa (Ao ?_)
  refine cQ (fun c7 => ?_) fun c7 => ?_
  ·obtain ⟨x, cb, rfl, bb, au, bc⟩ := BP.succ ah c7
   rw [EU] at r4
   refine An (Ao ?_)
   refine Am ?_
   refine AO (um ?_)
   obtain ⟨QM, cc, cf, bg, ai, aj, av, rfl, bj, ak⟩ := Ax.at (Ad _) af ([(b1, ce #[.int .i64 Ae, .int .i64 Ac, .slice As Ak.length At, .slice AX Aw.length AW, .slice Bp A1.length Bq] 100)]) au.1 bb
   refine uv (AN underlying33 sizeOf3 rfl ai rfl au) (uv (Aj isAgg3 rfl aj (ak 0 (by decide))) ?_)
   refine ua (ua (Aa (Ao (AO ?_))))
   refine uv (AL isAgg100 sizeOf100 rfl (Has.own 0 rfl) (Ce rfl) rfl) (um ?_)
   obtain ⟨ok, bk, aw⟩ := AI r4
   refine cV call171 (Oi ab aa ad bk) (uv (Cc rfl) (Aa ?_))
   refine AY rfl (fun al => ?_) (fun al => ?_)
   ·have bl := bt aw al
    refine AO (ua (Aa ?_))
    refine kW kn ?_
    refine Al (Ah (Ay (Ah (Ah (Ay (Ah ?_))))))
    refine Cq results103 ?_
    obtain rfl := AM bl
    exact rfl
   have bm := bf aw al
   refine An (AO (um (um ?_)))
   obtain ⟨bn, bo⟩ := A2 bm
   obtain ⟨l2, bp, bq⟩ := DK bo
   obtain ⟨cg, cj, br, ae⟩ := Ax.slice (Ad _) af bn bp
   refine uv ((MM (l := 0) (h := k) underlying33 sizeOf3 rfl (.inl ⟨rfl, rfl⟩) (.inr ⟨_, rfl, rfl⟩) ae.1).eq ae.2) (um ?_)
   obtain ⟨cn, bu, ax⟩ := AI bq
   refine cV call18 (Cv br bu) (Aa ?_)
   refine AY rfl (fun ao => ?_) (fun ao => ?_)
   ·have bx := bt ax ao
    refine AO (ua (Aa ?_))
    refine kW kn ?_
    refine Al (Ay (Ah (Ah (Ay (Ah ?_)))))
    refine Cq results103 ?_
    obtain rfl := AM bx
    exact rfl
   have bz := bf ax ao
   refine An (Au (id := 1) (Ai ?_))
   refine uv (Bd rfl rfl (BP.EP ah c7 (Ax.lt af))) ?_
   refine um (Aa ?_)
   subst az; exact le kr ⟨_, _, rfl, bc, bz, rfl, rfl, z5⟩
  obtain rfl := BP.zero ah c7
  rw [EU] at r4
  refine AQ (Af (Af ?_))
  refine Av ?_
  exact mi kn ⟨r4, rfl, rfl, (sn _)⟩
 rintro e1 _ _ ⟨ay, rfl, rfl, aq⟩
 refine AA _ aq ?_
 rw [HK] at ay
 refine AO (ua (Aa (Al ?_)))
 refine Cq results103 ?_
 obtain rfl := AM ay
 exact rfl
set_option maxHeartbeats 1000000 in
theorem JL {s_ : List Int} {f : Int → Option Bool} (aa : Ax 1 (iE .i64) F B5 B0 s_) (aj : IQ Tryz.prog F Mk Mz Md (iE .i64) Value.bool f) {r : Int} (hr : Fu s_ f = some r) :
    Bw Tryz.prog 79 #[.slice B5 s_.length B0, .func (.func Mk) Mz Md] F (.int .i64 r) := by
 refine sp func79 ntmps79 fun K _ _ => ?_
 rw [Fu] at hr
 refine AO (ua (Aa ?_))
 refine AV (fun e1 F1 L1 => EN = some r ∧ F = F1 ∧ L1 = [] ∧ e1.sub []) ?_ ?_
 ·refine AO (um ?_)
  refine uv (A3 underlying33 rfl) ?_
  refine um (Aa ?_)
  refine Am ?_
  refine Bk (fun ak e1 F1 L1 => LA s_ ak fun tl k => Db f tl k = some r ∧ F = F1 ∧ L1 = [] ∧ e1.sub [(0, .slice B5 s_.length B0), (1, .func (.func Mk) Mz Md), (7, .int .i64 (s_.length : Int)), (8, .int .i64 k)]) _ (m0 kr ⟨_, _, rfl, BP.start _, hr, rfl, rfl, z4⟩) ?_
  rintro ak e1 _ _ ⟨tl, k, ar, ab, r3, rfl, rfl, au⟩
  refine AA _ au (AO (uv (Bg rfl rfl) ?_))
  refine Aa (Ao ?_)
  refine cQ (fun c6 => ?_) fun c6 => ?_
  ·obtain ⟨x, bc, rfl, av, g9, aw⟩ := BP.succ ab c6
   rw [Db] at r3
   refine An (Ao ?_)
   refine Am ?_
   refine AO (um (ua (Cj (um (um (um ?_))))))
   obtain ⟨H5, bg, bj, ax, ad, ae, al, rfl, ay, af⟩ := Ax.at (Ad _) aa ([]) g9.1 av
   refine uv (AN underlying33 sizeOf3 rfl ad rfl g9) (uv (Aj isAgg3 rfl ae (af 0 (by decide))) ?_)
   obtain ⟨ok, az, ao⟩ := AI r3
   refine FI rfl aj.1 rfl rfl rfl (aj.2 _ (AZ.refl _) _ _ _ rfl az) (Aa ?_)
   refine AY rfl (fun ah => ?_) (fun ah => ?_)
   ·have ba := bt ao ah
    refine AO (um (ua (Aa (Al (Ay (Ah (Ah (Ay (Ah ?_)))))))))
    refine Cq results79 ?_
    obtain rfl := AM ba
    exact rfl
   have bb := bf ao ah
   refine An (Au (id := 1) (Ai ?_))
   refine uv (Bd rfl rfl (BP.EP ab c6 (Ax.lt aa))) ?_
   refine um (Aa ?_)
   subst ar; exact le kr ⟨_, _, rfl, aw, bb, rfl, rfl, z4⟩
  obtain rfl := BP.zero ab c6
  rw [Db] at r3
  refine AQ (Af (Af ?_))
  refine Av ?_
  exact mi kr ⟨r3, rfl, rfl, (sn _)⟩
 rintro e1 _ _ ⟨aq, rfl, rfl, ai⟩
 refine AA _ ai ?_
 rw [EN] at aq
 refine AO (ua (Aa (Al ?_)))
 refine Cq results79 ?_
 obtain rfl := AM aq
 exact rfl
theorem I0 {s_ : List Int} {f : Int → Option Bool} (aa : Ax 1 (iE .i64) F B5 B0 s_) (ab : IQ Tryz.prog F Mk Mz Md (iE .i64) Value.bool f) {r : Bool} (hr : ER s_ f = some r) :
    Bw Tryz.prog 26 #[.slice B5 s_.length B0, .func (.func Mk) Mz Md] F (.bool r) := by
 refine sp func26 ntmps26 fun K _ _ => ?_
 rw [ER] at hr
 refine AO (ua (Cj (um (um ?_))))
 obtain ⟨n, h1, r2⟩ := AI hr
 refine cV call79 (JL aa ab h1) (uv (Hn rfl rfl) ?_)
 refine ua (Aa (Al ?_))
 refine Cq results26 ?_
 obtain rfl := AM r2
 exact rfl
theorem Nh {x : Int} {so : Int → Option Bool} (aa : F QH = some (.cells #[.func (.func Kw) KF Kx] 89 RI)) (ab : IQ Tryz.prog F Kw KF Kx (iE .i64) Value.bool so) {r : Bool} (hr : HD x so = some r) :
    Bw Tryz.prog 172 #[.int .i64 x, .pointer (some ⟨QH, 0, none⟩)] F (.bool r) := by
 refine sp func172 ntmps172 fun K _ _ => ?_
 rw [HD] at hr
 refine AO (ua (Cj ?_))
 refine uv (Aj isAgg89 rfl (Has.frozen aa) rfl) (um ?_)
 obtain ⟨ok, h1, r2⟩ := AI hr
 refine FI rfl ab.1 rfl rfl rfl (ab.2 _ (AZ.refl _) _ _ _ rfl h1) (uv (Cc rfl) ?_)
 refine ua (Aa (Al ?_))
 refine Cq results172 ?_
 obtain rfl := AM r2
 exact rfl
theorem OQ {l : List Int} {so : Int → Option Bool} (ab : Ax 1 (iE .i64) F Oz N5 l) (aa : IQ Tryz.prog F Kw KF Kx (iE .i64) Value.bool so) {r : Bool} (hr : J1 l so = some r) :
    Bw Tryz.prog 107 #[.slice Oz l.length N5, .func (.func Kw) KF Kx] F (.bool r) := by
 refine sp func107 ntmps107 fun K _ _ => ?_
 rw [J1] at hr
 refine AO ?_
 refine BH rfl rfl ?_; intro b1 af
 refine ua (Cj (um ?_))
 refine uv (C8 rfl rfl) ?_
 refine Bo 0 rfl af ?_; intro F2 ad ah
 refine AK rfl ?_
 replace ab := ab.mono (Ad _) ad
 replace aa := aa.mono ad
 have ai : IQ Tryz.prog F2 172 #[] #[.pointer (some ⟨b1, 0, none⟩)] (iE .i64) Value.bool (fun ae : Int => HD ae so) := ⟨call172, fun F2 h2 vs ae r ha hr => by obtain rfl := ha; exact Nh (h2 _ _ ah) (aa.mono h2) hr⟩
 obtain ⟨ok, h6, r7⟩ := AI hr
 refine cV call26 (I0 ab ai h6) (uv (Cc rfl) ?_)
 refine ua (Aa (Al ?_))
 refine Cq results107 ?_
 obtain rfl := AM r7
 exact rfl
set_option maxHeartbeats 1000000 in
theorem Ju {s_ : List (List (List Int))} {f : (List (List Int)) → Option Bool} (aa : Ax 1 (Cn 1 (Cn 1 (iE .i64))) F B5 B0 s_) (aj : IQ Tryz.prog F Mk Mz Md (Cn 1 (Cn 1 (iE .i64))) Value.bool f) {r : Int} (hr : Fj s_ f = some r) :
    Bw Tryz.prog 273 #[.slice B5 s_.length B0, .func (.func Mk) Mz Md] F (.int .i64 r) := by
 refine sp func273 ntmps273 fun K _ _ => ?_
 rw [Fj] at hr
 refine AO (ua (Aa ?_))
 refine AV (fun e1 F1 L1 => Ex = some r ∧ F = F1 ∧ L1 = [] ∧ e1.sub []) ?_ ?_
 ·refine AO (um ?_)
  refine uv (A3 underlying97 rfl) ?_
  refine um (Aa ?_)
  refine Am ?_
  refine Bk (fun ak e1 F1 L1 => LA s_ ak fun tl k => C3 f tl k = some r ∧ F = F1 ∧ L1 = [] ∧ e1.sub [(0, .slice B5 s_.length B0), (1, .func (.func Mk) Mz Md), (7, .int .i64 (s_.length : Int)), (8, .int .i64 k)]) _ (m0 kr ⟨_, _, rfl, BP.start _, hr, rfl, rfl, z4⟩) ?_
  rintro ak e1 _ _ ⟨tl, k, ar, ab, r3, rfl, rfl, au⟩
  refine AA _ au (AO (uv (Bg rfl rfl) ?_))
  refine Aa (Ao ?_)
  refine cQ (fun c6 => ?_) fun c6 => ?_
  ·obtain ⟨x, bg, rfl, av, g9, aw⟩ := BP.succ ab c6
   rw [C3] at r3
   refine An (Ao ?_)
   refine Am ?_
   refine AO (um (ua (Cj (um (um (um ?_))))))
   obtain ⟨H5, bj, bk, ax, ad, ae, al, ⟨bl, bm, rfl, ay⟩, az, af⟩ := Ax.at (Az (Az (Ad _))) aa ([]) g9.1 av
   refine uv (AN underlying97 sizeOf36 rfl ad rfl g9) (uv (Aj isAgg36 rfl ae (af 0 (by decide))) ?_)
   obtain ⟨ok, ba, ao⟩ := AI r3
   refine FI rfl aj.1 rfl rfl rfl (aj.2 _ (AZ.refl _) _ _ _ ⟨_, _, rfl, ay⟩ ba) (Aa ?_)
   refine AY rfl (fun ah => ?_) (fun ah => ?_)
   ·have bb := bt ao ah
    refine AO (um (ua (Aa (Al (Ay (Ah (Ah (Ay (Ah ?_)))))))))
    refine Cq results273 ?_
    obtain rfl := AM bb
    exact rfl
   have bc := bf ao ah
   refine An (Au (id := 1) (Ai ?_))
   refine uv (Bd rfl rfl (BP.EP ab c6 (Ax.lt aa))) ?_
   refine um (Aa ?_)
   subst ar; exact le kr ⟨_, _, rfl, aw, bc, rfl, rfl, z4⟩
  obtain rfl := BP.zero ab c6
  rw [C3] at r3
  refine AQ (Af (Af ?_))
  refine Av ?_
  exact mi kr ⟨r3, rfl, rfl, (sn _)⟩
 rintro e1 _ _ ⟨aq, rfl, rfl, ai⟩
 refine AA _ ai ?_
 rw [Ex] at aq
 refine AO (ua (Aa (Al ?_)))
 refine Cq results273 ?_
 obtain rfl := AM aq
 exact rfl
theorem IM {s_ : List (List (List Int))} {f : (List (List Int)) → Option Bool} (aa : Ax 1 (Cn 1 (Cn 1 (iE .i64))) F B5 B0 s_) (ab : IQ Tryz.prog F Mk Mz Md (Cn 1 (Cn 1 (iE .i64))) Value.bool f) {r : Bool} (hr : EH s_ f = some r) :
    Bw Tryz.prog 245 #[.slice B5 s_.length B0, .func (.func Mk) Mz Md] F (.bool r) := by
 refine sp func245 ntmps245 fun K _ _ => ?_
 rw [EH] at hr
 refine AO (ua (Cj (um (um ?_))))
 obtain ⟨n, h1, r2⟩ := AI hr
 refine cV call273 (Ju aa ab h1) (uv (Hn rfl rfl) ?_)
 refine ua (Aa (Al ?_))
 refine Cq results245 ?_
 obtain rfl := AM r2
 exact rfl
theorem MW {ad : Option Addr} {ae : Nat} {x : List (List Int)} {so : (List (List Int)) → Option Bool} (af : Ax 1 (Cn 1 (iE .i64)) F ad ae x) (aa : F QH = some (.cells #[.func (.func Kw) KF Kx] 343 RI)) (ab : IQ Tryz.prog F Kw KF Kx (Cn 1 (Cn 1 (iE .i64))) Value.bool so) {r : Bool} (hr : G5 x so = some r) :
    Bw Tryz.prog 246 #[.slice ad x.length ae, .pointer (some ⟨QH, 0, none⟩)] F (.bool r) := by
 refine sp func246 ntmps246 fun K _ _ => ?_
 rw [G5] at hr
 refine AO (ua (Cj ?_))
 refine uv (Aj isAgg343 rfl (Has.frozen aa) rfl) (um ?_)
 obtain ⟨ok, h1, r2⟩ := AI hr
 refine FI rfl ab.1 rfl rfl rfl (ab.2 _ (AZ.refl _) _ _ _ ⟨_, _, rfl, af⟩ h1) (uv (Cc rfl) ?_)
 refine ua (Aa (Al ?_))
 refine Cq results246 ?_
 obtain rfl := AM r2
 exact rfl
theorem OA {l : List (List (List Int))} {so : (List (List Int)) → Option Bool} (ab : Ax 1 (Cn 1 (Cn 1 (iE .i64))) F Oz N5 l) (aa : IQ Tryz.prog F Kw KF Kx (Cn 1 (Cn 1 (iE .i64))) Value.bool so) {r : Bool} (hr : Jq l so = some r) :
    Bw Tryz.prog 215 #[.slice Oz l.length N5, .func (.func Kw) KF Kx] F (.bool r) := by
 refine sp func215 ntmps215 fun K _ _ => ?_
 rw [Jq] at hr
 refine AO ?_
 refine BH rfl rfl ?_; intro b1 af
 refine ua (Cj (um ?_))
 refine uv (C8 rfl rfl) ?_
 refine Bo 0 rfl af ?_; intro F2 ad ah
 refine AK rfl ?_
 replace ab := ab.mono (Az (Az (Ad _))) ad
 replace aa := aa.mono ad
 have ai : IQ Tryz.prog F2 246 #[] #[.pointer (some ⟨b1, 0, none⟩)] (Cn 1 (Cn 1 (iE .i64))) Value.bool (fun ae : (List (List Int)) => G5 ae so) := ⟨call246, fun F2 h2 vs ae r ha hr => by obtain ⟨a5, c6, rfl, h7⟩ := ha; exact MW h7 (h2 _ _ ah) (aa.mono h2) hr⟩
 obtain ⟨ok, h9, aj⟩ := AI hr
 refine cV call245 (IM ab ai h9) (uv (Cc rfl) ?_)
 refine ua (Aa (Al ?_))
 refine Cq results215 ?_
 obtain rfl := AM aj
 exact rfl
theorem LU {l : List (List Int)} (_h_l : Ax 1 (Cn 1 (iE .i64)) F Oz N5 l) {r : Bool} (hr : Ga l = some r) :
    Bw Tryz.prog 216 #[.slice Oz l.length N5] F (.bool r) := by
 refine sp func216 ntmps216 fun K _ _ => ?_
 rw [Ga] at hr
 refine AO (ua (Cj (um ?_)))
 refine uv (A3 underlying36 rfl) (uv (Dn rfl rfl) ?_)
 refine ua (Aa (Al ?_))
 refine Cq results216 ?_
 obtain rfl := AM hr
 exact rfl
set_option maxHeartbeats 1000000 in
theorem MT {Ac : Int} {Ak : List (List (List Int))} (ae : Ax 1 (Cn 1 (Cn 1 (iE .i64))) F As At Ak) (_h_readings : Ax 1 (iE .i64) F AX AW Aw) (_h_cries : Ax 3 (Cd (iE .i64) (Cd (iE .i64) (iE .i64))) F Bp Bq A1) {r : Bool} (hr : IB Ae Ac Ak Aw A1 = some r) :
    Bw Tryz.prog 167 #[.agg #[.int .i64 Ae, .int .i64 Ac, .slice As Ak.length At, .slice AX Aw.length AW, .slice Bp A1.length Bq]] F (.bool r) := by
 refine sp func167 ntmps167 fun K _ _ => ?_
 rw [IB] at hr
 refine AO ?_
 refine BH rfl rfl ?_; intro b1 bk
 refine ua (Cj ?_)
 refine uv (Ab QA rfl) (uv (Aj isAgg3 rfl (Has.own 0 rfl) rfl) ?_)
 obtain ⟨ok, h2, r3⟩ := AI hr
 refine cV call159 (HB h2) (um ?_)
 rcases Dc ok with c4 | c4
 ·have r5 := bt r3 c4
  refine nB c4 (uv (Ab QF rfl) (nB c4 (uv (Aj isAgg3 rfl (Has.own 0 rfl) rfl) (nB c4 ?_))))
  obtain ⟨al, h6, r7⟩ := AI r5
  refine cV call159 (HB h6) (uv (AP (IW rfl c4) rfl) (um ?_))
  rcases Dc al with c8 | c8
  ·have r9 := bt r7 c8
   refine nB c8 (uv (Ab L8 rfl) (nB c8 (uv (Aj isAgg97 rfl (Has.own 0 rfl) rfl) (nB c8 (uv (A3 underlying97 rfl) (nB c8 ?_))))))
   obtain ⟨ao, aq, ah⟩ := AI r9
   refine cV call159 (HB aq) (uv (AP (IW rfl c8) rfl) (um ?_))
   rcases Dc ao with aa | aa
   ·have ar := bt ah aa
    refine nB aa (uv (Ab KR rfl) (nB aa (uv (Aj isAgg33 rfl (Has.own 0 rfl) rfl) (nB aa (uv (A3 underlying33 rfl) (nB aa ?_))))))
    obtain ⟨au, av, ai⟩ := AI ar
    refine cV call159 (HB av) (uv (AP (IW rfl aa) rfl) (um ?_))
    rcases Dc au with ab | ab
    ·have aj := bt ai ab
     refine nB ab (uv (Ab Qk rfl) (nB ab (uv (Aj isAgg98 rfl (Has.own 0 rfl) rfl) (nB ab (uv (A3 underlying98 rfl) (nB ab (uv (LG rfl rfl) ?_)))))))
     refine uv (AP (IW rfl ab) rfl) (um ?_)
     by_cases ad : (A1.length : Int) ≤ 12
     ·have aw := A8 aj ad
      refine nT ad (uv (Ab L8 rfl) (nT ad (uv (Aj isAgg97 rfl (Has.own 0 rfl) rfl) (nT ad ?_))))
      have af : IQ Tryz.prog F 216 #[] #[] (Cn 1 (Cn 1 (iE .i64))) Value.bool (fun ak : (List (List Int)) => Ga ak) := ⟨call216, fun F2 h2 vs ak r ha hr => by obtain ⟨bl, bm, rfl, ax⟩ := ha; exact LU ax hr⟩
      obtain ⟨bn, ay, az⟩ := AI aw
      refine cV call215 (OA ae af ay) (uv (AP (Bf rfl ad) rfl) ?_)
      refine ua (Aa ?_)
      refine kW kn (Al (Cq results167 ?_))
      obtain rfl := AM az
      exact rfl
     have ba := A9 aj ad
     refine fF ad (fF ad (fF ad ?_))
     refine uv (AB (AU rfl ad) rfl) ?_
     refine ua (Aa ?_)
     refine kW kn (Al (Cq results167 ?_))
     obtain rfl := AM ba
     exact rfl
    have bb := bf ai ab
    refine fB ab (fB ab (fB ab (fB ab ?_)))
    refine uv (AB (IW rfl ab) rfl) ?_
    refine um (AH (b' := false) 29 rfl rfl rfl rfl (AH (b' := false) 29 rfl rfl rfl rfl (AH (b' := false) 29 rfl rfl rfl rfl ?_)))
    refine uv (AB rfl rfl) ?_
    refine ua (Aa ?_)
    refine kW kn (Al (Cq results167 ?_))
    obtain rfl := AM bb
    exact rfl
   have bc := bf ah aa
   refine fB aa (fB aa (fB aa (fB aa ?_)))
   refine uv (AB (IW rfl aa) rfl) ?_
   refine um (AH (b' := false) 23 rfl rfl rfl rfl (AH (b' := false) 23 rfl rfl rfl rfl (AH (b' := false) 23 rfl rfl rfl rfl (AH (b' := false) 23 rfl rfl rfl rfl ?_))))
   refine uv (AB rfl rfl) ?_
   refine um (AH (b' := false) 29 rfl rfl rfl rfl (AH (b' := false) 29 rfl rfl rfl rfl (AH (b' := false) 29 rfl rfl rfl rfl ?_)))
   refine uv (AB rfl rfl) ?_
   refine ua (Aa ?_)
   refine kW kn (Al (Cq results167 ?_))
   obtain rfl := AM bc
   exact rfl
  have bg := bf r7 c8
  refine fB c8 (fB c8 (fB c8 (fB c8 ?_)))
  refine uv (AB (IW rfl c8) rfl) ?_
  refine um (AH (b' := false) 17 rfl rfl rfl rfl (AH (b' := false) 17 rfl rfl rfl rfl (AH (b' := false) 17 rfl rfl rfl rfl (AH (b' := false) 17 rfl rfl rfl rfl ?_))))
  refine uv (AB rfl rfl) ?_
  refine um (AH (b' := false) 23 rfl rfl rfl rfl (AH (b' := false) 23 rfl rfl rfl rfl (AH (b' := false) 23 rfl rfl rfl rfl (AH (b' := false) 23 rfl rfl rfl rfl ?_))))
  refine uv (AB rfl rfl) ?_
  refine um (AH (b' := false) 29 rfl rfl rfl rfl (AH (b' := false) 29 rfl rfl rfl rfl (AH (b' := false) 29 rfl rfl rfl rfl ?_)))
  refine uv (AB rfl rfl) ?_
  refine ua (Aa ?_)
  refine kW kn (Al (Cq results167 ?_))
  obtain rfl := AM bg
  exact rfl
 have bj := bf r3 c4
 refine fB c4 (fB c4 (fB c4 ?_))
 refine uv (AB (IW rfl c4) rfl) ?_
 refine um (AH (b' := false) 11 rfl rfl rfl rfl (AH (b' := false) 11 rfl rfl rfl rfl (AH (b' := false) 11 rfl rfl rfl rfl (AH (b' := false) 11 rfl rfl rfl rfl ?_))))
 refine uv (AB rfl rfl) ?_
 refine um (AH (b' := false) 17 rfl rfl rfl rfl (AH (b' := false) 17 rfl rfl rfl rfl (AH (b' := false) 17 rfl rfl rfl rfl (AH (b' := false) 17 rfl rfl rfl rfl ?_))))
 refine uv (AB rfl rfl) ?_
 refine um (AH (b' := false) 23 rfl rfl rfl rfl (AH (b' := false) 23 rfl rfl rfl rfl (AH (b' := false) 23 rfl rfl rfl rfl (AH (b' := false) 23 rfl rfl rfl rfl ?_))))
 refine uv (AB rfl rfl) ?_
 refine um (AH (b' := false) 29 rfl rfl rfl rfl (AH (b' := false) 29 rfl rfl rfl rfl (AH (b' := false) 29 rfl rfl rfl rfl ?_)))
 refine uv (AB rfl rfl) ?_
 refine ua (Aa ?_)
 refine kW kn (Al (Cq results167 ?_))
 obtain rfl := AM bj
 exact rfl
theorem S8 {r : Bool} (hr : ME n = some r) :
    Bw Tryz.prog 168 #[.int .i64 n] F (.bool r) := by
 refine sp func168 ntmps168 fun K _ _ => ?_
 rw [ME] at hr
 refine AO (ua (Cj (um ?_)))
 refine uv (Dn rfl rfl) (um ?_)
 by_cases c1 : n = (-1)
 ·have r2 := A8 hr c1
  refine fT c1 (fT c1 ?_)
  refine uv (AP (Bf rfl c1) rfl) ?_
  refine ua (Aa (Al ?_))
  refine Cq results168 ?_
  obtain rfl := AM r2
  exact rfl
 have r3 := A9 hr c1
 refine nF c1 (um (nF c1 ?_))
 obtain ⟨ok, h4, r5⟩ := AI r3
 refine cV call159 (HB h4) (uv (AB (AU rfl c1) rfl) ?_)
 refine ua (Aa (Al ?_))
 refine Cq results168 ?_
 obtain rfl := AM r5
 exact rfl
set_option maxHeartbeats 1000000 in
theorem HJ {s_ : List (Int × Int × Int)} {f : (Int × Int × Int) → Option Bool} (ab : Ax 3 (Cd (iE .i64) (Cd (iE .i64) (iE .i64))) F B5 B0 s_) (al : IQ Tryz.prog F Mk Mz Md (XE (Cd (iE .i64) (Cd (iE .i64) (iE .i64)))) Value.bool f) {r : Int} (hr : D2 s_ f = some r) :
    Bw Tryz.prog 247 #[.slice B5 s_.length B0, .func (.func Mk) Mz Md] F (.int .i64 r) := by
 refine sp func247 ntmps247 fun K _ _ => ?_
 rw [D2] at hr
 refine AO (ua (Aa ?_))
 refine AV (fun e1 F1 L1 => DG = some r ∧ F = F1 ∧ L1 = [] ∧ e1.sub []) ?_ ?_
 ·refine AO (um ?_)
  refine uv (A3 underlying98 rfl) ?_
  refine um (Aa ?_)
  refine Am ?_
  refine Bk (fun ao e1 F1 L1 => LA s_ ao fun tl k => B9 f tl k = some r ∧ F = F1 ∧ L1 = [] ∧ e1.sub [(0, .slice B5 s_.length B0), (1, .func (.func Mk) Mz Md), (7, .int .i64 (s_.length : Int)), (8, .int .i64 k)]) _ (m0 kr ⟨_, _, rfl, BP.start _, hr, rfl, rfl, z4⟩) ?_
  rintro ao e1 _ _ ⟨tl, k, au, ad, r3, rfl, rfl, av⟩
  refine AA _ av (AO (uv (Bg rfl rfl) ?_))
  refine Aa (Ao ?_)
  refine cQ (fun c6 => ?_) fun c6 => ?_
  ·obtain ⟨x, bc, rfl, aw, g9, ax⟩ := BP.succ ad c6
   rw [B9] at r3
   refine An (Ao ?_)
   refine Am ?_
   refine AO (um (ua (Cj (um (um (um ?_))))))
   obtain ⟨H5, bg, bj, ay, ae, af, aa, ⟨_, _, rfl, rfl, ⟨_, _, rfl, rfl, rfl⟩⟩, ah, ai⟩ := Ax.at (AD (Ad _) (AD (Ad _) (Ad _))) ab ([]) g9.1 aw
   refine uv (AN underlying98 sizeOf132 rfl ae rfl g9) (uv (AL isAgg132 sizeOf132 rfl af aa (By aa ah ai)) ?_)
   obtain ⟨ok, az, aq⟩ := AI r3
   refine FI rfl al.1 rfl rfl rfl (al.2 _ (AZ.refl _) _ _ _ ⟨_, rfl, ⟨_, _, rfl, rfl, ⟨_, _, rfl, rfl, rfl⟩⟩⟩ az) (Aa ?_)
   refine AY rfl (fun aj => ?_) (fun aj => ?_)
   ·have ba := bt aq aj
    refine AO (um (ua (Aa (Al (Ay (Ah (Ah (Ay (Ah ?_)))))))))
    refine Cq results247 ?_
    obtain rfl := AM ba
    exact rfl
   have bb := bf aq aj
   refine An (Au (id := 1) (Ai ?_))
   refine uv (Bd rfl rfl (BP.EP ad c6 (Ax.lt ab))) ?_
   refine um (Aa ?_)
   subst au; exact le kr ⟨_, _, rfl, ax, bb, rfl, rfl, z4⟩
  obtain rfl := BP.zero ad c6
  rw [B9] at r3
  refine AQ (Af (Af ?_))
  refine Av ?_
  exact mi kr ⟨r3, rfl, rfl, (sn _)⟩
 rintro e1 _ _ ⟨ar, rfl, rfl, ak⟩
 refine AA _ ak ?_
 rw [DG] at ar
 refine AO (ua (Aa (Al ?_)))
 refine Cq results247 ?_
 obtain rfl := AM ar
 exact rfl
theorem G7 {s_ : List (Int × Int × Int)} {f : (Int × Int × Int) → Option Bool} (aa : Ax 3 (Cd (iE .i64) (Cd (iE .i64) (iE .i64))) F B5 B0 s_) (ab : IQ Tryz.prog F Mk Mz Md (XE (Cd (iE .i64) (Cd (iE .i64) (iE .i64)))) Value.bool f) {r : Bool} (hr : DD s_ f = some r) :
    Bw Tryz.prog 217 #[.slice B5 s_.length B0, .func (.func Mk) Mz Md] F (.bool r) := by
 refine sp func217 ntmps217 fun K _ _ => ?_
 rw [DD] at hr
 refine AO (ua (Cj (um (um ?_))))
 obtain ⟨n, h1, r2⟩ := AI hr
 refine cV call247 (HJ aa ab h1) (uv (Hn rfl rfl) ?_)
 refine ua (Aa (Al ?_))
 refine Cq results217 ?_
 obtain rfl := AM r2
 exact rfl
theorem Nm {so : (Int × Int × Int) → Option Bool} (aa : F QH = some (.cells #[.func (.func Kw) KF Kx] 309 RI)) (ab : IQ Tryz.prog F Kw KF Kx (XE (Cd (iE .i64) (Cd (iE .i64) (iE .i64)))) Value.bool so) {r : Bool} (hr : Hz hour stand BW so = some r) :
    Bw Tryz.prog 218 #[.agg #[.int .i64 hour, .int .i64 stand, .int .i64 BW], .pointer (some ⟨QH, 0, none⟩)] F (.bool r) := by
 refine sp func218 ntmps218 fun K _ _ => ?_
 rw [Hz] at hr
 refine AO ?_
 refine BH rfl rfl ?_; intro b1 ad
 refine ua (Cj ?_)
 refine uv (Aj isAgg309 rfl (Has.frozen aa) rfl) (uv (AL isAgg132 sizeOf132 rfl (Has.own 0 rfl) (Ce rfl) rfl) ?_)
 obtain ⟨ok, h2, r3⟩ := AI hr
 refine FI rfl ab.1 rfl rfl rfl (ab.2 _ (AZ.refl _) _ _ _ ⟨_, rfl, ⟨_, _, rfl, rfl, ⟨_, _, rfl, rfl, rfl⟩⟩⟩ h2) (uv (Cc rfl) ?_)
 refine ua (Aa ?_)
 refine kW kn (Al (Cq results218 ?_))
 obtain rfl := AM r3
 exact rfl
theorem O1 {l : List (Int × Int × Int)} {so : (Int × Int × Int) → Option Bool} (ad : Ax 3 (Cd (iE .i64) (Cd (iE .i64) (iE .i64))) F Oz N5 l) (aa : IQ Tryz.prog F Kw KF Kx (XE (Cd (iE .i64) (Cd (iE .i64) (iE .i64)))) Value.bool so) {r : Bool} (hr : J3 l so = some r) :
    Bw Tryz.prog 169 #[.slice Oz l.length N5, .func (.func Kw) KF Kx] F (.bool r) := by
 refine sp func169 ntmps169 fun K _ _ => ?_
 rw [J3] at hr
 refine AO ?_
 refine BH rfl rfl ?_; intro b1 af
 refine ua (Cj (um ?_))
 refine uv (C8 rfl rfl) ?_
 refine Bo 0 rfl af ?_; intro F2 ae ah
 refine AK rfl ?_
 replace ad := ad.mono (AD (Ad _) (AD (Ad _) (Ad _))) ae
 replace aa := aa.mono ae
 have ai : IQ Tryz.prog F2 218 #[] #[.pointer (some ⟨b1, 0, none⟩)] (XE (Cd (iE .i64) (Cd (iE .i64) (iE .i64)))) Value.bool (fun ab : (Int × Int × Int) => Hz ab.1 ab.2.1 ab.2.2 so) := ⟨call218, fun F2 h2 vs ab r ha hr => by obtain ⟨_, rfl, ⟨_, _, rfl, rfl, ⟨_, _, rfl, rfl, rfl⟩⟩⟩ := ha; exact Nm (h2 _ _ ah) (aa.mono h2) hr⟩
 obtain ⟨ok, h6, r7⟩ := AI hr
 refine cV call217 (G7 ad ai h6) (uv (Cc rfl) ?_)
 refine ua (Aa (Al ?_))
 refine Cq results169 ?_
 obtain rfl := AM r7
 exact rfl
theorem Nl {Ac : Int} {Ak : List (List (List Int))} (_h_hears : Ax 1 (Cn 1 (Cn 1 (iE .i64))) F As At Ak) (_h_readings : Ax 1 (iE .i64) F AX AW Aw) (_h_cries : Ax 3 (Cd (iE .i64) (Cd (iE .i64) (iE .i64))) F Bp Bq A1) {r : Bool} (hr : IX Ae Ac Ak Aw A1 n = some r) :
    Bw Tryz.prog 101 #[.agg #[.int .i64 Ae, .int .i64 Ac, .slice As Ak.length At, .slice AX Aw.length AW, .slice Bp A1.length Bq], .int .i64 n] F (.bool r) := by
 refine sp func101 ntmps101 fun K _ _ => ?_
 rw [IX] at hr
 refine AO ?_
 refine BH rfl rfl ?_; intro b1 aa
 refine ua (Cj (um ?_))
 refine uv (Ab QF rfl) (uv (Aj isAgg3 rfl (Has.own 0 rfl) rfl) ?_)
 obtain ⟨g2, r3⟩ := A2 hr
 refine uv (Gl rfl rfl g2) ?_
 obtain ⟨ok, h4, r5⟩ := AI r3
 refine cV call159 (HB h4) ?_
 refine ua (Aa ?_)
 refine kW kn (Al (Cq results101 ?_))
 obtain rfl := AM r5
 exact rfl
theorem OW {Ac : Int} {Ak : List (List (List Int))} (_h_hears : Ax 1 (Cn 1 (Cn 1 (iE .i64))) F As At Ak) (_h_readings : Ax 1 (iE .i64) F AX AW Aw) (_h_cries : Ax 3 (Cd (iE .i64) (Cd (iE .i64) (iE .i64))) F Bp Bq A1) {r : Bool} (hr : JW Ae Ac Ak Aw A1 h = some r) :
    Bw Tryz.prog 102 #[.agg #[.int .i64 Ae, .int .i64 Ac, .slice As Ak.length At, .slice AX Aw.length AW, .slice Bp A1.length Bq], .int .i64 h] F (.bool r) := by
 refine sp func102 ntmps102 fun K _ _ => ?_
 rw [JW] at hr
 refine AO ?_
 refine BH rfl rfl ?_; intro b1 aa
 refine ua (Cj (um ?_))
 refine uv (Ab KR rfl) (uv (Aj isAgg33 rfl (Has.own 0 rfl) rfl) (uv (A3 underlying33 rfl) ?_))
 obtain ⟨g2, r3⟩ := A2 hr
 refine uv (Gl rfl rfl g2) ?_
 obtain ⟨ok, h4, r5⟩ := AI r3
 refine cV call159 (HB h4) ?_
 refine ua (Aa ?_)
 refine kW kn (Al (Cq results102 ?_))
 obtain rfl := AM r5
 exact rfl
set_option maxHeartbeats 1000000 in
theorem Qx {MG : Nat} {Ac : Int} {Ak : List (List (List Int))} {ah : Nat × Nat} (af : F MG = some (.cells #[.int .i64 Ae, .int .i64 Ac, .slice As Ak.length At, .slice AX Aw.length AW, .slice Bp A1.length Bq] 100 ah)) (ab : Ax 1 (Cn 1 (Cn 1 (iE .i64))) F As At Ak) (aa : Ax 1 (iE .i64) F AX AW Aw) (ad : Ax 3 (Cd (iE .i64) (Cd (iE .i64) (iE .i64))) F Bp Bq A1) {r : Bool} (hr : JH hour stand BW Ae Ac Ak Aw A1 = some r) :
    Bw Tryz.prog 170 #[.agg #[.int .i64 hour, .int .i64 stand, .int .i64 BW], .pointer (some ⟨MG, 0, none⟩)] F (.bool r) := by
 refine sp func170 ntmps170 fun K _ _ => ?_
 rw [JH] at hr
 refine AO ?_
 refine BH rfl rfl ?_; intro b1 ar
 refine ua (Cj ?_)
 refine uv (AL isAgg100 sizeOf100 rfl (Has.frozen af) (Ce rfl) rfl) (uv (Ab TA rfl) (uv (Aj isAgg3 rfl (Has.own 0 rfl) rfl) ?_))
 obtain ⟨ok, h2, r3⟩ := AI hr
 refine cV call102 (OW ab aa ad h2) (um ?_)
 rcases Dc ok with c4 | c4
 ·have r5 := bt r3 c4
  refine nB c4 (uv (Ab TR rfl) (nB c4 (uv (Aj isAgg3 rfl (Has.own 0 rfl) rfl) (nB c4 (uv (Ab L8 rfl) (nB c4 (uv (Aj isAgg97 rfl (Has.frozen af) rfl) ?_)))))))
  refine nB c4 (uv (A3 underlying97 rfl) (nB c4 ?_))
  obtain ⟨g6, r7⟩ := A2 r5
  refine uv (Gl rfl rfl g6) (nB c4 ?_)
  obtain ⟨ai, h8, r9⟩ := AI r7
  refine cV call159 (HB h8) (uv (AP (IW rfl c4) rfl) (um ?_))
  rcases Dc ai with ae | ae
  ·have aj := bt r9 ae
   refine nB ae (uv (AL isAgg100 sizeOf100 rfl (Has.frozen af) (Ce rfl) rfl) (nB ae (uv (Ab Tk rfl) (nB ae (uv (Aj isAgg3 rfl (Has.own 0 rfl) rfl) (nB ae ?_))))))
   obtain ⟨au, ak, al⟩ := AI aj
   refine cV call101 (Nl ab aa ad ak) (uv (AP (IW rfl ae) rfl) ?_)
   refine ua (Aa ?_)
   refine kW kn (Al (Cq results170 ?_))
   obtain rfl := AM al
   exact rfl
  have ao := bf r9 ae
  refine fB ae (fB ae (fB ae (fB ae ?_)))
  refine uv (AB (IW rfl ae) rfl) ?_
  refine ua (Aa ?_)
  refine kW kn (Al (Cq results170 ?_))
  obtain rfl := AM ao
  exact rfl
 have aq := bf r3 c4
 refine fB c4 (fB c4 (fB c4 (fB c4 (fB c4 (fB c4 (fB c4 ?_))))))
 refine uv (AB (IW rfl c4) rfl) ?_
 refine um (AH (b' := false) 17 rfl rfl rfl rfl (AH (b' := false) 17 rfl rfl rfl rfl (AH (b' := false) 17 rfl rfl rfl rfl (AH (b' := false) 17 rfl rfl rfl rfl ?_))))
 refine uv (AB rfl rfl) ?_
 refine ua (Aa ?_)
 refine kW kn (Al (Cq results170 ?_))
 obtain rfl := AM aq
 exact rfl
set_option maxHeartbeats 1000000 in
theorem Sn {Ac : Int} {Ak : List (List (List Int))} (ab : Ax 1 (Cn 1 (Cn 1 (iE .i64))) F As At Ak) (aa : Ax 1 (iE .i64) F AX AW Aw) (ad : Ax 3 (Cd (iE .i64) (Cd (iE .i64) (iE .i64))) F Bp Bq A1) {r : Int} (hr : Nz Ae Ac Ak Aw A1 = some r) :
    Bw Tryz.prog 100 #[.agg #[.int .i64 Ae, .int .i64 Ac, .slice As Ak.length At, .slice AX Aw.length AW, .slice Bp A1.length Bq]] F (.int .i64 r) := by
 refine sp func100 ntmps100 fun K _ _ => ?_
 rw [Nz] at hr
 refine AO ?_
 refine BH rfl rfl ?_; intro b1 ct
 refine ua (Aa (Ao (AO ?_)))
 refine uv (AL isAgg100 sizeOf100 rfl (Has.own 0 rfl) (Ce rfl) rfl) ?_
 obtain ⟨ok, h2, r3⟩ := AI hr
 refine cV call167 (MT ab aa ad h2) (uv (Cc rfl) (Aa ?_))
 refine AY rfl (fun c4 => ?_) (fun c4 => ?_)
 ·have r5 := bt r3 c4
  refine AO (ua (Aa ?_))
  refine kW kn ?_
  refine Al (Ah ?_)
  refine Cq results100 ?_
  obtain rfl := AM r5
  exact rfl
 have r6 := bf r3 c4
 refine An ?_
 refine AV (fun e1 F1 L1 => KE Ae Ac Ak Aw A1 = some r ∧ F = F1 ∧ L1 = [(b1, ce #[.int .i64 Ae, .int .i64 Ac, .slice As Ak.length At, .slice AX Aw.length AW, .slice Bp A1.length Bq] 100)] ∧ e1.sub [(1, .pointer (some ⟨b1, 0, none⟩))]) ?_ ?_
 ·refine AO (uv (Ab L8 rfl) (uv (Aj isAgg97 rfl (Has.own 0 rfl) rfl) (uv (A3 underlying97 rfl) ?_)))
  refine um (Aa ?_)
  refine Am ?_
  refine Bk (fun br e1 F1 L1 => LA Ak br fun tl k => FO Ae Ac Ak Aw A1 tl = some r ∧ F = F1 ∧ L1 = [(b1, ce #[.int .i64 Ae, .int .i64 Ac, .slice As Ak.length At, .slice AX Aw.length AW, .slice Bp A1.length Bq] 100)] ∧ e1.sub [(1, .pointer (some ⟨b1, 0, none⟩)), (12, .slice As Ak.length At), (13, .int .i64 (Ak.length : Int)), (14, .int .i64 k)]) _ (m0 kr ⟨_, _, rfl, BP.start _, r6, rfl, rfl, z4⟩) ?_
  rintro br e1 _ _ ⟨tl, k, cu, al, r9, rfl, rfl, ao⟩
  refine AA _ ao (AO (uv (Bg rfl rfl) ?_))
  refine Aa (Ao ?_)
  refine cQ (fun ai => ?_) fun ai => ?_
  ·obtain ⟨x, bu, rfl, aq, bx, ar⟩ := BP.succ al ai
   rw [FO] at r9
   refine An ?_
   refine AV (fun e1 F1 L1 => KB (FO Ae Ac Ak Aw A1 bu) = some r ∧ F = F1 ∧ L1 = [(b1, ce #[.int .i64 Ae, .int .i64 Ac, .slice As Ak.length At, .slice AX Aw.length AW, .slice Bp A1.length Bq] 100)] ∧ e1.sub [(1, .pointer (some ⟨b1, 0, none⟩)), (12, .slice As Ak.length At), (13, .int .i64 (Ak.length : Int)), (14, .int .i64 k)]) ?_ ?_
   ·refine Am (AO ?_)
    obtain ⟨dq, dr, dt, cv, au, av, bz, ⟨cw, cx, rfl, ca⟩, cy, aw⟩ := Ax.at (Az (Az (Ad _))) ab ([(b1, ce #[.int .i64 Ae, .int .i64 Ac, .slice As Ak.length At, .slice AX Aw.length AW, .slice Bp A1.length Bq] 100)]) bx.1 aq
    refine uv (AN underlying97 sizeOf36 rfl au rfl bx) (uv (Aj isAgg36 rfl av (aw 0 (by decide))) ?_)
    refine ua (Cj (um ?_))
    refine uv (A3 underlying36 rfl) ?_
    refine um (Aa ?_)
    refine Am ?_
    refine Bk (fun cb e1 F1 L1 => LA x cb fun cc k2 => HR Ae Ac Ak Aw A1 (FO Ae Ac Ak Aw A1 bu) cc = some r ∧ F = F1 ∧ L1 = [(b1, ce #[.int .i64 Ae, .int .i64 Ac, .slice As Ak.length At, .slice AX Aw.length AW, .slice Bp A1.length Bq] 100)] ∧ e1.sub [(1, .pointer (some ⟨b1, 0, none⟩)), (12, .slice As Ak.length At), (13, .int .i64 (Ak.length : Int)), (14, .int .i64 k), (18, .slice cw x.length cx), (19, .int .i64 (x.length : Int)), (20, .int .i64 k2)]) _ (m0 kr ⟨_, _, rfl, BP.start _, r9, rfl, rfl, z7⟩) ?_
    rintro cb e1 _ _ ⟨cc, k2, ax, ae, aj, rfl, rfl, ay⟩
    refine AA _ ay (AO (uv (Bg rfl rfl) ?_))
    refine Aa (Ao ?_)
    refine cQ (fun ak => ?_) fun ak => ?_
    ·obtain ⟨x2, du, rfl, az, cf, ba⟩ := BP.succ ae ak
     rw [HR] at aj
     refine An (Ao ?_)
     refine Am (AO ?_)
     obtain ⟨dv, dw, dx, cz, bb, bc, cg, ⟨dy, dz, rfl, da⟩, db, bg⟩ := Ax.at (Az (Ad _)) ca ([(b1, ce #[.int .i64 Ae, .int .i64 Ac, .slice As Ak.length At, .slice AX Aw.length AW, .slice Bp A1.length Bq] 100)]) cf.1 az
     refine uv (AN underlying36 sizeOf33 rfl bb rfl cf) (uv (Aj isAgg33 rfl bc (bg 0 (by decide))) ?_)
     refine ua (Cj ?_)
     refine uv (AL isAgg100 sizeOf100 rfl (Has.own 0 rfl) (Ce rfl) rfl) (um ?_)
     obtain ⟨n, dd, cj⟩ := AI aj
     refine cV call103 (Nd ab aa ad da dd) ?_
     refine ua (Cj (um ?_))
     refine uv (B8 rfl rfl) (Aa ?_)
     refine cQ (fun bj => ?_) fun bj => ?_
     ·have de := A8 cj bj
      refine AO (um (ua (Aa ?_)))
      refine kW kn ?_
      refine Al (Ay (Ah (Ah (Ay (Ay (Ah (Ah (Ay (Ah ?_)))))))))
      refine Cq results100 ?_
      obtain rfl := AM de
      exact rfl
     have df := A9 cj bj
     refine An (Au (id := 3) (Ai ?_))
     refine uv (Bd rfl rfl (BP.EP ae ak (Ax.lt ca))) ?_
     refine um (Aa ?_)
     subst ax; exact le kr ⟨_, _, rfl, ba, df, rfl, rfl, z7⟩
    obtain rfl := BP.zero ae ak
    rw [HR] at aj
    refine AQ (Af (Af ?_))
    refine Av (Au (id := 1) ?_)
    exact mi kr ⟨aj, rfl, rfl, z4⟩
   rintro e1 _ _ ⟨cn, rfl, rfl, bk⟩
   refine AA _ bk ?_
   rw [KB] at cn
   refine Ai (uv (Bd rfl rfl (BP.EP al ai (Ax.lt ab))) ?_)
   refine um (Aa ?_)
   subst cu; exact le kr ⟨_, _, rfl, ar, cn, rfl, rfl, z4⟩
  obtain rfl := BP.zero al ai
  rw [FO] at r9
  refine AQ (Af (Af ?_))
  refine Av ?_
  exact mi kr ⟨r9, rfl, rfl, z1⟩
 rintro e1 _ _ ⟨cp, rfl, rfl, bl⟩
 refine AA _ bl ?_
 rw [KE] at cp
 refine Ao (Am (AO (uv (Ab KR rfl) (uv (Aj isAgg33 rfl (Has.own 0 rfl) rfl) ?_))))
 have bm : IQ Tryz.prog F 168 #[] #[] (iE .i64) Value.bool (fun af : Int => ME af) := ⟨call168, fun F2 h2 vs af r ha hr => by obtain rfl := ha; exact S8 hr⟩
 obtain ⟨e9, dg, cq⟩ := AI cp
 refine cV call107 (OQ aa bm dg) (uv (Cc rfl) ?_)
 refine ua (Aa ?_)
 refine AY rfl (fun bn => ?_) (fun bn => ?_)
 ·have dh := bt cq bn
  refine AO (ua (Aa ?_))
  refine kW kn ?_
  refine Al (Ay (Ah ?_))
  refine Cq results100 ?_
  obtain rfl := AM dh
  exact rfl
 have di := bf cq bn
 refine AO (uv (Ab Qk rfl) (uv (Aj isAgg98 rfl (Has.own 0 rfl) rfl) (uv (C8 rfl rfl) ?_)))
 refine Bo 0 rfl ct ?_; intro dk ah bo
 refine AK rfl ?_
 replace ab := ab.mono (Az (Az (Ad _))) ah
 replace aa := aa.mono (Ad _) ah
 replace ad := ad.mono (AD (Ad _) (AD (Ad _) (Ad _))) ah
 have bp : IQ Tryz.prog dk 170 #[] #[.pointer (some ⟨b1, 0, none⟩)] (XE (Cd (iE .i64) (Cd (iE .i64) (iE .i64)))) Value.bool (fun af : (Int × Int × Int) => JH af.1 af.2.1 af.2.2 Ae Ac Ak Aw A1) := ⟨call170, fun F2 h2 vs af r ha hr => by obtain ⟨_, rfl, ⟨_, _, rfl, rfl, ⟨_, _, rfl, rfl, rfl⟩⟩⟩ := ha; exact Qx (h2 _ _ bo) (ab.mono (Az (Az (Ad _))) h2) (aa.mono (Ad _) h2) (ad.mono (AD (Ad _) (AD (Ad _) (Ad _))) h2) hr⟩
 obtain ⟨eg, dm, cr⟩ := AI di
 refine cV call169 (O1 ad bp dm) (uv (Cc rfl) ?_)
 refine ua (Aa ?_)
 refine AY rfl (fun bq => ?_) (fun bq => ?_)
 ·have dn := bt cr bq
  refine AO (ua (Aa (Al (Ay (Ah ?_)))))
  refine Cq results100 ?_
  obtain rfl := AM dn
  exact rfl
 have dp := bf cr bq
 refine An (Au (id := 4) (AO (ua (Aa (Al ?_)))))
 refine Cq results100 ?_
 obtain rfl := AM dp
 exact rfl
set_option maxHeartbeats 1000000 in
theorem Rk {Ac : Int} {Ak : List (List (List Int))} (ab : Ax 1 (Cn 1 (Cn 1 (iE .i64))) F As At Ak) (aa : Ax 1 (iE .i64) F AX AW Aw) (ad : Ax 3 (Cd (iE .i64) (Cd (iE .i64) (iE .i64))) F Bp Bq A1) {r : Option (Int × Int × (List (List (List Int))) × (List Int) × (List (Int × Int × Int)))} {r2 : Int} (hr : Mf Ae Ac Ak Aw A1 = some (r, r2)) :
    SH.Spec Tryz.prog 157 #[.agg #[.int .i64 Ae, .int .i64 Ac, .slice As Ak.length At, .slice AX Aw.length AW, .slice Bp A1.length Bq]] F [] fun F' L' v => ∃ (rv : Value), v = .tuple #[rv, .int .i64 r2] ∧ L' = [] ∧ Rj 247 (Cd (iE .i64) (Cd (iE .i64) (Cd (Cn 1 (Cn 1 (Cn 1 (iE .i64)))) (Cd (Cn 1 (iE .i64)) (Cn 3 (Cd (iE .i64) (Cd (iE .i64) (iE .i64)))))))) F' rv r := by
 refine sp func157 ntmps157 fun K _ _ => ?_
 rw [Mf] at hr
 refine AO ?_
 refine BH rfl rfl ?_; intro b1 ai
 refine ua (ua (Aa (Ao (AO ?_))))
 refine uv (AL isAgg100 sizeOf100 rfl (Has.own 0 rfl) (Ce rfl) rfl) ?_
 obtain ⟨n, h2, r3⟩ := AI hr
 refine cV call100 (Sn ab aa ad h2) ?_
 refine ua (Cj (um ?_))
 refine uv (B8 rfl rfl) (Aa ?_)
 refine cQ (fun c4 => ?_) fun c4 => ?_
 ·have r5 := A8 r3 c4
  refine AO (um (ua (ua (Aa ?_))))
  refine kW kn ?_
  refine Al (Ah ?_)
  refine CP results157 (AR rfl) (AR rfl) (sr) ?_
  obtain ⟨rfl, rfl⟩ := DH r5
  exact ⟨_, rfl, rfl, rfl⟩
 have r6 := A9 r3 c4
 refine An (AO ?_)
 refine uv (AL isAgg100 sizeOf100 rfl (Has.own 0 rfl) (Ce rfl) rfl) ?_
 refine uv (Bx (v := .agg #[.int .i64 Ae, .int .i64 Ac, .slice As Ak.length At, .slice AX Aw.length AW, .slice Bp A1.length Bq]) rfl (by intro w; kernel_rfl)) ?_
 refine BH rfl rfl ?_; intro b7 ah
 refine ua (ua (Aa ?_))
 refine CX 0 rfl ah ?_; intro F8 ae af
 refine Fi (L' := [(b1, ce #[.int .i64 Ae, .int .i64 Ac, .slice As Ak.length At, .slice AX Aw.length AW, .slice Bp A1.length Bq] 100)]) rfl ?_
 replace ab := ab.mono (Az (Az (Ad _))) ae
 replace aa := aa.mono (Ad _) ae
 replace ad := ad.mono (AD (Ad _) (AD (Ad _) (Ad _))) ae
 refine kW kn (Al (CP results157 (AR rfl) (AR rfl) (sr) ?_))
 obtain ⟨rfl, rfl⟩ := DH r6
 exact ⟨_, rfl, rfl, ⟨_, _, _, rfl, af, ⟨_, _, rfl, rfl, ⟨_, _, rfl, rfl, ⟨_, _, rfl, ⟨_, _, rfl, ab⟩, ⟨_, _, rfl, ⟨_, _, rfl, aa⟩, ⟨_, _, rfl, ad⟩⟩⟩⟩⟩⟩⟩
set_option maxHeartbeats 1000000 in
theorem Tf {Ac : Int} {Ak : List (List (List Int))} (af : Ax 1 (Cn 1 (Cn 1 (iE .i64))) F As At Ak) (aa : Ax 1 (iE .i64) F AX AW Aw) (ah : Ax 3 (Cd (iE .i64) (Cd (iE .i64) (iE .i64))) F Bp Bq A1) {r : Option (Int × Int × (List (List (List Int))) × (List Int) × (List (Int × Int × Int)))} {r2 : List ((List Bool) × (List Int))} {r3 : Int} (hr : OS Ae Ac Ak Aw A1 = some (r, r2, r3)) :
    SH.Spec Tryz.prog 89 #[.agg #[.int .i64 Ae, .int .i64 Ac, .slice As Ak.length At, .slice AX Aw.length AW, .slice Bp A1.length Bq]] F [] fun F' L' v => ∃ (rv : Value) (ba : Option Addr) (bb : Nat) (bc : Nat) (bg : LH), v = .tuple #[rv, .slice ba bb bc, .int .i64 r3] ∧ L' = bg ++ [] ∧ Rj 247 (Cd (iE .i64) (Cd (iE .i64) (Cd (Cn 1 (Cn 1 (Cn 1 (iE .i64)))) (Cd (Cn 1 (iE .i64)) (Cn 3 (Cd (iE .i64) (Cd (iE .i64) (iE .i64)))))))) F' rv r ∧ A6 0 223 25 (Cd (JA 24 cB) (Cn 1 (iE .i64))) F' ba bb bc r2 bg := by
 refine sp func89 ntmps89 fun K _ _ => ?_
 rw [OS] at hr
 refine AO ?_
 refine BH rfl rfl ?_; intro b1 cn
 refine ua (ua (ua (Cj ?_)))
 refine uv (AL isAgg100 sizeOf100 rfl (Has.own 0 rfl) (Ce rfl) rfl) ?_
 obtain ⟨d, n, h2, r4⟩ := DA hr
 refine c0 call157 (Rk af aa ah h2) ?_; rintro _ F5 _ cp cq ⟨v9, rfl, rfl, av⟩
 refine AK (ln rfl) ?_
 refine um (ox rfl rfl rfl (ox rfl rfl rfl (ua (ua (Aa (Ao (AO (um ?_))))))))
 refine uv (B8 rfl rfl) (Aa ?_)
 refine cQ (fun aw => ?_) fun aw => ?_
 ·have bl := A8 r4 aw
  refine AO (um (ua (ua (ua (Aa ?_)))))
  refine kW kn ?_
  refine Al (Ah ?_)
  refine Mi results89 (AR rfl) (AR rfl) (AR rfl) (sr) ?_
  obtain ⟨rfl, rfl, rfl⟩ := KI bl
  exact ⟨_, _, _, _, [], rfl, rfl, rfl, A6.nil _ _ _ _ _⟩
 have bm := A9 r4 aw
 refine An (AO (um ?_))
 obtain ⟨ai, ae, al, ab, ao, bn, bo⟩ := TO bm
 have bj := av; rw [bn] at bj; obtain ⟨bp, cr, bq, ax, ad, ⟨_, _, rfl, rfl, ⟨_, _, rfl, rfl, ⟨_, _, rfl, ⟨br, bu, rfl, aq⟩, ⟨_, _, rfl, ⟨bx, bz, rfl, ar⟩, ⟨ca, cb, rfl, au⟩⟩⟩⟩⟩⟩ := bj; subst ax
 have ad : F5 bp = some (.cells #[.int .i64 ai, .int .i64 ae, .slice br al.length bu, .slice bx ab.length bz, .slice ca ao.length cb] 247 bq) := ad
 obtain ⟨l, cc, bk⟩ := AI bo
 refine c0 call109 (M0 ad aq ar au cc) ?_; rintro _ ct _ aj ay ⟨cu, cv, cw, cf, rfl, rfl, ak⟩
 replace aq := aq.mono (Az (Az (Ad _))) aj
 replace ar := ar.mono (Ad _) aj
 replace au := au.mono (AD (Ad _) (AD (Ad _) (Ad _))) aj
 replace ad := aj _ _ ad
 replace ak := ak.new fun p hp => ay p (by simp [hp])
 refine AK (lp (ln rfl)) (kO (kf (fS fO) kr) ?_)
 refine ua (Aa (Ao (AO (um ?_))))
 refine uv ((A3 underlying216 rfl).i (A6.Je ak)) (uv (Dn rfl rfl) (Aa ?_))
 refine cQ (fun az => ?_) fun az => ?_
 ·have cg := A8 bk az
  refine AO (ua (ua (ua (Aa ?_))))
  refine kW kn ?_
  refine Al (Ah ?_)
  refine Mi results89 (AR rfl) (AR rfl) (AR rfl) (sr) ?_
  obtain ⟨rfl, rfl, rfl⟩ := KI cg
  exact ⟨_, _, _, _, [], rfl, rfl, rfl, A6.nil _ _ _ _ _⟩
 have cj := A9 bk az
 refine An (AO (um (um (ua (ua (ua (Aa ?_)))))))
 refine kW (kd kr) (Al (Mi results89 (AR rfl) (AR rfl) (AR rfl) (sr) ?_))
 obtain ⟨rfl, rfl, rfl⟩ := KI cj
 exact ⟨_, _, _, _, _, rfl, rfl, ⟨_, _, _, rfl, ad, ⟨_, _, rfl, rfl, ⟨_, _, rfl, rfl, ⟨_, _, rfl, ⟨_, _, rfl, aq⟩, ⟨_, _, rfl, ⟨_, _, rfl, ar⟩, ⟨_, _, rfl, au⟩⟩⟩⟩⟩⟩, ak.any⟩
set_option maxHeartbeats 1000000 in
theorem Py {Ac : Int} {Ak : List (List (List Int))} (aq : Ax 1 (Cn 1 (Cn 1 (iE .i64))) F As At Ak) (ah : Ax 1 (iE .i64) F AX AW Aw) (ar : Ax 3 (Cd (iE .i64) (Cd (iE .i64) (iE .i64))) F Bp Bq A1) {r : List (List Int)} {r2 : Int} (hr : KA Ae Ac Ak Aw A1 = some (r, r2)) :
    SH.Spec Tryz.prog 31 #[.agg #[.int .i64 Ae, .int .i64 Ac, .slice As Ak.length At, .slice AX Aw.length AW, .slice Bp A1.length Bq]] F [] fun F' L' v => ∃ (ra : Option Addr) (rc : Nat), v = .tuple #[.slice ra r.length rc, .int .i64 r2] ∧ L' = [] ∧ Ax 1 (Cn 1 (iE .i64)) F' ra rc r := by
 refine sp func31 ntmps31 fun K _ _ => ?_
 rw [KA] at hr
 refine AO ?_
 refine BH rfl rfl ?_; intro b1 jo
 refine ua (ua (Cj ?_))
 refine uv (AL (cs := #[.int .i64 Ae, .int .i64 Ac, .slice As Ak.length At, .slice AX Aw.length AW, .slice Bp A1.length Bq]) isAgg100 sizeOf100 rfl (Has.own 0 rfl) (Ce rfl) rfl) ?_
 obtain ⟨d, l, n, h2, r3⟩ := IH hr
 refine c0 call89 (Tf aq ah ar h2) ?_; rintro _ F4 _ jq ik ⟨v8, ay, az, ba, ab, rfl, rfl, jr, ae⟩
 replace ae := ae.new fun p hp => ik p (by simp [hp])
 refine AK (lp (ln rfl)) (kO (kf (fS fO) kr) ?_)
 refine um (ox rfl rfl rfl (ox rfl rfl rfl (ox rfl rfl rfl (ua (ua (ua (Aa (Ao (AO ?_)))))))))
 refine um (uv (B8 rfl rfl) (Aa ?_))
 refine cQ (fun e9 => ?_) fun e9 => ?_
 ·have il := A8 r3 e9
  refine AO (um (ua (ua (Aa ?_))))
  refine kW kn ?_
  refine Al (Ah ?_)
  refine CP results31 (AR rfl) (AR rfl) (sr) ?_
  obtain ⟨rfl, rfl⟩ := DH il
  exact ⟨_, _, rfl, rfl, Ax.nil _ _ _⟩
 have im := A9 r3 e9
 refine An (AO ?_)
 refine uv (Ab QA rfl) (uv (Aj isAgg3 rfl (Has.own 0 rfl) rfl) ?_)
 obtain ⟨iq, ir⟩ := A2 im
 obtain ⟨l2, iu, iv⟩ := DK ir
 refine NM (R := UK) (z0 := (none, 0, 0)) (zs := List.replicate (Ae : Int).toNat (none, 0, 0)) rfl Vm (by decide) Ni (fun _ => rfl) rfl iq rfl (fun _ => .c .n) ?_; intro ai aa bx eg
 have bz : LO K.w0.heap.size 123 124 1 (iE .i64) F4 ai aa aa l2 bx := LO.made eg iu
 refine ua (Aa ?_)
 obtain ⟨out, iw, gi⟩ := AI iv
 refine AV (fun e1 F1 L1 => ∃ (bl : LH), F4 = F1 ∧ L1 = (bl ++ []) ∧ e1.sub [(7, .slice ai aa aa)] ∧ LO K.w0.heap.size 123 124 1 (iE .i64) F1 ai aa aa out bl) ?_ ?_
 ·clear gi
  refine AO (um ?_)
  refine uv ((A3 underlying103 rfl).i (LO.Je bz)) ?_
  refine um (Aa ?_)
  refine Am ?_
  obtain ⟨iy, iz⟩ := A2 iw
  refine Bk (fun dp e1 F1 L1 => ∃ (k : Int), Fp 0 (l2.length : Int) k dp ∧ ∃ (au : List (List Int)) (ak : LH), Gi Ac l dp k au = some out ∧ F4 = F1 ∧ L1 = ((b1, ce #[.int .i64 Ae, .int .i64 Ac, .slice As Ak.length At, .slice AX Aw.length AW, .slice Bp A1.length Bq] 100) :: (ab ++ (ak ++ []))) ∧ e1.sub [(1, .pointer (some ⟨b1, 0, none⟩)), (5, .slice ay az ba), (7, .slice ai aa aa), (27, .int .i64 (l2.length : Int)), (28, .int .i64 k)] ∧ LO K.w0.heap.size 123 124 1 (iE .i64) F1 ai aa aa au ak) _ (m0 (kc (kg (fS fP) kr)) ⟨_, Fp.start _ _, l2, bx, iz, rfl, rfl, z5, bz⟩) ?_
  rintro dp e1 _ _ ⟨k, bm, au, ak, dq, rfl, rfl, eh, ca⟩
  refine AA _ eh (AO (uv (Bg rfl rfl) ?_))
  refine Aa (Ao ?_)
  refine cQ (fun dr => ?_) fun dr => ?_
  ·obtain ⟨dp, rfl, ej⟩ := Fp.succ bm dr
   rw [Gi] at dq
   refine An ?_
   obtain ⟨bn, j0, gj⟩ := AI dq
   refine AV (fun e1 F1 L1 => ∃ (av : LH), F4 = F1 ∧ L1 = ((b1, ce #[.int .i64 Ae, .int .i64 Ac, .slice As Ak.length At, .slice AX Aw.length AW, .slice Bp A1.length Bq] 100) :: (ab ++ (av ++ []))) ∧ e1.sub [(1, .pointer (some ⟨b1, 0, none⟩)), (5, .slice ay az ba), (7, .slice ai aa aa), (27, .int .i64 (l2.length : Int)), (28, .int .i64 k)] ∧ LO K.w0.heap.size 123 124 1 (iE .i64) F1 ai aa aa bn av) ?_ ?_
   ·clear gj
    refine Am ?_
    refine AO (um (ua (Cj ?_)))
    refine uv (Ab QF rfl) (uv (Aj isAgg3 rfl (Has.own 0 rfl) rfl) ?_)
    refine um (Aa ?_)
    refine Am ?_
    obtain ⟨j3, j4⟩ := A2 j0
    refine Bk (fun dt e1 F1 L1 => ∃ (k2 : Int), Fp 0 Ac k2 dt ∧ ∃ (bo : List (List Int)) (ad : LH), Gt l k dt k2 bo = some bn ∧ F4 = F1 ∧ L1 = ((b1, ce #[.int .i64 Ae, .int .i64 Ac, .slice As Ak.length At, .slice AX Aw.length AW, .slice Bp A1.length Bq] 100) :: (ab ++ (ad ++ []))) ∧ e1.sub [(1, .pointer (some ⟨b1, 0, none⟩)), (5, .slice ay az ba), (7, .slice ai aa aa), (8, .int .i64 k), (27, .int .i64 (l2.length : Int)), (28, .int .i64 k), (32, .int .i64 Ac), (33, .int .i64 k2)] ∧ LO K.w0.heap.size 123 124 1 (iE .i64) F1 ai aa aa bo ad) _ (m0 kr ⟨_, Fp.start _ _, au, ak, j4, rfl, rfl, z8, ca⟩) ?_
    rintro dt e1 _ _ ⟨k2, bp, bo, ad, du, rfl, rfl, eo, bq⟩
    refine AA _ eo (AO (uv (Bg rfl rfl) ?_))
    refine Aa (Ao ?_)
    refine cQ (fun dv => ?_) fun dv => ?_
    ·obtain ⟨dt, rfl, er⟩ := Fp.succ bp dv
     rw [Gt] at du
     refine An ?_
     obtain ⟨cb, j5, gk⟩ := AI du
     refine AV (fun e1 F1 L1 => ∃ (aw : LH), F4 = F1 ∧ L1 = ((b1, ce #[.int .i64 Ae, .int .i64 Ac, .slice As Ak.length At, .slice AX Aw.length AW, .slice Bp A1.length Bq] 100) :: (ab ++ (aw ++ []))) ∧ e1.sub [(1, .pointer (some ⟨b1, 0, none⟩)), (5, .slice ay az ba), (7, .slice ai aa aa), (8, .int .i64 k), (27, .int .i64 (l2.length : Int)), (28, .int .i64 k), (32, .int .i64 Ac), (33, .int .i64 k2)] ∧ LO K.w0.heap.size 123 124 1 (iE .i64) F1 ai aa aa cb aw) ?_ ?_
     ·clear gk
      refine Am ?_
      refine AO (um (ua (Cj (ua (Aa ?_)))))
      obtain ⟨many, j6, EP⟩ := AI j5
      refine jE (((b1, ce #[.int .i64 Ae, .int .i64 Ac, .slice As Ak.length At, .slice AX Aw.length AW, .slice Bp A1.length Bq] 100) :: (ab ++ (ad ++ [])))) [(1, .pointer (some ⟨b1, 0, none⟩)), (5, .slice ay az ba), (7, .slice ai aa aa), (8, .int .i64 k), (10, .int .i64 many), (27, .int .i64 (l2.length : Int)), (28, .int .i64 k), (32, .int .i64 Ac), (33, .int .i64 k2)] ?_ ?_
      ·clear EP
       refine AO (um ?_)
       refine uv ((A3 underlying216 rfl).i (A6.Je ae)) ?_
       refine um (Aa ?_)
       refine Am ?_
       refine Bk (fun gl e1 F1 L1 => LA l gl fun tl k3 => ∃ (af : Int), E7 k k2 tl af = some many ∧ F4 = F1 ∧ L1 = ((b1, ce #[.int .i64 Ae, .int .i64 Ac, .slice As Ak.length At, .slice AX Aw.length AW, .slice Bp A1.length Bq] 100) :: (ab ++ (ad ++ []))) ∧ e1.sub [(1, .pointer (some ⟨b1, 0, none⟩)), (5, .slice ay az ba), (7, .slice ai aa aa), (8, .int .i64 k), (9, .int .i64 k2), (10, .int .i64 af), (27, .int .i64 (l2.length : Int)), (28, .int .i64 k), (32, .int .i64 Ac), (33, .int .i64 k2), (36, .slice ay az ba), (37, .int .i64 (l.length : Int)), (38, .int .i64 k3)]) _ (m0 kr ⟨_, _, rfl, BP.start _, 0, j6, rfl, rfl, (sc rfl (sc rfl (sc rfl (sc rfl (sc rfl z8)))))⟩) ?_
       rintro gl e1 _ _ ⟨tl, k3, cc, ax, af, dw, rfl, rfl, et⟩
       refine AA _ et (AO (uv (Bg rfl rfl) ?_))
       refine Aa (Ao ?_)
       refine cQ (fun cf => ?_) fun cf => ?_
       ·obtain ⟨x, js, rfl, eu, gm, cg⟩ := BP.succ ax cf
        rw [E7] at dw
        refine An (Ao ?_)
        refine Am (AO ?_)
        obtain ⟨jt, ju, jv, j7, ew, ey, bb, ⟨_, _, rfl, ⟨rfl, dx⟩, ⟨dy, dz, rfl, jw⟩⟩, fa, fb⟩ := A6.at (AD (Ca (n := 24) (sz := 1) Bi) (Az (Ad _))) ae (L := (b1, ce #[.int .i64 Ae, .int .i64 Ac, .slice As Ak.length At, .slice AX Aw.length AW, .slice Bp A1.length Bq] 100) :: (ab ++ (ad ++ []))) (fC fP) gm.1 eu
        refine uv (AN underlying216 sizeOf223 rfl ew rfl (A6.idx ae gm)) (uv (AL (cs := (x.1.flatMap cB ++ (([.slice dy x.2.length dz] : List Value))).toArray) isAgg223 sizeOf223 rfl ey bb (By bb fa fb)) ?_)
        refine Bj rfl zeroValue223 ?_; intro gp j8
        refine AK (L' := (gp, ce (((List.replicate 24 false).flatMap cB ++ (([.slice none 0 0] : List Value))).toArray) 223) :: ((b1, ce #[.int .i64 Ae, .int .i64 Ac, .slice As Ak.length At, .slice AX Aw.length AW, .slice Bp A1.length Bq] 100) :: (ab ++ (ad ++ [])))) rfl (Hl (i := 0) sizeOf223 rfl rfl rfl (lz (la (FV Bi List.length_replicate) rfl)) (lz (la (FV Bi dx) rfl)) (OT (J4 Bi _) (by simp [Value.oneCell'])) (AK (L' := (gp, ce ((x.1.flatMap cB ++ (([.slice dy x.2.length dz] : List Value))).toArray) 223) :: ((b1, ce #[.int .i64 Ae, .int .i64 Ac, .slice As Ak.length At, .slice AX Aw.length AW, .slice Bp A1.length Bq] 100) :: (ab ++ (ad ++ [])))) rfl ?_))
        refine Cj (um (um ?_))
        refine uv (Ab TS rfl) ?_
        obtain ⟨gq, j9⟩ := A2 dw
        refine uv (Ci underlying221 sizeOf219 rfl rfl gq) ?_
        obtain ⟨gr, ja⟩ := A2 j9
        obtain ⟨x2, jx, fe, gu⟩ := Cb ja
        have ff : (k * 4 + k2 : Int).toNat = (k : Int).toNat * 4 + (k2 : Int).toNat := by have := gq; have := gr; omega
        have fg := KD Bi dx ff fe (J7 (BV (B := ([.slice dy x.2.length dz] : List Value)) (FV Bi dx))) (Hm (BV (B := ([.slice dy x.2.length dz] : List Value)) (FV Bi dx)))
        refine uv (Ci underlying219 sizeOf4 rfl rfl gr) (uv (Aj isAgg4 rfl (Has.own 0 rfl) ((fg).2.2 0 (by decide))) (Aa ?_))
        refine AY rfl (fun fh => ?_) (fun fh => ?_)
        ·have jb := bt gu fh
         refine Ai (um ?_)
         obtain ⟨jc, fi⟩ := A2 jb
         refine uv (Bd rfl rfl jc) ?_
         refine ua (Aa (Au (id := 5) (Ai ?_)))
         refine uv (Bd rfl rfl (BP.EP ax cf (A6.Xq ae))) ?_
         refine um (Aa ?_)
         subst cc; exact le (kd kr) ⟨_, _, rfl, cg, af + 1, fi, rfl, rfl, (sc rfl (sc rfl (sc rfl (sc rfl (sc rfl z8)))))⟩
        have fj := bf gu fh
        refine An (Au (id := 5) (Ai ?_))
        refine uv (Bd rfl rfl (BP.EP ax cf (A6.Xq ae))) ?_
        refine um (Aa ?_)
        subst cc; exact le (kd kr) ⟨_, _, rfl, cg, af, fj, rfl, rfl, (sc rfl (sc rfl (sc rfl (sc rfl (sc rfl z8)))))⟩
       obtain rfl := BP.zero ax cf
       rw [E7] at dw
       refine AQ (Af (Af ?_))
       refine Av ?_
       obtain rfl := AM dw
       exact mi kr ⟨rfl, rfl, (sc rfl z8)⟩
      refine AO (ua (Aa ?_))
      obtain ⟨v, cj, cn⟩ := AI EP
      refine jE (((b1, ce #[.int .i64 Ae, .int .i64 Ac, .slice As Ak.length At, .slice AX Aw.length AW, .slice Bp A1.length Bq] 100) :: (ab ++ (ad ++ [])))) [(1, .pointer (some ⟨b1, 0, none⟩)), (5, .slice ay az ba), (7, .slice ai aa aa), (8, .int .i64 k), (13, .int .i64 v), (27, .int .i64 (l2.length : Int)), (28, .int .i64 k), (32, .int .i64 Ac), (33, .int .i64 k2)] ?_ ?_
      ·clear cn
       refine AO (um (Aa ?_))
       refine Am ?_
       refine AO (um ?_)
       refine uv ((A3 underlying216 rfl).i (A6.Je ae)) (uv (Dn rfl rfl) ?_)
       refine ua (Aa ?_)
       refine cQ (fun br => ?_) fun br => ?_
       ·have fk := A8 cj br
        refine Ai (ua (Aa (Au (id := 6) ?_)))
        obtain rfl := AM fk
        exact mi kr ⟨rfl, rfl, (sc rfl z8)⟩
       have cp := A9 cj br
       refine AO (uv (Dn rfl rfl) ?_)
       refine ua (Aa ?_)
       refine cQ (fun bu => ?_) fun bu => ?_
       ·have fl := A8 cp bu
        refine Ai (ua (Aa (Au (id := 6) ?_)))
        obtain rfl := AM fl
        exact mi kr ⟨rfl, rfl, (sc rfl z8)⟩
       have fm := A9 cp bu
       refine An (Au (id := 6) ?_)
       obtain rfl := AM fm
       exact mi kr ⟨rfl, rfl, (sc rfl z8)⟩
      refine Ai (um (um (um (um ?_))))
      obtain ⟨x3, al, cq, fo⟩ := Cb cn
      have ao := (LO.D9 bq).1
      refine Xe (fC (fS fP)) bq cq ?_; intro cr bc bg jd je jf ct bj aj cu cv
      refine kO (kf (fS (fS (fS fO))) kr) ?_
      obtain ⟨jg, jh, ji, gv, cw, cx, fp, rfl, gw, cy⟩ := A6.at Ni aj (L := (b1, ce #[.int .i64 Ae, .int .i64 Ac, .slice As Ak.length At, .slice AX Aw.length AW, .slice Bp A1.length Bq] 100) :: (bc ++ (ct ++ (bg ++ (ab ++ []))))) (fC fP) al.1 bj
      refine uv (AN underlying103 sizeOf123 rfl cw rfl (aI ao al)) (uv (Aj isAgg123 rfl cx (cy 0 (by decide))) (um ?_))
      refine bA (cs := #[.int .i64 v]) PJ [.int .i64 v] ?_; intro jj gz
      obtain ⟨l3, fq, ft, fv⟩ := Hv fo
      refine Fg (xs := x3) (ys := [v]) (zs := l3) rfl PJ rfl rfl (Nat.le_refl _) (fun _ => .c (.c (.s .h))) cu (HE.box (vss := [[.int .i64 v]]) (ys := [v]) 0 rfl (Ad _) (.cons rfl .nil) rfl rfl) fq ft (by decide) ?_; intro cz da db dd de
      refine kO (kd kr) ?_
      obtain ⟨jk, jl, jm, ia, bk, ib, fw, rfl, ic, ie⟩ := A6.at Ni aj (L := (b1, ce #[.int .i64 Ae, .int .i64 Ac, .slice As Ak.length At, .slice AX Aw.length AW, .slice Bp A1.length Bq] 100) :: (bc ++ (dd ++ (bg ++ (ab ++ []))))) (fC fP) al.1 bj
      refine uv (AN underlying103 sizeOf123 rfl bk rfl (aI ao al)) ?_
      refine GM (zs := cr.set (k : Int).toNat (cz, da, db)) (u := (cz, da, db)) sizeOf123 Ni rfl bk rfl rfl (fun _ => .c .h) aj rfl (cE ao aj al) ?_; intro ig df
      obtain ⟨fx, fy, ga⟩ := DK fv
      refine Wo (p := fun X => LO K.w0.heap.size 123 124 1 (iE .i64) F4 ai aa aa fx X) (Ux.back cv df de fy) (pT ((fC fP).trans (pA ((fC fP).trans (pA ((fC fP).trans (pA pR)))))) (lp (lp (lp (ln rfl))))) ?_; intro dg dh
      refine kO (kf (fS fO) kr) ?_
      refine Aa (Au (id := 3) ?_)
      obtain rfl := AM ga
      exact mi (kc (kg (fS fP) kr)) ⟨dg, rfl, rfl, z8, dh⟩
     rintro e1 _ _ ⟨aw, rfl, rfl, di, gb⟩
     refine AA _ di (Ai (uv (Bd rfl rfl (Fp.EP bp dv j3)) ?_))
     refine um (Aa ?_)
     exact le kr ⟨_, er, cb, aw, gk, rfl, rfl, z8, gb⟩
    obtain rfl := Fp.zero bp dv
    rw [Gt] at du
    refine AQ (Af (Af ?_))
    refine Av (Au (id := 1) ?_)
    obtain rfl := AM du
    exact mi kr ⟨ad, rfl, rfl, z5, bq⟩
   rintro e1 _ _ ⟨av, rfl, rfl, dk, gg⟩
   refine AA _ dk (Ai (uv (Bd rfl rfl (Fp.EP bm dr iy)) ?_))
   refine um (Aa ?_)
   exact le kr ⟨_, ej, bn, av, gj, rfl, rfl, z5, gg⟩
  obtain rfl := Fp.zero bm dr
  rw [Gi] at dq
  refine AQ (Af (Af ?_))
  refine Av ?_
  obtain rfl := AM dq
  exact mi (kd (kx kr)) ⟨ak, rfl, rfl, z1, ca⟩
 rintro e1 _ _ ⟨bl, rfl, rfl, dm, dn⟩
 refine AA _ dm ?_
 refine AO (um (ua (ua (Aa ?_))))
 obtain rfl := (LO.D9 dn).1
 refine Ty (Nat.le_refl _) (Ad _) fP dn ?_; intro jn ij gh
 refine Al (CP results31 (AR rfl) (AR rfl) (sr) ?_)
 obtain ⟨rfl, rfl⟩ := DH gi
 exact ⟨_, _, rfl, rfl, gh⟩
theorem I3 {r : Bool} (hr : H3 n lo hi = some r) :
    Bw Tryz.prog 121 #[.int .i64 n, .int .i64 lo, .int .i64 hi] F (.bool r) := by
 refine sp func121 ntmps121 fun K _ _ => ?_
 rw [H3] at hr
 refine AO (ua (Cj (um (um ?_))))
 refine uv (Hn rfl rfl) (um ?_)
 by_cases c1 : lo ≤ n
 ·have r2 := A8 hr c1
  refine nT c1 (um (nT c1 (um (nT c1 ?_))))
  refine uv (LG rfl rfl) (uv (AP (Bf rfl c1) rfl) ?_)
  refine ua (Aa (Al ?_))
  refine Cq results121 ?_
  obtain rfl := AM r2
  exact rfl
 have r3 := A9 hr c1
 refine fF c1 (fF c1 (fF c1 ?_))
 refine uv (AB (AU rfl c1) rfl) ?_
 refine ua (Aa (Al ?_))
 refine Cq results121 ?_
 obtain rfl := AM r3
 exact rfl
theorem IZ (_h_plots : Ax 1 (iE .i64) F AS AT plots) {r : Bool} (hr : Fa wide plots p = some r) :
    Bw Tryz.prog 47 #[.agg #[.int .i64 wide, .slice AS plots.length AT], .int .i64 p] F (.bool r) := by
 refine sp func47 ntmps47 fun K _ _ => ?_
 rw [Fa] at hr
 refine AO ?_
 refine BH rfl rfl ?_; intro b1 aa
 refine ua (Cj (um ?_))
 refine uv (Ab Dd rfl) (uv (Aj isAgg25 rfl (Has.own 0 rfl) rfl) (uv (A3 underlying25 rfl) ?_))
 obtain ⟨g2, r3⟩ := A2 hr
 refine uv (Gl rfl rfl g2) ?_
 obtain ⟨ok, h4, r5⟩ := AI r3
 refine cV call121 (I3 h4) ?_
 refine ua (Aa ?_)
 refine kW kn (Al (Cq results47 ?_))
 obtain rfl := AM r5
 exact rfl
theorem J8 {kind : Int} (aa : Ax 1 (iE .i64) F AS AT plots) {r : Int} (hr : GI wide plots p kind = some r) :
    Bw Tryz.prog 65 #[.agg #[.int .i64 wide, .slice AS plots.length AT], .int .i64 p, .int .i64 kind] F (.int .i64 r) := by
 refine sp func65 ntmps65 fun K _ _ => ?_
 rw [GI] at hr
 refine AO ?_
 refine BH rfl rfl ?_; intro b1 aq
 refine ua (Aa (Ao ?_))
 refine Am (AO (uv (AL isAgg27 sizeOf27 rfl (Has.own 0 rfl) (Ce rfl) rfl) (um ?_)))
 obtain ⟨ok, h2, r3⟩ := AI hr
 refine cV call47 (IZ aa h2) (uv (Cc rfl) ?_)
 refine ua (Aa ?_)
 refine AY rfl (fun c4 => ?_) (fun c4 => ?_)
 ·have r5 := bt r3 c4
  refine AO (ua (Aa ?_))
  refine kW kn ?_
  refine Al (Ay (Ah ?_))
  refine Cq results65 ?_
  obtain rfl := AM r5
  exact rfl
 have r6 := bf r3 c4
 refine AO (uv (Ab Dd rfl) (uv (Aj isAgg25 rfl (Has.own 0 rfl) rfl) (um ?_)))
 obtain ⟨x, g7, ai, r9⟩ := Cb r6
 obtain ⟨H5, ar, au, aj, ab, ad, ah, rfl, ak, ae⟩ := Ax.at (Ad _) aa ([(b1, ce #[.int .i64 wide, .slice AS plots.length AT] 27)]) g7.1 ai
 refine uv (AN underlying25 sizeOf34 rfl ab rfl g7) (uv (Aj isAgg34 rfl ad (ae 0 (by decide))) (um (uv (B8 rfl rfl) ?_)))
 refine ua (Aa ?_)
 refine cQ (fun af => ?_) fun af => ?_
 ·have al := A8 r9 af
  refine AO (ua (Aa ?_))
  refine kW kn ?_
  refine Al (Ay (Ah ?_))
  refine Cq results65 ?_
  obtain rfl := AM al
  exact rfl
 have ao := A9 r9 af
 refine An (Au (id := 0) (AO (ua (Aa ?_))))
 refine kW kn (Al (Cq results65 ?_))
 obtain rfl := AM ao
 exact rfl
set_option maxHeartbeats 1000000 in
theorem Hg {s_ : List Int} {f : Int → Option Bool} (aa : Ax 1 (iE .i64) F B5 B0 s_) (aj : IQ Tryz.prog F Mk Mz Md (iE .i64) Value.bool f) {r : Int} (hr : CS s_ f = some r) :
    Bw Tryz.prog 230 #[.slice B5 s_.length B0, .func (.func Mk) Mz Md] F (.int .i64 r) := by
 refine sp func230 ntmps230 fun K _ _ => ?_
 rw [CS] at hr
 refine AO (ua (Aa ?_))
 refine AV (fun e1 F1 L1 => Dm = some r ∧ F = F1 ∧ L1 = [] ∧ e1.sub []) ?_ ?_
 ·refine AO (um ?_)
  refine uv (A3 underlying25 rfl) ?_
  refine um (Aa ?_)
  refine Am ?_
  refine Bk (fun ak e1 F1 L1 => LA s_ ak fun tl k => Bu f tl k = some r ∧ F = F1 ∧ L1 = [] ∧ e1.sub [(0, .slice B5 s_.length B0), (1, .func (.func Mk) Mz Md), (7, .int .i64 (s_.length : Int)), (8, .int .i64 k)]) _ (m0 kr ⟨_, _, rfl, BP.start _, hr, rfl, rfl, z4⟩) ?_
  rintro ak e1 _ _ ⟨tl, k, ar, ab, r3, rfl, rfl, au⟩
  refine AA _ au (AO (uv (Bg rfl rfl) ?_))
  refine Aa (Ao ?_)
  refine cQ (fun c6 => ?_) fun c6 => ?_
  ·obtain ⟨x, bc, rfl, av, g9, aw⟩ := BP.succ ab c6
   rw [Bu] at r3
   refine An (Ao ?_)
   refine Am ?_
   refine AO (um (ua (Cj (um (um (um ?_))))))
   obtain ⟨H5, bg, bj, ax, ad, ae, al, rfl, ay, af⟩ := Ax.at (Ad _) aa ([]) g9.1 av
   refine uv (AN underlying25 sizeOf34 rfl ad rfl g9) (uv (Aj isAgg34 rfl ae (af 0 (by decide))) ?_)
   obtain ⟨ok, az, ao⟩ := AI r3
   refine FI rfl aj.1 rfl rfl rfl (aj.2 _ (AZ.refl _) _ _ _ rfl az) (Aa ?_)
   refine AY rfl (fun ah => ?_) (fun ah => ?_)
   ·have ba := bt ao ah
    refine AO (um (ua (Aa (Al (Ay (Ah (Ah (Ay (Ah ?_)))))))))
    refine Cq results230 ?_
    obtain rfl := AM ba
    exact rfl
   have bb := bf ao ah
   refine An (Au (id := 1) (Ai ?_))
   refine uv (Bd rfl rfl (BP.EP ab c6 (Ax.lt aa))) ?_
   refine um (Aa ?_)
   subst ar; exact le kr ⟨_, _, rfl, aw, bb, rfl, rfl, z4⟩
  obtain rfl := BP.zero ab c6
  rw [Bu] at r3
  refine AQ (Af (Af ?_))
  refine Av ?_
  exact mi kr ⟨r3, rfl, rfl, (sn _)⟩
 rintro e1 _ _ ⟨aq, rfl, rfl, ai⟩
 refine AA _ ai ?_
 rw [Dm] at aq
 refine AO (ua (Aa (Al ?_)))
 refine Cq results230 ?_
 obtain rfl := AM aq
 exact rfl
theorem GQ {s_ : List Int} {f : Int → Option Bool} (aa : Ax 1 (iE .i64) F B5 B0 s_) (ab : IQ Tryz.prog F Mk Mz Md (iE .i64) Value.bool f) {r : Bool} (hr : Cu s_ f = some r) :
    Bw Tryz.prog 192 #[.slice B5 s_.length B0, .func (.func Mk) Mz Md] F (.bool r) := by
 refine sp func192 ntmps192 fun K _ _ => ?_
 rw [Cu] at hr
 refine AO (ua (Cj (um (um ?_))))
 obtain ⟨n, h1, r2⟩ := AI hr
 refine cV call230 (Hg aa ab h1) (uv (Hn rfl rfl) ?_)
 refine ua (Aa (Al ?_))
 refine Cq results192 ?_
 obtain rfl := AM r2
 exact rfl
theorem MV {x : Int} {so : Int → Option Bool} (aa : F QH = some (.cells #[.func (.func Kw) KF Kx] 287 RI)) (ab : IQ Tryz.prog F Kw KF Kx (iE .i64) Value.bool so) {r : Bool} (hr : EL x so = some r) :
    Bw Tryz.prog 193 #[.int .i64 x, .pointer (some ⟨QH, 0, none⟩)] F (.bool r) := by
 refine sp func193 ntmps193 fun K _ _ => ?_
 rw [EL] at hr
 refine AO (ua (Cj ?_))
 refine uv (Aj isAgg287 rfl (Has.frozen aa) rfl) (um ?_)
 obtain ⟨ok, h1, r2⟩ := AI hr
 refine FI rfl ab.1 rfl rfl rfl (ab.2 _ (AZ.refl _) _ _ _ rfl h1) (uv (Cc rfl) ?_)
 refine ua (Aa (Al ?_))
 refine Cq results193 ?_
 obtain rfl := AM r2
 exact rfl
theorem N3 {l : List Int} {so : Int → Option Bool} (ab : Ax 1 (iE .i64) F Oz N5 l) (aa : IQ Tryz.prog F Kw KF Kx (iE .i64) Value.bool so) {r : Bool} (hr : GP l so = some r) :
    Bw Tryz.prog 141 #[.slice Oz l.length N5, .func (.func Kw) KF Kx] F (.bool r) := by
 refine sp func141 ntmps141 fun K _ _ => ?_
 rw [GP] at hr
 refine AO ?_
 refine BH rfl rfl ?_; intro b1 af
 refine ua (Cj (um ?_))
 refine uv (C8 rfl rfl) ?_
 refine Bo 0 rfl af ?_; intro F2 ad ah
 refine AK rfl ?_
 replace ab := ab.mono (Ad _) ad
 replace aa := aa.mono ad
 have ai : IQ Tryz.prog F2 193 #[] #[.pointer (some ⟨b1, 0, none⟩)] (iE .i64) Value.bool (fun ae : Int => EL ae so) := ⟨call193, fun F2 h2 vs ae r ha hr => by obtain rfl := ha; exact MV (h2 _ _ ah) (aa.mono h2) hr⟩
 obtain ⟨ok, h6, r7⟩ := AI hr
 refine cV call192 (GQ ab ai h6) (uv (Cc rfl) ?_)
 refine ua (Aa (Al ?_))
 refine Cq results141 ?_
 obtain rfl := AM r7
 exact rfl
theorem QX {r : Bool} (hr : It p = some r) :
    Bw Tryz.prog 142 #[.int .i64 p] F (.bool r) := by
 refine sp func142 ntmps142 fun K _ _ => ?_
 rw [It] at hr
 refine AO (ua (Cj (um ?_)))
 obtain ⟨ok, h1, r2⟩ := AI hr
 refine cV call121 (I3 h1) ?_
 refine ua (Aa (Al ?_))
 refine Cq results142 ?_
 obtain rfl := AM r2
 exact rfl
set_option maxHeartbeats 1000000 in
theorem Nv (aa : Ax 1 (iE .i64) F AS AT plots) {r : Int} (hr : Gg wide plots = some r) :
    Bw Tryz.prog 143 #[.agg #[.int .i64 wide, .slice AS plots.length AT]] F (.int .i64 r) := by
 refine sp func143 ntmps143 fun K _ _ => ?_
 rw [Gg] at hr
 refine AO ?_
 refine BH rfl rfl ?_; intro b1 ba
 refine ua (Cj (ua (Aa ?_)))
 obtain ⟨n, h2, r3⟩ := AI hr
 refine jE ([]) [(3, .int .i64 n)] ?_ ?_
 ·clear r3
  refine AO (uv (Ab Dd rfl) (uv (Aj isAgg25 rfl (Has.own 0 rfl) rfl) (uv (A3 underlying25 rfl) ?_)))
  refine um (Aa ?_)
  refine Am (kW kn ?_)
  refine Bk (fun ak e1 F1 L1 => LA plots ak fun tl k => ∃ (n2 : Int), CT tl n2 = some n ∧ F = F1 ∧ L1 = [] ∧ e1.sub [(3, .int .i64 n2), (7, .slice AS plots.length AT), (8, .int .i64 (plots.length : Int)), (9, .int .i64 k)]) _ (m0 kr ⟨_, _, rfl, BP.start _, 0, h2, rfl, rfl, z4⟩) ?_
  rintro ak e1 _ _ ⟨tl, k, al, ad, n2, r6, rfl, rfl, ar⟩
  refine AA _ ar (AO (uv (Bg rfl rfl) ?_))
  refine Aa (Ao ?_)
  refine cQ (fun c9 => ?_) fun c9 => ?_
  ·obtain ⟨x, bb, rfl, ae, ao, ab⟩ := BP.succ ad c9
   rw [CT] at r6
   refine An (Ao ?_)
   refine Am (AO ?_)
   obtain ⟨bc, bg, bj, au, af, ah, aq, rfl, av, ai⟩ := Ax.at (Ad _) aa ([]) ao.1 ae
   refine uv (AN underlying25 sizeOf34 rfl af rfl ao) (uv (Aj isAgg34 rfl ah (ai 0 (by decide))) ?_)
   refine ua (Cj (um ?_))
   refine uv (Dn rfl rfl) (Aa ?_)
   refine cQ (fun aj => ?_) fun aj => ?_
   ·have aw := A8 r6 aj
    refine Ai (um ?_)
    obtain ⟨ax, ay⟩ := A2 aw
    refine uv (Bd rfl rfl ax) ?_
    refine ua (Aa (Au (id := 1) (Ai ?_)))
    refine uv (Bd rfl rfl (BP.EP ad c9 (Ax.lt aa))) ?_
    refine um (Aa ?_)
    subst al; exact le kr ⟨_, _, rfl, ab, n2 + 1, ay, rfl, rfl, z4⟩
   have az := A9 r6 aj
   refine An (Au (id := 1) (Ai ?_))
   refine uv (Bd rfl rfl (BP.EP ad c9 (Ax.lt aa))) ?_
   refine um (Aa ?_)
   subst al; exact le kr ⟨_, _, rfl, ab, n2, az, rfl, rfl, z4⟩
  obtain rfl := BP.zero ad c9
  rw [CT] at r6
  refine AQ (Af (Af ?_))
  refine Av ?_
  obtain rfl := AM r6
  exact mi kr ⟨rfl, rfl, z1⟩
 refine AO (um (ua (Aa (Al ?_))))
 refine Cq results143 ?_
 obtain rfl := AM r3
 exact rfl
set_option maxHeartbeats 1000000 in
theorem Lm (ab : Ax 1 (iE .i64) F AS AT plots) {r : Int} (hr : Ic wide plots = some r) :
    Bw Tryz.prog 64 #[.agg #[.int .i64 wide, .slice AS plots.length AT]] F (.int .i64 r) := by
 refine sp func64 ntmps64 fun K _ _ => ?_
 rw [Ic] at hr
 refine AO ?_
 refine BH rfl rfl ?_; intro b1 bj
 refine ua (Aa (Ao ?_))
 refine Am ?_
 obtain ⟨k, h2, r3⟩ := AI hr
 refine jE ([(b1, ce #[.int .i64 wide, .slice AS plots.length AT] 27)]) [(1, .pointer (some ⟨b1, 0, none⟩)), (3, .bool k)] ?_ ?_
 ·clear r3
  refine Ai (uv (Ab I7 rfl) (uv (Aj isAgg3 rfl (Has.own 0 rfl) rfl) ?_))
  obtain ⟨ok, h4, r5⟩ := AI h2
  refine cV call121 (I3 h4) (uv (Cc rfl) (um ?_))
  rcases Dc (!ok) with c6 | c6
  ·have r7 := bt r5 c6
   refine fB c6 (fB c6 (fB c6 (fB c6 (fB c6 ?_))))
   refine uv (AP (IW rfl c6) rfl) ?_
   refine um (AH (b' := true) 15 rfl rfl rfl rfl (AH (b' := true) 15 rfl rfl rfl rfl (AH (b' := true) 15 rfl rfl rfl rfl (AH (b' := true) 15 rfl rfl rfl rfl (AH (b' := true) 15 rfl rfl rfl rfl (AH (b' := true) 15 rfl rfl rfl rfl (AH (b' := true) 15 rfl rfl rfl rfl ?_)))))))
   refine uv (AP rfl rfl) ?_
   refine ua (Aa ?_)
   obtain rfl := AM r7
   exact mi kr ⟨rfl, rfl, z2⟩
  have r8 := bf r5 c6
  refine nB c6 (uv (Ab Dd rfl) (nB c6 (uv (Aj isAgg25 rfl (Has.own 0 rfl) rfl) (nB c6 (uv (A3 underlying25 rfl) (nB c6 ?_))))))
  obtain ⟨ao, h9, ai⟩ := AI r8
  refine cV call121 (I3 h9) (nB c6 (uv (Cc rfl) (uv (AB (IW rfl c6) rfl) (um ?_))))
  rcases Dc (!ao) with aa | aa
  ·have aq := bt ai aa
   refine fB aa (fB aa (fB aa (fB aa (fB aa (fB aa (fB aa ?_))))))
   refine uv (AP (IW rfl aa) rfl) ?_
   refine ua (Aa ?_)
   obtain rfl := AM aq
   exact mi kr ⟨rfl, rfl, z2⟩
  have ar := bf ai aa
  refine nB aa (uv (Ab Dd rfl) (nB aa (uv (Aj isAgg25 rfl (Has.own 0 rfl) rfl) (nB aa (uv (A3 underlying25 rfl) (nB aa (uv (Ab I7 rfl) ?_)))))))
  refine nB aa (uv (Aj isAgg3 rfl (Has.own 0 rfl) rfl) (nB aa ?_))
  obtain ⟨au, av⟩ := A2 ar
  refine uv (NG rfl rfl au) (nB aa (uv (B8 rfl rfl) (uv (AB (IW rfl aa) rfl) ?_)))
  refine ua (Aa ?_)
  obtain rfl := AM av
  exact mi kr ⟨rfl, rfl, z2⟩
 refine AY rfl (fun ad => ?_) (fun ad => ?_)
 ·have aw := bt r3 ad
  refine AO (ua (Aa ?_))
  refine kW kn ?_
  refine Al (Ay (Ah ?_))
  refine Cq results64 ?_
  obtain rfl := AM aw
  exact rfl
 have ax := bf r3 ad
 refine AO (uv (Ab Dd rfl) (uv (Aj isAgg25 rfl (Has.own 0 rfl) rfl) ?_))
 have ae : IQ Tryz.prog F 142 #[] #[] (iE .i64) Value.bool (fun aj : Int => It aj) := ⟨call142, fun F2 h2 vs aj r ha hr => by obtain rfl := ha; exact QX hr⟩
 obtain ⟨bk, ay, ak⟩ := AI ax
 refine cV call141 (N3 ab ae ay) (uv (Cc rfl) ?_)
 refine ua (Aa ?_)
 refine AY rfl (fun af => ?_) (fun af => ?_)
 ·have az := bt ak af
  refine AO (ua (Aa ?_))
  refine kW kn ?_
  refine Al (Ay (Ah ?_))
  refine Cq results64 ?_
  obtain rfl := AM az
  exact rfl
 have ba := bf ak af
 refine AO (uv (AL isAgg27 sizeOf27 rfl (Has.own 0 rfl) (Ce rfl) rfl) ?_)
 obtain ⟨n, bb, al⟩ := AI ba
 refine cV call143 (Nv ab bb) (uv (JU rfl rfl) ?_)
 refine ua (Aa ?_)
 refine cQ (fun ah => ?_) fun ah => ?_
 ·have bc := A8 al ah
  refine AO (ua (Aa ?_))
  refine kW kn ?_
  refine Al (Ay (Ah ?_))
  refine Cq results64 ?_
  obtain rfl := AM bc
  exact rfl
 have bg := A9 al ah
 refine An (Au (id := 0) (AO (ua (Aa ?_))))
 refine kW kn (Al (Cq results64 ?_))
 obtain rfl := AM bg
 exact rfl
theorem Le {w : Int} {r : Bool} (hr : Gq w = some r) :
    Bw Tryz.prog 189 #[.int .i64 w] F (.bool r) := by
 refine sp func189 ntmps189 fun K _ _ => ?_
 rw [Gq] at hr
 refine AO (ua (Cj (um ?_)))
 obtain ⟨ok, h1, r2⟩ := AI hr
 refine cV call121 (I3 h1) ?_
 refine ua (Aa (Al ?_))
 refine Cq results189 ?_
 obtain rfl := AM r2
 exact rfl
theorem Sf {r : List (Int × (Int × Int))} (hr : Nw = some r) :
    SH.Spec Tryz.prog 190 #[] F [] fun _ L' v => ∃ (rb : Nat) (res : Array MapEntry) (aj : Nat), v = .map (some rb) ∧ L' = [(rb, .map res aj)] ∧ Er (Value.int .i64) (vA (cP (cI .i64) (cI .i64))) res r := by
 refine sp func190 ntmps190 fun K _ _ => ?_
 rw [Nw] at hr
 refine AO (ua (Cj ?_))
 refine KJ rfl ?_; intro b1 bb
 refine uv (Bx (v := .agg #[.int .i64 (-1), .int .i64 0]) rfl (by intro w; kernel_rfl)) ?_
 refine Mq (i := 0) (k := 1) (v := (-1, 0)) underlying331 (JO underlying29) rfl rfl rfl rfl (show Er (Value.int .i64) (vA (cP (cI .i64) (cI .i64))) #[] ([] : List (Int × (Int × Int))) from Er.nil) ?_; intro ak bc ah
 obtain ⟨met, h5, r6⟩ := DK hr
 rw [← h5] at ah
 refine AK rfl ?_
 refine uv (Bx (v := .agg #[.int .i64 0, .int .i64 1]) rfl (by intro w; kernel_rfl)) ?_
 refine Mq (i := 0) (k := 2) (v := (0, 1)) underlying331 (JO underlying29) rfl rfl rfl rfl (show Er (Value.int .i64) (vA (cP (cI .i64) (cI .i64))) ak (met : List (Int × (Int × Int))) from ah) ?_; intro al bg ai
 obtain ⟨ad, ao, aq⟩ := DK r6
 rw [← ao] at ai
 refine AK rfl ?_
 refine uv (Bx (v := .agg #[.int .i64 1, .int .i64 0]) rfl (by intro w; kernel_rfl)) ?_
 refine Mq (i := 0) (k := 3) (v := (1, 0)) underlying331 (JO underlying29) rfl rfl rfl rfl (show Er (Value.int .i64) (vA (cP (cI .i64) (cI .i64))) al (ad : List (Int × (Int × Int))) from ai) ?_; intro ae ar aa
 obtain ⟨af, au, av⟩ := DK aq
 rw [← au] at aa
 refine AK rfl ?_
 refine uv (Bx (v := .agg #[.int .i64 0, .int .i64 (-1)]) rfl (by intro w; kernel_rfl)) ?_
 refine Mq (i := 0) (k := 4) (v := (0, -1)) underlying331 (JO underlying29) rfl rfl rfl rfl (show Er (Value.int .i64) (vA (cP (cI .i64) (cI .i64))) ae (af : List (Int × (Int × Int))) from aa) ?_; intro aw ax ab
 obtain ⟨ay, az, ba⟩ := DK av
 rw [← az] at ab
 refine AK rfl ?_
 refine um (ua (Aa (Al ?_)))
 refine Cq results190 ?_
 obtain rfl := AM ba
 exact ⟨_, _, _, rfl, rfl, ab⟩
set_option maxHeartbeats 1000000 in
theorem Na (aa : Ax 1 (iE .i64) F AS AT plots) {r : Option (Int × (List Int) × Int × Int × Bool)} {r2 : Int} (hr : Ii wide plots BC = some (r, r2)) :
    SH.Spec Tryz.prog 131 #[.agg #[.int .i64 wide, .slice AS plots.length AT], .int .i64 BC] F [] fun F' L' v => ∃ (rv : Value), v = .tuple #[rv, .int .i64 r2] ∧ L' = [] ∧ Rj 323 (Cd (iE .i64) (Cd (Cn 1 (iE .i64)) (Cd (iE .i64) (Cd (iE .i64) bE)))) F' rv r := by
 refine sp func131 ntmps131 fun K _ _ => ?_
 rw [Ii] at hr
 refine AO ?_
 refine BH rfl rfl ?_; intro b1 ax
 refine ua (ua (Aa (Ao (AO ?_))))
 refine uv (AL isAgg27 sizeOf27 rfl (Has.own 0 rfl) (Ce rfl) rfl) ?_
 obtain ⟨n, h2, r3⟩ := AI hr
 refine cV call64 (Lm aa h2) ?_
 refine ua (Cj (um ?_))
 refine uv (B8 rfl rfl) (Aa ?_)
 refine cQ (fun c4 => ?_) fun c4 => ?_
 ·have r5 := A8 r3 c4
  refine AO (um (ua (ua (Aa ?_))))
  refine kW kn ?_
  refine Al (Ah ?_)
  refine CP results131 (AR rfl) (AR rfl) (sr) ?_
  obtain ⟨rfl, rfl⟩ := DH r5
  exact ⟨_, rfl, rfl, rfl⟩
 have r6 := A9 r3 c4
 refine An (Ao (AO (um ?_)))
 obtain ⟨ok, h7, r8⟩ := AI r6
 refine cV call189 (Le h7) (uv (Cc rfl) (Aa ?_))
 refine AY rfl (fun c9 => ?_) (fun c9 => ?_)
 ·have ak := bt r8 c9
  refine AO (ua (ua (Aa ?_)))
  refine kW kn ?_
  refine Al (Ah ?_)
  refine CP results131 (AR rfl) (AR rfl) (sr) ?_
  obtain ⟨rfl, rfl⟩ := DH ak
  exact ⟨_, rfl, rfl, rfl⟩
 have al := bf r8 c9
 refine An (AO ?_)
 obtain ⟨m, ao, aq⟩ := AI al
 refine c0 call190 (Sf ao) ?_; rintro _ ay _ ad ar ⟨au, ab, ae, rfl, rfl, af⟩
 replace aa := aa.mono (Ad _) ad
 refine AK (lb (ln rfl)) (um (uv (Fw.eq (v' := .tuple #[.agg #[.int .i64 (((A7 m BC).getD (0, 0)).1), .int .i64 (((A7 m BC).getD (0, 0)).2)], .bool ((A7 m BC).isSome)]) (LZ (k := BC) (z0 := (0, 0)) rfl underlying331 (JO underlying29) zeroValue321 rfl rfl (KW.own 0 rfl) (show Er (Value.int .i64) (vA (cP (cI .i64) (cI .i64))) ab (m : List (Int × (Int × Int))) from af)) rfl) ?_))
 refine um (ox rfl rfl rfl (ox rfl rfl rfl ?_))
 refine Bj rfl zeroValue321 ?_; intro av aw
 refine Br (i := 0) sizeOf321 rfl rfl rfl (by simp [Value.oneCell']) rfl (Ce rfl) (AK rfl ?_)
 refine ua (Cj ?_)
 refine uv (AL isAgg27 sizeOf27 rfl (Has.own 2 rfl) (Ce rfl) rfl) (uv (AL isAgg321 sizeOf321 rfl (Has.own 0 rfl) (Ce rfl) rfl) (um ?_))
 refine uv (Bx (v := .agg #[.int .i64 wide, .slice AS plots.length AT, .int .i64 (((A7 m BC).getD (0, 0)).1), .int .i64 (((A7 m BC).getD (0, 0)).2), .bool ((A7 m BC).isSome)]) rfl (by intro w; kernel_rfl)) ?_
 refine BH rfl rfl ?_; intro az ah
 refine ua (ua (Aa ?_))
 refine CX 0 rfl ah ?_; intro ba ai aj
 refine Fi (L' := [(av, ce #[.int .i64 (((A7 m BC).getD (0, 0)).1), .int .i64 (((A7 m BC).getD (0, 0)).2)] 321), (au, .map ab ae), (b1, ce #[.int .i64 wide, .slice AS plots.length AT] 27)]) rfl ?_
 replace aa := aa.mono (Ad _) ai
 refine kW kn (Al (CP results131 (AR rfl) (AR rfl) (sr) ?_))
 obtain ⟨rfl, rfl⟩ := DH aq
 exact ⟨_, rfl, rfl, ⟨_, _, _, rfl, aj, ⟨_, _, rfl, rfl, ⟨_, _, rfl, ⟨_, _, rfl, aa⟩, ⟨_, _, rfl, rfl, ⟨_, _, rfl, rfl, rfl⟩⟩⟩⟩⟩⟩
theorem Px (aa : Ax 1 (iE .i64) F AS AT plots) {r : Option (Int × (List Int) × Int × Int × Bool)} {r2 : Int} (hr : HU wide plots BC stand = some (r, r2)) :
    SH.Spec Tryz.prog 116 #[.agg #[.int .i64 wide, .slice AS plots.length AT], .int .i64 BC, .int .i64 stand] F [] fun F' L' v => ∃ (rv : Value), v = .tuple #[rv, .int .i64 r2] ∧ L' = [] ∧ Rj 323 (Cd (iE .i64) (Cd (Cn 1 (iE .i64)) (Cd (iE .i64) (Cd (iE .i64) bE)))) F' rv r := by
 refine sp func116 ntmps116 fun K _ _ => ?_
 rw [HU] at hr
 refine AO ?_
 refine BH rfl rfl ?_; intro b1 aq
 refine ua (ua (Cj ?_))
 refine uv (AL isAgg27 sizeOf27 rfl (Has.own 0 rfl) (Ce rfl) rfl) (um ?_)
 obtain ⟨d, n, h2, r3⟩ := DA hr
 refine c0 call131 (Na aa h2) ?_; rintro _ F4 _ af ar ⟨v8, rfl, rfl, ah⟩
 replace aa := aa.mono (Ad _) af
 refine AK (ln rfl) ?_
 refine um (ox rfl rfl rfl (ox rfl rfl rfl (ua (ua (Aa (Ao (AO (um ?_))))))))
 refine uv (B8 rfl rfl) (Aa ?_)
 refine cQ (fun ab => ?_) fun ab => ?_
 ·have ai := A8 r3 ab
  refine AO (um (ua (ua (Aa ?_))))
  refine kW kn ?_
  refine Al (Ah ?_)
  refine CP results116 (AR rfl) (AR rfl) (sr) ?_
  obtain ⟨rfl, rfl⟩ := DH ai
  exact ⟨_, rfl, rfl, rfl⟩
 have aj := A9 r3 ab
 refine An (Ao (AO ?_))
 refine uv (AL isAgg27 sizeOf27 rfl (Has.own 0 rfl) (Ce rfl) rfl) (um ?_)
 obtain ⟨n2, ak, ae⟩ := AI aj
 refine cV call65 (J8 aa ak) ?_
 refine ua (Cj (um ?_))
 refine uv (B8 rfl rfl) (Aa ?_)
 refine cQ (fun ad => ?_) fun ad => ?_
 ·have al := A8 ae ad
  refine AO (um (ua (ua (Aa ?_))))
  refine kW kn ?_
  refine Al (Ah ?_)
  refine CP results116 (AR rfl) (AR rfl) (sr) ?_
  obtain ⟨rfl, rfl⟩ := DH al
  exact ⟨_, rfl, rfl, rfl⟩
 have ao := A9 ae ad
 refine An (AO (um (ua (ua (Aa ?_)))))
 refine kW kn (Al (CP results116 (AR rfl) (AR rfl) (sr) ?_))
 obtain ⟨rfl, rfl⟩ := DH ao
 exact ⟨_, rfl, rfl, ah⟩
theorem OU (aa : Ax 1 (iE .i64) F AS AT plots) {r : Bool} (hr : Fh wide plots p = some r) :
    Bw Tryz.prog 222 #[.agg #[.int .i64 wide, .slice AS plots.length AT], .int .i64 p] F (.bool r) := by
 refine sp func222 ntmps222 fun K _ _ => ?_
 rw [Fh] at hr
 refine AO ?_
 refine BH rfl rfl ?_; intro b1 aj
 refine ua (Cj ?_)
 refine uv (Ab Dd rfl) (uv (Aj isAgg25 rfl (Has.own 0 rfl) rfl) (um ?_))
 obtain ⟨x, g2, af, r4⟩ := Cb hr
 obtain ⟨b5, o6, c7, ak, ah, ab, ae, rfl, ai, ad⟩ := Ax.at (Ad _) aa ([(b1, ce #[.int .i64 wide, .slice AS plots.length AT] 27)]) g2.1 af
 refine uv (AN underlying25 sizeOf34 rfl ah rfl g2) (uv (Aj isAgg34 rfl ab (ad 0 (by decide))) (uv (Dn rfl rfl) ?_))
 refine ua (Aa ?_)
 refine kW kn (Al (Cq results222 ?_))
 obtain rfl := AM r4
 exact rfl
theorem O7 {r r2 : Int} (hr : IA down BT = some (r, r2)) :
    Bw Tryz.prog 249 #[.agg #[.int .i64 down, .int .i64 BT]] F (.agg #[.int .i64 r, .int .i64 r2]) := by
 refine sp func249 ntmps249 fun K _ _ => ?_
 rw [IA] at hr
 refine AO ?_
 refine BH rfl rfl ?_; intro b1 aa
 refine Bj rfl zeroValue321 ?_; intro b2 ab
 refine Cj (uv (Ab Qz rfl) (uv (Aj isAgg3 rfl (Has.own 1 rfl) rfl) ?_))
 obtain ⟨g3, r4⟩ := A2 hr
 refine uv (XJ rfl g3) (uv (Ab TB rfl) (uv (Aj isAgg3 rfl (Has.own 1 rfl) rfl) ?_))
 obtain ⟨g5, r6⟩ := A2 r4
 refine uv (XJ rfl g5) ?_
 refine uv (Bx (v := .agg #[.int .i64 (-down), .int .i64 (-BT)]) rfl (by intro w; kernel_rfl)) ?_
 refine Br (i := 0) sizeOf321 rfl rfl rfl (by simp [Value.oneCell']) rfl (Ce rfl) (AK rfl (Aa (kW (kc kn) (Al (Jn results249 (Dp (cs := #[.int .i64 (-down), .int .i64 (-BT)]) isAgg321 sizeOf321 rfl (Has.own 0 rfl) (Ce rfl) rfl) (s1 sr) ?_)))))
 obtain ⟨rfl, rfl⟩ := DH r6
 exact rfl
set_option maxHeartbeats 1000000 in
theorem Kr {ae aa to : Int} (ab : F MN = some (.cells #[.int .i64 wide, .slice AS plots.length AT, .int .i64 down, .int .i64 BT, .bool Ds] 323 Re)) (ad : Ax 1 (iE .i64) F AS AT plots) {r : Int} (hr : Fv wide plots down BT Ds ae aa to = some r) :
    Bw Tryz.prog 224 #[.pointer (some ⟨MN, 0, none⟩), .agg #[.int .i64 ae, .int .i64 aa], .int .i64 to] F (.int .i64 r) := by
 refine sp func224 ntmps224 fun K _ _ => ?_
 rw [Fv] at hr
 refine AO ?_
 refine BH rfl rfl ?_; intro b1 bj
 refine ua (Cj (ua (Aa ?_)))
 obtain ⟨n, h2, r3⟩ := AI hr
 refine jE ([]) [(0, .pointer (some ⟨MN, 0, none⟩)), (2, .int .i64 to), (7, .int .i64 n)] ?_ ?_
 ·clear r3
  refine Am ?_
  refine AO (um ?_)
  refine uv (A4 rfl) (uv (Ab XY rfl) (uv (Aj isAgg4 rfl (Has.frozen ab) rfl) (uv (Cc rfl) ?_)))
  refine ua (Aa ?_)
  refine AY rfl (fun c4 => ?_) (fun c4 => ?_)
  ·have r5 := bt h2 c4
   refine An (Au (id := 0) ?_)
   obtain rfl := AM r5
   exact mi kn ⟨rfl, rfl, z3⟩
  have r6 := bf h2 c4
  refine dW (wv (AL isAgg321 sizeOf321 rfl (Has.own 0 rfl) (Ce rfl) rfl) (wm (wv (A4 rfl) (wv (Ab S4 rfl) (wv (AL isAgg321 sizeOf321 rfl (Has.frozen ab) (Ce rfl) rfl) (wv (Pe (UU _ _ _ _) (Xx _ _ _ _) rfl rfl) ?_))))))
  refine wa (DN ?_)
  refine cQ (fun c7 => ?_) fun c7 => ?_
  ·have r8 := A8 r6 c7
   refine Ai (ua (Aa (Au (id := 0) ?_)))
   obtain rfl := AM r8
   exact mi kn ⟨rfl, rfl, z3⟩
  have r9 := A9 r6 c7
  refine dW (wv (AL isAgg321 sizeOf321 rfl (Has.own 0 rfl) (Ce rfl) rfl) (wm (wv (A4 rfl) (wv (Ab S4 rfl) (wv (AL isAgg321 sizeOf321 rfl (Has.frozen ab) (Ce rfl) rfl) ?_)))))
  obtain ⟨n2, n3, av, ao⟩ := DA r9
  refine Ie rfl call249 rfl rfl rfl (O7 av) (wv (Pe (UU _ _ _ _) (Xx _ _ _ _) rfl rfl) ?_)
  refine wa (DN ?_)
  refine cQ (fun af => ?_) fun af => ?_
  ·have aw := A8 ao af
   refine Ai (ua (Aa (Au (id := 0) ?_)))
   obtain rfl := AM aw
   exact mi kn ⟨rfl, rfl, z3⟩
  have ax := A9 ao af
  refine An (Au (id := 0) ?_)
  obtain rfl := AM ax
  exact mi kn ⟨rfl, rfl, z3⟩
 refine Ao (AO (um ?_))
 refine uv (A4 rfl) (uv (Ab HT rfl) (uv (Ab Dd rfl) (uv (Aj isAgg25 rfl (Has.frozen ab) rfl) (um ?_))))
 obtain ⟨x, aq, ah, ar⟩ := Cb r3
 obtain ⟨bk, bl, bm, ay, ai, aj, au, rfl, az, ak⟩ := Ax.at (Ad _) ad ([]) aq.1 ah
 refine uv (AN underlying25 sizeOf34 rfl ai rfl aq) (uv (Aj isAgg34 rfl aj (ak 0 (by decide))) (uv (Dn rfl rfl) (Aa ?_)))
 refine cQ (fun al => ?_) fun al => ?_
 ·have ba := A8 ar al
  refine Ai (um ?_)
  obtain ⟨bb, bc⟩ := A2 ba
  refine uv (Bd rfl rfl bb) ?_
  refine ua (Cj (um (ua (Aa (Al ?_)))))
  refine Cq results224 ?_
  obtain rfl := AM bc
  exact rfl
 have bg := A9 ar al
 refine An (AO (um (ua (Aa (Al ?_)))))
 refine Cq results224 ?_
 obtain rfl := AM bg
 exact rfl
set_option maxHeartbeats 1000000 in
theorem Nq {cj : Nat} {cq : Nat × Nat} {ai : Nat} {al : FuncId} {ao aq : Array Value} {closed : Int → Option Bool} {ax : Nat × Nat} (ar : F cj = some (.cells #[.int .i64 p] 3 cq)) (ak : F MN = some (.cells #[.pointer (some ⟨Yj, 0, none⟩)] 253 Re)) (af : F Yj = some (.cells #[.int .i64 wide, .slice AS plots.length AT, .int .i64 down, .int .i64 BT, .bool Ds] 323 Y5)) (ad : Ax 1 (iE .i64) F AS AT plots) (ab : F ai = some (.cells #[.func (.func al) ao aq] 89 ax)) (aa : IQ Tryz.prog F al ao aq (iE .i64) Value.bool closed) {xs : List (Int × Int)} (hr : Hy p wide plots down BT Ds closed = some xs) :
    GF Tryz.prog 223 #[] #[.pointer (some ⟨cj, 0, none⟩), .pointer (some ⟨MN, 0, none⟩), .pointer (some ⟨ai, 0, none⟩)] F (fun x : Int × Int => #[.int .i64 x.1, .int .i64 x.2]) xs := by
 intro G0 bp yv J Jx dy dz hy Fc L0 hG cr
 replace ar := (bp.trans hG) _ _ ar
 replace ak := (bp.trans hG) _ _ ak
 replace af := (bp.trans hG) _ _ af
 replace ad := ad.mono (Ad _) (bp.trans hG)
 replace ab := (bp.trans hG) _ _ ab
 replace aa := aa.mono (bp.trans hG)
 have bl : xs = [] ++ xs := rfl
 show SH.Spec Tryz.prog 223 #[yv, .pointer (some ⟨cj, 0, none⟩), .pointer (some ⟨MN, 0, none⟩), .pointer (some ⟨ai, 0, none⟩)] Fc L0 _
 refine sp func223 ntmps223 fun K _ _ => ?_
 rw [Hy] at hr; refine Fi (L' := L0 ++ []) (by simp) ?_
 refine AO ?_
 refine uv (Bx (v := .agg #[.int .i64 (-1), .int .i64 0]) rfl (by intro w; kernel_rfl)) ?_
 refine uv (Bx (v := .agg #[.int .i64 0, .int .i64 (-1)]) rfl (by intro w; kernel_rfl)) ?_
 refine uv (Bx (v := .agg #[.int .i64 0, .int .i64 1]) rfl (by intro w; kernel_rfl)) ?_
 refine uv (Bx (v := .agg #[.int .i64 1, .int .i64 0]) rfl (by intro w; kernel_rfl)) ?_
 refine bA (cs := #[.int .i64 (-1), .int .i64 0, .int .i64 0, .int .i64 (-1), .int .i64 0, .int .i64 1, .int .i64 1, .int .i64 0]) Yn [.agg #[.int .i64 (-1), .int .i64 0], .agg #[.int .i64 0, .int .i64 (-1)], .agg #[.int .i64 0, .int .i64 1], .agg #[.int .i64 1, .int .i64 0]] ?_; intro b1 e9
 refine uv (A3 underlying345 rfl) ?_
 refine um (Aa ?_)
 refine Am ?_
 refine CX 0 rfl e9 ?_; intro F2 bj eg
 refine Fi (L' := L0 ++ []) rfl ?_
 replace ad := ad.mono (Ad _) bj
 replace aa := aa.mono bj
 replace ar := bj _ _ ar
 replace af := bj _ _ af
 replace ak := bj _ _ ak
 replace ab := bj _ _ ab
 replace hG := hG.trans bj
 replace cr := dy _ _ _ _ cr bj
 have h5 : Ax 2 (Cd (iE .i64) (iE .i64)) F2 (some ⟨b1, 0, none⟩) 4 [(-1, 0), (0, -1), (0, 1), (1, 0)] := Ax.BQ (AD (Ad _) (Ad _)) (vss := [[.int .i64 (-1), .int .i64 0], [.int .i64 0, .int .i64 (-1)], [.int .i64 0, .int .i64 1], [.int .i64 1, .int .i64 0]]) (xs := [(-1, 0), (0, -1), (0, 1), (1, 0)]) eg (.cons ⟨_, _, rfl, rfl, rfl⟩ (.cons ⟨_, _, rfl, rfl, rfl⟩ (.cons ⟨_, _, rfl, rfl, rfl⟩ (.cons ⟨_, _, rfl, rfl, rfl⟩ .nil)))) rfl (by simp [maxLen])
 obtain ⟨bq, eh⟩ := A2 hr
 refine Bk (fun cn e1 F1 L1 => ∃ (k : Int), Fp 0 4 k cn ∧ ∃ (pre6 : List (Int × Int)) (aw : List (Int × Int)) (ba : LH), BX p wide plots down BT Ds closed cn k = some aw ∧ AZ F2 F1 ∧ L1 = (ba ++ []) ∧ e1.sub [(0, yv), (1, .pointer (some ⟨cj, 0, none⟩)), (2, .pointer (some ⟨MN, 0, none⟩)), (3, .pointer (some ⟨ai, 0, none⟩)), (12, .slice (some ⟨b1, 0, none⟩) [(-1, 0), (0, -1), (0, 1), (1, 0)].length 4), (13, .int .i64 4), (14, .int .i64 k)] ∧ xs = pre6 ++ aw ∧ J pre6 F1 ba ∧ AZ G0 F1) _ (m0 kr ⟨_, Fp.start _ _, [], xs, L0, eh, AZ.refl _, rfl, z7, bl, cr, hG⟩) ?_
 rintro cn e1 gk _ ⟨k, au, pre6, aw, ba, cp, aj, rfl, ct, ae, bm, hG⟩
 refine AA _ ct ?_
 replace ad := ad.mono (Ad _) aj
 replace h5 := h5.mono (AD (Ad _) (Ad _)) aj
 replace aa := aa.mono aj
 replace ar := aj _ _ ar
 replace af := aj _ _ af
 replace ak := aj _ _ ak
 replace ab := aj _ _ ab
 refine AO (uv (Bg rfl rfl) ?_)
 refine Aa (Ao ?_)
 refine cQ (fun bc => ?_) fun bc => ?_
 ·obtain ⟨cn, rfl, ay⟩ := Fp.succ au bc
  rw [BX] at cp
  refine An (Ao ?_)
  refine Am (AO ?_)
  obtain ⟨x, dn, cu, ej⟩ := Cb cp
  obtain ⟨gl, gm, gp, eo, cv, cw, bk, ⟨_, _, rfl, rfl, rfl⟩, cx, cy⟩ := Ax.at (AD (Ad _) (Ad _)) h5 (ba ++ []) dn.1 cu
  refine uv (AN underlying345 sizeOf321 rfl cv rfl dn) (uv (AL isAgg321 sizeOf321 rfl cw bk (By bk cx cy)) ?_)
  refine Bj rfl zeroValue321 ?_; intro dp er
  refine Br (i := 0) sizeOf321 rfl rfl rfl (by simp [Value.oneCell']) rfl (Ce rfl) (AK rfl (dN (wv (Aj isAgg3 rfl (Has.frozen ar) rfl) (wv (Ab Qz rfl) (wv (Aj isAgg3 rfl (Has.own 0 rfl) rfl) (wv (Aj isAgg253 rfl (Has.frozen ak) rfl) (wv (A4 rfl) ?_)))))))
  refine wv (Ab HT rfl) (wv (Ab I7 rfl) (wv (Aj isAgg3 rfl (Has.frozen af) rfl) ?_))
  obtain ⟨et, eu⟩ := A2 ej
  refine wv (Zi rfl rfl et) ?_
  obtain ⟨ew, ey⟩ := A2 eu
  refine wv (Bd rfl rfl ew) (wv (Ab TB rfl) (wv (Aj isAgg3 rfl (Has.own 0 rfl) rfl) ?_))
  obtain ⟨fa, fb⟩ := A2 ey
  refine wv (Bd rfl rfl fa) ?_
  refine wa (DN (Ao ?_))
  refine dW (wv (Aj isAgg253 rfl (Has.frozen ak) rfl) (wv (A4 rfl) (wv (Ab HT rfl) (wv (AL isAgg27 sizeOf27 rfl (Has.frozen af) (Ce rfl) rfl) (wm ?_)))))
  obtain ⟨ok, fe, dq⟩ := AI fb
  refine Ie rfl call47 rfl rfl rfl (IZ ad fe) (wv (Cc rfl) (wm ?_))
  rcases Dc (!ok) with av | av
  ·have ff := bt dq av
   refine BO (b' := true) 38 rfl (OX rfl av) rfl rfl (BO (b' := true) 38 rfl (OX rfl av) rfl rfl (BO (b' := true) 38 rfl (OX rfl av) rfl rfl (BO (b' := true) 38 rfl (OX rfl av) rfl rfl (Fl 42 rfl rfl rfl (Fl 42 rfl rfl rfl (Fl 42 rfl rfl rfl (Fl 42 rfl rfl rfl (Fl 42 rfl rfl rfl (Fl 42 rfl rfl rfl ?_)))))))))
   refine Fl 42 rfl rfl rfl (Fl 42 rfl rfl rfl (Fl 42 rfl rfl rfl (Fl 42 rfl rfl rfl (Fl 42 rfl rfl rfl (Fl 42 rfl rfl rfl (Fl 42 rfl rfl rfl (Fl 42 rfl rfl rfl (Fl 42 rfl rfl rfl (BO (b' := true) 38 rfl (OX rfl av) rfl rfl ?_)))))))))
   refine wv (AP (IW rfl av) rfl) ?_
   refine wm (BO (b' := true) 60 rfl rfl rfl rfl (BO (b' := true) 60 rfl rfl rfl rfl (BO (b' := true) 60 rfl rfl rfl rfl ?_)))
   refine wv (AP rfl rfl) (DN ?_)
   refine AY rfl (fun dr => ?_) (fun dr => nomatch dr)
   refine AQ (Af ?_)
   refine Av (Ai (uv (Bd rfl rfl (Fp.EP au bc bq)) ?_))
   refine um (Aa ?_)
   exact le (kd kr) ⟨_, ay, pre6, aw, ba, ff, aj, rfl, z7, ae, bm, hG⟩
  have dt := bf dq av
  refine Cl (b := false) 38 rfl (OX rfl av) (wv (Ab Qz rfl) (Cl (b := false) 38 rfl (OX rfl av) (wv (Aj isAgg3 rfl (Has.own 0 rfl) rfl) (Cl (b := false) 38 rfl (OX rfl av) (wv (Dn rfl rfl) ?_)))))
  refine Cl (b := false) 38 rfl (OX rfl av) (wm ?_)
  by_cases ah : x.1 = 0
  ·have fg := A8 dt ah
   refine Cl (b := true) 42 rfl (Env.KM rfl ah) (wm (Cl (b := true) 42 rfl (Env.KM rfl ah) ?_))
   refine wv (Aj isAgg253 rfl (Has.frozen ak) rfl) (Cl (b := true) 42 rfl (Env.KM rfl ah) (wv (A4 rfl) (Cl (b := true) 42 rfl (Env.KM rfl ah) (wv (Ab HT rfl) (Cl (b := true) 42 rfl (Env.KM rfl ah) (wv (Ab I7 rfl) (Cl (b := true) 42 rfl (Env.KM rfl ah) ?_)))))))
   refine wv (Aj isAgg3 rfl (Has.frozen af) rfl) (Cl (b := true) 42 rfl (Env.KM rfl ah) ?_)
   obtain ⟨fh, fi⟩ := A2 fg
   refine wv (P1 rfl rfl fh) (Cl (b := true) 42 rfl (Env.KM rfl ah) (wv (Aj isAgg3 rfl (Has.frozen ar) rfl) (Cl (b := true) 42 rfl (Env.KM rfl ah) (wv (Aj isAgg253 rfl (Has.frozen ak) rfl) (Cl (b := true) 42 rfl (Env.KM rfl ah) (wv (A4 rfl) (Cl (b := true) 42 rfl (Env.KM rfl ah) ?_)))))))
   refine wv (Ab HT rfl) (Cl (b := true) 42 rfl (Env.KM rfl ah) (wv (Ab I7 rfl) (Cl (b := true) 42 rfl (Env.KM rfl ah) (wv (Aj isAgg3 rfl (Has.frozen af) rfl) (Cl (b := true) 42 rfl (Env.KM rfl ah) ?_)))))
   obtain ⟨fj, du⟩ := A2 fi
   refine wv (P1 rfl rfl fj) (Cl (b := true) 42 rfl (Env.KM rfl ah) (wv (B8 rfl rfl) (Cl (b := false) 38 rfl (OX rfl av) (wv (AP (Bf rfl ah) rfl) (wv (AB (IW rfl av) rfl) (wm ?_))))))
   by_cases bb : (Int.tdiv ((p + (x.1 * wide)) + x.2) wide) ≠ (Int.tdiv p wide)
   ·have fk := A8 du bb
    refine BO (b' := true) 60 rfl (Env.KM rfl bb) rfl rfl (BO (b' := true) 60 rfl (Env.KM rfl bb) rfl rfl (BO (b' := true) 60 rfl (Env.KM rfl bb) rfl rfl ?_))
    refine wv (AP (Bf rfl bb) rfl) (DN ?_)
    refine AY rfl (fun dv => ?_) (fun dv => nomatch dv)
    refine AQ (Af ?_)
    refine Av (Ai (uv (Bd rfl rfl (Fp.EP au bc bq)) ?_))
    refine um (Aa ?_)
    exact le (kd kr) ⟨_, ay, pre6, aw, ba, fk, aj, rfl, z7, ae, bm, hG⟩
   have fl := A9 du bb
   refine Cl (b := false) 60 rfl (Env.KP rfl bb) (wv (Aj isAgg89 rfl (Has.frozen ab) rfl) ?_)
   refine Cl (b := false) 60 rfl (Env.KP rfl bb) (wm (Cl (b := false) 60 rfl (Env.KP rfl bb) ?_))
   obtain ⟨gq, fm, dw⟩ := AI fl
   refine Ie rfl aa.1 rfl rfl rfl (aa.2 _ (AZ.refl _) _ _ _ rfl fm) (wv (AB (AU rfl bb) rfl) (DN ?_))
   refine AY rfl (fun cz => ?_) (fun cz => ?_)
   ·have fo := bt dw cz
    refine AQ (Af ?_)
    refine Av (Ai (uv (Bd rfl rfl (Fp.EP au bc bq)) ?_))
    refine um (Aa ?_)
    exact le (kd kr) ⟨_, ay, pre6, aw, ba, fo, aj, rfl, z7, ae, bm, hG⟩
   have fp := bf dw cz
   refine An (AO (um (um ?_)))
   refine uv (Aj isAgg253 rfl (Has.frozen ak) rfl) (uv (AL isAgg321 sizeOf321 rfl (Has.own 0 rfl) (Ce rfl) rfl) (um ?_))
   obtain ⟨n, fq, ft⟩ := AI fp
   refine cV call224 (Kr af ad fq) ?_
   obtain ⟨bn, fv, br⟩ := TW ft
   refine NQ (Lb := ba) (Lr := [(dp, ce #[.int .i64 x.1, .int .i64 x.2] 321)]) (vs := [.int .i64 ((p + (x.1 * wide)) + x.2), .int .i64 n]) rfl rfl rfl (fC fP) (hy pre6 ((p + (x.1 * wide)) + x.2, n) bn (by rw [ae, br]) _ _ hG bm) ?_
   rintro gr gu da bu db; obtain ⟨fw, rfl, bx, bz⟩ := JT db
   replace hG := hG.trans bu
   refine kO (kf (fS fO) kr) (uv (Cc rfl) (Aa ?_))
   refine AY rfl (fun dd => ?_) (fun dd => ?_)
   ·have de := bz (by simpa using dd)
    refine Al (Ay (Ah (Ah (Ay ?_))))
    refine IE (.inl rfl) results223 (s1 (s4 sr)) ?_
    exact .inr (by rw [List.append_nil]; exact de)
   have df := bx (by simpa using dd)
   have bg : xs = (pre6 ++ [((p + (x.1 * wide)) + x.2, n)]) ++ bn := by rw [ae, br]; simp
   refine An (Au (id := 1) (Ai ?_))
   refine uv (Bd rfl rfl (Fp.EP au bc bq)) ?_
   refine um (Aa ?_)
   exact le (kd kr) ⟨_, ay, pre6 ++ [((p + (x.1 * wide)) + x.2, n)], bn, da, fv, (aj.trans bu), rfl, z7, bg, df, hG⟩
  have fx := A9 dt ah
  refine BO (b' := false) 42 rfl (Env.KP rfl ah) rfl rfl (BO (b' := false) 42 rfl (Env.KP rfl ah) rfl rfl (BO (b' := false) 42 rfl (Env.KP rfl ah) rfl rfl (BO (b' := false) 42 rfl (Env.KP rfl ah) rfl rfl (BO (b' := false) 42 rfl (Env.KP rfl ah) rfl rfl (BO (b' := false) 42 rfl (Env.KP rfl ah) rfl rfl (BO (b' := false) 42 rfl (Env.KP rfl ah) rfl rfl (BO (b' := false) 42 rfl (Env.KP rfl ah) rfl rfl (BO (b' := false) 42 rfl (Env.KP rfl ah) rfl rfl (BO (b' := false) 42 rfl (Env.KP rfl ah) rfl rfl ?_)))))))))
  refine BO (b' := false) 42 rfl (Env.KP rfl ah) rfl rfl (BO (b' := false) 42 rfl (Env.KP rfl ah) rfl rfl (BO (b' := false) 42 rfl (Env.KP rfl ah) rfl rfl (BO (b' := false) 42 rfl (Env.KP rfl ah) rfl rfl (BO (b' := false) 42 rfl (Env.KP rfl ah) rfl rfl (Cl (b := false) 38 rfl (OX rfl av) ?_)))))
  refine wv (AB (AU rfl ah) rfl) (wv (AB (IW rfl av) rfl) ?_)
  refine wm (Cl (b := false) 60 rfl rfl ?_)
  refine wv (Aj isAgg89 rfl (Has.frozen ab) rfl) ?_
  refine Cl (b := false) 60 rfl rfl (wm (Cl (b := false) 60 rfl rfl ?_))
  obtain ⟨gv, fy, dx⟩ := AI fx
  refine Ie rfl aa.1 rfl rfl rfl (aa.2 _ (AZ.refl _) _ _ _ rfl fy) (wv (AB rfl rfl) (DN ?_))
  refine AY rfl (fun dg => ?_) (fun dg => ?_)
  ·have ga := bt dx dg
   refine AQ (Af ?_)
   refine Av (Ai (uv (Bd rfl rfl (Fp.EP au bc bq)) ?_))
   refine um (Aa ?_)
   exact le (kd kr) ⟨_, ay, pre6, aw, ba, ga, aj, rfl, z7, ae, bm, hG⟩
  have gb := bf dx dg
  refine An (AO (um (um ?_)))
  refine uv (Aj isAgg253 rfl (Has.frozen ak) rfl) (uv (AL isAgg321 sizeOf321 rfl (Has.own 0 rfl) (Ce rfl) rfl) (um ?_))
  obtain ⟨n2, gg, gh⟩ := AI gb
  refine cV call224 (Kr af ad gg) ?_
  obtain ⟨bo, gi, ca⟩ := TW gh
  refine NQ (Lb := ba) (Lr := [(dp, ce #[.int .i64 x.1, .int .i64 x.2] 321)]) (vs := [.int .i64 ((p + (x.1 * wide)) + x.2), .int .i64 n2]) rfl rfl rfl (fC fP) (hy pre6 ((p + (x.1 * wide)) + x.2, n2) bo (by rw [ae, ca]) _ _ hG bm) ?_
  rintro gw gz dh cb di; obtain ⟨gj, rfl, cc, cf⟩ := JT di
  replace hG := hG.trans cb
  refine kO (kf (fS fO) kr) (uv (Cc rfl) (Aa ?_))
  refine AY rfl (fun dk => ?_) (fun dk => ?_)
  ·have dm := cf (by simpa using dk)
   refine Al (Ay (Ah (Ah (Ay ?_))))
   refine IE (.inl rfl) results223 (s1 (s4 sr)) ?_
   exact .inr (by rw [List.append_nil]; exact dm)
  have cg := cc (by simpa using dk)
  have az : xs = (pre6 ++ [((p + (x.1 * wide)) + x.2, n2)]) ++ bo := by rw [ae, ca]; simp
  refine An (Au (id := 1) (Ai ?_))
  refine uv (Bd rfl rfl (Fp.EP au bc bq)) ?_
  refine um (Aa ?_)
  exact le (kd kr) ⟨_, ay, pre6 ++ [((p + (x.1 * wide)) + x.2, n2)], bo, dh, gi, (aj.trans cb), rfl, z7, az, cg, hG⟩
 obtain rfl := Fp.zero au bc
 rw [BX] at cp
 refine AQ (Af (Af ?_))
 refine Av (IE (.inr rfl) results223 (sr) ?_)
 obtain rfl := AM cp
 exact .inl (by have e1 := ae; rw [List.append_nil] at e1; rw [List.append_nil, e1]; exact bm)
set_option maxHeartbeats 1000000 in
theorem OP (ab : F MN = some (.cells #[.int .i64 wide, .slice AS plots.length AT, .int .i64 down, .int .i64 BT, .bool Ds] 323 Re)) (aa : Ax 1 (iE .i64) F AS AT plots) {r : List (Int × Int)} (hr : Hr wide plots down BT Ds p = some r) :
    SH.Spec Tryz.prog 178 #[.pointer (some ⟨MN, 0, none⟩), .int .i64 p] F [] fun F' L' v => ∃ (al : Array Value), v = .func (.func 223) #[] al ∧ L' = [] ∧ GF Tryz.prog 223 #[] al F' (fun x : Int × Int => #[.int .i64 x.1, .int .i64 x.2]) r := by
 refine sp func178 ntmps178 fun K _ _ => ?_
 rw [Hr] at hr
 refine AO ?_
 refine BH rfl rfl ?_; intro b1 au
 refine BH rfl rfl ?_; intro b2 av
 refine ua (Cj ?_)
 refine uv (Aj isAgg253 rfl (Has.own 1 rfl) rfl) (uv (A4 rfl) (uv (Ab HT rfl) (uv (AL isAgg27 sizeOf27 rfl (Has.frozen ab) (Ce rfl) rfl) (uv (C8 rfl rfl) ?_))))
 refine Bj rfl zeroValue89 ?_; intro b3 aw
 refine CN (i := 0) sizeOf89 rfl rfl rfl rfl (Ce rfl) (AK rfl (Cj (uv (C8 rfl rfl) ?_)))
 refine ua (Aa ?_)
 refine CX 1 rfl av ?_; intro F4 ao ae
 refine Fi (L' := [(b3, ce (#[.func (.func 222) #[.agg #[.int .i64 wide, .slice AS plots.length AT]] #[]]) 89), (b1, ce #[.pointer (some ⟨MN, 0, none⟩)] 253)]) rfl ?_
 replace aa := aa.mono (Ad _) ao
 replace ab := ao _ _ ab
 refine CX 1 rfl au ?_; intro F7 ah ai
 refine Fi (L' := [(b3, ce (#[.func (.func 222) #[.agg #[.int .i64 wide, .slice AS plots.length AT]] #[]]) 89)]) rfl ?_
 replace aa := aa.mono (Ad _) ah
 replace ab := ah _ _ ab
 replace ae := ah _ _ ae
 refine CX 0 rfl aw ?_; intro aq ad aj
 refine Fi (L' := []) rfl ?_
 replace aa := aa.mono (Ad _) ad
 replace ab := ad _ _ ab
 replace ae := ad _ _ ae
 replace ai := ad _ _ ai
 have ak : IQ Tryz.prog aq 222 #[.agg #[.int .i64 wide, .slice AS plots.length AT]] #[] (iE .i64) Value.bool (fun ar : Int => Fh wide plots ar) := ⟨call222, fun F2 h2 vs ar r ha hr => by obtain rfl := ha; exact OU (aa.mono (Ad _) h2) hr⟩
 obtain ⟨l, ax, ay⟩ := AI hr
 have af : GF Tryz.prog 223 #[] #[.pointer (some ⟨b2, 0, none⟩), .pointer (some ⟨b1, 0, none⟩), .pointer (some ⟨b3, 0, none⟩)] aq (fun x : Int × Int => #[.int .i64 x.1, .int .i64 x.2]) l := Nq ae ai ab aa aj ak ax
 refine Al (Cq results178 ?_)
 obtain rfl := AM ay
 exact ⟨_, rfl, rfl, af⟩
set_option maxHeartbeats 1000000 in
theorem KY (az : F MN = some (.cells #[.int .i64 wide, .slice AS plots.length AT, .int .i64 down, .int .i64 BT, .bool Ds] 323 Re)) (al : Ax 1 (iE .i64) F AS AT plots) {r : List Int} (hr : Gu wide plots down BT Ds stand = some r) :
    SH.Spec Tryz.prog 117 #[.pointer (some ⟨MN, 0, none⟩), .int .i64 stand] F [] fun F' L' v => ∃ (ra : Option Addr) (rn : Nat) (rc : Nat) (rL : LH), v = .slice ra rn rc ∧ L' = rL ++ [] ∧ A6 0 3 1 (iE .i64) F' ra rn rc r rL := by
 refine sp func117 ntmps117 fun K _ _ => ?_
 rw [Gu] at hr
 refine AO (ua (Cj (um ?_)))
 refine uv (A4 rfl) (uv (Ab HT rfl) (uv (Ab Dd rfl) (uv (Aj isAgg25 rfl (Has.frozen az) rfl) (uv (A3 underlying25 rfl) ?_))))
 obtain ⟨g1, r2⟩ := A2 hr
 obtain ⟨l, h3, r4⟩ := DK r2
 refine NM (R := (iE .i64)) (z0 := 0) (zs := l) rfl CD (by decide) (Ad _) (fun _ => rfl) rfl g1 h3 (fun _ => .n) ?_; intro a5 n8 ko j9
 refine Bj rfl zeroValue33 ?_; intro H5 kt
 refine CN (i := 0) sizeOf33 rfl rfl rfl rfl (Ce rfl) (AK rfl (Aa ?_))
 obtain ⟨out, ku, ja⟩ := AI r4
 refine AV (fun e1 F1 L1 => ∃ (ba : LH), F = F1 ∧ L1 = ((H5, ce #[.slice a5 n8 n8] 33) :: (ba ++ [])) ∧ e1.sub [(0, .pointer (some ⟨MN, 0, none⟩)), (1, .int .i64 stand), (5, .pointer (some ⟨H5, 0, none⟩))] ∧ A6 K.w0.heap.size 3 1 (iE .i64) F1 a5 n8 n8 out ba) ?_ ?_
 ·clear ja
  refine AO (uv (Aj isAgg33 rfl (Has.own 0 rfl) rfl) (uv ((A3 underlying33 rfl).i (A6.Je j9)) ?_))
  refine um (Aa ?_)
  refine Am ?_
  obtain ⟨kv, kz⟩ := A2 ku
  refine Bk (fun ey e1 F1 L1 => ∃ (k : Int), Fp 0 (l.length : Int) k ey ∧ ∃ (bx : List Int) (aw : LH), DO ey k bx = some out ∧ F = F1 ∧ L1 = ((H5, ce #[.slice a5 n8 n8] 33) :: (aw ++ [])) ∧ e1.sub [(0, .pointer (some ⟨MN, 0, none⟩)), (1, .int .i64 stand), (5, .pointer (some ⟨H5, 0, none⟩)), (19, .int .i64 (l.length : Int)), (20, .int .i64 k)] ∧ A6 K.w0.heap.size 3 1 (iE .i64) F1 a5 n8 n8 bx aw) _ (m0 kr ⟨_, Fp.start _ _, l, ko, kz, rfl, rfl, z5, j9⟩) ?_
  rintro ey e1 _ _ ⟨k, bz, bx, aw, fa, rfl, rfl, fi, bb⟩
  refine AA _ fi (AO (uv (Bg rfl rfl) ?_))
  refine Aa (Ao ?_)
  refine cQ (fun fb => ?_) fun fb => ?_
  ·obtain ⟨ey, rfl, fj⟩ := Fp.succ bz fb
   rw [DO] at fa
   refine An (Ao ?_)
   refine Am ?_
   refine AO (um (ua (Aa (Ai ?_))))
   refine uv (Aj isAgg33 rfl (Has.own 0 rfl) rfl) (um ?_)
   obtain ⟨x, fk, fl, l0⟩ := Cb fa
   obtain ⟨nv, nw, ny, ld, cx, lg, jb, rfl, lh, lj⟩ := A6.at (Ad _) bb (L := (H5, ce #[.slice a5 n8 n8] 33) :: (aw ++ [])) (fC fP) fk.1 fl
   refine uv (AN underlying33 sizeOf3 rfl cx rfl (A6.idx bb fk)) ?_
   obtain ⟨fm, lk, ll⟩ := DK l0
   refine GM (u := -1) sizeOf3 (Ad _) rfl cx rfl rfl (fun _ => .c .h) bb lk fk ?_; intro fo fp
   refine Aa (Au (id := 1) (Ai ?_))
   refine uv (Bd rfl rfl (Fp.EP bz fb kv)) ?_
   refine um (Aa ?_)
   exact le kr ⟨_, fj, fm, fo, ll, rfl, rfl, z5, fp⟩
  obtain rfl := Fp.zero bz fb
  rw [DO] at fa
  refine AQ (Af (Af ?_))
  refine Av ?_
  obtain rfl := AM fa
  exact mi kr ⟨aw, rfl, rfl, z3, bb⟩
 rintro e1 _ _ ⟨ba, rfl, rfl, fq, ca⟩
 refine AA _ fq (AO (uv (Aj isAgg33 rfl (Has.own 0 rfl) rfl) (um ?_)))
 obtain ⟨x2, ft, fv, lq⟩ := Cb ja
 obtain ⟨nz, o7, o8, lr, cy, lu, jc, rfl, lv, lx⟩ := A6.at (Ad _) ca (L := (H5, ce #[.slice a5 n8 n8] 33) :: (ba ++ [])) (fC fP) ft.1 fv
 refine uv (AN underlying33 sizeOf3 rfl cy rfl (A6.idx ca ft)) ?_
 obtain ⟨fw, ly, ma⟩ := DK lq
 refine GM (u := 0) sizeOf3 (Ad _) rfl cy rfl rfl (fun _ => .c .h) ca ly ft ?_; intro cb fx
 refine Cj (um ?_)
 refine bA (cs := #[.int .i64 stand]) CD [.int .i64 stand] ?_; intro fe fy
 refine Bj rfl zeroValue33 ?_; intro au mb
 have cz : A6 K.w0.heap.size 3 1 (iE .i64) F (some ⟨fe, 0, none⟩) 1 1 [stand] [(fe, ce #[.int .i64 stand] 3)] := A6.BQ (vss := [[.int .i64 stand]]) (Ad _) fy (.cons rfl .nil) rfl rfl (by simp [maxLen])
 generalize cc : ([(fe, ce #[.int .i64 stand] 3)] : LH) = cf at cz
 refine CW (L' := cf ++ ((au, ce #[.slice none 0 0] 33) :: ((H5, ce #[.slice a5 n8 n8] 33) :: (cb ++ [])))) (by rw [← cc]; exact (fC fO)) ?_
 refine CW (L' := (au, ce #[.slice none 0 0] 33) :: ((H5, ce #[.slice a5 n8 n8] 33) :: (cf ++ (cb ++ [])))) (List.Perm.symm (fC (fC fP))) (CN (i := 0) sizeOf33 rfl rfl rfl rfl (Ce rfl) (AK rfl (Aa ?_)))
 obtain ⟨cg, mc, jd⟩ := AI ma
 refine AV (fun e1 F1 L1 => ∃ (cj : LH), AZ F F1 ∧ L1 = ((H5, ce #[.slice a5 n8 n8] 33) :: (cj ++ [])) ∧ e1.sub [(5, .pointer (some ⟨H5, 0, none⟩))] ∧ A6 K.w0.heap.size 3 1 (iE .i64) F1 a5 n8 n8 cg cj) ?_ ?_
 ·clear jd
  refine Am ?_
  refine Bk (fun da e1 F1 L1 => ∃ (bc : List Int) (line : List Int) (av : LH) (ff : Option Addr) (fg : Nat) (fh : Nat) (bg : LH), DP wide plots down BT Ds da bc line = some cg ∧ AZ F F1 ∧ L1 = ((au, ce #[.slice ff fg fh] 33) :: ((H5, ce #[.slice a5 n8 n8] 33) :: (av ++ (bg ++ [])))) ∧ e1.sub [(0, .pointer (some ⟨MN, 0, none⟩)), (5, .pointer (some ⟨H5, 0, none⟩)), (7, .pointer (some ⟨au, 0, none⟩))] ∧ A6 K.w0.heap.size 3 1 (iE .i64) F1 a5 n8 n8 bc av ∧ A6 K.w0.heap.size 3 1 (iE .i64) F1 ff fg fh line bg) FU (m0 (kc (kc (kg (fS fP) kr))) ⟨fw, [stand], cb, (some ⟨fe, 0, none⟩), 1, 1, cf, mc, AZ.refl _, rfl, z3, fx, cz⟩) ?_
  rintro da e1 o9 _ ⟨bc, line, av, ff, fg, fh, bg, db, bj, rfl, ga, bk, bl⟩
  refine AA _ ga ?_
  replace al := al.mono (Ad _) bj
  replace az := bj _ _ az
  rcases da with _ | da
  ·rw [DP] at db; cases db
  rw [DP] at db
  refine Ao (AO ?_)
  refine uv (Aj isAgg33 rfl (Has.own 0 rfl) rfl) (uv ((A3 underlying33 rfl).i (A6.Je bl)) (uv (JU rfl rfl) (Aa ?_)))
  refine cQ (fun gb => ?_) fun gb => ?_
  ·have me := A8 db gb
   refine An (Am (AO (uv (Aj isAgg33 rfl (Has.own 0 rfl) rfl) ?_)))
   obtain ⟨x3, je, gg, mg⟩ := Cb me
   obtain ⟨oc, od, oe, mh, gh, gi, jf, rfl, mj, gj⟩ := A6.at (Ad _) bl (L := (au, ce #[.slice ff fg fh] 33) :: ((H5, ce #[.slice a5 n8 n8] 33) :: (av ++ (bg ++ [])))) (fC (fC (fS fP))) je.1 gg
   refine uv (AN underlying33 sizeOf3 rfl gh rfl (A6.idx bl je)) (uv (Aj isAgg3 rfl gi (gj 0 (by decide))) ?_)
   refine Bj rfl zeroValue3 ?_; intro ay ml
   refine CN (i := 0) sizeOf3 rfl rfl rfl rfl (Ce rfl) (AK rfl (Cj (uv (Aj isAgg33 rfl (Has.own 1 rfl) rfl) ?_)))
   obtain ⟨mo, mq⟩ := A2 mg
   obtain ⟨bn, mr, gk⟩ := DK mq
   refine Ua (l := 1) (h := (line.length : Int)) (zs := bn) rfl CD (Ad _) rfl (.inr ⟨_, rfl, rfl⟩) (.inl ⟨rfl, rfl⟩) (fun _ => .c (.c (.c (.s .h)))) bl mo mr ?_; intro gl gm gp dd cn
   refine CN (i := 1) sizeOf33 rfl rfl rfl rfl (Ce rfl) (AK rfl ?_)
   refine Cj (um ?_)
   refine uv (Aj isAgg3 rfl (Has.own 0 rfl) rfl) ?_
   obtain ⟨y, gq, gr⟩ := AI gk
   refine c0 call178 (OP az al gq) ?_; rintro _ mv _ ax jg ⟨jh, rfl, rfl, cp⟩
   replace bk := bk.mono (Ad _) ax
   replace cn := cn.mono (Ad _) ax
   refine AK (ln rfl) (Aa (Am ?_))
   refine I8 (encs := (fun x : Int × Int => #[.int .i64 x.1, .int .i64 x.2])) (xs := y) rfl call223 rfl (fun _ => rfl) cp (fun pre F1 L1 => ∃ (tl : List (Int × Int)) (ao : List Int) (af : List Int) (ab : LH) (ah : Option Addr) (ai : Nat) (aj : Nat) (ae : LH), y = pre ++ tl ∧ Cz x3 (DP wide plots down BT Ds da) tl ao af = some cg ∧ L1 = ((ay, ce #[.int .i64 x3] 3) :: ((au, ce #[.slice ah ai aj] 33) :: ((H5, ce #[.slice a5 n8 n8] 33) :: (ab ++ (ae ++ []))))) ∧ A6 K.w0.heap.size 3 1 (iE .i64) F1 a5 n8 n8 ao ab ∧ A6 K.w0.heap.size 3 1 (iE .i64) F1 ah ai aj af ae) (fun _ _ _ => False) ?_ ?_ ?_ ?_ ?_ ?_
   ·rintro pre F1 F2 L1 ⟨tl, ao, af, ab, ah, ai, aj, ae, aq, gu, rfl, ad, ak⟩ hx; exact ⟨tl, ao, af, ab, ah, ai, aj, ae, aq, gu, rfl, ad.mono (Ad _) hx, ak.mono (Ad _) hx⟩
   ·intro c F1 F2 L1 h hx; exact h
   ·exact ⟨_, bc, bn, av, gl, gm, gp, dd, rfl, gr, rfl, bk, cn⟩
   ·rintro mw ji jj jk jl jm cq jn pre x4 og ar mx _ jo ⟨tl, ao, af, ab, ah, ai, aj, ae, aq, de, rfl, ad, ak⟩
    obtain rfl := MC aq ar
    rw [Cz] at de
    refine AA [(0, .pointer (some ⟨MN, 0, none⟩)), (5, .pointer (some ⟨H5, 0, none⟩)), (7, .pointer (some ⟨au, 0, none⟩)), (8, .pointer (some ⟨ay, 0, none⟩)), (43, .int .i64 x4.1), (44, .int .i64 x4.2)] (by exact z6) ?_
    refine AO (ua (Aa (Ai (ua (Aa ?_)))))
    refine ⟨rfl, ?_⟩
    refine Am ?_
    obtain ⟨k2, gv, cr⟩ := AI de
    refine jE (((ay, ce #[.int .i64 x3] 3) :: ((au, ce #[.slice ah ai aj] 33) :: ((H5, ce #[.slice a5 n8 n8] 33) :: (ab ++ (ae ++ [])))))) [(0, .pointer (some ⟨MN, 0, none⟩)), (5, .pointer (some ⟨H5, 0, none⟩)), (7, .pointer (some ⟨au, 0, none⟩)), (8, .pointer (some ⟨ay, 0, none⟩)), (9, .int .i64 x4.1), (10, .int .i64 x4.2), (43, .int .i64 x4.1), (44, .int .i64 x4.2), (62, .bool k2)] ?_ ?_
    ·clear cr
     refine Qr (by kernel_rfl) (by kernel_rfl) (by kernel_rfl) (wv (Aj isAgg33 rfl (Has.own 2 rfl) rfl) (wm ?_))
     obtain ⟨x5, bm, bo, df⟩ := Cb gv
     obtain ⟨my, mz, na, jq, dg, dh, gw, rfl, jr, di⟩ := A6.at (Ad _) ad (L := (ay, ce #[.int .i64 x3] 3) :: ((au, ce #[.slice ah ai aj] 33) :: ((H5, ce #[.slice a5 n8 n8] 33) :: (ab ++ (ae ++ []))))) (fC (fC (fC fP))) bm.1 bo
     refine wv (AN underlying33 sizeOf3 rfl dg rfl (A6.idx ad bm)) (wv (Aj isAgg3 rfl dh (di 0 (by decide))) (wv (Dn rfl rfl) (wm ?_)))
     by_cases aa : x5 = (-1)
     ·have gz := A8 df aa
      refine BO (b' := true) 50 rfl (Env.KM rfl aa) rfl rfl (BO (b' := true) 50 rfl (Env.KM rfl aa) rfl rfl (BO (b' := true) 50 rfl (Env.KM rfl aa) rfl rfl (BO (b' := true) 50 rfl (Env.KM rfl aa) rfl rfl (BO (b' := true) 50 rfl (Env.KM rfl aa) rfl rfl (BO (b' := true) 50 rfl (Env.KM rfl aa) rfl rfl (BO (b' := true) 50 rfl (Env.KM rfl aa) rfl rfl (BO (b' := true) 50 rfl (Env.KM rfl aa) rfl rfl (BO (b' := true) 50 rfl (Env.KM rfl aa) rfl rfl (BO (b' := true) 50 rfl (Env.KM rfl aa) rfl rfl ?_)))))))))
      refine BO (b' := true) 50 rfl (Env.KM rfl aa) rfl rfl (wv (AP (Bf rfl aa) rfl) (DN ?_))
      obtain rfl := AM gz
      exact mi kr ⟨rfl, rfl, (sc rfl z8)⟩
     have ia := A9 df aa
     refine Cl (b := false) 50 rfl (Env.KP rfl aa) (wv (Aj isAgg33 rfl (Has.own 2 rfl) rfl) (Cl (b := false) 50 rfl (Env.KP rfl aa) (wv (Aj isAgg3 rfl (Has.own 0 rfl) rfl) (Cl (b := false) 50 rfl (Env.KP rfl aa) ?_))))
     obtain ⟨x6, dk, dm, ib⟩ := Cb ia
     obtain ⟨nc, nf, ng, js, dn, dp, ic, rfl, jt, dq⟩ := A6.at (Ad _) ad (L := (ay, ce #[.int .i64 x3] 3) :: ((au, ce #[.slice ah ai aj] 33) :: ((H5, ce #[.slice a5 n8 n8] 33) :: (ab ++ (ae ++ []))))) (fC (fC (fC fP))) dk.1 dm
     refine wv (AN underlying33 sizeOf3 rfl dn rfl (A6.idx ad dk)) (Cl (b := false) 50 rfl (Env.KP rfl aa) (wv (Aj isAgg3 rfl dp (dq 0 (by decide))) ?_))
     refine Cl (b := false) 50 rfl (Env.KP rfl aa) (wm (Cl (b := false) 50 rfl (Env.KP rfl aa) ?_))
     obtain ⟨ie, ig⟩ := A2 ib
     refine wv (Bd rfl rfl ie) (Cl (b := false) 50 rfl (Env.KP rfl aa) (wv (Aj isAgg33 rfl (Has.own 2 rfl) rfl) ?_))
     refine Cl (b := false) 50 rfl (Env.KP rfl aa) (wm (Cl (b := false) 50 rfl (Env.KP rfl aa) ?_))
     obtain ⟨nh, ni, nj, ju, dr, dt, ij, rfl, jv, du⟩ := A6.at (Ad _) ad (L := (ay, ce #[.int .i64 x3] 3) :: ((au, ce #[.slice ah ai aj] 33) :: ((H5, ce #[.slice a5 n8 n8] 33) :: (ab ++ (ae ++ []))))) (fC (fC (fC fP))) bm.1 bo
     refine wv (AN underlying33 sizeOf3 rfl dr rfl (A6.idx ad bm)) (Cl (b := false) 50 rfl (Env.KP rfl aa) (wv (Aj isAgg3 rfl dt (du 0 (by decide))) (Cl (b := false) 50 rfl (Env.KP rfl aa) (wv (Bg rfl rfl) (wv (AB (AU rfl aa) rfl) (DN ?_))))))
     obtain rfl := AM ig
     exact mi kr ⟨rfl, rfl, (sc rfl z8)⟩
    refine AY rfl (fun ct => ?_) (fun ct => ?_)
    ·have ik := bt cr ct
     refine Ao (DB [(.still, 0), (.still, 1), (.still, 2), (.still, 3), (.still, 4), (.still, 5), (.still, 6), (.still, 7), (.still, 8), (.seq, 9)] (by kernel_rfl) (by kernel_rfl) (trivial) (by rfl) (by kernel_rfl) (mL [5] ([(H5, ce #[.slice a5 n8 n8] 33)]) rfl (s0 (s1 (s1 (s2 (s3 (s3 sr)))))) (fun H F' L' cu cv => Aj isAgg33 rfl ((Has.own 0 rfl).ext cu cv) rfl) (mS [9] rfl (B3 rfl) (mL [5] ([(H5, ce #[.slice a5 n8 n8] 33)]) rfl (s0 (s1 (s1 (s2 (s3 (s3 sr)))))) (fun H F' L' cu cv => Aj isAgg33 rfl ((Has.own 0 rfl).ext cu cv) rfl) (mL [8] ([(ay, ce #[.int .i64 x3] 3)]) rfl (s0 (s2 (s1 (s1 (s3 (s3 sr)))))) (fun H F' L' cu cv => Aj isAgg3 rfl ((Has.own 0 rfl).ext cu cv) rfl) ?_)))))
     obtain ⟨x7, dv, dw, il⟩ := Cb ik
     obtain ⟨nk, nn, np, jw, dx, dy, im, rfl, jx, dz⟩ := A6.at (Ad _) ad (L := ab ++ []) fP dv.1 dw
     refine mS [65, 66] rfl (AN underlying33 sizeOf3 rfl dx rfl (A6.idx ad dv)) (mL [67] (ab ++ []) rfl (s0 (s1 (s1 (s1 (s4 (s3 sr)))))) (fun H F' L' cu cv => Aj isAgg3 rfl (dy.ext cu cv) (dz 0 (by decide))) (mS [10] rfl (B3 rfl) ?_))
     obtain ⟨iq, ir⟩ := A2 il
     refine mS (v := .int .i64 (x7 + x4.2)) [68, 69] rfl (Bd rfl rfl iq) ?_
     obtain ⟨x8, cw, e9, iu⟩ := Cb ir
     obtain ⟨iv, iw, nq, jz, bp, kb, iy, rfl, kh, kj⟩ := A6.at (Ad _) ad (L := ab ++ []) fP cw.1 e9
     refine mS [63, 64] rfl (AN underlying33 sizeOf3 rfl bp rfl (A6.idx ad cw)) ?_
     refine ⟨_, [(70, .int .i64 (x7 + x4.2)), (71, .pointer (some ⟨iv, iw + (x4.1 : Int).toNat * 1, none⟩))], rfl, rfl, z2, by kernel_rfl, ?_⟩; intro H
     obtain ⟨l2, iz, j0⟩ := DK iu
     refine GM (u := x7 + x4.2) sizeOf3 (Ad _) rfl bp rfl rfl (fun _ => .c (.c (.c .h))) ad iz cw ?_; intro bq eg
     refine Aa ⟨undef, rfl, AZ.refl _, [], by kernel_rfl, .inl (.inl rfl), nm, ?_⟩
     refine EW (Ai (uv (Aj isAgg33 rfl (Has.own 1 rfl) rfl) (um ?_)))
     refine bA (cs := #[.int .i64 x4.1]) CD [.int .i64 x4.1] ?_; intro nr kl
     obtain ⟨br, j3, j4, j5⟩ := Hv j0
     refine Fg (xs := af) (ys := [x4.1]) (zs := br) rfl CD rfl rfl cq (fun _ => .c (.c (.c (.c (.s .h))))) ak (HE.box (vss := [[.int .i64 x4.1]]) (ys := [x4.1]) 0 rfl (Ad _) (.cons rfl .nil) rfl rfl) j3 j4 (by decide) ?_; intro eh ej eo bu er
     refine kO (kd kr) (CN (i := 1) sizeOf33 rfl rfl rfl rfl (Ce rfl) (AK rfl ?_))
     refine Aa (Au (id := 5) ?_)
     refine ⟨(ay, ce #[.int .i64 x3] 3) :: ((au, ce #[.slice eh ej eo] 33) :: ((H5, ce #[.slice a5 n8 n8] 33) :: (bq ++ (bu ++ [])))), ⟨_, .refl _, sr⟩, ?_⟩; exact ⟨_, l2, br, bq, eh, ej, eo, bu, (by rw [ar]; simp), j5, rfl, eg, er⟩
    have j6 := bf cr ct
    refine An (Au (id := 5) ?_)
    refine ⟨(ay, ce #[.int .i64 x3] 3) :: ((au, ce #[.slice ah ai aj] 33) :: ((H5, ce #[.slice a5 n8 n8] 33) :: (ab ++ (ae ++ [])))), ⟨_, .refl _, sr⟩, ?_⟩; exact ⟨_, ao, af, ab, ah, ai, aj, ae, (by rw [ar]; simp), j6, rfl, ad, ak⟩
   ·rintro nt _ et ⟨tl, ao, af, ab, ah, ai, aj, ae, aq, eu, rfl, ad, ak⟩
    obtain rfl := Oe aq; rw [Cz] at eu
    refine Au (id := 4) (Au (id := 3) ?_)
    exact le (kd kr) ⟨ao, af, ab, ah, ai, aj, ae, eu, ((bj.trans ax).trans et), rfl, z3, ad, ak⟩
   intro c F1 L1 hx h; exact h.elim
  have j7 := A9 db gb
  refine AQ (Af (Af ?_))
  refine Av ?_
  obtain rfl := AM j7
  exact mi (kd (kc (ka kn))) ⟨av, bj, rfl, z1, bk⟩
 rintro e1 nu _ ⟨cj, km, rfl, ew, j8⟩
 refine AA _ ew (AO (uv (Aj isAgg33 rfl (Has.own 0 rfl) rfl) ?_))
 refine ua (Aa ?_)
 refine kW (kd kr) (Al (Cq results117 ?_))
 obtain rfl := AM jd
 exact ⟨_, _, _, _, rfl, rfl, j8.any⟩
theorem Ov (aa : Ax 1 (iE .i64) F AS AT plots) {r : List Int} {r2 : Int} (hr : IU wide plots BC stand = some (r, r2)) :
    SH.Spec Tryz.prog 41 #[.agg #[.int .i64 wide, .slice AS plots.length AT], .int .i64 BC, .int .i64 stand] F [] fun F' L' v => ∃ (ra : Option Addr) (rn : Nat) (rc : Nat) (rL : LH), v = .tuple #[.slice ra rn rc, .int .i64 r2] ∧ L' = rL ++ [] ∧ A6 0 3 1 (iE .i64) F' ra rn rc r rL := by
 refine sp func41 ntmps41 fun K _ _ => ?_
 rw [IU] at hr
 refine AO ?_
 refine BH rfl rfl ?_; intro b1 bj
 refine ua (ua (Cj ?_))
 refine uv (AL isAgg27 sizeOf27 rfl (Has.own 0 rfl) (Ce rfl) rfl) ?_
 refine um (um ?_)
 obtain ⟨d, n, h2, r3⟩ := DA hr
 refine c0 call116 (Px aa h2) ?_; rintro _ F4 _ bk bl ⟨v8, rfl, rfl, al⟩
 refine AK (ln rfl) ?_
 refine um (ox rfl rfl rfl (ox rfl rfl rfl (ua (ua (Aa (Ao (AO (um ?_))))))))
 refine uv (B8 rfl rfl) (Aa ?_)
 refine cQ (fun ah => ?_) fun ah => ?_
 ·have ao := A8 r3 ah
  refine AO (um (ua (ua (Aa ?_))))
  refine kW kn ?_
  refine Al (Ah ?_)
  refine CP results41 (AR rfl) (AR rfl) (sr) ?_
  obtain ⟨rfl, rfl⟩ := DH ao
  exact ⟨_, _, _, [], rfl, rfl, A6.nil _ _ _ _ _⟩
 have aq := A9 r3 ah
 refine An (AO (um (um ?_)))
 obtain ⟨af, ab, down, BT, Ds, ar, au⟩ := TO aq
 have ak := al; rw [ar] at ak; obtain ⟨av, bm, aw, ai, ad, ⟨_, _, rfl, rfl, ⟨_, _, rfl, ⟨ax, ay, rfl, az⟩, ⟨_, _, rfl, rfl, ⟨_, _, rfl, rfl, rfl⟩⟩⟩⟩⟩ := ak; subst ai
 have ad : F4 av = some (.cells #[.int .i64 af, .slice ax ab.length ay, .int .i64 down, .int .i64 BT, .bool Ds] 323 aw) := ad
 obtain ⟨l, ba, bb⟩ := AI au
 refine c0 call117 (KY ad az ba) ?_; rintro _ bn _ bc aj ⟨bo, bp, bq, bg, rfl, rfl, ae⟩
 replace ae := ae.new fun p hp => aj p (by simp [hp])
 refine AK (lp (ln rfl)) (kO (kf (fS fO) kr) ?_)
 refine ua (ua (Aa ?_))
 refine kW (kd kr) (Al (CP results41 (AR rfl) (AR rfl) (sr) ?_))
 obtain ⟨rfl, rfl⟩ := DH bb
 exact ⟨_, _, _, _, rfl, rfl, ae.any⟩
set_option maxHeartbeats 1000000 in
theorem NZ {aa : Option Addr} {ab : Nat} {rows : List (List Int)} (ao : Ax 1 sE F aa ab rows) {r : Int} {r2 : List Int} (hr : Jp rows = some (r, r2)) :
    SH.Spec Tryz.prog 42 #[.slice aa rows.length ab] F [] fun F' L' v => ∃ (cu : Option Addr) (cv : Nat) (cw : Nat) (cx : LH), v = .agg #[.int .i64 r, .slice cu cv cw] ∧ L' = cx ++ [] ∧ A6 0 34 1 (iE .i64) F' cu cv cw r2 cx := by
 refine sp func42 ntmps42 fun K _ _ => ?_
 rw [Jp] at hr
 refine AO ?_
 refine Bj rfl zeroValue27 ?_; intro b1 ey
 refine Cj ?_
 refine Bj rfl zeroValue27 ?_; intro b2 fa
 refine Aa ?_
 obtain ⟨ai, aj, h9, cy⟩ := DA hr
 refine AV (fun e1 F1 L1 => ∃ (a3 : Option Addr) (n7 : Nat) (c4 : Nat) (bo : LH), F = F1 ∧ L1 = ((b2, ce #[.int .i64 ai, .slice a3 n7 c4] 27) :: ((b1, ce #[.int .i64 0, .slice none 0 0] 27) :: (bo ++ []))) ∧ e1.sub [(2, .pointer (some ⟨b1, 0, none⟩)), (3, .pointer (some ⟨b2, 0, none⟩))] ∧ A6 K.w0.heap.size 34 1 (iE .i64) F1 a3 n7 c4 aj bo) ?_ ?_
 ·clear cy
  refine AO (um ?_)
  refine uv (A3 underlying256 rfl) ?_
  refine um (Aa ?_)
  refine Am ?_
  refine Bk (fun cz e1 F1 L1 => LA rows cz fun tl k => ∃ (af : Int) (ad : List Int) (au : Option Addr) (av : Nat) (aw : Nat) (ak : LH), Fo tl af ad = some (ai, aj) ∧ F = F1 ∧ L1 = ((b2, ce #[.int .i64 af, .slice au av aw] 27) :: ((b1, ce #[.int .i64 0, .slice none 0 0] 27) :: (ak ++ []))) ∧ e1.sub [(2, .pointer (some ⟨b1, 0, none⟩)), (3, .pointer (some ⟨b2, 0, none⟩)), (9, .slice aa rows.length ab), (10, .int .i64 (rows.length : Int)), (11, .int .i64 k)] ∧ A6 K.w0.heap.size 34 1 (iE .i64) F1 au av aw ad ak) _ (m0 (kc (kc (ke kr))) ⟨_, _, rfl, BP.start _, 0, [], none, 0, 0, [], h9, rfl, rfl, z5, A6.nil _ _ _ _ _⟩) ?_
  rintro cz e1 _ _ ⟨tl, k, bp, ar, af, ad, au, av, aw, ak, bj, rfl, rfl, bq, bb⟩
  refine AA _ bq (AO (uv (Bg rfl rfl) ?_))
  refine Aa (Ao ?_)
  refine cQ (fun bk => ?_) fun bk => ?_
  ·obtain ⟨x, fb, rfl, br, da, bu⟩ := BP.succ ar bk
   rw [Fo] at bj
   refine An ?_
   obtain ⟨ah, dm, db⟩ := AI bj
   refine AV (fun e1 F1 L1 => ∃ (bl : Option Addr) (Qw : Nat) (bm : Nat) (aq : LH), F = F1 ∧ L1 = ((b2, ce #[.int .i64 (x.length : Int), .slice bl Qw bm] 27) :: ((b1, ce #[.int .i64 0, .slice none 0 0] 27) :: (aq ++ []))) ∧ e1.sub [(2, .pointer (some ⟨b1, 0, none⟩)), (3, .pointer (some ⟨b2, 0, none⟩)), (9, .slice aa rows.length ab), (10, .int .i64 (rows.length : Int)), (11, .int .i64 k)] ∧ A6 K.w0.heap.size 34 1 (iE .i64) F1 bl Qw bm ah aq) ?_ ?_
   ·clear db
    refine Am (AO ?_)
    obtain ⟨fe, ff, fg, dn, bx, bz, dd, rfl, dp, ca⟩ := Ax.at Zf ao ((b2, ce #[.int .i64 af, .slice au av aw] 27) :: ((b1, ce #[.int .i64 0, .slice none 0 0] 27) :: (ak ++ []))) da.1 br
    refine uv (AN underlying256 sizeOf9 rfl bx rfl da) (uv (Aj isAgg9 rfl bz (ca 0 (by decide))) ?_)
    refine ua (Cj (um ?_))
    refine uv (Xk underlying9 rfl) (uv (Ab I7 rfl) (CN (i := 0) sizeOf3 rfl rfl rfl rfl (Ce rfl) (AK rfl ?_)))
    refine Cj (um ?_)
    refine Ur (s := x) rfl underlying9 rfl ?_; intro ax dq
    refine Aa (Am ?_)
    refine Bk (fun bn e1 F1 L1 => ∃ (ae : List Int) (pos : Nat) (ay : Option Addr) (az : Nat) (ba : Nat) (al : LH), Fk x bn ae pos = some ah ∧ F = F1 ∧ L1 = ((ax, .stringIter (sB x) pos) :: ((b2, ce #[.int .i64 (x.length : Int), .slice ay az ba] 27) :: ((b1, ce #[.int .i64 0, .slice none 0 0] 27) :: (al ++ [])))) ∧ e1.sub [(2, .pointer (some ⟨b1, 0, none⟩)), (3, .pointer (some ⟨b2, 0, none⟩)), (9, .slice aa rows.length ab), (10, .int .i64 (rows.length : Int)), (11, .int .i64 k), (19, .pointer (some ⟨ax, 0, none⟩))] ∧ A6 K.w0.heap.size 34 1 (iE .i64) F1 ay az ba ae al) FU (m0 kr ⟨ad, 0, au, av, aw, ak, dm, rfl, rfl, z6, bb⟩) ?_
    rintro bn e1 _ _ ⟨ae, pos, ay, az, ba, al, bc, rfl, rfl, cb, bg⟩
    refine AA _ cb ?_
    rcases bn with _ | bn
    ·rw [Fk] at bc; cases bc
    rw [Fk] at bc
    refine AO ?_
    by_cases cc : pos < x.length
    ·have dr := A8 bc cc
     obtain ⟨c, fh, cf, dt⟩ := Cb dr
     obtain ⟨du, dv⟩ := A2 dt
     refine VR (i := 0) (c := c) rfl rfl rfl (by simpa using cf) du (AK rfl ?_)
     refine ox rfl rfl rfl (Aa (Ao ?_))
     refine AY rfl (fun de => ?_) (fun de => nomatch de)
     refine An (Am ?_)
     refine AO (ox rfl rfl rfl (ua (Cj (ua (Aa ?_)))))
     obtain ⟨p, df, dg⟩ := AI dv
     refine jE (((ax, .stringIter (sB x) (pos + 1)) :: ((b2, ce #[.int .i64 (x.length : Int), .slice ay az ba] 27) :: ((b1, ce #[.int .i64 0, .slice none 0 0] 27) :: (al ++ []))))) [(2, .pointer (some ⟨b1, 0, none⟩)), (3, .pointer (some ⟨b2, 0, none⟩)), (7, .int .i32 c), (8, .int .i64 p), (9, .slice aa rows.length ab), (10, .int .i64 (rows.length : Int)), (11, .int .i64 k), (19, .pointer (some ⟨ax, 0, none⟩))] ?_ ?_
     ·clear dg
      refine AO (um ?_)
      refine uv (Dn rfl rfl) (Aa ?_)
      refine cQ (fun cg => ?_) fun cg => ?_
      ·have dw := A8 df cg
       refine Ai (ua (Aa ?_))
       obtain rfl := AM dw
       exact mi kr ⟨rfl, rfl, z8⟩
      have dx := A9 df cg
      refine An ?_
      obtain rfl := AM dx
      exact mi kr ⟨rfl, rfl, z8⟩
     obtain ⟨p2, dh, di⟩ := AI dg
     refine jE (((ax, .stringIter (sB x) (pos + 1)) :: ((b2, ce #[.int .i64 (x.length : Int), .slice ay az ba] 27) :: ((b1, ce #[.int .i64 0, .slice none 0 0] 27) :: (al ++ []))))) [(2, .pointer (some ⟨b1, 0, none⟩)), (3, .pointer (some ⟨b2, 0, none⟩)), (8, .int .i64 p2), (9, .slice aa rows.length ab), (10, .int .i64 (rows.length : Int)), (11, .int .i64 k), (19, .pointer (some ⟨ax, 0, none⟩))] ?_ ?_
     ·clear di
      refine AO (um ?_)
      refine uv (Dn rfl rfl) (Aa ?_)
      refine cQ (fun cj => ?_) fun cj => ?_
      ·have dy := A8 dh cj
       refine Ai (ua (Aa ?_))
       obtain rfl := AM dy
       exact mi kr ⟨rfl, rfl, z7⟩
      have dz := A9 dh cj
      refine An ?_
      obtain rfl := AM dz
      exact mi kr ⟨rfl, rfl, z7⟩
     refine Ai (uv (Ab Dd rfl) (uv (Aj isAgg25 rfl (Has.own 1 rfl) rfl) (um ?_)))
     refine bA (cs := #[.int .i64 p2]) Mg [.int .i64 p2] ?_; intro fi e9
     obtain ⟨t, eg, eh, ej⟩ := Hv di
     refine Fg (xs := ae) (ys := [p2]) (zs := t) rfl Mg rfl rfl (Nat.le_refl _) (fun _ => .c (.c (.c (.c .h)))) bg (HE.box (vss := [[.int .i64 p2]]) (ys := [p2]) 0 rfl (Ad _) (.cons rfl .nil) rfl rfl) eg eh (by decide) ?_; intro eo er et cn cp
     refine kO (kd kr) (uv (Ab Dd rfl) (CN (i := 1) sizeOf25 rfl rfl rfl rfl (Ce rfl) (AK rfl ?_)))
     refine Aa (Au (id := 3) ?_)
     exact le kr ⟨t, pos + 1, eo, er, et, cn, ej, rfl, rfl, z6, cp⟩
    have eu := A9 bc cc
    refine Uu (i := 0) (s := x) rfl rfl rfl cc ?_
    refine ox rfl rfl rfl (Aa (Ao ?_))
    refine AY rfl (fun dk => nomatch dk) (fun dk => ?_)
    refine AQ (Af (Af ?_))
    refine Av (Au (id := 1) ?_)
    obtain rfl := AM eu
    exact mi (kd kr) ⟨ay, az, ba, al, rfl, rfl, z5, bg⟩
   rintro e1 _ _ ⟨bl, Qw, bm, aq, rfl, rfl, cq, cr⟩
   refine AA _ cq (Ai (uv (Bd rfl rfl (BP.EP ar bk (Ax.lt ao))) ?_))
   refine um (Aa ?_)
   subst bp; exact le kr ⟨_, _, rfl, bu, (x.length : Int), ah, bl, Qw, bm, aq, db, rfl, rfl, z5, cr⟩
  obtain rfl := BP.zero ar bk
  rw [Fo] at bj
  refine AQ (Af (Af ?_))
  refine Av ?_
  obtain ⟨rfl, rfl⟩ := DH bj
  exact mi kr ⟨au, av, aw, ak, rfl, rfl, z2, bb⟩
 rintro e1 _ _ ⟨a3, n7, c4, bo, rfl, rfl, ct, ew⟩
 refine AA _ ct (AO (uv (AL isAgg27 sizeOf27 rfl (Has.own 0 rfl) (Ce rfl) rfl) (Br (i := 1) sizeOf27 rfl rfl rfl (by simp [Value.oneCell']) rfl (Ce rfl) (AK rfl (Aa (kW (kd kr) (Al ?_)))))))
 refine Jn results42 (Dp (cs := #[.int .i64 ai, .slice a3 n7 c4]) isAgg27 sizeOf27 rfl (Has.own 0 rfl) (Ce rfl) rfl) (s1 (s4 sr)) ?_
 obtain ⟨rfl, rfl⟩ := DH cy
 exact ⟨_, _, _, _, rfl, rfl, ew.any⟩
set_option maxHeartbeats 1000000 in
theorem N9 {r r2 : List (List Int)} {r3 r4 : Int} {r5 : List ((List Int) × Int × Int)} (hr : Jt = some (r, r2, r3, r4, r5)) :
    SH.Spec Tryz.prog 43 #[] F [] fun F' L' v => ∃ (ra : Option Addr) (rn : Nat) (rc : Nat) (rL : LH) (bu : Option Addr) (bx : Nat) (bz : Nat) (ca : LH) (cb : Option Addr) (cc : Nat) (cf : Nat) (cg : LH), v = .agg #[.slice ra rn rc, .slice bu bx bz, .int .i64 r3, .int .i64 r4, .slice cb cc cf] ∧ L' = rL ++ (ca ++ (cg ++ [])) ∧ A6 0 33 1 (Cn 1 (iE .i64)) F' ra rn rc r rL ∧ A6 0 33 1 (Cn 1 (iE .i64)) F' bu bx bz r2 ca ∧ A6 0 41 3 (Cd (Cn 1 (iE .i64)) (Cd (iE .i64) (iE .i64))) F' cb cc cf r5 cg := by
 refine sp func43 ntmps43 fun K _ _ => ?_
 rw [Jt] at hr
 refine AO ?_
 refine Bj rfl zeroValue39 ?_; intro b1 dk
 refine Cj ?_
 refine bA (cs := #[.int .i64 0, .int .i64 2, .int .i64 (-1)]) CD [.int .i64 0, .int .i64 2, .int .i64 (-1)] ?_; intro b2 cq
 refine bA (cs := #[.int .i64 2, .int .i64 0, .int .i64 2]) CD [.int .i64 2, .int .i64 0, .int .i64 2] ?_; intro b3 cr
 refine bA (cs := #[.int .i64 (-1), .int .i64 2, .int .i64 0]) CD [.int .i64 (-1), .int .i64 2, .int .i64 0] ?_; intro b4 ct
 refine bA (cs := #[.slice (some ⟨b2, 0, none⟩) 3 3, .slice (some ⟨b3, 0, none⟩) 3 3, .slice (some ⟨b4, 0, none⟩) 3 3]) Nx [.slice (some ⟨b2, 0, none⟩) 3 3, .slice (some ⟨b3, 0, none⟩) 3 3, .slice (some ⟨b4, 0, none⟩) 3 3] ?_; intro b5 cu
 refine bA (cs := #[.int .i64 0]) CD [.int .i64 0] ?_; intro b6 cv
 refine bA (cs := #[.int .i64 1]) CD [.int .i64 1] ?_; intro b7 cw
 refine bA (cs := #[.int .i64 1, .int .i64 2]) CD [.int .i64 1, .int .i64 2] ?_; intro b8 cx
 refine bA (cs := #[.slice (some ⟨b6, 0, none⟩) 1 1, .slice (some ⟨b7, 0, none⟩) 1 1, .slice (some ⟨b8, 0, none⟩) 2 2]) Nx [.slice (some ⟨b6, 0, none⟩) 1 1, .slice (some ⟨b7, 0, none⟩) 1 1, .slice (some ⟨b8, 0, none⟩) 2 2] ?_; intro b9 cy
 refine bA (cs := #[.int .i64 0, .int .i64 2]) CD [.int .i64 0, .int .i64 2] ?_; intro H5 ax
 refine uv (Bx (v := .agg #[.slice (some ⟨H5, 0, none⟩) 2 2, .int .i64 3, .int .i64 12]) rfl (by intro w; kernel_rfl)) ?_
 refine bA (cs := #[.int .i64 1]) CD [.int .i64 1] ?_; intro QM ay
 refine uv (Bx (v := .agg #[.slice (some ⟨QM, 0, none⟩) 1 1, .int .i64 1, .int .i64 20]) rfl (by intro w; kernel_rfl)) ?_
 refine bA (cs := #[.slice (some ⟨H5, 0, none⟩) 2 2, .int .i64 3, .int .i64 12, .slice (some ⟨QM, 0, none⟩) 1 1, .int .i64 1, .int .i64 20]) W4 [.agg #[.slice (some ⟨H5, 0, none⟩) 2 2, .int .i64 3, .int .i64 12], .agg #[.slice (some ⟨QM, 0, none⟩) 1 1, .int .i64 1, .int .i64 20]] ?_; intro Vd az
 refine uv (Bx (v := .agg #[.slice (some ⟨b5, 0, none⟩) 3 3, .slice (some ⟨b9, 0, none⟩) 3 3, .int .i64 3, .int .i64 0, .slice (some ⟨Vd, 0, none⟩) 2 2]) rfl (by intro w; kernel_rfl)) ?_
 refine Bo 10 rfl cq ?_; intro cz da ba
 refine AK rfl ?_
 have al : Ax 1 (iE .i64) cz (some ⟨b2, 0, none⟩) 3 [0, 2, -1] := Ax.BQ (Ad _) (vss := [[.int .i64 0], [.int .i64 2], [.int .i64 (-1)]]) (xs := [0, 2, -1]) ba (.cons rfl (.cons rfl (.cons rfl .nil))) rfl (by simp [maxLen])
 refine Bo 9 rfl cr ?_; intro db bb bc
 refine AK rfl ?_
 replace al := al.mono (Ad _) bb
 have bg : Ax 1 (iE .i64) db (some ⟨b3, 0, none⟩) 3 [2, 0, 2] := Ax.BQ (Ad _) (vss := [[.int .i64 2], [.int .i64 0], [.int .i64 2]]) (xs := [2, 0, 2]) bc (.cons rfl (.cons rfl (.cons rfl .nil))) rfl (by simp [maxLen])
 refine Bo 8 rfl ct ?_; intro cj ao bj
 refine AK rfl ?_
 replace al := al.mono (Ad _) ao
 replace bg := bg.mono (Ad _) ao
 have dd : Ax 1 (iE .i64) cj (some ⟨b4, 0, none⟩) 3 [-1, 2, 0] := Ax.BQ (Ad _) (vss := [[.int .i64 (-1)], [.int .i64 2], [.int .i64 0]]) (xs := [-1, 2, 0]) bj (.cons rfl (.cons rfl (.cons rfl .nil))) rfl (by simp [maxLen])
 have aa : A6 K.w0.heap.size 33 1 (Cn 1 (iE .i64)) cj (some ⟨b5, 0, none⟩) 3 3 [[0, 2, -1], [2, 0, 2], [-1, 2, 0]] [(b5, ce (#[.slice (some ⟨b2, 0, none⟩) [0, 2, -1].length 3, .slice (some ⟨b3, 0, none⟩) [2, 0, 2].length 3, .slice (some ⟨b4, 0, none⟩) [-1, 2, 0].length 3]) 33)] := A6.BQ (vss := [[.slice (some ⟨b2, 0, none⟩) [0, 2, -1].length 3], [.slice (some ⟨b3, 0, none⟩) [2, 0, 2].length 3], [.slice (some ⟨b4, 0, none⟩) [-1, 2, 0].length 3]]) (Az (Ad _)) cu (.cons ⟨_, _, rfl, al⟩ (.cons ⟨_, _, rfl, bg⟩ (.cons ⟨_, _, rfl, dd⟩ .nil))) rfl rfl (by simp [maxLen])
 generalize af : ([(b5, ce (#[.slice (some ⟨b2, 0, none⟩) [0, 2, -1].length 3, .slice (some ⟨b3, 0, none⟩) [2, 0, 2].length 3, .slice (some ⟨b4, 0, none⟩) [-1, 2, 0].length 3]) 33)] : LH) = ab at aa
 refine CW (L' := ab ++ [(Vd, ce #[.slice (some ⟨H5, 0, none⟩) 2 2, .int .i64 3, .int .i64 12, .slice (some ⟨QM, 0, none⟩) 1 1, .int .i64 1, .int .i64 20] 41), (QM, ce #[.int .i64 1] 3), (H5, ce #[.int .i64 0, .int .i64 2] 3), (b9, ce #[.slice (some ⟨b6, 0, none⟩) 1 1, .slice (some ⟨b7, 0, none⟩) 1 1, .slice (some ⟨b8, 0, none⟩) 2 2] 33), (b8, ce #[.int .i64 1, .int .i64 2] 3), (b7, ce #[.int .i64 1] 3), (b6, ce #[.int .i64 0] 3), (b1, ce #[.slice none 0 0, .slice none 0 0, .int .i64 0, .int .i64 0, .slice none 0 0] 39)]) (by rw [← af]; exact (fC (fC (fC (fC (fC (fC (fC fO)))))))) ?_
 refine CW (L' := (Vd, ce #[.slice (some ⟨H5, 0, none⟩) 2 2, .int .i64 3, .int .i64 12, .slice (some ⟨QM, 0, none⟩) 1 1, .int .i64 1, .int .i64 20] 41) :: ((QM, ce #[.int .i64 1] 3) :: ((H5, ce #[.int .i64 0, .int .i64 2] 3) :: ((b9, ce #[.slice (some ⟨b6, 0, none⟩) 1 1, .slice (some ⟨b7, 0, none⟩) 1 1, .slice (some ⟨b8, 0, none⟩) 2 2] 33) :: ((b8, ce #[.int .i64 1, .int .i64 2] 3) :: ((b7, ce #[.int .i64 1] 3) :: ((b6, ce #[.int .i64 0] 3) :: ((b1, ce #[.slice none 0 0, .slice none 0 0, .int .i64 0, .int .i64 0, .slice none 0 0] 39) :: (ab ++ []))))))))) (List.Perm.symm (fC (fC (fC (fC (fC (fC (fC (fC fP))))))))) ?_
 refine Bo 6 rfl cv ?_; intro de bk bl
 refine AK rfl ?_
 replace aa := aa.mono (Az (Ad _)) bk
 have aq : Ax 1 (iE .i64) de (some ⟨b6, 0, none⟩) 1 [0] := Ax.BQ (Ad _) (vss := [[.int .i64 0]]) (xs := [0]) bl (.cons rfl .nil) rfl (by simp [maxLen])
 refine Bo 5 rfl cw ?_; intro df ar bm
 refine AK rfl ?_
 replace aq := aq.mono (Ad _) ar
 replace aa := aa.mono (Az (Ad _)) ar
 have bn : Ax 1 (iE .i64) df (some ⟨b7, 0, none⟩) 1 [1] := Ax.BQ (Ad _) (vss := [[.int .i64 1]]) (xs := [1]) bm (.cons rfl .nil) rfl (by simp [maxLen])
 refine Bo 4 rfl cx ?_; intro cn ah bo
 refine AK rfl ?_
 replace aq := aq.mono (Ad _) ah
 replace bn := bn.mono (Ad _) ah
 replace aa := aa.mono (Az (Ad _)) ah
 have dg : Ax 1 (iE .i64) cn (some ⟨b8, 0, none⟩) 2 [1, 2] := Ax.BQ (Ad _) (vss := [[.int .i64 1], [.int .i64 2]]) (xs := [1, 2]) bo (.cons rfl (.cons rfl .nil)) rfl (by simp [maxLen])
 have ad : A6 K.w0.heap.size 33 1 (Cn 1 (iE .i64)) cn (some ⟨b9, 0, none⟩) 3 3 [[0], [1], [1, 2]] [(b9, ce (#[.slice (some ⟨b6, 0, none⟩) [0].length 1, .slice (some ⟨b7, 0, none⟩) [1].length 1, .slice (some ⟨b8, 0, none⟩) [1, 2].length 2]) 33)] := A6.BQ (vss := [[.slice (some ⟨b6, 0, none⟩) [0].length 1], [.slice (some ⟨b7, 0, none⟩) [1].length 1], [.slice (some ⟨b8, 0, none⟩) [1, 2].length 2]]) (Az (Ad _)) cy (.cons ⟨_, _, rfl, aq⟩ (.cons ⟨_, _, rfl, bn⟩ (.cons ⟨_, _, rfl, dg⟩ .nil))) rfl rfl (by simp [maxLen])
 generalize ai : ([(b9, ce (#[.slice (some ⟨b6, 0, none⟩) [0].length 1, .slice (some ⟨b7, 0, none⟩) [1].length 1, .slice (some ⟨b8, 0, none⟩) [1, 2].length 2]) 33)] : LH) = ae at ad
 refine CW (L' := ae ++ ((Vd, ce #[.slice (some ⟨H5, 0, none⟩) 2 2, .int .i64 3, .int .i64 12, .slice (some ⟨QM, 0, none⟩) 1 1, .int .i64 1, .int .i64 20] 41) :: ((QM, ce #[.int .i64 1] 3) :: ((H5, ce #[.int .i64 0, .int .i64 2] 3) :: ((b1, ce #[.slice none 0 0, .slice none 0 0, .int .i64 0, .int .i64 0, .slice none 0 0] 39) :: (ab ++ [])))))) (by rw [← ai]; exact (fC (fC (fC fO)))) ?_
 refine CW (L' := (Vd, ce #[.slice (some ⟨H5, 0, none⟩) 2 2, .int .i64 3, .int .i64 12, .slice (some ⟨QM, 0, none⟩) 1 1, .int .i64 1, .int .i64 20] 41) :: ((QM, ce #[.int .i64 1] 3) :: ((H5, ce #[.int .i64 0, .int .i64 2] 3) :: ((b1, ce #[.slice none 0 0, .slice none 0 0, .int .i64 0, .int .i64 0, .slice none 0 0] 39) :: (ae ++ (ab ++ [])))))) (List.Perm.symm (fC (fC (fC (fC fP))))) ?_
 refine Bo 2 rfl ax ?_; intro dh au bp
 refine AK rfl ?_
 replace aa := aa.mono (Az (Ad _)) au
 replace ad := ad.mono (Az (Ad _)) au
 have bq : Ax 1 (iE .i64) dh (some ⟨H5, 0, none⟩) 2 [0, 2] := Ax.BQ (Ad _) (vss := [[.int .i64 0], [.int .i64 2]]) (xs := [0, 2]) bp (.cons rfl (.cons rfl .nil)) rfl (by simp [maxLen])
 refine Bo 1 rfl ay ?_; intro cp aj br
 refine AK rfl ?_
 replace bq := bq.mono (Ad _) aj
 replace aa := aa.mono (Az (Ad _)) aj
 replace ad := ad.mono (Az (Ad _)) aj
 have di : Ax 1 (iE .i64) cp (some ⟨QM, 0, none⟩) 1 [1] := Ax.BQ (Ad _) (vss := [[.int .i64 1]]) (xs := [1]) br (.cons rfl .nil) rfl (by simp [maxLen])
 have av : A6 K.w0.heap.size 41 3 (Cd (Cn 1 (iE .i64)) (Cd (iE .i64) (iE .i64))) cp (some ⟨Vd, 0, none⟩) 2 2 [([0, 2], 3, 12), ([1], 1, 20)] [(Vd, ce (#[.slice (some ⟨H5, 0, none⟩) [0, 2].length 2, .int .i64 3, .int .i64 12, .slice (some ⟨QM, 0, none⟩) [1].length 1, .int .i64 1, .int .i64 20]) 41)] := A6.BQ (vss := [[.slice (some ⟨H5, 0, none⟩) [0, 2].length 2, .int .i64 3, .int .i64 12], [.slice (some ⟨QM, 0, none⟩) [1].length 1, .int .i64 1, .int .i64 20]]) (AD (Az (Ad _)) (AD (Ad _) (Ad _))) az (.cons ⟨_, _, rfl, ⟨_, _, rfl, bq⟩, ⟨_, _, rfl, rfl, rfl⟩⟩ (.cons ⟨_, _, rfl, ⟨_, _, rfl, di⟩, ⟨_, _, rfl, rfl, rfl⟩⟩ .nil)) rfl rfl (by simp [maxLen])
 generalize ak : ([(Vd, ce (#[.slice (some ⟨H5, 0, none⟩) [0, 2].length 2, .int .i64 3, .int .i64 12, .slice (some ⟨QM, 0, none⟩) [1].length 1, .int .i64 1, .int .i64 20]) 41)] : LH) = aw at av
 refine CW (L' := aw ++ ((b1, ce #[.slice none 0 0, .slice none 0 0, .int .i64 0, .int .i64 0, .slice none 0 0] 39) :: (ae ++ (ab ++ [])))) (by rw [← ak]; exact fO) ?_
 refine CW (L' := (b1, ce #[.slice none 0 0, .slice none 0 0, .int .i64 0, .int .i64 0, .slice none 0 0] 39) :: (aw ++ (ae ++ (ab ++ [])))) (List.Perm.symm (fC fP)) (Br (i := 0) sizeOf39 rfl rfl rfl (by simp [Value.oneCell']) rfl (Ce rfl) (AK rfl (Aa (kW (kc (kg (fS (fS fP)) (kg (fS fP) kr))) (Al (Jn results43 (Dp (cs := #[.slice (some ⟨b5, 0, none⟩) 3 3, .slice (some ⟨b9, 0, none⟩) 3 3, .int .i64 3, .int .i64 0, .slice (some ⟨Vd, 0, none⟩) 2 2]) isAgg39 sizeOf39 rfl (Has.own 0 rfl) (Ce rfl) rfl) (s1 (s4 (s4 (s4 sr)))) ?_))))))
 obtain ⟨rfl, rfl, rfl, rfl, rfl⟩ := aU hr
 exact ⟨_, _, _, _, _, _, _, _, _, _, _, _, rfl, rfl, aa.any, ad.any, av.any⟩
set_option maxHeartbeats 1000000 in
theorem OV {r r2 : Int} {r3 : List (List (List Int))} {r4 : List Int} {r5 : List (Int × Int × Int)} (hr : Ki = some (r, r2, r3, r4, r5)) :
    SH.Spec Tryz.prog 44 #[] F [] fun F' L' v => ∃ (bg : Option Addr) (bj : Nat) (bk : Nat) (bl : LH) (bm : Option Addr) (bn : Nat) (bo : Nat) (bp : LH) (bq : Option Addr) (br : Nat) (bu : Nat) (bx : LH), v = .agg #[.int .i64 r, .int .i64 r2, .slice bg bj bk, .slice bm bn bo, .slice bq br bu] ∧ L' = bl ++ (bp ++ (bx ++ [])) ∧ A6 0 36 1 (Cn 1 (Cn 1 (iE .i64))) F' bg bj bk r3 bl ∧ A6 0 3 1 (iE .i64) F' bm bn bo r4 bp ∧ A6 0 132 3 (Cd (iE .i64) (Cd (iE .i64) (iE .i64))) F' bq br bu r5 bx := by
 refine sp func44 ntmps44 fun K _ _ => ?_
 rw [Ki] at hr
 refine AO ?_
 refine Bj rfl zeroValue100 ?_; intro b1 cw
 refine Cj ?_
 refine bA (cs := #[.int .i64 0]) CD [.int .i64 0] ?_; intro b2 bz
 refine bA (cs := #[.int .i64 0, .int .i64 1]) CD [.int .i64 0, .int .i64 1] ?_; intro b3 ca
 refine bA (cs := #[.int .i64 1]) CD [.int .i64 1] ?_; intro b4 cb
 refine bA (cs := #[.int .i64 1]) CD [.int .i64 1] ?_; intro b5 cc
 refine bA (cs := #[.slice (some ⟨b2, 0, none⟩) 1 1, .slice (some ⟨b3, 0, none⟩) 2 2, .slice (some ⟨b4, 0, none⟩) 1 1, .slice (some ⟨b5, 0, none⟩) 1 1, .slice none 0 0, .slice none 0 0, .slice none 0 0, .slice none 0 0]) Nx [.slice (some ⟨b2, 0, none⟩) 1 1, .slice (some ⟨b3, 0, none⟩) 2 2, .slice (some ⟨b4, 0, none⟩) 1 1, .slice (some ⟨b5, 0, none⟩) 1 1, .slice none 0 0, .slice none 0 0, .slice none 0 0, .slice none 0 0] ?_; intro b6 cf
 refine bA (cs := #[.slice (some ⟨b6, 0, none⟩) 8 8]) Z0 [.slice (some ⟨b6, 0, none⟩) 8 8] ?_; intro b7 cg
 refine bA (cs := #[.int .i64 1, .int .i64 (-1), .int .i64 4]) CD [.int .i64 1, .int .i64 (-1), .int .i64 4] ?_; intro b8 cj
 refine uv (Bx (v := .agg #[.int .i64 0, .int .i64 0, .int .i64 0]) rfl (by intro w; kernel_rfl)) ?_
 refine uv (Bx (v := .agg #[.int .i64 2, .int .i64 0, .int .i64 0]) rfl (by intro w; kernel_rfl)) ?_
 refine bA (cs := #[.int .i64 0, .int .i64 0, .int .i64 0, .int .i64 2, .int .i64 0, .int .i64 0]) Zq [.agg #[.int .i64 0, .int .i64 0, .int .i64 0], .agg #[.int .i64 2, .int .i64 0, .int .i64 0]] ?_; intro b9 cn
 refine uv (Bx (v := .agg #[.int .i64 2, .int .i64 1, .slice (some ⟨b7, 0, none⟩) 1 1, .slice (some ⟨b8, 0, none⟩) 3 3, .slice (some ⟨b9, 0, none⟩) 2 2]) rfl (by intro w; kernel_rfl)) ?_
 refine Bo 7 rfl bz ?_; intro cp cq aw
 refine AK rfl ?_
 have aa : Ax 1 (iE .i64) cp (some ⟨b2, 0, none⟩) 1 [0] := Ax.BQ (Ad _) (vss := [[.int .i64 0]]) (xs := [0]) aw (.cons rfl .nil) rfl (by simp [maxLen])
 refine Bo 6 rfl ca ?_; intro cr ax ay
 refine AK rfl ?_
 replace aa := aa.mono (Ad _) ax
 have ae : Ax 1 (iE .i64) cr (some ⟨b3, 0, none⟩) 2 [0, 1] := Ax.BQ (Ad _) (vss := [[.int .i64 0], [.int .i64 1]]) (xs := [0, 1]) ay (.cons rfl (.cons rfl .nil)) rfl (by simp [maxLen])
 refine Bo 5 rfl cb ?_; intro ct ak az
 refine AK rfl ?_
 replace aa := aa.mono (Ad _) ak
 replace ae := ae.mono (Ad _) ak
 have al : Ax 1 (iE .i64) ct (some ⟨b4, 0, none⟩) 1 [1] := Ax.BQ (Ad _) (vss := [[.int .i64 1]]) (xs := [1]) az (.cons rfl .nil) rfl (by simp [maxLen])
 refine Bo 4 rfl cc ?_; intro cu af ba
 refine AK rfl ?_
 replace aa := aa.mono (Ad _) af
 replace ae := ae.mono (Ad _) af
 replace al := al.mono (Ad _) af
 have bb : Ax 1 (iE .i64) cu (some ⟨b5, 0, none⟩) 1 [1] := Ax.BQ (Ad _) (vss := [[.int .i64 1]]) (xs := [1]) ba (.cons rfl .nil) rfl (by simp [maxLen])
 refine Bo 3 rfl cf ?_; intro av ab bc
 refine AK rfl ?_
 replace aa := aa.mono (Ad _) ab
 replace ae := ae.mono (Ad _) ab
 replace al := al.mono (Ad _) ab
 replace bb := bb.mono (Ad _) ab
 have cv : Ax 1 (Cn 1 (iE .i64)) av (some ⟨b6, 0, none⟩) 8 [[0], [0, 1], [1], [1], [], [], [], []] := Ax.BQ (Az (Ad _)) (vss := [[.slice (some ⟨b2, 0, none⟩) [0].length 1], [.slice (some ⟨b3, 0, none⟩) [0, 1].length 2], [.slice (some ⟨b4, 0, none⟩) [1].length 1], [.slice (some ⟨b5, 0, none⟩) [1].length 1], [.slice none 0 0], [.slice none 0 0], [.slice none 0 0], [.slice none 0 0]]) (xs := [[0], [0, 1], [1], [1], [], [], [], []]) bc (.cons ⟨_, _, rfl, aa⟩ (.cons ⟨_, _, rfl, ae⟩ (.cons ⟨_, _, rfl, al⟩ (.cons ⟨_, _, rfl, bb⟩ (.cons ⟨_, _, rfl, Ax.nil _ _ _⟩ (.cons ⟨_, _, rfl, Ax.nil _ _ _⟩ (.cons ⟨_, _, rfl, Ax.nil _ _ _⟩ (.cons ⟨_, _, rfl, Ax.nil _ _ _⟩ .nil)))))))) rfl (by simp [maxLen])
 have ao : A6 K.w0.heap.size 36 1 (Cn 1 (Cn 1 (iE .i64))) av (some ⟨b7, 0, none⟩) 1 1 [[[0], [0, 1], [1], [1], [], [], [], []]] [(b7, ce (#[.slice (some ⟨b6, 0, none⟩) [[0], [0, 1], [1], [1], [], [], [], []].length 8]) 36)] := A6.BQ (vss := [[.slice (some ⟨b6, 0, none⟩) [[0], [0, 1], [1], [1], [], [], [], []].length 8]]) (Az (Az (Ad _))) cg (.cons ⟨_, _, rfl, cv⟩ .nil) rfl rfl (by simp [maxLen])
 generalize ah : ([(b7, ce (#[.slice (some ⟨b6, 0, none⟩) [[0], [0, 1], [1], [1], [], [], [], []].length 8]) 36)] : LH) = Lb30 at ao
 refine CW (L' := Lb30 ++ [(b9, ce #[.int .i64 0, .int .i64 0, .int .i64 0, .int .i64 2, .int .i64 0, .int .i64 0] 132), (b8, ce #[.int .i64 1, .int .i64 (-1), .int .i64 4] 3), (b1, ce #[.int .i64 0, .int .i64 0, .slice none 0 0, .slice none 0 0, .slice none 0 0] 100)]) (by rw [← ah]; exact (fC (fC fO))) ?_
 refine CW (L' := (b9, ce #[.int .i64 0, .int .i64 0, .int .i64 0, .int .i64 2, .int .i64 0, .int .i64 0] 132) :: ((b8, ce #[.int .i64 1, .int .i64 (-1), .int .i64 4] 3) :: ((b1, ce #[.int .i64 0, .int .i64 0, .slice none 0 0, .slice none 0 0, .slice none 0 0] 100) :: (Lb30 ++ [])))) (List.Perm.symm (fC (fC (fC fP)))) ?_
 have aq : A6 K.w0.heap.size 3 1 (iE .i64) av (some ⟨b8, 0, none⟩) 3 3 [1, -1, 4] [(b8, ce #[.int .i64 1, .int .i64 (-1), .int .i64 4] 3)] := A6.BQ (vss := [[.int .i64 1], [.int .i64 (-1)], [.int .i64 4]]) (Ad _) cj (.cons rfl (.cons rfl (.cons rfl .nil))) rfl rfl (by simp [maxLen])
 generalize ai : ([(b8, ce #[.int .i64 1, .int .i64 (-1), .int .i64 4] 3)] : LH) = ad at aq
 refine CW (L' := ad ++ ((b9, ce #[.int .i64 0, .int .i64 0, .int .i64 0, .int .i64 2, .int .i64 0, .int .i64 0] 132) :: ((b1, ce #[.int .i64 0, .int .i64 0, .slice none 0 0, .slice none 0 0, .slice none 0 0] 100) :: (Lb30 ++ [])))) (by rw [← ai]; exact (fC fO)) ?_
 refine CW (L' := (b9, ce #[.int .i64 0, .int .i64 0, .int .i64 0, .int .i64 2, .int .i64 0, .int .i64 0] 132) :: ((b1, ce #[.int .i64 0, .int .i64 0, .slice none 0 0, .slice none 0 0, .slice none 0 0] 100) :: (ad ++ (Lb30 ++ [])))) (List.Perm.symm (fC (fC fP))) ?_
 have ar : A6 K.w0.heap.size 132 3 (Cd (iE .i64) (Cd (iE .i64) (iE .i64))) av (some ⟨b9, 0, none⟩) 2 2 [(0, 0, 0), (2, 0, 0)] [(b9, ce #[.int .i64 0, .int .i64 0, .int .i64 0, .int .i64 2, .int .i64 0, .int .i64 0] 132)] := A6.BQ (vss := [[.int .i64 0, .int .i64 0, .int .i64 0], [.int .i64 2, .int .i64 0, .int .i64 0]]) (AD (Ad _) (AD (Ad _) (Ad _))) cn (.cons ⟨_, _, rfl, rfl, ⟨_, _, rfl, rfl, rfl⟩⟩ (.cons ⟨_, _, rfl, rfl, ⟨_, _, rfl, rfl, rfl⟩⟩ .nil)) rfl rfl (by simp [maxLen])
 generalize aj : ([(b9, ce #[.int .i64 0, .int .i64 0, .int .i64 0, .int .i64 2, .int .i64 0, .int .i64 0] 132)] : LH) = au at ar
 refine CW (L' := au ++ ((b1, ce #[.int .i64 0, .int .i64 0, .slice none 0 0, .slice none 0 0, .slice none 0 0] 100) :: (ad ++ (Lb30 ++ [])))) (by rw [← aj]; exact fO) ?_
 refine CW (L' := (b1, ce #[.int .i64 0, .int .i64 0, .slice none 0 0, .slice none 0 0, .slice none 0 0] 100) :: (au ++ (ad ++ (Lb30 ++ [])))) (List.Perm.symm (fC fP)) (Br (i := 0) sizeOf100 rfl rfl rfl (by simp [Value.oneCell']) rfl (Ce rfl) (AK rfl (Aa (kW (kc (kg (fS (fS fP)) (kg (fS fP) kr))) (Al (Jn results44 (Dp (cs := #[.int .i64 2, .int .i64 1, .slice (some ⟨b7, 0, none⟩) 1 1, .slice (some ⟨b8, 0, none⟩) 3 3, .slice (some ⟨b9, 0, none⟩) 2 2]) isAgg100 sizeOf100 rfl (Has.own 0 rfl) (Ce rfl) rfl) (s1 (s4 (s4 (s4 sr)))) ?_))))))
 obtain ⟨rfl, rfl, rfl, rfl, rfl⟩ := aU hr
 exact ⟨_, _, _, _, _, _, _, _, _, _, _, _, rfl, rfl, ao.any, aq.any, ar.any⟩
set_option maxHeartbeats 1000000 in
theorem Lh {s1 s2 : List Int} (aa : Ax 1 (iE .i64) F Sm RU s1) (ab : Ax 1 (iE .i64) F Sh SN s2) {r : Bool} (hr : Ht s1 s2 = some r) :
    Bw Tryz.prog 118 #[.slice Sm s1.length RU, .slice Sh s2.length SN] F (.bool r) := by
 refine sp func118 ntmps118 fun K _ _ => ?_
 rw [Ht] at hr
 refine AO (ua (Aa (Ao (AO (um ?_)))))
 refine uv (A3 underlying33 rfl) (um (uv (A3 underlying33 rfl) (uv (B8 rfl rfl) (Aa ?_))))
 refine cQ (fun c1 => ?_) fun c1 => ?_
 ·have r2 := A8 hr c1
  refine AO (ua (Aa (Al (Ah ?_))))
  refine Cq results118 ?_
  obtain rfl := AM r2
  exact rfl
 have r3 := A9 hr c1
 refine An ?_
 refine AV (fun e1 F1 L1 => Gn = some r ∧ F = F1 ∧ L1 = [] ∧ e1.sub []) ?_ ?_
 ·refine AO (um ?_)
  refine uv (A3 underlying33 rfl) ?_
  refine um (Aa ?_)
  refine Am ?_
  refine Bk (fun av e1 F1 L1 => LA s1 av fun tl k => D5 s2 tl k = some r ∧ F = F1 ∧ L1 = [] ∧ e1.sub [(0, .slice Sm s1.length RU), (1, .slice Sh s2.length SN), (12, .int .i64 (s1.length : Int)), (13, .int .i64 k)]) _ (m0 kr ⟨_, _, rfl, BP.start _, r3, rfl, rfl, z4⟩) ?_
  rintro av e1 _ _ ⟨tl, k, bc, ad, r6, rfl, rfl, bg⟩
  refine AA _ bg (AO (uv (Bg rfl rfl) ?_))
  refine Aa (Ao ?_)
  refine cQ (fun c9 => ?_) fun c9 => ?_
  ·obtain ⟨x, bp, rfl, ae, aw, af⟩ := BP.succ ad c9
   rw [D5] at r6
   refine An (Ao ?_)
   refine Am ?_
   refine AO (um (ua ?_))
   refine dN ?_
   refine wm (wm ?_)
   obtain ⟨bq, br, bu, bj, ah, ai, ax, rfl, bk, aj⟩ := Ax.at (Ad _) aa ([]) aw.1 ae
   refine wv (AN underlying33 sizeOf3 rfl ah rfl aw) (wv (Aj isAgg3 rfl ai (aj 0 (by decide))) ?_)
   refine wm (wm ?_)
   obtain ⟨x2, ay, ak, az⟩ := Cb r6
   obtain ⟨bx, bz, ca, bl, al, ao, ba, rfl, bm, aq⟩ := Ax.at (Ad _) ab ([]) ay.1 ak
   refine wv (AN underlying33 sizeOf3 rfl al rfl ay) (wv (Aj isAgg3 rfl ao (aq 0 (by decide))) (wv (B8 rfl rfl) (DN ?_)))
   refine cQ (fun ar => ?_) fun ar => ?_
   ·have bn := A8 az ar
    refine AO (ua (Aa (Al (Ay (Ah (Ah (Ay (Ah ?_))))))))
    refine Cq results118 ?_
    obtain rfl := AM bn
    exact rfl
   have bo := A9 az ar
   refine An (Au (id := 1) (Ai ?_))
   refine uv (Bd rfl rfl (BP.EP ad c9 (Ax.lt aa))) ?_
   refine um (Aa ?_)
   subst bc; exact le kr ⟨_, _, rfl, af, bo, rfl, rfl, z4⟩
  obtain rfl := BP.zero ad c9
  rw [D5] at r6
  refine AQ (Af (Af ?_))
  refine Av ?_
  exact mi kr ⟨r6, rfl, rfl, (sn _)⟩
 rintro e1 _ _ ⟨bb, rfl, rfl, au⟩
 refine AA _ au ?_
 rw [Gn] at bb
 refine AO (ua (Aa (Al ?_)))
 refine Cq results118 ?_
 obtain rfl := AM bb
 exact rfl
theorem Np {a b : List Int} (aa : Ax 1 (iE .i64) F bQ bK a) (ab : Ax 1 (iE .i64) F bL KG b) {r : Bool} (hr : IV a b = some r) :
    Bw Tryz.prog 45 #[.slice bQ a.length bK, .slice bL b.length KG] F (.bool r) := by
 refine sp func45 ntmps45 fun K _ _ => ?_
 rw [IV] at hr
 refine AO (ua (Cj (um (um ?_))))
 obtain ⟨ok, h1, r2⟩ := AI hr
 refine cV call118 (Lh aa ab h1) ?_
 refine ua (Aa (Al ?_))
 refine Cq results45 ?_
 obtain rfl := AM r2
 exact rfl
set_option maxHeartbeats 1000000 in
theorem DL {s1 s2 : List (List Int)} {aa : FuncId} {eq_1 eq_2 : Array Value} {eq : ((List Int) × (List Int)) → Option Bool} (ab : Ax 1 (Cn 1 (iE .i64)) F Sm RU s1) (ae : Ax 1 (Cn 1 (iE .i64)) F Sh SN s2) (ad : IQ Tryz.prog F aa eq_1 eq_2 (Cd (Cn 1 (iE .i64)) (Cn 1 (iE .i64))) Value.bool eq) {r : Bool} (hr : BF s1 s2 eq = some r) :
    Bw Tryz.prog 119 #[.slice Sm s1.length RU, .slice Sh s2.length SN, .func (.func aa) eq_1 eq_2] F (.bool r) := by
 refine sp func119 ntmps119 fun K _ _ => ?_
 rw [BF] at hr
 refine AO (ua (Aa (Ao (AO (um ?_)))))
 refine uv (A3 underlying103 rfl) (um (uv (A3 underlying103 rfl) (uv (B8 rfl rfl) (Aa ?_))))
 refine cQ (fun c1 => ?_) fun c1 => ?_
 ·have r2 := A8 hr c1
  refine AO (ua (Aa (Al (Ah ?_))))
  refine Cq results119 ?_
  obtain rfl := AM r2
  exact rfl
 have r3 := A9 hr c1
 refine An ?_
 refine AV (fun e1 F1 L1 => BE = some r ∧ F = F1 ∧ L1 = [] ∧ e1.sub []) ?_ ?_
 ·refine AO (um ?_)
  refine uv (A3 underlying103 rfl) ?_
  refine um (Aa ?_)
  refine Am ?_
  refine Bk (fun ax e1 F1 L1 => LA s1 ax fun tl k => Ba s2 eq tl k = some r ∧ F = F1 ∧ L1 = [] ∧ e1.sub [(1, .slice Sh s2.length SN), (2, .func (.func aa) eq_1 eq_2), (15, .slice Sm s1.length RU), (16, .int .i64 (s1.length : Int)), (17, .int .i64 k)]) _ (m0 kr ⟨_, _, rfl, BP.start _, r3, rfl, rfl, z5⟩) ?_
  rintro ax e1 _ _ ⟨tl, k, bj, af, r6, rfl, rfl, bk⟩
  refine AA _ bk (AO (uv (Bg rfl rfl) ?_))
  refine Aa (Ao ?_)
  refine cQ (fun c9 => ?_) fun c9 => ?_
  ·obtain ⟨x, ca, rfl, ah, ay, ai⟩ := BP.succ af c9
   rw [Ba] at r6
   refine An (Ao ?_)
   refine Am ?_
   refine AO (um ?_)
   obtain ⟨cb, cc, cf, bl, aj, ak, az, ⟨cg, cj, rfl, bm⟩, bn, al⟩ := Ax.at (Az (Ad _)) ab ([]) ay.1 ah
   refine uv (AN underlying103 sizeOf123 rfl aj rfl ay) (uv (Aj isAgg123 rfl ak (al 0 (by decide))) ?_)
   refine ua (ua (Cj (um (um ?_))))
   obtain ⟨x2, ba, ao, bo⟩ := Cb r6
   obtain ⟨cn, cp, cq, bp, aq, ar, bb, ⟨cr, ct, rfl, bq⟩, br, au⟩ := Ax.at (Az (Ad _)) ae ([]) ba.1 ao
   refine uv (AN underlying103 sizeOf123 rfl aq rfl ba) (uv (Aj isAgg123 rfl ar (au 0 (by decide))) ?_)
   refine ua (Cj (um (um (um ?_))))
   obtain ⟨ok, bu, bc⟩ := AI bo
   refine FI rfl ad.1 rfl rfl rfl (ad.2 _ (AZ.refl _) _ _ _ ⟨_, _, rfl, ⟨_, _, rfl, bm⟩, ⟨_, _, rfl, bq⟩⟩ bu) (uv (Cc rfl) (Aa ?_))
   refine AY rfl (fun av => ?_) (fun av => ?_)
   ·have bx := bt bc av
    refine AO (ua (Aa (Al (Ay (Ah (Ah (Ay (Ah ?_))))))))
    refine Cq results119 ?_
    obtain rfl := AM bx
    exact rfl
   have bz := bf bc av
   refine An (Au (id := 1) (Ai ?_))
   refine uv (Bd rfl rfl (BP.EP af c9 (Ax.lt ab))) ?_
   refine um (Aa ?_)
   subst bj; exact le kr ⟨_, _, rfl, ai, bz, rfl, rfl, z5⟩
  obtain rfl := BP.zero af c9
  rw [Ba] at r6
  refine AQ (Af (Af ?_))
  refine Av ?_
  exact mi kr ⟨r6, rfl, rfl, (sn _)⟩
 rintro e1 _ _ ⟨bg, rfl, rfl, aw⟩
 refine AA _ aw ?_
 rw [BE] at bg
 refine AO (ua (Aa (Al ?_)))
 refine Cq results119 ?_
 obtain rfl := AM bg
 exact rfl
set_option maxHeartbeats 1000000 in
theorem GZ {s1 s2 : List Int} (aa : Ax 1 (iE .i64) F Sm RU s1) (ab : Ax 1 (iE .i64) F Sh SN s2) {r : Bool} (hr : CF s1 s2 = some r) :
    Bw Tryz.prog 120 #[.slice Sm s1.length RU, .slice Sh s2.length SN] F (.bool r) := by
 refine sp func120 ntmps120 fun K _ _ => ?_
 rw [CF] at hr
 refine AO (ua (Aa (Ao (AO (um ?_)))))
 refine uv (A3 underlying123 rfl) (um (uv (A3 underlying123 rfl) (uv (B8 rfl rfl) (Aa ?_))))
 refine cQ (fun c1 => ?_) fun c1 => ?_
 ·have r2 := A8 hr c1
  refine AO (ua (Aa (Al (Ah ?_))))
  refine Cq results120 ?_
  obtain rfl := AM r2
  exact rfl
 have r3 := A9 hr c1
 refine An ?_
 refine AV (fun e1 F1 L1 => Da = some r ∧ F = F1 ∧ L1 = [] ∧ e1.sub []) ?_ ?_
 ·refine AO (um ?_)
  refine uv (A3 underlying123 rfl) ?_
  refine um (Aa ?_)
  refine Am ?_
  refine Bk (fun av e1 F1 L1 => LA s1 av fun tl k => BR s2 tl k = some r ∧ F = F1 ∧ L1 = [] ∧ e1.sub [(0, .slice Sm s1.length RU), (1, .slice Sh s2.length SN), (12, .int .i64 (s1.length : Int)), (13, .int .i64 k)]) _ (m0 kr ⟨_, _, rfl, BP.start _, r3, rfl, rfl, z4⟩) ?_
  rintro av e1 _ _ ⟨tl, k, bc, ad, r6, rfl, rfl, bg⟩
  refine AA _ bg (AO (uv (Bg rfl rfl) ?_))
  refine Aa (Ao ?_)
  refine cQ (fun c9 => ?_) fun c9 => ?_
  ·obtain ⟨x, bp, rfl, ae, aw, af⟩ := BP.succ ad c9
   rw [BR] at r6
   refine An (Ao ?_)
   refine Am ?_
   refine AO (um (ua ?_))
   refine dN ?_
   refine wm (wm ?_)
   obtain ⟨bq, br, bu, bj, ah, ai, ax, rfl, bk, aj⟩ := Ax.at (Ad _) aa ([]) aw.1 ae
   refine wv (AN underlying123 sizeOf124 rfl ah rfl aw) (wv (Aj isAgg124 rfl ai (aj 0 (by decide))) ?_)
   refine wm (wm ?_)
   obtain ⟨x2, ay, ak, az⟩ := Cb r6
   obtain ⟨bx, bz, ca, bl, al, ao, ba, rfl, bm, aq⟩ := Ax.at (Ad _) ab ([]) ay.1 ak
   refine wv (AN underlying123 sizeOf124 rfl al rfl ay) (wv (Aj isAgg124 rfl ao (aq 0 (by decide))) (wv (B8 rfl rfl) (DN ?_)))
   refine cQ (fun ar => ?_) fun ar => ?_
   ·have bn := A8 az ar
    refine AO (ua (Aa (Al (Ay (Ah (Ah (Ay (Ah ?_))))))))
    refine Cq results120 ?_
    obtain rfl := AM bn
    exact rfl
   have bo := A9 az ar
   refine An (Au (id := 1) (Ai ?_))
   refine uv (Bd rfl rfl (BP.EP ad c9 (Ax.lt aa))) ?_
   refine um (Aa ?_)
   subst bc; exact le kr ⟨_, _, rfl, af, bo, rfl, rfl, z4⟩
  obtain rfl := BP.zero ad c9
  rw [BR] at r6
  refine AQ (Af (Af ?_))
  refine Av ?_
  exact mi kr ⟨r6, rfl, rfl, (sn _)⟩
 rintro e1 _ _ ⟨bb, rfl, rfl, au⟩
 refine AA _ au ?_
 rw [Da] at bb
 refine AO (ua (Aa (Al ?_)))
 refine Cq results120 ?_
 obtain rfl := AM bb
 exact rfl
theorem JV {a b : List (List Int)} (ab : Ax 1 (Cn 1 (iE .i64)) F bQ bK a) (ad : Ax 1 (Cn 1 (iE .i64)) F bL KG b) {r : Bool} (hr : FR a b = some r) :
    Bw Tryz.prog 46 #[.slice bQ a.length bK, .slice bL b.length KG] F (.bool r) := by
 refine sp func46 ntmps46 fun K _ _ => ?_
 rw [FR] at hr
 refine AO (ua (Cj (um (um ?_))))
 have ae : IQ Tryz.prog F 120 #[] #[] (Cd (Cn 1 (iE .i64)) (Cn 1 (iE .i64))) Value.bool (fun aa : (List Int) × (List Int) => CF aa.1 aa.2) := ⟨call120, fun F2 h2 vs aa r ha hr => by obtain ⟨_, _, rfl, ⟨a1, c2, rfl, h3⟩, ⟨a4, c5, rfl, h6⟩⟩ := ha; exact GZ h3 h6 hr⟩
 obtain ⟨ok, h8, r9⟩ := AI hr
 refine cV call119 (DL ab ad ae h8) ?_
 refine ua (Aa (Al ?_))
 refine Cq results46 ?_
 obtain rfl := AM r9
 exact rfl
set_option maxHeartbeats 1000000 in
theorem EI {r : Bool} (hr : DW = some r) :
    Bw Tryz.prog 9 #[] F (.bool r) := by
 refine sp func9 ntmps9 fun K _ _ => ?_
 rw [DW] at hr
 refine AO (ua (Cj ?_))
 refine bA (cs := #[.string (sB [115, 104, 115, 104])]) Yx [.string (sB [115, 104, 115, 104])] ?_; intro b1 er
 refine Bo 0 rfl er ?_; intro F2 gb et
 refine AK rfl ?_
 have h5 : Ax 1 sE F2 (some ⟨b1, 0, none⟩) 1 [[115, 104, 115, 104]] := Ax.BQ Zf (vss := [[.string (sB [115, 104, 115, 104])]]) (xs := [[115, 104, 115, 104]]) et (.cons rfl .nil) rfl (by simp [maxLen])
 obtain ⟨n, l, h6, r7⟩ := DA hr
 refine c0 call42 (NZ h5 h6) ?_; rintro _ F8 _ gg cx ⟨gh, gi, gj, bb, rfl, rfl, aq⟩
 replace aq := aq.new fun p hp => cx p (by simp [hp])
 refine AK (lp (ln rfl)) ?_
 obtain ⟨l2, n2, eu, ew⟩ := DA r7
 refine Jg (Lb := []) (Lt := bb ++ []) (Lr := []) rfl call41 rfl rfl rfl (pT pR (ln (lp (ln rfl)))) (fun F2 h2 h3 => by rw [(A6.D9 aq).1]; exact Ov (aq.row (Ad _) h2 (fun p hp => h3 p (List.mem_append_left _ hp))) eu) (fun _ _ _ _ hq => by obtain ⟨ey, fa, fb, bc, rfl, rfl, aa⟩ := hq; exact ⟨_, _, _, _, rfl, rfl, aa.flat (fun _ _ h => h)⟩) ?_; rintro _ gk _ fe cy cz ⟨ey, fa, fb, bc, rfl, rfl, aa⟩
 have da := V0 (Lb' := []) (by rfl) cy cz
 replace aa := aa.new fun p hp => da p (by simp [hp])
 refine AK (lp (ln (lp (ln rfl)))) ?_
 refine um (ox rfl rfl rfl (ox rfl rfl rfl (ua (ua (Cj ?_)))))
 obtain ⟨l3, l4, n3, n4, l5, ff, fg⟩ := TO ew
 refine c0 call43 (N9 ff) ?_; rintro _ gl _ db bg ⟨gm, gp, gq, bo, gr, gu, gv, bp, gw, gz, ia, bq, rfl, rfl, ar, au, av⟩
 replace aa := aa.mono (Ad _) db
 replace ar := ar.new fun p hp => bg p (by simp [hp])
 replace au := au.new fun p hp => bg p (by simp [hp])
 replace av := av.new fun p hp => bg p (by simp [hp])
 refine AK (lp (lp (lp (ln rfl)))) ?_
 obtain ⟨l6, n5, n6, fh, fi⟩ := IH fg
 refine Jg (Lb := []) (Lt := bo ++ (bp ++ (bq ++ []))) (Lr := bc ++ (bb ++ [])) rfl call14 rfl rfl rfl (pT pR (ln (lp (lp (lp (ln rfl)))))) (fun F2 h2 h3 => by rw [(A6.D9 ar).1]; rw [(A6.D9 au).1]; rw [(A6.D9 av).1]; exact JJ (ar.row (Az (Ad _)) h2 (fun p hp => h3 p (List.mem_append_left _ hp))) (au.row (Az (Ad _)) h2 (fun p hp => h3 p (List.mem_append_right _ (List.mem_append_left _ hp)))) (av.row (AD (Az (Ad _)) (AD (Ad _) (Ad _))) h2 (fun p hp => h3 p (List.mem_append_right _ (List.mem_append_right _ (List.mem_append_left _ hp))))) fh) (fun _ _ _ _ hq => by obtain ⟨fj, fk, fl, br, rfl, rfl, bu⟩ := hq; exact ⟨_, _, _, _, rfl, rfl, bu.flat (fun _ _ h => h)⟩) ?_; rintro _ ib _ dd fm fo ⟨fj, fk, fl, br, rfl, rfl, bu⟩
 replace aa := aa.mono (Ad _) dd
 refine AK (lp (ln (lp (lp (lp (ln rfl)))))) ?_
 refine um (ox rfl rfl rfl (ox rfl rfl rfl (ox rfl rfl rfl (ua (ua (ua (Cj ?_)))))))
 obtain ⟨n7, n8, l7, l8, l9, fp, fq⟩ := TO fi
 refine c0 call44 (OV fp) ?_; rintro _ ic _ de bj ⟨ie, ig, ij, ft, ik, il, im, fv, iq, ir, iu, fw, rfl, rfl, aw, ak, ah⟩
 replace aa := aa.mono (Ad _) de
 replace aw := aw.new fun p hp => bj p (by simp [hp])
 replace ak := ak.new fun p hp => bj p (by simp [hp])
 replace ah := ah.new fun p hp => bj p (by simp [hp])
 refine AK (lp (lp (lp (ln rfl)))) ?_
 obtain rfl := (A6.D9 aw).1
 refine Gv (Nat.le_refl _) (Az (Az (Ad _))) fP aw ?_; intro iv bk bx
 replace aa := aa.mono (Ad _) bk
 replace ak := ak.mono (Ad _) bk
 replace ah := ah.mono (AD (Ad _) (AD (Ad _) (Ad _))) bk
 obtain rfl := (A6.D9 ak).1
 refine Gv (Nat.le_refl _) (Ad _) fP ak ?_; intro iw bl df
 replace bx := bx.mono (Az (Az (Ad _))) bl
 replace aa := aa.mono (Ad _) bl
 replace ah := ah.mono (AD (Ad _) (AD (Ad _) (Ad _))) bl
 obtain rfl := (A6.D9 ah).1
 refine Gv (Nat.le_refl _) (AD (Ad _) (AD (Ad _) (Ad _))) fP ah ?_; intro iy bm dg
 replace bx := bx.mono (Az (Az (Ad _))) bm
 replace df := df.mono (Ad _) bm
 replace aa := aa.mono (Ad _) bm
 obtain ⟨iz, n9, dh, bz⟩ := DA fq
 refine c0 call31 (Py bx df dg dh) ?_; rintro _ fx _ ca eo ⟨fy, ga, rfl, rfl, ae⟩
 replace aa := aa.mono (Ad _) ca
 refine AK (ln rfl) ?_
 refine um (ox rfl rfl rfl (ox rfl rfl rfl (ua (ua (Cj (um ?_))))))
 refine uv (Dn rfl rfl) (um ?_)
 by_cases ai : n2 = 0
 ·have cb := A8 bz ai
  refine nT ai (um (nT ai ?_))
  refine uv (Dn rfl rfl) (uv (AP (Bf rfl ai) rfl) (um ?_))
  by_cases aj : n6 = 0
  ·have cc := A8 cb aj
   refine nT aj (um (nT aj ?_))
   refine uv (Dn rfl rfl) (uv (AP (Bf rfl aj) rfl) (um ?_))
   by_cases ad : n9 = 0
   ·have di := A8 cc ad
    refine nT ad (um (nT ad ?_))
    refine bA (cs := #[.int .i64 0, .int .i64 5, .int .i64 9, .int .i64 14]) CD [.int .i64 0, .int .i64 5, .int .i64 9, .int .i64 14] ?_; intro dk cf
    refine nT ad ?_
    refine Bo 0 rfl cf ?_; intro dm az cg
    refine AK rfl ?_
    replace ae := ae.mono (Az (Ad _)) az
    replace aa := aa.mono (Ad _) az
    have dn : Ax 1 (iE .i64) dm (some ⟨dk, 0, none⟩) 4 [0, 5, 9, 14] := Ax.BQ (Ad _) (vss := [[.int .i64 0], [.int .i64 5], [.int .i64 9], [.int .i64 14]]) (xs := [0, 5, 9, 14]) cg (.cons rfl (.cons rfl (.cons rfl (.cons rfl .nil)))) rfl (by simp [maxLen])
    obtain ⟨ok, dp, cj⟩ := AI di
    refine Ks (Lt := bc ++ []) (Lr := br ++ (bo ++ (bp ++ (bq ++ (bb ++ []))))) rfl call45 rfl rfl rfl (pT ((fS (fS (fS (fS fP)))).trans (pA pR)) (lp (ln rfl))) (fun F2 h2 h3 => by rw [(A6.D9 aa).1]; exact Np (aa.row (Ad _) h2 (fun p hp => h3 p (List.mem_append_left _ hp))) (dn.mono (Ad _) h2) dp) ?_
    refine uv (AP (Bf rfl ad) rfl) (um ?_)
    rcases Dc ok with af | af
    ·have cn := bt cj af
     refine nB af (um (nB af ?_))
     refine uv (Dn rfl rfl) (uv (AP (IW rfl af) rfl) (um ?_))
     by_cases ab : n5 = 11
     ·have dq := A8 cn ab
      refine nT ab (um (nT ab ?_))
      refine bA (cs := #[.int .i64 0]) PJ [.int .i64 0] ?_; intro ax cp
      refine nT ab ?_
      refine bA (cs := #[.int .i64 1]) PJ [.int .i64 1] ?_; intro ay cq
      refine nT ab ?_
      refine bA (cs := #[.slice (some ⟨ax, 0, none⟩) 1 1, .slice (some ⟨ay, 0, none⟩) 1 1]) Vm [.slice (some ⟨ax, 0, none⟩) 1 1, .slice (some ⟨ay, 0, none⟩) 1 1] ?_; intro dr cr
      refine nT ab ?_
      refine Bo 2 rfl cp ?_; intro dt ct cu
      refine AK rfl ?_
      replace ae := ae.mono (Az (Ad _)) ct
      have al : Ax 1 (iE .i64) dt (some ⟨ax, 0, none⟩) 1 [0] := Ax.BQ (Ad _) (vss := [[.int .i64 0]]) (xs := [0]) cu (.cons rfl .nil) rfl (by simp [maxLen])
      refine Bo 1 rfl cq ?_; intro du ba cv
      refine AK rfl ?_
      replace ae := ae.mono (Az (Ad _)) ba
      replace al := al.mono (Ad _) ba
      have bn : Ax 1 (iE .i64) du (some ⟨ay, 0, none⟩) 1 [1] := Ax.BQ (Ad _) (vss := [[.int .i64 1]]) (xs := [1]) cv (.cons rfl .nil) rfl (by simp [maxLen])
      refine Bo 0 rfl cr ?_; intro dv ao cw
      refine AK rfl ?_
      replace ae := ae.mono (Az (Ad _)) ao
      replace al := al.mono (Ad _) ao
      replace bn := bn.mono (Ad _) ao
      have dw : Ax 1 (Cn 1 (iE .i64)) dv (some ⟨dr, 0, none⟩) 2 [[0], [1]] := Ax.BQ (Az (Ad _)) (vss := [[.slice (some ⟨ax, 0, none⟩) [0].length 1], [.slice (some ⟨ay, 0, none⟩) [1].length 1]]) (xs := [[0], [1]]) cw (.cons ⟨_, _, rfl, al⟩ (.cons ⟨_, _, rfl, bn⟩ .nil)) rfl (by simp [maxLen])
      obtain ⟨j0, dx, dy⟩ := AI dq
      refine cV call46 (JV ae dw dx) (uv (AP (Bf rfl ab) rfl) ?_)
      refine ua (Aa ?_)
      refine kW kn (Al (Cq results9 ?_))
      obtain rfl := AM dy
      exact rfl
     have dz := A9 cn ab
     refine fF ab (fF ab (fF ab (fF ab (fF ab ?_))))
     refine uv (AB (AU rfl ab) rfl) ?_
     refine ua (Aa ?_)
     refine kW kn (Al (Cq results9 ?_))
     obtain rfl := AM dz
     exact rfl
    have e9 := bf cj af
    refine fB af (fB af ?_)
    refine uv (AB (IW rfl af) rfl) ?_
    refine um (AH (b' := false) 44 rfl rfl rfl rfl (AH (b' := false) 44 rfl rfl rfl rfl (AH (b' := false) 44 rfl rfl rfl rfl (AH (b' := false) 44 rfl rfl rfl rfl (AH (b' := false) 44 rfl rfl rfl rfl ?_)))))
    refine uv (AB rfl rfl) ?_
    refine ua (Aa ?_)
    refine kW kn (Al (Cq results9 ?_))
    obtain rfl := AM e9
    exact rfl
   have eg := A9 cc ad
   refine fF ad (fF ad (fF ad ?_))
   refine uv (AB (AU rfl ad) rfl) ?_
   refine um (AH (b' := false) 40 rfl rfl rfl rfl (AH (b' := false) 40 rfl rfl rfl rfl ?_))
   refine uv (AB rfl rfl) ?_
   refine um (AH (b' := false) 44 rfl rfl rfl rfl (AH (b' := false) 44 rfl rfl rfl rfl (AH (b' := false) 44 rfl rfl rfl rfl (AH (b' := false) 44 rfl rfl rfl rfl (AH (b' := false) 44 rfl rfl rfl rfl ?_)))))
   refine uv (AB rfl rfl) ?_
   refine ua (Aa ?_)
   refine kW kn (Al (Cq results9 ?_))
   obtain rfl := AM eg
   exact rfl
  have eh := A9 cb aj
  refine fF aj (fF aj ?_)
  refine uv (AB (AU rfl aj) rfl) ?_
  refine um (AH (b' := false) 35 rfl rfl rfl rfl (AH (b' := false) 35 rfl rfl rfl rfl (AH (b' := false) 35 rfl rfl rfl rfl ?_)))
  refine uv (AB rfl rfl) ?_
  refine um (AH (b' := false) 40 rfl rfl rfl rfl (AH (b' := false) 40 rfl rfl rfl rfl ?_))
  refine uv (AB rfl rfl) ?_
  refine um (AH (b' := false) 44 rfl rfl rfl rfl (AH (b' := false) 44 rfl rfl rfl rfl (AH (b' := false) 44 rfl rfl rfl rfl (AH (b' := false) 44 rfl rfl rfl rfl (AH (b' := false) 44 rfl rfl rfl rfl ?_)))))
  refine uv (AB rfl rfl) ?_
  refine ua (Aa ?_)
  refine kW kn (Al (Cq results9 ?_))
  obtain rfl := AM eh
  exact rfl
 have ej := A9 bz ai
 refine fF ai (fF ai ?_)
 refine uv (AB (AU rfl ai) rfl) ?_
 refine um (AH (b' := false) 31 rfl rfl rfl rfl (AH (b' := false) 31 rfl rfl rfl rfl ?_))
 refine uv (AB rfl rfl) ?_
 refine um (AH (b' := false) 35 rfl rfl rfl rfl (AH (b' := false) 35 rfl rfl rfl rfl (AH (b' := false) 35 rfl rfl rfl rfl ?_)))
 refine uv (AB rfl rfl) ?_
 refine um (AH (b' := false) 40 rfl rfl rfl rfl (AH (b' := false) 40 rfl rfl rfl rfl ?_))
 refine uv (AB rfl rfl) ?_
 refine um (AH (b' := false) 44 rfl rfl rfl rfl (AH (b' := false) 44 rfl rfl rfl rfl (AH (b' := false) 44 rfl rfl rfl rfl (AH (b' := false) 44 rfl rfl rfl rfl (AH (b' := false) 44 rfl rfl rfl rfl ?_)))))
 refine uv (AB rfl rfl) ?_
 refine ua (Aa ?_)
 refine kW kn (Al (Cq results9 ?_))
 obtain rfl := AM ej
 exact rfl
set_option maxHeartbeats 1000000 in
theorem Pf {E6 : Int} (aa : Ax 1 (iE .i64) F AS AT plots) {r r2 : Int} (hr : JQ wide plots BC stand E6 = some (r, r2)) :
    Bw Tryz.prog 11 #[.agg #[.int .i64 wide, .slice AS plots.length AT], .int .i64 BC, .int .i64 stand, .int .i64 E6] F (.tuple #[.int .i64 r, .int .i64 r2]) := by
 refine sp func11 ntmps11 fun K _ _ => ?_
 rw [JQ] at hr
 refine AO ?_
 refine BH rfl rfl ?_; intro b1 br
 refine ua (ua (Cj ?_))
 refine uv (AL isAgg27 sizeOf27 rfl (Has.own 0 rfl) (Ce rfl) rfl) ?_
 refine um (um ?_)
 obtain ⟨l, n, h2, r3⟩ := DA hr
 refine c0 call41 (Ov aa h2) ?_; rintro _ F4 _ az ba ⟨a8, bu, c9, ad, rfl, rfl, ab⟩
 replace aa := aa.mono (Ad _) az
 replace ab := ab.new fun p hp => ba p (by simp [hp])
 refine AK (lp (ln rfl)) (kO (kf (fS fO) kr) ?_)
 refine um (ox rfl rfl rfl (ox rfl rfl rfl (ua (ua (Aa (Ao ?_))))))
 refine Am ?_
 refine AO (um ?_)
 refine uv (B8 rfl rfl) ?_
 refine ua (Aa ?_)
 refine cQ (fun ah => ?_) fun ah => ?_
 ·have bb := A8 r3 ah
  refine AO (um (ua (ua (Aa ?_))))
  refine kW kn ?_
  refine Al (Ay (Ah ?_))
  refine CP results11 (AR rfl) (AR rfl) (sr) ?_
  obtain ⟨rfl, rfl⟩ := DH bb
  exact rfl
 have bc := A9 r3 ah
 refine AO (uv (AL isAgg27 sizeOf27 rfl (Has.own 0 rfl) (Ce rfl) rfl) (um ?_))
 obtain ⟨ok, bg, av⟩ := AI bc
 refine cV call47 (IZ aa bg) (uv (Cc rfl) ?_)
 refine ua (Aa ?_)
 refine AY rfl (fun ai => ?_) (fun ai => ?_)
 ·have bj := bt av ai
  refine AO (ua (ua (Aa ?_)))
  refine kW kn ?_
  refine Al (Ay (Ah ?_))
  refine CP results11 (AR rfl) (AR rfl) (sr) ?_
  obtain ⟨rfl, rfl⟩ := DH bj
  exact rfl
 have bk := bf av ai
 refine AO (um (um ?_))
 obtain ⟨x, af, ae, aw⟩ := Cb bk
 obtain ⟨bx, bz, ca, bl, aj, ak, ax, rfl, bm, al⟩ := A6.at (Ad _) ab (L := (b1, ce #[.int .i64 wide, .slice AS plots.length AT] 27) :: (ad ++ [])) (fC fP) af.1 ae
 refine uv (AN underlying33 sizeOf3 rfl aj rfl (A6.idx ab af)) (uv (Aj isAgg3 rfl ak (al 0 (by decide))) (uv (Dn rfl rfl) ?_))
 refine ua (Aa ?_)
 refine cQ (fun ao => ?_) fun ao => ?_
 ·have bn := A8 aw ao
  refine AO (ua (ua (Aa ?_)))
  refine kW kn ?_
  refine Al (Ay (Ah ?_))
  refine CP results11 (AR rfl) (AR rfl) (sr) ?_
  obtain ⟨rfl, rfl⟩ := DH bn
  exact rfl
 have bo := A9 aw ao
 refine An (Au (id := 0) (AO (um (um ?_))))
 obtain ⟨cb, cc, cf, bp, aq, ar, ay, rfl, bq, au⟩ := A6.at (Ad _) ab (L := (b1, ce #[.int .i64 wide, .slice AS plots.length AT] 27) :: (ad ++ [])) (fC fP) af.1 ae
 refine uv (AN underlying33 sizeOf3 rfl aq rfl (A6.idx ab af)) (uv (Aj isAgg3 rfl ar (au 0 (by decide))) ?_)
 refine ua (ua (Aa ?_))
 refine kW kn (Al (CP results11 (AR rfl) (AR rfl) (sr) ?_))
 obtain ⟨rfl, rfl⟩ := DH bo
 exact rfl
theorem M6 {l : List Int} (ab : Ax 1 (iE .i64) F Oz N5 l) {r : List Int} (hr : FE l = some r) :
    SH.Spec Tryz.prog 48 #[.slice Oz l.length N5] F [] fun F' L' v => ∃ (ra : Option Addr) (rn : Nat) (rc : Nat) (rL : LH), v = .slice ra rn rc ∧ L' = rL ++ [] ∧ A6 0 34 1 (iE .i64) F' ra rn rc r rL := by
 refine sp func48 ntmps48 fun K _ _ => ?_
 rw [FE] at hr
 refine AO (ua (Cj (um ?_)))
 refine uv (A3 underlying25 rfl) ?_
 obtain ⟨g1, r2⟩ := A2 hr
 obtain ⟨l2, h3, r4⟩ := DK r2
 refine NM (R := (iE .i64)) (z0 := 0) (zs := l2) rfl Mg (by decide) (Ad _) (fun _ => rfl) rfl g1 h3 (fun _ => .n) ?_; intro a5 n8 ai ad
 refine ua (Cj (um (um ?_)))
 obtain ⟨out, ae, af⟩ := DK r4
 refine Ve (ys := l) (zs := out) rfl Mg (Ad _) rfl rfl (fun _ => .h) ad (Ax.src ab) ae ?_; intro ah aa
 refine Cj (um (ua (Aa (Al ?_))))
 refine Cq results48 ?_
 obtain rfl := AM af
 exact ⟨_, _, _, _, rfl, rfl, aa.any⟩
set_option maxHeartbeats 1000000 in
theorem PB (aa : Ax 1 (iE .i64) F AS AT plots) {r : Int} {r2 : List Int} (hr : HW wide plots = some (r, r2)) :
    SH.Spec Tryz.prog 12 #[.agg #[.int .i64 wide, .slice AS plots.length AT]] F [] fun F' L' v => ∃ (ai : Option Addr) (aj : Nat) (ak : Nat) (al : LH), v = .agg #[.int .i64 r, .slice ai aj ak] ∧ L' = al ++ [] ∧ A6 0 34 1 (iE .i64) F' ai aj ak r2 al := by
 refine sp func12 ntmps12 fun K _ _ => ?_
 rw [HW] at hr
 refine AO ?_
 refine BH rfl rfl ?_; intro b1 au
 refine Bj rfl zeroValue27 ?_; intro b2 av
 refine Aa (Ao ?_)
 refine DB [(.still, 0), (.still, 1), (.still, 2), (.still, 3), (.seq, 4), (.still, 5), (.seq, 6)] (by kernel_rfl) (by kernel_rfl) (trivial) (by rfl) (by kernel_rfl) (mS [1] rfl (Ab I7 rfl) (mL [3] ([(b1, ce #[.int .i64 wide, .slice AS plots.length AT] 27)]) rfl (s0 (s1 (s2 sr))) (fun H F' L' af ah => Aj isAgg3 rfl ((Has.own 0 rfl).ext af ah) rfl) (mS [1] rfl (Ab Dd rfl) (mL [5] ([(b1, ce #[.int .i64 wide, .slice AS plots.length AT] 27)]) rfl (s0 (s1 (s2 sr))) (fun H F' L' af ah => Aj isAgg25 rfl ((Has.own 0 rfl).ext af ah) rfl) ?_))))
 refine ⟨_, [(6, .slice AS plots.length AT)], rfl, rfl, z1, by kernel_rfl, ?_⟩; intro H
 obtain ⟨l, h3, r4⟩ := AI hr
 refine c0 call48 (M6 aa h3) ?_; rintro _ F5 _ ao aq ⟨a9, ad, ae, ar, rfl, rfl, ab⟩
 replace ab := ab.new fun p hp => aq p (by simp [hp])
 refine AK (lp (ln rfl)) (kO (kf (fS fO) (kf (fS fO) kr)) ?_)
 refine Aa ⟨_, rfl, ao, [1, 0], by kernel_rfl, .inl (.inr (fun d h => by cases h; rfl)), (fc (s0 (s1 (s2 (s3 sr)))) (fc sm nm)), ?_⟩
 refine mS (v := .agg #[.int .i64 wide, .slice a9 ad ae]) [4, 7] rfl (Bx (v := .agg #[.int .i64 wide, .slice a9 ad ae]) rfl (by intro w; kernel_rfl)) ?_
 refine ⟨_, [(2, .pointer (some ⟨b2, 0, none⟩)), (8, .agg #[.int .i64 wide, .slice a9 ad ae])], rfl, rfl, z2, by kernel_rfl, ?_⟩; intro H
 refine Br (i := 0) sizeOf27 rfl rfl rfl (by simp [Value.oneCell']) rfl (Ce rfl) (AK rfl ?_)
 refine Aa ⟨undef, rfl, AZ.refl _, [], by kernel_rfl, .inl (.inl rfl), nm, ?_⟩
 refine EW (kW (kc (kd kr)) (Al (Jn results12 (Dp (cs := #[.int .i64 wide, .slice a9 ad ae]) isAgg27 sizeOf27 rfl (Has.own 0 rfl) (Ce rfl) rfl) (s1 (s4 sr)) ?_)))
 obtain ⟨rfl, rfl⟩ := DH r4
 exact ⟨_, _, _, _, rfl, rfl, ab.any⟩
set_option maxHeartbeats 1000000 in
theorem Jy {Ak : List (List Int)} {Ac : List ((List Int) × Int × Int)} {A5 : List Int} {CV : Option Addr} {CR : Nat} {Bs : List (Int × Int)} {hit : List Int} {QR : Nat × Nat} {Dr : Int} (af : F KG = some (.cells ((([.slice AG walks.length AF] : List Value) ++ (([.slice As Ak.length At] : List Value) ++ (([.int .i64 Ae] : List Value) ++ (([.int .i64 start] : List Value) ++ (([.slice Aq Ac.length Ar] : List Value) ++ (A5.flatMap (cI .i64) ++ (([.slice CV Bs.length CR] : List Value) ++ (hit.flatMap (cI .i64))))))))).toArray) 156 QR)) (_ar : Ax 1 (Cn 1 (iE .i64)) F AG AF walks) (aa : Ax 1 (Cn 1 (iE .i64)) F As At Ak) (ab : Ax 3 (Cd (Cn 1 (iE .i64)) (Cd (iE .i64) (iE .i64))) F Aq Ar Ac) (ad : A5.length = 25) (_au : Ax 2 (Cd (iE .i64) (iE .i64)) F CV CR Bs) (_h_hit : hit.length = 15) {r : Int} (hr : Ej walks Ak Ae start Ac A5 Bs hit BW Dr = some r) :
    Bw Tryz.prog 51 #[.pointer (some ⟨KG, 0, none⟩), .agg #[.int .i64 BW, .int .i64 Dr]] F (.int .i64 r) := by
 refine sp func51 ntmps51 fun K _ _ => ?_
 rw [Ej] at hr
 refine AO ?_
 refine BH rfl rfl ?_; intro b1 dp
 refine ua (Cj (ua (Aa ?_)))
 obtain ⟨out, h2, r3⟩ := AI hr
 refine jF ([]) [(5, .int .i64 out)] ?_ fun dq cj => ?_
 ·clear r3
  refine AO (um ?_)
  refine uv (A4 rfl) (uv (Ab HX rfl) (uv (Ab I9 rfl) (uv (Aj isAgg36 rfl (Has.frozen af) (Fs (AE (A := ([.slice AG walks.length AF] : List Value)) (k := 1) (o := 0) rfl (BV (B := ([.int .i64 Ae] : List Value) ++ (([.int .i64 start] : List Value) ++ (([.slice Aq Ac.length Ar] : List Value) ++ (A5.flatMap (cI .i64) ++ (([.slice CV Bs.length CR] : List Value) ++ (hit.flatMap (cI .i64))))))) rfl)))) (uv (A3 underlying36 rfl) ?_))))
  refine um (Aa ?_)
  refine Am ?_
  refine Bk (fun bq e1 F1 L1 => LA Ak bq fun tl k => ∃ (ae : Int), Cy start Ac A5 BW Dr tl k ae = some out ∧ AZ F F1 ∧ L1 = [(b1, ce #[.int .i64 BW, .int .i64 Dr] 58)] ∧ e1.sub [(0, .pointer (some ⟨KG, 0, none⟩)), (3, .pointer (some ⟨b1, 0, none⟩)), (5, .int .i64 ae), (13, .slice As Ak.length At), (14, .int .i64 (Ak.length : Int)), (15, .int .i64 k)]) _ (m0 kr ⟨_, _, rfl, BP.start _, -1, h2, AZ.refl _, rfl, z6⟩) ?_
  rintro bq e1 F8 _ ⟨tl, k, br, av, ae, r6, aj, rfl, cn⟩
  refine AA _ cn ?_
  replace aa := aa.mono (Az (Ad _)) aj
  replace ab := ab.mono (AD (Az (Ad _)) (AD (Ad _) (Ad _))) aj
  replace af := aj _ _ af
  refine AO (uv (Bg rfl rfl) ?_)
  refine Aa (Ao ?_)
  refine cQ (fun ak => ?_) fun ak => ?_
  ·obtain ⟨x, dr, rfl, aw, bu, al⟩ := BP.succ av ak
   rw [Cy] at r6
   refine An (Ao ?_)
   refine Am ?_
   refine AO (um ?_)
   obtain ⟨dt, du, dv, cp, ax, ay, bx, ⟨dw, dx, rfl, cq⟩, cr, az⟩ := Ax.at (Az (Ad _)) aa ([(b1, ce #[.int .i64 BW, .int .i64 Dr] 58)]) bu.1 aw
   refine uv (AN underlying36 sizeOf33 rfl ax rfl bu) (uv (Aj isAgg33 rfl ay (az 0 (by decide))) ?_)
   refine ua (ua ?_)
   refine dN ?_
   refine wm (wm ?_)
   refine wv (A4 rfl) (wv (Ab HX rfl) (wv (Ab Sc rfl) (wv (Aj isAgg3 rfl (Has.frozen af) (Fs (AE (A := ([.slice AG walks.length AF] : List Value)) (k := 1) (o := 2) rfl (AE (A := ([.slice As Ak.length At] : List Value)) (k := 1) (o := 1) rfl (AE (A := ([.int .i64 Ae] : List Value)) (k := 1) (o := 0) rfl (BV (B := ([.slice Aq Ac.length Ar] : List Value) ++ (A5.flatMap (cI .i64) ++ (([.slice CV Bs.length CR] : List Value) ++ (hit.flatMap (cI .i64))))) rfl)))))) (wm (wv (A4 rfl) (wv (Ab Kg rfl) ?_))))))
   obtain ⟨bz, ct⟩ := A2 r6
   refine wv (Ci underlying152 sizeOf150 rfl rfl bz) ?_
   obtain ⟨ca, cu⟩ := A2 ct
   obtain ⟨x2, dy, ba, cv⟩ := Cb cu
   have bb : (start * 5 + k : Int).toNat = (start : Int).toNat * 5 + (k : Int).toNat := by have := bz; have := ca; omega
   have bc := KD (BU .i64) ad bb ba (J7 (AE (A := ([.slice AG walks.length AF] : List Value)) (k := 1) (o := 4) rfl (AE (A := ([.slice As Ak.length At] : List Value)) (k := 1) (o := 3) rfl (AE (A := ([.int .i64 Ae] : List Value)) (k := 1) (o := 2) rfl (AE (A := ([.int .i64 start] : List Value)) (k := 1) (o := 1) rfl (AE (A := ([.slice Aq Ac.length Ar] : List Value)) (k := 1) (o := 0) rfl (BV (B := ([.slice CV Bs.length CR] : List Value) ++ (hit.flatMap (cI .i64))) (FV (BU .i64) ad)))))))) (Hm (AE (A := ([.slice AG walks.length AF] : List Value)) (k := 1) (o := 4) rfl (AE (A := ([.slice As Ak.length At] : List Value)) (k := 1) (o := 3) rfl (AE (A := ([.int .i64 Ae] : List Value)) (k := 1) (o := 2) rfl (AE (A := ([.int .i64 start] : List Value)) (k := 1) (o := 1) rfl (AE (A := ([.slice Aq Ac.length Ar] : List Value)) (k := 1) (o := 0) rfl (BV (B := ([.slice CV Bs.length CR] : List Value) ++ (hit.flatMap (cI .i64))) (FV (BU .i64) ad))))))))
   refine wv (Ci underlying150 sizeOf3 rfl rfl ca) (wv (Aj isAgg3 rfl (Has.frozen af) ((bc).2.2 0 (by decide))) ?_)
   refine wa (DN ?_)
   obtain ⟨k2, cb, bg⟩ := AI cv
   refine jE ([(b1, ce #[.int .i64 BW, .int .i64 Dr] 58)]) [(0, .pointer (some ⟨KG, 0, none⟩)), (3, .pointer (some ⟨b1, 0, none⟩)), (5, .int .i64 ae), (8, .int .i64 x2), (13, .slice As Ak.length At), (14, .int .i64 (Ak.length : Int)), (15, .int .i64 k), (39, .bool k2)] ?_ ?_
   ·clear bg
    refine Ai (um ?_)
    refine uv (B8 rfl rfl) (um ?_)
    by_cases ah : x2 ≠ (-1)
    ·have cw := A8 cb ah
     refine nT ah (um (nT ah ?_))
     refine uv (Ab YE rfl) (nT ah (uv (Aj isAgg3 rfl (Has.own 0 rfl) rfl) (nT ah ?_)))
     obtain ⟨ok, cx, cy⟩ := AI cw
     refine cV call18 (Cv cq cx) (uv (AP (Bf rfl ah) rfl) (Aa ?_))
     obtain rfl := AM cy
     exact mi kr ⟨rfl, rfl, z8⟩
    have cz := A9 cb ah
    refine fF ah (fF ah (fF ah (fF ah ?_)))
    refine uv (AB (AU rfl ah) rfl) (Aa ?_)
    obtain rfl := AM cz
    exact mi kr ⟨rfl, rfl, z8⟩
   refine AY rfl (fun bj => ?_) (fun bj => ?_)
   ·have da := bt bg bj
    refine DB [(.still, 0), (.still, 1), (.still, 2), (.still, 3), (.still, 4), (.still, 5), (.still, 6), (.still, 7), (.still, 8), (.still, 9), (.still, 10), (.still, 11), (.still, 12), (.seq, 13), (.seq, 14), (.seq, 15)] (by kernel_rfl) (by kernel_rfl) (trivial) (by rfl) (by kernel_rfl) (mS [5] rfl (B3 rfl) (mS [8] rfl (B3 rfl) (mS [0] rfl (B3 rfl) (mS [42] rfl (A4 rfl) (mS [43] rfl (Ab HX rfl) (mS [44] rfl (Ab II rfl) (mL [45] ([]) rfl sm (fun H F' L' ao aq => Aj isAgg37 rfl ((Has.frozen af).ext ao aq) (Fs (AE (A := ([.slice AG walks.length AF] : List Value)) (k := 1) (o := 3) rfl (AE (A := ([.slice As Ak.length At] : List Value)) (k := 1) (o := 2) rfl (AE (A := ([.int .i64 Ae] : List Value)) (k := 1) (o := 1) rfl (AE (A := ([.int .i64 start] : List Value)) (k := 1) (o := 0) rfl (BV (B := A5.flatMap (cI .i64) ++ (([.slice CV Bs.length CR] : List Value) ++ (hit.flatMap (cI .i64)))) rfl))))))) ?_)))))))
    refine mS [3] rfl (Ab UT rfl) (mL [47] ([(b1, ce #[.int .i64 BW, .int .i64 Dr] 58)]) rfl (s0 sr) (fun H F' L' ao aq => Aj isAgg3 rfl ((Has.own 0 rfl).ext ao aq) rfl) ?_)
    obtain ⟨x3, cc, bk, db⟩ := Cb da
    obtain ⟨dz, e9, eg, dd, bl, bm, cf, ⟨_, _, rfl, ⟨eh, ej, rfl, eo⟩, ⟨_, _, rfl, rfl, rfl⟩⟩, de, bn⟩ := Ax.at (AD (Az (Ad _)) (AD (Ad _) (Ad _))) ab ([]) cc.1 bk
    refine mS [46, 48] rfl (AN underlying37 sizeOf41 rfl bl rfl cc) (mS [49] rfl (Ab R0 rfl) (mL [50] ([]) rfl sm (fun H F' L' ao aq => Aj isAgg3 rfl (bm.ext ao aq) (bn 1 (by decide))) ?_))
    obtain ⟨df, dg⟩ := A2 db
    refine mS (v := .int .i64 (x2 + x3.2.1)) [41, 51] rfl (Bd rfl rfl df) ?_
    refine ⟨_, [(40, .int .i64 ae), (52, .int .i64 (x2 + x3.2.1))], rfl, rfl, z2, by kernel_rfl, ?_⟩; intro H
    refine bA (cs := #[.int .i64 ae, .int .i64 (x2 + x3.2.1)]) CD [.int .i64 ae, .int .i64 (x2 + x3.2.1)] ?_; intro cg bo
    refine Aa ⟨_, rfl, AZ.refl _, [7, 5, 4, 3, 2], by kernel_rfl, .inl (.inr (fun d h => by cases h; rfl)), (fc sm (fc sm (fc sm (fc sm (fc sm nm))))), ?_⟩
    refine ⟨_, [(53, .slice (some ⟨cg, 0, none⟩) 2 2)], rfl, rfl, z1, by kernel_rfl, ?_⟩; intro H
    refine Bo 0 rfl bo ?_; intro dh ai bp
    refine AK rfl ?_
    replace aa := aa.mono (Az (Ad _)) ai
    have di : Ax 1 (iE .i64) dh (some ⟨cg, 0, none⟩) 2 [ae, x2 + x3.2.1] := Ax.BQ (Ad _) (vss := [[.int .i64 ae], [.int .i64 (x2 + x3.2.1)]]) (xs := [ae, x2 + x3.2.1]) bp (.cons rfl (.cons rfl .nil)) rfl (by simp [maxLen])
    obtain ⟨n, dk, dm⟩ := AI dg
    refine cV call126 (LJ di dk) ?_
    refine Aa ⟨_, rfl, ai, [7, 5, 4, 3, 2], by kernel_rfl, .inl (.inr (fun d h => by cases h; rfl)), (fc sm (fc sm (fc sm (fc sm (fc sm nm))))), ?_⟩
    refine ⟨_, [(54, .int .i64 n)], rfl, rfl, z1, by kernel_rfl, ?_⟩; intro H
    refine ua ?_
    refine Aa ⟨_, rfl, AZ.refl _, [], by kernel_rfl, .inl (.inl rfl), nm, ?_⟩
    refine EW ?_
    refine Au (id := 1) (Ai ?_)
    refine uv (Bd rfl rfl (BP.EP av ak (Ax.lt aa))) ?_
    refine um (Aa ?_)
    subst br; exact le kr ⟨_, _, rfl, al, n, dm, (aj.trans ai), rfl, z6⟩
   have dn := bf bg bj
   refine An (Au (id := 1) (Ai ?_))
   refine uv (Bd rfl rfl (BP.EP av ak (Ax.lt aa))) ?_
   refine um (Aa ?_)
   subst br; exact le kr ⟨_, _, rfl, al, ae, dn, aj, rfl, z6⟩
  obtain rfl := BP.zero av ak
  rw [Cy] at r6
  refine AQ (Af (Af ?_))
  refine Av ?_
  obtain rfl := AM r6
  exact mi kn ⟨aj, rfl, z1⟩
 refine AO (um (ua (Aa (Al ?_))))
 refine Cq results51 ?_
 obtain rfl := AM r3
 exact rfl
set_option maxHeartbeats 1000000 in
theorem Sv {Ak : List (List Int)} {Ac : List ((List Int) × Int × Int)} (ak : Ax 1 (Cn 1 (iE .i64)) F AG AF walks) (al : Ax 1 (Cn 1 (iE .i64)) F As At Ak) (aa : Ax 3 (Cd (Cn 1 (iE .i64)) (Cd (iE .i64) (iE .i64))) F Aq Ar Ac) {r : List (Int × Int)} {r2 : Int} (hr : I1 walks Ak Ae start Ac = some (r, r2)) :
    SH.Spec Tryz.prog 13 #[.agg #[.slice AG walks.length AF, .slice As Ak.length At, .int .i64 Ae, .int .i64 start, .slice Aq Ac.length Ar]] F [] fun F' L' v => ∃ (ra : Option Addr) (rn : Nat) (rc : Nat) (rL : LH), v = .tuple #[.slice ra rn rc, .int .i64 r2] ∧ L' = rL ++ [] ∧ A6 0 58 2 (Cd (iE .i64) (iE .i64)) F' ra rn rc r rL := by
 refine sp func13 ntmps13 fun K _ _ => ?_
 rw [I1] at hr
 refine AO ?_
 refine BH rfl rfl ?_; intro b1 fk
 refine ua (ua (Cj ?_))
 refine uv (AL isAgg39 sizeOf39 rfl (Has.own 0 rfl) (Ce rfl) rfl) ?_
 obtain ⟨d, n, h2, r3⟩ := DA hr
 refine c0 call49 (Kk ak al aa h2) ?_; rintro _ F4 _ de fl ⟨v8, rfl, rfl, df⟩
 replace aa := aa.mono (AD (Az (Ad _)) (AD (Ad _) (Ad _))) de
 refine AK (ln rfl) ?_
 refine um (ox rfl rfl rfl (ox rfl rfl rfl (ua (ua (Aa (Ao (AO (um ?_))))))))
 refine uv (B8 rfl rfl) (Aa ?_)
 refine cQ (fun bl => ?_) fun bl => ?_
 ·have dg := A8 r3 bl
  refine AO (um (ua (ua (Aa ?_))))
  refine kW kn ?_
  refine Al (Ah ?_)
  refine CP results13 (AR rfl) (AR rfl) (sr) ?_
  obtain ⟨rfl, rfl⟩ := DH dg
  exact ⟨_, _, _, [], rfl, rfl, A6.nil _ _ _ _ _⟩
 have dh := A9 r3 bl
 refine An (AO (ua (Aa ?_)))
 obtain ⟨out, di, cr⟩ := AI dh
 refine AV (fun e1 F1 L1 => ∃ (bm : Option Addr) (bn : Nat) (bo : Nat) (au : LH), F4 = F1 ∧ L1 = (au ++ []) ∧ e1.sub [(6, .slice bm bn bo)] ∧ A6 K.w0.heap.size 58 2 (Cd (iE .i64) (iE .i64)) F1 bm bn bo out au) ?_ ?_
 ·clear cr
  refine AO (um ?_)
  obtain ⟨A5, af, ae, ah, ab, ai, Bs, hit, dk, dm⟩ := WH di
  have ct := df; rw [dk] at ct; obtain ⟨cu, fm, dn, bp, ao, ⟨_, _, rfl, ⟨dp, dq, rfl, dr⟩, ⟨_, _, rfl, ⟨dt, du, rfl, dv⟩, ⟨_, _, rfl, rfl, ⟨_, _, rfl, rfl, ⟨_, _, rfl, ⟨dw, dx, rfl, dy⟩, ⟨_, _, rfl, ⟨rfl, cv⟩, ⟨_, _, rfl, ⟨cw, cx, rfl, bj⟩, ⟨rfl, dz⟩⟩⟩⟩⟩⟩⟩⟩⟩ := ct; subst bp
  have ao : F4 cu = some (.cells ((([.slice dp A5.length dq] : List Value) ++ (([.slice dt af.length du] : List Value) ++ (([.int .i64 ae] : List Value) ++ (([.int .i64 ah] : List Value) ++ (([.slice dw ab.length dx] : List Value) ++ (ai.flatMap (cI .i64) ++ (([.slice cw Bs.length cx] : List Value) ++ (hit.flatMap (cI .i64))))))))).toArray) 156 dn) := ao
  refine uv (A4 rfl) (uv (Ab K1 rfl) (uv (Aj isAgg48 rfl (Has.frozen ao) (Fs (AE (k := 1) (o := 29) rfl (AE (k := 1) (o := 28) rfl (AE (k := 1) (o := 27) rfl (AE (k := 1) (o := 26) rfl (AE (k := 1) (o := 25) rfl (AE (k := 25) (o := 0) (FV (BU .i64) cv) (BV rfl))))))))) (uv (A3 underlying48 rfl) ?_)))
  refine um (Aa ?_)
  refine Am ?_
  refine Bk (fun cy e1 F1 L1 => LA Bs cy fun tl k => ∃ (aj : List (Int × Int)) (aw : Option Addr) (ax : Nat) (ay : Nat) (ad : LH), Et Ac A5 af ae ah ab ai Bs hit tl aj = some out ∧ F4 = F1 ∧ L1 = ((b1, ce #[.slice AG walks.length AF, .slice As Ak.length At, .int .i64 Ae, .int .i64 start, .slice Aq Ac.length Ar] 39) :: (ad ++ [])) ∧ e1.sub [(1, .pointer (some ⟨b1, 0, none⟩)), (4, .pointer (some ⟨cu, 0, none⟩)), (6, .slice aw ax ay), (20, .slice cw Bs.length cx), (21, .int .i64 (Bs.length : Int)), (22, .int .i64 k)] ∧ A6 K.w0.heap.size 58 2 (Cd (iE .i64) (iE .i64)) F1 aw ax ay aj ad) _ (m0 (kc (ke kr)) ⟨_, _, rfl, BP.start _, [], none, 0, 0, [], dm, rfl, rfl, z6, A6.nil _ _ _ _ _⟩) ?_
  rintro cy e1 _ _ ⟨tl, k, az, aq, aj, aw, ax, ay, ad, bk, rfl, rfl, bq, av⟩
  refine AA _ bq (AO (uv (Bg rfl rfl) ?_))
  refine Aa (Ao ?_)
  refine cQ (fun ba => ?_) fun ba => ?_
  ·obtain ⟨x, fo, rfl, br, cz, bb⟩ := BP.succ aq ba
   rw [Et] at bk
   refine An (Ao ?_)
   refine Am (AO ?_)
   obtain ⟨fp, fq, ft, e9, bu, bx, ar, ⟨_, _, rfl, rfl, rfl⟩, bz, ca⟩ := Ax.at (AD (Ad _) (Ad _)) bj ((b1, ce #[.slice AG walks.length AF, .slice As Ak.length At, .int .i64 Ae, .int .i64 start, .slice Aq Ac.length Ar] 39) :: (ad ++ [])) cz.1 br
   refine uv (AN underlying48 sizeOf58 rfl bu rfl cz) (uv (AL isAgg58 sizeOf58 rfl bx ar (By ar bz ca)) ?_)
   refine Bj rfl zeroValue58 ?_; intro eg eh
   refine Br (i := 0) sizeOf58 rfl rfl rfl (by simp [Value.oneCell']) rfl (Ce rfl) (AK rfl (dN (wm (wv (AL isAgg58 sizeOf58 rfl (Has.own 0 rfl) (Ce rfl) rfl) ?_))))
   obtain ⟨n2, ej, eo⟩ := AI bk
   refine Ie rfl call51 rfl rfl rfl (Jy ao dr dv dy cv bj dz ej) (wv (Ab II rfl) (wv (Aj isAgg37 rfl (Has.own 1 rfl) rfl) (wv (Ab UT rfl) (wv (Aj isAgg3 rfl (Has.own 0 rfl) rfl) ?_))))
   obtain ⟨x2, da, cb, er⟩ := Cb eo
   obtain ⟨fv, fw, fx, et, cc, cf, db, ⟨_, _, rfl, ⟨fy, ga, rfl, gb⟩, ⟨_, _, rfl, rfl, rfl⟩⟩, eu, cg⟩ := Ax.at (AD (Az (Ad _)) (AD (Ad _) (Ad _))) aa ((eg, ce #[.int .i64 x.1, .int .i64 x.2] 58) :: ((b1, ce #[.slice AG walks.length AF, .slice As Ak.length At, .int .i64 Ae, .int .i64 start, .slice Aq Ac.length Ar] 39) :: (ad ++ []))) da.1 cb
   refine wv (AN underlying37 sizeOf41 rfl cc rfl da) (wv (Ab PI rfl) (wv (Aj isAgg3 rfl cf (cg 2 (by decide))) ?_))
   obtain ⟨ok, ew, dd⟩ := AI er
   refine Ie rfl call50 rfl rfl rfl (Gy ew) (wv (Cc rfl) (DN ?_))
   refine AY rfl (fun cj => ?_) (fun cj => ?_)
   ·have ey := bt dd cj
    refine Ai (um ?_)
    refine uv (AL isAgg58 sizeOf58 rfl (Has.own 0 rfl) (Ce rfl) rfl) ?_
    refine bA (cs := #[.int .i64 x.1, .int .i64 x.2]) R4 [.agg #[.int .i64 x.1, .int .i64 x.2]] ?_; intro gg fa
    obtain ⟨bc, fb, fe, ff⟩ := Hv ey
    refine Fg (xs := aj) (ys := [(x.1, x.2)]) (zs := bc) rfl R4 rfl rfl (Nat.le_refl _) (fun _ => .c (.c (.c .h))) av (HE.box (vss := [[.int .i64 x.1, .int .i64 x.2]]) (ys := [(x.1, x.2)]) 0 rfl (AD (Ad _) (Ad _)) (.cons ⟨_, _, rfl, rfl, rfl⟩ .nil) rfl rfl) fb fe (by decide) ?_; intro fg fh fi cn cp
    refine kO (kd kr) ?_
    refine ua (Aa (Au (id := 1) (Ai ?_)))
    refine uv (Bd rfl rfl (BP.EP aq ba (Ax.lt bj))) ?_
    refine um (Aa ?_)
    subst az; exact le (kd kr) ⟨_, _, rfl, bb, bc, fg, fh, fi, cn, ff, rfl, rfl, z6, cp⟩
   have fj := bf dd cj
   refine An (Au (id := 1) (Ai ?_))
   refine uv (Bd rfl rfl (BP.EP aq ba (Ax.lt bj))) ?_
   refine um (Aa ?_)
   subst az; exact le (kd kr) ⟨_, _, rfl, bb, aj, aw, ax, ay, ad, fj, rfl, rfl, z6, av⟩
  obtain rfl := BP.zero aq ba
  rw [Et] at bk
  refine AQ (Af (Af ?_))
  refine Av ?_
  obtain rfl := AM bk
  exact mi (kd kr) ⟨aw, ax, ay, ad, rfl, rfl, z1, av⟩
 rintro e1 _ _ ⟨bm, bn, bo, au, rfl, rfl, bg, cq⟩
 refine AA _ bg ?_
 refine AO (um (ua (ua (Aa (Al ?_)))))
 refine CP results13 (AR rfl) (AR rfl) (sr) ?_
 obtain ⟨rfl, rfl⟩ := DH cr
 exact ⟨_, _, _, _, rfl, rfl, cq.any⟩
theorem PF {BI r : Int} (hr : HS BC BI = some r) :
    Bw Tryz.prog 130 #[.agg #[.int .i64 BC, .int .i64 BI]] F (.int .i64 r) := by
 refine sp func130 ntmps130 fun K _ _ => ?_
 rw [HS] at hr
 refine AO ?_
 refine BH rfl rfl ?_; intro b1 af
 refine ua (Aa (Ao ?_))
 obtain ⟨k, h2, r3⟩ := AI hr
 refine jE ([]) [(12, .bool k)] ?_ ?_
 ·clear r3
  refine Ai (uv (Ab PH rfl) (uv (Aj isAgg29 rfl (Has.own 0 rfl) rfl) ?_))
  obtain ⟨ok, h4, r5⟩ := AI h2
  refine cV call189 (Le h4) (uv (Cc rfl) (um ?_))
  rcases Dc (!ok) with c6 | c6
  ·have r7 := bt r5 c6
   refine fB c6 (fB c6 (fB c6 (fB c6 ?_)))
   refine uv (AP (IW rfl c6) rfl) (Aa ?_)
   obtain rfl := AM r7
   exact mi kn ⟨rfl, rfl, z1⟩
  have r8 := bf r5 c6
  refine nB c6 (uv (Ab PK rfl) (nB c6 (uv (Aj isAgg3 rfl (Has.own 0 rfl) rfl) (nB c6 ?_))))
  obtain ⟨ah, h9, ab⟩ := AI r8
  refine cV call121 (I3 h9) (nB c6 (uv (Cc rfl) (uv (AB (IW rfl c6) rfl) (Aa ?_))))
  obtain rfl := AM ab
  exact mi kn ⟨rfl, rfl, z1⟩
 refine AY rfl (fun aa => ?_) (fun aa => ?_)
 ·have ad := bt r3 aa
  refine AO (ua (Aa (Al (Ah ?_))))
  refine Cq results130 ?_
  obtain rfl := AM ad
  exact rfl
 have ae := bf r3 aa
 refine An (AO (ua (Aa (Al ?_))))
 refine Cq results130 ?_
 obtain rfl := AM ae
 exact rfl
end Go.Proofs.YtfmapnhfamoecaaGreat
