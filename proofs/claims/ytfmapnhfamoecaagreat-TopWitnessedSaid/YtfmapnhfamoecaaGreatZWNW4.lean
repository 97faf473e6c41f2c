/- The walks that this claim needs, printed by a program of mine; part 4. -/
import Derived.Test.YtfmapnhfamoecaaGreatZWNW3
namespace Go.Proofs.YtfmapnhfamoecaaGreat
open Go.SH Go.PL
open Tryz 
variable {F : FS} {hour m GX r3 Be : Int} {found hours Ap lost : List (List Int)} {AG weights : List Int} {A6 Bg AO Bo AN AM : Nat} {A7 Bh AL Bn AP AK : Option Addr}
set_option maxHeartbeats 1000000 in
theorem Om {GZ : Nat} {BE Cr : List Int} {IZ : Nat × Nat} {ab : Option Addr} {ad : Nat} {aa : List Int} (aw : F GZ = some (.cells ((([.slice AK weights.length AM] : List Value) ++ (([.int .i64 Be] : List Value) ++ (([.slice Bn lost.length Bo] : List Value) ++ (([.slice A7 found.length A6] : List Value) ++ (([.slice AP AG.length AN] : List Value) ++ (BE.flatMap (cI .i64) ++ (Cr.flatMap (cI .i64)))))))).toArray) 204 IZ)) (_h_weights : As 1 (iE .i64) F AK AM weights) (_h_lost : As 1 (BC 1 (iE .i64)) F Bn Bo lost) (_h_found : As 1 (BC 1 (iE .i64)) F A7 A6 found) (_h_rewards : As 1 (iE .i64) F AP AN AG) (ae : BE.length = 36) (_h_slip : Cr.length = 36) (af : As 1 (iE .i64) F ab ad aa) {r : Int} (hr : GC weights Be lost found AG BE Cr aa = some r) :
    Bl Tryz.prog 78 #[.pointer (some ⟨GZ, 0, none⟩), .slice ab aa.length ad] F (.int .i64 r) := by
 refine sp func78 ntmps78 fun K _ _ => ?_
 rw [GC] at hr
 refine AJ (ua (BU (ua (Aa ?_))))
 obtain ⟨l, h7, r8⟩ := AF hr
 refine A5 (fun e1 F1 L1 => ∃ (a1 : Option Addr) (n5 : Nat) (c2 : Nat) (av : LH), F = F1 ∧ L1 = (av ++ []) ∧ e1.sub [(5, .slice a1 n5 c2)] ∧ Bd K.w0.heap.size 3 1 (iE .i64) F1 a1 n5 c2 l av) ?_ ?_
 ·clear r8
  refine AJ (um ?_)
  refine uv (A2 underlying33 rfl) ?_
  refine um (Aa ?_)
  refine Ak ?_
  refine Br (fun bo e1 F1 L1 => LA aa bo fun tl k => ∃ (l2 : List Int) (a9 : Option Addr) (ak : Nat) (al : Nat) (ah : LH), CW BE tl k l2 = some l ∧ F = F1 ∧ L1 = (ah ++ []) ∧ e1.sub [(0, .pointer (some ⟨GZ, 0, none⟩)), (5, .slice a9 ak al), (8, .slice ab aa.length ad), (9, .int .i64 (aa.length : Int)), (10, .int .i64 k)] ∧ Bd K.w0.heap.size 3 1 (iE .i64) F1 a9 ak al l2 ah) _ (m0 (ke kr) ⟨_, _, rfl, BI.start _, [], none, 0, 0, [], h7, rfl, rfl, z5, Bd.nil _ _ _ _ _⟩) ?_
  rintro bo e1 _ _ ⟨tl, k, ao, ai, l2, a9, ak, al, ah, aq, rfl, rfl, ax, aj⟩
  refine AB _ ax (AJ (uv (Bp rfl rfl) ?_))
  refine Aa (Aq ?_)
  refine cQ (fun ar => ?_) fun ar => ?_
  ·obtain ⟨x, cv, rfl, ay, bp, au⟩ := BI.succ ai ar
   rw [CW] at aq
   refine Al (Aq ?_)
   refine Ak ?_
   refine AJ (um ?_)
   obtain ⟨cw, cx, cy, bx, az, ba, bq, rfl, bz, bb⟩ := As.at (Ac _) af (ah ++ []) bp.1 ay
   refine uv (AT underlying33 sizeOf3 rfl az rfl bp) (uv (Ah isAgg3 rfl ba (bb 0 (by decide))) ?_)
   refine ua (ua (BU (um ?_)))
   refine uv (CI rfl rfl) (Aa ?_)
   refine cQ (fun bc => ?_) fun bc => ?_
   ·have ca := Bi aq bc
    refine Af (um (um (um (um ?_))))
    refine uv (AV rfl) (uv (Ab Lh rfl) ?_)
    obtain ⟨br, cb⟩ := A0 ca
    refine uv (By underlying202 sizeOf200 rfl rfl br) ?_
    obtain ⟨bu, cc⟩ := A0 cb
    obtain ⟨x2, cz, bd, cd⟩ := BY cc
    have bg : (k * 6 + x : Int).toNat = (k : Int).toNat * 6 + (x : Int).toNat := by have := br; have := bu; omega
    have bj := Hc (Bt .i64) ae bg bd (GM (Ar (A := ([.slice AK weights.length AM] : List Value)) (k := 1) (o := 4) rfl (Ar (A := ([.int .i64 Be] : List Value)) (k := 1) (o := 3) rfl (Ar (A := ([.slice Bn lost.length Bo] : List Value)) (k := 1) (o := 2) rfl (Ar (A := ([.slice A7 found.length A6] : List Value)) (k := 1) (o := 1) rfl (Ar (A := ([.slice AP AG.length AN] : List Value)) (k := 1) (o := 0) rfl (BK (B := Cr.flatMap (cI .i64)) (EJ (Bt .i64) ae)))))))) (Fq (Ar (A := ([.slice AK weights.length AM] : List Value)) (k := 1) (o := 4) rfl (Ar (A := ([.int .i64 Be] : List Value)) (k := 1) (o := 3) rfl (Ar (A := ([.slice Bn lost.length Bo] : List Value)) (k := 1) (o := 2) rfl (Ar (A := ([.slice A7 found.length A6] : List Value)) (k := 1) (o := 1) rfl (Ar (A := ([.slice AP AG.length AN] : List Value)) (k := 1) (o := 0) rfl (BK (B := Cr.flatMap (cI .i64)) (EJ (Bt .i64) ae))))))))
    refine uv (By underlying200 sizeOf3 rfl rfl bu) (uv (Ah isAgg3 rfl (Has.frozen aw) ((bj).2.2 0 (by decide))) ?_)
    refine bA (cs := #[.int .i64 x2]) Ct [.int .i64 x2] ?_; intro da cf
    obtain ⟨l3, cg, cj, ck⟩ := Gp cd
    refine Ey (xs := l2) (ys := [x2]) (zs := l3) rfl Ct rfl rfl (Nat.le_refl _) (fun _ => .c .h) aj (GJ.box (vss := [[.int .i64 x2]]) (ys := [x2]) 0 rfl (Ac _) (.cons rfl .nil) rfl rfl) cg cj (by decide) ?_; intro cn cp cq bk bl
    refine kO (kd kr) ?_
    refine ua (Aa (At (id := 1) (Af ?_)))
    refine uv (Bf rfl rfl (BI.Ed ai ar (As.lt af))) ?_
    refine um (Aa ?_)
    subst ao; exact le kr ⟨_, _, rfl, au, l3, cn, cp, cq, bk, ck, rfl, rfl, z5, bl⟩
   have cr := Bk aq bc
   refine Al (At (id := 1) (Af ?_))
   refine uv (Bf rfl rfl (BI.Ed ai ar (As.lt af))) ?_
   refine um (Aa ?_)
   subst ao; exact le kr ⟨_, _, rfl, au, l2, a9, ak, al, ah, cr, rfl, rfl, z5, aj⟩
  obtain rfl := BI.zero ai ar
  rw [CW] at aq
  refine AW (Ae (Ae ?_))
  refine Au ?_
  obtain rfl := AH aq
  exact mi kr ⟨a9, ak, al, ah, rfl, rfl, z1, aj⟩
 rintro e1 _ _ ⟨a1, n5, c2, av, rfl, rfl, bn, bw⟩
 refine AB _ bn ?_
 refine AJ (um ?_)
 obtain ⟨n, ct, cu⟩ := AF r8
 refine JK (Lt := av ++ []) (Lr := []) rfl call150 rfl rfl rfl (pT pR (lp (ln rfl))) (fun F2 h2 h3 => by rw [(Bd.Dx bw).1]; exact Tz (bw.row (Ac _) h2 (fun p hp => h3 p (List.mem_append_left _ hp))) ct) ?_
 refine ua (Aa ?_)
 refine kW kn (Aj (BZ results78 ?_))
 obtain rfl := AH cu
 exact rfl
set_option maxHeartbeats 1000000 in
theorem Pd (ab : As 1 (iE .i64) F AK AM weights) (al : As 1 (BC 1 (iE .i64)) F Bn Bo lost) (ak : As 1 (BC 1 (iE .i64)) F A7 A6 found) (ad : As 1 (iE .i64) F AP AN AG) {r : List Int} {r2 : Int} (hr : JR weights Be lost found AG = some (r, r2, r3)) :
    SH.Spec Tryz.prog 25 #[.agg #[.slice AK weights.length AM, .int .i64 Be, .slice Bn lost.length Bo, .slice A7 found.length A6, .slice AP AG.length AN]] F [] fun F' L' v => ∃ (ra : Option Addr) (rn : Nat) (rc : Nat) (rL : LH), v = .tuple #[.slice ra rn rc, .int .i64 r2, .int .i64 r3] ∧ L' = rL ++ [] ∧ Bd 0 3 1 (iE .i64) F' ra rn rc r rL := by
 refine sp func25 ntmps25 fun K _ _ => ?_
 rw [JR] at hr
 refine AJ ?_
 refine BJ rfl rfl ?_; intro b1 cu
 refine ua (ua (ua (BU ?_)))
 refine uv (A1 isAgg82 sizeOf82 rfl (Has.own 0 rfl) (CB rfl) rfl) ?_
 obtain ⟨d, n, h2, r4⟩ := DM hr
 refine c0 call72 (Nf ab al ak ad h2) ?_; rintro _ F5 _ cv cw ⟨v9, rfl, rfl, ay⟩
 refine AI (ln rfl) ?_
 refine um (ox rfl rfl rfl (ox rfl rfl rfl (ua (ua (Aa (Aq (AJ (um ?_))))))))
 refine uv (CI rfl rfl) (Aa ?_)
 refine cQ (fun az => ?_) fun az => ?_
 ·have bk := Bi r4 az
  refine AJ (um (ua (ua (ua (Aa ?_)))))
  refine kW kn ?_
  refine Aj (Ai ?_)
  refine KE results25 (AY rfl) (AY rfl) (AY rfl) (sr) ?_
  obtain ⟨rfl, rfl, rfl⟩ := H2 bk
  exact ⟨_, _, _, [], rfl, rfl, Bd.nil _ _ _ _ _⟩
 have bl := Bk r4 az
 refine Al (AJ (um (um ?_)))
 obtain ⟨ae, ao, aw, Cs, af, BE, Cr, bn, bo⟩ := U3 bl
 have bj := ay; rw [bn] at bj; obtain ⟨bp, cx, bq, ba, aa, ⟨_, _, rfl, ⟨br, bu, rfl, aq⟩, ⟨_, _, rfl, rfl, ⟨_, _, rfl, ⟨bw, bx, rfl, ar⟩, ⟨_, _, rfl, ⟨bz, ca, rfl, au⟩, ⟨_, _, rfl, ⟨cb, cc, rfl, av⟩, ⟨_, _, rfl, ⟨rfl, bb⟩, ⟨rfl, bc⟩⟩⟩⟩⟩⟩⟩⟩ := bj; subst ba
 have aa : F5 bp = some (.cells ((([.slice br ae.length bu] : List Value) ++ (([.int .i64 ao] : List Value) ++ (([.slice bw aw.length bx] : List Value) ++ (([.slice bz Cs.length ca] : List Value) ++ (([.slice cb af.length cc] : List Value) ++ (BE.flatMap (cI .i64) ++ (Cr.flatMap (cI .i64)))))))).toArray) 204 bq) := aa
 obtain ⟨y, cd, cf⟩ := AF bo
 refine c0 call77 (Od aa aq ar au av bb bc cd) ?_; rintro _ cy _ ah cg ⟨cj, ck, cn, rfl, rfl, ax⟩
 replace aq := aq.mono (Ac _) ah
 replace ar := ar.mono (Am (Ac _)) ah
 replace au := au.mono (Am (Ac _)) ah
 replace av := av.mono (Ac _) ah
 replace aa := ah _ _ aa
 refine AI (ln rfl) ?_
 obtain ⟨l, cp, cq⟩ := AF cf
 refine c0 call76 (O3 aa aq ar au av bb bc ax cp) ?_; rintro _ cz _ ai bd ⟨da, db, dd, bg, rfl, rfl, aj⟩
 replace aq := aq.mono (Ac _) ai
 replace ar := ar.mono (Am (Ac _)) ai
 replace au := au.mono (Am (Ac _)) ai
 replace av := av.mono (Ac _) ai
 replace aa := ai _ _ aa
 replace aj := aj.new fun p hp => bd p (by simp [hp])
 refine AI (lp (ln rfl)) (kO (kf (fS fO) kr) ?_)
 refine ua (BU (um (um (um ?_))))
 obtain ⟨n2, cr, ct⟩ := AF cq
 refine JK (Lt := bg ++ []) (Lr := [(b1, ce #[.slice AK weights.length AM, .int .i64 Be, .slice Bn lost.length Bo, .slice A7 found.length A6, .slice AP AG.length AN] 82)]) rfl call78 rfl rfl rfl (pT ((fC fP).trans (pA pR)) (lp (ln rfl))) (fun F2 h2 h3 => by rw [(Bd.Dx aj).1]; exact Om (h2 _ _ aa) (aq.mono (Ac _) h2) (ar.mono (Am (Ac _)) h2) (au.mono (Am (Ac _)) h2) (av.mono (Ac _) h2) bb bc (aj.row (Ac _) h2 (fun p hp => h3 p (List.mem_append_left _ hp))) cr) ?_
 refine ua (ua (ua (Aa ?_)))
 refine kW (kd kr) (Aj (KE results25 (AY rfl) (AY rfl) (AY rfl) (sr) ?_))
 obtain ⟨rfl, rfl, rfl⟩ := H2 ct
 exact ⟨_, _, _, _, rfl, rfl, aj.any⟩
theorem KN {n : Int} {r : Bool} (hr : Dm n = some r) :
    Bl Tryz.prog 27 #[.int .i64 n] F (.bool r) := by
 refine sp func27 ntmps27 fun K _ _ => ?_
 rw [Dm] at hr
 refine AJ (ua (BU (um ?_)))
 refine uv (CI rfl rfl) ?_
 refine ua (Aa (Aj ?_))
 refine BZ results27 ?_
 obtain rfl := AH hr
 exact rfl
set_option maxHeartbeats 1000000 in
theorem QV {B0 : Int} (aa : As 1 (BC 1 (iE .i64)) F AL AO Ap) (ab : As 1 (BC 1 (iE .i64)) F Bh Bg hours) {r r2 : Int} (hr : Jl Ap hours B0 = some (r, r2)) :
    Bl Tryz.prog 28 #[.agg #[.slice AL Ap.length AO, .slice Bh hours.length Bg], .int .i64 B0] F (.tuple #[.int .i64 r, .int .i64 r2]) := by
 refine sp func28 ntmps28 fun K _ _ => ?_
 rw [Jl] at hr
 refine AJ ?_
 refine BJ rfl rfl ?_; intro b1 cd
 refine ua (ua (BU ?_))
 refine uv (A1 isAgg70 sizeOf70 rfl (Has.own 0 rfl) (CB rfl) rfl) ?_
 obtain ⟨d, n, h2, r3⟩ := DM hr
 refine c0 call80 (Mm aa ab h2) ?_; rintro _ F4 _ cf cg ⟨v8, az, rfl, rfl, ba⟩
 refine AI (lp (ln rfl)) (kO (kf (fS fO) kr) ?_)
 refine um (ox rfl rfl rfl (ox rfl rfl rfl (ua (ua (Aa (Aq (AJ (um ?_))))))))
 refine uv (CI rfl rfl) (Aa ?_)
 refine cQ (fun ai => ?_) fun ai => ?_
 ·have bb := Bi r3 ai
  refine AJ (um (ua (ua (Aa ?_))))
  refine kW kn ?_
  refine Aj (Ai ?_)
  refine Dv results28 (AY rfl) (AY rfl) (sr) ?_
  obtain ⟨rfl, rfl⟩ := DO bb
  exact rfl
 have bc := Bk r3 ai
 refine Al (Aq (Aq ?_))
 obtain ⟨ad, aj, CJ, rows, bd, bg⟩ := Ng bc
 have au := ba; rw [bd] at au; obtain ⟨cj, ck, cn, cp, cq, cr, av, ae, af, ct, cu, ak, ah, aw, ax, al, cv, ao⟩ := OQ au; subst ak; subst ao
 refine DT (L' := [(b1, ce #[.slice AL Ap.length AO, .slice Bh hours.length Bg] 70), (av, .map ae af)]) rfl ?_
 refine Af (um (um ?_))
 obtain ⟨n2, bj, bk⟩ := AF bg
 refine cV call70 (GP ah aw ax bj) ?_
 obtain ⟨bl, bn⟩ := A0 bk
 refine uv (Fs rfl rfl bl) ?_
 obtain ⟨ok, bo, ay⟩ := AF bn
 refine cV call81 (H5 bo) (uv (BB rfl) (Aa ?_))
 refine AX rfl (fun aq => ?_) (fun aq => ?_)
 ·have bp := bt ay aq
  refine AJ (ua (ua (Aa ?_)))
  refine kW kn ?_
  refine Aj (Ai ?_)
  refine Dv results28 (AY rfl) (AY rfl) (sr) ?_
  obtain ⟨rfl, rfl⟩ := DO bp
  exact rfl
 have bq := bf ay aq
 refine Al (AJ (um (um ?_)))
 obtain ⟨n3, ar, br, bu⟩ := DM bq
 refine ID (Lb := [(av, .map ae af)]) (Lr := [(b1, ce #[.slice AL Ap.length AO, .slice Bh hours.length Bg] 70)]) rfl call82 rfl rfl rfl (((fC fO).trans (pC pR))) (Kl ah aw ax al br) ?_; rintro _ cw _ bw bx bz ⟨ca, cb, rfl, rfl, cc⟩
 refine AI (lb (ln rfl)) ?_
 refine ua (ua (Aa ?_))
 refine kW kn (Aj (Dv results28 (AY rfl) (AY rfl) (sr) ?_))
 obtain ⟨rfl, rfl⟩ := DO bu
 exact rfl
theorem MV (_h_listens : As 1 (BC 1 (iE .i64)) F AL AO Ap) (_h_hours : As 1 (BC 1 (iE .i64)) F Bh Bg hours) {r : Bool} (hr : FE Ap hours hour GX = some r) :
    Bl Tryz.prog 84 #[.agg #[.slice AL Ap.length AO, .slice Bh hours.length Bg], .agg #[.int .i64 hour, .int .i64 GX]] F (.bool r) := by
 refine sp func84 ntmps84 fun K _ _ => ?_
 rw [FE] at hr
 refine AJ ?_
 refine BJ rfl rfl ?_; intro b1 af
 refine BJ rfl rfl ?_; intro b2 ah
 refine ua (BU ?_)
 refine uv (Ab Ud rfl) (uv (Ah isAgg3 rfl (Has.own 0 rfl) rfl) (uv (Ab Gq rfl) (uv (Ah isAgg68 rfl (Has.own 1 rfl) rfl) (uv (A2 underlying68 rfl) ?_))))
 obtain ⟨g3, r4⟩ := A0 hr
 refine uv (Fs rfl rfl g3) ?_
 obtain ⟨ok, h5, r6⟩ := AF r4
 refine cV call81 (H5 h5) (um ?_)
 rcases Cd ok with c7 | c7
 ·have r8 := bt r6 c7
  refine nB c7 (uv (Ab Uj rfl) (nB c7 (uv (Ah isAgg3 rfl (Has.own 0 rfl) rfl) (nB c7 (uv (Ab FA rfl) (nB c7 (uv (Ah isAgg36 rfl (Has.own 1 rfl) rfl) ?_)))))))
  refine nB c7 (uv (A2 underlying36 rfl) (nB c7 ?_))
  obtain ⟨g9, aa⟩ := A0 r8
  refine uv (Fs rfl rfl g9) (nB c7 ?_)
  obtain ⟨ai, ab, ad⟩ := AF aa
  refine cV call81 (H5 ab) (uv (AS (Hx rfl c7) rfl) ?_)
  refine ua (Aa ?_)
  refine kW kn (Aj (BZ results84 ?_))
  obtain rfl := AH ad
  exact rfl
 have ae := bf r6 c7
 refine fB c7 (fB c7 (fB c7 (fB c7 (fB c7 (fB c7 (fB c7 ?_))))))
 refine uv (AE (Hx rfl c7) rfl) ?_
 refine ua (Aa ?_)
 refine kW kn (Aj (BZ results84 ?_))
 obtain rfl := AH ae
 exact rfl
set_option maxHeartbeats 1000000 in
theorem NA (aa : As 1 (BC 1 (iE .i64)) F AL AO Ap) (ah : As 1 (BC 1 (iE .i64)) F Bh Bg hours) {r r2 : List (List Int)} (hr : FT Ap hours hour GX m = some (r, r2)) :
    SH.Spec Tryz.prog 86 #[.agg #[.slice AL Ap.length AO, .slice Bh hours.length Bg], .agg #[.int .i64 hour, .int .i64 GX], .int .i64 m] F [] fun F' L' v => ∃ (ra : Option Addr) (rn : Nat) (rc : Nat) (rL : LH) (iu : Option Addr) (iv : Nat), v = .agg #[.slice ra rn rc, .slice iu r2.length iv] ∧ L' = rL ++ [] ∧ Bd 0 33 1 (BC 1 (iE .i64)) F' ra rn rc r rL ∧ As 1 (BC 1 (iE .i64)) F' iu iv r2 := by
 refine sp func86 ntmps86 fun K _ _ => ?_
 rw [FT] at hr
 refine AJ ?_
 refine BJ rfl rfl ?_; intro b1 ng
 refine BJ rfl rfl ?_; intro b2 nh
 refine Bw rfl zeroValue70 ?_; intro b3 ni
 refine Aa (Aq ?_)
 obtain ⟨g4, r5⟩ := A0 hr
 refine CM [(.pre, 9), (.still, 0), (.still, 1), (.still, 2), (.pre, 3), (.still, 4), (.still, 5), (.still, 6), (.seq, 7), (.alloc (ce (madeCells (.slice none 0 0 : Value).cells (Int.toNat (Ap.length : Int) * 1)) 33) (fun b => .slice (some ⟨b, 0, none⟩) (Int.toNat (Ap.length : Int)) (Int.toNat (Ap.length : Int))) [(14, .int .i64 (Ap.length : Int))], 3), (.still, 8), (.alloc (.cells (.agg #[.slice none 0 0, .slice none 0 0] : Value).cells 70 (0, 0)) (fun b => .pointer (some ⟨b, 0, none⟩)) [], 9), (.seq, 10)] (by kernel_rfl) (by kernel_rfl) (⟨⟨_, _, rfl, rfl, rfl, rfl, rfl, Wj LF (by decide) rfl g4⟩, ⟨⟨_, _, rfl, rfl, rfl, rfl, rfl, Sn zeroValue70⟩, trivial⟩⟩) (by rfl) (by kernel_rfl) ?_
 refine ⟨⟨[], rfl, sn _, by kernel_rfl⟩, ?_⟩
 refine mS [3] rfl (Ab FA rfl) (mL [12] ([(b1, ce #[.slice AL Ap.length AO, .slice Bh hours.length Bg] 70)]) rfl (s0 (s1 (s1 (s2 sr)))) (fun H F' L' ar au => Ah isAgg36 rfl ((Has.own 0 rfl).ext ar au) rfl) (mS [13] rfl (A2 underlying36 rfl) ?_))
 refine ⟨⟨_, rfl, z1, by kernel_rfl⟩, ?_⟩
 refine mS [3] rfl (Ab Gq rfl) (mL [16] ([(b1, ce #[.slice AL Ap.length AO, .slice Bh hours.length Bg] 70)]) rfl (s0 (s1 (s1 (s2 sr)))) (fun H F' L' ar au => Ah isAgg68 rfl ((Has.own 0 rfl).ext ar au) rfl) (mS [17] rfl (A2 underlying68 rfl) ?_))
 refine ⟨_, [(18, .int .i64 (hours.length : Int))], rfl, rfl, z1, by kernel_rfl, ?_⟩; intro H
 obtain ⟨g6, r7⟩ := A0 r5
 obtain ⟨l, h8, r9⟩ := C3 r7
 refine PX (R := RB) (z0 := (none, 0, 0)) (zs := List.replicate ((hours.length : Int) : Int).toNat (none, 0, 0)) rfl Tu (by decide) Jw (fun _ => rfl) rfl g6 rfl (fun _ => .c (.c (.c .n))) ?_; intro aj ad al fb
 have bx : Js K.w0.heap.size 183 91 1 (iE .i64) F aj ad ad l al := Js.made fb h8
 refine Aa ⟨_, rfl, A4.refl _, [2, 1, 0], by kernel_rfl, .inl (.inr (fun d h => by cases h; rfl)), (fc sm (fc (s0 (s1 (s1 (s2 (s3 sr))))) (fc sm nm))), ?_⟩
 refine Sb rfl ?_; intro ai fe
 refine Rj (L' := (ai, ce (madeCells (.slice none 0 0 : Value).cells ((Int.toNat (Ap.length : Int)) * 1)) 33) :: ((b3, ce #[.slice none 0 0, .slice none 0 0] 70) :: ((b2, ce #[.int .i64 hour, .int .i64 GX] 95) :: ((b1, ce #[.slice AL Ap.length AO, .slice Bh hours.length Bg] 70) :: (al ++ []))))) rfl ?_
 refine mS (v := .agg #[.slice (some ⟨ai, 0, none⟩) (Int.toNat (Ap.length : Int)) (Int.toNat (Ap.length : Int)), .slice aj ad ad]) [15, 19] rfl (BM (v := .agg #[.slice (some ⟨ai, 0, none⟩) (Int.toNat (Ap.length : Int)) (Int.toNat (Ap.length : Int)), .slice aj ad ad]) rfl (by intro w; kernel_rfl)) ?_
 refine TU rfl ?_; intro ao jw
 refine Rj (L' := (ao, ce #[.slice none 0 0, .slice none 0 0] 70) :: ((ai, ce (madeCells (.slice none 0 0 : Value).cells ((Int.toNat (Ap.length : Int)) * 1)) 33) :: ((b3, ce #[.slice none 0 0, .slice none 0 0] 70) :: ((b2, ce #[.int .i64 hour, .int .i64 GX] 95) :: ((b1, ce #[.slice AL Ap.length AO, .slice Bh hours.length Bg] 70) :: (al ++ [])))))) rfl ?_
 refine ⟨_, [(7, .pointer (some ⟨ao, 0, none⟩)), (20, .agg #[.slice (some ⟨ai, 0, none⟩) (Int.toNat (Ap.length : Int)) (Int.toNat (Ap.length : Int)), .slice aj ad ad])], rfl, rfl, z2, by kernel_rfl, ?_⟩; intro H
 obtain ⟨l2, jx, jz⟩ := C3 r9
 have cq : Bd K.w0.heap.size 33 1 (BC 1 (iE .i64)) F (some ⟨ai, 0, none⟩) (Int.toNat (Ap.length : Int)) (Int.toNat (Ap.length : Int)) l2 [(ai, ce (madeCells (.slice none 0 0 : Value).cells ((Int.toNat (Ap.length : Int)) * 1)) 33)] := by rw [jx]; exact Bd.made (Am (Ac _)) (by decide) (fun _ => ⟨_, _, rfl, As.nil _ _ _⟩) fe (W5 g4)
 generalize bz : ([(ai, ce (madeCells (.slice none 0 0 : Value).cells ((Int.toNat (Ap.length : Int)) * 1)) 33)] : LH) = Lb20 at cq
 refine B2 (L' := Lb20 ++ ((ao, ce #[.slice none 0 0, .slice none 0 0] 70) :: ((b3, ce #[.slice none 0 0, .slice none 0 0] 70) :: ((b2, ce #[.int .i64 hour, .int .i64 GX] 95) :: ((b1, ce #[.slice AL Ap.length AO, .slice Bh hours.length Bg] 70) :: (al ++ [])))))) (by rw [← bz]; exact (fC fO)) ?_
 refine B2 (L' := (ao, ce #[.slice none 0 0, .slice none 0 0] 70) :: ((b3, ce #[.slice none 0 0, .slice none 0 0] 70) :: ((b2, ce #[.int .i64 hour, .int .i64 GX] 95) :: ((b1, ce #[.slice AL Ap.length AO, .slice Bh hours.length Bg] 70) :: (Lb20 ++ (al ++ [])))))) (List.Perm.symm (fC (fC (fC (fC fP))))) (BP (i := 0) sizeOf70 rfl rfl rfl (by simp [Value.oneCell']) rfl (CB rfl) (AI rfl ?_))
 refine Aa ⟨undef, rfl, A4.refl _, [], by kernel_rfl, .inl (.inl rfl), nm, ?_⟩
 refine D1 ?_
 obtain ⟨af, k7, iw⟩ := AF jz
 refine A5 (fun e1 F1 L1 => ∃ (av : LH), A4 F F1 ∧ L1 = ((ao, ce #[.slice (some ⟨ai, 0, none⟩) (Int.toNat (Ap.length : Int)) (Int.toNat (Ap.length : Int)), .slice aj ad ad] 70) :: ((b3, ce #[.slice none 0 0, .slice none 0 0] 70) :: ((b2, ce #[.int .i64 hour, .int .i64 GX] 95) :: ((b1, ce #[.slice AL Ap.length AO, .slice Bh hours.length Bg] 70) :: (av ++ (al ++ [])))))) ∧ e1.sub [(2, .int .i64 m), (3, .pointer (some ⟨b1, 0, none⟩)), (4, .pointer (some ⟨b2, 0, none⟩)), (6, .pointer (some ⟨b3, 0, none⟩)), (7, .pointer (some ⟨ao, 0, none⟩))] ∧ Bd K.w0.heap.size 33 1 (BC 1 (iE .i64)) F1 (some ⟨ai, 0, none⟩) (Int.toNat (Ap.length : Int)) (Int.toNat (Ap.length : Int)) af av) ?_ ?_
 ·clear iw
  refine AJ (uv (Ab FA rfl) (uv (Ah isAgg36 rfl (Has.own 3 rfl) rfl) (uv (A2 underlying36 rfl) ?_)))
  refine um (Aa ?_)
  refine Ak ?_
  refine Br (fun iy e1 F1 L1 => LA Ap iy fun tl k => ∃ (ab : List (List Int)) (aw : LH), CE tl k ab = some af ∧ A4 F F1 ∧ L1 = ((ao, ce #[.slice (some ⟨ai, 0, none⟩) (Int.toNat (Ap.length : Int)) (Int.toNat (Ap.length : Int)), .slice aj ad ad] 70) :: ((b3, ce #[.slice none 0 0, .slice none 0 0] 70) :: ((b2, ce #[.int .i64 hour, .int .i64 GX] 95) :: ((b1, ce #[.slice AL Ap.length AO, .slice Bh hours.length Bg] 70) :: (aw ++ (al ++ [])))))) ∧ e1.sub [(2, .int .i64 m), (3, .pointer (some ⟨b1, 0, none⟩)), (4, .pointer (some ⟨b2, 0, none⟩)), (6, .pointer (some ⟨b3, 0, none⟩)), (7, .pointer (some ⟨ao, 0, none⟩)), (22, .slice AL Ap.length AO), (23, .int .i64 (Ap.length : Int)), (24, .int .i64 k)] ∧ Bd K.w0.heap.size 33 1 (BC 1 (iE .i64)) F1 (some ⟨ai, 0, none⟩) (Int.toNat (Ap.length : Int)) (Int.toNat (Ap.length : Int)) ab aw) _ (m0 kr ⟨_, _, rfl, BI.start _, l2, Lb20, k7, A4.refl _, rfl, z8, cq⟩) ?_
  rintro iy e1 nj _ ⟨tl, k, ff, ca, ab, aw, ey, cb, rfl, fg, aq⟩
  refine AB _ fg ?_
  replace aa := aa.mono (Am (Ac _)) cb
  refine AJ (uv (Bp rfl rfl) ?_)
  refine Aa (Aq ?_)
  refine cQ (fun ez => ?_) fun ez => ?_
  ·obtain ⟨x, nk, rfl, fh, iz, fi⟩ := BI.succ ca ez
   rw [CE] at ey
   refine Al (Aq ?_)
   refine Ak ?_
   refine AJ (um ?_)
   obtain ⟨nn, np, nq, k8, fj, fk, j0, ⟨k9, kb, rfl, kh⟩, kj, fl⟩ := As.at (Am (Ac _)) aa ((ao, ce #[.slice (some ⟨ai, 0, none⟩) (Int.toNat (Ap.length : Int)) (Int.toNat (Ap.length : Int)), .slice aj ad ad] 70) :: ((b3, ce #[.slice none 0 0, .slice none 0 0] 70) :: ((b2, ce #[.int .i64 hour, .int .i64 GX] 95) :: ((b1, ce #[.slice AL Ap.length AO, .slice Bh hours.length Bg] 70) :: (aw ++ (al ++ [])))))) iz.1 fh
   refine uv (AT underlying36 sizeOf33 rfl fj rfl iz) (uv (Ah isAgg33 rfl fk (fl 0 (by decide))) ?_)
   refine ua (ua (Aa ?_))
   refine CM [(.still, 0), (.still, 1), (.still, 2), (.still, 3), (.seq, 4), (.still, 5), (.seq, 6)] (by kernel_rfl) (by kernel_rfl) (trivial) (by rfl) (by kernel_rfl) (mS [7] rfl (Ab FA rfl) (mL [29] ([(ao, ce #[.slice (some ⟨ai, 0, none⟩) (Int.toNat (Ap.length : Int)) (Int.toNat (Ap.length : Int)), .slice aj ad ad] 70)]) rfl (s0 (s2 (s1 (s1 (s1 (s3 (s3 sr))))))) (fun H F' L' ar au => Ah isAgg36 rfl ((Has.own 0 rfl).ext ar au) rfl) (mS [8] rfl (BF rfl) (mS [9] rfl (BF rfl) ?_))))
   refine ⟨_, [(32, .slice k9 x.length kb)], rfl, rfl, z1, by kernel_rfl, ?_⟩; intro H
   obtain ⟨l3, kl, km⟩ := AF ey
   refine c0 call110 (II kh kl) ?_; rintro _ nr _ bb fm ⟨ko, kt, ku, kv, rfl, rfl, bc⟩
   replace aa := aa.mono (Am (Ac _)) bb
   replace aq := aq.mono (Am (Ac _)) bb
   replace bc := bc.new fun p hp => fm p (by simp [hp])
   refine AI (lp (ln rfl)) (kO (kf (fS fO) (kf (fS fO) (kf (fS fO) (kf (fS fO) kr)))) ?_)
   refine Aa ⟨_, rfl, bb, [2, 1, 0], by kernel_rfl, .inl (.inr (fun d h => by cases h; rfl)), (fc sm (fc (s0 (s2 (s1 (s1 (s1 (s3 (s3 (s3 sr)))))))) (fc sm nm))), ?_⟩
   obtain ⟨x2, fp, fq, kz⟩ := BY km
   obtain ⟨l0, ld, ns, lg, cr, lh, j1, ⟨nt, nu, rfl, nv⟩, lj, lk⟩ := Bd.at (Am (Ac _)) aq (L := aw ++ []) fP fp.1 fq
   refine mS [30, 31] rfl (AT underlying36 sizeOf33 rfl cr rfl (Bd.idx aq fp)) ?_
   refine ⟨_, [(33, .slice ko kt ku), (34, .pointer (some ⟨l0, ld + (k : Int).toNat * 1, none⟩))], rfl, rfl, z2, by kernel_rfl, ?_⟩; intro H
   obtain rfl := (Bd.Dx bc).1
   refine DF (Nat.le_refl _) (Ac _) (fC (fC (fC (fC fP)))) bc ?_; intro nw bd lq
   replace aa := aa.mono (Am (Ac _)) bd
   replace aq := aq.mono (Am (Ac _)) bd
   obtain ⟨l4, lr, lu⟩ := C3 kz
   refine G5 (u := l3) sizeOf33 (Am (Ac _)) rfl cr rfl ⟨_, _, rfl, lq⟩ (fun _ => .c (.c (.c (.c .h)))) aq lr fp ?_; intro ft fv
   refine Aa ⟨undef, rfl, bd, [], by kernel_rfl, .inl (.inl rfl), nm, ?_⟩
   refine D1 ?_
   refine At (id := 1) (Af ?_)
   refine uv (Bf rfl rfl (BI.Ed ca ez (As.lt aa))) ?_
   refine um (Aa ?_)
   subst ff; exact le kr ⟨_, _, rfl, fi, l4, ft, lu, ((cb.trans bb).trans bd), rfl, z8, fv⟩
  obtain rfl := BI.zero ca ez
  rw [CE] at ey
  refine AW (Ae (Ae ?_))
  refine Au ?_
  obtain rfl := AH ey
  exact mi kr ⟨aw, cb, rfl, z5, aq⟩
 rintro e1 ct _ ⟨av, cu, rfl, fw, cc⟩
 refine AB _ fw ?_
 replace ah := ah.mono (Am (Ac _)) cu
 replace bx := bx.mono (Ac _) cu
 obtain ⟨ak, lv, j2⟩ := AF iw
 refine A5 (fun e1 F1 L1 => ∃ (cd : LH), ct = F1 ∧ L1 = ((ao, ce #[.slice (some ⟨ai, 0, none⟩) (Int.toNat (Ap.length : Int)) (Int.toNat (Ap.length : Int)), .slice aj ad ad] 70) :: ((b3, ce #[.slice none 0 0, .slice none 0 0] 70) :: ((b2, ce #[.int .i64 hour, .int .i64 GX] 95) :: (av ++ (cd ++ []))))) ∧ e1.sub [(2, .int .i64 m), (4, .pointer (some ⟨b2, 0, none⟩)), (6, .pointer (some ⟨b3, 0, none⟩)), (7, .pointer (some ⟨ao, 0, none⟩))] ∧ Js K.w0.heap.size 183 91 1 (iE .i64) F1 aj ad ad ak cd) ?_ ?_
 ·clear j2
  refine AJ (uv (Ab Gq rfl) (uv (Ah isAgg68 rfl (Has.own 3 rfl) rfl) (uv (A2 underlying68 rfl) ?_)))
  refine um (Aa ?_)
  refine Ak (kW (kc (kc (kc (kd kr)))) ?_)
  refine Br (fun j3 e1 F1 L1 => LA hours j3 fun j4 k2 => ∃ (ae : List (List Int)) (ay : LH), CF j4 k2 ae = some ak ∧ ct = F1 ∧ L1 = ((ao, ce #[.slice (some ⟨ai, 0, none⟩) (Int.toNat (Ap.length : Int)) (Int.toNat (Ap.length : Int)), .slice aj ad ad] 70) :: ((b3, ce #[.slice none 0 0, .slice none 0 0] 70) :: ((b2, ce #[.int .i64 hour, .int .i64 GX] 95) :: (av ++ (ay ++ []))))) ∧ e1.sub [(2, .int .i64 m), (4, .pointer (some ⟨b2, 0, none⟩)), (6, .pointer (some ⟨b3, 0, none⟩)), (7, .pointer (some ⟨ao, 0, none⟩)), (37, .slice Bh hours.length Bg), (38, .int .i64 (hours.length : Int)), (39, .int .i64 k2)] ∧ Js K.w0.heap.size 183 91 1 (iE .i64) F1 aj ad ad ae ay) _ (m0 kr ⟨_, _, rfl, BI.start _, l, al, lv, rfl, rfl, z7, bx⟩) ?_
  rintro j3 e1 _ _ ⟨j4, k2, fx, cf, ae, ay, fa, rfl, rfl, fy, cg⟩
  refine AB _ fy (AJ (uv (Bp rfl rfl) ?_))
  refine Aa (Aq ?_)
  refine cQ (fun bg => ?_) fun bg => ?_
  ·obtain ⟨x3, ny, rfl, cv, cw, cx⟩ := BI.succ cf bg
   rw [CF] at fa
   refine Al (Aq ?_)
   refine Ak ?_
   refine AJ (um ?_)
   obtain ⟨lx, ly, ma, j5, cy, cz, g0, ⟨mb, mc, rfl, ga⟩, j6, da⟩ := As.at (Am (Ac _)) ah ((ao, ce #[.slice (some ⟨ai, 0, none⟩) (Int.toNat (Ap.length : Int)) (Int.toNat (Ap.length : Int)), .slice aj ad ad] 70) :: ((b3, ce #[.slice none 0 0, .slice none 0 0] 70) :: ((b2, ce #[.int .i64 hour, .int .i64 GX] 95) :: (av ++ (ay ++ []))))) cw.1 cv
   refine uv (AT underlying68 sizeOf183 rfl cy rfl cw) (uv (Ah isAgg183 rfl cz (da 0 (by decide))) ?_)
   refine ua (ua (Aa (Aq ?_)))
   obtain ⟨x4, cj, db, gb⟩ := BY fa
   have bj := (Js.Dx cg).1
   refine S2 (fC (fC (fC (fS fP)))) cg db ?_; intro dd de j7 me mg mh j8 df az j9 dg
   refine kW (kf (fS (fS (fS fO))) (kf (fS (fS (fS fO))) (kf (fS (fS (fS fO))) kr))) (CM [(.still, 0), (.still, 1), (.still, 2), (.still, 3), (.still, 4), (.seq, 5), (.still, 6), (.seq, 7)] (by kernel_rfl) (by kernel_rfl) (trivial) (by rfl) (by kernel_rfl) (mS [7] rfl (Ab Gq rfl) (mL [44] ([(ao, ce #[.slice (some ⟨ai, 0, none⟩) (Int.toNat (Ap.length : Int)) (Int.toNat (Ap.length : Int)), .slice aj ad ad] 70)]) rfl (s0 (s2 (s1 (s1 (s3 (s3 (s3 (s3 sr)))))))) (fun H F' L' ar au => Ah isAgg68 rfl ((Has.own 0 rfl).ext ar au) rfl) (mS [10] rfl (BF rfl) (mS [11] rfl (BF rfl) (mS [47] rfl (A2 underlying183 rfl) ?_))))))
   refine ⟨_, [(48, .int .i64 (x3.length : Int))], rfl, rfl, z1, by kernel_rfl, ?_⟩; intro H
   obtain ⟨gg, gh⟩ := A0 gb
   obtain ⟨l5, gi, gj⟩ := C3 gh
   refine PX (R := (iE .i64)) (z0 := 0) (zs := l5) rfl PW (by decide) (Ac _) (fun _ => rfl) rfl gg gi (fun _ => .c (.c (.c .n))) ?_; intro ck ax ja dh
   refine Aa ⟨_, rfl, A4.refl _, [2, 1, 0], by kernel_rfl, .inl (.inr (fun d h => by cases h; rfl)), (fc sm (fc (s0 (s2 (s1 (s1 (s3 (s3 (s3 (s3 (s3 sr))))))))) (fc sm nm))), ?_⟩
   obtain ⟨gk, gl, mj, jb, bk, jc, gm, rfl, jd, je⟩ := Bd.at Jw az (L := de ++ []) fP cj.1 df
   refine mS [45, 46] rfl (AT underlying68 sizeOf183 rfl bk rfl (Vn bj cj)) ?_
   refine ⟨_, [(49, .slice ck ax ax), (50, .pointer (some ⟨gk, gl + (k2 : Int).toNat * 1, none⟩))], rfl, rfl, z2, by kernel_rfl, ?_⟩; intro H
   refine G5 (zs := dd.set (k2 : Int).toNat (ck, ax, ax)) (u := (ck, ax, ax)) sizeOf183 Jw rfl bk rfl rfl (fun _ => .c (.c (.c (.s .h)))) az rfl (XW bj az cj) ?_; intro jf di
   refine kO (kc (kc (kc (ka (ka (kx kr)))))) ?_
   obtain ⟨l6, gn, gp⟩ := C3 gj
   refine N4 (p := fun X => Js K.w0.heap.size 183 91 1 (iE .i64) ct aj ad ad l6 X) (Qk.back dg di dh gn) (pT ((fC (fC (fC (fS fP)))).trans (pA ((fC (fC (fC fP))).trans (pA ((fC (fC (fC fP))).trans (pA pR)))))) (lp (lp (lp (ln rfl))))) ?_; intro jg bl
   refine kO (kf (fS fO) (kf (fS fO) (kf (fS fO) kr))) ?_
   refine Aa ⟨undef, rfl, A4.refl _, [], by kernel_rfl, .inl (.inl rfl), nm, ?_⟩
   refine D1 (Af (uv (Ab Gq rfl) (uv (Ah isAgg68 rfl (Has.own 0 rfl) rfl) (um ?_))))
   obtain ⟨x5, dk, dm, gq⟩ := BY gp
   have dn := (Js.Dx bl).1
   refine Sk (fC (fC (fC fP))) bl dm ?_; intro jh dp dq ml mn mo dr bn bo dt du
   refine kO (kf (fS (fS (fS fO))) (kf (fS (fS (fS fO))) (kf (fS (fS (fS fO))) kr))) ?_
   obtain ⟨mq, mr, mu, ji, dv, dw, gr, rfl, jj, dx⟩ := Bd.at Jw bo (L := (ao, ce #[.slice (some ⟨ai, 0, none⟩) (Int.toNat (Ap.length : Int)) (Int.toNat (Ap.length : Int)), .slice aj ad ad] 70) :: ((b3, ce #[.slice none 0 0, .slice none 0 0] 70) :: ((b2, ce #[.int .i64 hour, .int .i64 GX] 95) :: (dp ++ (dr ++ (dq ++ (av ++ []))))))) (fC (fC (fC fP))) dk.1 bn
   refine uv (AT underlying68 sizeOf183 rfl dv rfl (Vn dn dk)) (uv (Ah isAgg183 rfl dw (dx 0 (by decide))) (um ?_))
   obtain ⟨l7, gu, gv⟩ := C3 gq
   refine V3 (ys := x3) (zs := l7) rfl PW (Ac _) rfl rfl (fun _ => .c (.c (.c (.s .h)))) dt (As.src ga) gu ?_; intro jk dy
   obtain ⟨out, gw, gz⟩ := C3 gv
   refine N4 (p := fun X => Js K.w0.heap.size 183 91 1 (iE .i64) ct aj ad ad out X) (Qk.VO du bo bn dy gw) (pT ((fC (fC (fC fP))).trans (pA ((fC (fC (fC fP))).trans (pA ((fC (fC (fC fP))).trans (pA pR)))))) (lp (lp (lp (ln rfl))))) ?_; intro dz e9
   refine kO (kf (fS fO) (kf (fS fO) (kf (fS fO) kr))) ?_
   refine Aa (At (id := 3) (Af ?_))
   refine uv (Bf rfl rfl (BI.Ed cf bg (As.lt ah))) ?_
   refine um (Aa ?_)
   subst fx; exact le (kc (kc (kc (kg (fS fP) kr)))) ⟨_, _, rfl, cx, out, dz, gz, rfl, rfl, z7, e9⟩
  obtain rfl := BI.zero cf bg
  rw [CF] at fa
  refine AW (Ae (Ae ?_))
  refine Au ?_
  obtain rfl := AH fa
  exact mi kr ⟨ay, rfl, rfl, z4, cg⟩
 rintro e1 _ _ ⟨cd, rfl, rfl, eb, ec⟩
 refine AB _ eb (Aq ?_)
 obtain ⟨x6, ef, eg, ia⟩ := BY j2
 have eh := (Js.Dx ec).1
 refine S2 (fC (fC (fC (fS fP)))) ec eg ?_; intro jl bp jm mv mw mx ei bq br ba ej
 refine kW (kf (fS (fS (fS fO))) (kf (fS (fS (fS fO))) (kf (fS (fS (fS fO))) kr))) (CM [(.still, 0), (.still, 1), (.still, 2), (.still, 3), (.still, 4), (.still, 5), (.still, 6), (.still, 7), (.still, 8), (.still, 9), (.seq, 10)] (by kernel_rfl) (by kernel_rfl) (trivial) (by rfl) (by kernel_rfl) (mS [7] rfl (Ab Gq rfl) (mL [59] ([(ao, ce #[.slice (some ⟨ai, 0, none⟩) (Int.toNat (Ap.length : Int)) (Int.toNat (Ap.length : Int)), .slice aj ad ad] 70)]) rfl (s0 (s2 (s1 (s1 (s3 (s3 (s3 (s3 sr)))))))) (fun H F' L' ar au => Ah isAgg68 rfl ((Has.own 0 rfl).ext ar au) rfl) (mS [4] rfl (Ab Ud rfl) (mL [61] ([(b2, ce #[.int .i64 hour, .int .i64 GX] 95)]) rfl (s0 (s1 (s1 (s2 (s3 (s3 (s3 (s3 sr)))))))) (fun H F' L' ar au => Ah isAgg3 rfl ((Has.own 0 rfl).ext ar au) rfl) ?_)))))
 obtain ⟨my, mz, na, jn, eo, ep, ib, rfl, jo, er⟩ := Bd.at Jw br (L := bp ++ []) fP ef.1 bq
 refine mS [60, 62] rfl (AT underlying68 sizeOf183 rfl eo rfl (Vn eh ef)) (mL [63] (bp ++ []) rfl (s0 (s1 (s1 (s1 (s4 (s3 (s3 (s3 sr)))))))) (fun H F' L' ar au => Ah isAgg183 rfl (ep.ext ar au) (er 0 (by decide))) (mS [4] rfl (Ab Uj rfl) (mL [65] ([(b2, ce #[.int .i64 hour, .int .i64 GX] 95)]) rfl (s0 (s1 (s1 (s2 (s3 (s3 (s3 (s3 sr)))))))) (fun H F' L' ar au => Ah isAgg3 rfl ((Has.own 0 rfl).ext ar au) rfl) (mS [2] rfl (BF rfl) ?_))))
 obtain ⟨x7, cn, et, ic⟩ := BY ia
 obtain ⟨ie, ig, nc, jq, bu, jr, ij, rfl, js, jt⟩ := Bd.at (Ac _) ba (L := ei ++ []) fP cn.1 et
 refine mS [64, 66] rfl (AT underlying183 sizeOf91 rfl bu rfl (Bd.idx ba cn)) ?_
 refine ⟨_, [(67, .int .i64 m), (68, .pointer (some ⟨ie, ig + (GX : Int).toNat * 1, none⟩))], rfl, rfl, z2, by kernel_rfl, ?_⟩; intro H
 obtain ⟨l8, ik, il⟩ := C3 ic
 refine G5 (u := m) sizeOf91 (Ac _) rfl bu rfl rfl (fun _ => .c (.c (.c (.s .h)))) ba ik cn ?_; intro ju eu
 refine Aa ⟨undef, rfl, A4.refl _, [], by kernel_rfl, .inl (.inl rfl), nm, ?_⟩
 refine D1 (AJ (uv (A1 isAgg70 sizeOf70 rfl (Has.own 0 rfl) (CB rfl) rfl) (BP (i := 1) sizeOf70 rfl rfl rfl (by simp [Value.oneCell']) rfl (CB rfl) (AI rfl ?_))))
 obtain ⟨cp, im, iq⟩ := C3 il
 refine N4 (p := fun X => Js K.w0.heap.size 183 91 1 (iE .i64) ct aj ad ad cp X) (Qk.VO ej br bq eu im) (pT ((fC (fC (fC fP))).trans (pA ((fC (fC (fC fP))).trans (pA ((fC (fC (fC fP))).trans (pA pR)))))) (lp (lp (lp (ln rfl))))) ?_; intro jv bw
 refine kO (kf (fS fO) (kf (fS fO) (kf (fS fO) kr))) (Aa ?_)
 obtain rfl := (Js.Dx bw).1
 refine Pm (Nat.le_refl _) (Ac _) (fC (fC (fC fP))) bw ?_; intro nf ew ir
 replace cc := cc.mono (Am (Ac _)) ew
 refine kW (kd (kc (kd kr))) (Aj (IH results86 (DI (cs := #[.slice (some ⟨ai, 0, none⟩) (Int.toNat (Ap.length : Int)) (Int.toNat (Ap.length : Int)), .slice aj cp.length cp.length]) isAgg70 sizeOf70 rfl (Has.own 0 rfl) (CB rfl) rfl) (s1 (s4 sr)) ?_))
 obtain ⟨rfl, rfl⟩ := DO iq
 exact ⟨_, _, _, _, _, _, rfl, rfl, cc.any, ir⟩
set_option maxHeartbeats 1000000 in
theorem RC (aa : As 1 (BC 1 (iE .i64)) F AL AO Ap) (ab : As 1 (BC 1 (iE .i64)) F Bh Bg hours) {r r2 : List (List Int)} (hr : I6 Ap hours hour GX m = some (r, r2, r3)) :
    SH.Spec Tryz.prog 29 #[.agg #[.slice AL Ap.length AO, .slice Bh hours.length Bg], .agg #[.int .i64 hour, .int .i64 GX], .int .i64 m] F [] fun F' L' v => ∃ (ra : Option Addr) (rn : Nat) (rc : Nat) (rL : LH) (ai : Option Addr) (aj : Nat), v = .tuple #[.agg #[.slice ra rn rc, .slice ai r2.length aj], .int .i64 r3] ∧ L' = rL ++ [] ∧ Bd 0 33 1 (BC 1 (iE .i64)) F' ra rn rc r rL ∧ As 1 (BC 1 (iE .i64)) F' ai aj r2 := by
 refine sp func29 ntmps29 fun K _ _ => ?_
 rw [I6] at hr
 refine AJ ?_
 refine BJ rfl rfl ?_; intro b1 bk
 refine BJ rfl rfl ?_; intro b2 bl
 refine Bw rfl zeroValue70 ?_; intro b3 bn
 refine ua (BU ?_)
 refine uv (A1 isAgg70 sizeOf70 rfl (Has.own 2 rfl) (CB rfl) rfl) ?_
 obtain ⟨n, h4, r5⟩ := AF hr
 refine cV call83 (Nd aa ab h4) ?_
 refine ua (Aa (Aq ?_))
 refine Ak ?_
 refine AJ (um ?_)
 refine uv (CI rfl rfl) ?_
 refine ua (Aa ?_)
 refine cQ (fun c6 => ?_) fun c6 => ?_
 ·have r7 := Bi r5 c6
  refine AJ ?_
  refine uv (BM (v := .agg #[.slice none 0 0, .slice none 0 0]) rfl (by intro w; kernel_rfl)) ?_
  refine um (BP (i := 0) sizeOf70 rfl rfl rfl (by simp [Value.oneCell']) rfl (CB rfl) (AI rfl ?_))
  refine ua (Aa ?_)
  refine kW (kc kn) ?_
  refine Aj (AD (Ai ?_))
  refine Dv results29 (DI (cs := #[.slice none 0 0, .slice none 0 0]) isAgg70 sizeOf70 rfl (Has.own 0 rfl) (CB rfl) rfl) (AY rfl) (s1 sr) ?_
  obtain ⟨rfl, rfl, rfl⟩ := H2 r7
  exact ⟨_, _, _, [], _, _, rfl, rfl, Bd.nil _ _ _ _ _, As.nil _ _ _⟩
 have r8 := Bk r5 c6
 refine AJ (uv (A1 isAgg70 sizeOf70 rfl (Has.own 2 rfl) (CB rfl) rfl) (uv (A1 isAgg95 sizeOf95 rfl (Has.own 1 rfl) (CB rfl) rfl) ?_))
 obtain ⟨ok, h9, ak⟩ := AF r8
 refine cV call84 (MV aa ab h9) (uv (BB rfl) ?_)
 refine ua (Aa ?_)
 refine AX rfl (fun ae => ?_) (fun ae => ?_)
 ·have ao := bt ak ae
  refine AJ ?_
  refine uv (BM (v := .agg #[.slice none 0 0, .slice none 0 0]) rfl (by intro w; kernel_rfl)) ?_
  refine BP (i := 0) sizeOf70 rfl rfl rfl (by simp [Value.oneCell']) rfl (CB rfl) (AI rfl ?_)
  refine ua (Aa ?_)
  refine kW (kc kn) ?_
  refine Aj (AD (Ai ?_))
  refine Dv results29 (DI (cs := #[.slice none 0 0, .slice none 0 0]) isAgg70 sizeOf70 rfl (Has.own 0 rfl) (CB rfl) rfl) (AY rfl) (s1 sr) ?_
  obtain ⟨rfl, rfl, rfl⟩ := H2 ao
  exact ⟨_, _, _, [], _, _, rfl, rfl, Bd.nil _ _ _ _ _, As.nil _ _ _⟩
 have aq := bf ak ae
 refine AJ (um ?_)
 obtain ⟨bo, ar, al⟩ := AF aq
 refine cV call85 (J3 ar) (uv (BB rfl) ?_)
 refine ua (Aa ?_)
 refine AX rfl (fun af => ?_) (fun af => ?_)
 ·have au := bt al af
  refine AJ ?_
  refine uv (BM (v := .agg #[.slice none 0 0, .slice none 0 0]) rfl (by intro w; kernel_rfl)) ?_
  refine BP (i := 0) sizeOf70 rfl rfl rfl (by simp [Value.oneCell']) rfl (CB rfl) (AI rfl ?_)
  refine ua (Aa ?_)
  refine kW (kc kn) ?_
  refine Aj (AD (Ai ?_))
  refine Dv results29 (DI (cs := #[.slice none 0 0, .slice none 0 0]) isAgg70 sizeOf70 rfl (Has.own 0 rfl) (CB rfl) rfl) (AY rfl) (s1 sr) ?_
  obtain ⟨rfl, rfl, rfl⟩ := H2 au
  exact ⟨_, _, _, [], _, _, rfl, rfl, Bd.nil _ _ _ _ _, As.nil _ _ _⟩
 have av := bf al af
 refine Al (At (id := 0) (AJ ?_))
 refine uv (A1 isAgg70 sizeOf70 rfl (Has.own 2 rfl) (CB rfl) rfl) (uv (A1 isAgg95 sizeOf95 rfl (Has.own 1 rfl) (CB rfl) rfl) (um ?_))
 obtain ⟨l, l2, aw, ax⟩ := DM av
 refine c0 call86 (NA aa ab aw) ?_; rintro _ bp _ ay ah ⟨az, ba, bb, bc, bd, bg, rfl, rfl, ad, bj⟩
 replace ad := ad.new fun p hp => ah p (by simp [hp])
 refine AI (lp (ln rfl)) (kO (kf (fS fO) (kf (fS fO) (kf (fS fO) kr))) (BP (i := 0) sizeOf70 rfl rfl rfl (by simp [Value.oneCell']) rfl (CB rfl) (AI rfl ?_)))
 refine ua (Aa ?_)
 refine kW (kc (kd (kd kr))) (Aj (Dv results29 (DI (cs := #[.slice az ba bb, .slice bd l2.length bg]) isAgg70 sizeOf70 rfl (Has.own 0 rfl) (CB rfl) rfl) (AY rfl) (s1 (s4 sr)) ?_))
 obtain ⟨rfl, rfl, rfl⟩ := H2 ax
 exact ⟨_, _, _, _, _, _, rfl, rfl, ad.any, bj⟩
set_option maxHeartbeats 1000000 in
theorem LI {bk : Option Addr} {bl : Nat} {numbers : List Int} {cd : Int} (cz : As 1 (iE .u8) F bk bl numbers) {r : Bool} (hr : Eu numbers cd = some r) :
    Bl Tryz.prog 4 #[.slice bk numbers.length bl, .int .u8 cd] F (.bool r) := by
 refine sp func4 ntmps4 fun K _ _ => ?_
 rw [Eu] at hr
 refine AJ (ua (BU (um ?_)))
 obtain ⟨metal, at_, GK, h1, r2⟩ := GR hr
 refine c0 call6 (QL cz h1) ?_; rintro _ F3 _ px py ⟨b7, a8, c9, rfl, rfl, oi⟩
 refine AI (lb (ln rfl)) ?_
 obtain ⟨l, l2, l3, eg, di, oj, oo⟩ := Rq r2
 refine cG call21 (OP oi oj) ?_; rintro _ j1 _ oq j2 j3 ⟨bz, cf, ca, ao, cb, cg, cc, aq, j4, j5, j6, ak, rfl, rfl, ai, al, aw⟩
 have eh := We (Lb' := [(b7, ce #[.slice a8 metal.length c9, .int .i64 eg, .int .u32 di] 137)]) (by rfl) j2 j3
 replace ai := ai.new fun p hp => eh p (by simp [hp])
 replace al := al.new fun p hp => eh p (by simp [hp])
 replace aw := aw.new fun p hp => eh p (by simp [hp])
 refine AI (lb (lp (lp (lp (ln rfl))))) ?_
 refine um (ox rfl rfl rfl (ox rfl rfl rfl ?_))
 refine Bw rfl zeroValue70 ?_; intro bb ot
 refine BP (i := 0) sizeOf70 rfl rfl rfl (by simp [Value.oneCell']) rfl (CB rfl) (AI rfl ?_)
 refine ua (BU (ua (BU ?_)))
 refine bA (cs := #[.int .i64 5]) Ct [.int .i64 5] ?_; intro ax j7
 refine uv (BM (v := .agg #[.slice none 0 0, .int .i64 0, .slice none 0 0, .slice none 0 0, .slice (some ⟨ax, 0, none⟩) 1 1]) rfl (by intro w; kernel_rfl)) ?_
 refine Bw rfl zeroValue82 ?_; intro av ou
 have ab : Bd K.w0.heap.size 3 1 (iE .i64) j1 (some ⟨ax, 0, none⟩) 1 1 [5] [(ax, ce #[.int .i64 5] 3)] := Bd.BW (vss := [[.int .i64 5]]) (Ac _) j7 (.cons rfl .nil) rfl rfl (by simp [maxLen])
 generalize ei : ([(ax, ce #[.int .i64 5] 3)] : LH) = af at ab
 refine B2 (L' := af ++ ((av, ce #[.slice none 0 0, .int .i64 0, .slice none 0 0, .slice none 0 0, .slice none 0 0] 82) :: ((bb, ce #[.slice bz cf ca, .slice cb cg cc] 70) :: ((b7, ce #[.slice a8 metal.length c9, .int .i64 eg, .int .u32 di] 137) :: (ao ++ (aq ++ (ak ++ []))))))) (by rw [← ei]; exact (fC fO)) ?_
 refine B2 (L' := (av, ce #[.slice none 0 0, .int .i64 0, .slice none 0 0, .slice none 0 0, .slice none 0 0] 82) :: ((bb, ce #[.slice bz cf ca, .slice cb cg cc] 70) :: ((b7, ce #[.slice a8 metal.length c9, .int .i64 eg, .int .u32 di] 137) :: (af ++ (ao ++ (aq ++ (ak ++ []))))))) (List.Perm.symm (fC (fC (fC fP)))) (BP (i := 0) sizeOf82 rfl rfl rfl (by simp [Value.oneCell']) rfl (CB rfl) (AI rfl ?_))
 refine BU (ua (Aa ?_))
 obtain ⟨bn, found, ow, nt⟩ := DM oo
 refine A5 (fun e1 F1 L1 => ∃ (bo : Option Addr) (bp : Nat) (bq : Nat) (ah : LH) (dr : Option Addr) (ej : Nat) (dt : Nat) (da : LH), j1 = F1 ∧ L1 = ((av, ce #[.slice bo bp bq, .int .i64 0, .slice none 0 0, .slice none 0 0, .slice (some ⟨ax, 0, none⟩) 1 1] 82) :: ((bb, ce #[.slice bz cf ca, .slice cb cg cc] 70) :: (ao ++ (aq ++ (ak ++ (ah ++ (af ++ (da ++ [])))))))) ∧ e1.sub [(1, .int .u8 cd), (5, .pointer (some ⟨bb, 0, none⟩)), (6, .slice j4 j5 j6), (7, .func (.func 22) #[] #[]), (8, .pointer (some ⟨av, 0, none⟩)), (9, .slice dr ej dt)] ∧ Bd K.w0.heap.size 3 1 (iE .i64) F1 bo bp bq bn ah ∧ Bd K.w0.heap.size 3 1 (iE .i64) F1 dr ej dt found da) ?_ ?_
 ·clear nt
  refine AJ (uv (Ab FA rfl) (uv (Ah isAgg36 rfl (Has.own 1 rfl) rfl) (uv ((A2 underlying36 rfl).i (Bd.KW ai)) ?_)))
  refine um (Aa ?_)
  refine Ak (kW (kc (kc (kd kr))) ?_)
  refine Br (fun nu e1 F1 L1 => LA l nu fun tl k => ∃ (aj : List Int) (Cs : List Int) (dy : Option Addr) (dz : Nat) (e9 : Nat) (dk : LH) (fb : Option Addr) (fe : Nat) (ff : Nat) (db : LH), Cl l3 tl k aj Cs = some (bn, found) ∧ j1 = F1 ∧ L1 = ((av, ce #[.slice dy dz e9, .int .i64 0, .slice none 0 0, .slice none 0 0, .slice (some ⟨ax, 0, none⟩) 1 1] 82) :: ((bb, ce #[.slice bz cf ca, .slice cb cg cc] 70) :: (ao ++ (aq ++ (ak ++ (dk ++ (af ++ (db ++ [])))))))) ∧ e1.sub [(1, .int .u8 cd), (5, .pointer (some ⟨bb, 0, none⟩)), (6, .slice j4 j5 j6), (7, .func (.func 22) #[] #[]), (8, .pointer (some ⟨av, 0, none⟩)), (9, .slice fb fe ff), (41, .int .i64 (l.length : Int)), (42, .int .i64 k)] ∧ Bd K.w0.heap.size 3 1 (iE .i64) F1 dy dz e9 aj dk ∧ Bd K.w0.heap.size 3 1 (iE .i64) F1 fb fe ff Cs db) _ (m0 (kc (kc (kg (fS fP) (kg (fS fP) (kg (fS fP) (ke (ka (ke kr)))))))) ⟨_, _, rfl, BI.start _, [], [], none, 0, 0, [], none, 0, 0, [], ow, rfl, rfl, z8, Bd.nil _ _ _ _ _, Bd.nil _ _ _ _ _⟩) ?_
  rintro nu e1 _ _ ⟨tl, k, j8, eo, aj, Cs, dy, dz, e9, dk, fb, fe, ff, db, iy, rfl, rfl, j9, fg, fh⟩
  refine AB _ j9 (AJ (uv (Bp rfl rfl) ?_))
  refine Aa (Aq ?_)
  refine cQ (fun iz => ?_) fun iz => ?_
  ·obtain ⟨x, pz, rfl, oy, q0, ja⟩ := BI.succ eo iz
   rw [Cl] at iy
   refine Al (Aq ?_)
   refine Ak ?_
   refine AJ (um (ua (Aa ?_)))
   obtain ⟨x2, nv, jb, oz⟩ := BY iy
   refine CM [(.still, 0), (.still, 1), (.still, 2), (.still, 3), (.pre, 4), (.still, 6), (.still, 7), (.still, 8), (.still, 9), (.still, 10), (.still, 11), (.still, 12), (.pre, 13), (.alloc (ce #[.int .i64 (1 + k)] 3) (fun b => .slice (some ⟨b, 0, none⟩) 1 1) [(48, .int .i64 (1 + k))], 4), (.seq, 5), (.still, 15), (.alloc (ce #[.int .i64 (Fa (shr x2 k) 1)] 3) (fun b => .slice (some ⟨b, 0, none⟩) 1 1) [(57, .int .i64 (Fa (shr x2 k) 1))], 13), (.seq, 14), (.seq, 16), (.seq, 17)] (by kernel_rfl) (by kernel_rfl) (⟨⟨_, _, rfl, rfl, rfl, rfl, rfl, Qf rfl (G3 Ct [.int .i64 (1 + k)] rfl (by decide) (by simp [Value.cells]) (by decide))⟩, ⟨⟨_, _, rfl, rfl, rfl, rfl, rfl, Qf rfl (G3 Ct [.int .i64 (Fa (shr x2 k) 1)] rfl (by decide) (by simp [Value.cells]) (by decide))⟩, trivial⟩⟩) (by rfl) (by kernel_rfl) (mS [8] rfl (Ab MN rfl) (mL [45] ([(av, ce #[.slice dy dz e9, .int .i64 0, .slice none 0 0, .slice none 0 0, .slice (some ⟨ax, 0, none⟩) 1 1] 82)]) rfl (s0 (s2 (s1 (s3 (s3 (s3 (s3 (s3 (s3 sr))))))))) (fun H F' L' jc jd => Ah isAgg33 rfl ((Has.own 0 rfl).ext jc jd) rfl) (mS [10] rfl (BF rfl) ?_)))
   obtain ⟨p0, p3⟩ := A0 oz
   refine mS (v := .int .i64 (1 + k)) [47] rfl (Bf rfl rfl p0) ?_
   refine ⟨⟨_, rfl, z1, by kernel_rfl⟩, ?_⟩
   refine mS [9] rfl (BF rfl) (mS [6] rfl (BF rfl) ?_)
   obtain ⟨qb, qc, qd, p4, je, jf, nw, rfl, p5, jg⟩ := Bd.at (Ac _) aw (L := ak ++ []) fP nv.1 jb
   refine mS [52] rfl (AT underlying33 sizeOf3 rfl je rfl (Bd.idx aw nv)) (mL [53] (ak ++ []) rfl (s0 (s1 (s1 (s3 (s3 (s4 (s3 (s3 (s3 sr))))))))) (fun H F' L' jc jd => Ah isAgg3 rfl (jf.ext jc jd) (jg 0 (by decide))) (mS [10] rfl (BF rfl) ?_))
   obtain ⟨p6, p7⟩ := A0 p3
   refine mS (v := .int .i64 (shr x2 k)) [54, 55] rfl (Jh rfl rfl p6) (mS (v := .int .i64 (Fa (shr x2 k) 1)) [56] rfl (KB rfl rfl) ?_)
   refine ⟨⟨_, rfl, z1, by kernel_rfl⟩, ?_⟩
   refine Sb rfl ?_; intro ny p8
   refine Rj (L' := (ny, ce #[.int .i64 (1 + k)] 3) :: ((av, ce #[.slice dy dz e9, .int .i64 0, .slice none 0 0, .slice none 0 0, .slice (some ⟨ax, 0, none⟩) 1 1] 82) :: ((bb, ce #[.slice bz cf ca, .slice cb cg cc] 70) :: (ao ++ (aq ++ (ak ++ (dk ++ (af ++ (db ++ []))))))))) rfl ?_
   refine ⟨_, [(46, .slice dy dz e9), (49, .slice (some ⟨ny, 0, none⟩) 1 1)], rfl, rfl, z2, by kernel_rfl, ?_⟩; intro H
   obtain ⟨l4, p9, pa, pb⟩ := Gp p7
   refine Ey (xs := aj) (ys := [1 + k]) (zs := l4) rfl Ct rfl rfl (Nat.le_refl _) (fun _ => .c (.c (.c (.s (.s (.s .h)))))) fg (GJ.box (vss := [[.int .i64 (1 + k)]]) (ys := [1 + k]) 0 rfl (Ac _) (.cons rfl .nil) rfl rfl) p9 pa (by decide) ?_; intro nz fi o2 fj fk
   refine kO (kd kr) ?_
   refine Aa ⟨_, rfl, A4.refl _, [12, 11, 10, 9, 8, 7, 6], by kernel_rfl, .inl (.inr (fun d h => by cases h; rfl)), (fc sm (fc sm (fc sm (fc (s0 (s1 (s1 (s3 (s3 (s4 (s3 (s3 (s3 sr))))))))) (fc sm (fc sm (fc sm nm))))))), ?_⟩
   refine mS [8] rfl (Ab MN rfl) ?_
   refine Sb rfl ?_; intro fl o3
   refine Rj (L' := (fl, ce #[.int .i64 (Fa (shr x2 k) 1)] 3) :: ((av, ce #[.slice dy dz e9, .int .i64 0, .slice none 0 0, .slice none 0 0, .slice (some ⟨ax, 0, none⟩) 1 1] 82) :: ((bb, ce #[.slice bz cf ca, .slice cb cg cc] 70) :: (ao ++ (aq ++ (ak ++ (fj ++ (af ++ (db ++ []))))))))) rfl ?_
   refine ⟨_, [(51, .slice fb fe ff), (58, .slice (some ⟨fl, 0, none⟩) 1 1)], rfl, rfl, z2, by kernel_rfl, ?_⟩; intro H
   obtain ⟨l5, jh, ji, jj⟩ := Gp pb
   refine Ey (xs := Cs) (ys := [Fa (shr x2 k) 1]) (zs := l5) rfl Ct rfl rfl (Nat.le_refl _) (fun _ => .c (.c (.c (.s (.s (.s (.s (.s .h)))))))) fh (GJ.box (vss := [[.int .i64 (Fa (shr x2 k) 1)]]) (ys := [Fa (shr x2 k) 1]) 0 rfl (Ac _) (.cons rfl .nil) rfl rfl) jh ji (by decide) ?_; intro fm fp fq ft fv
   refine kO (kd kr) ?_
   refine Aa ⟨_, rfl, A4.refl _, [15, 7], by kernel_rfl, .inl (.inr (fun d h => by cases h; rfl)), (fc sm (fc sm nm)), ?_⟩
   refine ⟨_, [(50, .slice nz fi o2), (60, .pointer (some ⟨av, 0, none⟩))], rfl, rfl, z2, by kernel_rfl, ?_⟩; intro H
   refine B4 (i := 0) sizeOf33 rfl rfl rfl rfl (CB rfl) (AI rfl ?_)
   refine Aa ⟨undef, rfl, A4.refl _, [7], by kernel_rfl, .inl (.inr (fun d h => by cases h)), (fc sm nm), ?_⟩
   refine ⟨_, [(59, .slice fm fp fq)], rfl, rfl, z1, by kernel_rfl, ?_⟩; intro H
   refine ua ?_
   refine Aa ⟨_, rfl, A4.refl _, [], by kernel_rfl, .inl (.inl rfl), nm, ?_⟩
   refine D1 ?_
   refine At (id := 1) (Af ?_)
   refine uv (Bf rfl rfl (BI.Ed eo iz (Bd.UW ai))) ?_
   refine um (Aa ?_)
   subst j8; exact le kr ⟨_, _, rfl, ja, l4, l5, nz, fi, o2, fj, fm, fp, fq, ft, jj, rfl, rfl, z8, fk, fv⟩
  obtain rfl := BI.zero eo iz
  rw [Cl] at iy
  refine AW (Ae (Ae ?_))
  refine Au ?_
  obtain ⟨rfl, rfl⟩ := DO iy
  exact mi kr ⟨dy, dz, e9, dk, fb, fe, ff, db, rfl, rfl, z6, fg, fh⟩
 rintro e1 _ _ ⟨bo, bp, bq, ah, dr, ej, dt, da, rfl, rfl, fw, ad, dd⟩
 refine AB _ fw ?_
 refine AJ (um ?_)
 refine uv (A1 isAgg70 sizeOf70 rfl (Has.own 1 rfl) (CB rfl) rfl) ?_
 obtain ⟨l6, ok, jk, fx⟩ := DM nt
 refine J7 (Lb := []) (Lt := ao ++ (aq ++ [])) (Lr := (av, ce #[.slice bo bp bq, .int .i64 0, .slice none 0 0, .slice none 0 0, .slice (some ⟨ax, 0, none⟩) 1 1] 82) :: ((bb, ce #[.slice bz cf ca, .slice cb cg cc] 70) :: (ak ++ (ah ++ (af ++ (da ++ [])))))) rfl call22 rfl rfl rfl (pT ((fC (fC fP)).trans (pA ((fC (fC fP)).trans (pA pR)))) (ln (lp (lp (ln rfl))))) (fun F2 h2 h3 => by rw [(Bd.Dx ai).1]; rw [(Bd.Dx al).1]; exact HL (ai.row (Am (Ac _)) h2 (fun p hp => h3 p (List.mem_append_left _ hp))) (al.row (Am (Ac _)) h2 (fun p hp => h3 p (List.mem_append_right _ (List.mem_append_left _ hp)))) jk) (fun _ _ _ _ hq => by obtain ⟨de, ep, df, fy, rfl, rfl, br⟩ := hq; exact ⟨_, _, _, _, rfl, rfl, br.flat (fun _ _ h => h)⟩) ?_; rintro _ pc _ bu g0 ga ⟨de, ep, df, fy, rfl, rfl, br⟩
 replace ai := ai.mono (Am (Ac _)) bu
 replace al := al.mono (Am (Ac _)) bu
 replace aw := aw.mono (Ac _) bu
 replace ad := ad.mono (Ac _) bu
 replace ab := ab.mono (Ac _) bu
 replace dd := dd.mono (Ac _) bu
 have gb := We (Lb' := []) (by rfl) g0 ga
 replace br := br.new fun p hp => gb p (by simp [hp])
 refine AI (lp (ln (lp (lp (ln rfl))))) (kO (kf (fS (fS (fS fO))) (kf (fS (fS (fS fO))) kr)) ?_)
 refine um (ox rfl rfl rfl (ox rfl rfl rfl (ua (ua (BU (um ?_))))))
 refine bA (cs := #[.slice de ep df]) LF [.slice de ep df] ?_; intro au gg
 refine um ?_
 refine bA (cs := #[.slice dr ej dt]) LF [.slice dr ej dt] ?_; intro ar gh
 refine uv (Ab Jd rfl) ?_
 obtain rfl := (Bd.Dx br).1
 refine DF (Nat.le_refl _) (Ac _) (fC (fC (fC (fC fP)))) br ?_; intro jl bw dg
 replace ai := ai.mono (Am (Ac _)) bw
 replace al := al.mono (Am (Ac _)) bw
 replace aw := aw.mono (Ac _) bw
 replace ad := ad.mono (Ac _) bw
 replace ab := ab.mono (Ac _) bw
 replace dd := dd.mono (Ac _) bw
 have ay : Bd K.w0.heap.size 33 1 (BC 1 (iE .i64)) jl (some ⟨au, 0, none⟩) 1 1 [l6] [(au, ce #[.slice de l6.length df] 33)] := Bd.BW (vss := [[.slice de l6.length df]]) (Am (Ac _)) gg (.cons ⟨_, _, rfl, dg⟩ .nil) rfl rfl (by simp [maxLen])
 generalize du : ([(au, ce #[.slice de l6.length df] 33)] : LH) = ae at ay
 refine B2 (L' := ae ++ ((ar, ce #[.slice dr ej dt] 33) :: ((av, ce #[.slice bo bp bq, .int .i64 0, .slice none 0 0, .slice none 0 0, .slice (some ⟨ax, 0, none⟩) 1 1] 82) :: ((bb, ce #[.slice bz cf ca, .slice cb cg cc] 70) :: (ao ++ (aq ++ (ak ++ (ah ++ (af ++ (da ++ [])))))))))) (by rw [← du]; exact (fC fO)) ?_
 refine B2 (L' := (ar, ce #[.slice dr ej dt] 33) :: ((av, ce #[.slice bo bp bq, .int .i64 0, .slice none 0 0, .slice none 0 0, .slice (some ⟨ax, 0, none⟩) 1 1] 82) :: ((bb, ce #[.slice bz cf ca, .slice cb cg cc] 70) :: (ae ++ (ao ++ (aq ++ (ak ++ (ah ++ (af ++ (da ++ [])))))))))) (List.Perm.symm (fC (fC (fC fP)))) (B4 (i := 1) sizeOf36 rfl rfl rfl rfl (CB rfl) (AI rfl (uv (Ab LP rfl) ?_)))
 obtain rfl := (Bd.Dx dd).1
 refine DF (Nat.le_refl _) (Ac _) (fC (fC (fC (fS (fS (fS (fS (fS (fS fP))))))))) dd ?_; intro jm az jn
 replace dg := dg.mono (Ac _) az
 replace ai := ai.mono (Am (Ac _)) az
 replace al := al.mono (Am (Ac _)) az
 replace aw := aw.mono (Ac _) az
 replace ad := ad.mono (Ac _) az
 replace ab := ab.mono (Ac _) az
 replace ay := ay.mono (Am (Ac _)) az
 have aa : Bd K.w0.heap.size 33 1 (BC 1 (iE .i64)) jm (some ⟨ar, 0, none⟩) 1 1 [found] [(ar, ce #[.slice dr found.length dt] 33)] := Bd.BW (vss := [[.slice dr found.length dt]]) (Am (Ac _)) gh (.cons ⟨_, _, rfl, jn⟩ .nil) rfl rfl (by simp [maxLen])
 generalize dv : ([(ar, ce #[.slice dr found.length dt] 33)] : LH) = Lb138 at aa
 refine B2 (L' := Lb138 ++ ((av, ce #[.slice bo bp bq, .int .i64 0, .slice (some ⟨au, 0, none⟩) 1 1, .slice none 0 0, .slice (some ⟨ax, 0, none⟩) 1 1] 82) :: ((bb, ce #[.slice bz cf ca, .slice cb cg cc] 70) :: (ae ++ (ao ++ (aq ++ (ak ++ (ah ++ (af ++ []))))))))) (by rw [← dv]; exact fO) ?_
 refine B2 (L' := (av, ce #[.slice bo bp bq, .int .i64 0, .slice (some ⟨au, 0, none⟩) 1 1, .slice none 0 0, .slice (some ⟨ax, 0, none⟩) 1 1] 82) :: ((bb, ce #[.slice bz cf ca, .slice cb cg cc] 70) :: (Lb138 ++ (ae ++ (ao ++ (aq ++ (ak ++ (ah ++ (af ++ []))))))))) (List.Perm.symm (fC (fC fP))) (B4 (i := 0) sizeOf36 rfl rfl rfl rfl (CB rfl) (AI rfl ?_))
 refine Aa (Aq (AJ (um ?_)))
 refine uv (BB rfl) (Aa ?_)
 refine AX rfl (fun er => ?_) (fun er => ?_)
 ·have jo := bt fx er
  refine AJ (ua (Aa ?_))
  refine kW kn ?_
  refine Aj (Ai ?_)
  refine BZ results4 ?_
  obtain rfl := AH jo
  exact rfl
 have jq := bf fx er
 refine Al (AJ ?_)
 refine uv (A1 isAgg82 sizeOf82 rfl (Has.own 0 rfl) (CB rfl) rfl) ?_
 obtain ⟨n, n2, pd, n3, jr, js⟩ := Ng jq
 refine JK (Lt := ah ++ (ae ++ (Lb138 ++ (af ++ [])))) (Lr := (av, ce #[.slice bo bp bq, .int .i64 0, .slice (some ⟨au, 0, none⟩) 1 1, .slice (some ⟨ar, 0, none⟩) 1 1, .slice (some ⟨ax, 0, none⟩) 1 1] 82) :: ((bb, ce #[.slice bz cf ca, .slice cb cg cc] 70) :: (ao ++ (aq ++ (ak ++ []))))) rfl call24 rfl rfl rfl (pT ((fC (fC (fS (fS (fS (fS (fS fP))))))).trans (pA ((fC (fC (fS fP))).trans (pA ((fC (fC fP)).trans (pA ((fC (fC (fS (fS (fS fP))))).trans (pA pR)))))))) (lp (lp (lp (lp (ln rfl)))))) (fun F2 h2 h3 => by have h0 := NQ (ad.row (Ac _) h2 (fun p hp => h3 p (List.mem_append_left _ hp))) (ay.row (Am (Ac _)) h2 (fun p hp => h3 p (List.mem_append_right _ (List.mem_append_left _ hp)))) (aa.row (Am (Ac _)) h2 (fun p hp => h3 p (List.mem_append_right _ (List.mem_append_right _ (List.mem_append_left _ hp))))) (ab.row (Ac _) h2 (fun p hp => h3 p (List.mem_append_right _ (List.mem_append_right _ (List.mem_append_right _ (List.mem_append_left _ hp)))))) jr; rw [← (Bd.Dx ad).1] at h0; rw [← (Bd.Dx ay).1] at h0; rw [← (Bd.Dx aa).1] at h0; rw [← (Bd.Dx ab).1] at h0; exact h0) ?_
 refine um (ox rfl rfl rfl (ox rfl rfl rfl (ox rfl rfl rfl (ox rfl rfl rfl (ua (ua (ua (ua (BU ?_)))))))))
 refine uv (A1 isAgg82 sizeOf82 rfl (Has.own 0 rfl) (CB rfl) rfl) ?_
 obtain ⟨l7, n4, n5, jt, ju⟩ := GR js
 refine J7 (Lb := []) (Lt := ah ++ (ae ++ (Lb138 ++ (af ++ [])))) (Lr := (av, ce #[.slice bo bp bq, .int .i64 0, .slice (some ⟨au, 0, none⟩) 1 1, .slice (some ⟨ar, 0, none⟩) 1 1, .slice (some ⟨ax, 0, none⟩) 1 1] 82) :: ((bb, ce #[.slice bz cf ca, .slice cb cg cc] 70) :: (ao ++ (aq ++ (ak ++ []))))) rfl call25 rfl rfl rfl (pT ((fC (fC (fS (fS (fS (fS (fS fP))))))).trans (pA ((fC (fC (fS fP))).trans (pA ((fC (fC fP)).trans (pA ((fC (fC (fS (fS (fS fP))))).trans (pA pR)))))))) (ln (lp (lp (lp (lp (ln rfl))))))) (fun F2 h2 h3 => by have h0 := Pd (ad.row (Ac _) h2 (fun p hp => h3 p (List.mem_append_left _ hp))) (ay.row (Am (Ac _)) h2 (fun p hp => h3 p (List.mem_append_right _ (List.mem_append_left _ hp)))) (aa.row (Am (Ac _)) h2 (fun p hp => h3 p (List.mem_append_right _ (List.mem_append_right _ (List.mem_append_left _ hp))))) (ab.row (Ac _) h2 (fun p hp => h3 p (List.mem_append_right _ (List.mem_append_right _ (List.mem_append_right _ (List.mem_append_left _ hp)))))) jt; rw [← (Bd.Dx ad).1] at h0; rw [← (Bd.Dx ay).1] at h0; rw [← (Bd.Dx aa).1] at h0; rw [← (Bd.Dx ab).1] at h0; exact h0) (fun _ _ _ _ hq => by obtain ⟨jv, jw, jx, gi, rfl, rfl, eb⟩ := hq; exact ⟨_, _, _, _, rfl, rfl, eb.flat (fun _ _ h => h)⟩) ?_; rintro _ jz _ ba o4 o7 ⟨jv, jw, jx, gi, rfl, rfl, eb⟩
 replace dg := dg.mono (Ac _) ba
 replace ai := ai.mono (Am (Ac _)) ba
 replace al := al.mono (Am (Ac _)) ba
 replace aw := aw.mono (Ac _) ba
 replace ad := ad.mono (Ac _) ba
 replace ab := ab.mono (Ac _) ba
 replace aa := aa.mono (Am (Ac _)) ba
 refine AI (lp (ln (lp (lp (lp (lp (ln rfl))))))) (kO (kf (fS (fS (fS (fS (fS fO))))) (kf (fS (fS (fS (fS (fS fO))))) kr)) ?_)
 refine um (ox rfl rfl rfl (ox rfl rfl rfl (ox rfl rfl rfl (ua (ua (ua (BU (um ?_))))))))
 have gj : Gk Tryz.prog jz 27 #[] #[] (iE .i64) Value.bool (fun o8 : Int => Dm o8) := ⟨call27, fun F2 h2 vs o8 r ha hr => by obtain rfl := ha; exact KN hr⟩
 obtain ⟨pe, k7, k8⟩ := AF ju
 refine cV call26 (Dw dg gj k7) ?_
 refine ua (Aa (Aq ?_))
 obtain ⟨k2, gk, et⟩ := AF k8
 refine jE (((av, ce #[.slice bo bp bq, .int .i64 0, .slice (some ⟨au, 0, none⟩) 1 1, .slice (some ⟨ar, 0, none⟩) 1 1, .slice (some ⟨ax, 0, none⟩) 1 1] 82) :: ((bb, ce #[.slice bz cf ca, .slice cb cg cc] 70) :: (ao ++ (aq ++ (ak ++ (ah ++ (ae ++ (Lb138 ++ (af ++ [])))))))))) [(1, .int .u8 cd), (5, .pointer (some ⟨bb, 0, none⟩)), (6, .slice j4 j5 j6), (7, .func (.func 22) #[] #[]), (8, .pointer (some ⟨av, 0, none⟩)), (13, .int .i64 n), (18, .int .i64 n4), (110, .bool k2)] ?_ ?_
 ·clear et
  refine Af (um ?_)
  refine uv (CI rfl rfl) (um ?_)
  by_cases cj : n3 ≠ 0
  ·have k9 := Bi gk cj
   refine fT cj (fT cj ?_)
   refine uv (AS (Bq rfl cj) rfl) ?_
   refine um (Ay (b' := true) 97 rfl rfl rfl rfl (Ay (b' := true) 97 rfl rfl rfl rfl ?_))
   refine uv (AS rfl rfl) ?_
   refine um (Ay (b' := true) 101 rfl rfl rfl rfl (Ay (b' := true) 101 rfl rfl rfl rfl (Ay (b' := true) 101 rfl rfl rfl rfl ?_)))
   refine uv (AS rfl rfl) ?_
   refine um (Ay (b' := true) 106 rfl rfl rfl rfl (Ay (b' := true) 106 rfl rfl rfl rfl (Ay (b' := true) 106 rfl rfl rfl rfl ?_)))
   refine uv (AS rfl rfl) (Aa ?_)
   obtain rfl := AH k9
   exact mi (kc (kc (kx (kg (fS (fS (fS (fS fP)))) (kg (fS (fS (fS (fS fP)))) (kg (fS (fS (fS (fS fP)))) kr)))))) ⟨rfl, rfl, z8⟩
  have gl := Bk gk cj
  refine nF cj (um (nF cj ?_))
  refine uv (CI rfl rfl) (uv (AE (Bc rfl cj) rfl) (um ?_))
  by_cases ck : n5 ≠ 0
  ·have kb := Bi gl ck
   refine fT ck (fT ck ?_)
   refine uv (AS (Bq rfl ck) rfl) ?_
   refine um (Ay (b' := true) 101 rfl rfl rfl rfl (Ay (b' := true) 101 rfl rfl rfl rfl (Ay (b' := true) 101 rfl rfl rfl rfl ?_)))
   refine uv (AS rfl rfl) ?_
   refine um (Ay (b' := true) 106 rfl rfl rfl rfl (Ay (b' := true) 106 rfl rfl rfl rfl (Ay (b' := true) 106 rfl rfl rfl rfl ?_)))
   refine uv (AS rfl rfl) (Aa ?_)
   obtain rfl := AH kb
   exact mi (kc (kc (kx (kg (fS (fS (fS (fS fP)))) (kg (fS (fS (fS (fS fP)))) (kg (fS (fS (fS (fS fP)))) kr)))))) ⟨rfl, rfl, z8⟩
  have gm := Bk gl ck
  refine nF ck (um (nF ck ?_))
  refine uv (CI rfl rfl) (uv (AE (Bc rfl ck) rfl) (um ?_))
  by_cases bc : n2 ≠ 0
  ·have kh := Bi gm bc
   refine fT bc (fT bc (fT bc ?_))
   refine uv (AS (Bq rfl bc) rfl) ?_
   refine um (Ay (b' := true) 106 rfl rfl rfl rfl (Ay (b' := true) 106 rfl rfl rfl rfl (Ay (b' := true) 106 rfl rfl rfl rfl ?_)))
   refine uv (AS rfl rfl) (Aa ?_)
   obtain rfl := AH kh
   exact mi (kc (kc (kx (kg (fS (fS (fS (fS fP)))) (kg (fS (fS (fS (fS fP)))) (kg (fS (fS (fS (fS fP)))) kr)))))) ⟨rfl, rfl, z8⟩
  have gn := Bk gm bc
  refine nF bc (um (nF bc (um (nF bc ?_))))
  refine uv (Xg underlying4 rfl rfl) (uv (AE (Bc rfl bc) rfl) (um ?_))
  by_cases bd : pd ≠ pe
  ·have kj := Bi gn bd
   refine fT bd (fT bd (fT bd ?_))
   refine uv (AS (Bq rfl bd) rfl) (Aa ?_)
   obtain rfl := AH kj
   exact mi (kc (kc (kx (kg (fS (fS (fS (fS fP)))) (kg (fS (fS (fS (fS fP)))) (kg (fS (fS (fS (fS fP)))) kr)))))) ⟨rfl, rfl, z8⟩
  have kl := Bk gn bd
  refine nF bd (um (nF bd (um (nF bd ?_))))
  refine uv (CI rfl rfl) (uv (AE (Bc rfl bd) rfl) (Aa ?_))
  obtain rfl := AH kl
  exact mi (kc (kc (kx (kg (fS (fS (fS (fS fP)))) (kg (fS (fS (fS (fS fP)))) (kg (fS (fS (fS (fS fP)))) kr)))))) ⟨rfl, rfl, z8⟩
 refine AX rfl (fun eu => ?_) (fun eu => ?_)
 ·have km := bt et eu
  refine AJ (ua (Aa ?_))
  refine kW kn ?_
  refine Aj (Ai ?_)
  refine BZ results4 ?_
  obtain rfl := AH km
  exact rfl
 have ko := bf et eu
 refine Al (AJ (um ?_))
 obtain ⟨kt, ku⟩ := A0 ko
 refine uv (Tv underlying5 underlying3 rfl kt) (uv (Ab FA rfl) (uv (Ah isAgg36 rfl (Has.own 1 rfl) rfl) (uv ((A2 underlying36 rfl).i (Bd.KW ai)) ?_)))
 obtain ⟨kv, kz⟩ := A0 ku
 refine uv (RZ rfl rfl kv) ?_
 obtain ⟨GX, l0, ld⟩ := C3 kz
 refine uv ((Ji rfl).i l0) (dN (wv (A1 isAgg70 sizeOf70 rfl (Has.own 1 rfl) (CB rfl) rfl) (wm ?_)))
 obtain ⟨x3, gp, gq, lg⟩ := BY ld
 obtain ⟨pf, pg, ph, o9, gr, gu, lh, rfl, oc, gv⟩ := Bd.at (Ac _) aw (L := (av, ce #[.slice bo bp bq, .int .i64 0, .slice (some ⟨au, 0, none⟩) 1 1, .slice (some ⟨ar, 0, none⟩) 1 1, .slice (some ⟨ax, 0, none⟩) 1 1] 82) :: ((bb, ce #[.slice bz cf ca, .slice cb cg cc] 70) :: (ao ++ (aq ++ (ak ++ (ah ++ (ae ++ (Lb138 ++ (af ++ []))))))))) (fC (fC (fS (fS fP)))) gp.1 gq
 refine wv (AT underlying33 sizeOf3 rfl gr rfl (Bd.idx aw gp)) (wv (Ah isAgg3 rfl gu (gv 0 (by decide))) ?_)
 obtain ⟨n6, n7, lj, lk⟩ := DM lg
 refine UJ (Lt := ao ++ (aq ++ [])) (Lr := (av, ce #[.slice bo bp bq, .int .i64 0, .slice (some ⟨au, 0, none⟩) 1 1, .slice (some ⟨ar, 0, none⟩) 1 1, .slice (some ⟨ax, 0, none⟩) 1 1] 82) :: ((bb, ce #[.slice bz cf ca, .slice cb cg cc] 70) :: (ak ++ (ah ++ (ae ++ (Lb138 ++ (af ++ []))))))) rfl call28 rfl rfl rfl (pT ((fC (fC fP)).trans (pA ((fC (fC fP)).trans (pA pR)))) (lp (lp (ln rfl)))) (fun F2 h2 h3 => by rw [(Bd.Dx ai).1]; rw [(Bd.Dx al).1]; exact QV (ai.row (Am (Ac _)) h2 (fun p hp => h3 p (List.mem_append_left _ hp))) (al.row (Am (Ac _)) h2 (fun p hp => h3 p (List.mem_append_right _ (List.mem_append_left _ hp)))) lj) ?_
 refine wm (wv (OU rfl rfl) (wv (OU rfl rfl) ?_))
 refine wa (wa (Ye (ua (Aa ?_))))
 obtain ⟨mark, lq, gw⟩ := AF lk
 refine jE (((av, ce #[.slice bo bp bq, .int .i64 0, .slice (some ⟨au, 0, none⟩) 1 1, .slice (some ⟨ar, 0, none⟩) 1 1, .slice (some ⟨ax, 0, none⟩) 1 1] 82) :: ((bb, ce #[.slice bz cf ca, .slice cb cg cc] 70) :: (ao ++ (aq ++ (ah ++ (ae ++ (Lb138 ++ (af ++ []))))))))) [(5, .pointer (some ⟨bb, 0, none⟩)), (7, .func (.func 22) #[] #[]), (8, .pointer (some ⟨av, 0, none⟩)), (13, .int .i64 n), (16, .int .i64 n7), (18, .int .i64 n4), (21, .int .i64 GX), (23, .int .i64 mark)] ?_ ?_
 ·clear gw
  refine AJ (um (um ?_))
  obtain ⟨lr, gz⟩ := A0 lq
  refine uv (Jh rfl rfl lr) (uv (KB rfl rfl) (uv (Cx rfl rfl) (Aa ?_)))
  refine cQ (fun ew => ?_) fun ew => ?_
  ·have lu := Bi gz ew
   refine Af (ua (Aa ?_))
   obtain rfl := AH lu
   exact mi (kc (kc (ka (ka (kx kr))))) ⟨rfl, rfl, z8⟩
  have lv := Bk gz ew
  refine Al ?_
  obtain rfl := AH lv
  exact mi (kc (kc (ka (ka (kx kr))))) ⟨rfl, rfl, z8⟩
 refine AJ (uv (A1 isAgg70 sizeOf70 rfl (Has.own 1 rfl) (CB rfl) rfl) (um ?_))
 refine uv (BM (v := .agg #[.int .i64 0, .int .i64 GX]) rfl (by intro w; kernel_rfl)) ?_
 refine um ?_
 obtain rfl := (Bd.Dx ai).1
 refine DF (Nat.le_refl _) (Am (Ac _)) (fC (fC fP)) ai ?_; intro pj cw ey
 replace al := al.mono (Am (Ac _)) cw
 replace ad := ad.mono (Ac _) cw
 replace aa := aa.mono (Am (Ac _)) cw
 replace ab := ab.mono (Ac _) cw
 obtain rfl := (Bd.Dx al).1
 refine DF (Nat.le_refl _) (Am (Ac _)) (fC (fC fP)) al ?_; intro pk cx lx
 replace ey := ey.mono (Am (Ac _)) cx
 replace ad := ad.mono (Ac _) cx
 replace aa := aa.mono (Am (Ac _)) cx
 replace ab := ab.mono (Ac _) cx
 obtain ⟨l8, l9, n8, ly, ma⟩ := GR gw
 refine c0 call29 (RC ey lx ly) ?_; rintro _ pn _ dm ia ⟨mb, mc, me, ib, mg, mh, rfl, rfl, cy, mj⟩
 replace ad := ad.mono (Ac _) dm
 replace aa := aa.mono (Am (Ac _)) dm
 replace ab := ab.mono (Ac _) dm
 replace cy := cy.new fun p hp => ia p (by simp [hp])
 refine AI (lp (ln rfl)) (kO (kf (fS fO) (kf (fS fO) kr)) ?_)
 refine um (ox rfl rfl rfl (ox rfl rfl rfl ?_))
 refine Bw rfl zeroValue70 ?_; intro ml od
 refine BP (i := 0) sizeOf70 rfl rfl rfl (by simp [Value.oneCell']) rfl (CB rfl) (AI rfl ?_)
 refine ua (BU (um ?_))
 refine uv (A1 isAgg70 sizeOf70 rfl (Has.own 0 rfl) (CB rfl) rfl) ?_
 obtain ⟨j0, qe, mn, mo⟩ := DM ma
 refine J7 (Lb := []) (Lt := ib ++ []) (Lr := (ml, ce #[.slice mb mc me, .slice mg l9.length mh] 70) :: ((av, ce #[.slice bo bp bq, .int .i64 0, .slice (some ⟨au, 0, none⟩) 1 1, .slice (some ⟨ar, 0, none⟩) 1 1, .slice (some ⟨ax, 0, none⟩) 1 1] 82) :: ((bb, ce #[.slice bz l.length ca, .slice cb l2.length cc] 70) :: (ah ++ (ae ++ (Lb138 ++ (af ++ []))))))) rfl call22 rfl rfl rfl (pT ((fC (fC (fC fP))).trans (pA pR)) (ln (lp (ln rfl)))) (fun F2 h2 h3 => by rw [(Bd.Dx cy).1]; exact HL (cy.row (Am (Ac _)) h2 (fun p hp => h3 p (List.mem_append_left _ hp))) (mj.mono (Am (Ac _)) h2) mn) (fun _ _ _ _ hq => by obtain ⟨cu, dw, cv, ec, rfl, rfl, bx⟩ := hq; exact ⟨_, _, _, _, rfl, rfl, bx.flat (fun _ _ h => h)⟩) ?_; rintro _ po _ dn ic ie ⟨cu, dw, cv, ec, rfl, rfl, bx⟩
 replace ad := ad.mono (Ac _) dn
 replace aa := aa.mono (Am (Ac _)) dn
 replace ab := ab.mono (Ac _) dn
 have ig := We (Lb' := []) (by rfl) ic ie
 replace bx := bx.new fun p hp => ig p (by simp [hp])
 refine AI (lp (ln (lp (ln rfl)))) (kO (kf (fS (fS fO)) (kf (fS (fS fO)) (kf (fS (fS fO)) kr))) ?_)
 refine um (ox rfl rfl rfl (ox rfl rfl rfl (ua (ua (Aa (Aq ?_))))))
 obtain ⟨k3, ij, ez⟩ := AF mo
 refine jE (((av, ce #[.slice bo bp bq, .int .i64 0, .slice (some ⟨au, 0, none⟩) 1 1, .slice (some ⟨ar, 0, none⟩) 1 1, .slice (some ⟨ax, 0, none⟩) 1 1] 82) :: (ah ++ (ae ++ (Lb138 ++ (af ++ (ec ++ []))))))) [(8, .pointer (some ⟨av, 0, none⟩)), (13, .int .i64 n), (18, .int .i64 n4), (26, .slice cu dw cv), (153, .bool k3)] ?_ ?_
 ·clear ez
  refine Af (um ?_)
  refine uv (CI rfl rfl) (um ?_)
  by_cases cn : n7 ≠ 0
  ·have mq := Bi ij cn
   refine fT cn (fT cn ?_)
   refine uv (AS (Bq rfl cn) rfl) ?_
   refine um (Ay (b' := true) 150 rfl rfl rfl rfl (Ay (b' := true) 150 rfl rfl rfl rfl ?_))
   refine uv (AS rfl rfl) (Aa ?_)
   obtain rfl := AH mq
   exact mi (kd (kc (kd (kg (fS (fS fP)) (kg (fS (fS fP)) (kg (fS (fS fP)) (kg (fS (fS fP)) (ka kn)))))))) ⟨rfl, rfl, z5⟩
  have ik := Bk ij cn
  refine nF cn (um (nF cn ?_))
  refine uv (CI rfl rfl) (uv (AE (Bc rfl cn) rfl) (um ?_))
  by_cases cp : n8 ≠ 0
  ·have mr := Bi ik cp
   refine fT cp (fT cp ?_)
   refine uv (AS (Bq rfl cp) rfl) (Aa ?_)
   obtain rfl := AH mr
   exact mi (kd (kc (kd (kg (fS (fS fP)) (kg (fS (fS fP)) (kg (fS (fS fP)) (kg (fS (fS fP)) (ka kn)))))))) ⟨rfl, rfl, z5⟩
  have mu := Bk ik cp
  refine nF cp (um (nF cp ?_))
  refine uv (BB rfl) (uv (AE (Bc rfl cp) rfl) (Aa ?_))
  obtain rfl := AH mu
  exact mi (kd (kc (kd (kg (fS (fS fP)) (kg (fS (fS fP)) (kg (fS (fS fP)) (kg (fS (fS fP)) (ka kn)))))))) ⟨rfl, rfl, z5⟩
 refine AX rfl (fun fa => ?_) (fun fa => ?_)
 ·have mv := bt ez fa
  refine AJ (ua (Aa ?_))
  refine kW kn ?_
  refine Aj (Ai ?_)
  refine BZ results4 ?_
  obtain rfl := AH mv
  exact rfl
 have mw := bf ez fa
 refine Al (AJ (um ?_))
 refine bA (cs := #[.slice cu dw cv]) LF [.slice cu dw cv] ?_; intro dp il
 refine uv (Ab Jd rfl) ?_
 obtain rfl := (Bd.Dx bx).1
 refine DF (Nat.le_refl _) (Ac _) (fC (fC (fS (fS (fS (fS fP)))))) bx ?_; intro mx dq my
 replace ad := ad.mono (Ac _) dq
 replace aa := aa.mono (Am (Ac _)) dq
 replace ab := ab.mono (Ac _) dq
 have cq : Bd K.w0.heap.size 33 1 (BC 1 (iE .i64)) mx (some ⟨dp, 0, none⟩) 1 1 [j0] [(dp, ce #[.slice cu j0.length cv] 33)] := Bd.BW (vss := [[.slice cu j0.length cv]]) (Am (Ac _)) il (.cons ⟨_, _, rfl, my⟩ .nil) rfl rfl (by simp [maxLen])
 generalize dx : ([(dp, ce #[.slice cu j0.length cv] 33)] : LH) = Lb259 at cq
 refine B2 (L' := Lb259 ++ ((av, ce #[.slice bo bp bq, .int .i64 0, .slice (some ⟨au, 0, none⟩) 1 1, .slice (some ⟨ar, 0, none⟩) 1 1, .slice (some ⟨ax, 0, none⟩) 1 1] 82) :: (ah ++ (ae ++ (Lb138 ++ (af ++ [])))))) (by rw [← dx]; exact fO) ?_
 refine B2 (L' := (av, ce #[.slice bo bp bq, .int .i64 0, .slice (some ⟨au, 0, none⟩) 1 1, .slice (some ⟨ar, 0, none⟩) 1 1, .slice (some ⟨ax, 0, none⟩) 1 1] 82) :: (Lb259 ++ (ah ++ (ae ++ (Lb138 ++ (af ++ [])))))) (List.Perm.symm (fC fP)) (B4 (i := 0) sizeOf36 rfl rfl rfl rfl (CB rfl) (AI rfl (BU (uv (A1 isAgg82 sizeOf82 rfl (Has.own 0 rfl) (CB rfl) rfl) ?_))))
 obtain ⟨n9, pq, qf, pr, mz, na⟩ := Ng mw
 refine JK (Lt := ah ++ (Lb259 ++ (Lb138 ++ (af ++ [])))) (Lr := (av, ce #[.slice bo bp bq, .int .i64 0, .slice (some ⟨dp, 0, none⟩) 1 1, .slice (some ⟨ar, 0, none⟩) 1 1, .slice (some ⟨ax, 0, none⟩) 1 1] 82) :: (ae ++ [])) rfl call24 rfl rfl rfl (pT ((fC (fS fP)).trans (pA ((fC fP).trans (pA ((fC (fS fP)).trans (pA ((fC (fS fP)).trans (pA pR)))))))) (lp (lp (lp (lp (ln rfl)))))) (fun F2 h2 h3 => by have h0 := NQ (ad.row (Ac _) h2 (fun p hp => h3 p (List.mem_append_left _ hp))) (cq.row (Am (Ac _)) h2 (fun p hp => h3 p (List.mem_append_right _ (List.mem_append_left _ hp)))) (aa.row (Am (Ac _)) h2 (fun p hp => h3 p (List.mem_append_right _ (List.mem_append_right _ (List.mem_append_left _ hp))))) (ab.row (Ac _) h2 (fun p hp => h3 p (List.mem_append_right _ (List.mem_append_right _ (List.mem_append_right _ (List.mem_append_left _ hp)))))) mz; rw [← (Bd.Dx ad).1] at h0; rw [← (Bd.Dx cq).1] at h0; rw [← (Bd.Dx aa).1] at h0; rw [← (Bd.Dx ab).1] at h0; exact h0) ?_
 refine um (ox rfl rfl rfl (ox rfl rfl rfl (ox rfl rfl rfl (ox rfl rfl rfl (ua (ua (ua (ua (BU ?_)))))))))
 refine uv (A1 isAgg82 sizeOf82 rfl (Has.own 0 rfl) (CB rfl) rfl) ?_
 obtain ⟨qg, pt, pv, nc, im⟩ := GR na
 refine J7 (Lb := []) (Lt := ah ++ (Lb259 ++ (Lb138 ++ (af ++ [])))) (Lr := (av, ce #[.slice bo bp bq, .int .i64 0, .slice (some ⟨dp, 0, none⟩) 1 1, .slice (some ⟨ar, 0, none⟩) 1 1, .slice (some ⟨ax, 0, none⟩) 1 1] 82) :: (ae ++ [])) rfl call25 rfl rfl rfl (pT ((fC (fS fP)).trans (pA ((fC fP).trans (pA ((fC (fS fP)).trans (pA ((fC (fS fP)).trans (pA pR)))))))) (ln (lp (lp (lp (lp (ln rfl))))))) (fun F2 h2 h3 => by have h0 := Pd (ad.row (Ac _) h2 (fun p hp => h3 p (List.mem_append_left _ hp))) (cq.row (Am (Ac _)) h2 (fun p hp => h3 p (List.mem_append_right _ (List.mem_append_left _ hp)))) (aa.row (Am (Ac _)) h2 (fun p hp => h3 p (List.mem_append_right _ (List.mem_append_right _ (List.mem_append_left _ hp))))) (ab.row (Ac _) h2 (fun p hp => h3 p (List.mem_append_right _ (List.mem_append_right _ (List.mem_append_right _ (List.mem_append_left _ hp)))))) nc; rw [← (Bd.Dx ad).1] at h0; rw [← (Bd.Dx cq).1] at h0; rw [← (Bd.Dx aa).1] at h0; rw [← (Bd.Dx ab).1] at h0; exact h0) (fun _ _ _ _ hq => by obtain ⟨nf, ng, nh, iq, rfl, rfl, ef⟩ := hq; exact ⟨_, _, _, _, rfl, rfl, ef.flat (fun _ _ h => h)⟩) ?_; rintro _ pw _ oe og oh ⟨nf, ng, nh, iq, rfl, rfl, ef⟩
 refine AI (lp (ln (lp (lp (lp (lp (ln rfl))))))) (kO (kf (fS (fS (fS (fS (fS fO))))) kr) ?_)
 refine um (ox rfl rfl rfl (ox rfl rfl rfl (ox rfl rfl rfl (ua (ua (ua (BU (um ?_))))))))
 refine uv (Cx rfl rfl) (um ?_)
 by_cases cr : pr = 0
 ·have ir := Bi im cr
  refine nT cr (um (nT cr ?_))
  refine uv (Cx rfl rfl) (uv (AS (Bq rfl cr) rfl) (um ?_))
  by_cases ct : pv = 0
  ·have iu := Bi ir ct
   refine nT ct (um (nT ct ?_))
   refine uv (Cx rfl rfl) (uv (AS (Bq rfl ct) rfl) (um ?_))
   by_cases bg : pq = 0
   ·have iv := Bi iu bg
    refine nT bg (um (nT bg (um (nT bg ?_))))
    refine uv (FX rfl rfl) (uv (AS (Bq rfl bg) rfl) (um ?_))
    by_cases bj : n ≤ n9
    ·have iw := Bi iv bj
     refine nT bj (um (nT bj (um (nT bj ?_))))
     refine uv (FX rfl rfl) (uv (AS (Bq rfl bj) rfl) (um ?_))
     by_cases dh : n4 ≤ pt
     ·have ni := Bi iw dh
      refine nT dh ?_
      obtain ⟨qh, nj, nk⟩ := AF ni
      refine cV call9 (OD nj) (uv (AS (Bq rfl dh) rfl) ?_)
      refine ua (Aa ?_)
      refine kW kn (Aj (BZ results4 ?_))
      obtain rfl := AH nk
      exact rfl
     have nn := Bk iw dh
     refine fF dh (uv (AE (Bc rfl dh) rfl) ?_)
     refine ua (Aa ?_)
     refine kW kn (Aj (BZ results4 ?_))
     obtain rfl := AH nn
     exact rfl
    have np := Bk iv bj
    refine fF bj (fF bj (fF bj ?_))
    refine uv (AE (Bc rfl bj) rfl) ?_
    refine um (Ay (b' := false) 190 rfl rfl rfl rfl ?_)
    refine uv (AE rfl rfl) ?_
    refine ua (Aa ?_)
    refine kW kn (Aj (BZ results4 ?_))
    obtain rfl := AH np
    exact rfl
   have nq := Bk iu bg
   refine fF bg (fF bg (fF bg ?_))
   refine uv (AE (Bc rfl bg) rfl) ?_
   refine um (Ay (b' := false) 185 rfl rfl rfl rfl (Ay (b' := false) 185 rfl rfl rfl rfl (Ay (b' := false) 185 rfl rfl rfl rfl ?_)))
   refine uv (AE rfl rfl) ?_
   refine um (Ay (b' := false) 190 rfl rfl rfl rfl ?_)
   refine uv (AE rfl rfl) ?_
   refine ua (Aa ?_)
   refine kW kn (Aj (BZ results4 ?_))
   obtain rfl := AH nq
   exact rfl
  have nr := Bk ir ct
  refine fF ct (fF ct ?_)
  refine uv (AE (Bc rfl ct) rfl) ?_
  refine um (Ay (b' := false) 180 rfl rfl rfl rfl (Ay (b' := false) 180 rfl rfl rfl rfl (Ay (b' := false) 180 rfl rfl rfl rfl ?_)))
  refine uv (AE rfl rfl) ?_
  refine um (Ay (b' := false) 185 rfl rfl rfl rfl (Ay (b' := false) 185 rfl rfl rfl rfl (Ay (b' := false) 185 rfl rfl rfl rfl ?_)))
  refine uv (AE rfl rfl) ?_
  refine um (Ay (b' := false) 190 rfl rfl rfl rfl ?_)
  refine uv (AE rfl rfl) ?_
  refine ua (Aa ?_)
  refine kW kn (Aj (BZ results4 ?_))
  obtain rfl := AH nr
  exact rfl
 have ns := Bk im cr
 refine fF cr (fF cr ?_)
 refine uv (AE (Bc rfl cr) rfl) ?_
 refine um (Ay (b' := false) 176 rfl rfl rfl rfl (Ay (b' := false) 176 rfl rfl rfl rfl ?_))
 refine uv (AE rfl rfl) ?_
 refine um (Ay (b' := false) 180 rfl rfl rfl rfl (Ay (b' := false) 180 rfl rfl rfl rfl (Ay (b' := false) 180 rfl rfl rfl rfl ?_)))
 refine uv (AE rfl rfl) ?_
 refine um (Ay (b' := false) 185 rfl rfl rfl rfl (Ay (b' := false) 185 rfl rfl rfl rfl (Ay (b' := false) 185 rfl rfl rfl rfl ?_)))
 refine uv (AE rfl rfl) ?_
 refine um (Ay (b' := false) 190 rfl rfl rfl rfl ?_)
 refine uv (AE rfl rfl) ?_
 refine ua (Aa ?_)
 refine kW kn (Aj (BZ results4 ?_))
 obtain rfl := AH ns
 exact rfl
end Go.Proofs.YtfmapnhfamoecaaGreat
