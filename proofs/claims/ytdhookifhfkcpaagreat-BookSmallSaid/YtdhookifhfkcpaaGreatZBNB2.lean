/- The walks that this claim needs, printed by a program of mine; part 2. -/
import Derived.Test.YtdhookifhfkcpaaGreatZBNB1
namespace Go.Proofs.YtdhookifhfkcpaaGreat
open Go.SH Go.PL
open Tryz 
variable {f : (List Int) → Option Bool} {eq_1 eq_2 L8 LZ : Array Value} {F : FS} {Ol L4 : FuncId} {hour Af n AP Ac ED : Int} {Ak r5 : List (Int × Int × Int)} {Ah : List (List (List Int))} {s_ : List (List Int)} {AW r4 Ab : List Int} {P9 P6 Bk An Al BO CX Ad IF I0 E3 : Nat} {P3 PT Bl Ao Am BP CV Ae IH IU E4 : Option Addr}
set_option maxHeartbeats 1000000 in
theorem NF {cj : (List Int) → Int → Int → Int → Int → (List (List (List Int))) → (List Int) → (List (Int × Int × Int)) → Int → Int → (List Int) → (List Int) → Bool → Option (Bool × (List Int) × Bool)} (ep : ∀ {CV : Option Addr} {CX : Nat} {l : List Int} {from_ many : Int} {cg : Nat} {Af Ac : Int} {Am : Option Addr} {Al : Nat} {Ah : List (List (List Int))} {Ae : Option Addr} {Ad : Nat} {Ab : List Int} {Ao : Option Addr} {An : Nat} {Ak : List (Int × Int × Int)} {cw : Nat × Nat} {aw : Nat} {hour : Int} {bk : Nat × Nat} {ai : Nat} {AP : Int} {bd : Nat × Nat} {aj : Nat} {BP : Option Addr} {BO : Nat} {AU : List Int} {bg : Nat × Nat} {al : Nat} {ba : Option Addr} {bb : Nat} {out : List Int} {ah : Nat} {found : Bool} {av : Nat} {bl : Nat × Nat} {F : FS} (_ : At 1 eI F CV CX l) (_ : F cg = some (.cells #[vI Af, vI Ac, sL Am Ah.length Al, sL Ae Ab.length Ad, sL Ao Ak.length An] 26 cw)) (_ : At 1 (CM 1 eJ) F Am Al Ah) (_ : At 1 eI F Ae Ad Ab) (_ : At 3 (Br eI eP) F Ao An Ak) (_ : F aw = some (.cells #[vI hour] 3 bk)) (_ : F ai = some (.cells #[vI AP] 3 bd)) (_ : F aj = some (.cells #[sL BP AU.length BO] 22 bg)) (_ : At 1 eI F BP BO AU) (_ : At 1 eI F ba bb out) (_ : F av = some (.cells (#[.func (.func 103) #[] #[pO cg, pO aw, pO ai, pO aj, pO al, pO ah, pO av]]) 151 bl)) {r : Bool} {r2 : List Int} {r3 : Bool} , cj l from_ many Af Ac Ah Ab Ak hour AP AU out found = some (r, r2, r3) → SH.Spec Tryz.prog 103 #[sL CV l.length CX, vI from_, vI many, pO cg, pO aw, pO ai, pO aj, pO al, pO ah, pO av] F [(al, ce #[sL ba out.length bb] 22), (ah, ce #[.bool found] 4)] fun F' L' v => ∃ (dh : Option Addr) (di : Nat), v = .bool r ∧ L' = [(al, ce #[sL dh r2.length di] 22), (ah, ce #[.bool r3] 4)] ∧ At 1 eI F' dh di r2) {l : List Int} {from_ many : Int} {cg : Nat} {cw : Nat × Nat} {aw : Nat} {bk : Nat × Nat} {ai : Nat} {bd : Nat × Nat} {aj : Nat} {AU : List Int} {bg : Nat × Nat} {al : Nat} {ba : Option Addr} {bb : Nat} {out : List Int} {ah : Nat} {found : Bool} {av : Nat} {bl : Nat × Nat} (bn : At 1 eI F CV CX l) (bj : F cg = some (.cells #[vI Af, vI Ac, sL Am Ah.length Al, sL Ae Ab.length Ad, sL Ao Ak.length An] 26 cw)) (ak : At 1 (CM 1 eJ) F Am Al Ah) (ab : At 1 eI F Ae Ad Ab) (aq : At 3 (Br eI eP) F Ao An Ak) (ao : F aw = some (.cells #[vI hour] 3 bk)) (aa : F ai = some (.cells #[vI AP] 3 bd)) (ad : F aj = some (.cells #[sL BP AU.length BO] 22 bg)) (ae : At 1 eI F BP BO AU) (ar : At 1 eI F ba bb out) (au : F av = some (.cells (#[.func (.func 103) #[] #[pO cg, pO aw, pO ai, pO aj, pO al, pO ah, pO av]]) 151 bl)) {r : Bool} {r2 : List Int} {r3 : Bool} (hr : Ky cj l from_ many Af Ac Ah Ab Ak hour AP AU out found = some (r, r2, r3)) :
    SH.Spec Tryz.prog 103 #[sL CV l.length CX, vI from_, vI many, pO cg, pO aw, pO ai, pO aj, pO al, pO ah, pO av] F [(al, ce #[sL ba out.length bb] 22), (ah, ce #[.bool found] 4)] fun F' L' v => ∃ (dh : Option Addr) (di : Nat), v = .bool r ∧ L' = [(al, ce #[sL dh r2.length di] 22), (ah, ce #[.bool r3] 4)] ∧ At 1 eI F' dh di r2 := by
 refine sp func103 ntmps103 fun K _ _ => ?_
 rw [Ky] at hr
 refine AG (ua (Aa ?_))
 refine AO (fun e1 F1 L1 => IW l from_ many Af Ac Ah Ab Ak hour AP AU out found cj = some (r, r2, r3) ∧ F = F1 ∧ L1 = [(al, ce #[sL ba out.length bb] 22), (ah, ce #[.bool found] 4)] ∧ e1.sub [(0, sL CV l.length CX), (1, vI from_), (2, vI many), (3, pO cg), (9, pO av)]) ?_ ?_
 ·refine AG (um ?_)
  refine uv (Bx rfl rfl) (Aa ?_)
  refine cQ (fun c1 => ?_) fun c1 => ?_
  ·have r4 := A2 hr c1
   refine AG (uv (Bn isAgg26 sizeOf26 rfl (Has.frozen bj) (DD rfl) rfl) ?_)
   refine uv (BX (v := .agg #[vI Af, vI Ac, sL Am Ah.length Al, sL Ae Ab.length Ad, sL Ao Ak.length An]) rfl (by intro w; kernel_rfl)) ?_
   refine BB rfl rfl ?_; intro b5 iz
   refine ua (BR (um ?_))
   refine uv (Ap Dv rfl) (uv (AS isAgg24 rfl (Has.frozen bj) rfl) ?_)
   obtain ⟨l2, h6, r7⟩ := Az r4
   refine c0 call71 (Fk aq h6) ?_; rintro _ F8 _ ct er ⟨j0, j1, j2, et, rfl, rfl, cx⟩
   replace bn := bn.m1 ct
   replace ak := ak.mono (Ay kJ) ct
   replace ab := ab.m1 ct
   replace ae := ae.m1 ct
   replace ar := ar.m1 ct
   replace ao := ct _ _ ao
   replace aa := ct _ _ aa
   replace ad := ct _ _ ad
   replace cx := cx.new fun p hp => er p (by simp [hp])
   refine AB (lp (ln rfl)) (kO (kf (fS fO) (kf (fS fO) (kf (fS fO) kr))) (uv (BQ rfl) (uv (Ap GA rfl) (uv (Ap Dv rfl) (BL (i := 0) sizeOf24 rfl rfl rfl rfl (DD rfl) (AB rfl (Aa ?_)))))))
   obtain ⟨bq, j3, ia⟩ := Az r7
   refine AO (fun e1 F1 L1 => ∃ (eu : Option Addr) (ew : Nat) (ey : Nat) (cy : LH), F8 = F1 ∧ L1 = ((b5, ce #[vI Af, vI Ac, sL Am Ah.length Al, sL Ae Ab.length Ad, sL eu ew ey] 119) :: ((al, ce #[sL ba out.length bb] 22) :: ((ah, ce #[.bool found] 4) :: (cy ++ [])))) ∧ e1.sub [(0, sL CV l.length CX), (5, pO ai), (6, pO aj), (7, pO al), (8, pO ah), (14, pO b5)] ∧ AI K.w0.heap.size 32 3 (Br eI eP) F1 eu ew ey bq cy) ?_ ?_
   ·clear ia
    refine AG (um ?_)
    refine uv (AJ underlying22 rfl) ?_
    refine um (Aa ?_)
    refine As ?_
    refine A6 (fun ib e1 F1 L1 => LA l ib fun tl k => ∃ (bc : List (Int × Int × Int)) (dk : Option Addr) (dm : Nat) (dp : Nat) (ck : LH), Gb hour AP tl bc = some bq ∧ F8 = F1 ∧ L1 = ((b5, ce #[vI Af, vI Ac, sL Am Ah.length Al, sL Ae Ab.length Ad, sL dk dm dp] 119) :: ((al, ce #[sL ba out.length bb] 22) :: ((ah, ce #[.bool found] 4) :: (ck ++ [])))) ∧ e1.sub [(0, sL CV l.length CX), (4, pO aw), (5, pO ai), (6, pO aj), (7, pO al), (8, pO ah), (14, pO b5), (31, sL CV l.length CX), (32, vI (l.length : Int)), (33, vI k)] ∧ AI K.w0.heap.size 32 3 (Br eI eP) F1 dk dm dp bc ck) _ (m0 kr ⟨_, _, rfl, Bq.start _, l2, j0, j1, j2, et, j3, rfl, rfl, (sc rfl (sc rfl z8)), cx⟩) ?_
    rintro ib e1 _ _ ⟨tl, k, ez, cz, bc, dk, dm, dp, ck, ej, rfl, rfl, fa, dq⟩
    refine AA _ fa (AG (uv (AY rfl rfl) ?_))
    refine Aa (Au ?_)
    refine cQ (fun en => ?_) fun en => ?_
    ·obtain ⟨x, jw, rfl, fb, ic, fe⟩ := Bq.succ cz en
     rw [Gb] at ej
     refine Ar (Au ?_)
     refine As (AG ?_)
     obtain ⟨jx, jz, kb, j4, ff, fg, ie, rfl, j5, fh⟩ := At.ta kI bn ic.1 fb
     refine uv (C0 underlying22 sizeOf3 ff ic) (uv (AS isAgg3 rfl (fg _) (fh 0 (by decide))) ?_)
     refine ua (Aa ?_)
     refine BK [(.still, 0), (.still, 1), (.still, 2), (.still, 3), (.still, 4), (.still, 5), (.still, 6), (.still, 7), (.still, 8), (.still, 9), (.seq, 10), (.seq, 11), (.still, 12), (.still, 13), (.still, 14), (.seq, 15)] (by kernel_rfl) (by kernel_rfl) (trivial) (by rfl) (by kernel_rfl) (mS [14] rfl (A9 rfl) (mS [14] rfl (A9 rfl) (mS [38] rfl (BQ rfl) (mS [39] rfl (Ap GA rfl) (mS [40] rfl (Ap Dv rfl) (mK [41] isAgg24 0 rfl rfl rfl rfl (mL [4] ([]) rfl sm (fun H F' L' dr dt => AS isAgg3 rfl ((Has.frozen ao).ext dr dt) rfl) ?_)))))))
     refine mS [16] rfl (A9 rfl) (mL [5] ([]) rfl sm (fun H F' L' dr dt => AS isAgg3 rfl ((Has.frozen aa).ext dr dt) rfl) ?_)
     refine mS (v := .agg #[vI hour, vI x, vI AP]) [43, 44, 45] rfl (BX (v := .agg #[vI hour, vI x, vI AP]) rfl (by intro w; kernel_rfl)) ?_
     refine ⟨_, [(46, .agg #[vI hour, vI x, vI AP])], rfl, rfl, z1, by kernel_rfl, ?_⟩; intro H
     refine bA (cs := #[vI hour, vI x, vI AP]) H7 [.agg #[vI hour, vI x, vI AP]] ?_; intro j6 j7
     refine Aa ⟨_, rfl, AQ.refl _, [5, 4, 3, 2, 1, 0], by kernel_rfl, .inl (.inr (fun d h => by cases h; rfl)), (fc (s0 (s1 (s2 (s1 (s1 (s3 sr)))))) (fc sm (fc sm (fc sm (fc sm (fc sm nm)))))), ?_⟩
     refine ⟨_, [(42, sL dk dm dp), (47, sL (aD j6) 1 1)], rfl, rfl, z2, by kernel_rfl, ?_⟩; intro H
     obtain ⟨l3, j8, j9, ja⟩ := Ea ej
     refine CJ (xs := bc) (ys := [(hour, x, AP)]) (zs := l3) rfl H7 rfl rfl (Nat.le_refl _) (fun _ => .c (.c (.c (.c .h)))) dq (FL.box (vss := [[vI hour, vI x, vI AP]]) (ys := [(hour, x, AP)]) 0 rfl (Ai kI kP) (.cons ⟨_, _, rfl, rfl, ⟨_, _, rfl, rfl, rfl⟩⟩ .nil) rfl rfl) j8 j9 (by decide) ?_; intro ig ij ik fi fj
     refine kO (kd kr) ?_
     refine Aa ⟨_, rfl, AQ.refl _, [0], by kernel_rfl, .inl (.inr (fun d h => by cases h; rfl)), (fc sm nm), ?_⟩
     refine mS [37] rfl (BQ rfl) (mS [49] rfl (Ap GA rfl) (mS [50] rfl (Ap Dv rfl) ?_))
     refine ⟨_, [(48, sL ig ij ik), (51, .pointer (some ⟨b5, 4, none⟩))], rfl, rfl, z2, by kernel_rfl, ?_⟩; intro H
     refine BL (i := 0) sizeOf24 rfl rfl rfl rfl (DD rfl) (AB rfl ?_)
     refine Aa ⟨undef, rfl, AQ.refl _, [], by kernel_rfl, .inl (.inl rfl), nm, ?_⟩
     refine Ce ?_
     refine AD (id := 1) (Aq ?_)
     refine uv (A4 rfl rfl (Bq.CE cz en (At.lt bn))) ?_
     refine um (Aa ?_)
     subst ez; exact le kr ⟨_, _, rfl, fe, l3, ig, ij, ik, fi, ja, rfl, rfl, (sc rfl (sc rfl z8)), fj⟩
    obtain rfl := Bq.zero cz en
    rw [Gb] at ej
    refine AM (Aj (Aj ?_))
    refine Ax ?_
    obtain rfl := AL ej
    exact mi kr ⟨dk, dm, dp, ck, rfl, rfl, z6, dq⟩
   rintro e1 _ _ ⟨eu, ew, ey, cy, rfl, rfl, fk, du⟩
   refine AA _ fk (AG (uv (CP rfl rfl) ?_))
   refine uv (BX (v := .agg (#[.func (.func 104) #[] #[pO aj, pO ai]])) rfl (by intro w; kernel_rfl)) ?_
   refine Bu rfl zeroValue144 ?_; intro kh jb
   refine BD (i := 0) sizeOf144 rfl rfl rfl (by simp [Value.oneCell']) rfl (DD rfl) (AB rfl ?_)
   refine Aa (Au (Au ?_))
   refine BK [(.still, 0), (.still, 1), (.seq, 2), (.seq, 3), (.still, 4)] (by kernel_rfl) (by kernel_rfl) (trivial) (by rfl) (by kernel_rfl) (mA [17] isAgg144 sizeOf144 0 rfl rfl rfl rfl (mS [14] rfl (A9 rfl) ?_))
   refine ⟨_, [(56, pO b5)], rfl, rfl, z1, by kernel_rfl, ?_⟩; intro H
   obtain rfl := (AI.A1 du).1
   refine A5 (Nat.le_refl _) (Ai kI kP) (fC (fC (fC (fC fP)))) du ?_; intro kj bo fl
   replace bn := bn.m1 bo
   replace ak := ak.mono (Ay kJ) bo
   replace ab := ab.m1 bo
   replace ae := ae.m1 bo
   replace ar := ar.m1 bo
   replace aa := bo _ _ aa
   replace ad := bo _ _ ad
   refine Bj 1 rfl iz ?_; intro kl bm fm
   refine AB rfl ?_
   replace bn := bn.m1 bm
   replace ak := ak.mono (Ay kJ) bm
   replace ab := ab.m1 bm
   replace ae := ae.m1 bm
   replace ar := ar.m1 bm
   replace fl := fl.mono (Ai kI kP) bm
   replace aa := bm _ _ aa
   replace ad := bm _ _ ad
   obtain ⟨l4, jc, jd⟩ := Az ia
   refine c0 call106 (Jp fm ak ab fl jc) ?_; rintro _ je _ bu fo ⟨jf, jg, jh, ji, rfl, rfl, cn⟩
   replace bn := bn.m1 bu
   replace ae := ae.m1 bu
   replace ar := ar.m1 bu
   replace aa := bu _ _ aa
   replace ad := bu _ _ ad
   replace cn := cn.new fun p hp => fo p (by simp [hp])
   refine AB (lp (ln rfl)) (kO (kf (fS fO) (kf (fS fO) (kf (fS fO) kr))) ?_)
   refine Aa ⟨_, rfl, ((bo.trans bm).trans bu), [0], by kernel_rfl, .inl (.inr (fun d h => by cases h; rfl)), (fc (s0 (s2 (s1 (s1 (s3 sr))))) nm), ?_⟩
   refine ⟨_, [(55, .agg (#[.func (.func 104) #[] #[pO aj, pO ai]])), (57, sL jf jg jh)], rfl, rfl, z2, by kernel_rfl, ?_⟩; intro H
   have da : J2 Tryz.prog je 104 #[] #[pO aj, pO ai] (PO (J4 24 cB)) Value.bool (fun il : (List Bool) => Il il AU AP) := ⟨call104, fun F2 h2 vs il r ha hr => by obtain ⟨_, rfl, ⟨rfl, jj⟩⟩ := ha; exact M8 jj (h2 _ _ ad) (ae.mono kI h2) (h2 _ _ aa) hr⟩
   obtain rfl := (AI.A1 cn).1
   refine A5 (Nat.le_refl _) (Ai (BF (n := 24) (sz := 1) A8) kJ) (fC (fC (fC fP))) cn ?_; intro km cp jk
   replace bn := bn.m1 cp
   replace ar := ar.m1 cp
   replace da := da.mono cp
   obtain ⟨l5, jl, im⟩ := Az jd
   refine c0 call93 (I2 da jk jl) ?_; rintro _ ko _ db jm ⟨kt, ku, rfl, rfl, kv, fp⟩
   replace bn := bn.m1 db
   replace ar := ar.m1 db
   refine AB (ln rfl) ?_
   refine Aa ⟨_, rfl, (cp.trans db), [], by kernel_rfl, .inl (.inl rfl), nm, ?_⟩
   refine mS (v := .bool (decide (l5 = []))) [58] rfl ((Ly underlying22 rfl).b (MO fp)) (Ce ?_)
   refine cQ (fun fq => ?_) fun fq => ?_
   ·have jn := A2 im fq
    refine Aq (um ?_)
    refine BL (i := 1) sizeOf22 rfl rfl rfl rfl (DD rfl) (AB rfl (BL (i := 2) sizeOf4 rfl rfl rfl rfl (DD rfl) (AB rfl (BR (uv (Co isAgg4 2) ?_)))))
    refine ua (Aa ?_)
    refine kW (kd kr) ?_
    refine Aw (Av ?_)
    refine B7 results103 ?_
    obtain ⟨rfl, rfl, rfl⟩ := Na jn
    exact ⟨_, _, rfl, rfl, bn⟩
   have jo := A3 im fq
   refine Ar (AG ?_)
   refine uv (Co isAgg4 2) ?_
   refine ua (Aa ?_)
   refine kW (kd kr) ?_
   refine Aw (Av ?_)
   refine B7 results103 ?_
   obtain ⟨rfl, rfl, rfl⟩ := Na jo
   exact ⟨_, _, rfl, rfl, ar⟩
  have jq := A3 hr c1
  refine Ar ?_
  exact mi kr ⟨jq, rfl, rfl, z5⟩
 rintro e1 _ _ ⟨iq, rfl, rfl, dv⟩
 refine AA _ dv ?_
 rw [IW] at iq
 refine AO (fun e1 F1 L1 => ∃ (cq : List Int) (bp : Bool) (dd : Option Addr) (de : Nat), IM cq bp = some (r, r2, r3) ∧ AQ F F1 ∧ L1 = [(al, ce #[sL dd cq.length de] 22), (ah, ce #[.bool bp] 4)] ∧ e1.sub [] ∧ At 1 eI F1 dd de cq) ?_ ?_
 ·refine AG (um (ua (Aa ?_)))
  refine As ?_
  obtain ⟨dw, ft⟩ := AF iq
  refine A6 (fun eo e1 F1 L1 => ∃ (s_ : Int), B0 from_ (Ah.length : Int) s_ eo ∧ ∃ (bw : List Int) (bh : Bool) (bz : Option Addr) (cb : Nat), FZ l many Af Ac Ah Ab Ak hour AP AU cj eo s_ bw bh = some (r, r2, r3) ∧ AQ F F1 ∧ L1 = [(al, ce #[sL bz bw.length cb] 22), (ah, ce #[.bool bh] 4)] ∧ e1.sub [(0, sL CV l.length CX), (2, vI many), (3, pO cg), (9, pO av), (18, vI s_)] ∧ At 1 eI F1 bz cb bw) _ (m0 kr ⟨_, B0.start _ _, out, found, ba, bb, ft, AQ.refl _, rfl, z5, ar⟩) ?_
  rintro eo e1 jr _ ⟨s_, br, bw, bh, bz, cb, cr, ax, rfl, dx, bx⟩
  refine AA _ dx ?_
  replace bn := bn.m1 ax
  replace ak := ak.mono (Ay kJ) ax
  replace ab := ab.m1 ax
  replace aq := aq.mono (Ai kI kP) ax
  replace ae := ae.m1 ax
  replace bj := ax _ _ bj
  replace ao := ax _ _ ao
  replace aa := ax _ _ aa
  replace ad := ax _ _ ad
  replace au := ax _ _ au
  refine Au (AG (um ?_))
  refine uv (Ap CC rfl) (uv (AS isAgg23 rfl (Has.frozen bj) rfl) (uv (AJ underlying23 rfl) (uv (AY rfl rfl) (Aa ?_))))
  refine cQ (fun cc => ?_) fun cc => ?_
  ·obtain ⟨eo, rfl, dy⟩ := B0.succ br cc
   rw [FZ] at cr
   refine Ar (Au ?_)
   refine As (Au (BK [(.still, 0), (.still, 1), (.still, 3), (.pre, 4), (.still, 6), (.still, 7), (.still, 8), (.still, 9), (.seq, 2), (.alloc (ce #[vI s_] 3) (fun b => sL (aD b) 1 1) [(73, vI s_)], 4), (.seq, 5), (.seq, 10)] (by kernel_rfl) (by kernel_rfl) (⟨⟨_, _, rfl, rfl, rfl, rfl, rfl, JL rfl (DZ Bm [vI s_] rfl (by decide) (by simp [Value.cells]) (by decide))⟩, trivial⟩) (by rfl) (by kernel_rfl) (mL [9] ([]) rfl sm (fun H F' L' dr dt => AS isAgg151 rfl ((Has.frozen au).ext dr dt) rfl) (mS [0] rfl (A9 rfl) (mS [18] rfl (A9 rfl) ?_)))))
   refine ⟨⟨_, rfl, z1, by kernel_rfl⟩, ?_⟩
   refine mS [18] rfl (A9 rfl) (mS (v := vI (s_ + 1)) [76] rfl (A4 rfl rfl (B0.CE br cc dw)) (mS [2] rfl (A9 rfl) ?_))
   obtain ⟨fv, fw⟩ := AF cr
   refine mS (v := vI (many - 1)) [78] rfl (EU rfl rfl fv) ?_
   refine ⟨_, [(71, sL CV l.length CX)], rfl, rfl, z1, by kernel_rfl, ?_⟩; intro H
   obtain ⟨l6, fx, fy⟩ := Az fw
   refine c0 call72 (CG bn fx) ?_; rintro _ js _ ay dz ⟨ga, gb, gg, eb, rfl, rfl, cf⟩
   replace ak := ak.mono (Ay kJ) ay
   replace ab := ab.m1 ay
   replace aq := aq.mono (Ai kI kP) ay
   replace ae := ae.m1 ay
   replace bx := bx.m1 ay
   replace bj := ay _ _ bj
   replace ao := ay _ _ ao
   replace aa := ay _ _ aa
   replace ad := ay _ _ ad
   replace au := ay _ _ au
   replace cf := cf.new fun p hp => dz p (by simp [hp])
   refine AB (lp (ln rfl)) (kO (kf (fS fO) (kf (fS fO) kr)) ?_)
   refine Aa ⟨_, rfl, ay, [9, 8, 7, 6, 3, 0], by kernel_rfl, .inl (.inr (fun d h => by cases h; rfl)), (fc sm (fc sm (fc sm (fc sm (fc sm (fc sm nm)))))), ?_⟩
   refine K7 rfl ?_; intro ec ir
   refine HK (L' := (ec, ce #[vI s_] 3) :: ((al, ce #[sL bz bw.length cb] 22) :: ((ah, ce #[.bool bh] 4) :: (eb ++ [])))) rfl ?_
   refine ⟨_, [(72, sL ga gb gg), (74, sL (aD ec) 1 1)], rfl, rfl, z2, by kernel_rfl, ?_⟩; intro H
   obtain ⟨l7, gh, gi, gj⟩ := Ea fy
   refine CJ (xs := l6) (ys := [s_]) (zs := l7) rfl Bm rfl rfl (Nat.le_refl _) (fun _ => .c (.c (.c .h))) cf (FL.box (vss := [[vI s_]]) (ys := [s_]) 0 rfl kI (.cons rfl .nil) rfl rfl) gh gi (by decide) ?_; intro gk gl gm iu cu
   refine kO (kd kr) ?_
   refine Aa ⟨_, rfl, AQ.refl _, [9, 8, 7, 6, 0], by kernel_rfl, .inl (.inr (fun d h => by cases h; rfl)), (fc sm (fc sm (fc sm (fc sm (fc sm nm))))), ?_⟩
   refine ⟨_, [(70, .func (.func 103) #[] #[pO cg, pO aw, pO ai, pO aj, pO al, pO ah, pO av]), (75, sL gk gl gm), (77, vI (s_ + 1)), (79, vI (many - 1))], rfl, rfl, z4, by kernel_rfl, ?_⟩; intro H
   obtain rfl := (AI.A1 cu).1
   refine A5 (Nat.le_refl _) kI (fC (fC fP)) cu ?_; intro jt az gn
   replace ak := ak.mono (Ay kJ) az
   replace ab := ab.m1 az
   replace aq := aq.mono (Ai kI kP) az
   replace ae := ae.m1 az
   replace bx := bx.m1 az
   replace bj := az _ _ bj
   replace ao := az _ _ ao
   replace aa := az _ _ aa
   replace ad := az _ _ ad
   replace au := az _ _ au
   obtain ⟨ok, gp, df, gq, ef⟩ := N7 gj
   refine cG call103 (ep gn bj ak ab aq ao aa ad ae bx au gq) ?_; rintro _ ju _ cv iv iw ⟨gr, gu, rfl, rfl, eg⟩
   refine AB (lb (lb (ln rfl))) ?_
   refine Aa ⟨_, rfl, (az.trans cv), [], by kernel_rfl, .inl (.inl rfl), nm, ?_⟩
   refine Ce ?_
   refine AV rfl (fun dg => ?_) (fun dg => ?_)
   ·have gv := bt ef dg
    refine AG (ua (Aa (Aw (AH (Av (Av (AH (Av ?_))))))))
    refine B7 results103 ?_
    obtain ⟨rfl, rfl, rfl⟩ := Na gv
    exact ⟨_, _, rfl, rfl, eg⟩
   have gw := bf ef dg
   refine Ar (AD (id := 3) (Aq (um ?_)))
   refine uv (A4 rfl rfl (B0.CE br cc dw)) ?_
   refine ua (Aa ?_)
   exact le kr ⟨_, dy, gp, df, gr, gu, gw, (((ax.trans ay).trans az).trans cv), rfl, z5, eg⟩
  obtain rfl := B0.zero br cc
  rw [FZ] at cr
  refine AM (Aj (Aj ?_))
  refine Ax ?_
  exact mi kr ⟨bw, bh, bz, cb, cr, ax, rfl, (sn _), bx⟩
 rintro e1 jv _ ⟨cq, bp, dd, de, eh, iy, rfl, ei, gz⟩
 refine AA _ ei ?_
 rw [IM] at eh
 refine AG (ua (Aa (Aw ?_)))
 refine B7 results103 ?_
 obtain ⟨rfl, rfl, rfl⟩ := Na eh
 exact ⟨_, _, rfl, rfl, gz⟩
set_option maxHeartbeats 1000000 in
theorem Oc : ∀ (fu : Nat) {CV : Option Addr} {CX : Nat} {l : List Int} {from_ many : Int} {au : Nat} {Af Ac : Int} {Am : Option Addr} {Al : Nat} {Ah : List (List (List Int))} {Ae : Option Addr} {Ad : Nat} {Ab : List Int} {Ao : Option Addr} {An : Nat} {Ak : List (Int × Int × Int)} {av : Nat × Nat} {ae : Nat} {hour : Int} {al : Nat × Nat} {ab : Nat} {AP : Int} {aj : Nat × Nat} {ad : Nat} {BP : Option Addr} {BO : Nat} {AU : List Int} {ak : Nat × Nat} {ai : Nat} {aq : Option Addr} {ar : Nat} {out : List Int} {aa : Nat} {found : Bool} {ah : Nat} {ao : Nat × Nat} {F : FS} (_ : At 1 eI F CV CX l) (_ : F au = some (.cells #[vI Af, vI Ac, sL Am Ah.length Al, sL Ae Ab.length Ad, sL Ao Ak.length An] 26 av)) (_ : At 1 (CM 1 eJ) F Am Al Ah) (_ : At 1 eI F Ae Ad Ab) (_ : At 3 (Br eI eP) F Ao An Ak) (_ : F ae = some (.cells #[vI hour] 3 al)) (_ : F ab = some (.cells #[vI AP] 3 aj)) (_ : F ad = some (.cells #[sL BP AU.length BO] 22 ak)) (_ : At 1 eI F BP BO AU) (_ : At 1 eI F aq ar out) (_ : F ah = some (.cells (#[.func (.func 103) #[] #[pO au, pO ae, pO ab, pO ad, pO ai, pO aa, pO ah]]) 151 ao)) {r : Bool} {r2 : List Int} {r3 : Bool} , Iw fu l from_ many Af Ac Ah Ab Ak hour AP AU out found = some (r, r2, r3) → SH.Spec Tryz.prog 103 #[sL CV l.length CX, vI from_, vI many, pO au, pO ae, pO ab, pO ad, pO ai, pO aa, pO ah] F [(ai, ce #[sL aq out.length ar] 22), (aa, ce #[.bool found] 4)] fun F' L' v => ∃ (aw : Option Addr) (ax : Nat), v = .bool r ∧ L' = [(ai, ce #[sL aw r2.length ax] 22), (aa, ce #[.bool r3] 4)] ∧ At 1 eI F' aw ax r2 := by
  intro fu
  induction fu with
  | zero => intros; rename_i hr; rw [Iw] at hr; cases hr
  | succ fu ih => intros; rename_i hr; rw [Iw] at hr; exact NF ih (by assumption) (by assumption) (by assumption) (by assumption) (by assumption) (by assumption) (by assumption) (by assumption) (by assumption) (by assumption) (by assumption) hr
set_option maxHeartbeats 1000000 in
theorem MG {AU : List Int} (ad : At 1 (CM 1 eJ) F Am Al Ah) (aa : At 1 eI F Ae Ad Ab) (ae : At 3 (Br eI eP) F Ao An Ak) (ab : At 1 eI F BP BO AU) {r : List Int} {r2 : Int} (hr : K0 Af Ac Ah Ab Ak AP hour AU = some (r, r2)) :
    SH.Spec Tryz.prog 54 #[.agg #[vI Af, vI Ac, sL Am Ah.length Al, sL Ae Ab.length Ad, sL Ao Ak.length An], vI AP, vI hour, sL BP AU.length BO] F [] fun F' L' v => ∃ (ra : Option Addr) (rc : Nat), v = .tuple #[sL ra r.length rc, vI r2] ∧ L' = [] ∧ At 1 eI F' ra rc r := by
 refine sp func54 ntmps54 fun K _ _ => ?_
 rw [K0] at hr
 refine AG ?_
 refine BB rfl rfl ?_; intro b1 cz
 refine BB rfl rfl ?_; intro b2 da
 refine BB rfl rfl ?_; intro b3 db
 refine BB rfl rfl ?_; intro b4 dd
 refine ua (ua (Aa ?_))
 refine QE ?_
 refine Au (AG ?_)
 refine uv (Cv isAgg26 sizeOf26 3) ?_
 obtain ⟨n, h5, r6⟩ := Az hr
 refine cV call12 (DU ad aa ae h5) ?_
 refine ua (BR (um ?_))
 refine uv (BU rfl rfl) (Aa ?_)
 refine cQ (fun c7 => ?_) fun c7 => ?_
 ·have r8 := A2 r6 c7
  refine AG (um (ua (ua (Aa ?_))))
  refine kW kn ?_
  refine Aw (Av (noGoto_ret ?_))
  refine BM results54 (AT rfl) (AT rfl) (sr) ?_
  obtain ⟨rfl, rfl⟩ := Cd r8
  exact ⟨_, _, rfl, rfl, At.nil _ _ _⟩
 have r9 := A3 r6 c7
 refine Ar (Au ?_)
 obtain ⟨k, de, bo⟩ := Az r9
 refine jE ([(b4, ce #[sL BP AU.length BO] 22), (b3, ce #[vI hour] 3), (b2, ce #[vI AP] 3), (b1, ce #[vI Af, vI Ac, sL Am Ah.length Al, sL Ae Ab.length Ad, sL Ao Ak.length An] 26)]) [(4, pO b1), (5, pO b2), (6, pO b3), (7, pO b4), (33, .bool k)] ?_ ?_
 ·clear bo
  refine Aq (uv (Cv isAgg26 sizeOf26 3) (uv (Co isAgg3 2) ?_))
  obtain ⟨ok, df, cr⟩ := Az de
  refine cV call64 (H6 ad aa ae df) (uv (Bo rfl) (um ?_))
  rcases DX (!ok) with av | av
  ·have dg := bt cr av
   refine fB av (fB av (fB av (fB av ?_)))
   refine uv (AK (FK rfl av) rfl) (Aa ?_)
   obtain rfl := AL dg
   exact mi kr ⟨rfl, rfl, z5⟩
  have dh := bf cr av
  refine nB av (uv (Cv isAgg26 sizeOf26 3) (nB av (uv (Co isAgg3 1) (nB av ?_))))
  obtain ⟨fb, di, dk⟩ := Az dh
  refine cV call62 (Hj ad aa ae di) (nB av (uv (Bo rfl) (uv (AE (FK rfl av) rfl) (Aa ?_))))
  obtain rfl := AL dk
  exact mi kr ⟨rfl, rfl, z5⟩
 refine AV rfl (fun bp => ?_) (fun bp => ?_)
 ·have dm := bt bo bp
  refine AG (ua (ua (Aa ?_)))
  refine kW kn ?_
  refine Aw (Av (noGoto_ret ?_))
  refine BM results54 (AT rfl) (AT rfl) (sr) ?_
  obtain ⟨rfl, rfl⟩ := Cd dm
  exact ⟨_, _, rfl, rfl, At.nil _ _ _⟩
 have dp := bf bo bp
 refine Ar (Au (AG ?_))
 refine uv (Cv isAgg26 sizeOf26 3) (uv (Co isAgg22 0) ?_)
 obtain ⟨n2, dq, ct⟩ := Az dp
 refine cV call57 (JS ad aa ae ab dq) ?_
 refine ua (BR (um ?_))
 refine uv (BU rfl rfl) (Aa ?_)
 refine cQ (fun bq => ?_) fun bq => ?_
 ·have dr := A2 ct bq
  refine AG (um (ua (ua (Aa ?_))))
  refine kW kn ?_
  refine Aw (Av (noGoto_ret ?_))
  refine BM results54 (AT rfl) (AT rfl) (sr) ?_
  obtain ⟨rfl, rfl⟩ := Cd dr
  exact ⟨_, _, rfl, rfl, At.nil _ _ _⟩
 have dt := A3 ct bq
 refine Ar (Au (AG ?_))
 refine uv (Cv isAgg26 sizeOf26 3) ?_
 obtain ⟨d, l, n3, du, cu⟩ := N7 dt
 refine c0 call86 (LK ad aa ae du) ?_; rintro _ dv _ az dw ⟨fe, ff, fg, fh, dx, rfl, rfl, dy, dz⟩
 replace ad := ad.mono (Ay kJ) az
 replace aa := aa.m1 az
 replace ae := ae.mono (Ai kI kP) az
 replace ab := ab.m1 az
 refine AB (lp (ln rfl)) (kO (kf (fS fO) (kf (fS fO) (kf (fS fO) (kf (fS fO) kr)))) ?_)
 refine um (ox rfl rfl rfl (ox rfl rfl rfl (ox rfl rfl rfl (ua (ua (ua (BR (um ?_))))))))
 refine uv (BU rfl rfl) (Aa ?_)
 refine cQ (fun br => ?_) fun br => ?_
 ·have eb := A2 cu br
  refine AG (um (ua (ua (Aa ?_))))
  refine kW kn ?_
  refine Aw (Av (noGoto_ret ?_))
  refine BM results54 (AT rfl) (AT rfl) (sr) ?_
  obtain ⟨rfl, rfl⟩ := Cd eb
  exact ⟨_, _, rfl, rfl, At.nil _ _ _⟩
 have ec := A3 cu br
 refine Ar (AG ?_)
 refine Bu rfl zeroValue22 ?_; intro bc ef
 refine BR ?_
 refine Bu rfl zeroValue4 ?_; intro bd eg
 refine BL (i := 0) sizeOf4 rfl rfl rfl rfl (DD rfl) (AB rfl ?_)
 refine Aa (Au ?_)
 refine QF ?_
 obtain ⟨out, found, eh, bu⟩ := Ca ec
 refine AO (fun e1 F1 L1 => ∃ (bw : Option Addr) (bx : Nat), AQ dv F1 ∧ L1 = [(bc, ce #[sL bw out.length bx] 22), (bd, ce #[.bool found] 4)] ∧ e1.sub [(15, pO bc), (16, pO bd)] ∧ At 1 eI F1 bw bx out) ?_ ?_
 ·clear bu
  refine AG (uv (Ap CC rfl) (uv (Co isAgg23 5) (uv (AJ underlying23 rfl) ?_)))
  obtain ⟨ei, ej⟩ := AF eh
  refine uv (A4 rfl rfl ei) ?_
  refine um (Aa ?_)
  refine As (kW (kc (kc (kc (kc (kc (kc kn)))))) ?_)
  refine BN 5 rfl cz ?_; intro fi aw ah
  refine E5 rfl ?_
  replace ad := ad.mono (Ay kJ) aw
  replace aa := aa.m1 aw
  replace ae := ae.mono (Ai kI kP) aw
  replace ab := ab.m1 aw
  refine BN 4 rfl da ?_; intro fj ar ak
  refine E5 rfl ?_
  replace ad := ad.mono (Ay kJ) ar
  replace aa := aa.m1 ar
  replace ae := ae.mono (Ai kI kP) ar
  replace ab := ab.m1 ar
  replace ah := ar _ _ ah
  refine BN 3 rfl db ?_; intro fk aq au
  refine E5 rfl ?_
  replace ad := ad.mono (Ay kJ) aq
  replace aa := aa.m1 aq
  replace ae := ae.mono (Ai kI kP) aq
  replace ab := ab.m1 aq
  replace ah := aq _ _ ah
  replace ak := aq _ _ ak
  refine BN 2 rfl dd ?_; intro en al ax
  refine E5 rfl ?_
  replace ad := ad.mono (Ay kJ) al
  replace aa := aa.m1 al
  replace ae := ae.mono (Ai kI kP) al
  replace ab := ab.m1 al
  replace ah := al _ _ ah
  replace ak := al _ _ ak
  replace au := al _ _ au
  obtain ⟨eo, ep⟩ := AF ej
  refine MP (fun bk e1 F1 L1 => ∃ (k2 : Int), B0 0 ((Ah.length : Int) + 1) k2 bk ∧ ∃ (ay : List Int) (ao : Bool) (bg : Option Addr) (bh : Nat), HB Af Ac Ah Ab Ak AP hour AU bk k2 ay ao = some (out, found) ∧ AQ en F1 ∧ L1 = [(bd, ce #[.bool ao] 4), (bc, ce #[sL bg ay.length bh] 22)] ∧ e1.sub [(4, pO b1), (5, pO b2), (6, pO b3), (7, pO b4), (15, pO bc), (16, pO bd), (52, vI ((Ah.length : Int) + 1)), (53, vI k2)] ∧ At 1 eI F1 bg bh ay) _ (m0 kr ⟨_, B0.start _ _, [], false, none, 0, ep, AQ.refl _, rfl, z8, At.nil _ _ _⟩) ?_
  rintro bk e1 fl _ ⟨k2, ba, ay, ao, bg, bh, bl, ai, rfl, bz, bm⟩
  refine AA _ bz ?_
  replace ad := ad.mono (Ay kJ) ai
  replace aa := aa.m1 ai
  replace ae := ae.mono (Ai kI kP) ai
  replace ab := ab.m1 ai
  replace ah := ai _ _ ah
  replace ak := ai _ _ ak
  replace au := ai _ _ au
  replace ax := ai _ _ ax
  refine AG (uv (AY rfl rfl) ?_)
  refine Aa (Au ?_)
  refine cQ (fun bn => ?_) fun bn => ?_
  ·obtain ⟨bk, rfl, cb⟩ := B0.succ ba bn
   rw [HB] at bl
   refine Ar (Au ?_)
   refine As ?_
   refine AG (um (ua (BR ?_)))
   refine Bu rfl zeroValue151 ?_; intro fm cc
   refine BR (uv (CP rfl rfl) (BL (i := 0) sizeOf151 rfl rfl rfl rfl (DD rfl) (AB rfl (BR (uv (Co isAgg151 0) (um ?_))))))
   refine Bj 0 rfl cc ?_; intro fo aj cf
   refine AB rfl ?_
   replace ad := ad.mono (Ay kJ) aj
   replace aa := aa.m1 aj
   replace ae := ae.mono (Ai kI kP) aj
   replace ab := ab.m1 aj
   replace bm := bm.m1 aj
   replace ah := aj _ _ ah
   replace ak := aj _ _ ak
   replace au := aj _ _ au
   replace ax := aj _ _ ax
   obtain ⟨fp, cg, bb, er, cv⟩ := N7 bl
   refine MW (Lb := [(bc, ce #[sL bg ay.length bh] 22), (bd, ce #[.bool ao] 4)]) (Lr := []) rfl call103 rfl rfl rfl (((fC fO).trans (pC pR))) ((Oc FU) (At.nil _ _ _) ah ad aa ae au ak ax ab bm cf er) ?_; rintro _ fq _ bj et eu ⟨cw, cx, rfl, rfl, cy⟩
   refine AB (lb (lb (ln rfl))) (Aa ?_)
   refine AV rfl (fun cj => ?_) (fun cj => ?_)
   ·have ew := bt cv cj
    refine AM (Kv rfl ?_)
    refine Aj (Aj ?_)
    refine Ax ?_
    obtain ⟨rfl, rfl⟩ := Cd ew
    exact mi kr ⟨cw, cx, ((((((aw.trans ar).trans aq).trans al).trans ai).trans aj).trans bj), rfl, z2, cy⟩
   have ey := bf cv cj
   refine Ar (AD (id := 1) (Aq ?_))
   refine uv (A4 rfl rfl (B0.CE ba bn eo)) ?_
   refine um (Aa ?_)
   refine lf ?_
   exact mf (kf (fC fO) kr) ⟨_, cb, cg, bb, cw, cx, ey, ((ai.trans aj).trans bj), rfl, z8, cy⟩
  obtain rfl := B0.zero ba bn
  rw [HB] at bl
  refine AM (Aj (Aj ?_))
  refine Ax ?_
  obtain ⟨rfl, rfl⟩ := Cd bl
  exact mi (kf (fC fO) kr) ⟨bg, bh, ((((aw.trans ar).trans aq).trans al).trans ai), rfl, z2, bm⟩
 rintro e1 ft _ ⟨bw, bx, ez, rfl, ck, fa⟩
 refine AA _ ck ?_
 refine Au (AG ?_)
 refine uv (Co isAgg4 1) (uv (Bo rfl) (Aa ?_))
 refine AV rfl (fun cn => ?_) (fun cn => ?_)
 ·have cp := bt bu cn
  refine AG (ua (ua (Aa ?_)))
  refine kW kn ?_
  refine Aw (Av (noGoto_ret ?_))
  refine BM results54 (AT rfl) (AT rfl) (sr) ?_
  obtain ⟨rfl, rfl⟩ := Cd cp
  exact ⟨_, _, rfl, rfl, At.nil _ _ _⟩
 have cq := bf bu cn
 refine Ar (AG ?_)
 refine uv (Co isAgg22 0) ?_
 refine ua (ua (Aa ?_))
 refine kW kn ?_
 refine Aw (noGoto_ret ?_)
 refine BM results54 (AT rfl) (AT rfl) (sr) ?_
 obtain ⟨rfl, rfl⟩ := Cd cq
 exact ⟨_, _, rfl, rfl, fa⟩
set_option maxHeartbeats 1000000 in
theorem CO {s1 s2 : List (List Int)} {eq : ((List Int) × (List Int)) → Option Bool} (aa : At 1 eJ F IH IF s1) (ae : At 1 eJ F IU I0 s2) (ab : J2 Tryz.prog F Ol eq_1 eq_2 (Br eJ eJ) Value.bool eq) {r : Bool} (hr : BA s1 s2 eq = some r) :
    Bp Tryz.prog 117 #[sL IH s1.length IF, sL IU s2.length I0, .func (.func Ol) eq_1 eq_2] F (.bool r) := by
 refine sp func117 ntmps117 fun K _ _ => ?_
 rw [BA] at hr
 refine AG (ua (Aa (Au (AG (um ?_)))))
 refine uv (AJ underlying74 rfl) (um (uv (AJ underlying74 rfl) (uv (BU rfl rfl) (Aa ?_))))
 obtain ⟨g2, r3⟩ := AF hr
 refine B9 rfl (fun c4 => absurd c4 g2) (fun c4 => ?_)
 refine Ar ?_
 obtain ⟨h5, r6⟩ := IK r3
 refine jE ([]) [] ?_ ?_
 ·clear r6
  refine AG (um ?_)
  refine uv (AJ underlying74 rfl) ?_
  refine um (Aa ?_)
  refine As ?_
  refine A6 (fun ax e1 F1 L1 => LA s1 ax fun tl k => A7 s2 eq tl k = some () ∧ F = F1 ∧ L1 = [] ∧ e1.sub [(1, sL IU s2.length I0), (2, .func (.func Ol) eq_1 eq_2), (15, sL IH s1.length IF), (16, vI (s1.length : Int)), (17, vI k)]) _ (m0 kr ⟨_, _, rfl, Bq.start _, h5, rfl, rfl, z5⟩) ?_
  rintro ax e1 _ _ ⟨tl, k, bd, ah, r9, rfl, rfl, ai⟩
  refine AA _ ai (AG (uv (AY rfl rfl) ?_))
  refine Aa (Au ?_)
  refine cQ (fun ad => ?_) fun ad => ?_
  ·obtain ⟨x, bu, rfl, aj, ay, ak⟩ := Bq.succ ah ad
   rw [A7] at r9
   refine Ar (Au ?_)
   refine As ?_
   refine AG (um ?_)
   obtain ⟨bw, bx, bz, bg, al, ao, az, ⟨cb, cc, rfl, bh⟩, bj, aq⟩ := At.ta kJ aa ay.1 aj
   refine uv (C0 underlying74 sizeOf77 al ay) (uv (AS isAgg77 rfl (ao _) (aq 0 (by decide))) ?_)
   refine ua (ua (BR (um (um ?_))))
   obtain ⟨x2, ba, ar, bk⟩ := BG r9
   obtain ⟨cf, cg, cj, bl, au, av, bb, ⟨ck, cn, rfl, bm⟩, bn, aw⟩ := At.ta kJ ae ba.1 ar
   refine uv (C0 underlying74 sizeOf77 au ba) (uv (AS isAgg77 rfl (av _) (aw 0 (by decide))) ?_)
   refine ua (BR (um (um (um ?_))))
   obtain ⟨ok, bo, bp⟩ := Az bk
   refine Gx rfl ab.1 rfl rfl rfl (ab.2 _ (AQ.refl _) _ _ _ ⟨_, _, rfl, ⟨_, _, rfl, bh⟩, ⟨_, _, rfl, bm⟩⟩ bo) (uv (Bo rfl) (Aa ?_))
   obtain ⟨bq, br⟩ := AF bp
   refine AV rfl (fun bc => absurd (bq.symm.trans bc) (by decide)) (fun bc => ?_)
   refine Ar (AD (id := 1) (Aq ?_))
   refine uv (A4 rfl rfl (Bq.CE ah ad (At.lt aa))) ?_
   refine um (Aa ?_)
   subst bd; exact le kr ⟨_, _, rfl, ak, br, rfl, rfl, z5⟩
  obtain rfl := Bq.zero ah ad
  rw [A7] at r9
  refine AM (Aj (Aj ?_))
  refine Ax ?_
  clear r9
  exact mi kr ⟨rfl, rfl, (sn _)⟩
 refine AG (ua (Aa (Aw ?_)))
 refine B7 results117 ?_
 obtain rfl := AL r6
 exact rfl
set_option maxHeartbeats 1000000 in
theorem GQ {s1 s2 : List Int} (aa : At 1 eI F IH IF s1) (ad : At 1 eI F IU I0 s2) {r : Bool} (hr : B5 s1 s2 = some r) :
    Bp Tryz.prog 118 #[sL IH s1.length IF, sL IU s2.length I0] F (.bool r) := by
 refine sp func118 ntmps118 fun K _ _ => ?_
 rw [B5] at hr
 refine AG (ua (Aa (Au (AG (um ?_)))))
 refine uv (AJ underlying77 rfl) (um (uv (AJ underlying77 rfl) (uv (BU rfl rfl) (Aa ?_))))
 obtain ⟨g2, r3⟩ := AF hr
 refine B9 rfl (fun c4 => absurd c4 g2) (fun c4 => ?_)
 refine Ar ?_
 obtain ⟨h5, r6⟩ := IK r3
 refine jE ([]) [] ?_ ?_
 ·clear r6
  refine AG (um ?_)
  refine uv (AJ underlying77 rfl) ?_
  refine um (Aa ?_)
  refine As ?_
  refine A6 (fun aw e1 F1 L1 => LA s1 aw fun tl k => BH s2 tl k = some () ∧ F = F1 ∧ L1 = [] ∧ e1.sub [(0, sL IH s1.length IF), (1, sL IU s2.length I0), (12, vI (s1.length : Int)), (13, vI k)]) _ (m0 kr ⟨_, _, rfl, Bq.start _, h5, rfl, rfl, z4⟩) ?_
  rintro aw e1 _ _ ⟨tl, k, bc, ae, r9, rfl, rfl, ah⟩
  refine AA _ ah (AG (uv (AY rfl rfl) ?_))
  refine Aa (Au ?_)
  refine cQ (fun ab => ?_) fun ab => ?_
  ·obtain ⟨x, bn, rfl, ai, ax, aj⟩ := Bq.succ ae ab
   rw [BH] at r9
   refine Ar (Au ?_)
   refine As ?_
   refine AG (um (ua ?_))
   refine dN ?_
   refine wm (wm ?_)
   obtain ⟨bo, bp, bq, bd, ak, al, ay, rfl, bg, ao⟩ := At.ta kI aa ax.1 ai
   refine wv (C0 underlying77 sizeOf78 ak ax) (wv (AS isAgg78 rfl (al _) (ao 0 (by decide))) ?_)
   refine wm (wm ?_)
   obtain ⟨x2, az, aq, bh⟩ := BG r9
   obtain ⟨br, bu, bw, bj, ar, au, ba, rfl, bk, av⟩ := At.ta kI ad az.1 aq
   refine wv (C0 underlying77 sizeOf78 ar az) (wv (AS isAgg78 rfl (au _) (av 0 (by decide))) (wv (BU rfl rfl) (B6 ?_)))
   obtain ⟨bl, bm⟩ := AF bh
   refine B9 rfl (fun bb => absurd bb bl) (fun bb => ?_)
   refine Ar (AD (id := 1) (Aq ?_))
   refine uv (A4 rfl rfl (Bq.CE ae ab (At.lt aa))) ?_
   refine um (Aa ?_)
   subst bc; exact le kr ⟨_, _, rfl, aj, bm, rfl, rfl, z4⟩
  obtain rfl := Bq.zero ae ab
  rw [BH] at r9
  refine AM (Aj (Aj ?_))
  refine Ax ?_
  clear r9
  exact mi kr ⟨rfl, rfl, (sn _)⟩
 refine AG (ua (Aa (Aw ?_)))
 refine B7 results118 ?_
 obtain rfl := AL r6
 exact rfl
set_option maxHeartbeats 1000000 in
theorem JR {a b : List (List Int)} (ab : At 1 eJ F P3 P9 a) (ad : At 1 eJ F PT P6 b) {r : Bool} (hr : FG a b = some r) :
    Bp Tryz.prog 65 #[sL P3 a.length P9, sL PT b.length P6] F (.bool r) := by
 refine sp func65 ntmps65 fun K _ _ => ?_
 rw [FG] at hr
 refine AG (ua (BR (um (um ?_))))
 have ae : J2 Tryz.prog F 118 #[] #[] (Br eJ eJ) Value.bool (fun aa : (List Int) × (List Int) => B5 aa.1 aa.2) := ⟨call118, fun F2 h2 vs aa r ha hr => by obtain ⟨_, _, rfl, ⟨a1, c2, rfl, h3⟩, ⟨a4, c5, rfl, h6⟩⟩ := ha; exact GQ h3 h6 hr⟩
 obtain ⟨ok, h8, r9⟩ := Az hr
 refine cV call117 (CO ab ad ae h8) ?_
 refine ua (Aa (Aw ?_))
 refine B7 results65 ?_
 obtain rfl := AL r9
 exact rfl
set_option maxHeartbeats 1000000 in
theorem CA {r : Bool} (hr : Cc = some r) :
    Bp Tryz.prog 13 #[] F (.bool r) := by
 refine sp func13 ntmps13 fun K _ _ => ?_
 rw [Cc] at hr
 refine AG (ua (BR ?_))
 obtain ⟨n, n2, l, l2, l3, h1, r2⟩ := Ez hr
 refine c0 call4 (C6 h1) ?_; rintro _ F3 _ ti j0 ⟨a7, p3, c8, p4, tj, p5, tk, j1, tm, p6, tn, j2, rfl, rfl, da, db, dd⟩
 replace da := da.new fun p hp => j0 p (by simp [hp])
 replace db := db.new fun p hp => j0 p (by simp [hp])
 replace dd := dd.new fun p hp => j0 p (by simp [hp])
 refine AB (lp (lp (lp (ln rfl)))) ?_
 obtain ⟨n3, n4, p7, p8⟩ := Ca r2
 refine Bh rfl call27 rfl rfl rfl (pT pR (lp (lp (lp (ln rfl))))) (fun F2 h2 h3 => by rw [(AI.A1 da).1]; rw [(AI.A1 db).1]; rw [(AI.A1 dd).1]; exact MK (da.row (Ay kJ) h2 (aL h3)) (db.row kI h2 (aL (aR h3))) (dd.row (Ai kI kP) h2 (aL (aR (aR h3)))) p7) ?_
 refine um (ox rfl rfl rfl (ox rfl rfl rfl (ua (ua (BR ?_)))))
 obtain ⟨n5, n6, l4, l5, l6, p9, pa⟩ := Ez p8
 refine c0 call4 (C6 p9) ?_; rintro _ tp _ pb ei ⟨tq, tr, tt, j3, tu, tv, tw, j4, tx, tz, u0, j5, rfl, rfl, de, df, dg⟩
 replace de := de.new fun p hp => ei p (by simp [hp])
 replace df := df.new fun p hp => ei p (by simp [hp])
 replace dg := dg.new fun p hp => ei p (by simp [hp])
 refine AB (lp (lp (lp (ln rfl)))) ?_
 obtain ⟨l7, n7, pd, pe⟩ := Ca pa
 refine GH rfl call30 rfl rfl rfl (pT pR (ln (lp (lp (lp (ln rfl)))))) (fun F2 h2 h3 => by rw [(AI.A1 de).1]; rw [(AI.A1 df).1]; rw [(AI.A1 dg).1]; exact KY (de.row (Ay kJ) h2 (aL h3)) (df.row kI h2 (aL (aR h3))) (dg.row (Ai kI kP) h2 (aL (aR (aR h3)))) pd) (fun _ _ _ _ hq => by obtain ⟨pf, pg, ph, fj, rfl, rfl, ad⟩ := hq; exact ⟨_, _, _, _, rfl, rfl, ad.flat (fun _ _ h => h)⟩) ?_; rintro _ u1 _ pj j6 j7 ⟨pf, pg, ph, fj, rfl, rfl, ad⟩
 have j8 := ND (Lb' := []) (by rfl) j6 j7
 replace ad := ad.new fun p hp => j8 p (by simp [hp])
 refine AB (lp (ln (lp (lp (lp (ln rfl)))))) ?_
 refine um (ox rfl rfl rfl (ox rfl rfl rfl (ua (ua (BR ?_)))))
 obtain ⟨n8, n9, l8, l9, u5, pk, pn⟩ := Ez pe
 refine c0 call4 (C6 pk) ?_; rintro _ u6 _ j9 ej ⟨u7, u9, ub, po, uc, ud, ue, pq, uf, ug, uh, pr, rfl, rfl, dh, cc, au⟩
 replace ad := ad.m1 j9
 replace dh := dh.new fun p hp => ej p (by simp [hp])
 replace cc := cc.new fun p hp => ej p (by simp [hp])
 replace au := au.new fun p hp => ej p (by simp [hp])
 refine AB (lp (lp (lp (ln rfl)))) ?_
 obtain rfl := (AI.A1 dh).1
 refine A5 (Nat.le_refl _) (Ay kJ) fP dh ?_; intro ui en fk
 replace ad := ad.m1 en
 replace cc := cc.m1 en
 replace au := au.mono (Ai kI kP) en
 obtain rfl := (AI.A1 cc).1
 refine A5 (Nat.le_refl _) kI fP cc ?_; intro uj eo ja
 replace fk := fk.mono (Ay kJ) eo
 replace ad := ad.m1 eo
 replace au := au.mono (Ai kI kP) eo
 obtain rfl := (AI.A1 au).1
 refine A5 (Nat.le_refl _) (Ai kI kP) fP au ?_; intro uk ep pt
 replace fk := fk.mono (Ay kJ) ep
 replace ja := ja.m1 ep
 replace ad := ad.m1 ep
 obtain ⟨uo, uq, pv, pw⟩ := Ca pn
 refine c0 call36 (La fk ja pt pv) ?_; rintro _ ur _ fl o3 ⟨px, py, rfl, rfl, ae⟩
 replace ad := ad.m1 fl
 refine AB (ln rfl) ?_
 refine um (ox rfl rfl rfl (ox rfl rfl rfl (ua (ua (BR ?_)))))
 obtain ⟨p3, uu, uw, ux, uy, jb, jc⟩ := Ez pw
 refine c0 call4 (C6 jb) ?_; rintro _ pz _ dv cf ⟨q0, qb, qc, o4, qd, qe, qf, o7, qg, qh, qi, o8, rfl, rfl, ba, ao, aj⟩
 replace ae := ae.m2 dv
 replace ad := ad.m1 dv
 replace ba := ba.new fun p hp => cf p (by simp [hp])
 replace ao := ao.new fun p hp => cf p (by simp [hp])
 replace aj := aj.new fun p hp => cf p (by simp [hp])
 refine AB (lp (lp (lp (ln rfl)))) ?_
 obtain rfl := (AI.A1 ba).1
 refine A5 (Nat.le_refl _) (Ay kJ) fP ba ?_; intro qj bb cg
 replace ae := ae.m2 bb
 replace ad := ad.m1 bb
 replace ao := ao.m1 bb
 replace aj := aj.mono (Ai kI kP) bb
 obtain rfl := (AI.A1 ao).1
 refine A5 (Nat.le_refl _) kI fP ao ?_; intro qk bc er
 replace ae := ae.m2 bc
 replace cg := cg.mono (Ay kJ) bc
 replace ad := ad.m1 bc
 replace aj := aj.mono (Ai kI kP) bc
 obtain rfl := (AI.A1 aj).1
 refine A5 (Nat.le_refl _) (Ai kI kP) fP aj ?_; intro ql bd jd
 replace ae := ae.m2 bd
 replace cg := cg.mono (Ay kJ) bd
 replace er := er.m1 bd
 replace ad := ad.m1 bd
 obtain ⟨uz, va, je, jf⟩ := Ca jc
 refine c0 call31 (KZ cg er jd je) ?_; rintro _ qn _ dw fm ⟨qo, qp, qq, fo, rfl, rfl, ab⟩
 replace ae := ae.m2 dw
 replace ad := ad.m1 dw
 replace ab := ab.new fun p hp => fm p (by simp [hp])
 refine AB (lp (ln rfl)) ?_
 refine um (ox rfl rfl rfl (ox rfl rfl rfl (ua (ua (Aa (Au (AG (um ?_))))))))
 refine uv (BU rfl rfl) (um ?_)
 obtain ⟨et, jg⟩ := AF jf
 refine nF et (um (nF et ?_))
 refine uv (BU rfl rfl) (uv (AE (AR rfl et) rfl) (um ?_))
 obtain ⟨eu, jh⟩ := AF jg
 refine nF eu (um (nF eu ?_))
 refine uv (BU rfl rfl) (uv (AE (AR rfl eu) rfl) (um ?_))
 obtain ⟨ew, ji⟩ := AF jh
 refine nF ew (um (nF ew ?_))
 refine uv (BU rfl rfl) (uv (AE (AR rfl ew) rfl) (um ?_))
 obtain ⟨ey, jj⟩ := AF ji
 refine nF ey (um (nF ey ?_))
 refine uv (BU rfl rfl) (uv (AE (AR rfl ey) rfl) (um ?_))
 obtain ⟨cj, jk⟩ := AF jj
 refine nF cj (um (nF cj ?_))
 refine bA (cs := #[vI 1, vI 2, vI 3]) Bm [vI 1, vI 2, vI 3] ?_; intro jl fp
 refine nF cj ?_
 refine Bj 0 rfl fp ?_; intro jm ck fq
 refine AB rfl ?_
 replace ae := ae.m2 ck
 replace ad := ad.m1 ck
 replace ab := ab.m2 ck
 have jn : At 1 eI jm (aD jl) 3 [1, 2, 3] := At.oI fq
 obtain ⟨ok, jo, jq⟩ := Az jk
 refine Bh rfl call25 rfl rfl rfl (pT ((fS fP).trans (pA pR)) (lp (ln rfl))) (fun F2 h2 h3 => by rw [(AI.A1 ad).1]; exact Bv (ad.row kI h2 (aL h3)) (jn.mono kI h2) jo) ?_
 refine nF cj (uv (Bo rfl) (uv (AE (AR rfl cj) rfl) (um ?_)))
 obtain ⟨ax, jr⟩ := AF jq
 refine nB ax (um (nB ax ?_))
 refine bA (cs := #[vI 0]) OY [vI 0] ?_; intro di ft
 refine nB ax ?_
 refine bA (cs := #[vI 1]) OY [vI 1] ?_; intro dk fv
 refine nB ax ?_
 refine bA (cs := #[sL (aD di) 1 1, sL (aD dk) 1 1]) Rn [sL (aD di) 1 1, sL (aD dk) 1 1] ?_; intro js fw
 refine nB ax ?_
 refine Bj 2 rfl ft ?_; intro jt dx fx
 refine AB rfl ?_
 replace ae := ae.m2 dx
 replace ab := ab.m2 dx
 have cn : At 1 eI jt (aD di) 1 [0] := At.oI fx
 refine Bj 1 rfl fv ?_; intro ju cp fy
 refine AB rfl ?_
 replace ae := ae.m2 cp
 replace cn := cn.m1 cp
 replace ab := ab.m2 cp
 have ez : At 1 eI ju (aD dk) 1 [1] := At.oI fy
 refine Bj 0 rfl fw ?_; intro jv bg ga
 refine AB rfl ?_
 replace ae := ae.m2 bg
 replace cn := cn.m1 bg
 replace ez := ez.m1 bg
 replace ab := ab.m2 bg
 have jw : At 1 eJ jv (aD js) 2 [[0], [1]] := At.Bd kJ (vss := [[sL (aD di) [0].length 1], [sL (aD dk) [1].length 1]]) (xs := [[0], [1]]) ga (.cons ⟨_, _, rfl, cn⟩ (.cons ⟨_, _, rfl, ez⟩ .nil)) rfl (by simp [maxLen])
 obtain ⟨vb, jx, jz⟩ := Az jr
 refine cV call65 (JR ae jw jx) (nB ax (uv (Bo rfl) (uv (AE (FK rfl ax) rfl) (um ?_))))
 obtain ⟨av, kb⟩ := AF jz
 refine nB av (um (nB av ?_))
 refine bA (cs := #[vI 1, vI 2]) Bm [vI 1, vI 2] ?_; intro dm gb
 refine nB av ?_
 refine bA (cs := #[vI 2, vI 3]) Bm [vI 2, vI 3] ?_; intro dp gg
 refine nB av ?_
 refine bA (cs := #[vI 3, vI 4]) Bm [vI 3, vI 4] ?_; intro dq gh
 refine nB av ?_
 refine bA (cs := #[sL (aD dm) 2 2, sL (aD dp) 2 2, sL (aD dq) 2 2]) FI [sL (aD dm) 2 2, sL (aD dp) 2 2, sL (aD dq) 2 2] ?_; intro kh gi
 refine nB av ?_
 refine Bj 3 rfl gb ?_; intro kj gj gk
 refine AB rfl ?_
 replace ab := ab.m2 gj
 have ay : At 1 eI kj (aD dm) 2 [1, 2] := At.oI gk
 refine Bj 2 rfl gg ?_; intro kl dy gl
 refine AB rfl ?_
 replace ay := ay.m1 dy
 replace ab := ab.m2 dy
 have cq : At 1 eI kl (aD dp) 2 [2, 3] := At.oI gl
 refine Bj 1 rfl gh ?_; intro km cr gm
 refine AB rfl ?_
 replace ay := ay.m1 cr
 replace cq := cq.m1 cr
 replace ab := ab.m2 cr
 have fa : At 1 eI km (aD dq) 2 [3, 4] := At.oI gm
 refine Bj 0 rfl gi ?_; intro gn bh gp
 refine AB rfl ?_
 replace ay := ay.m1 bh
 replace cq := cq.m1 bh
 replace fa := fa.m1 bh
 replace ab := ab.m2 bh
 have ko : At 1 eJ gn (aD kh) 3 [[1, 2], [2, 3], [3, 4]] := At.Bd kJ (vss := [[sL (aD dm) [1, 2].length 2], [sL (aD dp) [2, 3].length 2], [sL (aD dq) [3, 4].length 2]]) (xs := [[1, 2], [2, 3], [3, 4]]) gp (.cons ⟨_, _, rfl, ay⟩ (.cons ⟨_, _, rfl, cq⟩ (.cons ⟨_, _, rfl, fa⟩ .nil))) rfl (by simp [maxLen])
 obtain ⟨vc, kt, ku⟩ := Az kb
 refine Bh rfl call34 rfl rfl rfl (pT pR (lp (ln rfl))) (fun F2 h2 h3 => by rw [(AI.A1 ab).1]; exact Gt (ab.row kJ h2 (aL h3)) (ko.mono kJ h2) kt) ?_
 refine nB av (uv (Bo rfl) (uv (AE (FK rfl av) rfl) (Aa ?_)))
 obtain ⟨kv, kz⟩ := AF ku
 refine AV rfl (fun gq => absurd (kv.symm.trans gq) (by decide)) (fun gq => ?_)
 refine Ar (AG ?_)
 refine uv (BX (v := .agg #[vI 0, vI 0, .bool true]) rfl (by intro w; kernel_rfl)) ?_
 refine uv (BX (v := .agg #[vI 0, vI 0, .bool false]) rfl (by intro w; kernel_rfl)) ?_
 refine bA (cs := #[vI 0, vI 0, .bool true, vI 0, vI 0, .bool false]) K8 [.agg #[vI 0, vI 0, .bool true], .agg #[vI 0, vI 0, .bool false]] ?_; intro fb gr
 have ah : AI K.w0.heap.size 29 3 (Br eI (Br eI bE)) gn (aD fb) 2 2 [(0, 0, true), (0, 0, false)] [(fb, ce #[vI 0, vI 0, .bool true, vI 0, vI 0, .bool false] 29)] := AI.Bd (vss := [[vI 0, vI 0, .bool true], [vI 0, vI 0, .bool false]]) (Ai kI (Ai kI Be)) gr (.cons ⟨_, _, rfl, rfl, ⟨_, _, rfl, rfl, rfl⟩⟩ (.cons ⟨_, _, rfl, rfl, ⟨_, _, rfl, rfl, rfl⟩⟩ .nil)) rfl rfl (by simp [maxLen])
 generalize dr : ([(fb, ce #[vI 0, vI 0, .bool true, vI 0, vI 0, .bool false] 29)] : LH) = Lb216 at ah
 refine Bc (L' := Lb216 ++ (fo ++ (fj ++ (j3 ++ (j4 ++ (j5 ++ (p4 ++ (j1 ++ (j2 ++ []))))))))) (by rw [← dr]; exact fO) ?_
 refine ua (BR ?_)
 obtain ⟨vd, ve, vf, vg, vh, l0, ld⟩ := Ez kz
 refine c0 call4 (C6 l0) ?_; rintro _ qs _ gu ct ⟨qt, qu, qw, o9, qx, qy, qz, oc, r0, rb, re, od, rfl, rfl, bj, bk, bl⟩
 replace ah := ah.mono (Ai kI (Ai kI Be)) gu
 replace bj := bj.new fun p hp => ct p (by simp [hp])
 replace bk := bk.new fun p hp => ct p (by simp [hp])
 replace bl := bl.new fun p hp => ct p (by simp [hp])
 refine AB (lp (lp (lp (ln rfl)))) (um ?_)
 obtain ⟨vi, vj, lg, lh⟩ := Ca ld
 refine GH rfl call49 rfl rfl rfl (pT pR (ln (lp (lp (lp (lp (ln rfl))))))) (fun F2 h2 h3 => by have h0 := Mb (bj.row (Ay kJ) h2 (aL h3)) (bk.row kI h2 (aL (aR h3))) (bl.row (Ai kI kP) h2 (aL (aR (aR h3)))) (ah.row (Ai kI (Ai kI Be)) h2 (aL (aR (aR (aR h3))))) lg; rw [← (AI.A1 bj).1] at h0; rw [← (AI.A1 bk).1] at h0; rw [← (AI.A1 bl).1] at h0; rw [← (AI.A1 ah).1] at h0; exact h0) (fun _ _ _ _ hq => by obtain ⟨lj, lk, ll, gv, rfl, rfl, aa⟩ := hq; exact ⟨_, _, _, _, rfl, rfl, aa.flat (fun _ _ h => h)⟩) ?_; rintro _ rf _ gw gz ia ⟨lj, lk, ll, gv, rfl, rfl, aa⟩
 replace ah := ah.mono (Ai kI (Ai kI Be)) gw
 have ib := ND (Lb' := []) (by rfl) gz ia
 replace aa := aa.new fun p hp => ib p (by simp [hp])
 refine AB (lp (ln (lp (lp (lp (lp (ln rfl))))))) ?_
 refine um (ox rfl rfl rfl (ox rfl rfl rfl (ua (ua (BR ?_)))))
 obtain ⟨p5, vk, vl, vm, vn, lq, lr⟩ := Ez lh
 refine c0 call4 (C6 lq) ?_; rintro _ rh _ dz cu ⟨ri, rj, rk, oe, rl, rm, rp, og, rq, rr, ru, oh, rfl, rfl, bm, bn, bo⟩
 replace ah := ah.mono (Ai kI (Ai kI Be)) dz
 replace aa := aa.m1 dz
 replace bm := bm.new fun p hp => cu p (by simp [hp])
 replace bn := bn.new fun p hp => cu p (by simp [hp])
 replace bo := bo.new fun p hp => cu p (by simp [hp])
 refine AB (lp (lp (lp (ln rfl)))) ?_
 refine uv (BX (v := .agg #[vI 1, vI 0, .bool false]) rfl (by intro w; kernel_rfl)) ?_
 obtain ⟨vo, vp, lu, lv⟩ := Ca lr
 refine Bh rfl call43 rfl rfl rfl (pT pR (lp (lp (lp (ln rfl))))) (fun F2 h2 h3 => by rw [(AI.A1 bm).1]; rw [(AI.A1 bn).1]; rw [(AI.A1 bo).1]; exact LG (bm.row (Ay kJ) h2 (aL h3)) (bn.row kI h2 (aL (aR h3))) (bo.row (Ai kI kP) h2 (aL (aR (aR h3)))) lu) ?_
 refine um (ox rfl rfl rfl (ox rfl rfl rfl (ua (ua (Aa (Au ?_))))))
 refine BK [(.still, 1), (.still, 2), (.still, 3), (.seq, 0), (.seq, 4), (.still, 5), (.still, 6), (.still, 7), (.still, 8), (.seq, 9)] (by kernel_rfl) (by kernel_rfl) (trivial) (by rfl) (by kernel_rfl) (mS [9] rfl (A9 rfl) ?_)
 obtain ⟨x, ic, ie, lx⟩ := BG lv
 obtain ⟨ry, rz, s5, oi, ig, ij, cv, ⟨_, _, rfl, rfl, ⟨_, _, rfl, rfl, rfl⟩⟩, ik, il⟩ := AI.at (Ai kI (Ai kI Be)) ah (L := Lb216 ++ []) fP ic.1 ie
 refine mS [91] rfl (BZ underlying30 sizeOf29 rfl ig rfl (AI.idx ah ic)) (mL [92] (Lb216 ++ []) rfl (s0 (s3 (s3 (s3 (s3 (s3 (s3 (s3 (s4 (s3 (s3 (s3 (s3 (s3 (s3 (s3 (s3 sr))))))))))))))))) (fun H F' L' s6 s7 => Bn isAgg29 sizeOf29 rfl (ij.ext s6 s7) cv (Bi cv ik il)) ?_)
 refine ⟨_, [], rfl, rfl, (sn _), by kernel_rfl, ?_⟩; intro H
 obtain ⟨s8, s9, vq, vr, vt, ly, ma⟩ := Ez lx
 refine c0 call4 (C6 ly) ?_; rintro _ sa _ eb cw ⟨mb, mc, me, oj, mg, mh, mj, oo, ml, mn, mo, oq, rfl, rfl, bp, aq, ak⟩
 replace aa := aa.m1 eb
 replace bp := bp.new fun p hp => cw p (by simp [hp])
 replace aq := aq.new fun p hp => cw p (by simp [hp])
 replace ak := ak.new fun p hp => cw p (by simp [hp])
 refine AB (lp (lp (lp (ln rfl)))) ?_
 refine Aa ⟨_, rfl, eb, [3, 2, 1], by kernel_rfl, .inl (.inr (fun d h => by cases h; rfl)), (fc (s0 (s3 (s3 (s3 (s3 (s3 (s3 (s3 (s3 (s3 (s3 (s4 (s3 (s3 (s3 (s3 (s3 (s3 (s3 (s3 sr)))))))))))))))))))) (fc sm (fc sm nm))), ?_⟩
 refine ⟨_, [(90, .agg #[vI s8, vI s9, sL mb mc me, sL mg mh mj, sL ml mn mo]), (93, .agg #[vI x.1, vI x.2.1, .bool x.2.2])], rfl, rfl, z2, by kernel_rfl, ?_⟩; intro H
 obtain rfl := (AI.A1 bp).1
 refine A5 (Nat.le_refl _) (Ay kJ) fP bp ?_; intro sb bq cx
 replace aa := aa.m1 bq
 replace aq := aq.m1 bq
 replace ak := ak.mono (Ai kI kP) bq
 obtain rfl := (AI.A1 aq).1
 refine A5 (Nat.le_refl _) kI fP aq ?_; intro sd br fe
 replace cx := cx.mono (Ay kJ) br
 replace aa := aa.m1 br
 replace ak := ak.mono (Ai kI kP) br
 obtain rfl := (AI.A1 ak).1
 refine A5 (Nat.le_refl _) (Ai kI kP) fP ak ?_; intro se bu mq
 replace cx := cx.mono (Ay kJ) bu
 replace fe := fe.m1 bu
 replace aa := aa.m1 bu
 obtain ⟨sf, ot, mr, mu⟩ := Ca ma
 refine c0 call44 (J1 cx fe mq mr) ?_; rintro _ sg _ ec ou ⟨mv, mw, rfl, rfl, ai⟩
 replace aa := aa.m1 ec
 refine AB (ln rfl) ?_
 refine Aa ⟨_, rfl, (((bq.trans br).trans bu).trans ec), [], by kernel_rfl, .inl (.inl rfl), nm, ?_⟩
 refine mS [94] rfl (A9 rfl) (mS (v := sL mv sf.length mw) [89] rfl (Nh rfl rfl) (mS (v := vI ot) [89] rfl (Nh rfl rfl) (mS [95] rfl (Da rfl) ?_)))
 refine ⟨_, [(96, vI ot)], rfl, rfl, z1, by kernel_rfl, ?_⟩; intro H
 refine ua ?_
 refine Aa ⟨_, rfl, AQ.refl _, [], by kernel_rfl, .inl (.inl rfl), nm, ?_⟩
 refine Ce (AG ?_)
 obtain ⟨p6, vu, vv, vw, vx, mx, na⟩ := Ez mu
 refine c0 call4 (C6 mx) ?_; rintro _ sh _ ef cy ⟨si, sj, sk, ow, sq, ss, su, oy, sv, sw, sx, oz, rfl, rfl, bw, ar, al⟩
 replace ai := ai.m1 ef
 replace aa := aa.m1 ef
 replace bw := bw.new fun p hp => cy p (by simp [hp])
 replace ar := ar.new fun p hp => cy p (by simp [hp])
 replace al := al.new fun p hp => cy p (by simp [hp])
 refine AB (lp (lp (lp (ln rfl)))) ?_
 refine bA (cs := #[vI 0]) Bm [vI 0] ?_; intro nc im
 obtain rfl := (AI.A1 bw).1
 refine A5 (Nat.le_refl _) (Ay kJ) (fC fP) bw ?_; intro sy bx az
 replace ai := ai.m1 bx
 replace aa := aa.m1 bx
 replace ar := ar.m1 bx
 replace al := al.mono (Ai kI kP) bx
 obtain rfl := (AI.A1 ar).1
 refine A5 (Nat.le_refl _) kI (fC fP) ar ?_; intro tc bz cz
 replace ai := ai.m1 bz
 replace az := az.mono (Ay kJ) bz
 replace aa := aa.m1 bz
 replace al := al.mono (Ai kI kP) bz
 obtain rfl := (AI.A1 al).1
 refine A5 (Nat.le_refl _) (Ai kI kP) (fC fP) al ?_; intro td cb ff
 replace ai := ai.m1 cb
 replace az := az.mono (Ay kJ) cb
 replace cz := cz.m1 cb
 replace aa := aa.m1 cb
 refine Bj 0 rfl im ?_; intro nf aw iq
 refine AB rfl ?_
 replace ai := ai.m1 aw
 replace az := az.mono (Ay kJ) aw
 replace cz := cz.m1 aw
 replace ff := ff.mono (Ai kI kP) aw
 replace aa := aa.m1 aw
 have ng : At 1 eI nf (aD nc) 1 [0] := At.oI iq
 obtain ⟨vy, vz, nh, ni⟩ := Ca na
 refine c0 call54 (MG az cz ff ng nh) ?_; rintro _ te _ eg p0 ⟨tf, tg, rfl, rfl, th⟩
 replace ai := ai.m1 eg
 replace aa := aa.m1 eg
 refine AB (ln rfl) ?_
 refine um (ox rfl rfl rfl (ox rfl rfl rfl (ua (BR (um ?_)))))
 refine uv (Bx rfl rfl) (um ?_)
 obtain ⟨fg, nj⟩ := AF ni
 refine nT fg (um (nT fg ?_))
 refine uv (Bx rfl rfl) (uv (AK (Ba rfl fg) rfl) (um ?_))
 obtain ⟨fh, nk⟩ := AF nj
 refine nT fh (um (nT fh ?_))
 refine uv (Bx rfl rfl) (uv (AK (Ba rfl fh) rfl) (um ?_))
 obtain ⟨fi, np⟩ := AF nk
 refine nT fi (um (nT fi ?_))
 refine uv (Bx rfl rfl) (uv (AK (Ba rfl fi) rfl) (um ?_))
 obtain ⟨ir, nq⟩ := AF np
 refine nT ir (um ?_)
 refine uv (AK (Ba rfl ir) rfl) (um ?_)
 obtain ⟨dt, nr⟩ := AF nq
 refine nB dt (um (nB dt ?_))
 refine bA (cs := #[vI 0]) Bm [vI 0] ?_; intro ns iu
 refine nB dt ?_
 refine Bj 0 rfl iu ?_; intro nt eh iv
 refine AB rfl ?_
 replace ai := ai.m1 eh
 replace aa := aa.m1 eh
 have nu : At 1 eI nt (aD ns) 1 [0] := At.oI iv
 obtain ⟨w4, nv, nw⟩ := Az nr
 refine Bh rfl call25 rfl rfl rfl (pT ((fS (fS (fS fP))).trans (pA pR)) (lp (ln rfl))) (fun F2 h2 h3 => by rw [(AI.A1 aa).1]; exact Bv (aa.row kI h2 (aL h3)) (nu.mono kI h2) nv) ?_
 refine uv (AK (FK rfl dt) rfl) (um ?_)
 obtain ⟨du, ny⟩ := AF nw
 refine nB du (um (nB du ?_))
 refine bA (cs := #[vI 1, vI 2, vI 3]) Bm [vI 1, vI 2, vI 3] ?_; intro nz iw
 refine nB du ?_
 refine Bj 0 rfl iw ?_; intro o0 iy iz
 refine AB rfl ?_
 replace ai := ai.m1 iy
 have o1 : At 1 eI o0 (aD nz) 3 [1, 2, 3] := At.oI iz
 obtain ⟨w7, o2, r408⟩ := Az ny
 refine cV call25 (Bv ai o1 o2) (uv (AK (FK rfl du) rfl) ?_)
 refine ua (Aa ?_)
 refine kW kn (Aw (B7 results13 ?_))
 obtain rfl := AL r408
 exact rfl
set_option maxHeartbeats 1000000 in
theorem Jm (aa : At 1 eJ F E4 E3 s_) (aj : J2 Tryz.prog F L4 L8 LZ eJ Value.bool f) {r : Int} (hr : EP s_ f = some r) :
    Bp Tryz.prog 119 #[sL E4 s_.length E3, .func (.func L4) L8 LZ] F (vI r) := by
 refine sp func119 ntmps119 fun K _ _ => ?_
 rw [EP] at hr
 refine AG (ua (Aa ?_))
 obtain ⟨h1, r2⟩ := IK hr
 refine jE ([]) [] ?_ ?_
 ·clear r2
  refine AG (um ?_)
  refine uv (AJ underlying34 rfl) ?_
  refine um (Aa ?_)
  refine As ?_
  refine A6 (fun ak e1 F1 L1 => LA s_ ak fun tl k => Cl f tl = some () ∧ F = F1 ∧ L1 = [] ∧ e1.sub [(0, sL E4 s_.length E3), (1, .func (.func L4) L8 LZ), (7, vI (s_.length : Int)), (8, vI k)]) _ (m0 kr ⟨_, _, rfl, Bq.start _, h1, rfl, rfl, z4⟩) ?_
  rintro ak e1 _ _ ⟨tl, k, ar, ab, r5, rfl, rfl, au⟩
  refine AA _ au (AG (uv (AY rfl rfl) ?_))
  refine Aa (Au ?_)
  refine cQ (fun c8 => ?_) fun c8 => ?_
  ·obtain ⟨x, bd, rfl, ad, al, av⟩ := Bq.succ ab c8
   rw [Cl] at r5
   refine Ar (Au ?_)
   refine As ?_
   refine AG (um (ua (BR (um (um (um ?_))))))
   obtain ⟨S7, bg, bh, aw, ae, ah, ao, ⟨bj, bk, rfl, ax⟩, ay, ai⟩ := At.ta kJ aa al.1 ad
   refine uv (C0 underlying34 sizeOf22 ae al) (uv (AS isAgg22 rfl (ah _) (ai 0 (by decide))) ?_)
   obtain ⟨ok, az, ba⟩ := Az r5
   refine Gx rfl aj.1 rfl rfl rfl (aj.2 _ (AQ.refl _) _ _ _ ⟨_, _, rfl, ax⟩ az) (Aa ?_)
   obtain ⟨bb, bc⟩ := AF ba
   refine AV rfl (fun aq => absurd (bb.symm.trans aq) (by decide)) (fun aq => ?_)
   refine Ar (AD (id := 1) (Aq ?_))
   refine uv (A4 rfl rfl (Bq.CE ab c8 (At.lt aa))) ?_
   refine um (Aa ?_)
   subst ar; exact le kr ⟨_, _, rfl, av, bc, rfl, rfl, z4⟩
  obtain rfl := Bq.zero ab c8
  rw [Cl] at r5
  refine AM (Aj (Aj ?_))
  refine Ax ?_
  clear r5
  exact mi kr ⟨rfl, rfl, (sn _)⟩
 refine AG (ua (Aa (Aw ?_)))
 refine B7 results119 ?_
 obtain rfl := AL r2
 exact rfl
set_option maxHeartbeats 1000000 in
theorem IG (aa : At 1 eJ F E4 E3 s_) (ab : J2 Tryz.prog F L4 L8 LZ eJ Value.bool f) {r : Bool} (hr : D2 s_ f = some r) :
    Bp Tryz.prog 66 #[sL E4 s_.length E3, .func (.func L4) L8 LZ] F (.bool r) := by
 refine sp func66 ntmps66 fun K _ _ => ?_
 rw [D2] at hr
 refine AG (ua (BR (um (um ?_))))
 obtain ⟨n, h1, r2⟩ := Az hr
 refine cV call119 (Jm aa ab h1) (uv (Hu rfl rfl) ?_)
 refine ua (Aa (Aw ?_))
 refine B7 results66 ?_
 obtain rfl := AL r2
 exact rfl
set_option maxHeartbeats 1000000 in
theorem LV {l : List Int} (_h_l : At 1 eI F CV CX l) {r : Bool} (hr : GU l = some r) :
    Bp Tryz.prog 67 #[sL CV l.length CX] F (.bool r) := by
 refine sp func67 ntmps67 fun K _ _ => ?_
 rw [GU] at hr
 refine AG (ua (BR (um ?_)))
 refine uv (AJ underlying22 rfl) (uv (C2 rfl rfl) ?_)
 refine ua (Aa (Aw ?_))
 refine B7 results67 ?_
 obtain rfl := AL hr
 exact rfl
set_option maxHeartbeats 1000000 in
theorem Fp (aa : At 1 (CM 1 eJ) F Am Al Ah) (_h_readings : At 1 eI F Ae Ad Ab) (_h_cries : At 3 (Br eI eP) F Ao An Ak) {r : Bool} (hr : Eg Af Ac Ah Ab Ak = some r) :
    Bp Tryz.prog 14 #[.agg #[vI Af, vI Ac, sL Am Ah.length Al, sL Ae Ab.length Ad, sL Ao Ak.length An]] F (.bool r) := by
 refine sp func14 ntmps14 fun K _ _ => ?_
 rw [Eg] at hr
 refine AG ?_
 refine BB rfl rfl ?_; intro b1 bz
 refine ua (Aa ?_)
 refine AO (fun e1 F1 L1 => H4 Ah Ab Ak = some r ∧ F = F1 ∧ L1 = [(b1, ce #[vI Af, vI Ac, sL Am Ah.length Al, sL Ae Ab.length Ad, sL Ao Ak.length An] 26)] ∧ e1.sub [(1, pO b1)]) ?_ ?_
 ·refine AG (uv (Ap CC rfl) (uv (Co isAgg23 0) (uv (AJ underlying23 rfl) ?_)))
  refine um (Aa ?_)
  refine As ?_
  refine A6 (fun av e1 F1 L1 => LA Ah av fun tl k => EK Ah Ab Ak tl = some r ∧ F = F1 ∧ L1 = [(b1, ce #[vI Af, vI Ac, sL Am Ah.length Al, sL Ae Ab.length Ad, sL Ao Ak.length An] 26)] ∧ e1.sub [(1, pO b1), (6, sL Am Ah.length Al), (7, vI (Ah.length : Int)), (8, vI k)]) _ (m0 kr ⟨_, _, rfl, Bq.start _, hr, rfl, rfl, z4⟩) ?_
  rintro av e1 _ _ ⟨tl, k, bb, ah, r4, rfl, rfl, bc⟩
  refine AA _ bc (AG (uv (AY rfl rfl) ?_))
  refine Aa (Au ?_)
  refine cQ (fun c7 => ?_) fun c7 => ?_
  ·obtain ⟨x, cb, rfl, bd, aw, bg⟩ := Bq.succ ah c7
   rw [EK] at r4
   refine Ar (Au ?_)
   refine As (AG ?_)
   obtain ⟨RS, cc, cf, bh, ai, aj, ax, ⟨cg, cj, rfl, bj⟩, bk, ak⟩ := At.ta (Ay kJ) aa aw.1 bd
   refine uv (C0 underlying23 sizeOf34 ai aw) (uv (AS isAgg34 rfl (aj _) (ak 0 (by decide))) ?_)
   refine ua (Aa ?_)
   obtain ⟨k2, ay, al⟩ := Az r4
   refine jE ([(b1, ce #[vI Af, vI Ac, sL Am Ah.length Al, sL Ae Ab.length Ad, sL Ao Ak.length An] 26)]) [(1, pO b1), (6, sL Am Ah.length Al), (7, vI (Ah.length : Int)), (8, vI k), (18, .bool k2)] ?_ ?_
   ·clear al
    refine Aq (um ?_)
    refine uv (AJ underlying34 rfl) (uv (C2 rfl rfl) (um ?_))
    by_cases ae : 10 < (x.length : Int)
    ·have bl := A2 ay ae
     refine fT ae (fT ae ?_)
     refine uv (AK (Ba rfl ae) rfl) (Aa ?_)
     obtain rfl := AL bl
     exact mi kr ⟨rfl, rfl, z5⟩
    have bm := A3 ay ae
    refine nF ae (um (nF ae ?_))
    have ao : J2 Tryz.prog F 67 #[] #[] eJ Value.bool (fun az : (List Int) => GU az) := ⟨call67, fun F2 h2 vs az r ha hr => by obtain ⟨ck, cn, rfl, bn⟩ := ha; exact LV bn hr⟩
    obtain ⟨ok, bo, bp⟩ := Az bm
    refine cV call66 (IG bj ao bo) (uv (AE (AR rfl ae) rfl) (Aa ?_))
    obtain rfl := AL bp
    exact mi kr ⟨rfl, rfl, z5⟩
   refine AV rfl (fun aq => ?_) (fun aq => ?_)
   ·have bq := bt al aq
    refine AG (ua (Aa ?_))
    refine kW kn ?_
    refine Aw (AH (Av (Av (AH (Av ?_)))))
    refine B7 results14 ?_
    obtain rfl := AL bq
    exact rfl
   have br := bf al aq
   refine Ar (AD (id := 1) (Aq ?_))
   refine uv (A4 rfl rfl (Bq.CE ah c7 (At.lt aa))) ?_
   refine um (Aa ?_)
   subst bb; exact le kr ⟨_, _, rfl, bg, br, rfl, rfl, z4⟩
  obtain rfl := Bq.zero ah c7
  rw [EK] at r4
  refine AM (Aj (Aj ?_))
  refine Ax ?_
  exact mi kr ⟨r4, rfl, rfl, z1⟩
 rintro e1 _ _ ⟨ar, rfl, rfl, au⟩
 refine AA _ au ?_
 rw [H4] at ar
 refine AG (uv (Ap CC rfl) (uv (Co isAgg23 0) (uv (AJ underlying23 rfl) (uv (C2 rfl rfl) (um ?_)))))
 by_cases ab : 6 < (Ah.length : Int)
 ·have bu := A2 ar ab
  refine fT ab (fT ab (fT ab (fT ab ?_)))
  refine uv (AK (Ba rfl ab) rfl) ?_
  refine um (AZ (b' := true) 30 rfl rfl rfl rfl (AZ (b' := true) 30 rfl rfl rfl rfl (AZ (b' := true) 30 rfl rfl rfl rfl (AZ (b' := true) 30 rfl rfl rfl rfl ?_))))
  refine uv (AK rfl rfl) ?_
  refine ua (Aa ?_)
  refine kW kn (Aw (B7 results14 ?_))
  obtain rfl := AL bu
  exact rfl
 have ba := A3 ar ab
 refine nF ab (uv (Ap CB rfl) (nF ab (uv (Co isAgg22 0) (nF ab (uv (AJ underlying22 rfl) (nF ab (uv (C2 rfl rfl) ?_)))))))
 refine uv (AE (AR rfl ab) rfl) (um ?_)
 by_cases ad : 10 < (Ab.length : Int)
 ·have bw := A2 ba ad
  refine fT ad (fT ad (fT ad (fT ad ?_)))
  refine uv (AK (Ba rfl ad) rfl) ?_
  refine ua (Aa ?_)
  refine kW kn (Aw (B7 results14 ?_))
  obtain rfl := AL bw
  exact rfl
 have bx := A3 ba ad
 refine nF ad (uv (Ap Dv rfl) (nF ad (uv (Co isAgg24 0) (nF ad (uv (AJ underlying24 rfl) (nF ad (uv (C2 rfl rfl) ?_)))))))
 refine uv (AE (AR rfl ad) rfl) ?_
 refine ua (Aa ?_)
 refine kW kn (Aw (B7 results14 ?_))
 obtain rfl := AL bx
 exact rfl
set_option maxHeartbeats 1000000 in
theorem DO {l : List Int} (ab : At 1 eI F CV CX l) {r : List Int} (hr : Db l = some r) :
    SH.Spec Tryz.prog 21 #[sL CV l.length CX] F [] fun F' L' v => ∃ (ra : Option Addr) (rn : Nat) (rc : Nat) (rL : LH), v = sL ra rn rc ∧ L' = rL ++ [] ∧ AI 0 3 1 eI F' ra rn rc r rL := by
 refine sp func21 ntmps21 fun K _ _ => ?_
 rw [Db] at hr
 refine AG (ua (BR (um ?_)))
 refine uv (AJ underlying22 rfl) ?_
 obtain ⟨g1, r2⟩ := AF hr
 obtain ⟨l2, h3, r4⟩ := BI r2
 refine Ft (R := eI) (z0 := 0) (zs := l2) rfl Bm (by decide) kI (fun _ => rfl) rfl g1 h3 (fun _ => .n) ?_; intro a5 n8 aj ad
 refine ua (BR (um (um ?_)))
 obtain ⟨out, ae, ah⟩ := BI r4
 refine MT (ys := l) (zs := out) rfl Bm kI rfl rfl (fun _ => .h) ad (At.src ab) ae ?_; intro ai aa
 refine BR (um (ua (Aa (Aw ?_))))
 refine B7 results21 ?_
 obtain rfl := AL ah
 exact ⟨_, _, _, _, rfl, rfl, aa.any⟩
set_option maxHeartbeats 1000000 in
theorem K5 {l : List (List Int)} (ae : At 1 eJ F CV CX l) {r : List (List Int)} (hr : G7 l = some r) :
    SH.Spec Tryz.prog 68 #[sL CV l.length CX] F [] fun F' L' v => ∃ (ra : Option Addr) (rn : Nat) (rc : Nat) (rL : LH), v = sL ra rn rc ∧ L' = rL ++ [] ∧ AI 0 22 1 eJ F' ra rn rc r rL := by
 refine sp func68 ntmps68 fun K _ _ => ?_
 rw [G7] at hr
 refine AG (ua (BR (um ?_)))
 refine uv (AJ underlying34 rfl) ?_
 obtain ⟨g1, r2⟩ := AF hr
 obtain ⟨l2, h3, r4⟩ := BI r2
 refine Ft (R := eJ) (z0 := []) (zs := l2) rfl FI (by decide) kJ (fun _ => ⟨_, _, rfl, At.nil _ _ _⟩) rfl g1 h3 (fun _ => .n) ?_; intro a5 n8 bw bx
 refine ua (Aa ?_)
 obtain ⟨out, bz, bo⟩ := Az r4
 refine AO (fun e1 F1 L1 => ∃ (ah : LH), AQ F F1 ∧ L1 = (ah ++ []) ∧ e1.sub [(3, sL a5 n8 n8)] ∧ AI K.w0.heap.size 22 1 eJ F1 a5 n8 n8 out ah) ?_ ?_
 ·clear bo
  refine AG (um ?_)
  refine uv (AJ underlying34 rfl) ?_
  refine um (Aa ?_)
  refine As ?_
  refine A6 (fun bp e1 F1 L1 => LA l bp fun tl k => ∃ (ai : List (List Int)) (ab : LH), C4 tl k ai = some out ∧ AQ F F1 ∧ L1 = (ab ++ []) ∧ e1.sub [(3, sL a5 n8 n8), (9, sL CV l.length CX), (10, vI (l.length : Int)), (11, vI k)] ∧ AI K.w0.heap.size 22 1 eJ F1 a5 n8 n8 ai ab) _ (m0 kr ⟨_, _, rfl, Bq.start _, l2, bw, bz, AQ.refl _, rfl, z4, bx⟩) ?_
  rintro bp e1 cx _ ⟨tl, k, av, aj, ai, ab, ar, ak, rfl, aw, aa⟩
  refine AA _ aw ?_
  replace ae := ae.m2 ak
  refine AG (uv (AY rfl rfl) ?_)
  refine Aa (Au ?_)
  refine cQ (fun au => ?_) fun au => ?_
  ·obtain ⟨x, cy, rfl, ax, bq, ay⟩ := Bq.succ aj au
   rw [C4] at ar
   refine Ar (Au ?_)
   refine As ?_
   refine AG (um ?_)
   obtain ⟨cz, da, db, cb, az, ba, br, ⟨dd, de, rfl, cc⟩, cf, bb⟩ := At.ta kJ ae bq.1 ax
   refine uv (C0 underlying34 sizeOf22 az bq) (uv (AS isAgg22 rfl (ba _) (bb 0 (by decide))) ?_)
   refine ua (ua (Aa (Aq (um (um (um ?_))))))
   obtain ⟨l3, cg, cj⟩ := Az ar
   refine c0 call21 (DO cc cg) ?_; rintro _ df _ al bc ⟨dg, dh, di, bd, rfl, rfl, ad⟩
   replace ae := ae.m2 al
   replace aa := aa.m2 al
   replace ad := ad.new fun p hp => bc p (by simp [hp])
   refine AB (lp (ln rfl)) ?_
   obtain ⟨x2, bg, bh, ck⟩ := BG cj
   obtain ⟨dk, dm, dp, cn, aq, cp, bu, ⟨dq, dr, rfl, dt⟩, cq, cr⟩ := AI.at kJ aa (L := bd ++ (ab ++ [])) (fS fP) bg.1 bh
   refine uv (C0 underlying34 sizeOf22 aq (AI.idx aa bg)) ?_
   obtain rfl := (AI.A1 ad).1
   refine A5 (Nat.le_refl _) kI fP ad ?_; intro du ao ct
   replace ae := ae.m2 ao
   replace aa := aa.m2 ao
   obtain ⟨bj, cu, cv⟩ := BI ck
   refine Dq (u := l3) sizeOf22 kJ rfl aq rfl ⟨_, _, rfl, ct⟩ (fun _ => .h) aa cu bg ?_; intro bk bl
   refine Aa (AD (id := 1) (Aq ?_))
   refine uv (A4 rfl rfl (Bq.CE aj au (At.lt ae))) ?_
   refine um (Aa ?_)
   subst av; exact le kr ⟨_, _, rfl, ay, bj, bk, cv, ((ak.trans al).trans ao), rfl, z4, bl⟩
  obtain rfl := Bq.zero aj au
  rw [C4] at ar
  refine AM (Aj (Aj ?_))
  refine Ax ?_
  obtain rfl := AL ar
  exact mi kr ⟨ab, ak, rfl, z1, aa⟩
 rintro e1 dv _ ⟨ah, cw, rfl, bm, bn⟩
 refine AA _ bm ?_
 refine AG (um (ua (Aa (Aw ?_))))
 refine B7 results68 ?_
 obtain rfl := AL bo
 exact ⟨_, _, _, _, rfl, rfl, bn.any⟩
set_option maxHeartbeats 1000000 in
theorem Mn {l : List (Int × Int × Int)} (ab : At 3 (Br eI eP) F CV CX l) {r : List (Int × Int × Int)} (hr : IZ l = some r) :
    SH.Spec Tryz.prog 69 #[sL CV l.length CX] F [] fun F' L' v => ∃ (ra : Option Addr) (rn : Nat) (rc : Nat) (rL : LH), v = sL ra rn rc ∧ L' = rL ++ [] ∧ AI 0 32 3 (Br eI eP) F' ra rn rc r rL := by
 refine sp func69 ntmps69 fun K _ _ => ?_
 rw [IZ] at hr
 refine AG (ua (BR (um ?_)))
 refine uv (AJ underlying24 rfl) ?_
 obtain ⟨g1, r2⟩ := AF hr
 obtain ⟨l2, h3, r4⟩ := BI r2
 refine Ft (R := (Br eI eP)) (z0 := (0, 0, 0)) (zs := l2) rfl H7 (by decide) (Ai kI kP) (fun _ => ⟨_, _, rfl, rfl, ⟨_, _, rfl, rfl, rfl⟩⟩) rfl g1 h3 (fun _ => .n) ?_; intro a5 n8 aj ad
 refine ua (BR (um (um ?_)))
 obtain ⟨out, ae, ah⟩ := BI r4
 refine MT (ys := l) (zs := out) rfl H7 (Ai kI kP) rfl rfl (fun _ => .h) ad (At.src ab) ae ?_; intro ai aa
 refine BR (um (ua (Aa (Aw ?_))))
 refine B7 results69 ?_
 obtain rfl := AL ah
 exact ⟨_, _, _, _, rfl, rfl, aa.any⟩
set_option maxHeartbeats 1000000 in
theorem Fa (aa : At 1 (CM 1 eJ) F Am Al Ah) (ab : At 1 eI F Ae Ad Ab) (ad : At 3 (Br eI eP) F Ao An Ak) {r r2 : Int} {r3 : List (List (List Int))} (hr : EA Af Ac Ah Ab Ak = some (r, r2, r3, r4, r5)) :
    SH.Spec Tryz.prog 15 #[.agg #[vI Af, vI Ac, sL Am Ah.length Al, sL Ae Ab.length Ad, sL Ao Ak.length An]] F [] fun F' L' v => ∃ (cn : Option Addr) (cp : Nat) (cq : Nat) (cr : LH) (ct : Option Addr) (cu : Nat) (cv : Nat) (cw : LH) (cx : Option Addr) (cy : Nat) (cz : Nat) (da : LH), v = .agg #[vI r, vI r2, sL cn cp cq, sL ct cu cv, sL cx cy cz] ∧ L' = cr ++ (cw ++ (da ++ [])) ∧ AI 0 34 1 (CM 1 eJ) F' cn cp cq r3 cr ∧ AI 0 3 1 eI F' ct cu cv r4 cw ∧ AI 0 32 3 (Br eI eP) F' cx cy cz r5 da := by
 refine sp func15 ntmps15 fun K _ _ => ?_
 rw [EA] at hr
 refine AG ?_
 refine BB rfl rfl ?_; intro b1 et
 refine Bu rfl zeroValue26 ?_; intro b2 eu
 refine BR (uv (Ap CC rfl) (uv (Co isAgg23 1) (uv (AJ underlying23 rfl) ?_)))
 obtain ⟨g3, r6⟩ := AF hr
 obtain ⟨l, h7, r8⟩ := BI r6
 refine Ft (R := (CM 1 eJ)) (z0 := []) (zs := l) rfl LI (by decide) (Ay kJ) (fun _ => ⟨_, _, rfl, At.nil _ _ _⟩) rfl g3 h7 (fun _ => .c (.c .n)) ?_; intro a9 ai bk bl
 refine ua (Aa ?_)
 obtain ⟨aj, dr, db⟩ := Az r8
 refine AO (fun e1 F1 L1 => ∃ (au : LH), AQ F F1 ∧ L1 = ((b2, ce #[vI 0, vI 0, sL none 0 0, sL none 0 0, sL none 0 0] 26) :: ((b1, ce #[vI Af, vI Ac, sL Am Ah.length Al, sL Ae Ab.length Ad, sL Ao Ak.length An] 26) :: (au ++ []))) ∧ e1.sub [(1, pO b1), (2, pO b2), (3, sL a9 ai ai)] ∧ AI K.w0.heap.size 34 1 (CM 1 eJ) F1 a9 ai ai aj au) ?_ ?_
 ·clear db
  refine AG (uv (Ap CC rfl) (uv (Co isAgg23 1) (uv (AJ underlying23 rfl) ?_)))
  refine um (Aa ?_)
  refine As ?_
  refine A6 (fun dd e1 F1 L1 => LA Ah dd fun tl k => ∃ (ah : List (List (List Int))) (ak : LH), Gn tl k ah = some aj ∧ AQ F F1 ∧ L1 = ((b2, ce #[vI 0, vI 0, sL none 0 0, sL none 0 0, sL none 0 0] 26) :: ((b1, ce #[vI Af, vI Ac, sL Am Ah.length Al, sL Ae Ab.length Ad, sL Ao Ak.length An] 26) :: (ak ++ []))) ∧ e1.sub [(1, pO b1), (2, pO b2), (3, sL a9 ai ai), (11, sL Am Ah.length Al), (12, vI (Ah.length : Int)), (13, vI k)] ∧ AI K.w0.heap.size 34 1 (CM 1 eJ) F1 a9 ai ai ah ak) _ (m0 kr ⟨_, _, rfl, Bq.start _, l, bk, dr, AQ.refl _, rfl, z6, bl⟩) ?_
  rintro dd e1 ew _ ⟨tl, k, bm, av, ah, ak, bh, aw, rfl, bn, ae⟩
  refine AA _ bn ?_
  replace aa := aa.mono (Ay kJ) aw
  refine AG (uv (AY rfl rfl) ?_)
  refine Aa (Au ?_)
  refine cQ (fun bj => ?_) fun bj => ?_
  ·obtain ⟨x, ey, rfl, bo, de, bp⟩ := Bq.succ av bj
   rw [Gn] at bh
   refine Ar (Au ?_)
   refine As ?_
   refine AG (um ?_)
   obtain ⟨ez, fa, fb, dt, bq, br, df, ⟨fe, ff, rfl, du⟩, dv, bu⟩ := At.ta (Ay kJ) aa de.1 bo
   refine uv (C0 underlying23 sizeOf34 bq de) (uv (AS isAgg34 rfl (br _) (bu 0 (by decide))) ?_)
   refine ua (ua (Aa (Aq (um (um (um ?_))))))
   obtain ⟨l2, dw, dx⟩ := Az bh
   refine c0 call68 (K5 du dw) ?_; rintro _ fg _ ax bw ⟨fh, fi, fj, bx, rfl, rfl, ar⟩
   replace aa := aa.mono (Ay kJ) ax
   replace ae := ae.mono (Ay kJ) ax
   replace ar := ar.new fun p hp => bw p (by simp [hp])
   refine AB (lp (ln rfl)) (kO (kf (fS fO) (kf (fS fO) kr)) ?_)
   obtain ⟨x2, bz, cb, dy⟩ := BG dx
   obtain ⟨fk, fl, fm, dz, bc, eb, dg, ⟨fo, fp, rfl, fq⟩, ec, ef⟩ := AI.at (Ay kJ) ae (L := (b2, ce #[vI 0, vI 0, sL none 0 0, sL none 0 0, sL none 0 0] 26) :: ((b1, ce #[vI Af, vI Ac, sL Am Ah.length Al, sL Ae Ab.length Ad, sL Ao Ak.length An] 26) :: (bx ++ (ak ++ [])))) (fC (fC (fS fP))) bz.1 cb
   refine uv (C0 underlying23 sizeOf34 bc (AI.idx ae bz)) ?_
   obtain rfl := (AI.A1 ar).1
   refine A5 (Nat.le_refl _) kJ (fC (fC fP)) ar ?_; intro ft ay eg
   replace aa := aa.mono (Ay kJ) ay
   replace ae := ae.mono (Ay kJ) ay
   obtain ⟨az, eh, ei⟩ := BI dy
   refine Dq (u := l2) sizeOf34 (Ay kJ) rfl bc rfl ⟨_, _, rfl, eg⟩ (fun _ => .c (.c .h)) ae eh bz ?_; intro cc cf
   refine Aa (AD (id := 1) (Aq ?_))
   refine uv (A4 rfl rfl (Bq.CE av bj (At.lt aa))) ?_
   refine um (Aa ?_)
   subst bm; exact le kr ⟨_, _, rfl, bp, az, cc, ei, ((aw.trans ax).trans ay), rfl, z6, cf⟩
  obtain rfl := Bq.zero av bj
  rw [Gn] at bh
  refine AM (Aj (Aj ?_))
  refine Ax ?_
  obtain rfl := AL bh
  exact mi kr ⟨ak, aw, rfl, z3, ae⟩
 rintro e1 fv _ ⟨au, bd, rfl, cg, al⟩
 refine AA _ cg ?_
 replace ab := ab.m1 bd
 replace ad := ad.mono (Ai kI kP) bd
 refine Au (BK [(.still, 0), (.still, 1), (.still, 2), (.still, 4), (.still, 5), (.still, 7), (.seq, 3), (.seq, 6), (.seq, 8), (.still, 9), (.seq, 10), (.still, 11), (.seq, 12)] (by kernel_rfl) (by kernel_rfl) (trivial) (by rfl) (by kernel_rfl) (mS [3] rfl (A9 rfl) (mS [1] rfl (Ap CB rfl) (mK [25] isAgg22 1 rfl rfl rfl rfl (mS [1] rfl (Ap Dv rfl) (mK [28] isAgg24 1 rfl rfl rfl rfl (mS [1] rfl (Ap CC rfl) ?_)))))))
 refine ⟨_, [(26, sL Ae Ab.length Ad)], rfl, rfl, z1, by kernel_rfl, ?_⟩; intro H
 obtain ⟨l3, ej, en⟩ := Az db
 refine c0 call21 (DO ab ej) ?_; rintro _ fw _ ba cj ⟨dh, di, dk, eo, rfl, rfl, ao⟩
 replace ad := ad.mono (Ai kI kP) ba
 replace al := al.mono (Ay kJ) ba
 replace ao := ao.new fun p hp => cj p (by simp [hp])
 refine AB (lp (ln rfl)) (kO (kf (fS fO) (kf (fS fO) kr)) ?_)
 refine Aa ⟨_, rfl, ba, [7, 5, 4, 0], by kernel_rfl, .inl (.inr (fun d h => by cases h; rfl)), (fc sm (fc (s0 (s1 (s2 (s3 (s3 sr))))) (fc sm (fc sm nm)))), ?_⟩
 refine ⟨_, [(29, sL Ao Ak.length An)], rfl, rfl, z1, by kernel_rfl, ?_⟩; intro H
 obtain ⟨l4, ep, er⟩ := Az en
 refine c0 call69 (Mn ad ep) ?_; rintro _ fx _ bb ck ⟨dm, bg, dp, dq, rfl, rfl, aq⟩
 replace al := al.mono (Ay kJ) bb
 replace ao := ao.m1 bb
 replace aq := aq.new fun p hp => ck p (by simp [hp])
 refine AB (lp (ln rfl)) (kO (kf (fS fO) (kf (fS fO) kr)) ?_)
 refine Aa ⟨_, rfl, bb, [7, 0], by kernel_rfl, .inl (.inr (fun d h => by cases h; rfl)), (fc sm (fc sm nm)), ?_⟩
 refine ⟨_, [(24, sL a9 ai ai), (31, .pointer (some ⟨b1, 2, none⟩))], rfl, rfl, z2, by kernel_rfl, ?_⟩; intro H
 refine BL (i := 1) sizeOf23 rfl rfl rfl rfl (DD rfl) (AB rfl ?_)
 refine Aa ⟨undef, rfl, AQ.refl _, [], by kernel_rfl, .inl (.inl rfl), nm, ?_⟩
 refine mS [1] rfl (Ap CB rfl) ?_
 refine ⟨_, [(27, sL dh di dk), (32, .pointer (some ⟨b1, 3, none⟩))], rfl, rfl, z2, by kernel_rfl, ?_⟩; intro H
 refine BL (i := 1) sizeOf22 rfl rfl rfl rfl (DD rfl) (AB rfl ?_)
 refine Aa ⟨undef, rfl, AQ.refl _, [], by kernel_rfl, .inl (.inl rfl), nm, ?_⟩
 refine mS [1] rfl (Ap Dv rfl) ?_
 refine ⟨_, [(30, sL dm bg dp), (33, .pointer (some ⟨b1, 4, none⟩))], rfl, rfl, z2, by kernel_rfl, ?_⟩; intro H
 refine BL (i := 1) sizeOf24 rfl rfl rfl rfl (DD rfl) (AB rfl ?_)
 refine Aa ⟨undef, rfl, AQ.refl _, [], by kernel_rfl, .inl (.inl rfl), nm, ?_⟩
 refine Ce (AG (uv (Cv isAgg26 sizeOf26 1) (BD (i := 0) sizeOf26 rfl rfl rfl (by simp [Value.oneCell']) rfl (DD rfl) (AB rfl (Aa (kW (kc (kd (kg (fS (fS fP)) (kg (fS fP) kr)))) (Aw ?_)))))))
 refine Mr results15 (GJ (cs := #[vI Af, vI Ac, sL a9 ai ai, sL dh di dk, sL dm bg dp]) isAgg26 sizeOf26 rfl (Has.own 0 rfl) (DD rfl) rfl) (s1 (s4 (s4 (s4 sr)))) ?_
 obtain ⟨rfl, rfl, rfl, rfl, rfl⟩ := Ru er
 exact ⟨_, _, _, _, _, _, _, _, _, _, _, _, rfl, rfl, al.any, ao.any, aq.any⟩
set_option maxHeartbeats 1000000 in
theorem DR (ah : At 1 (CM 1 eJ) F Am Al Ah) (ad : At 1 eI F Ae Ad Ab) (ae : At 3 (Br eI eP) F Ao An Ak) {r r2 : Int} {r3 : List (List (List Int))} (hr : Dd Af Ac Ah Ab Ak = some (r, r2, r3, r4, r5)) :
    SH.Spec Tryz.prog 16 #[.agg #[vI Af, vI Ac, sL Am Ah.length Al, sL Ae Ab.length Ad, sL Ao Ak.length An]] F [] fun F' L' v => ∃ (bl : Option Addr) (bm : Nat) (bn : Option Addr) (bo : Nat) (bp : Option Addr) (bq : Nat) (br : Nat) (bu : LH), v = .agg #[vI r, vI r2, sL bl r3.length bm, sL bn r4.length bo, sL bp bq br] ∧ L' = bu ++ [] ∧ At 1 (CM 1 eJ) F' bl bm r3 ∧ At 1 eI F' bn bo r4 ∧ AI 0 110 3 (Br eI eP) F' bp bq br r5 bu := by
 refine sp func16 ntmps16 fun K _ _ => ?_
 rw [Dd] at hr
 refine AG ?_
 refine BB rfl rfl ?_; intro b1 cu
 refine Bu rfl zeroValue50 ?_; intro b2 cv
 refine BR (uv (Ap Js rfl) (uv (Co isAgg3 1) (uv (Ap Iy rfl) (uv (Co isAgg3 1) (uv (Ap CC rfl) (uv (Co isAgg23 1) (uv (Ap CB rfl) ?_)))))))
 refine uv (Co isAgg22 1) ?_
 refine uv (BX (v := .agg #[vI Af, vI Ac, sL Am Ah.length Al, sL Ae Ab.length Ad, sL none 0 0]) rfl (by intro w; kernel_rfl)) ?_
 refine Bu rfl zeroValue50 ?_; intro b3 cw
 refine BD (i := 0) sizeOf50 rfl rfl rfl (by simp [Value.oneCell']) rfl (DD rfl) (AB rfl (Aa ?_))
 obtain ⟨ab, cb, bw⟩ := Az hr
 refine AO (fun e1 F1 L1 => ∃ (a4 : Option Addr) (n8 : Nat) (c5 : Nat) (aw : LH), F = F1 ∧ L1 = ((b3, ce #[vI Af, vI Ac, sL Am Ah.length Al, sL Ae Ab.length Ad, sL a4 n8 c5] 50) :: ((b2, ce #[vI 0, vI 0, sL none 0 0, sL none 0 0, sL none 0 0] 50) :: (aw ++ []))) ∧ e1.sub [(2, pO b2), (3, pO b3)] ∧ AI K.w0.heap.size 110 3 (Br eI eP) F1 a4 n8 c5 ab aw) ?_ ?_
 ·clear bw
  refine AG (uv (Ap Dv rfl) (uv (Co isAgg24 2) (uv (AJ underlying24 rfl) ?_)))
  refine um (Aa ?_)
  refine As (kW (kc (kc kn)) ?_)
  refine A6 (fun bx e1 F1 L1 => LA Ak bx fun tl k => ∃ (aa : List (Int × Int × Int)) (ao : Option Addr) (aq : Nat) (ar : Nat) (ai : LH), Es tl aa = some ab ∧ F = F1 ∧ L1 = ((b3, ce #[vI Af, vI Ac, sL Am Ah.length Al, sL Ae Ab.length Ad, sL ao aq ar] 50) :: ((b2, ce #[vI 0, vI 0, sL none 0 0, sL none 0 0, sL none 0 0] 50) :: (ai ++ []))) ∧ e1.sub [(2, pO b2), (3, pO b3), (16, sL Ao Ak.length An), (17, vI (Ak.length : Int)), (18, vI k)] ∧ AI K.w0.heap.size 110 3 (Br eI eP) F1 ao aq ar aa ai) _ (m0 (kc (kc (ke kr))) ⟨_, _, rfl, Bq.start _, [], none, 0, 0, [], cb, rfl, rfl, z5, AI.nil _ _ _ _ _⟩) ?_
  rintro bx e1 _ _ ⟨tl, k, ax, ak, aa, ao, aq, ar, ai, au, rfl, rfl, ay, al⟩
  refine AA _ ay (AG (uv (AY rfl rfl) ?_))
  refine Aa (Au ?_)
  refine cQ (fun av => ?_) fun av => ?_
  ·obtain ⟨x, cx, rfl, az, bz, ba⟩ := Bq.succ ak av
   rw [Es] at au
   refine Ar (Au ?_)
   refine As (AG ?_)
   obtain ⟨cy, cz, da, cc, bb, bc, aj, ⟨_, _, rfl, rfl, ⟨_, _, rfl, rfl, rfl⟩⟩, bd, bg⟩ := At.ta (Ai kI kP) ae bz.1 az
   refine uv (C0 underlying24 sizeOf32 bb bz) (uv (Bn isAgg32 sizeOf32 rfl (bc _) aj (Bi aj bd bg)) ?_)
   refine Bu rfl zeroValue32 ?_; intro db cf
   refine BD (i := 0) sizeOf32 rfl rfl rfl (by simp [Value.oneCell']) rfl (DD rfl) (AB rfl ?_)
   refine Aa (Aq ?_)
   refine uv (Ap IA rfl) (uv (Co isAgg48 1) (uv (Cv isAgg32 sizeOf32 0) ?_))
   refine bA (cs := #[vI x.1, vI x.2.1, vI x.2.2]) Nq [.agg #[vI x.1, vI x.2.1, vI x.2.2]] ?_; intro dd cg
   obtain ⟨out, cj, ck, cn⟩ := Ea au
   refine CJ (xs := aa) (ys := [(x.1, x.2.1, x.2.2)]) (zs := out) rfl Nq rfl rfl (Nat.le_refl _) (fun _ => .c (.c (.c (.c .h)))) al (FL.box (vss := [[vI x.1, vI x.2.1, vI x.2.2]]) (ys := [(x.1, x.2.1, x.2.2)]) 0 rfl (Ai kI kP) (.cons ⟨_, _, rfl, rfl, ⟨_, _, rfl, rfl, rfl⟩⟩ .nil) rfl rfl) cj ck (by decide) ?_; intro cp cq cr bh bj
   refine kO (kd kr) (uv (Ap IA rfl) (BL (i := 1) sizeOf48 rfl rfl rfl rfl (DD rfl) (AB rfl ?_)))
   refine Aa (AD (id := 1) (Aq ?_))
   refine uv (A4 rfl rfl (Bq.CE ak av (At.lt ae))) ?_
   refine um (Aa ?_)
   subst ax; exact le (kd kr) ⟨_, _, rfl, ba, out, cp, cq, cr, bh, cn, rfl, rfl, z5, bj⟩
  obtain rfl := Bq.zero ak av
  rw [Es] at au
  refine AM (Aj (Aj ?_))
  refine Ax ?_
  obtain rfl := AL au
  exact mi kr ⟨ao, aq, ar, ai, rfl, rfl, z2, al⟩
 rintro e1 _ _ ⟨a4, n8, c5, aw, rfl, rfl, bk, ct⟩
 refine AA _ bk (AG (uv (Cv isAgg50 sizeOf50 0) (BD (i := 1) sizeOf50 rfl rfl rfl (by simp [Value.oneCell']) rfl (DD rfl) (AB rfl (Aa (kW (kd kr) (Aw ?_)))))))
 refine Mr results16 (GJ (cs := #[vI Af, vI Ac, sL Am Ah.length Al, sL Ae Ab.length Ad, sL a4 n8 c5]) isAgg50 sizeOf50 rfl (Has.own 0 rfl) (DD rfl) rfl) (s1 (s4 sr)) ?_
 obtain ⟨rfl, rfl, rfl, rfl, rfl⟩ := Ru bw
 exact ⟨_, _, _, _, _, _, _, _, rfl, rfl, ah, ad, ct.any⟩
set_option maxHeartbeats 1000000 in
theorem Cb {lo hi : Int} {r : Bool} (hr : Cf n lo hi = some r) :
    Bp Tryz.prog 70 #[vI n, vI lo, vI hi] F (.bool r) := by
 refine sp func70 ntmps70 fun K _ _ => ?_
 rw [Cf] at hr
 refine AG (ua (BR (um (um ?_))))
 refine uv (AY rfl rfl) (um ?_)
 by_cases c1 : n < lo
 ·have r2 := A2 hr c1
  refine fT c1 (fT c1 (fT c1 ?_))
  refine uv (AK (Ba rfl c1) rfl) ?_
  refine ua (Aa (Aw ?_))
  refine B7 results70 ?_
  obtain rfl := AL r2
  exact rfl
 have r3 := A3 hr c1
 refine nF c1 (um (nF c1 (um (nF c1 ?_))))
 refine uv (C2 rfl rfl) (uv (AE (AR rfl c1) rfl) ?_)
 refine ua (Aa (Aw ?_))
 refine B7 results70 ?_
 obtain rfl := AL r3
 exact rfl
set_option maxHeartbeats 1000000 in
theorem Lg {l : List Int} (aj : At 1 eI F CV CX l) {r : Bool} (hr : I9 l n = some r) :
    Bp Tryz.prog 102 #[sL CV l.length CX, vI n] F (.bool r) := by
 refine sp func102 ntmps102 fun K _ _ => ?_
 rw [I9] at hr
 refine AG (ua (Aa ?_))
 refine AO (fun e1 F1 L1 => I1 = some r ∧ F = F1 ∧ L1 = [] ∧ e1.sub []) ?_ ?_
 ·refine AG (ua (Aa ?_))
  refine As ?_
  refine A6 (fun ak e1 F1 L1 => LA l ak fun tl i => Gh n tl = some r ∧ F = F1 ∧ L1 = [] ∧ e1.sub [(0, sL CV l.length CX), (1, vI n), (5, vI i)]) _ (m0 kr ⟨_, _, rfl, Bq.start _, hr, rfl, rfl, z3⟩) ?_
  rintro ak e1 _ _ ⟨tl, i, aq, aa, r3, rfl, rfl, ar⟩
  refine AA _ ar ?_
  refine Au (AG (um (um ?_)))
  refine uv (AJ underlying22 rfl) (uv (AY rfl rfl) (Aa ?_))
  refine cQ (fun c6 => ?_) fun c6 => ?_
  ·obtain ⟨x, ba, rfl, au, g9, av⟩ := Bq.succ aa c6
   rw [Gh] at r3
   refine Ar (Au ?_)
   refine As ?_
   refine AG (um (um ?_))
   obtain ⟨N4, bb, bc, aw, ab, ad, al, rfl, ax, ae⟩ := At.ta kI aj g9.1 au
   refine uv (C0 underlying22 sizeOf3 ab g9) (uv (AS isAgg3 rfl (ad _) (ae 0 (by decide))) (um (uv (Bx rfl rfl) (Aa ?_))))
   refine cQ (fun ah => ?_) fun ah => ?_
   ·have ay := A2 r3 ah
    refine AG (ua (Aa (Aw (AH (Av (Av (AH (Av ?_))))))))
    refine B7 results102 ?_
    obtain rfl := AL ay
    exact rfl
   have az := A3 r3 ah
   refine Ar (AD (id := 1) (Aq (um ?_)))
   refine uv (A4 rfl rfl (Bq.CE aa c6 (At.lt aj))) ?_
   refine ua (Aa ?_)
   subst aq; exact le kr ⟨_, _, rfl, av, az, rfl, rfl, z3⟩
  obtain rfl := Bq.zero aa c6
  rw [Gh] at r3
  refine AM (Aj (Aj ?_))
  refine Ax ?_
  exact mi kr ⟨r3, rfl, rfl, (sn _)⟩
 rintro e1 _ _ ⟨ao, rfl, rfl, ai⟩
 refine AA _ ai ?_
 rw [I1] at ao
 refine AG (ua (Aa (Aw ?_)))
 refine B7 results102 ?_
 obtain rfl := AL ao
 exact rfl
set_option maxHeartbeats 1000000 in
theorem JX {l : List Int} (_h_hears : At 1 (CM 1 eJ) F Am Al Ah) (_h_readings : At 1 eI F Ae Ad Ab) (_h_cries : At 3 (Br eI eP) F Ao An Ak) (ab : At 1 eI F CV CX l) {r : Int} (hr : Hq Af Ac Ah Ab Ak l = some r) :
    Bp Tryz.prog 52 #[.agg #[vI Af, vI Ac, sL Am Ah.length Al, sL Ae Ab.length Ad, sL Ao Ak.length An], sL CV l.length CX] F (vI r) := by
 refine sp func52 ntmps52 fun K _ _ => ?_
 rw [Hq] at hr
 refine AG ?_
 refine BB rfl rfl ?_; intro b1 cg
 refine ua (Aa ?_)
 refine AO (fun e1 F1 L1 => Ht = some r ∧ F = F1 ∧ L1 = [] ∧ e1.sub []) ?_ ?_
 ·refine AG (ua (Aa ?_))
  refine As ?_
  refine A6 (fun av e1 F1 L1 => LA l av fun tl i => El Af l tl i = some r ∧ F = F1 ∧ L1 = [(b1, ce #[vI Af, vI Ac, sL Am Ah.length Al, sL Ae Ab.length Ad, sL Ao Ak.length An] 50)] ∧ e1.sub [(1, sL CV l.length CX), (2, pO b1), (5, vI i)]) _ (m0 kr ⟨_, _, rfl, Bq.start _, hr, rfl, rfl, z3⟩) ?_
  rintro av e1 _ _ ⟨tl, i, bc, ae, r4, rfl, rfl, bd⟩
  refine AA _ bd ?_
  refine Au (AG (um (um ?_)))
  refine uv (AJ underlying22 rfl) (uv (AY rfl rfl) (Aa ?_))
  refine cQ (fun c7 => ?_) fun c7 => ?_
  ·obtain ⟨x, cj, rfl, aw, ad, bg⟩ := Bq.succ ae c7
   rw [El] at r4
   refine Ar (Au ?_)
   refine As (Au (dW ?_))
   refine wm (wm ?_)
   obtain ⟨RS, ck, cn, bh, ah, ai, ax, rfl, bj, aj⟩ := At.ta kI ab ad.1 aw
   refine wv (C0 underlying22 sizeOf3 ah ad) (wv (AS isAgg3 rfl (ai _) (aj 0 (by decide))) (wv (Ap KU rfl) (wv (Co isAgg3 0) ?_)))
   obtain ⟨bk, bl⟩ := AF r4
   refine wv (EU rfl rfl bk) ?_
   obtain ⟨ok, bm, ay⟩ := Az bl
   refine Dy rfl call70 rfl rfl rfl (Cb bm) (B6 ?_)
   refine AV rfl (fun ak => ?_) (fun ak => ?_)
   ·have bn := bt ay ak
    refine AG (ua (Aa ?_))
    refine kW kn ?_
    refine Aw (Av (AH (Av (Av (AH (Av ?_))))))
    refine B7 results52 ?_
    obtain rfl := AL bn
    exact rfl
   have bo := bf ay ak
   refine Ar (dW ?_)
   refine wm (wm ?_)
   obtain ⟨bp, bq⟩ := AF bo
   obtain ⟨l2, br, bu⟩ := BI bq
   obtain ⟨cp, cq, bw, aa⟩ := At.slice kI ab bp br
   refine wv ((I3 (l := 0) (h := i) underlying22 sizeOf3 rfl (.inl ⟨rfl, rfl⟩) (.inr ⟨_, rfl, rfl⟩) aa.1).eq aa.2) ?_
   refine wm (wm ?_)
   obtain ⟨cr, ct, cu, bx, al, ao, az, rfl, bz, aq⟩ := At.ta kI ab ad.1 aw
   refine wv (C0 underlying22 sizeOf3 al ad) (wv (AS isAgg3 rfl (ao _) (aq 0 (by decide))) ?_)
   obtain ⟨cv, cb, ba⟩ := Az bu
   refine Dy rfl call102 rfl rfl rfl (Lg bw cb) (B6 ?_)
   refine AV rfl (fun ar => ?_) (fun ar => ?_)
   ·have cc := bt ba ar
    refine AG (ua (Aa ?_))
    refine kW kn ?_
    refine Aw (AH (Av (Av (AH (Av ?_)))))
    refine B7 results52 ?_
    obtain rfl := AL cc
    exact rfl
   have cf := bf ba ar
   refine Ar (AD (id := 1) (Aq (um ?_)))
   refine uv (A4 rfl rfl (Bq.CE ae c7 (At.lt ab))) ?_
   refine ua (Aa ?_)
   subst bc; exact le kr ⟨_, _, rfl, bg, cf, rfl, rfl, z3⟩
  obtain rfl := Bq.zero ae c7
  rw [El] at r4
  refine AM (Aj (Aj ?_))
  refine Ax ?_
  exact mi kn ⟨r4, rfl, rfl, (sn _)⟩
 rintro e1 _ _ ⟨bb, rfl, rfl, au⟩
 refine AA _ au ?_
 rw [Ht] at bb
 refine AG (ua (Aa (Aw ?_)))
 refine B7 results52 ?_
 obtain rfl := AL bb
 exact rfl
set_option maxHeartbeats 1000000 in
theorem Ec (ae : At 1 (CM 1 eJ) F Am Al Ah) (ad : At 1 eI F Ae Ad Ab) (ah : At 3 (Br eI eP) F Ao An Ak) {r : Int} (hr : DA Af Ac Ah Ab Ak = some r) :
    Bp Tryz.prog 17 #[.agg #[vI Af, vI Ac, sL Am Ah.length Al, sL Ae Ab.length Ad, sL Ao Ak.length An]] F (vI r) := by
 refine sp func17 ntmps17 fun K _ _ => ?_
 rw [DA] at hr
 refine AG ?_
 refine BB rfl rfl ?_; intro b1 jh
 refine ua (Aa (Au ?_))
 obtain ⟨k, h2, r3⟩ := Az hr
 refine jE ([(b1, ce #[vI Af, vI Ac, sL Am Ah.length Al, sL Ae Ab.length Ad, sL Ao Ak.length An] 50)]) [(1, pO b1), (35, .bool k)] ?_ ?_
 ·clear r3
  refine Aq (uv (Ap KU rfl) (uv (Co isAgg3 0) ?_))
  obtain ⟨ok, h4, r5⟩ := Az h2
  refine cV call70 (Cb h4) (um ?_)
  rcases DX ok with c6 | c6
  ·have r7 := bt r5 c6
   refine fB c6 (fB c6 (fB c6 ?_))
   refine uv (AK (FK rfl c6) rfl) ?_
   refine um (AZ (b' := true) 18 rfl rfl rfl rfl (AZ (b' := true) 18 rfl rfl rfl rfl (AZ (b' := true) 18 rfl rfl rfl rfl (AZ (b' := true) 18 rfl rfl rfl rfl ?_))))
   refine uv (AK rfl rfl) ?_
   refine um (AZ (b' := true) 24 rfl rfl rfl rfl (AZ (b' := true) 24 rfl rfl rfl rfl (AZ (b' := true) 24 rfl rfl rfl rfl (AZ (b' := true) 24 rfl rfl rfl rfl ?_))))
   refine uv (AK rfl rfl) ?_
   refine um (AZ (b' := true) 30 rfl rfl rfl rfl (AZ (b' := true) 30 rfl rfl rfl rfl (AZ (b' := true) 30 rfl rfl rfl rfl (AZ (b' := true) 30 rfl rfl rfl rfl ?_))))
   refine uv (AK rfl rfl) (Aa ?_)
   obtain rfl := AL r7
   exact mi kr ⟨rfl, rfl, z2⟩
  have r8 := bf r5 c6
  refine nB c6 (uv (Ap MX rfl) (nB c6 (uv (Co isAgg3 0) (nB c6 ?_))))
  obtain ⟨gz, h9, fv⟩ := Az r8
  refine cV call70 (Cb h9) (uv (AE (FK rfl c6) rfl) (um ?_))
  rcases DX gz with ai | ai
  ·have ia := bt fv ai
   refine fB ai (fB ai (fB ai (fB ai ?_)))
   refine uv (AK (FK rfl ai) rfl) ?_
   refine um (AZ (b' := true) 24 rfl rfl rfl rfl (AZ (b' := true) 24 rfl rfl rfl rfl (AZ (b' := true) 24 rfl rfl rfl rfl (AZ (b' := true) 24 rfl rfl rfl rfl ?_))))
   refine uv (AK rfl rfl) ?_
   refine um (AZ (b' := true) 30 rfl rfl rfl rfl (AZ (b' := true) 30 rfl rfl rfl rfl (AZ (b' := true) 30 rfl rfl rfl rfl (AZ (b' := true) 30 rfl rfl rfl rfl ?_))))
   refine uv (AK rfl rfl) (Aa ?_)
   obtain rfl := AL ia
   exact mi kr ⟨rfl, rfl, z2⟩
  have ib := bf fv ai
  refine nB ai (uv (Ap Jv rfl) (nB ai (uv (Co isAgg23 0) (nB ai (uv (AJ underlying23 rfl) (nB ai ?_))))))
  obtain ⟨ji, ic, ie⟩ := Az ib
  refine cV call70 (Cb ic) (uv (AE (FK rfl ai) rfl) (um ?_))
  obtain ⟨bb, ig⟩ := AF ie
  refine nB bb (uv (Ap Iq rfl) (nB bb (uv (Co isAgg22 0) (nB bb (uv (AJ underlying22 rfl) (nB bb ?_))))))
  obtain ⟨jj, ij, ik⟩ := Az ig
  refine cV call70 (Cb ij) (uv (AE (FK rfl bb) rfl) (um ?_))
  obtain ⟨bc, il⟩ := AF ik
  refine nB bc (uv (Ap IA rfl) (nB bc (uv (Co isAgg48 0) (nB bc (uv (AJ underlying48 rfl) (nB bc (uv (C2 rfl rfl) ?_)))))))
  refine uv (AE (FK rfl bc) rfl) (Aa ?_)
  obtain rfl := AL il
  exact mi kr ⟨rfl, rfl, z2⟩
 refine AV rfl (fun df => ?_) (fun df => ?_)
 ·have im := bt r3 df
  refine AG (ua (Aa ?_))
  refine kW kn ?_
  refine Aw (Av ?_)
  refine B7 results17 ?_
  obtain rfl := AL im
  exact rfl
 have iq := bf r3 df
 refine Ar ?_
 refine AO (fun e1 F1 L1 => H5 Af Ac Ah Ab Ak = some r ∧ F = F1 ∧ L1 = [(b1, ce #[vI Af, vI Ac, sL Am Ah.length Al, sL Ae Ab.length Ad, sL Ao Ak.length An] 50)] ∧ e1.sub [(1, pO b1)]) ?_ ?_
 ·refine AG (ua (Aa ?_))
  refine As ?_
  refine A6 (fun fw e1 F1 L1 => LA Ah fw fun tl s_ => EY Af Ac Ah Ab Ak tl = some r ∧ F = F1 ∧ L1 = [(b1, ce #[vI Af, vI Ac, sL Am Ah.length Al, sL Ae Ab.length Ad, sL Ao Ak.length An] 50)] ∧ e1.sub [(1, pO b1), (3, vI s_)]) _ (m0 kr ⟨_, _, rfl, Bq.start _, iq, rfl, rfl, z2⟩) ?_
  rintro fw e1 _ _ ⟨tl, s_, dg, av, bd, rfl, rfl, dh⟩
  refine AA _ dh ?_
  refine Au (AG (um ?_))
  refine uv (Ap Jv rfl) (uv (Co isAgg23 0) (uv (AJ underlying23 rfl) (uv (AY rfl rfl) (Aa ?_))))
  refine cQ (fun cx => ?_) fun cx => ?_
  ·obtain ⟨x, jk, rfl, di, fx, dk⟩ := Bq.succ av cx
   rw [EY] at bd
   refine Ar (Au ?_)
   refine As (AG (uv (Ap Jv rfl) (uv (Co isAgg23 0) (um ?_))))
   obtain ⟨jl, jm, jn, ir, dm, dp, fy, ⟨jo, jq, rfl, jr⟩, iu, dq⟩ := At.ta (Ay kJ) ae fx.1 di
   refine uv (C0 underlying23 sizeOf34 dm fx) (uv (AS isAgg34 rfl (dp _) (dq 0 (by decide))) (uv (AJ underlying34 rfl) (uv (BU rfl rfl) (Aa ?_))))
   refine cQ (fun dr => ?_) fun dr => ?_
   ·have iv := A2 bd dr
    refine AG (ua (Aa ?_))
    refine kW kn ?_
    refine Aw (AH (Av (Av (AH (Av ?_)))))
    refine B7 results17 ?_
    obtain rfl := AL iv
    exact rfl
   have iw := A3 bd dr
   refine Ar (AD (id := 1) (Aq (um ?_)))
   refine uv (A4 rfl rfl (Bq.CE av cx (At.lt ae))) ?_
   refine ua (Aa ?_)
   subst dg; exact le kr ⟨_, _, rfl, dk, iw, rfl, rfl, z2⟩
  obtain rfl := Bq.zero av cx
  rw [EY] at bd
  refine AM (Aj (Aj ?_))
  refine Ax ?_
  exact mi kr ⟨bd, rfl, rfl, z1⟩
 rintro e1 _ _ ⟨ga, rfl, rfl, dt⟩
 refine AA _ dt ?_
 rw [H5] at ga
 refine AO (fun e1 F1 L1 => Ic Ac Ah Ab Ak = some r ∧ F = F1 ∧ L1 = [(b1, ce #[vI Af, vI Ac, sL Am Ah.length Al, sL Ae Ab.length Ad, sL Ao Ak.length An] 50)] ∧ e1.sub [(1, pO b1)]) ?_ ?_
 ·refine AG (ua (Aa ?_))
  refine As ?_
  refine A6 (fun gb e1 F1 L1 => LA Ah gb fun gg cy => CZ Af Ac Ah Ab Ak gg = some r ∧ F = F1 ∧ L1 = [(b1, ce #[vI Af, vI Ac, sL Am Ah.length Al, sL Ae Ab.length Ad, sL Ao Ak.length An] 50)] ∧ e1.sub [(1, pO b1), (4, vI cy)]) _ (m0 kr ⟨_, _, rfl, Bq.start _, ga, rfl, rfl, z2⟩) ?_
  rintro gb e1 _ _ ⟨gg, cy, du, aw, cz, rfl, rfl, dv⟩
  refine AA _ dv ?_
  refine Au (AG (um ?_))
  refine uv (Ap Jv rfl) (uv (Co isAgg23 0) (uv (AJ underlying23 rfl) (uv (AY rfl rfl) (Aa ?_))))
  refine cQ (fun da => ?_) fun da => ?_
  ·obtain ⟨x2, gh, rfl, dw, gi, dx⟩ := Bq.succ aw da
   rw [CZ] at cz
   refine Ar ?_
   refine AO (fun e1 F1 L1 => HX (CZ Af Ac Ah Ab Ak gh) = some r ∧ F = F1 ∧ L1 = [(b1, ce #[vI Af, vI Ac, sL Am Ah.length Al, sL Ae Ab.length Ad, sL Ao Ak.length An] 50)] ∧ e1.sub [(1, pO b1), (4, vI cy)]) ?_ ?_
   ·refine As ?_
    refine AG (ua (Aa ?_))
    refine As ?_
    obtain ⟨iy, iz⟩ := AF cz
    refine A6 (fun db e1 F1 L1 => ∃ (w : Int), B0 0 8 w db ∧ ER Af Ac Ah Ab Ak x2 (CZ Af Ac Ah Ab Ak gh) db w = some r ∧ F = F1 ∧ L1 = [(b1, ce #[vI Af, vI Ac, sL Am Ah.length Al, sL Ae Ab.length Ad, sL Ao Ak.length An] 50)] ∧ e1.sub [(1, pO b1), (4, vI cy), (5, vI w)]) _ (m0 kr ⟨_, B0.start _ _, iz, rfl, rfl, z3⟩) ?_
    rintro db e1 _ _ ⟨w, ax, dd, rfl, rfl, dy⟩
    refine AA _ dy ?_
    refine Au (AG (um ?_))
    refine uv (AY rfl rfl) (Aa ?_)
    refine cQ (fun de => ?_) fun de => ?_
    ·obtain ⟨db, rfl, dz⟩ := B0.succ ax de
     rw [ER] at dd
     refine Ar (Au ?_)
     refine As (dW (wv (Cv isAgg50 sizeOf50 0) (wv (Ap Jv rfl) (wv (Co isAgg23 0) (wm ?_)))))
     obtain ⟨js, jt, ju, j0, eb, ec, gj, ⟨jv, jw, rfl, j1⟩, j2, ef⟩ := At.ta (Ay kJ) ae gi.1 dw
     refine wv (C0 underlying23 sizeOf34 eb gi) (wv (AS isAgg34 rfl (ec _) (ef 0 (by decide))) (wm ?_))
     obtain ⟨x3, gk, eg, j3⟩ := BG dd
     obtain ⟨jx, jz, kb, j4, eh, ei, gl, ⟨kh, kj, rfl, j5⟩, j6, ej⟩ := At.ta kJ j1 gk.1 eg
     refine wv (C0 underlying34 sizeOf22 eh gk) (wv (AS isAgg22 rfl (ei _) (ej 0 (by decide))) ?_)
     obtain ⟨n, j7, gm⟩ := Az j3
     refine Dy rfl call52 rfl rfl rfl (JX ae ad ah j5 j7) ?_
     refine wa (Tm (um ?_))
     refine uv (BU rfl rfl) (Aa ?_)
     refine cQ (fun en => ?_) fun en => ?_
     ·have eo := A2 gm en
      refine AG (um (ua (Aa ?_)))
      refine kW kn ?_
      refine Aw (AH (Av (Av (AH (AH (Av (Av (AH (Av ?_)))))))))
      refine B7 results17 ?_
      obtain rfl := AL eo
      exact rfl
     have ep := A3 gm en
     refine Ar (AD (id := 5) (Aq (um ?_)))
     refine uv (A4 rfl rfl (B0.CE ax de iy)) ?_
     refine ua (Aa ?_)
     exact le kr ⟨_, dz, ep, rfl, rfl, z3⟩
    obtain rfl := B0.zero ax de
    rw [ER] at dd
    refine AM (Aj (Aj ?_))
    refine Ax (AD (id := 3) ?_)
    exact mi kr ⟨dd, rfl, rfl, z2⟩
   rintro e1 _ _ ⟨bg, rfl, rfl, bh⟩
   refine AA _ bh ?_
   rw [HX] at bg
   refine Aq (um ?_)
   refine uv (A4 rfl rfl (Bq.CE aw da (At.lt ae))) ?_
   refine ua (Aa ?_)
   subst du; exact le kr ⟨_, _, rfl, dx, bg, rfl, rfl, z2⟩
  obtain rfl := Bq.zero aw da
  rw [CZ] at cz
  refine AM (Aj (Aj ?_))
  refine Ax ?_
  exact mi kr ⟨cz, rfl, rfl, z1⟩
 rintro e1 _ _ ⟨bj, rfl, rfl, bk⟩
 refine AA _ bk ?_
 rw [Ic] at bj
 refine AO (fun e1 F1 L1 => HZ Ac Ah Ab Ak = some r ∧ F = F1 ∧ L1 = [(b1, ce #[vI Af, vI Ac, sL Am Ah.length Al, sL Ae Ab.length Ad, sL Ao Ak.length An] 50)] ∧ e1.sub [(1, pO b1)]) ?_ ?_
 ·refine AG (ua (Aa ?_))
  refine As ?_
  refine A6 (fun gn e1 F1 L1 => LA Ab gn fun gp h => EW Ac Ah Ab Ak gp = some r ∧ F = F1 ∧ L1 = [(b1, ce #[vI Af, vI Ac, sL Am Ah.length Al, sL Ae Ab.length Ad, sL Ao Ak.length An] 50)] ∧ e1.sub [(1, pO b1), (7, vI h)]) _ (m0 kr ⟨_, _, rfl, Bq.start _, bj, rfl, rfl, z2⟩) ?_
  rintro gn e1 _ _ ⟨gp, h, bl, aj, ao, rfl, rfl, bm⟩
  refine AA _ bm ?_
  refine Au (AG (um ?_))
  refine uv (Ap Iq rfl) (uv (Co isAgg22 0) (uv (AJ underlying22 rfl) (uv (AY rfl rfl) (Aa ?_))))
  refine cQ (fun aq => ?_) fun aq => ?_
  ·obtain ⟨x4, kl, rfl, bn, bo, bp⟩ := Bq.succ aj aq
   rw [EW] at ao
   refine Ar (Au ?_)
   refine As (AG (uv (Ap Iq rfl) (uv (Co isAgg22 0) (um ?_))))
   obtain ⟨j8, j9, ja, gq, bq, br, er, rfl, gr, bu⟩ := At.ta kI ad bo.1 bn
   refine uv (C0 underlying22 sizeOf3 bq bo) (uv (AS isAgg3 rfl (br _) (bu 0 (by decide))) ?_)
   obtain ⟨km, et, bw⟩ := Az ao
   refine cV call70 (Cb et) (Aa ?_)
   refine AV rfl (fun ay => ?_) (fun ay => ?_)
   ·have eu := bt bw ay
    refine AG (ua (Aa ?_))
    refine kW kn ?_
    refine Aw (AH (Av (Av (AH (Av ?_)))))
    refine B7 results17 ?_
    obtain rfl := AL eu
    exact rfl
   have ew := bf bw ay
   refine Ar (AD (id := 7) (Aq (um ?_)))
   refine uv (A4 rfl rfl (Bq.CE aj aq (At.lt ad))) ?_
   refine ua (Aa ?_)
   subst bl; exact le kr ⟨_, _, rfl, bp, ew, rfl, rfl, z2⟩
  obtain rfl := Bq.zero aj aq
  rw [EW] at ao
  refine AM (Aj (Aj ?_))
  refine Ax ?_
  exact mi kr ⟨ao, rfl, rfl, z1⟩
 rintro e1 _ _ ⟨bx, rfl, rfl, bz⟩
 refine AA _ bz ?_
 rw [HZ] at bx
 refine AO (fun e1 F1 L1 => H9 = some r ∧ F = F1 ∧ L1 = [] ∧ e1.sub []) ?_ ?_
 ·refine AG (ua (Aa ?_))
  refine As ?_
  refine A6 (fun cb e1 F1 L1 => LA Ak cb fun gu i => Ep Ac Ah Ab gu = some r ∧ F = F1 ∧ L1 = [(b1, ce #[vI Af, vI Ac, sL Am Ah.length Al, sL Ae Ab.length Ad, sL Ao Ak.length An] 50)] ∧ e1.sub [(1, pO b1), (8, vI i)]) _ (m0 kr ⟨_, _, rfl, Bq.start _, bx, rfl, rfl, z2⟩) ?_
  rintro cb e1 _ _ ⟨gu, i, cc, ak, ar, rfl, rfl, cf⟩
  refine AA _ cf ?_
  refine Au (AG (um ?_))
  refine uv (Ap IA rfl) (uv (Co isAgg48 0) (uv (AJ underlying48 rfl) (uv (AY rfl rfl) (Aa ?_))))
  refine cQ (fun au => ?_) fun au => ?_
  ·obtain ⟨x5, ko, rfl, cg, cj, ck⟩ := Bq.succ ak au
   rw [Ep] at ar
   refine Ar (Au ?_)
   refine As (AG (uv (Ap IA rfl) (uv (Co isAgg48 0) (um ?_))))
   obtain ⟨jb, jc, jd, gv, cn, cp, al, ⟨_, _, rfl, rfl, ⟨_, _, rfl, rfl, rfl⟩⟩, cq, cr⟩ := At.ta (Ai kI kP) ah cj.1 cg
   refine uv (C0 underlying48 sizeOf110 cn cj) (uv (Bn isAgg110 sizeOf110 rfl (cp _) al (Bi al cq cr)) ?_)
   refine Bu rfl zeroValue110 ?_; intro je gw
   refine BD (i := 0) sizeOf110 rfl rfl rfl (by simp [Value.oneCell']) rfl (DD rfl) (AB rfl (Aa ?_))
   obtain ⟨k2, ey, az⟩ := Az ar
   refine jE ([(b1, ce #[vI Af, vI Ac, sL Am Ah.length Al, sL Ae Ab.length Ad, sL Ao Ak.length An] 50)]) [(1, pO b1), (8, vI i), (122, .bool k2)] ?_ ?_
   ·clear az
    refine Aq (uv (Ap Pp rfl) (uv (Co isAgg3 0) (uv (Ap Iq rfl) (uv (Co isAgg22 1) (uv (AJ underlying22 rfl) ?_)))))
    obtain ⟨ez, fa⟩ := AF ey
    refine uv (EU rfl rfl ez) ?_
    obtain ⟨jf, fb, ct⟩ := Az fa
    refine cV call70 (Cb fb) (um ?_)
    rcases DX jf with aa | aa
    ·have fe := bt ct aa
     refine fB aa (fB aa (fB aa (fB aa (fB aa (fB aa (fB aa ?_))))))
     refine uv (AK (FK rfl aa) rfl) ?_
     refine um (AZ (b' := true) 115 rfl rfl rfl rfl (AZ (b' := true) 115 rfl rfl rfl rfl (AZ (b' := true) 115 rfl rfl rfl rfl (AZ (b' := true) 115 rfl rfl rfl rfl (AZ (b' := true) 115 rfl rfl rfl rfl (AZ (b' := true) 115 rfl rfl rfl rfl ?_))))))
     refine uv (AK rfl rfl) (Aa ?_)
     obtain rfl := AL fe
     exact mi (kd kr) ⟨rfl, rfl, z3⟩
    have ff := bf ct aa
    refine nB aa (uv (Ap Px rfl) (nB aa (uv (Co isAgg3 0) (nB aa (uv (Ap Jv rfl) (nB aa (uv (Co isAgg23 1) ?_)))))))
    refine nB aa (uv (AJ underlying23 rfl) (nB aa ?_))
    obtain ⟨fg, fh⟩ := AF ff
    refine uv (EU rfl rfl fg) (nB aa ?_)
    obtain ⟨jg, fi, cu⟩ := Az fh
    refine cV call70 (Cb fi) (uv (AE (FK rfl aa) rfl) (um ?_))
    rcases DX jg with ab | ab
    ·have fj := bt cu ab
     refine fB ab (fB ab (fB ab (fB ab (fB ab (fB ab ?_)))))
     refine uv (AK (FK rfl ab) rfl) (Aa ?_)
     obtain rfl := AL fj
     exact mi (kd kr) ⟨rfl, rfl, z3⟩
    have fk := bf cu ab
    refine nB ab (uv (Ap Pn rfl) (nB ab (uv (Co isAgg3 0) (nB ab (uv (Ap MX rfl) (nB ab (uv (Co isAgg3 1) ?_)))))))
    refine nB ab ?_
    obtain ⟨fl, fm⟩ := AF fk
    refine uv (EU rfl rfl fl) (nB ab ?_)
    obtain ⟨kt, fo, fp⟩ := Az fm
    refine cV call70 (Cb fo) (uv (AE (FK rfl ab) rfl) (Aa ?_))
    obtain rfl := AL fp
    exact mi (kd kr) ⟨rfl, rfl, z3⟩
   refine AV rfl (fun ba => ?_) (fun ba => ?_)
   ·have fq := bt az ba
    refine AG (ua (Aa ?_))
    refine kW kn ?_
    refine Aw (AH (Av (Av (AH (Av ?_)))))
    refine B7 results17 ?_
    obtain rfl := AL fq
    exact rfl
   have ft := bf az ba
   refine Ar (AD (id := 9) (Aq (um ?_)))
   refine uv (A4 rfl rfl (Bq.CE ak au (At.lt ah))) ?_
   refine ua (Aa ?_)
   subst cc; exact le kr ⟨_, _, rfl, ck, ft, rfl, rfl, z2⟩
  obtain rfl := Bq.zero ak au
  rw [Ep] at ar
  refine AM (Aj (Aj ?_))
  refine Ax ?_
  exact mi kn ⟨ar, rfl, rfl, (sn _)⟩
 rintro e1 _ _ ⟨cv, rfl, rfl, cw⟩
 refine AA _ cw ?_
 rw [H9] at cv
 refine AG (ua (Aa (Aw ?_)))
 refine B7 results17 ?_
 obtain rfl := AL cv
 exact rfl
set_option maxHeartbeats 1000000 in
theorem Pu (ab : At 1 (CM 1 eJ) F Am Al Ah) (aa : At 1 eI F Ae Ad Ab) (aj : At 3 (Br eI eP) F Ao An Ak) {r r2 : Int} {r3 : List (List (List Int))} {r6 : Int} (hr : Np Af Ac Ah Ab Ak hour ED = some (r, r2, r3, r4, r5, r6)) :
    SH.Spec Tryz.prog 18 #[.agg #[vI Af, vI Ac, sL Am Ah.length Al, sL Ae Ab.length Ad, sL Ao Ak.length An], vI hour, vI ED] F [] fun F' L' v => ∃ (ie : Option Addr) (ig : Nat) (ij : Nat) (ik : LH) (il : Option Addr) (im : Nat) (iq : Nat) (ir : LH) (iu : Option Addr) (iv : Nat) (iw : Nat) (iy : LH), v = .tuple #[.agg #[vI r, vI r2, sL ie ig ij, sL il im iq, sL iu iv iw], vI r6] ∧ L' = ik ++ (ir ++ (iy ++ [])) ∧ KH 0 34 1 LR (q3 22 3 1 eI) F' ie ig ij r3 ik ∧ AI 0 3 1 eI F' il im iq r4 ir ∧ AI 0 32 3 (Br eI eP) F' iu iv iw r5 iy := by
 refine sp func18 ntmps18 fun K _ _ => ?_
 rw [Np] at hr
 refine AG ?_
 refine BB rfl rfl ?_; intro b1 me
 refine Bu rfl zeroValue26 ?_; intro b2 mg
 refine ua (BR ?_)
 refine uv (Cv isAgg26 sizeOf26 1) ?_
 obtain ⟨n, h3, r7⟩ := Az hr
 refine cV call12 (DU ab aa aj h3) ?_
 refine ua (Aa (Au ?_))
 refine As ?_
 refine AG (um ?_)
 refine uv (BU rfl rfl) ?_
 refine ua (Aa ?_)
 refine cQ (fun c8 => ?_) fun c8 => ?_
 ·have r9 := A2 r7 c8
  refine AG ?_
  refine uv (BX (v := .agg #[vI 0, vI 0, sL none 0 0, sL none 0 0, sL none 0 0]) rfl (by intro w; kernel_rfl)) ?_
  refine um (BD (i := 0) sizeOf26 rfl rfl rfl (by simp [Value.oneCell']) rfl (DD rfl) (AB rfl ?_))
  refine ua (Aa ?_)
  refine kW (kc kn) ?_
  refine Aw (AH (Av ?_))
  refine BM results18 (GJ (cs := #[vI 0, vI 0, sL none 0 0, sL none 0 0, sL none 0 0]) isAgg26 sizeOf26 rfl (Has.own 0 rfl) (DD rfl) rfl) (AT rfl) (s1 sr) ?_
  obtain ⟨rfl, rfl, rfl, rfl, rfl, rfl⟩ := Pj r9
  exact ⟨_, _, _, [], _, _, _, [], _, _, _, [], rfl, rfl, KH.nil, AI.nil _ _ _ _ _, AI.nil _ _ _ _ _⟩
 have jr := A3 r7 c8
 refine AG (uv (Cv isAgg26 sizeOf26 1) (um ?_))
 obtain ⟨ok, js, iz⟩ := Az jr
 refine cV call62 (Hj ab aa aj js) (uv (Bo rfl) ?_)
 refine ua (Aa ?_)
 refine AV rfl (fun fi => ?_) (fun fi => ?_)
 ·have jt := bt iz fi
  refine AG ?_
  refine uv (BX (v := .agg #[vI 0, vI 0, sL none 0 0, sL none 0 0, sL none 0 0]) rfl (by intro w; kernel_rfl)) ?_
  refine BD (i := 0) sizeOf26 rfl rfl rfl (by simp [Value.oneCell']) rfl (DD rfl) (AB rfl ?_)
  refine ua (Aa ?_)
  refine kW (kc kn) ?_
  refine Aw (AH (Av ?_))
  refine BM results18 (GJ (cs := #[vI 0, vI 0, sL none 0 0, sL none 0 0, sL none 0 0]) isAgg26 sizeOf26 rfl (Has.own 0 rfl) (DD rfl) rfl) (AT rfl) (s1 sr) ?_
  obtain ⟨rfl, rfl, rfl, rfl, rfl, rfl⟩ := Pj jt
  exact ⟨_, _, _, [], _, _, _, [], _, _, _, [], rfl, rfl, KH.nil, AI.nil _ _ _ _ _, AI.nil _ _ _ _ _⟩
 have ju := bf iz fi
 refine AG (um ?_)
 obtain ⟨mh, jv, j0⟩ := Az ju
 refine cV call59 (NA jv) (uv (Bo rfl) ?_)
 refine ua (Aa ?_)
 refine AV rfl (fun fj => ?_) (fun fj => ?_)
 ·have jw := bt j0 fj
  refine AG ?_
  refine uv (BX (v := .agg #[vI 0, vI 0, sL none 0 0, sL none 0 0, sL none 0 0]) rfl (by intro w; kernel_rfl)) ?_
  refine BD (i := 0) sizeOf26 rfl rfl rfl (by simp [Value.oneCell']) rfl (DD rfl) (AB rfl ?_)
  refine ua (Aa ?_)
  refine kW (kc kn) ?_
  refine Aw (AH (Av ?_))
  refine BM results18 (GJ (cs := #[vI 0, vI 0, sL none 0 0, sL none 0 0, sL none 0 0]) isAgg26 sizeOf26 rfl (Has.own 0 rfl) (DD rfl) rfl) (AT rfl) (s1 sr) ?_
  obtain ⟨rfl, rfl, rfl, rfl, rfl, rfl⟩ := Pj jw
  exact ⟨_, _, _, [], _, _, _, [], _, _, _, [], rfl, rfl, KH.nil, AI.nil _ _ _ _ _, AI.nil _ _ _ _ _⟩
 have jx := bf j0 fj
 refine Ar (AD (id := 0) (Au ?_))
 obtain ⟨j1, jz⟩ := AF jx
 refine BK [(.pre, 12), (.still, 0), (.still, 1), (.still, 2), (.still, 3), (.still, 4), (.still, 5), (.still, 6), (.pre, 7), (.still, 8), (.still, 9), (.seq, 10), (.alloc (ce (madeCells (vI 0 : Value).cells (Int.toNat (Ab.length : Int) * 1)) 3) (fun b => sL (aD b) (Int.toNat (Ab.length : Int)) (Int.toNat (Ab.length : Int))) [(39, vI (Ab.length : Int))], 7), (.still, 11), (.alloc (.cells (.agg #[vI 0, vI 0, sL none 0 0, sL none 0 0, sL none 0 0] : Value).cells 26 (0, 0)) (fun b => pO b) [], 12), (.seq, 13)] (by kernel_rfl) (by kernel_rfl) (⟨⟨_, _, rfl, rfl, rfl, rfl, rfl, NP Bm (by decide) rfl j1⟩, ⟨⟨_, _, rfl, rfl, rfl, rfl, rfl, GC zeroValue26⟩, trivial⟩⟩) (by rfl) (by kernel_rfl) ?_
 refine ⟨⟨[], rfl, sn _, by kernel_rfl⟩, ?_⟩
 refine mS [3] rfl (Ap Js rfl) (mK [33] isAgg3 1 rfl rfl rfl rfl (mS [3] rfl (Ap Iy rfl) (mK [35] isAgg3 1 rfl rfl rfl rfl (mS [3] rfl (Ap CB rfl) (mK [37] isAgg22 1 rfl rfl rfl rfl (mS [38] rfl (AJ underlying22 rfl) ?_))))))
 refine ⟨⟨_, rfl, z1, by kernel_rfl⟩, ?_⟩
 refine mS [3] rfl (Ap Dv rfl) (mK [41] isAgg24 1 rfl rfl rfl rfl ?_)
 refine ⟨_, [(42, sL Ao Ak.length An)], rfl, rfl, z1, by kernel_rfl, ?_⟩; intro H
 obtain ⟨l, kb, kh⟩ := Az jz
 refine c0 call71 (Fk aj kb) ?_; rintro _ fk _ ck fl ⟨bd, bg, bh, ah, rfl, rfl, aw⟩
 replace ab := ab.mono (Ay kJ) ck
 replace aa := aa.m1 ck
 replace aw := aw.new fun p hp => fl p (by simp [hp])
 refine AB (lp (ln rfl)) (kO (kf (fS fO) (kf (fS fO) kr)) ?_)
 refine Aa ⟨_, rfl, ck, [6, 5, 4, 3, 2, 1, 0], by kernel_rfl, .inl (.inr (fun d h => by cases h; rfl)), (fc sm (fc (s0 (s1 (s2 (s3 sr)))) (fc sm (fc (s0 (s1 (s2 (s3 sr)))) (fc sm (fc (s0 (s1 (s2 (s3 sr)))) (fc sm nm))))))), ?_⟩
 refine K7 rfl ?_; intro ak fm
 refine HK (L' := (ak, ce (madeCells (vI 0 : Value).cells ((Int.toNat (Ab.length : Int)) * 1)) 3) :: ((b2, ce #[vI 0, vI 0, sL none 0 0, sL none 0 0, sL none 0 0] 26) :: ((b1, ce #[vI Af, vI Ac, sL Am Ah.length Al, sL Ae Ab.length Ad, sL Ao Ak.length An] 26) :: (ah ++ [])))) rfl ?_
 refine mS (v := .agg #[vI Af, vI Ac, sL none 0 0, sL (aD ak) (Int.toNat (Ab.length : Int)) (Int.toNat (Ab.length : Int)), sL bd bg bh]) [34, 36, 40, 43] rfl (BX (v := .agg #[vI Af, vI Ac, sL none 0 0, sL (aD ak) (Int.toNat (Ab.length : Int)) (Int.toNat (Ab.length : Int)), sL bd bg bh]) rfl (by intro w; kernel_rfl)) ?_
 refine HP rfl ?_; intro al kj
 refine HK (L' := (al, ce #[vI 0, vI 0, sL none 0 0, sL none 0 0, sL none 0 0] 26) :: ((ak, ce (madeCells (vI 0 : Value).cells ((Int.toNat (Ab.length : Int)) * 1)) 3) :: ((b2, ce #[vI 0, vI 0, sL none 0 0, sL none 0 0, sL none 0 0] 26) :: ((b1, ce #[vI Af, vI Ac, sL Am Ah.length Al, sL Ae Ab.length Ad, sL Ao Ak.length An] 26) :: (ah ++ []))))) rfl ?_
 refine ⟨_, [(9, pO al), (44, .agg #[vI Af, vI Ac, sL none 0 0, sL (aD ak) (Int.toNat (Ab.length : Int)) (Int.toNat (Ab.length : Int)), sL bd bg bh])], rfl, rfl, z2, by kernel_rfl, ?_⟩; intro H
 obtain ⟨l2, kl, km⟩ := BI kh
 have bj : AI K.w0.heap.size 3 1 eI fk (aD ak) (Int.toNat (Ab.length : Int)) (Int.toNat (Ab.length : Int)) l2 [(ak, ce (madeCells (vI 0 : Value).cells ((Int.toNat (Ab.length : Int)) * 1)) 3)] := by rw [kl]; exact AI.made kI (by decide) (fun _ => rfl) fm (Nm j1)
 generalize cn : ([(ak, ce (madeCells (vI 0 : Value).cells ((Int.toNat (Ab.length : Int)) * 1)) 3)] : LH) = ao at bj
 refine Bc (L' := ao ++ ((al, ce #[vI 0, vI 0, sL none 0 0, sL none 0 0, sL none 0 0] 26) :: ((b2, ce #[vI 0, vI 0, sL none 0 0, sL none 0 0, sL none 0 0] 26) :: ((b1, ce #[vI Af, vI Ac, sL Am Ah.length Al, sL Ae Ab.length Ad, sL Ao Ak.length An] 26) :: (ah ++ []))))) (by rw [← cn]; exact (fC fO)) ?_
 refine Bc (L' := (al, ce #[vI 0, vI 0, sL none 0 0, sL none 0 0, sL none 0 0] 26) :: ((b2, ce #[vI 0, vI 0, sL none 0 0, sL none 0 0, sL none 0 0] 26) :: ((b1, ce #[vI Af, vI Ac, sL Am Ah.length Al, sL Ae Ab.length Ad, sL Ao Ak.length An] 26) :: (ao ++ (ah ++ []))))) (List.Perm.symm (fC (fC (fC fP)))) (BD (i := 0) sizeOf26 rfl rfl rfl (by simp [Value.oneCell']) rfl (DD rfl) (AB rfl ?_))
 refine Aa ⟨undef, rfl, AQ.refl _, [], by kernel_rfl, .inl (.inl rfl), nm, ?_⟩
 refine Ce ?_
 obtain ⟨ai, ko, j2⟩ := Az km
 refine AO (fun e1 F1 L1 => ∃ (cz : Option Addr) (da : Nat) (db : Nat) (bk : LH), AQ fk F1 ∧ L1 = ((al, ce #[vI Af, vI Ac, sL cz da db, sL (aD ak) (Int.toNat (Ab.length : Int)) (Int.toNat (Ab.length : Int)), sL bd bg bh] 26) :: ((b2, ce #[vI 0, vI 0, sL none 0 0, sL none 0 0, sL none 0 0] 26) :: ((b1, ce #[vI Af, vI Ac, sL Am Ah.length Al, sL Ae Ab.length Ad, sL Ao Ak.length An] 26) :: (bk ++ (ao ++ (ah ++ [])))))) ∧ e1.sub [(1, vI hour), (2, vI ED), (3, pO b1), (6, pO b2), (9, pO al)] ∧ KH K.w0.heap.size 34 1 LR (q3 22 3 1 eI) F1 cz da db ai bk) ?_ ?_
 ·clear j2
  refine AG (uv (Ap CC rfl) (uv (Co isAgg23 2) (uv (AJ underlying23 rfl) ?_)))
  refine um (Aa ?_)
  refine As ?_
  refine A6 (fun j3 e1 F1 L1 => LA Ah j3 fun tl k => ∃ (ad : List (List (List Int))) (cv : Option Addr) (cw : Nat) (cx : Nat) (aq : LH), Iu tl ad = some ai ∧ AQ fk F1 ∧ L1 = ((al, ce #[vI Af, vI Ac, sL cv cw cx, sL (aD ak) (Int.toNat (Ab.length : Int)) (Int.toNat (Ab.length : Int)), sL bd bg bh] 26) :: ((b2, ce #[vI 0, vI 0, sL none 0 0, sL none 0 0, sL none 0 0] 26) :: ((b1, ce #[vI Af, vI Ac, sL Am Ah.length Al, sL Ae Ab.length Ad, sL Ao Ak.length An] 26) :: (aq ++ (ao ++ (ah ++ [])))))) ∧ e1.sub [(1, vI hour), (2, vI ED), (3, pO b1), (6, pO b2), (9, pO al), (46, sL Am Ah.length Al), (47, vI (Ah.length : Int)), (48, vI k)] ∧ KH K.w0.heap.size 34 1 LR (q3 22 3 1 eI) F1 cv cw cx ad aq) _ (m0 (kc (kc (kc (ke kr)))) ⟨_, _, rfl, Bq.start _, [], none, 0, 0, [], ko, AQ.refl _, rfl, z8, KH.nil⟩) ?_
  rintro j3 e1 fo _ ⟨tl, k, fp, cp, ad, cv, cw, cx, aq, ey, cq, rfl, fq, bl⟩
  refine AA _ fq ?_
  replace ab := ab.mono (Ay kJ) cq
  refine AG (uv (AY rfl rfl) ?_)
  refine Aa (Au ?_)
  refine cQ (fun ez => ?_) fun ez => ?_
  ·obtain ⟨x, mj, rfl, ft, j4, fv⟩ := Bq.succ cp ez
   rw [Iu] at ey
   refine Ar ?_
   obtain ⟨ae, kt, j5⟩ := Az ey
   refine AO (fun e1 F1 L1 => ∃ (fa : Option Addr) (fb : Nat) (fe : Nat) (bm : LH), AQ fo F1 ∧ L1 = ((al, ce #[vI Af, vI Ac, sL fa fb fe, sL (aD ak) (Int.toNat (Ab.length : Int)) (Int.toNat (Ab.length : Int)), sL bd bg bh] 26) :: ((b2, ce #[vI 0, vI 0, sL none 0 0, sL none 0 0, sL none 0 0] 26) :: ((b1, ce #[vI Af, vI Ac, sL Am Ah.length Al, sL Ae Ab.length Ad, sL Ao Ak.length An] 26) :: (bm ++ (ao ++ (ah ++ [])))))) ∧ e1.sub [(1, vI hour), (2, vI ED), (3, pO b1), (6, pO b2), (9, pO al), (46, sL Am Ah.length Al), (47, vI (Ah.length : Int)), (48, vI k)] ∧ KH K.w0.heap.size 34 1 LR (q3 22 3 1 eI) F1 fa fb fe ae bm) ?_ ?_
   ·clear j5
    refine As (AG ?_)
    obtain ⟨ml, mn, mo, ku, fw, fx, j6, ⟨kv, kz, rfl, cy⟩, l0, fy⟩ := At.ta (Ay kJ) ab j4.1 ft
    refine uv (C0 underlying23 sizeOf34 fw j4) (uv (AS isAgg34 rfl (fx _) (fy 0 (by decide))) ?_)
    refine ua (BR (ua (Aa ?_)))
    obtain ⟨own, ld, j7⟩ := Az kt
    refine AO (fun e1 F1 L1 => ∃ (bn : Option Addr) (bo : Nat) (bp : Nat) (cr : LH), AQ fo F1 ∧ L1 = ((al, ce #[vI Af, vI Ac, sL cv cw cx, sL (aD ak) (Int.toNat (Ab.length : Int)) (Int.toNat (Ab.length : Int)), sL bd bg bh] 26) :: ((b2, ce #[vI 0, vI 0, sL none 0 0, sL none 0 0, sL none 0 0] 26) :: ((b1, ce #[vI Af, vI Ac, sL Am Ah.length Al, sL Ae Ab.length Ad, sL Ao Ak.length An] 26) :: (aq ++ (ao ++ (ah ++ (cr ++ []))))))) ∧ e1.sub [(1, vI hour), (2, vI ED), (3, pO b1), (6, pO b2), (9, pO al), (12, sL bn bo bp), (46, sL Am Ah.length Al), (47, vI (Ah.length : Int)), (48, vI k)] ∧ Ev K.w0.heap.size 22 3 1 eI F1 bn bo bp own cr) ?_ ?_
    ·clear j7
     refine AG (um ?_)
     refine uv (AJ underlying34 rfl) ?_
     refine um (Aa ?_)
     refine As ?_
     refine A6 (fun j8 e1 F1 L1 => LA x j8 fun j9 k2 => ∃ (ct : List (List Int)) (ff : Option Addr) (fg : Nat) (fh : Nat) (bq : LH), IC j9 ct = some own ∧ AQ fo F1 ∧ L1 = ((al, ce #[vI Af, vI Ac, sL cv cw cx, sL (aD ak) (Int.toNat (Ab.length : Int)) (Int.toNat (Ab.length : Int)), sL bd bg bh] 26) :: ((b2, ce #[vI 0, vI 0, sL none 0 0, sL none 0 0, sL none 0 0] 26) :: ((b1, ce #[vI Af, vI Ac, sL Am Ah.length Al, sL Ae Ab.length Ad, sL Ao Ak.length An] 26) :: (aq ++ (ao ++ (ah ++ (bq ++ []))))))) ∧ e1.sub [(1, vI hour), (2, vI ED), (3, pO b1), (6, pO b2), (9, pO al), (12, sL ff fg fh), (46, sL Am Ah.length Al), (47, vI (Ah.length : Int)), (48, vI k), (52, sL kv x.length kz), (53, vI (x.length : Int)), (54, vI k2)] ∧ Ev K.w0.heap.size 22 3 1 eI F1 ff fg fh ct bq) _ (m0 (kc (kc (kc (ka (ka (ka (ke kr))))))) ⟨_, _, rfl, Bq.start _, [], none, 0, 0, [], ld, AQ.refl _, rfl, (sc rfl (sc rfl (sc rfl (sc rfl z8)))), Ev.nil _ _ _ _ _ _⟩) ?_
     rintro j8 e1 lg _ ⟨j9, k2, dd, ax, ct, ff, fg, fh, bq, br, ay, rfl, de, bu⟩
     refine AA _ de ?_
     replace cy := cy.m2 ay
     refine AG (uv (AY rfl rfl) ?_)
     refine Aa (Au ?_)
     refine cQ (fun bw => ?_) fun bw => ?_
     ·obtain ⟨x2, mq, rfl, df, dg, dh⟩ := Bq.succ ax bw
      rw [IC] at br
      refine Ar (Au ?_)
      refine As (AG ?_)
      obtain ⟨lh, lj, lk, ja, di, dk, ga, ⟨ll, lq, rfl, gb⟩, jb, dm⟩ := At.ta kJ cy dg.1 df
      refine uv (C0 underlying34 sizeOf22 di dg) (uv (AS isAgg22 rfl (dk _) (dm 0 (by decide))) ?_)
      refine ua (Aa (Aq (um (um ?_))))
      obtain ⟨l3, gg, gh⟩ := Az br
      refine c0 call72 (CG gb gg) ?_; rintro _ gi _ az dp ⟨ar, au, av, jc, rfl, rfl, ba⟩
      replace cy := cy.m2 az
      replace bu := bu.m1 az
      replace ba := ba.new fun p hp => dp p (by simp [hp])
      refine AB (lp (ln rfl)) (kO (kf (fS fO) (kf (fS fO) (kf (fS fO) kr))) ?_)
      refine bA (cs := #[sL ar au av]) FI [sL ar au av] ?_; intro lr jd
      obtain ⟨dq, dr, gj, gk⟩ := Ea gh
      refine OA (fC (fC (fC (fC (fS (fS (fS (fS fP)))))))) bu ?_; intro bx je jf dt bz
      refine kO (kf (fS (fS fO)) (kf (fS (fS fO)) (kf (fS (fS fO)) (kf (fS (fS fO)) kr)))) ?_
      refine CJ (xs := bx) (ys := [(ar, au, av)]) (zs := bx ++ [(ar, au, av)]) rfl FI rfl rfl (Nat.le_refl _) (fun _ => .c (.c (.c (.c .h)))) dt (FL.box (vss := [[sL ar au av]]) (ys := [(ar, au, av)]) 0 rfl DP (.cons rfl .nil) rfl rfl) rfl (SL bz dr gj) (by decide) ?_; intro du dv dw jg dx
      refine kO (kd kr) ?_
      refine Ij (p := fun X => Ev K.w0.heap.size 22 3 1 eI gi du dv dw dq X) (Lq.push bz rfl dx ba dr) (pT ((fC (fC (fC fP))).trans (pA ((fC (fC (fC (fS fP)))).trans (pA ((fC (fC (fC fP))).trans (pA pR)))))) (lp (lp (lp (ln rfl))))) ?_; intro dy dz
      refine kO (kf (fS fO) (kf (fS fO) (kf (fS fO) kr))) ?_
      refine ua (Aa (AD (id := 4) (Aq ?_)))
      refine uv (A4 rfl rfl (Bq.CE ax bw (At.lt cy))) ?_
      refine um (Aa ?_)
      subst dd; exact le (kc (kc (kc (kg (fS fP) (kg (fS fP) (kg (fS fP) kr)))))) ⟨_, _, rfl, dh, dq, du, dv, dw, dy, gk, (ay.trans az), rfl, (sc rfl (sc rfl (sc rfl (sc rfl z8)))), dz⟩
     obtain rfl := Bq.zero ax bw
     rw [IC] at br
     refine AM (Aj (Aj ?_))
     refine Ax ?_
     obtain rfl := AL br
     exact mi kr ⟨ff, fg, fh, bq, ay, rfl, (sc rfl z8), bu⟩
    rintro e1 gl _ ⟨bn, bo, bp, cr, cb, rfl, eb, gm⟩
    refine AA _ eb ?_
    replace bl := bl.mono (Pt kI) cb
    refine Aq (uv (Ap CC rfl) (uv (Co isAgg23 0) (um ?_)))
    refine bA (cs := #[sL bn bo bp]) LI [sL bn bo bp] ?_; intro lu jh
    obtain ⟨out, ec, gn, gp⟩ := Ea j7
    refine P4 (fC (fC (fC (fC fP)))) bl ?_; intro cc ji jj ef cf
    refine kO (kf (fS (fS fO)) (kf (fS (fS fO)) (kf (fS (fS fO)) (kf (fS (fS fO)) kr)))) ?_
    refine CJ (xs := cc) (ys := [((bn, bo, bp) : Hd)]) (zs := cc ++ [((bn, bo, bp) : Hd)]) rfl LI rfl rfl (Nat.le_refl _) (fun _ => .c (.c (.c (.c .h)))) ef (FL.box (vss := [[sL bn bo bp]]) (ys := [((bn, bo, bp) : Hd)]) 0 rfl DP (.cons rfl .nil) rfl rfl) rfl (Te cf ec gn) (by decide) ?_; intro eg eh ei jk ej
    refine kO (kd kr) ?_
    refine Ij (p := fun X => KH K.w0.heap.size 34 1 LR (q3 22 3 1 eI) gl eg eh ei out X) (M1.push cf rfl ej gm ec) (pT ((fC (fC (fC fP))).trans (pA ((fC (fC (fC (fS (fS (fS fP)))))).trans (pA ((fC (fC (fC fP))).trans (pA pR)))))) (lp (lp (lp (ln rfl))))) ?_; intro en eo
    refine kO (kf (fS fO) (kf (fS fO) (kf (fS fO) kr))) (uv (Ap CC rfl) (BL (i := 0) sizeOf23 rfl rfl rfl rfl (DD rfl) (AB rfl ?_)))
    refine Aa (AD (id := 2) ?_)
    obtain rfl := AL gp
    exact mi kr ⟨eg, eh, ei, en, cb, rfl, z8, eo⟩
   rintro e1 lv _ ⟨fa, fb, fe, bm, cg, rfl, ep, gq⟩
   refine AA _ ep ?_
   replace ab := ab.mono (Ay kJ) cg
   refine Aq (uv (A4 rfl rfl (Bq.CE cp ez (At.lt ab))) ?_)
   refine um (Aa ?_)
   subst fp; exact le kr ⟨_, _, rfl, fv, ae, fa, fb, fe, bm, j5, (cq.trans cg), rfl, z8, gq⟩
  obtain rfl := Bq.zero cp ez
  rw [Iu] at ey
  refine AM (Aj (Aj ?_))
  refine Ax ?_
  obtain rfl := AL ey
  exact mi kr ⟨cv, cw, cx, aq, cq, rfl, z5, bl⟩
 rintro e1 lx _ ⟨cz, da, db, bk, bb, rfl, er, gr⟩
 refine AA _ er ?_
 replace aa := aa.m1 bb
 replace bj := bj.m1 bb
 replace aw := aw.mono (Ai kI kP) bb
 refine AG (uv (Ap CB rfl) (uv (Co isAgg22 0) (uv (Ap CB rfl) (uv (Co isAgg22 2) ?_))))
 obtain ⟨gu, gv, gw⟩ := BI j2
 refine MT (ys := Ab) (zs := gu) rfl Bm kI rfl rfl (fun _ => .c (.c (.c (.s .h)))) bj (At.src aa) gv ?_; intro et bc
 refine BR (uv (Ap CB rfl) (uv (Co isAgg22 0) ?_))
 refine um (um ?_)
 obtain ⟨x3, cu, eu, gz⟩ := BG gw
 obtain ⟨ly, ma, mb, jl, cj, jm, ia, rfl, jn, jo⟩ := AI.at kI bc (L := (al, ce #[vI Af, vI Ac, sL cz da db, sL (aD ak) (Int.toNat (Ab.length : Int)) (Int.toNat (Ab.length : Int)), sL bd bg bh] 26) :: ((b2, ce #[vI 0, vI 0, sL none 0 0, sL none 0 0, sL none 0 0] 26) :: ((b1, ce #[vI Af, vI Ac, sL Am Ah.length Al, sL Ae Ab.length Ad, sL Ao Ak.length An] 26) :: (bk ++ (et ++ (ah ++ [])))))) (fC (fC (fC (fS fP)))) cu.1 eu
 refine uv (C0 underlying22 sizeOf3 cj (AI.idx bc cu)) ?_
 obtain ⟨mc, ib, ic⟩ := BI gz
 refine Dq (u := ED) sizeOf3 kI rfl cj rfl rfl (fun _ => .c (.c (.c (.s .h)))) bc ib cu ?_; intro jq ew
 refine BR (uv (Cv isAgg26 sizeOf26 0) (BD (i := 1) sizeOf26 rfl rfl rfl (by simp [Value.oneCell']) rfl (DD rfl) (AB rfl ?_)))
 refine ua (Aa ?_)
 refine kW (kd (kc (kd kr))) (Aw (BM results18 (GJ (cs := #[vI Af, vI Ac, sL cz da db, sL (aD ak) (Int.toNat (Ab.length : Int)) (Int.toNat (Ab.length : Int)), sL bd bg bh]) isAgg26 sizeOf26 rfl (Has.own 0 rfl) (DD rfl) rfl) (AT rfl) (s1 (s4 (s4 (s4 sr)))) ?_))
 obtain ⟨rfl, rfl, rfl, rfl, rfl, rfl⟩ := Pj ic
 exact ⟨_, _, _, _, _, _, _, _, _, _, _, _, rfl, rfl, (gr.SQ (Pt kI) fun _ _ => Nat.zero_le _), ew.any, aw.any⟩
set_option maxHeartbeats 1000000 in
theorem Is {s1 s2 : List (Int × Int × Int)} (ad : At 3 (Br eI eP) F IH IF s1) (ah : At 3 (Br eI eP) F IU I0 s2) {r : Bool} (hr : DL s1 s2 = some r) :
    Bp Tryz.prog 120 #[sL IH s1.length IF, sL IU s2.length I0] F (.bool r) := by
 refine sp func120 ntmps120 fun K _ _ => ?_
 rw [DL] at hr
 refine AG (ua (Aa (Au (AG (um ?_)))))
 refine uv (AJ underlying24 rfl) (um (uv (AJ underlying24 rfl) (uv (BU rfl rfl) (Aa ?_))))
 obtain ⟨g2, r3⟩ := AF hr
 refine B9 rfl (fun c4 => absurd c4 g2) (fun c4 => ?_)
 refine Ar ?_
 obtain ⟨h5, r6⟩ := IK r3
 refine jE ([]) [] ?_ ?_
 ·clear r6
  refine AG (um ?_)
  refine uv (AJ underlying24 rfl) ?_
  refine um (Aa ?_)
  refine As ?_
  refine A6 (fun ba e1 F1 L1 => LA s1 ba fun tl k => B3 s2 tl k = some () ∧ F = F1 ∧ L1 = [] ∧ e1.sub [(0, sL IH s1.length IF), (1, sL IU s2.length I0), (12, vI (s1.length : Int)), (13, vI k)]) _ (m0 kr ⟨_, _, rfl, Bq.start _, h5, rfl, rfl, z4⟩) ?_
  rintro ba e1 _ _ ⟨tl, k, bg, ai, r9, rfl, rfl, aj⟩
  refine AA _ aj (AG (uv (AY rfl rfl) ?_))
  refine Aa (Au ?_)
  refine cQ (fun ae => ?_) fun ae => ?_
  ·obtain ⟨x, bn, rfl, ak, bb, al⟩ := Bq.succ ai ae
   rw [B3] at r9
   refine Ar (Au ?_)
   refine As ?_
   refine AG (um (ua ?_))
   refine dN ?_
   refine wm (wm ?_)
   obtain ⟨bo, bp, bq, bh, ao, aq, aa, ⟨_, _, rfl, rfl, ⟨_, _, rfl, rfl, rfl⟩⟩, ar, au⟩ := At.ta (Ai kI kP) ad bb.1 ak
   refine wv (C0 underlying24 sizeOf32 ao bb) (wv (Bn isAgg32 sizeOf32 rfl (aq _) aa (Bi aa ar au)) ?_)
   refine wm (wm ?_)
   obtain ⟨x2, bc, av, bj⟩ := BG r9
   obtain ⟨br, bu, bw, bk, aw, ax, ab, ⟨_, _, rfl, rfl, ⟨_, _, rfl, rfl, rfl⟩⟩, ay, az⟩ := At.ta (Ai kI kP) ah bc.1 av
   refine wv (C0 underlying24 sizeOf32 aw bc) (wv (Bn isAgg32 sizeOf32 rfl (ax _) ab (Bi ab ay az)) (wv (RW (Ry _ _ _ _) (fun w => Rl (eq_32 _ _ _ _ _ _ w)) rfl rfl) (B6 ?_)))
   obtain ⟨bl, bm⟩ := AF bj
   refine B9 rfl (fun bd => absurd bd bl) (fun bd => ?_)
   refine Ar (AD (id := 1) (Aq ?_))
   refine uv (A4 rfl rfl (Bq.CE ai ae (At.lt ad))) ?_
   refine um (Aa ?_)
   subst bg; exact le kr ⟨_, _, rfl, al, bm, rfl, rfl, z4⟩
  obtain rfl := Bq.zero ai ae
  rw [B3] at r9
  refine AM (Aj (Aj ?_))
  refine Ax ?_
  clear r9
  exact mi kr ⟨rfl, rfl, (sn _)⟩
 refine AG (ua (Aa (Aw ?_)))
 refine B7 results120 ?_
 obtain rfl := AL r6
 exact rfl
set_option maxHeartbeats 1000000 in
theorem Mg {a b : List (Int × Int × Int)} (aa : At 3 (Br eI eP) F P3 P9 a) (ab : At 3 (Br eI eP) F PT P6 b) {r : Bool} (hr : IN a b = some r) :
    Bp Tryz.prog 73 #[sL P3 a.length P9, sL PT b.length P6] F (.bool r) := by
 refine sp func73 ntmps73 fun K _ _ => ?_
 rw [IN] at hr
 refine AG (ua (BR (um (um ?_))))
 obtain ⟨ok, h1, r2⟩ := Az hr
 refine cV call120 (Is aa ab h1) ?_
 refine ua (Aa (Aw ?_))
 refine B7 results73 ?_
 obtain rfl := AL r2
 exact rfl
set_option maxHeartbeats 1000000 in
theorem HD {s1 s2 : List (List (List Int))} {eq : ((List (List Int)) × (List (List Int))) → Option Bool} (aa : At 1 (CM 1 eJ) F IH IF s1) (ae : At 1 (CM 1 eJ) F IU I0 s2) (ab : J2 Tryz.prog F Ol eq_1 eq_2 (Br (CM 1 eJ) (CM 1 eJ)) Value.bool eq) {r : Bool} (hr : Dg s1 s2 eq = some r) :
    Bp Tryz.prog 74 #[sL IH s1.length IF, sL IU s2.length I0, .func (.func Ol) eq_1 eq_2] F (.bool r) := by
 refine sp func74 ntmps74 fun K _ _ => ?_
 rw [Dg] at hr
 refine AG (ua (Aa (Au (AG (um ?_)))))
 refine uv (AJ underlying23 rfl) (um (uv (AJ underlying23 rfl) (uv (BU rfl rfl) (Aa ?_))))
 obtain ⟨g2, r3⟩ := AF hr
 refine B9 rfl (fun c4 => absurd c4 g2) (fun c4 => ?_)
 refine Ar ?_
 obtain ⟨h5, r6⟩ := IK r3
 refine jE ([]) [] ?_ ?_
 ·clear r6
  refine AG (um ?_)
  refine uv (AJ underlying23 rfl) ?_
  refine um (Aa ?_)
  refine As ?_
  refine A6 (fun ax e1 F1 L1 => LA s1 ax fun tl k => BV s2 eq tl k = some () ∧ F = F1 ∧ L1 = [] ∧ e1.sub [(1, sL IU s2.length I0), (2, .func (.func Ol) eq_1 eq_2), (15, sL IH s1.length IF), (16, vI (s1.length : Int)), (17, vI k)]) _ (m0 kr ⟨_, _, rfl, Bq.start _, h5, rfl, rfl, z5⟩) ?_
  rintro ax e1 _ _ ⟨tl, k, bd, ah, r9, rfl, rfl, ai⟩
  refine AA _ ai (AG (uv (AY rfl rfl) ?_))
  refine Aa (Au ?_)
  refine cQ (fun ad => ?_) fun ad => ?_
  ·obtain ⟨x, bu, rfl, aj, ay, ak⟩ := Bq.succ ah ad
   rw [BV] at r9
   refine Ar (Au ?_)
   refine As ?_
   refine AG (um ?_)
   obtain ⟨bw, bx, bz, bg, al, ao, az, ⟨cb, cc, rfl, bh⟩, bj, aq⟩ := At.ta (Ay kJ) aa ay.1 aj
   refine uv (C0 underlying23 sizeOf34 al ay) (uv (AS isAgg34 rfl (ao _) (aq 0 (by decide))) ?_)
   refine ua (ua (BR (um (um ?_))))
   obtain ⟨x2, ba, ar, bk⟩ := BG r9
   obtain ⟨cf, cg, cj, bl, au, av, bb, ⟨ck, cn, rfl, bm⟩, bn, aw⟩ := At.ta (Ay kJ) ae ba.1 ar
   refine uv (C0 underlying23 sizeOf34 au ba) (uv (AS isAgg34 rfl (av _) (aw 0 (by decide))) ?_)
   refine ua (BR (um (um (um ?_))))
   obtain ⟨ok, bo, bp⟩ := Az bk
   refine Gx rfl ab.1 rfl rfl rfl (ab.2 _ (AQ.refl _) _ _ _ ⟨_, _, rfl, ⟨_, _, rfl, bh⟩, ⟨_, _, rfl, bm⟩⟩ bo) (uv (Bo rfl) (Aa ?_))
   obtain ⟨bq, br⟩ := AF bp
   refine AV rfl (fun bc => absurd (bq.symm.trans bc) (by decide)) (fun bc => ?_)
   refine Ar (AD (id := 1) (Aq ?_))
   refine uv (A4 rfl rfl (Bq.CE ah ad (At.lt aa))) ?_
   refine um (Aa ?_)
   subst bd; exact le kr ⟨_, _, rfl, ak, br, rfl, rfl, z5⟩
  obtain rfl := Bq.zero ah ad
  rw [BV] at r9
  refine AM (Aj (Aj ?_))
  refine Ax ?_
  clear r9
  exact mi kr ⟨rfl, rfl, (sn _)⟩
 refine AG (ua (Aa (Aw ?_)))
 refine B7 results74 ?_
 obtain rfl := AL r6
 exact rfl
set_option maxHeartbeats 1000000 in
theorem EE {AU ae : Int} {ah : Option Addr} {ai : Nat} {ao : List (List (List Int))} {ab : Option Addr} {ad : Nat} {aa : List Int} {aj : Option Addr} {ak : Nat} {aq : List (Int × Int × Int)} (aw : At 1 (CM 1 eJ) F Am Al Ah) (ar : At 1 eI F Ae Ad Ab) (ax : At 3 (Br eI eP) F Ao An Ak) (au : At 1 (CM 1 eJ) F ah ai ao) (al : At 1 eI F ab ad aa) (av : At 3 (Br eI eP) F aj ak aq) {r : Bool} (hr : D5 Af Ac Ah Ab Ak AU ae ao aa aq = some r) :
    Bp Tryz.prog 19 #[.agg #[vI Af, vI Ac, sL Am Ah.length Al, sL Ae Ab.length Ad, sL Ao Ak.length An], .agg #[vI AU, vI ae, sL ah ao.length ai, sL ab aa.length ad, sL aj aq.length ak]] F (.bool r) := by
 refine sp func19 ntmps19 fun K _ _ => ?_
 rw [D5] at hr
 refine AG ?_
 refine BB rfl rfl ?_; intro b1 bm
 refine BB rfl rfl ?_; intro b2 bn
 refine ua (BR ?_)
 refine uv (Ap Js rfl) (uv (Co isAgg3 1) (uv (Ap Js rfl) (uv (Co isAgg3 0) (uv (Bx rfl rfl) (um ?_)))))
 obtain ⟨g3, r4⟩ := AF hr
 refine nT g3 (uv (Ap Iy rfl) (nT g3 (uv (Co isAgg3 1) (nT g3 (uv (Ap Iy rfl) (nT g3 (uv (Co isAgg3 0) ?_)))))))
 refine nT g3 (uv (Bx rfl rfl) (uv (AK (Ba rfl g3) rfl) (um ?_)))
 obtain ⟨g5, r6⟩ := AF r4
 refine nT g5 (uv (Ap CB rfl) (nT g5 (uv (Co isAgg22 1) (nT g5 (uv (Ap CB rfl) (nT g5 (uv (Co isAgg22 0) ?_)))))))
 refine nT g5 ?_
 obtain ⟨ok, h7, r8⟩ := Az r6
 refine cV call25 (Bv ar al h7) (uv (AK (Ba rfl g5) rfl) (um ?_))
 obtain ⟨g9, bb⟩ := AF r8
 refine nB g9 (uv (Ap Dv rfl) (nB g9 (uv (Co isAgg24 1) (nB g9 (uv (Ap Dv rfl) (nB g9 (uv (Co isAgg24 0) ?_)))))))
 refine nB g9 ?_
 obtain ⟨bo, bc, bd⟩ := Az bb
 refine cV call73 (Mg ax av bc) (uv (AK (FK rfl g9) rfl) (um ?_))
 obtain ⟨ay, bg⟩ := AF bd
 refine nB ay (uv (Ap CC rfl) (nB ay (uv (Co isAgg23 1) (nB ay (uv (Ap CC rfl) (nB ay (uv (Co isAgg23 0) ?_)))))))
 refine nB ay ?_
 have az : J2 Tryz.prog F 34 #[] #[] (Br (CM 1 eJ) (CM 1 eJ)) Value.bool (fun ba : (List (List Int)) × (List (List Int)) => C5 ba.1 ba.2) := ⟨call34, fun F2 h2 vs ba r ha hr => by obtain ⟨_, _, rfl, ⟨bp, bq, rfl, bh⟩, ⟨br, bu, rfl, bj⟩⟩ := ha; exact Gt bh bj hr⟩
 obtain ⟨bw, bk, bl⟩ := Az bg
 refine cV call74 (HD aw au az bk) (uv (AK (FK rfl ay) rfl) ?_)
 refine ua (Aa ?_)
 refine kW kn (Aw (B7 results19 ?_))
 obtain rfl := AL bl
 exact rfl
set_option maxHeartbeats 1000000 in
theorem BW (ab : At 1 (CM 1 eJ) F Am Al Ah) (aa : At 1 eI F Ae Ad Ab) (ad : At 3 (Br eI eP) F Ao An Ak) {r : Bool} (hr : BJ Af Ac Ah Ab Ak hour ED = some r) :
    Bp Tryz.prog 5 #[.agg #[vI Af, vI Ac, sL Am Ah.length Al, sL Ae Ab.length Ad, sL Ao Ak.length An], vI hour, vI ED] F (.bool r) := by
 refine sp func5 ntmps5 fun K _ _ => ?_
 rw [BJ] at hr
 refine AG ?_
 refine BB rfl rfl ?_; intro b1 pw
 refine ua (Aa (Au (AG ?_)))
 refine uv (Cv isAgg26 sizeOf26 0) ?_
 obtain ⟨ok, h2, r3⟩ := Az hr
 refine cV call14 (Fp ab aa ad h2) (Aa ?_)
 refine AV rfl (fun c4 => ?_) (fun c4 => ?_)
 ·have r5 := bt r3 c4
  refine AG ?_
  obtain ⟨px, h6, r7⟩ := Az r5
  refine cV call13 (CA h6) ?_
  refine ua (Aa ?_)
  refine kW kn ?_
  refine Aw (Av ?_)
  refine B7 results5 ?_
  obtain rfl := AL r7
  exact rfl
 have r8 := bf r3 c4
 refine Ar (Au ?_)
 refine BK [(.pre, 4), (.pre, 5), (.still, 0), (.still, 2), (.seq, 1), (.seq, 3), (.alloc (.cells (.agg #[vI 0, vI 0, sL none 0 0, sL none 0 0, sL none 0 0] : Value).cells 26 (0, 0)) (fun b => pO b) [], 4), (.alloc (.cells (.agg #[vI 0, vI 0, sL none 0 0, sL none 0 0, sL none 0 0] : Value).cells 50 (0, 0)) (fun b => pO b) [], 5), (.seq, 6), (.seq, 7)] (by kernel_rfl) (by kernel_rfl) (⟨⟨_, _, rfl, rfl, rfl, rfl, rfl, GC zeroValue26⟩, ⟨⟨_, _, rfl, rfl, rfl, rfl, rfl, GC zeroValue50⟩, trivial⟩⟩) (by rfl) (by kernel_rfl) ?_
 refine ⟨⟨[], rfl, sn _, by kernel_rfl⟩, ?_⟩
 refine ⟨⟨[], rfl, sn _, by kernel_rfl⟩, ?_⟩
 refine mL [3] ([(b1, ce #[vI Af, vI Ac, sL Am Ah.length Al, sL Ae Ab.length Ad, sL Ao Ak.length An] 26)]) rfl (s0 sr) (fun H F' L' jl jm => Bn isAgg26 sizeOf26 rfl ((Has.own 0 rfl).ext jl jm) (DD rfl) rfl) (mL [3] ([(b1, ce #[vI Af, vI Ac, sL Am Ah.length Al, sL Ae Ab.length Ad, sL Ao Ak.length An] 26)]) rfl (s0 sr) (fun H F' L' jl jm => Bn isAgg26 sizeOf26 rfl ((Has.own 0 rfl).ext jl jm) (DD rfl) rfl) ?_)
 refine ⟨_, [(20, .agg #[vI Af, vI Ac, sL Am Ah.length Al, sL Ae Ab.length Ad, sL Ao Ak.length An])], rfl, rfl, z1, by kernel_rfl, ?_⟩; intro H
 obtain ⟨n, n2, l, l2, l3, h9, o1⟩ := Ez r8
 refine c0 call15 (Fa ab aa ad h9) ?_; rintro _ py _ dp eo ⟨bu, o2, bw, fq, bx, o3, bz, ft, cb, o4, cc, fv, rfl, rfl, aw, al, aj⟩
 replace ab := ab.mono (Ay kJ) dp
 replace aa := aa.m1 dp
 replace ad := ad.mono (Ai kI kP) dp
 replace aw := aw.new fun p hp => eo p (by simp [hp])
 replace al := al.new fun p hp => eo p (by simp [hp])
 replace aj := aj.new fun p hp => eo p (by simp [hp])
 refine AB (lp (lp (lp (ln rfl)))) (kO (kf (fS (fS (fS fO))) kr) ?_)
 refine Aa ⟨_, rfl, dp, [2], by kernel_rfl, .inl (.inr (fun d h => by cases h; rfl)), (fc (s0 (s2 (s3 (s3 (s3 sr))))) nm), ?_⟩
 refine ⟨_, [(22, .agg #[vI Af, vI Ac, sL Am Ah.length Al, sL Ae Ab.length Ad, sL Ao Ak.length An])], rfl, rfl, z1, by kernel_rfl, ?_⟩; intro H
 obtain ⟨n3, n4, l4, l5, l6, o7, o8⟩ := Ez o1
 refine c0 call16 (DR ab aa ad o7) ?_; rintro _ pz _ bh jn ⟨o9, oc, od, oe, og, oh, oi, fw, rfl, rfl, oj, oo, dq⟩
 replace ab := ab.mono (Ay kJ) bh
 replace aa := aa.m1 bh
 replace ad := ad.mono (Ai kI kP) bh
 replace aw := aw.mono (Ay kJ) bh
 replace al := al.m1 bh
 replace aj := aj.mono (Ai kI kP) bh
 replace dq := dq.new fun p hp => jn p (by simp [hp])
 refine AB (lp (ln rfl)) (kO (kf (fS fO) kr) ?_)
 refine Aa ⟨_, rfl, bh, [], by kernel_rfl, .inl (.inl rfl), nm, ?_⟩
 refine HP rfl ?_; intro au oq
 refine HK (L' := (au, ce #[vI 0, vI 0, sL none 0 0, sL none 0 0, sL none 0 0] 26) :: ((b1, ce #[vI Af, vI Ac, sL Am Ah.length Al, sL Ae Ab.length Ad, sL Ao Ak.length An] 26) :: (fw ++ (fq ++ (ft ++ (fv ++ [])))))) rfl ?_
 refine HP rfl ?_; intro na ot
 refine HK (L' := (na, ce #[vI 0, vI 0, sL none 0 0, sL none 0 0, sL none 0 0] 50) :: ((au, ce #[vI 0, vI 0, sL none 0 0, sL none 0 0, sL none 0 0] 26) :: ((b1, ce #[vI Af, vI Ac, sL Am Ah.length Al, sL Ae Ab.length Ad, sL Ao Ak.length An] 26) :: (fw ++ (fq ++ (ft ++ (fv ++ []))))))) rfl ?_
 refine ⟨_, [(7, pO au), (21, .agg #[vI n, vI n2, sL bu o2 bw, sL bx o3 bz, sL cb o4 cc])], rfl, rfl, z2, by kernel_rfl, ?_⟩; intro H
 refine BD (i := 1) sizeOf26 rfl rfl rfl (by simp [Value.oneCell']) rfl (DD rfl) (AB rfl ?_)
 refine Aa ⟨undef, rfl, AQ.refl _, [], by kernel_rfl, .inl (.inl rfl), nm, ?_⟩
 refine ⟨_, [(8, pO na), (23, .agg #[vI n3, vI n4, sL o9 l4.length oc, sL od l5.length oe, sL og oh oi])], rfl, rfl, z2, by kernel_rfl, ?_⟩; intro H
 refine BD (i := 0) sizeOf50 rfl rfl rfl (by simp [Value.oneCell']) rfl (DD rfl) (AB rfl ?_)
 refine Aa ⟨undef, rfl, AQ.refl _, [], by kernel_rfl, .inl (.inl rfl), nm, ?_⟩
 refine Ce (AG (uv (Cv isAgg50 sizeOf50 0) ?_))
 obtain ⟨n5, ou, ow⟩ := Az o8
 refine Bh rfl call17 rfl rfl rfl (pT ((fC (fC (fC fP))).trans (pA pR)) (lp (ln rfl))) (fun F2 h2 h3 => by rw [(AI.A1 dq).1]; exact Ec (oj.mono (Ay kJ) h2) (oo.mono kI h2) (dq.row (Ai kI kP) h2 (aL h3)) ou) ?_
 refine ua (Aa (Au (AG ?_)))
 refine uv (Cv isAgg26 sizeOf26 1) ?_
 obtain ⟨n6, oy, oz⟩ := Az ow
 refine Bh rfl call12 rfl rfl rfl (pT ((fC (fC (fC (fS fP)))).trans (pA ((fC (fC (fC (fS fP)))).trans (pA ((fC (fC (fC (fS fP)))).trans (pA pR)))))) (lp (lp (lp (ln rfl))))) (fun F2 h2 h3 => by rw [(AI.A1 aw).1]; rw [(AI.A1 al).1]; rw [(AI.A1 aj).1]; exact DU (aw.row (Ay kJ) h2 (aL h3)) (al.row kI h2 (aL (aR h3))) (aj.row (Ai kI kP) h2 (aL (aR (aR h3)))) oy) ?_
 refine um (uv (BU rfl rfl) (Aa ?_))
 obtain ⟨p0, p3⟩ := AF oz
 refine B9 rfl (fun nc => absurd nc p0) (fun nc => ?_)
 refine Ar (AG ?_)
 refine uv (Cv isAgg26 sizeOf26 1) ?_
 refine um (um ?_)
 obtain rfl := (AI.A1 aw).1
 refine A5 (Nat.le_refl _) (Ay kJ) (fC (fC (fC (fS fP)))) aw ?_; intro q0 cf de
 replace ab := ab.mono (Ay kJ) cf
 replace aa := aa.m1 cf
 replace ad := ad.mono (Ai kI kP) cf
 replace al := al.m1 cf
 replace aj := aj.mono (Ai kI kP) cf
 obtain rfl := (AI.A1 al).1
 refine A5 (Nat.le_refl _) kI (fC (fC (fC (fS fP)))) al ?_; intro qb cg dw
 replace ab := ab.mono (Ay kJ) cg
 replace aa := aa.m1 cg
 replace ad := ad.mono (Ai kI kP) cg
 replace de := de.mono (Ay kJ) cg
 replace aj := aj.mono (Ai kI kP) cg
 obtain rfl := (AI.A1 aj).1
 refine A5 (Nat.le_refl _) (Ai kI kP) (fC (fC (fC (fS fP)))) aj ?_; intro qc cj fp
 replace ab := ab.mono (Ay kJ) cj
 replace aa := aa.m1 cj
 replace ad := ad.mono (Ai kI kP) cj
 replace de := de.mono (Ay kJ) cj
 replace dw := dw.m1 cj
 obtain ⟨n7, n8, l7, l8, l9, n9, p4, p5⟩ := RY p3
 refine c0 call18 (Pu de dw fp p4) ?_; rintro _ p6 _ bq ep ⟨ax, ay, az, ck, df, dg, dh, ao, di, dk, dm, aq, rfl, rfl, ba, bj, bk⟩
 replace ab := ab.mono (Ay kJ) bq
 replace aa := aa.m1 bq
 replace ad := ad.mono (Ai kI kP) bq
 replace de := de.mono (Ay kJ) bq
 replace dw := dw.m1 bq
 replace fp := fp.mono (Ai kI kP) bq
 replace ba := ba.SQ (Pt kI) fun p hp => ep p (by simp [hp])
 replace bj := bj.new fun p hp => ep p (by simp [hp])
 replace bk := bk.new fun p hp => ep p (by simp [hp])
 refine AB (lp (lp (lp (ln rfl)))) (kO (kf (fS (fS (fS fO))) (kf (fS (fS (fS fO))) (kf (fS (fS (fS fO))) kr))) ?_)
 refine um (ox rfl rfl rfl (ox rfl rfl rfl ?_))
 refine Bu rfl zeroValue26 ?_; intro bb p7
 refine BD (i := 0) sizeOf26 rfl rfl rfl (by simp [Value.oneCell']) rfl (DD rfl) (AB rfl ?_)
 refine ua (BR ?_)
 refine uv (BX (v := .agg #[vI 0, vI 0, sL none 0 0, sL none 0 0, sL none 0 0]) rfl (by intro w; kernel_rfl)) ?_
 refine Bu rfl zeroValue26 ?_; intro er p8
 refine BD (i := 0) sizeOf26 rfl rfl rfl (by simp [Value.oneCell']) rfl (DD rfl) (AB rfl (Aa ?_))
 obtain ⟨w, bc, av, bl, ar, bm, fx, fy⟩ := RY p5
 refine AO (fun e1 F1 L1 => ∃ (jo : Option Addr) (et : Nat) (jq : Nat) (eu : LH) (ew : Option Addr) (ey : Nat) (ez : Nat) (cn : LH) (fa : Option Addr) (fb : Nat) (fe : Nat) (cp : LH), AQ p6 F1 ∧ L1 = ((er, ce #[vI bc, vI av, sL jo et jq, sL ew ey ez, sL fa fb fe] 26) :: ((bb, ce #[vI n7, vI n8, sL ax ay az, sL df dg dh, sL di dk dm] 26) :: ((au, ce #[vI n, vI n2, sL bu l.length bw, sL bx l2.length bz, sL cb l3.length cc] 26) :: ((b1, ce #[vI Af, vI Ac, sL Am Ah.length Al, sL Ae Ab.length Ad, sL Ao Ak.length An] 26) :: (ck ++ (ao ++ (aq ++ (eu ++ (cn ++ (cp ++ [])))))))))) ∧ e1.sub [(3, pO b1), (7, pO au), (9, vI w), (10, pO bb), (11, vI n9), (12, pO er)] ∧ AI K.w0.heap.size 34 1 (CM 1 eJ) F1 jo et jq bl eu ∧ AI K.w0.heap.size 3 1 eI F1 ew ey ez ar cn ∧ AI K.w0.heap.size 32 3 (Br eI eP) F1 fa fb fe bm cp) ?_ ?_
 ·clear fy
  refine As ?_
  refine AG (um ?_)
  refine uv (BU rfl rfl) ?_
  refine ua (Aa ?_)
  refine cQ (fun ff => ?_) fun ff => ?_
  ·have jr := A2 fx ff
   refine Ar (AD (id := 0) ?_)
   obtain ⟨rfl, rfl, rfl, rfl, rfl, rfl⟩ := Pj jr
   exact mi (kc (kc (kd (kc (kc (ka (ka (ka (ke (ke (ke kn))))))))))) ⟨none, 0, 0, [], none, 0, 0, [], none, 0, 0, [], AQ.refl _, rfl, z6, AI.nil _ _ _ _ _, AI.nil _ _ _ _ _, AI.nil _ _ _ _ _⟩
  have js := A3 fx ff
  obtain ⟨k, ga, fg⟩ := Az js
  refine jE (((er, ce #[vI 0, vI 0, sL none 0 0, sL none 0 0, sL none 0 0] 26) :: ((bb, ce #[vI n7, vI n8, sL ax ay az, sL df dg dh, sL di dk dm] 26) :: ((au, ce #[vI n, vI n2, sL bu l.length bw, sL bx l2.length bz, sL cb l3.length cc] 26) :: ((b1, ce #[vI Af, vI Ac, sL Am Ah.length Al, sL Ae Ab.length Ad, sL Ao Ak.length An] 26) :: (ck ++ (ao ++ (aq ++ [])))))))) [(1, vI hour), (2, vI ED), (3, pO b1), (7, pO au), (9, vI n5), (10, pO bb), (11, vI n9), (12, pO er), (48, .bool k)] ?_ ?_
  ·clear fg
   refine Aq (um ?_)
   refine uv (AY rfl rfl) (um ?_)
   by_cases ae : hour < 0
   ·have jt := A2 ga ae
    refine fT ae (fT ae (fT ae (fT ae (fT ae ?_))))
    refine uv (AK (Ba rfl ae) rfl) ?_
    refine ua (Aa ?_)
    obtain rfl := AL jt
    exact mi (kc (kc (kd (kc (kc (ka (ka (ka kn)))))))) ⟨rfl, rfl, (sc rfl z8)⟩
   have ju := A3 ga ae
   refine nF ae (um (nF ae ?_))
   refine uv (Ap CB rfl) (nF ae (uv (Co isAgg22 4) (nF ae (uv (AJ underlying22 rfl) (nF ae (uv (Hu rfl rfl) (uv (AE (AR rfl ae) rfl) ?_)))))))
   refine ua (Aa ?_)
   obtain rfl := AL ju
   exact mi (kc (kc (kd (kc (kc (ka (ka (ka kn)))))))) ⟨rfl, rfl, (sc rfl z8)⟩
  refine AV rfl (fun fh => ?_) (fun fh => ?_)
  ·have jv := bt fg fh
   refine Aq (ua (Aa (AD (id := 0) ?_)))
   obtain ⟨rfl, rfl, rfl, rfl, rfl, rfl⟩ := Pj jv
   exact mi (kc (kc (kc (kc (ka (ka (ka (ke (ke (ke kr)))))))))) ⟨none, 0, 0, [], none, 0, 0, [], none, 0, 0, [], AQ.refl _, rfl, z6, AI.nil _ _ _ _ _, AI.nil _ _ _ _ _, AI.nil _ _ _ _ _⟩
  have jw := bf fg fh
  obtain ⟨k2, gb, fi⟩ := Az jw
  refine jE (((er, ce #[vI 0, vI 0, sL none 0 0, sL none 0 0, sL none 0 0] 26) :: ((bb, ce #[vI n7, vI n8, sL ax ay az, sL df dg dh, sL di dk dm] 26) :: ((au, ce #[vI n, vI n2, sL bu l.length bw, sL bx l2.length bz, sL cb l3.length cc] 26) :: ((b1, ce #[vI Af, vI Ac, sL Am Ah.length Al, sL Ae Ab.length Ad, sL Ao Ak.length An] 26) :: (ck ++ (ao ++ (aq ++ [])))))))) [(1, vI hour), (2, vI ED), (3, pO b1), (7, pO au), (9, vI n5), (10, pO bb), (11, vI n9), (12, pO er), (58, .bool k2)] ?_ ?_
  ·clear fi
   refine Aq (um ?_)
   refine uv (AY rfl rfl) (um ?_)
   by_cases bd : ED < (-1)
   ·have jx := A2 gb bd
    refine fT bd (fT bd ?_)
    refine uv (AK (Ba rfl bd) rfl) ?_
    refine ua (Aa ?_)
    obtain rfl := AL jx
    exact mi kr ⟨rfl, rfl, (sc rfl z8)⟩
   have jz := A3 gb bd
   refine nF bd (um (nF bd ?_))
   refine uv (Hu rfl rfl) (uv (AE (AR rfl bd) rfl) ?_)
   refine ua (Aa ?_)
   obtain rfl := AL jz
   exact mi kr ⟨rfl, rfl, (sc rfl z8)⟩
  refine AV rfl (fun fj => ?_) (fun fj => ?_)
  ·have kb := bt fi fj
   refine Aq (ua (Aa (AD (id := 0) ?_)))
   obtain ⟨rfl, rfl, rfl, rfl, rfl, rfl⟩ := Pj kb
   exact mi (kc (kc (kc (kc (ka (ka (ka (ke (ke (ke kr)))))))))) ⟨none, 0, 0, [], none, 0, 0, [], none, 0, 0, [], AQ.refl _, rfl, z6, AI.nil _ _ _ _ _, AI.nil _ _ _ _ _, AI.nil _ _ _ _ _⟩
  have kh := bf fi fj
  refine AG (uv (Cv isAgg26 sizeOf26 3) ?_)
  obtain ⟨p9, pa, qd, qe, qf, kj, kl⟩ := Ez kh
  refine c0 call15 (Fa ab aa ad kj) ?_; rintro _ pb _ gg cq ⟨gh, gi, gj, dx, gk, gl, gm, gn, gp, gq, gr, dy, rfl, rfl, cr, bg, ct⟩
  replace cr := cr.new fun p hp => cq p (by simp [hp])
  replace bg := bg.new fun p hp => cq p (by simp [hp])
  replace ct := ct.new fun p hp => cq p (by simp [hp])
  refine AB (lp (lp (lp (ln rfl)))) (kO (kf (fS (fS (fS fO))) (kf (fS (fS (fS fO))) (kf (fS (fS (fS fO))) (kf (fS (fS (fS fO))) kr)))) (BD (i := 0) sizeOf26 rfl rfl rfl (by simp [Value.oneCell']) rfl (DD rfl) (AB rfl ?_)))
  refine Aa (Aq ?_)
  refine uv (Ap CB rfl) (uv (Co isAgg22 0) ?_)
  refine um (um ?_)
  obtain ⟨x, fk, gu, km⟩ := BG kl
  obtain ⟨pd, pe, pf, nf, dz, ng, ko, rfl, nh, ni⟩ := AI.at kI bg (L := (er, ce #[vI p9, vI pa, sL gh gi gj, sL gk gl gm, sL gp gq gr] 26) :: ((bb, ce #[vI n7, vI n8, sL ax ay az, sL df dg dh, sL di dk dm] 26) :: ((au, ce #[vI n, vI n2, sL bu l.length bw, sL bx l2.length bz, sL cb l3.length cc] 26) :: ((b1, ce #[vI Af, vI Ac, sL Am Ah.length Al, sL Ae Ab.length Ad, sL Ao Ak.length An] 26) :: (dx ++ (gn ++ (dy ++ (ck ++ (ao ++ (aq ++ [])))))))))) (fC (fC (fC (fC (fS fP))))) fk.1 gu
  refine uv (C0 underlying22 sizeOf3 dz (AI.idx bg fk)) ?_
  obtain ⟨want, kt, ku⟩ := BI km
  refine Dq (u := ED) sizeOf3 kI rfl dz rfl rfl (fun _ => .c (.c (.c (.c (.s .h))))) bg kt fk ?_; intro gv gw
  refine Aa (AD (id := 0) ?_)
  obtain ⟨rfl, rfl, rfl, rfl, rfl, rfl⟩ := Pj ku
  exact mi (kc (kc (kc (kc (kg (fS (fS (fS fP))) (kg (fS (fS (fS fP))) (kg (fS (fS (fS fP))) kr))))))) ⟨gh, gi, gj, dx, gk, gl, gm, gv, gp, gq, gr, dy, gg, rfl, z6, cr, gw, ct⟩
 rintro e1 br _ ⟨jo, et, jq, eu, ew, ey, ez, cn, fa, fb, fe, cp, ah, rfl, gz, ia, eb, ec⟩
 refine AA _ gz ?_
 replace ab := ab.mono (Ay kJ) ah
 replace aa := aa.m1 ah
 replace ad := ad.mono (Ai kI kP) ah
 replace de := de.mono (Ay kJ) ah
 replace dw := dw.m1 ah
 replace fp := fp.mono (Ai kI kP) ah
 replace ba := ba.mono (Pt kI) ah
 replace bj := bj.m1 ah
 replace bk := bk.mono (Ai kI kP) ah
 refine Au (AG (um (um ?_)))
 refine uv (BU rfl rfl) (um ?_)
 obtain ⟨cu, kv⟩ := AF fy
 refine nF cu (uv (Cv isAgg26 sizeOf26 1) (nF cu (uv (Cv isAgg26 sizeOf26 0) (nF cu ?_))))
 obtain ⟨qg, kz, l0⟩ := Az kv
 refine Bh rfl call19 rfl rfl rfl (pT ((fC (fC (fC (fC fP)))).trans (pA ((fC (fC (fC (fC fP)))).trans (pA ((fC (fC (fC (fC fP)))).trans (pA ((fC (fC (fC (fC fP)))).trans (pA ((fC (fC (fC (fC fP)))).trans (pA ((fC (fC (fC (fC fP)))).trans (pA pR)))))))))))) (lp (lp (lp (lp (lp (lp (ln rfl)))))))) (fun F2 h2 h3 => by rw [(KH.A1 ba).1]; rw [(AI.A1 bj).1]; rw [(AI.A1 bk).1]; rw [(AI.A1 ia).1]; rw [(AI.A1 eb).1]; rw [(AI.A1 ec).1]; exact EE (ba.row (Pt kI) h2 (aL h3)) (bj.row kI h2 (aL (aR h3))) (bk.row (Ai kI kP) h2 (aL (aR (aR h3)))) (ia.row (Ay kJ) h2 (aL (aR (aR (aR h3))))) (eb.row kI h2 (aL (aR (aR (aR (aR h3)))))) (ec.row (Ai kI kP) h2 (aL (aR (aR (aR (aR (aR h3))))))) kz) ?_
 refine nF cu (uv (Bo rfl) (uv (AE (AR rfl cu) rfl) (Aa ?_)))
 obtain ⟨ld, lg⟩ := AF l0
 refine AV rfl (fun ib => absurd (ld.symm.trans ib) (by decide)) (fun ib => ?_)
 refine Ar ?_
 obtain ⟨bn, lh, ic⟩ := Az lg
 refine AO (fun e1 F1 L1 => ∃ (cv : LH), br = F1 ∧ L1 = ((bb, ce #[vI n7, vI n8, sL ax ay az, sL df dg dh, sL di dk dm] 26) :: ((au, ce #[vI n, vI n2, sL bu l.length bw, sL bx l2.length bz, sL cb l3.length cc] 26) :: ((b1, ce #[vI Af, vI Ac, sL Am Ah.length Al, sL Ae Ab.length Ad, sL Ao Ak.length An] 26) :: (cv ++ (ao ++ (aq ++ [])))))) ∧ e1.sub [(3, pO b1), (7, pO au), (10, pO bb)] ∧ KH K.w0.heap.size 34 1 LR (q3 22 3 1 eI) F1 ax ay az bn cv) ?_ ?_
 ·clear ic
  refine AG (uv (Ap CC rfl) (uv (Co isAgg23 1) (uv ((AJ underlying23 rfl).i (KH.FE ba)) ?_)))
  refine um (Aa ?_)
  refine As (kW (kd (kc (kc (kc (ka (ka (ka kn))))))) ?_)
  obtain ⟨lj, lk⟩ := AF lh
  refine A6 (fun jj e1 F1 L1 => ∃ (k3 : Int), B0 0 (l7.length : Int) k3 jj ∧ ∃ (ai : List (List (List Int))) (bo : LH), C8 jj k3 ai = some bn ∧ br = F1 ∧ L1 = ((bb, ce #[vI n7, vI n8, sL ax ay az, sL df dg dh, sL di dk dm] 26) :: ((au, ce #[vI n, vI n2, sL bu l.length bw, sL bx l2.length bz, sL cb l3.length cc] 26) :: ((b1, ce #[vI Af, vI Ac, sL Am Ah.length Al, sL Ae Ab.length Ad, sL Ao Ak.length An] 26) :: (bo ++ (ao ++ (aq ++ [])))))) ∧ e1.sub [(3, pO b1), (7, pO au), (10, pO bb), (75, sL ax ay az), (76, vI (l7.length : Int)), (77, vI k3)] ∧ KH K.w0.heap.size 34 1 LR (q3 22 3 1 eI) F1 ax ay az ai bo) _ (m0 kr ⟨_, B0.start _ _, l7, ck, lk, rfl, rfl, z6, ba⟩) ?_
  rintro jj e1 _ _ ⟨k3, cw, ai, bo, dr, rfl, rfl, ie, cx⟩
  refine AA _ ie (AG (uv (AY rfl rfl) ?_))
  refine Aa (Au ?_)
  refine cQ (fun dt => ?_) fun dt => ?_
  ·obtain ⟨jj, rfl, ig⟩ := B0.succ cw dt
   rw [C8] at dr
   refine Ar ?_
   obtain ⟨ak, ll, ij⟩ := Az dr
   refine LO (fun e1 F1 L1 => ∃ (bp : LH), br = F1 ∧ L1 = ((bb, ce #[vI n7, vI n8, sL ax ay az, sL df dg dh, sL di dk dm] 26) :: ((au, ce #[vI n, vI n2, sL bu l.length bw, sL bx l2.length bz, sL cb l3.length cc] 26) :: ((b1, ce #[vI Af, vI Ac, sL Am Ah.length Al, sL Ae Ab.length Ad, sL Ao Ak.length An] 26) :: (bp ++ (ao ++ (aq ++ [])))))) ∧ e1.sub [(3, pO b1), (7, pO au), (10, pO bb), (75, sL ax ay az), (76, vI (l7.length : Int)), (77, vI k3)] ∧ KH K.w0.heap.size 34 1 LR (q3 22 3 1 eI) F1 ax ay az ak bp) ?_ ?_
   ·clear ij
    refine As (AG ?_)
    obtain ⟨x2, ik, il, lq⟩ := BG ll
    have im := (KH.A1 cx).1
    refine QA (fC (fC (fC fP))) cx il ?_; intro nj cy cz fl fm fo ef eg eh ei iq
    refine kO (kf (fS (fS (fS fO))) (kf (fS (fS (fS fO))) (kf (fS (fS (fS fO))) kr))) ?_
    obtain ⟨pg, ph, pj, nk, ir, iu, lr, rfl, np, iv⟩ := AI.at DP eh (L := (bb, ce #[vI n7, vI n8, sL ax ay az, sL df dg dh, sL di dk dm] 26) :: ((au, ce #[vI n, vI n2, sL bu l.length bw, sL bx l2.length bz, sL cb l3.length cc] 26) :: ((b1, ce #[vI Af, vI Ac, sL Am Ah.length Al, sL Ae Ab.length Ad, sL Ao Ak.length An] 26) :: (cy ++ (ef ++ (cz ++ (ao ++ (aq ++ [])))))))) (fC (fC (fC fP))) ik.1 eg
    refine uv (C0 underlying23 sizeOf34 ir (N6 im ik)) (uv (AS isAgg34 rfl iu (iv 0 (by decide))) ?_)
    refine ua (BR (um ?_))
    refine uv ((AJ underlying34 rfl).i (Ev.FE ei)) ?_
    refine um (Aa ?_)
    refine As ?_
    obtain ⟨lu, lv⟩ := AF lq
    refine A6 (fun jk e1 F1 L1 => ∃ (k4 : Int), B0 0 (x2.length : Int) k4 jk ∧ ∃ (lx : List (List Int)) (da : LH), C7 ai k3 jk k4 lx = some ak ∧ br = F1 ∧ L1 = ((bb, ce #[vI n7, vI n8, sL ax ay az, sL df dg dh, sL di dk dm] 26) :: ((au, ce #[vI n, vI n2, sL bu l.length bw, sL bx l2.length bz, sL cb l3.length cc] 26) :: ((b1, ce #[vI Af, vI Ac, sL Am Ah.length Al, sL Ae Ab.length Ad, sL Ao Ak.length An] 26) :: (cy ++ (da ++ (cz ++ (ao ++ (aq ++ [])))))))) ∧ e1.sub [(3, pO b1), (7, pO au), (10, pO bb), (75, sL ax ay az), (76, vI (l7.length : Int)), (77, vI k3), (81, sL fl fm fo), (82, vI (x2.length : Int)), (83, vI k4)] ∧ Ev K.w0.heap.size 22 3 1 eI F1 fl fm fo lx da) _ (m0 kr ⟨_, B0.start _ _, x2, ef, lv, rfl, rfl, (sc rfl z8), ei⟩) ?_
    rintro jk e1 _ _ ⟨k4, db, lx, da, du, rfl, rfl, iw, dd⟩
    refine AA _ iw (AG (uv (AY rfl rfl) ?_))
    refine Aa (Au ?_)
    refine cQ (fun dv => ?_) fun dv => ?_
    ·obtain ⟨jk, rfl, iy⟩ := B0.succ db dv
     rw [C7] at du
     refine Ar (Au ?_)
     refine As (AG ?_)
     obtain ⟨x3, iz, j0, ly⟩ := BG du
     have j1 := (Ev.A1 dd).1
     refine KK (fC (fC (fC (fS fP)))) dd j0 ?_; intro nq j2 j3 pk pn po j4 ej en j5 j6
     refine kO (kf (fS (fS (fS fO))) (kf (fS (fS (fS fO))) (kf (fS (fS (fS fO))) kr))) ?_
     obtain ⟨pq, pr, pt, nr, j7, j8, ma, rfl, ns, j9⟩ := AI.at DP en (L := (bb, ce #[vI n7, vI n8, sL ax ay az, sL df dg dh, sL di dk dm] 26) :: ((au, ce #[vI n, vI n2, sL bu l.length bw, sL bx l2.length bz, sL cb l3.length cc] 26) :: ((b1, ce #[vI Af, vI Ac, sL Am Ah.length Al, sL Ae Ab.length Ad, sL Ao Ak.length An] 26) :: (j2 ++ (j4 ++ (j3 ++ (cy ++ (cz ++ (ao ++ (aq ++ [])))))))))) (fC (fC (fC fP))) iz.1 ej
     refine uv (C0 underlying34 sizeOf22 j7 (N6 j1 iz)) (uv (AS isAgg22 rfl j8 (j9 0 (by decide))) ?_)
     refine ua (Aa (Aq (um ?_)))
     obtain ⟨pv, mb, mc⟩ := BI ly
     refine N5 (z0 := 0) (zs := pv) rfl Bm (by decide) kI (fun _ => rfl) rfl (fun _ => .c (.c (.c (.s .h)))) j5 mb ?_; intro nt ja
     obtain ⟨nu, me, mg⟩ := BI mc
     refine Ij (p := fun X => Ev K.w0.heap.size 22 3 1 eI br fl fm fo nu X) (Mz.Ph j6 en ej ja me) (pT ((fC (fC (fC fP))).trans (pA ((fC (fC (fC fP))).trans (pA ((fC (fC (fC fP))).trans (pA pR)))))) (lp (lp (lp (ln rfl))))) ?_; intro jb jc
     refine kO (kf (fS fO) (kf (fS fO) (kf (fS fO) kr))) ?_
     refine Aa (AD (id := 4) (Aq ?_))
     refine uv (A4 rfl rfl (B0.CE db dv lu)) ?_
     refine um (Aa ?_)
     exact le (kc (kc (kc (kg (fS fP) kr)))) ⟨_, iy, nu, jb, mg, rfl, rfl, (sc rfl z8), jc⟩
    obtain rfl := B0.zero db dv
    rw [C7] at du
    refine AM (Aj (Aj ?_))
    refine Ax (AD (id := 2) ?_)
    obtain ⟨u2, mh, mj⟩ := BI du
    refine QN (p := fun X => KH K.w0.heap.size 34 1 LR (q3 22 3 1 eI) br ax ay az u2 X) (Nd.Ph iq eh eg dd mh) (pT ((fC (fC (fC fP))).trans (pA ((fC (fC (fC fP))).trans (pA ((fC (fC (fC fP))).trans (pA pR)))))) (lp (lp (lp (ln rfl))))) ?_; intro jd je
    obtain rfl := AL mj
    exact mf (kf (fS fO) (kf (fS fO) (kf (fS fO) kr))) ⟨jd, rfl, rfl, z6, je⟩
   rintro e1 _ _ ⟨bp, rfl, rfl, jf, jg⟩
   refine AA _ jf (Aq (uv (A4 rfl rfl (B0.CE cw dt lj)) ?_))
   refine um (Aa ?_)
   exact le kr ⟨_, ig, ak, bp, ij, rfl, rfl, z6, jg⟩
  obtain rfl := B0.zero cw dt
  rw [C8] at dr
  refine AM (Aj (Aj ?_))
  refine Ax ?_
  obtain rfl := AL dr
  exact mi kr ⟨bo, rfl, rfl, z3, cx⟩
 rintro e1 _ _ ⟨cv, rfl, rfl, jh, nv⟩
 refine AA _ jh (AG (uv (Ap CB rfl) (uv (Co isAgg22 0) ?_)))
 obtain ⟨u3, ml, mn⟩ := BI ic
 refine N5 (z0 := 0) (zs := u3) rfl Bm (by decide) kI (fun _ => rfl) rfl (fun _ => .c (.c (.c (.s .h)))) bj ml ?_; intro nw ny
 refine BR (uv (Ap Dv rfl) (uv (Co isAgg24 0) ?_))
 obtain ⟨u4, mo, mq⟩ := BI mn
 refine N5 (z0 := (0, 0, 0)) (zs := u4) rfl H7 (by decide) (Ai kI kP) (fun _ => ⟨_, _, rfl, rfl, ⟨_, _, rfl, rfl, rfl⟩⟩) rfl (fun _ => .c (.c (.c (.s (.s .h))))) bk mo ?_; intro nz o0
 refine BR (uv (Cv isAgg26 sizeOf26 1) (uv (Cv isAgg26 sizeOf26 2) ?_))
 obtain ⟨qh, mr, mu⟩ := Az mq
 refine cV call19 (EE de dw fp ab aa ad mr) (um ?_)
 obtain ⟨ji, mv⟩ := AF mu
 refine nB ji ?_
 obtain ⟨qi, mw, mx⟩ := Az mv
 refine cV call13 (CA mw) (uv (AK (FK rfl ji) rfl) ?_)
 refine ua (Aa ?_)
 refine kW kn (Aw (B7 results5 ?_))
 obtain rfl := AL mx
 exact rfl
set_option maxHeartbeats 1000000 in
theorem F7 {a b : Int} {r : Bool} (hr : EV a b = some r) :
    Bp Tryz.prog 79 #[vI a, vI b] F (.bool r) := by
 refine sp func79 ntmps79 fun K _ _ => ?_
 rw [EV] at hr
 refine AG (ua (BR (um (um ?_))))
 refine uv (Bx rfl rfl) (um ?_)
 by_cases c1 : a = b
 ·have r2 := A2 hr c1
  refine fT c1 (fT c1 (fT c1 (fT c1 ?_)))
  refine uv (AK (Ba rfl c1) rfl) ?_
  refine um (AZ (b' := true) 14 rfl rfl rfl rfl (AZ (b' := true) 14 rfl rfl rfl rfl (AZ (b' := true) 14 rfl rfl rfl rfl (AZ (b' := true) 14 rfl rfl rfl rfl ?_))))
  refine uv (AK rfl rfl) ?_
  refine um (AZ (b' := true) 20 rfl rfl rfl rfl (AZ (b' := true) 20 rfl rfl rfl rfl (AZ (b' := true) 20 rfl rfl rfl rfl (fU (fU (AZ (b' := true) 20 rfl rfl rfl rfl ?_))))))
  refine uv (AK rfl rfl) ?_
  refine um (AZ (b' := true) 28 rfl rfl rfl rfl (AZ (b' := true) 28 rfl rfl rfl rfl (AZ (b' := true) 28 rfl rfl rfl rfl (fU (fU (AZ (b' := true) 28 rfl rfl rfl rfl ?_))))))
  refine uv (AK rfl rfl) ?_
  refine ua (Aa (Aw ?_))
  refine B7 results79 ?_
  obtain rfl := AL r2
  exact rfl
 have r3 := A3 hr c1
 refine nF c1 (um (nF c1 (um (nF c1 ?_))))
 obtain ⟨g4, r5⟩ := AF r3
 refine uv (A4 rfl rfl g4) (nF c1 (uv (Bx rfl rfl) (uv (AE (AR rfl c1) rfl) (um ?_))))
 by_cases c6 : a = (b + 1)
 ·have r7 := A2 r5 c6
  refine fT c6 (fT c6 (fT c6 (fT c6 ?_)))
  refine uv (AK (Ba rfl c6) rfl) ?_
  refine um (AZ (b' := true) 20 rfl rfl rfl rfl (AZ (b' := true) 20 rfl rfl rfl rfl (AZ (b' := true) 20 rfl rfl rfl rfl (fU (fU (AZ (b' := true) 20 rfl rfl rfl rfl ?_))))))
  refine uv (AK rfl rfl) ?_
  refine um (AZ (b' := true) 28 rfl rfl rfl rfl (AZ (b' := true) 28 rfl rfl rfl rfl (AZ (b' := true) 28 rfl rfl rfl rfl (fU (fU (AZ (b' := true) 28 rfl rfl rfl rfl ?_))))))
  refine uv (AK rfl rfl) ?_
  refine ua (Aa (Aw ?_))
  refine B7 results79 ?_
  obtain rfl := AL r7
  exact rfl
 have r8 := A3 r5 c6
 refine nF c6 (um (nF c6 (um (nF c6 ?_))))
 obtain ⟨g9, ai⟩ := AF r8
 refine uv (A4 rfl rfl g9) (nF c6 (uv (Bx rfl rfl) (uv (AE (AR rfl c6) rfl) (um ?_))))
 by_cases aa : b = (a + 1)
 ·have aq := A2 ai aa
  refine fT aa (fT aa (fT aa (fU (fU (fT aa ?_)))))
  refine uv (AK (Ba rfl aa) rfl) ?_
  refine um (AZ (b' := true) 28 rfl rfl rfl rfl (AZ (b' := true) 28 rfl rfl rfl rfl (AZ (b' := true) 28 rfl rfl rfl rfl (fU (fU (AZ (b' := true) 28 rfl rfl rfl rfl ?_))))))
  refine uv (AK rfl rfl) ?_
  refine ua (Aa (Aw ?_))
  refine B7 results79 ?_
  obtain rfl := AL aq
  exact rfl
 have aj := A3 ai aa
 refine nF aa (um (nF aa ?_))
 refine uv (Bx rfl rfl) ?_
 refine nF aa (um ?_)
 by_cases ad : a = 0
 ·have ak := A2 aj ad
  refine nT ad (um (nT ad ?_))
  refine uv (Bx rfl rfl) (nF aa (uv (AK (Ba rfl ad) rfl) (uv (AE (AR rfl aa) rfl) (um ?_))))
  by_cases ab : b = 7
  ·have ar := A2 ak ab
   refine fT ab (fT ab (fT ab (fU (fU (fT ab ?_)))))
   refine uv (AK (Ba rfl ab) rfl) ?_
   refine ua (Aa (Aw ?_))
   refine B7 results79 ?_
   obtain rfl := AL ar
   exact rfl
  have al := A3 ak ab
  refine nF ab (um (nF ab ?_))
  refine uv (Bx rfl rfl) ?_
  refine nF ab (um ?_)
  by_cases ae : a = 7
  ·have au := A2 al ae
   refine nT ae (um (nT ae ?_))
   refine uv (Bx rfl rfl) (nF ab (uv (AK (Ba rfl ae) rfl) (uv (AE (AR rfl ab) rfl) ?_)))
   refine ua (Aa (Aw ?_))
   refine B7 results79 ?_
   obtain rfl := AL au
   exact rfl
  have av := A3 al ae
  refine fF ae (fF ae (nF ab ?_))
  refine uv (AE (AR rfl ae) rfl) (uv (AE (AR rfl ab) rfl) ?_)
  refine ua (Aa (Aw ?_))
  refine B7 results79 ?_
  obtain rfl := AL av
  exact rfl
 have ao := A3 aj ad
 refine fF ad (fF ad (nF aa ?_))
 refine uv (AE (AR rfl ad) rfl) (uv (AE (AR rfl aa) rfl) ?_)
 refine um (IY (b := false) 28 rfl rfl (um (IY (b := false) 28 rfl rfl ?_)))
 refine uv (Bx rfl rfl) ?_
 refine IY (b := false) 28 rfl rfl (um ?_)
 by_cases ah : a = 7
 ·have aw := A2 ao ah
  refine nT ah (um (nT ah ?_))
  refine uv (Bx rfl rfl) (IY (b := false) 28 rfl rfl (uv (AK (Ba rfl ah) rfl) (uv (AE rfl rfl) ?_)))
  refine ua (Aa (Aw ?_))
  refine B7 results79 ?_
  obtain rfl := AL aw
  exact rfl
 have ax := A3 ao ah
 refine fF ah (fF ah (IY (b := false) 28 rfl rfl ?_))
 refine uv (AE (AR rfl ah) rfl) (uv (AE rfl rfl) ?_)
 refine ua (Aa (Aw ?_))
 refine B7 results79 ?_
 obtain rfl := AL ax
 exact rfl
set_option maxHeartbeats 1000000 in
theorem Nn (_h_hears : At 1 (CM 1 eJ) F Am Al Ah) (aa : At 1 eI F Ae Ad Ab) (_h_cries : At 3 (Br eI eP) F Ao An Ak) {r : Int} (hr : JH Af Ac Ah Ab Ak = some r) :
    Bp Tryz.prog 75 #[.agg #[vI Af, vI Ac, sL Am Ah.length Al, sL Ae Ab.length Ad, sL Ao Ak.length An]] F (vI r) := by
 refine sp func75 ntmps75 fun K _ _ => ?_
 rw [JH] at hr
 refine AG ?_
 refine BB rfl rfl ?_; intro b1 lu
 refine ua (BR ?_)
 obtain ⟨g2, r3⟩ := AF hr
 obtain ⟨l, h4, r5⟩ := BI r3
 refine Ft (R := eI) (z0 := 0) (zs := l) rfl Bm (by decide) kI (fun _ => rfl) rfl g2 h4 (fun _ => .c .n) ?_; intro a6 n9 ji jj
 refine ua (Aa ?_)
 obtain ⟨now, jk, iv⟩ := Az r5
 refine AO (fun e1 F1 L1 => ∃ (ec : Option Addr) (ef : Nat) (eg : Nat) (av : LH), F = F1 ∧ L1 = (av ++ []) ∧ e1.sub [(3, sL ec ef eg)] ∧ AI K.w0.heap.size 3 1 eI F1 ec ef eg now av) ?_ ?_
 ·clear iv
  refine AG (ua (Aa ?_))
  refine As ?_
  refine A6 (fun iw e1 F1 L1 => LA Ab iw fun tl h => ∃ (aw : List Int) (bb : Option Addr) (bc : Nat) (bd : Nat) (ad : LH), Fu tl h aw = some now ∧ F = F1 ∧ L1 = ((b1, ce #[vI Af, vI Ac, sL Am Ah.length Al, sL Ae Ab.length Ad, sL Ao Ak.length An] 50) :: (ad ++ [])) ∧ e1.sub [(1, pO b1), (3, sL bb bc bd), (4, vI h)] ∧ AI K.w0.heap.size 3 1 eI F1 bb bc bd aw ad) _ (m0 kr ⟨_, _, rfl, Bq.start _, l, a6, n9, n9, ji, jk, rfl, rfl, z3, jj⟩) ?_
  rintro iw e1 _ _ ⟨tl, h, ez, bw, aw, bb, bc, bd, ad, eh, rfl, rfl, fa, bx⟩
  refine AA _ fa ?_
  refine Au (AG (um ?_))
  refine uv (Ap Iq rfl) (uv (Co isAgg22 0) (uv (AJ underlying22 rfl) (uv (AY rfl rfl) (Aa ?_))))
  refine cQ (fun ei => ?_) fun ei => ?_
  ·obtain ⟨x, lv, rfl, cg, ej, fb⟩ := Bq.succ bw ei
   rw [Fu] at eh
   refine Ar ?_
   obtain ⟨cj, jl, iy⟩ := Az eh
   refine AO (fun e1 F1 L1 => ∃ (en : Option Addr) (eo : Nat) (ep : Nat) (bg : LH), F = F1 ∧ L1 = ((b1, ce #[vI Af, vI Ac, sL Am Ah.length Al, sL Ae Ab.length Ad, sL Ao Ak.length An] 50) :: (bg ++ [])) ∧ e1.sub [(1, pO b1), (3, sL en eo ep), (4, vI h)] ∧ AI K.w0.heap.size 3 1 eI F1 en eo ep cj bg) ?_ ?_
   ·clear iy
    refine As (AG ?_)
    obtain ⟨jm, jn⟩ := AF jl
    obtain ⟨l2, jo, jq⟩ := BI jn
    refine Ft (R := eI) (z0 := 0) (zs := l2) rfl Bm (by decide) kI (fun _ => rfl) rfl jm jo (fun _ => .c .n) ?_; intro au ae fe ff
    refine ua (Aa ?_)
    obtain ⟨bo, jr, iz⟩ := Az jq
    refine AO (fun e1 F1 L1 => ∃ (bh : LH), F = F1 ∧ L1 = ((b1, ce #[vI Af, vI Ac, sL Am Ah.length Al, sL Ae Ab.length Ad, sL Ao Ak.length An] 50) :: (bh ++ [])) ∧ e1.sub [(1, pO b1), (4, vI h), (5, sL au ae ae)] ∧ AI K.w0.heap.size 3 1 eI F1 au ae ae bo bh) ?_ ?_
    ·clear iz
     refine AG (ua (Aa ?_))
     refine As ?_
     obtain ⟨js, jt⟩ := AF jr
     refine A6 (fun er e1 F1 L1 => ∃ (w : Int), B0 0 8 w er ∧ ∃ (al : List Int) (ak : LH), Fv aw h x er w al = some bo ∧ F = F1 ∧ L1 = ((b1, ce #[vI Af, vI Ac, sL Am Ah.length Al, sL Ae Ab.length Ad, sL Ao Ak.length An] 50) :: (ad ++ (ak ++ []))) ∧ e1.sub [(1, pO b1), (3, sL bb bc bd), (4, vI h), (5, sL au ae ae), (6, vI w)] ∧ AI K.w0.heap.size 3 1 eI F1 au ae ae al ak) _ (m0 (kc (kg (fS fP) kr)) ⟨_, B0.start _ _, l2, fe, jt, rfl, rfl, z5, ff⟩) ?_
     rintro er e1 _ _ ⟨w, bz, al, ak, et, rfl, rfl, fg, ar⟩
     refine AA _ fg ?_
     refine Au (AG (um ?_))
     refine uv (AY rfl rfl) (Aa ?_)
     refine cQ (fun eu => ?_) fun eu => ?_
     ·obtain ⟨er, rfl, fh⟩ := B0.succ bz eu
      rw [Fv] at et
      refine Ar ?_
      obtain ⟨ao, ju, j0⟩ := Az et
      refine AO (fun e1 F1 L1 => ∃ (bj : LH), F = F1 ∧ L1 = ((b1, ce #[vI Af, vI Ac, sL Am Ah.length Al, sL Ae Ab.length Ad, sL Ao Ak.length An] 50) :: (ad ++ (bj ++ []))) ∧ e1.sub [(1, pO b1), (3, sL bb bc bd), (4, vI h), (5, sL au ae ae), (6, vI w)] ∧ AI K.w0.heap.size 3 1 eI F1 au ae ae ao bj) ?_ ?_
      ·clear j0
       refine As (Au ?_)
       obtain ⟨k, j1, fi⟩ := Az ju
       refine jE (((b1, ce #[vI Af, vI Ac, sL Am Ah.length Al, sL Ae Ab.length Ad, sL Ao Ak.length An] 50) :: (ad ++ (ak ++ [])))) [(1, pO b1), (3, sL bb bc bd), (4, vI h), (5, sL au ae ae), (6, vI w), (38, .bool k)] ?_ ?_
       ·clear fi
        refine Aq (uv (Ap Iq rfl) (uv (Co isAgg22 0) (um ?_)))
        obtain ⟨lx, ly, ma, jv, fj, fk, j2, rfl, jw, fl⟩ := At.ta kI aa ej.1 cg
        refine uv (C0 underlying22 sizeOf3 fj ej) (uv (AS isAgg3 rfl (fk _) (fl 0 (by decide))) (uv (Hu rfl rfl) (um ?_)))
        by_cases ai : 0 ≤ x
        ·have jx := A2 j1 ai
         refine nT ai (um (nT ai ?_))
         refine uv (Ap Iq rfl) (nT ai (uv (Co isAgg22 0) ?_))
         refine nT ai (um (nT ai ?_))
         obtain ⟨mb, mc, me, jz, fm, fo, j3, rfl, kb, fp⟩ := At.ta kI aa ej.1 cg
         refine uv (C0 underlying22 sizeOf3 fm ej) (nT ai (uv (AS isAgg3 rfl (fo _) (fp 0 (by decide))) (nT ai ?_)))
         obtain ⟨ok, kh, kj⟩ := Az jx
         refine cV call79 (F7 kh) (nT ai (uv (Bo rfl) (uv (AK (Ba rfl ai) rfl) (Aa ?_))))
         obtain rfl := AL kj
         exact mi kr ⟨rfl, rfl, z6⟩
        have kl := A3 j1 ai
        refine fF ai (fF ai (fF ai (fF ai (fF ai (fF ai (fF ai (fF ai ?_)))))))
        refine uv (AE (AR rfl ai) rfl) (Aa ?_)
        obtain rfl := AL kl
        exact mi kr ⟨rfl, rfl, z6⟩
       refine AV rfl (fun fq => ?_) (fun fq => ?_)
       ·have km := bt fi fq
        refine AM (Aj ?_)
        refine Ax ?_
        obtain rfl := AL km
        exact mi kr ⟨ak, rfl, rfl, z5, ar⟩
       have ko := bf fi fq
       refine Ar ?_
       obtain ⟨ax, ck, cn⟩ := Az ko
       refine AO (fun e1 F1 L1 => ∃ (bk : LH), F = F1 ∧ L1 = ((b1, ce #[vI Af, vI Ac, sL Am Ah.length Al, sL Ae Ab.length Ad, sL Ao Ak.length An] 50) :: (ad ++ (bk ++ []))) ∧ e1.sub [(1, pO b1), (3, sL bb bc bd), (4, vI h), (5, sL au ae ae), (6, vI w)] ∧ AI K.w0.heap.size 3 1 eI F1 au ae ae ax bk) ?_ ?_
       ·clear cn
        refine AG (um ?_)
        refine uv (Bx rfl rfl) (Aa ?_)
        refine cQ (fun cb => ?_) fun cb => ?_
        ·have ft := A2 ck cb
         refine Aq (um (um ?_))
         obtain ⟨x2, cc, cp, fv⟩ := BG ft
         obtain ⟨kt, ku, kv, j4, bp, j5, fw, rfl, j6, j7⟩ := AI.at kI ar (L := (b1, ce #[vI Af, vI Ac, sL Am Ah.length Al, sL Ae Ab.length Ad, sL Ao Ak.length An] 50) :: (ad ++ (ak ++ []))) (fC (fS fP)) cc.1 cp
         refine uv (C0 underlying22 sizeOf3 bp (AI.idx ar cc)) ?_
         obtain ⟨fx, fy, ga⟩ := BI fv
         refine Dq (u := 1) sizeOf3 kI rfl bp rfl rfl (fun _ => .c (.s .h)) ar fy cc ?_; intro cq cr
         refine Aa ?_
         obtain rfl := AL ga
         exact mi kr ⟨cq, rfl, rfl, z5, cr⟩
        have gb := A3 ck cb
        refine Ar ?_
        obtain rfl := AL gb
        exact mi kr ⟨ak, rfl, rfl, z5, ar⟩
       rintro e1 _ _ ⟨bk, rfl, rfl, ct, cu⟩
       refine AA _ ct ?_
       refine AG (ua (Aa ?_))
       refine As ?_
       obtain ⟨cv, gg⟩ := AF cn
       refine A6 (fun ew e1 F1 L1 => ∃ (v : Int), B0 0 8 v ew ∧ ∃ (aj : List Int) (ab : LH), Ee aw w ew v aj = some ao ∧ F = F1 ∧ L1 = ((b1, ce #[vI Af, vI Ac, sL Am Ah.length Al, sL Ae Ab.length Ad, sL Ao Ak.length An] 50) :: (ad ++ (ab ++ []))) ∧ e1.sub [(1, pO b1), (3, sL bb bc bd), (4, vI h), (5, sL au ae ae), (6, vI w), (7, vI v)] ∧ AI K.w0.heap.size 3 1 eI F1 au ae ae aj ab) _ (m0 kr ⟨_, B0.start _ _, ax, bk, gg, rfl, rfl, z6, cu⟩) ?_
       rintro ew e1 _ _ ⟨v, aq, aj, ab, bl, rfl, rfl, cw, ah⟩
       refine AA _ cw ?_
       refine Au (AG (um ?_))
       refine uv (AY rfl rfl) (Aa ?_)
       refine cQ (fun ay => ?_) fun ay => ?_
       ·obtain ⟨ew, rfl, bq⟩ := B0.succ aq ay
        rw [Ee] at bl
        refine Ar (Au ?_)
        refine As ?_
        refine AG (um (um ?_))
        obtain ⟨mg, gh, cx⟩ := Az bl
        refine cV call79 (F7 gh) (Aa ?_)
        refine AV rfl (fun cf => ?_) (fun cf => ?_)
        ·have gi := bt cx cf
         refine BK [(.still, 0), (.still, 1), (.still, 2), (.still, 3), (.still, 4), (.still, 5), (.still, 6), (.still, 7), (.still, 8), (.still, 9), (.still, 10), (.still, 11), (.seq, 12)] (by kernel_rfl) (by kernel_rfl) (trivial) (by rfl) (by kernel_rfl) (mS [5] rfl (A9 rfl) (mS [6] rfl (A9 rfl) (mS [5] rfl (A9 rfl) (mS [6] rfl (A9 rfl) ?_))))
         obtain ⟨x3, az, br, gj⟩ := BG gi
         obtain ⟨kz, l0, ld, j8, cy, cz, gk, rfl, j9, da⟩ := AI.at kI ah (L := ab ++ []) fP az.1 br
         refine mS [53, 54] rfl (BZ underlying22 sizeOf3 rfl cy rfl (AI.idx ah az)) (mL [55] (ab ++ []) rfl (s0 (s1 (s3 (s4 sr)))) (fun H F' L' gl gm => AS isAgg3 rfl (cz.ext gl gm) (da 0 (by decide))) (mS [3] rfl (A9 rfl) (mS [7] rfl (A9 rfl) ?_)))
         obtain ⟨x4, db, dd, gn⟩ := BG gj
         obtain ⟨lg, lh, lj, ja, de, df, gp, rfl, jb, dg⟩ := AI.at kI bx (L := ad ++ []) fP db.1 dd
         refine mS [57, 58] rfl (BZ underlying22 sizeOf3 rfl de rfl (AI.idx bx db)) (mL [59] (ad ++ []) rfl (s0 (s1 (s4 (s3 sr)))) (fun H F' L' gl gm => AS isAgg3 rfl (df.ext gl gm) (dg 0 (by decide))) ?_)
         obtain ⟨gq, gr⟩ := AF gn
         refine mS (v := vI (x3 + x4)) [56, 60] rfl (A4 rfl rfl gq) ?_
         obtain ⟨gu, gv, lk, jc, bu, jd, gw, rfl, je, jf⟩ := AI.at kI ah (L := ab ++ []) fP az.1 br
         refine mS [51, 52] rfl (BZ underlying22 sizeOf3 rfl bu rfl (AI.idx ah az)) ?_
         refine ⟨_, [(61, vI (x3 + x4)), (62, .pointer (some ⟨gu, gv + (w : Int).toNat * 1, none⟩))], rfl, rfl, z2, by kernel_rfl, ?_⟩; intro H
         obtain ⟨l3, gz, ia⟩ := BI gr
         refine Dq (u := x3 + x4) sizeOf3 kI rfl bu rfl rfl (fun _ => .c (.s .h)) ah gz az ?_; intro dh di
         refine Aa ⟨undef, rfl, AQ.refl _, [], by kernel_rfl, .inl (.inl rfl), nm, ?_⟩
         refine Ce ?_
         refine AD (id := 5) (Aq (um ?_))
         refine uv (A4 rfl rfl (B0.CE aq ay cv)) ?_
         refine ua (Aa ?_)
         exact le kr ⟨_, bq, l3, dh, ia, rfl, rfl, z6, di⟩
        have ib := bf cx cf
        refine Ar (AD (id := 5) (Aq (um ?_)))
        refine uv (A4 rfl rfl (B0.CE aq ay cv)) ?_
        refine ua (Aa ?_)
        exact le kr ⟨_, bq, aj, ab, ib, rfl, rfl, z6, ah⟩
       obtain rfl := B0.zero aq ay
       rw [Ee] at bl
       refine AM (Aj (Aj ?_))
       refine Ax (AD (id := 3) ?_)
       obtain rfl := AL bl
       exact mi kr ⟨ab, rfl, rfl, z5, ah⟩
      rintro e1 _ _ ⟨bj, rfl, rfl, dk, ic⟩
      refine AA _ dk ?_
      refine Aq (um ?_)
      refine uv (A4 rfl rfl (B0.CE bz eu js)) ?_
      refine ua (Aa ?_)
      exact le kr ⟨_, fh, ao, bj, j0, rfl, rfl, z5, ic⟩
     obtain rfl := B0.zero bz eu
     rw [Fv] at et
     refine AM (Aj (Aj ?_))
     refine Ax ?_
     obtain rfl := AL et
     exact mi (kc (kx kr)) ⟨ak, rfl, rfl, z3, ar⟩
    rintro e1 _ _ ⟨bh, rfl, rfl, dm, ie⟩
    refine AA _ dm ?_
    refine Aq (um (ua (Aa (AD (id := 1) ?_))))
    obtain rfl := AL iz
    exact mi kr ⟨au, ae, ae, bh, rfl, rfl, z3, ie⟩
   rintro e1 _ _ ⟨en, eo, ep, bg, rfl, rfl, dp, ig⟩
   refine AA _ dp ?_
   refine Aq (um ?_)
   refine uv (A4 rfl rfl (Bq.CE bw ei (At.lt aa))) ?_
   refine ua (Aa ?_)
   subst ez; exact le kr ⟨_, _, rfl, fb, cj, en, eo, ep, bg, iy, rfl, rfl, z3, ig⟩
  obtain rfl := Bq.zero bw ei
  rw [Fu] at eh
  refine AM (Aj (Aj ?_))
  refine Ax ?_
  obtain rfl := AL eh
  exact mi (kd kr) ⟨bb, bc, bd, ad, rfl, rfl, z1, bx⟩
 rintro e1 _ _ ⟨ec, ef, eg, av, rfl, rfl, dq, dr⟩
 refine AA _ dq ?_
 refine AG (ua (Aa ?_))
 obtain ⟨n, ij, dt⟩ := Az iv
 refine jE ([]) [(8, vI n)] ?_ ?_
 ·clear dt
  refine AG (ua (Aa ?_))
  refine As ?_
  obtain ⟨ik, il⟩ := AF ij
  refine A6 (fun ey e1 F1 L1 => ∃ (w2 : Int), B0 0 8 w2 ey ∧ ∃ (n2 : Int), Fj now ey w2 n2 = some n ∧ F = F1 ∧ L1 = (av ++ []) ∧ e1.sub [(3, sL ec ef eg), (8, vI n2), (9, vI w2)]) _ (m0 kr ⟨_, B0.start _ _, 0, il, rfl, rfl, z3⟩) ?_
  rintro ey e1 _ _ ⟨w2, ba, n2, bm, rfl, rfl, du⟩
  refine AA _ du ?_
  refine Au (AG (um ?_))
  refine uv (AY rfl rfl) (Aa ?_)
  refine cQ (fun bn => ?_) fun bn => ?_
  ·obtain ⟨ey, rfl, dv⟩ := B0.succ ba bn
   rw [Fj] at bm
   refine Ar (Au ?_)
   refine As ?_
   refine Aq (um (um (um ?_)))
   obtain ⟨x5, dw, dx, im⟩ := BG bm
   obtain ⟨ll, lq, lr, jg, dy, dz, iq, rfl, jh, eb⟩ := AI.at kI dr (L := av ++ []) fP dw.1 dx
   refine uv (C0 underlying22 sizeOf3 dy (AI.idx dr dw)) (uv (AS isAgg3 rfl dz (eb 0 (by decide))) ?_)
   obtain ⟨ir, iu⟩ := AF im
   refine uv (A4 rfl rfl ir) ?_
   refine ua (Aa (AD (id := 7) (Aq (um ?_))))
   refine uv (A4 rfl rfl (B0.CE ba bn ik)) ?_
   refine ua (Aa ?_)
   exact le kr ⟨_, dv, n2 + x5, iu, rfl, rfl, z3⟩
  obtain rfl := B0.zero ba bn
  rw [Fj] at bm
  refine AM (Aj (Aj ?_))
  refine Ax ?_
  obtain rfl := AL bm
  exact mi kn ⟨rfl, rfl, z1⟩
 refine AG (um (ua (Aa (Aw ?_))))
 refine B7 results75 ?_
 obtain rfl := AL dt
 exact rfl
set_option maxHeartbeats 1000000 in
theorem Hr {ai : Int} (ae : At 1 (CM 1 eJ) F Am Al Ah) (aa : At 1 eI F Ae Ad Ab) (ah : At 3 (Br eI eP) F Ao An Ak) {r : Bool} (hr : FV Af Ac Ah Ab Ak ai = some r) :
    Bp Tryz.prog 20 #[.agg #[vI Af, vI Ac, sL Am Ah.length Al, sL Ae Ab.length Ad, sL Ao Ak.length An], vI ai] F (.bool r) := by
 refine sp func20 ntmps20 fun K _ _ => ?_
 rw [FV] at hr
 refine AG ?_
 refine BB rfl rfl ?_; intro b1 az
 refine ua (BR ?_)
 refine uv (Cv isAgg26 sizeOf26 0) ?_
 obtain ⟨n, n2, l, l2, l3, h2, r3⟩ := Ez hr
 refine c0 call16 (DR ae aa ah h2) ?_; rintro _ F4 _ ba ao ⟨a8, c9, bb, bc, bd, bg, bh, aq, rfl, rfl, aj, ak, ab⟩
 replace ab := ab.new fun p hp => ao p (by simp [hp])
 refine AB (lp (ln rfl)) (kO (kf (fS fO) kr) ?_)
 refine Bu rfl zeroValue50 ?_; intro bj ar
 refine BD (i := 0) sizeOf50 rfl rfl rfl (by simp [Value.oneCell']) rfl (DD rfl) (AB rfl (BR (uv (Cv isAgg50 sizeOf50 0) ?_)))
 obtain ⟨n3, au, al⟩ := Az r3
 refine Bh rfl call17 rfl rfl rfl (pT ((fC (fC fP)).trans (pA pR)) (lp (ln rfl))) (fun F2 h2 h3 => by rw [(AI.A1 ab).1]; exact Ec (aj.mono (Ay kJ) h2) (ak.mono kI h2) (ab.row (Ai kI kP) h2 (aL h3)) au) ?_
 refine uv (Bx rfl rfl) (um ?_)
 by_cases ad : n3 = 0
 ·have av := A2 al ad
  refine nT ad (uv (Cv isAgg50 sizeOf50 0) (nT ad ?_))
  obtain ⟨n4, aw, ax⟩ := Az av
  refine Bh rfl call75 rfl rfl rfl (pT ((fC (fC fP)).trans (pA pR)) (lp (ln rfl))) (fun F2 h2 h3 => by rw [(AI.A1 ab).1]; exact Nn (aj.mono (Ay kJ) h2) (ak.mono kI h2) (ab.row (Ai kI kP) h2 (aL h3)) aw) ?_
  refine nT ad (um (nT ad ?_))
  refine uv (C2 rfl rfl) (uv (AK (Ba rfl ad) rfl) ?_)
  refine ua (Aa ?_)
  refine kW kn (Aw (B7 results20 ?_))
  obtain rfl := AL ax
  exact rfl
 have ay := A3 al ad
 refine fF ad (fF ad (fF ad (fF ad ?_)))
 refine uv (AE (AR rfl ad) rfl) ?_
 refine ua (Aa ?_)
 refine kW kn (Aw (B7 results20 ?_))
 obtain rfl := AL ay
 exact rfl
set_option maxHeartbeats 1000000 in
theorem Gp (_h_hears : At 1 (CM 1 eJ) F Am Al Ah) (_h_readings : At 1 eI F Ae Ad Ab) (_h_cries : At 3 (Br eI eP) F Ao An Ak) (aa : At 1 eI F Bl Bk AW) {r : Int} (hr : EF Af Ac Ah Ab Ak AW = some r) :
    Bp Tryz.prog 22 #[.agg #[vI Af, vI Ac, sL Am Ah.length Al, sL Ae Ab.length Ad, sL Ao Ak.length An], sL Bl AW.length Bk] F (vI r) := by
 refine sp func22 ntmps22 fun K _ _ => ?_
 rw [EF] at hr
 refine AG ?_
 refine BB rfl rfl ?_; intro b1 bg
 refine ua (Aa (Au (AG (um ?_))))
 refine uv (AJ underlying22 rfl) (uv (Ap Iq rfl) (uv (Co isAgg22 0) (uv (AJ underlying22 rfl) (uv (BU rfl rfl) (Aa ?_)))))
 refine cQ (fun c2 => ?_) fun c2 => ?_
 ·have r3 := A2 hr c2
  refine AG (ua (Aa ?_))
  refine kW kn ?_
  refine Aw (Av ?_)
  refine B7 results22 ?_
  obtain rfl := AL r3
  exact rfl
 have r4 := A3 hr c2
 refine Ar ?_
 refine AO (fun e1 F1 L1 => Hx = some r ∧ F = F1 ∧ L1 = [] ∧ e1.sub []) ?_ ?_
 ·refine AG (ua (Aa ?_))
  refine As (kW kn ?_)
  refine A6 (fun aq e1 F1 L1 => LA AW aq fun tl h => Em tl = some r ∧ F = F1 ∧ L1 = [] ∧ e1.sub [(1, sL Bl AW.length Bk), (5, vI h)]) _ (m0 kr ⟨_, _, rfl, Bq.start _, r4, rfl, rfl, z2⟩) ?_
  rintro aq e1 _ _ ⟨tl, h, ax, ad, r7, rfl, rfl, ay⟩
  refine AA _ ay ?_
  refine Au (AG (um (um ?_)))
  refine uv (AJ underlying22 rfl) (uv (AY rfl rfl) (Aa ?_))
  refine cQ (fun ab => ?_) fun ab => ?_
  ·obtain ⟨x, bh, rfl, ae, ar, ah⟩ := Bq.succ ad ab
   rw [Em] at r7
   refine Ar (Au ?_)
   refine As ?_
   refine AG (um (um ?_))
   obtain ⟨bj, bk, bl, az, ai, aj, au, rfl, ba, ak⟩ := At.ta kI aa ar.1 ae
   refine uv (C0 underlying22 sizeOf3 ai ar) (uv (AS isAgg3 rfl (aj _) (ak 0 (by decide))) ?_)
   obtain ⟨ok, bb, av⟩ := Az r7
   refine cV call70 (Cb bb) (Aa ?_)
   refine AV rfl (fun al => ?_) (fun al => ?_)
   ·have bc := bt av al
    refine AG (ua (Aa (Aw (AH (Av (Av (AH (Av ?_))))))))
    refine B7 results22 ?_
    obtain rfl := AL bc
    exact rfl
   have bd := bf av al
   refine Ar (AD (id := 1) (Aq (um ?_)))
   refine uv (A4 rfl rfl (Bq.CE ad ab (At.lt aa))) ?_
   refine ua (Aa ?_)
   subst ax; exact le kr ⟨_, _, rfl, ah, bd, rfl, rfl, z2⟩
  obtain rfl := Bq.zero ad ab
  rw [Em] at r7
  refine AM (Aj (Aj ?_))
  refine Ax ?_
  exact mi kr ⟨r7, rfl, rfl, (sn _)⟩
 rintro e1 _ _ ⟨aw, rfl, rfl, ao⟩
 refine AA _ ao ?_
 rw [Hx] at aw
 refine AG (ua (Aa (Aw ?_)))
 refine B7 results22 ?_
 obtain rfl := AL aw
 exact rfl
set_option maxHeartbeats 1000000 in
theorem NG {w : Int} {r : Bool} (hr : I7 w = some r) :
    Bp Tryz.prog 121 #[vI w] F (.bool r) := by
 refine sp func121 ntmps121 fun K _ _ => ?_
 rw [I7] at hr
 refine AG (ua (BR (um ?_)))
 obtain ⟨ok, h1, r2⟩ := Az hr
 refine cV call63 (GM h1) ?_
 refine ua (Aa (Aw ?_))
 refine B7 results121 ?_
 obtain rfl := AL r2
 exact rfl
set_option maxHeartbeats 1000000 in
theorem Kr {l : List Int} (ab : At 1 (CM 1 eJ) F Am Al Ah) (aa : At 1 eI F Ae Ad Ab) (ad : At 3 (Br eI eP) F Ao An Ak) (ae : At 1 eI F CV CX l) {r : Option (Int × Int × (List (List (List Int))) × (List Int) × (List (Int × Int × Int)))} {r2 : Int} (hr : Jd Af Ac Ah Ab Ak l = some (r, r2)) :
    SH.Spec Tryz.prog 76 #[.agg #[vI Af, vI Ac, sL Am Ah.length Al, sL Ae Ab.length Ad, sL Ao Ak.length An], sL CV l.length CX] F [] fun F' L' v => ∃ (rv : Value), v = .tuple #[rv, vI r2] ∧ L' = [] ∧ Om 119 (Br eI (Br eI (Br (CM 1 (CM 1 eJ)) (Br eJ (CM 3 (Br eI eP)))))) F' rv r := by
 refine sp func76 ntmps76 fun K _ _ => ?_
 rw [Jd] at hr
 refine AG ?_
 refine BB rfl rfl ?_; intro b1 bb
 refine ua (ua (BR ?_))
 refine uv (Cv isAgg26 sizeOf26 0) ?_
 obtain ⟨d, n, h2, r3⟩ := Ca hr
 refine c0 call81 (HF ab aa ad h2) ?_; rintro _ F4 _ ar bc ⟨v8, rfl, rfl, au⟩
 replace ae := ae.m1 ar
 refine AB (ln rfl) ?_
 refine um (ox rfl rfl rfl (ox rfl rfl rfl (ua (ua (Aa (Au ?_))))))
 refine As ?_
 refine AG (um ?_)
 refine uv (BU rfl rfl) ?_
 refine ua (Aa ?_)
 refine cQ (fun ah => ?_) fun ah => ?_
 ·have av := A2 r3 ah
  refine AG (um (ua (ua (Aa ?_))))
  refine kW kn ?_
  refine Aw (AH (Av ?_))
  refine BM results76 (AT rfl) (AT rfl) (sr) ?_
  obtain ⟨rfl, rfl⟩ := Cd av
  exact ⟨_, rfl, rfl, rfl⟩
 have al := A3 r3 ah
 refine AG (um ?_)
 refine uv (AJ underlying22 rfl) (uv (Ap CB rfl) (uv (Co isAgg22 0) (uv (AJ underlying22 rfl) (uv (BU rfl rfl) ?_))))
 refine ua (Aa ?_)
 refine cQ (fun ai => ?_) fun ai => ?_
 ·have aw := A2 al ai
  refine AG (ua (ua (Aa ?_)))
  refine kW kn ?_
  refine Aw (AH (Av ?_))
  refine BM results76 (AT rfl) (AT rfl) (sr) ?_
  obtain ⟨rfl, rfl⟩ := Cd aw
  exact ⟨_, rfl, rfl, rfl⟩
 have ax := A3 al ai
 refine AG (um ?_)
 have aj : J2 Tryz.prog F4 121 #[] #[] eI Value.bool (fun ao : Int => I7 ao) := ⟨call121, fun F2 h2 vs ao r ha hr => by obtain rfl := ha; exact NG hr⟩
 obtain ⟨ok, ay, aq⟩ := Az ax
 refine cV call58 (GX ae aj ay) (uv (Bo rfl) ?_)
 refine ua (Aa ?_)
 refine AV rfl (fun ak => ?_) (fun ak => ?_)
 ·have az := bt aq ak
  refine AG (ua (ua (Aa ?_)))
  refine kW kn ?_
  refine Aw (AH (Av ?_))
  refine BM results76 (AT rfl) (AT rfl) (sr) ?_
  obtain ⟨rfl, rfl⟩ := Cd az
  exact ⟨_, rfl, rfl, rfl⟩
 have ba := bf aq ak
 refine Ar (AD (id := 0) (AG (um (ua (ua (Aa ?_))))))
 refine kW kn (Aw (BM results76 (AT rfl) (AT rfl) (sr) ?_))
 obtain ⟨rfl, rfl⟩ := Cd ba
 exact ⟨_, rfl, rfl, au⟩
set_option maxHeartbeats 1000000 in
theorem PG {l : List Int} (ai : At 1 (CM 1 eJ) F Am Al Ah) (ab : At 1 eI F Ae Ad Ab) (aj : At 3 (Br eI eP) F Ao An Ak) (au : At 1 eI F CV CX l) {r : Bool} {r2 : Int} (hr : Ng Af Ac Ah Ab Ak l = some (r, r2)) :
    Bp Tryz.prog 23 #[.agg #[vI Af, vI Ac, sL Am Ah.length Al, sL Ae Ab.length Ad, sL Ao Ak.length An], sL CV l.length CX] F (.tuple #[.bool r, vI r2]) := by
 refine sp func23 ntmps23 fun K _ _ => ?_
 rw [Ng] at hr
 refine AG ?_
 refine BB rfl rfl ?_; intro b1 eg
 refine ua (ua (BR ?_))
 refine uv (Cv isAgg26 sizeOf26 0) (um ?_)
 obtain ⟨d, n, h2, r3⟩ := Ca hr
 refine c0 call76 (Kr ai ab aj au h2) ?_; rintro _ F4 _ cq eh ⟨v8, rfl, rfl, cr⟩
 replace au := au.m1 cq
 refine AB (ln rfl) ?_
 refine um (ox rfl rfl rfl (ox rfl rfl rfl (ua (ua (Aa (Au (AG (um ?_))))))))
 refine uv (BU rfl rfl) (Aa ?_)
 refine cQ (fun az => ?_) fun az => ?_
 ·have ct := A2 r3 az
  refine AG (um (ua (ua (Aa ?_))))
  refine kW kn ?_
  refine Aw (Av ?_)
  refine BM results23 (AT rfl) (AT rfl) (sr) ?_
  obtain ⟨rfl, rfl⟩ := Cd ct
  exact rfl
 have cu := A3 r3 az
 refine Ar ?_
 refine AO (fun e1 F1 L1 => KS = some (r, r2) ∧ F4 = F1 ∧ L1 = [] ∧ e1.sub []) ?_ ?_
 ·refine AG (um ?_)
  refine uv (AJ underlying22 rfl) ?_
  refine um (Aa ?_)
  refine As (kW kn ?_)
  refine A6 (fun bz e1 F1 L1 => LA l bz fun tl k => ∃ (ba : Value), Io l d tl k = some (r, r2) ∧ F4 = F1 ∧ L1 = [] ∧ e1.sub [(1, sL CV l.length CX), (6, ba), (19, sL CV l.length CX), (20, vI (l.length : Int)), (21, vI k)] ∧ Om 119 (Br eI (Br eI (Br (CM 1 (CM 1 eJ)) (Br eJ (CM 3 (Br eI eP)))))) F1 ba d) _ (m0 kr ⟨_, _, rfl, Bq.start _, v8, cu, rfl, rfl, z5, cr⟩) ?_
  rintro bz e1 _ _ ⟨tl, k, bb, al, ba, av, rfl, rfl, bc, ak⟩
  refine AA _ bc (AG (uv (AY rfl rfl) ?_))
  refine Aa (Au ?_)
  refine cQ (fun aw => ?_) fun aw => ?_
  ·obtain ⟨x, ei, rfl, bd, cb, bg⟩ := Bq.succ al aw
   rw [Io] at av
   refine Ar (Au ?_)
   refine As ?_
   refine AG (um ?_)
   obtain ⟨ej, en, eo, cv, bh, bj, cc, rfl, cw, bk⟩ := At.ta kI au cb.1 bd
   refine uv (C0 underlying22 sizeOf3 bh cb) (uv (AS isAgg3 rfl (bj _) (bk 0 (by decide))) ?_)
   refine ua (ua (Aa ?_))
   obtain ⟨k2, cx, bl⟩ := Az av
   refine AO (fun e1 F1 L1 => ∃ (ax : Value), F4 = F1 ∧ L1 = [] ∧ e1.sub [(1, sL CV l.length CX), (6, ax), (19, sL CV l.length CX), (20, vI (l.length : Int)), (21, vI k), (47, .bool k2)] ∧ Om 119 (Br eI (Br eI (Br (CM 1 (CM 1 eJ)) (Br eJ (CM 3 (Br eI eP)))))) F1 ax d) ?_ ?_
   ·clear bl
    refine Aq (um ?_)
    obtain ⟨AU, ah, ao, ae, aq, cy, cz⟩ := Ez cx
    have cf := ak; rw [cy] at cf; obtain ⟨ay, ep, da, bm, ar, ⟨_, _, rfl, rfl, ⟨_, _, rfl, rfl, ⟨_, _, rfl, ⟨db, dd, rfl, de⟩, ⟨_, _, rfl, ⟨df, dg, rfl, dh⟩, ⟨di, dk, rfl, dm⟩⟩⟩⟩⟩⟩ := cf; subst bm
    have ar : F4 ay = some (.cells #[vI AU, vI ah, sL db ao.length dd, sL df ae.length dg, sL di aq.length dk] 119 da) := ar
    refine uv (BQ rfl) (uv (Ap GA rfl) (uv (Bn isAgg26 sizeOf26 rfl (Has.frozen ar) (DD rfl) rfl) ?_))
    refine um (um ?_)
    obtain ⟨ok, dp, cg⟩ := Az cz
    refine cV call77 (HU de dh dm dp) (uv (Bo rfl) (um ?_))
    rcases DX (!ok) with ad | ad
    ·have dq := bt cg ad
     refine fB ad (fB ad (fB ad (fU (fU (fU (fU (fU (fU (fU ?_)))))))))
     refine fU (fB ad ?_)
     refine uv (AK (FK rfl ad) rfl) (Aa ?_)
     obtain rfl := AL dq
     exact mi kr ⟨pO ay, rfl, rfl, z6, ak⟩
    have cj := bf cg ad
    refine nB ad (um (nB ad ?_))
    refine uv (C2 rfl rfl) ?_
    refine nB ad (um ?_)
    by_cases aa : 0 < k
    ·have dr := A2 cj aa
     refine nT aa (um (nT aa (um (nT aa (um (nT aa ?_))))))
     obtain ⟨dt, du⟩ := AF dr
     refine uv (EU rfl rfl dt) (nT aa ?_)
     obtain ⟨x2, ck, bn, dv⟩ := BG du
     obtain ⟨er, et, eu, dw, bo, bp, cn, rfl, dx, bq⟩ := At.ta kI au ck.1 bn
     refine uv (C0 underlying22 sizeOf3 bo ck) (nT aa (uv (AS isAgg3 rfl (bp _) (bq 0 (by decide))) (nT aa ?_)))
     obtain ⟨ew, dy, dz⟩ := Az dv
     refine cV call78 (J6 dy) (nT aa (uv (Bo rfl) (nB ad (uv (AK (Ba rfl aa) rfl) (uv (AE (FK rfl ad) rfl) (Aa ?_))))))
     obtain rfl := AL dz
     exact mi kr ⟨pO ay, rfl, rfl, z6, ak⟩
    have eb := A3 cj aa
    refine fF aa (fF aa (fF aa (fF aa (fF aa (fF aa (fF aa (fF aa (nB ad ?_))))))))
    refine uv (AE (AR rfl aa) rfl) (uv (AE (FK rfl ad) rfl) (Aa ?_))
    obtain rfl := AL eb
    exact mi kr ⟨pO ay, rfl, rfl, z6, ak⟩
   rintro e1 _ _ ⟨ax, rfl, rfl, br, bu⟩
   refine AA _ br ?_
   refine AV rfl (fun bw => ?_) (fun bw => ?_)
   ·have ec := bt bl bw
    refine AG (ua (ua (Aa (Aw (AH (Av (Av (AH (Av ?_)))))))))
    refine BM results23 (AT rfl) (AT rfl) (sr) ?_
    obtain ⟨rfl, rfl⟩ := Cd ec
    exact rfl
   have ef := bf bl bw
   refine Ar (AD (id := 1) (Aq ?_))
   refine uv (A4 rfl rfl (Bq.CE al aw (At.lt au))) ?_
   refine um (Aa ?_)
   subst bb; exact le kr ⟨_, _, rfl, bg, ax, ef, rfl, rfl, z5, bu⟩
  obtain rfl := Bq.zero al aw
  rw [Io] at av
  refine AM (Aj (Aj ?_))
  refine Ax ?_
  exact mi kr ⟨av, rfl, rfl, (sn _)⟩
 rintro e1 _ _ ⟨cp, rfl, rfl, bx⟩
 refine AA _ bx ?_
 rw [KS] at cp
 refine AG (ua (ua (Aa (Aw ?_))))
 refine BM results23 (AT rfl) (AT rfl) (sr) ?_
 obtain ⟨rfl, rfl⟩ := Cd cp
 exact rfl
set_option maxHeartbeats 1000000 in
theorem IV (_h_hears : At 1 (CM 1 eJ) F Am Al Ah) (ah : At 1 eI F Ae Ad Ab) (_h_cries : At 3 (Br eI eP) F Ao An Ak) (aa : At 1 eI F Bl Bk AW) {r : Bool} (hr : Hc Af Ac Ah Ab Ak AW = some r) :
    Bp Tryz.prog 24 #[.agg #[vI Af, vI Ac, sL Am Ah.length Al, sL Ae Ab.length Ad, sL Ao Ak.length An], sL Bl AW.length Bk] F (.bool r) := by
 refine sp func24 ntmps24 fun K _ _ => ?_
 rw [Hc] at hr
 refine AG ?_
 refine BB rfl rfl ?_; intro b1 ez
 refine ua (Aa ?_)
 refine AO (fun e1 F1 L1 => Ip = some r ∧ F = F1 ∧ L1 = [] ∧ e1.sub []) ?_ ?_
 ·refine AG (ua (Aa ?_))
  refine As ?_
  refine A6 (fun cp e1 F1 L1 => LA AW cp fun tl h => Fq Ab AW tl h = some r ∧ F = F1 ∧ L1 = [(b1, ce #[vI Af, vI Ac, sL Am Ah.length Al, sL Ae Ab.length Ad, sL Ao Ak.length An] 50)] ∧ e1.sub [(1, sL Bl AW.length Bk), (2, pO b1), (5, vI h)]) _ (m0 kr ⟨_, _, rfl, Bq.start _, hr, rfl, rfl, z3⟩) ?_
  rintro cp e1 _ _ ⟨tl, h, df, aw, r4, rfl, rfl, dg⟩
  refine AA _ dg ?_
  refine Au (AG (um (um ?_)))
  refine uv (AJ underlying22 rfl) (uv (AY rfl rfl) (Aa ?_))
  refine cQ (fun c7 => ?_) fun c7 => ?_
  ·obtain ⟨x, fa, rfl, ax, ak, dh⟩ := Bq.succ aw c7
   rw [Fq] at r4
   refine Ar (Au ?_)
   refine As ?_
   obtain ⟨k, di, ay⟩ := Az r4
   refine jE ([(b1, ce #[vI Af, vI Ac, sL Am Ah.length Al, sL Ae Ab.length Ad, sL Ao Ak.length An] 50)]) [(1, sL Bl AW.length Bk), (2, pO b1), (5, vI h), (47, .bool k)] ?_ ?_
   ·clear ay
    refine Jb (by kernel_rfl) (by kernel_rfl) (by kernel_rfl) (wv (Ap Iq rfl) (wv (Co isAgg22 0) (wm ?_)))
    obtain ⟨x2, av, al, cq⟩ := BG di
    obtain ⟨fb, fe, ff, dk, az, ba, cr, rfl, dm, bb⟩ := At.ta kI ah av.1 al
    refine wv (C0 underlying22 sizeOf3 az av) (wv (AS isAgg3 rfl (ba _) (bb 0 (by decide))) (wv (Hu rfl rfl) (wm ?_)))
    by_cases ab : 0 ≤ x2
    ·have dp := A2 cq ab
     refine A0 (b := true) 18 rfl (Env.Gr rfl ab) (wm (A0 (b := true) 18 rfl (Env.Gr rfl ab) (wm (A0 (b := true) 18 rfl (Env.Gr rfl ab) ?_))))
     obtain ⟨fg, fh, fi, dq, bc, bd, ct, rfl, dr, bg⟩ := At.ta kI aa ak.1 ax
     refine wv (C0 underlying22 sizeOf3 bc ak) (A0 (b := true) 18 rfl (Env.Gr rfl ab) (wv (AS isAgg3 rfl (bd _) (bg 0 (by decide))) (A0 (b := true) 18 rfl (Env.Gr rfl ab) (wv (Ap Iq rfl) (A0 (b := true) 18 rfl (Env.Gr rfl ab) (wv (Co isAgg22 0) ?_))))))
     refine A0 (b := true) 18 rfl (Env.Gr rfl ab) (wm (A0 (b := true) 18 rfl (Env.Gr rfl ab) ?_))
     obtain ⟨fj, fk, fl, dt, bh, bj, cu, rfl, du, bk⟩ := At.ta kI ah av.1 al
     refine wv (C0 underlying22 sizeOf3 bh av) (A0 (b := true) 18 rfl (Env.Gr rfl ab) (wv (AS isAgg3 rfl (bj _) (bk 0 (by decide))) (A0 (b := true) 18 rfl (Env.Gr rfl ab) ?_)))
     obtain ⟨ok, dv, cv⟩ := Az dp
     refine Dy rfl call79 rfl rfl rfl (F7 dv) (A0 (b := true) 18 rfl (Env.Gr rfl ab) (wv (Bo rfl) (wv (AK (Ba rfl ab) rfl) (wm ?_))))
     rcases DX (!ok) with ai | ai
     ·have dw := bt cv ai
      refine AX (b' := true) 31 rfl (Cy rfl ai) rfl rfl (AX (b' := true) 31 rfl (Cy rfl ai) rfl rfl (AX (b' := true) 31 rfl (Cy rfl ai) rfl rfl (He 34 rfl rfl rfl (He 34 rfl rfl rfl (He 34 rfl rfl rfl (He 34 rfl rfl rfl (He 34 rfl rfl rfl (He 34 rfl rfl rfl (He 34 rfl rfl rfl ?_)))))))))
      refine He 34 rfl rfl rfl (He 34 rfl rfl rfl (He 34 rfl rfl rfl (He 34 rfl rfl rfl (AX (b' := true) 31 rfl (Cy rfl ai) rfl rfl ?_))))
      refine wv (AK (FK rfl ai) rfl) (B6 ?_)
      obtain rfl := AL dw
      exact mi kr ⟨rfl, rfl, z4⟩
     have cw := bf cv ai
     refine A0 (b := false) 31 rfl (Cy rfl ai) (wm (A0 (b := false) 31 rfl (Cy rfl ai) ?_))
     refine wv (C2 rfl rfl) ?_
     refine A0 (b := false) 31 rfl (Cy rfl ai) (wm ?_)
     by_cases ad : 0 < h
     ·have dx := A2 cw ad
      refine A0 (b := true) 34 rfl (Env.Gr rfl ad) (wm (A0 (b := true) 34 rfl (Env.Gr rfl ad) (wm (A0 (b := true) 34 rfl (Env.Gr rfl ad) ?_))))
      obtain ⟨fm, fo, fp, dy, bl, bm, cx, rfl, dz, bn⟩ := At.ta kI aa ak.1 ax
      refine wv (C0 underlying22 sizeOf3 bl ak) (A0 (b := true) 34 rfl (Env.Gr rfl ad) (wv (AS isAgg3 rfl (bm _) (bn 0 (by decide))) ?_))
      refine A0 (b := true) 34 rfl (Env.Gr rfl ad) (wm (A0 (b := true) 34 rfl (Env.Gr rfl ad) (wm (A0 (b := true) 34 rfl (Env.Gr rfl ad) ?_))))
      obtain ⟨eb, ec⟩ := AF dx
      refine wv (EU rfl rfl eb) (A0 (b := true) 34 rfl (Env.Gr rfl ad) ?_)
      obtain ⟨x3, cy, bo, ef⟩ := BG ec
      obtain ⟨fq, ft, fv, eg, bp, bq, cz, rfl, eh, br⟩ := At.ta kI aa cy.1 bo
      refine wv (C0 underlying22 sizeOf3 bp cy) (A0 (b := true) 34 rfl (Env.Gr rfl ad) (wv (AS isAgg3 rfl (bq _) (br 0 (by decide))) (A0 (b := true) 34 rfl (Env.Gr rfl ad) ?_)))
      obtain ⟨fw, ei, ej⟩ := Az ef
      refine Dy rfl call79 rfl rfl rfl (F7 ei) (A0 (b := true) 34 rfl (Env.Gr rfl ad) (wv (Bo rfl) (A0 (b := false) 31 rfl (Cy rfl ai) (wv (AK (Ba rfl ad) rfl) (wv (AE (FK rfl ai) rfl) (B6 ?_))))))
      obtain rfl := AL ej
      exact mi kr ⟨rfl, rfl, z4⟩
     have en := A3 cw ad
     refine AX (b' := false) 34 rfl (Env.Fs rfl ad) rfl rfl (AX (b' := false) 34 rfl (Env.Fs rfl ad) rfl rfl (AX (b' := false) 34 rfl (Env.Fs rfl ad) rfl rfl (AX (b' := false) 34 rfl (Env.Fs rfl ad) rfl rfl (AX (b' := false) 34 rfl (Env.Fs rfl ad) rfl rfl (AX (b' := false) 34 rfl (Env.Fs rfl ad) rfl rfl (AX (b' := false) 34 rfl (Env.Fs rfl ad) rfl rfl (AX (b' := false) 34 rfl (Env.Fs rfl ad) rfl rfl (AX (b' := false) 34 rfl (Env.Fs rfl ad) rfl rfl (AX (b' := false) 34 rfl (Env.Fs rfl ad) rfl rfl ?_)))))))))
     refine AX (b' := false) 34 rfl (Env.Fs rfl ad) rfl rfl (A0 (b := false) 31 rfl (Cy rfl ai) ?_)
     refine wv (AE (AR rfl ad) rfl) (wv (AE (FK rfl ai) rfl) (B6 ?_))
     obtain rfl := AL en
     exact mi kr ⟨rfl, rfl, z4⟩
    have da := A3 cq ab
    refine AX (b' := false) 18 rfl (Env.Fs rfl ab) rfl rfl (AX (b' := false) 18 rfl (Env.Fs rfl ab) rfl rfl (AX (b' := false) 18 rfl (Env.Fs rfl ab) rfl rfl (AX (b' := false) 18 rfl (Env.Fs rfl ab) rfl rfl (AX (b' := false) 18 rfl (Env.Fs rfl ab) rfl rfl (AX (b' := false) 18 rfl (Env.Fs rfl ab) rfl rfl (AX (b' := false) 18 rfl (Env.Fs rfl ab) rfl rfl (AX (b' := false) 18 rfl (Env.Fs rfl ab) rfl rfl (AX (b' := false) 18 rfl (Env.Fs rfl ab) rfl rfl (AX (b' := false) 18 rfl (Env.Fs rfl ab) rfl rfl ?_)))))))))
    refine AX (b' := false) 18 rfl (Env.Fs rfl ab) rfl rfl (wv (AE (AR rfl ab) rfl) ?_)
    refine wm (A0 (b := false) 31 rfl rfl (wm (A0 (b := false) 31 rfl rfl ?_)))
    refine wv (C2 rfl rfl) ?_
    refine A0 (b := false) 31 rfl rfl (wm ?_)
    by_cases ae : 0 < h
    ·have eo := A2 da ae
     refine A0 (b := true) 34 rfl (Env.Gr rfl ae) (wm (A0 (b := true) 34 rfl (Env.Gr rfl ae) (wm (A0 (b := true) 34 rfl (Env.Gr rfl ae) ?_))))
     obtain ⟨fx, fy, ga, ep, bu, bw, db, rfl, er, bx⟩ := At.ta kI aa ak.1 ax
     refine wv (C0 underlying22 sizeOf3 bu ak) (A0 (b := true) 34 rfl (Env.Gr rfl ae) (wv (AS isAgg3 rfl (bw _) (bx 0 (by decide))) ?_))
     refine A0 (b := true) 34 rfl (Env.Gr rfl ae) (wm (A0 (b := true) 34 rfl (Env.Gr rfl ae) (wm (A0 (b := true) 34 rfl (Env.Gr rfl ae) ?_))))
     obtain ⟨et, eu⟩ := AF eo
     refine wv (EU rfl rfl et) (A0 (b := true) 34 rfl (Env.Gr rfl ae) ?_)
     obtain ⟨x4, dd, bz, ew⟩ := BG eu
     obtain ⟨gb, gg, gh, ey, cb, ao, cc, rfl, de, aq⟩ := At.ta kI aa dd.1 bz
     refine wv (C0 underlying22 sizeOf3 cb dd) (A0 (b := true) 34 rfl (Env.Gr rfl ae) (wv (AS isAgg3 rfl (ao _) (aq 0 (by decide))) (A0 (b := true) 34 rfl (Env.Gr rfl ae) ?_)))
     obtain ⟨gi, cf, cg⟩ := Az ew
     refine Dy rfl call79 rfl rfl rfl (F7 cf) (A0 (b := true) 34 rfl (Env.Gr rfl ae) (wv (Bo rfl) (A0 (b := false) 31 rfl rfl (wv (AK (Ba rfl ae) rfl) (wv (AE rfl rfl) (B6 ?_))))))
     obtain rfl := AL cg
     exact mi kr ⟨rfl, rfl, z4⟩
    have cj := A3 da ae
    refine AX (b' := false) 34 rfl (Env.Fs rfl ae) rfl rfl (AX (b' := false) 34 rfl (Env.Fs rfl ae) rfl rfl (AX (b' := false) 34 rfl (Env.Fs rfl ae) rfl rfl (AX (b' := false) 34 rfl (Env.Fs rfl ae) rfl rfl (AX (b' := false) 34 rfl (Env.Fs rfl ae) rfl rfl (AX (b' := false) 34 rfl (Env.Fs rfl ae) rfl rfl (AX (b' := false) 34 rfl (Env.Fs rfl ae) rfl rfl (AX (b' := false) 34 rfl (Env.Fs rfl ae) rfl rfl (AX (b' := false) 34 rfl (Env.Fs rfl ae) rfl rfl (AX (b' := false) 34 rfl (Env.Fs rfl ae) rfl rfl ?_)))))))))
    refine AX (b' := false) 34 rfl (Env.Fs rfl ae) rfl rfl (A0 (b := false) 31 rfl rfl ?_)
    refine wv (AE (AR rfl ae) rfl) (wv (AE rfl rfl) (B6 ?_))
    obtain rfl := AL cj
    exact mi kr ⟨rfl, rfl, z4⟩
   refine AV rfl (fun aj => ?_) (fun aj => ?_)
   ·have ck := bt ay aj
    refine AG (ua (Aa ?_))
    refine kW kn ?_
    refine Aw (AH (Av (Av (AH (Av ?_)))))
    refine B7 results24 ?_
    obtain rfl := AL ck
    exact rfl
   have cn := bf ay aj
   refine Ar (AD (id := 1) (Aq (um ?_)))
   refine uv (A4 rfl rfl (Bq.CE aw c7 (At.lt aa))) ?_
   refine ua (Aa ?_)
   subst df; exact le kr ⟨_, _, rfl, dh, cn, rfl, rfl, z3⟩
  obtain rfl := Bq.zero aw c7
  rw [Fq] at r4
  refine AM (Aj (Aj ?_))
  refine Ax ?_
  exact mi kn ⟨r4, rfl, rfl, (sn _)⟩
 rintro e1 _ _ ⟨ar, rfl, rfl, au⟩
 refine AA _ au ?_
 rw [Ip] at ar
 refine AG (ua (Aa (Aw ?_)))
 refine B7 results24 ?_
 obtain rfl := AL ar
 exact rfl
set_option maxHeartbeats 1000000 in
theorem Nc {av : Int → Int → (List (List (List Int))) → (List Int) → (List (Int × Int × Int)) → (List Int) → Option ((List (List Int)))} (bo : ∀ {Af Ac : Int} {Am : Option Addr} {Al : Nat} {Ah : List (List (List Int))} {Ae : Option Addr} {Ad : Nat} {Ab : List Int} {Ao : Option Addr} {An : Nat} {Ak : List (Int × Int × Int)} {aa : Option Addr} {ab : Nat} {begun : List Int} {F : FS} (_ : At 1 (CM 1 eJ) F Am Al Ah) (_ : At 1 eI F Ae Ad Ab) (_ : At 3 (Br eI eP) F Ao An Ak) (_ : At 1 eI F aa ab begun) {r : List (List Int)} , av Af Ac Ah Ab Ak begun = some r → SH.Spec Tryz.prog 26 #[.agg #[vI Af, vI Ac, sL Am Ah.length Al, sL Ae Ab.length Ad, sL Ao Ak.length An], sL aa begun.length ab] F [] fun F' L' v => ∃ (ra : Option Addr) (rn : Nat) (rc : Nat) (rL : LH), v = sL ra rn rc ∧ L' = rL ++ [] ∧ AI 0 22 1 eJ F' ra rn rc r rL) {aa : Option Addr} {ab : Nat} {begun : List Int} (ae : At 1 (CM 1 eJ) F Am Al Ah) (ad : At 1 eI F Ae Ad Ab) (ah : At 3 (Br eI eP) F Ao An Ak) (ai : At 1 eI F aa ab begun) {r : List (List Int)} (hr : JV av Af Ac Ah Ab Ak begun = some r) :
    SH.Spec Tryz.prog 26 #[.agg #[vI Af, vI Ac, sL Am Ah.length Al, sL Ae Ab.length Ad, sL Ao Ak.length An], sL aa begun.length ab] F [] fun F' L' v => ∃ (ra : Option Addr) (rn : Nat) (rc : Nat) (rL : LH), v = sL ra rn rc ∧ L' = rL ++ [] ∧ AI 0 22 1 eJ F' ra rn rc r rL := by
 refine sp func26 ntmps26 fun K _ _ => ?_
 rw [JV] at hr
 refine AG ?_
 refine BB rfl rfl ?_; intro b1 dz
 refine ua (Aa (Au (AG (um ?_))))
 refine uv (AJ underlying22 rfl) (uv (Ap Iq rfl) (uv (Co isAgg22 0) (uv (AJ underlying22 rfl) (uv (Bx rfl rfl) (Aa ?_)))))
 refine cQ (fun c2 => ?_) fun c2 => ?_
 ·have r3 := A2 hr c2
  refine AG (um ?_)
  refine bA (cs := #[sL aa begun.length ab]) FI [sL aa begun.length ab] ?_; intro b4 cr
  have ck : AI K.w0.heap.size 22 1 eJ F (aD b4) 1 1 [begun] [(b4, ce #[sL aa begun.length ab] 22)] := AI.Bd (vss := [[sL aa begun.length ab]]) kJ cr (.cons ⟨_, _, rfl, ai⟩ .nil) rfl rfl (by simp [maxLen])
  generalize az : ([(b4, ce #[sL aa begun.length ab] 22)] : LH) = Lb5 at ck
  refine Bc (L' := Lb5 ++ [(b1, ce #[vI Af, vI Ac, sL Am Ah.length Al, sL Ae Ab.length Ad, sL Ao Ak.length An] 50)]) (by rw [← az]; exact fO) ?_
  refine Bc (L' := (b1, ce #[vI Af, vI Ac, sL Am Ah.length Al, sL Ae Ab.length Ad, sL Ao Ak.length An] 50) :: (Lb5 ++ [])) (List.Perm.symm (fC fP)) ?_
  refine ua (Aa ?_)
  refine kW (kd kr) ?_
  refine Aw (Av ?_)
  refine B7 results26 ?_
  obtain rfl := AL r3
  exact ⟨_, _, _, _, rfl, rfl, ck.any⟩
 have r8 := A3 hr c2
 refine Ar (AG (ua (Aa ?_)))
 obtain ⟨out, ct, cn⟩ := Az r8
 refine AO (fun e1 F1 L1 => ∃ (a9 : Option Addr) (bp : Nat) (bq : Nat) (aw : LH), AQ F F1 ∧ L1 = (aw ++ []) ∧ e1.sub [(5, sL a9 bp bq)] ∧ AI K.w0.heap.size 22 1 eJ F1 a9 bp bq out aw) ?_ ?_
 ·clear cn
  refine AG (ua (Aa ?_))
  refine As ?_
  obtain ⟨cp, cu⟩ := AF ct
  refine A6 (fun bm e1 F1 L1 => ∃ (w : Int), B0 0 8 w bm ∧ ∃ (ao : List (List Int)) (ba : Option Addr) (bb : Nat) (bc : Nat) (aj : LH), Ed Af Ac Ah Ab Ak begun av bm w ao = some out ∧ AQ F F1 ∧ L1 = ((b1, ce #[vI Af, vI Ac, sL Am Ah.length Al, sL Ae Ab.length Ad, sL Ao Ak.length An] 50) :: (aj ++ [])) ∧ e1.sub [(1, sL aa begun.length ab), (2, pO b1), (5, sL ba bb bc), (6, vI w)] ∧ AI K.w0.heap.size 22 1 eJ F1 ba bb bc ao aj) _ (m0 (kc (ke kr)) ⟨_, B0.start _ _, [], none, 0, 0, [], cu, AQ.refl _, rfl, z4, AI.nil _ _ _ _ _⟩) ?_
  rintro bm e1 cv _ ⟨w, ar, ao, ba, bb, bc, aj, bn, ak, rfl, br, al⟩
  refine AA _ br ?_
  replace ae := ae.mono (Ay kJ) ak
  replace ad := ad.m1 ak
  replace ah := ah.mono (Ai kI kP) ak
  replace ai := ai.m1 ak
  refine Au (AG (um ?_))
  refine uv (AY rfl rfl) (Aa ?_)
  refine cQ (fun bd => ?_) fun bd => ?_
  ·obtain ⟨bm, rfl, bg⟩ := B0.succ ar bd
   rw [Ed] at bn
   refine Ar (Au ?_)
   refine As (AG ?_)
   refine Gy (cs := #[]) rfl rfl (HR Bm) ?_; intro bu bw
   refine um ?_
   have bh : AI K.w0.heap.size 3 1 eI cv (aD bu) 0 0 ([] : List Int) [(bu, ce #[] 3)] := AI.Bd (vss := []) kI bw .nil rfl rfl (by simp [maxLen])
   generalize ax : ([(bu, ce #[] 3)] : LH) = bj at bh
   refine Bc (L' := bj ++ ((b1, ce #[vI Af, vI Ac, sL Am Ah.length Al, sL Ae Ab.length Ad, sL Ao Ak.length An] 50) :: (aj ++ []))) (by rw [← ax]; exact fO) ?_
   refine Bc (L' := (b1, ce #[vI Af, vI Ac, sL Am Ah.length Al, sL Ae Ab.length Ad, sL Ao Ak.length An] 50) :: (bj ++ (aj ++ []))) (List.Perm.symm (fC fP)) ?_
   obtain ⟨l, cw, cx, cy⟩ := Ea bn
   refine CJ (xs := ([] : List Int)) (ys := begun) (zs := l) rfl Bm rfl rfl (Nat.le_refl _) (fun _ => .c .h) bh (At.src ai) cw cx (by decide) ?_; intro eb ec ef cz bx
   refine um ?_
   refine bA (cs := #[vI w]) Bm [vI w] ?_; intro eg da
   obtain ⟨l2, db, dd, de⟩ := Ea cy
   refine CJ (xs := l) (ys := [w]) (zs := l2) rfl Bm rfl rfl (Nat.le_refl _) (fun _ => .c (.c .h)) bx (FL.box (vss := [[vI w]]) (ys := [w]) 0 rfl kI (.cons rfl .nil) rfl rfl) db dd (by decide) ?_; intro eh ei ej df au
   refine kO (kd kr) ?_
   refine ua (BR ?_)
   refine uv (Cv isAgg50 sizeOf50 0) (um ?_)
   obtain ⟨ok, dg, cq⟩ := Az de
   refine Bh rfl call24 rfl rfl rfl (pT ((fC fP).trans (pA pR)) (lp (ln rfl))) (fun F2 h2 h3 => by rw [(AI.A1 au).1]; exact IV (ae.mono (Ay kJ) h2) (ad.mono kI h2) (ah.mono (Ai kI kP) h2) (au.row kI h2 (aL h3)) dg) ?_
   refine Aa ?_
   refine AV rfl (fun bz => ?_) (fun bz => ?_)
   ·have dh := bt cq bz
    refine Aq (um ?_)
    refine uv (Cv isAgg50 sizeOf50 0) (um ?_)
    obtain rfl := (AI.A1 au).1
    refine A5 (Nat.le_refl _) kI (fC fP) au ?_; intro en aq di
    replace ae := ae.mono (Ay kJ) aq
    replace ad := ad.m1 aq
    replace ah := ah.mono (Ai kI kP) aq
    replace al := al.m2 aq
    obtain ⟨l3, dk, dm⟩ := Az dh
    refine c0 call26 (bo ae ad ah di dk) ?_; rintro _ eo _ bk cb ⟨ep, er, et, dp, rfl, rfl, ay⟩
    replace al := al.m2 bk
    replace ay := ay.new fun p hp => cb p (by simp [hp])
    refine AB (lp (ln rfl)) (kO (kf (fS fO) kr) ?_)
    obtain ⟨bl, dq, dr, dt⟩ := Ea dm
    refine CJ (xs := ao) (ys := l3) (zs := bl) rfl FI rfl rfl (Nat.le_refl _) (fun _ => .c (.s .h)) al (AI.src ay (fC fP)) dq dr (by decide) ?_; intro du dv dw cc cf
    refine ua (Aa (AD (id := 1) (Aq (um ?_))))
    refine uv (A4 rfl rfl (B0.CE ar bd cp)) ?_
    refine ua (Aa ?_)
    exact le (kc (kx kr)) ⟨_, bg, bl, du, dv, dw, cc, dt, ((ak.trans aq).trans bk), rfl, z4, cf⟩
   have dx := bf cq bz
   refine Ar (AD (id := 1) (Aq (um ?_)))
   refine uv (A4 rfl rfl (B0.CE ar bd cp)) ?_
   refine ua (Aa ?_)
   exact le (kc (kx kr)) ⟨_, bg, ao, ba, bb, bc, aj, dx, ak, rfl, z4, al⟩
  obtain rfl := B0.zero ar bd
  rw [Ed] at bn
  refine AM (Aj (Aj ?_))
  refine Ax ?_
  obtain rfl := AL bn
  exact mi (kd kr) ⟨ba, bb, bc, aj, ak, rfl, z1, al⟩
 rintro e1 eu _ ⟨a9, bp, bq, aw, dy, rfl, cg, cj⟩
 refine AA _ cg ?_
 refine AG (um (ua (Aa (Aw ?_))))
 refine B7 results26 ?_
 obtain rfl := AL cn
 exact ⟨_, _, _, _, rfl, rfl, cj.any⟩
set_option maxHeartbeats 1000000 in
theorem HM : ∀ (fu : Nat) {Af Ac : Int} {Am : Option Addr} {Al : Nat} {Ah : List (List (List Int))} {Ae : Option Addr} {Ad : Nat} {Ab : List Int} {Ao : Option Addr} {An : Nat} {Ak : List (Int × Int × Int)} {aa : Option Addr} {ab : Nat} {begun : List Int} {F : FS} (_ : At 1 (CM 1 eJ) F Am Al Ah) (_ : At 1 eI F Ae Ad Ab) (_ : At 3 (Br eI eP) F Ao An Ak) (_ : At 1 eI F aa ab begun) {r : List (List Int)} , Ey fu Af Ac Ah Ab Ak begun = some r → SH.Spec Tryz.prog 26 #[.agg #[vI Af, vI Ac, sL Am Ah.length Al, sL Ae Ab.length Ad, sL Ao Ak.length An], sL aa begun.length ab] F [] fun F' L' v => ∃ (ra : Option Addr) (rn : Nat) (rc : Nat) (rL : LH), v = sL ra rn rc ∧ L' = rL ++ [] ∧ AI 0 22 1 eJ F' ra rn rc r rL := by
  intro fu
  induction fu with
  | zero => intros; rename_i hr; rw [Ey] at hr; cases hr
  | succ fu ih => intros; rename_i hr; rw [Ey] at hr; exact Nc ih (by assumption) (by assumption) (by assumption) (by assumption) hr
set_option maxHeartbeats 1000000 in
theorem Kk {Ci : Option Addr} {Cj : Nat} {BT : List (List Int)} (aa : At 1 eJ F Ci Cj BT) {r : List Int} (hr : HS BT hour = some r) :
    SH.Spec Tryz.prog 28 #[sL Ci BT.length Cj, vI hour] F [] fun F' L' v => ∃ (ra : Option Addr) (rn : Nat) (rc : Nat) (rL : LH), v = sL ra rn rc ∧ L' = rL ++ [] ∧ AI 0 3 1 eI F' ra rn rc r rL := by
 refine sp func28 ntmps28 fun K _ _ => ?_
 rw [HS] at hr
 refine AG (ua (BR ?_))
 obtain ⟨g1, r2⟩ := AF hr
 obtain ⟨l, h3, r4⟩ := BI r2
 refine Ft (R := eI) (z0 := 0) (zs := l) rfl Bm (by decide) kI (fun _ => rfl) rfl g1 h3 (fun _ => .n) ?_; intro a5 n8 ct cu
 refine ua (Aa ?_)
 obtain ⟨out, cv, cf⟩ := Az r4
 refine AO (fun e1 F1 L1 => ∃ (ai : LH), F = F1 ∧ L1 = (ai ++ []) ∧ e1.sub [(5, sL a5 n8 n8)] ∧ AI K.w0.heap.size 3 1 eI F1 a5 n8 n8 out ai) ?_ ?_
 ·clear cf
  refine AG (ua (Aa ?_))
  refine As ?_
  refine A6 (fun cg e1 F1 L1 => LA BT cg fun tl i => ∃ (aj : List Int) (ab : LH), EJ hour tl aj = some out ∧ F = F1 ∧ L1 = (ab ++ []) ∧ e1.sub [(0, sL Ci BT.length Cj), (1, vI hour), (5, sL a5 n8 n8), (6, vI i)] ∧ AI K.w0.heap.size 3 1 eI F1 a5 n8 n8 aj ab) _ (m0 kr ⟨_, _, rfl, Bq.start _, l, ct, cv, rfl, rfl, z4, cu⟩) ?_
  rintro cg e1 _ _ ⟨tl, i, az, ak, aj, ab, av, rfl, rfl, ba, ad⟩
  refine AA _ ba ?_
  refine Au (AG (um (um ?_)))
  refine uv (AJ underlying34 rfl) (uv (AY rfl rfl) (Aa ?_))
  refine cQ (fun aw => ?_) fun aw => ?_
  ·obtain ⟨x, eb, rfl, al, ax, bb⟩ := Bq.succ ak aw
   rw [EJ] at av
   refine Ar (Au ?_)
   refine As (BK [(.still, 0), (.still, 1), (.still, 2), (.still, 3), (.still, 4), (.still, 5), (.still, 6), (.still, 7), (.still, 8), (.still, 9), (.still, 10), (.still, 11), (.still, 12), (.still, 13), (.still, 14), (.still, 15), (.still, 16), (.still, 17), (.still, 18), (.still, 19), (.seq, 20)] (by kernel_rfl) (by kernel_rfl) (trivial) (by rfl) (by kernel_rfl) (mS [5] rfl (A9 rfl) (mS [0] rfl (A9 rfl) (mS [6] rfl (A9 rfl) ?_))))
   obtain ⟨ec, ef, eg, cw, bc, bd, cj, ⟨eh, ei, rfl, cx⟩, cy, bg⟩ := At.ta kJ aa ax.1 al
   refine mS [15, 16] rfl (BZ underlying34 sizeOf22 rfl bc rfl ax) (mL [17] ([]) rfl sm (fun H F' L' ae ah => AS isAgg22 rfl ((bd _).ext ae ah) (bg 0 (by decide))) (mS [1] rfl (A9 rfl) ?_))
   obtain ⟨x2, ay, ao, cz⟩ := BG av
   obtain ⟨ej, en, eo, da, bh, bj, ck, rfl, db, bk⟩ := At.ta kI cx ay.1 ao
   refine mS [18, 19] rfl (BZ underlying22 sizeOf3 rfl bh rfl ay) (mL [20] ([]) rfl sm (fun H F' L' ae ah => AS isAgg3 rfl ((bj _).ext ae ah) (bk 0 (by decide))) (mS [5] rfl (A9 rfl) (mS [0] rfl (A9 rfl) (mS [6] rfl (A9 rfl) ?_))))
   obtain ⟨ep, er, et, dd, bl, bm, cn, ⟨eu, ew, rfl, de⟩, df, bn⟩ := At.ta kJ aa ax.1 al
   refine mS [23, 24] rfl (BZ underlying34 sizeOf22 rfl bl rfl ax) (mL [25] ([]) rfl sm (fun H F' L' ae ah => AS isAgg22 rfl ((bm _).ext ae ah) (bn 0 (by decide))) (mS [1] rfl (A9 rfl) ?_))
   obtain ⟨ey, ez, fa, dg, bo, bp, cp, rfl, dh, bq⟩ := At.ta kI de ay.1 ao
   refine mS [26, 27] rfl (BZ underlying22 sizeOf3 rfl bo rfl ay) (mL [28] ([]) rfl sm (fun H F' L' ae ah => AS isAgg3 rfl ((bp _).ext ae ah) (bq 0 (by decide))) ?_)
   obtain ⟨x3, aq, ar, di⟩ := BG cz
   obtain ⟨fb, fe, ff, dk, br, bu, cq, rfl, dm, bw⟩ := AI.at kI ad (L := ab ++ []) fP aq.1 ar
   refine mS [22, 29] rfl (BZ underlying22 sizeOf3 rfl br rfl (AI.idx ad aq)) (mL [30] (ab ++ []) rfl (s0 sr) (fun H F' L' ae ah => AS isAgg3 rfl (bu.ext ae ah) (bw 0 (by decide))) ?_)
   obtain ⟨dp, dq⟩ := AF di
   refine mS (v := vI (x3 + 1)) [31] rfl (A4 rfl rfl dp) ?_
   obtain ⟨dr, dt, fg, du, au, dv, cr, rfl, dw, dx⟩ := AI.at kI ad (L := ab ++ []) fP aq.1 ar
   refine mS [14, 21] rfl (BZ underlying22 sizeOf3 rfl au rfl (AI.idx ad aq)) ?_
   refine ⟨_, [(32, vI (x3 + 1)), (33, .pointer (some ⟨dr, dt + (x2 : Int).toNat * 1, none⟩))], rfl, rfl, z2, by kernel_rfl, ?_⟩; intro H
   obtain ⟨l2, dy, dz⟩ := BI dq
   refine Dq (u := x3 + 1) sizeOf3 kI rfl au rfl rfl (fun _ => .h) ad dy aq ?_; intro bx bz
   refine Aa ⟨undef, rfl, AQ.refl _, [], by kernel_rfl, .inl (.inl rfl), nm, ?_⟩
   refine Ce ?_
   refine AD (id := 1) (Aq (um ?_))
   refine uv (A4 rfl rfl (Bq.CE ak aw (At.lt aa))) ?_
   refine ua (Aa ?_)
   subst az; exact le kr ⟨_, _, rfl, bb, l2, bx, dz, rfl, rfl, z4, bz⟩
  obtain rfl := Bq.zero ak aw
  rw [EJ] at av
  refine AM (Aj (Aj ?_))
  refine Ax ?_
  obtain rfl := AL av
  exact mi kr ⟨ab, rfl, rfl, z1, ad⟩
 rintro e1 _ _ ⟨ai, rfl, rfl, cb, cc⟩
 refine AA _ cb ?_
 refine AG (um (ua (Aa (Aw ?_))))
 refine B7 results28 ?_
 obtain rfl := AL cf
 exact ⟨_, _, _, _, rfl, rfl, cc.any⟩
set_option maxHeartbeats 1000000 in
theorem OR (ab : At 1 (CM 1 eJ) F Am Al Ah) (aa : At 1 eI F Ae Ad Ab) (ad : At 3 (Br eI eP) F Ao An Ak) {r : List Int} {r2 : Int} (hr : Mo Af Ac Ah Ab Ak hour = some (r, r2)) :
    SH.Spec Tryz.prog 29 #[.agg #[vI Af, vI Ac, sL Am Ah.length Al, sL Ae Ab.length Ad, sL Ao Ak.length An], vI hour] F [] fun F' L' v => ∃ (ra : Option Addr) (rn : Nat) (rc : Nat) (rL : LH), v = .tuple #[sL ra rn rc, vI r2] ∧ L' = rL ++ [] ∧ AI 0 3 1 eI F' ra rn rc r rL := by
 refine sp func29 ntmps29 fun K _ _ => ?_
 rw [Mo] at hr
 refine AG ?_
 refine BB rfl rfl ?_; intro b1 dh
 refine ua (ua (BR ?_))
 refine uv (Cv isAgg26 sizeOf26 0) ?_
 obtain ⟨d, n, h2, r3⟩ := Ca hr
 refine c0 call81 (HF ab aa ad h2) ?_; rintro _ F4 _ au di ⟨v8, rfl, rfl, bp⟩
 replace ab := ab.mono (Ay kJ) au
 replace aa := aa.m1 au
 replace ad := ad.mono (Ai kI kP) au
 refine AB (ln rfl) ?_
 refine um (ox rfl rfl rfl (ox rfl rfl rfl (ua (ua (Aa (Au ?_))))))
 refine As ?_
 refine AG (um ?_)
 refine uv (BU rfl rfl) ?_
 refine ua (Aa ?_)
 refine cQ (fun av => ?_) fun av => ?_
 ·have bq := A2 r3 av
  refine AG (um (ua (ua (Aa ?_))))
  refine kW kn ?_
  refine Aw (AH (Av ?_))
  refine BM results29 (AT rfl) (AT rfl) (sr) ?_
  obtain ⟨rfl, rfl⟩ := Cd bq
  exact ⟨_, _, _, [], rfl, rfl, AI.nil _ _ _ _ _⟩
 have br := A3 r3 av
 refine AG (uv (Cv isAgg26 sizeOf26 0) (um ?_))
 obtain ⟨ok, bu, bm⟩ := Az br
 refine cV call62 (Hj ab aa ad bu) (uv (Bo rfl) ?_)
 refine ua (Aa ?_)
 refine AV rfl (fun aw => ?_) (fun aw => ?_)
 ·have bw := bt bm aw
  refine AG (ua (ua (Aa ?_)))
  refine kW kn ?_
  refine Aw (AH (Av ?_))
  refine BM results29 (AT rfl) (AT rfl) (sr) ?_
  obtain ⟨rfl, rfl⟩ := Cd bw
  exact ⟨_, _, _, [], rfl, rfl, AI.nil _ _ _ _ _⟩
 have bx := bf bm aw
 refine Ar (AD (id := 0) (AG (um ?_)))
 obtain ⟨AU, ah, ak, ae, al, bz, cb⟩ := Ez bx
 have bn := bp; rw [bz] at bn; obtain ⟨cc, dk, cf, ax, ao, ⟨_, _, rfl, rfl, ⟨_, _, rfl, rfl, ⟨_, _, rfl, ⟨cg, cj, rfl, ck⟩, ⟨_, _, rfl, ⟨cn, cp, rfl, cq⟩, ⟨cr, ct, rfl, cu⟩⟩⟩⟩⟩⟩ := bn; subst ax
 have ao : F4 cc = some (.cells #[vI AU, vI ah, sL cg ak.length cj, sL cn ae.length cp, sL cr al.length ct] 119 cf) := ao
 obtain ⟨l, cv, cw⟩ := Az cb
 refine c0 call82 (Hz ao ck cq cu cv) ?_; rintro _ dm _ cx ay ⟨dp, dq, dr, aq, rfl, rfl, ai⟩
 replace ai := ai.new fun p hp => ay p (by simp [hp])
 refine AB (lp (ln rfl)) (kO (kf (fS fO) kr) (um ?_))
 obtain ⟨x, bo, az, cy⟩ := BG cw
 obtain ⟨dt, du, dv, cz, ba, bb, aj, ⟨rfl, bc⟩, bd, bg⟩ := AI.at (BF (n := 8) (sz := 1) (DI .i64)) ai (L := (b1, ce #[vI Af, vI Ac, sL Am Ah.length Al, sL Ae Ab.length Ad, sL Ao Ak.length An] 26) :: (aq ++ [])) (fC fP) bo.1 az
 refine uv (C0 underlying123 sizeOf121 ba (AI.idx ai bo)) (uv (Bn isAgg121 sizeOf121 rfl bb aj (Bi aj bd bg)) ?_)
 refine Bu rfl zeroValue121 ?_; intro bh bj
 refine AB (L' := (bh, ce (arr (cI .i64) (List.replicate 8 0)) 121) :: ((b1, ce #[vI Af, vI Ac, sL Am Ah.length Al, sL Ae Ab.length Ad, sL Ao Ak.length An] 26) :: (aq ++ []))) rfl (GF (i := 0) sizeOf121 rfl rfl rfl (Gk (DI .i64) List.length_replicate) (Gk (DI .i64) bc) (LM (DI .i64)) (AB (L' := (bh, ce (arr (cI .i64) x) 121) :: ((b1, ce #[vI Af, vI Ac, sL Am Ah.length Al, sL Ae Ab.length Ad, sL Ao Ak.length An] 26) :: (aq ++ []))) rfl (BR ?_)))
 refine Bj 0 rfl bj ?_; intro dw da bk
 refine AB rfl ?_
 have db := At.R1 kI (fun _ _ => rfl) bk bc (by decide)
 refine uv (Fb.eq (v' := sL (aD bh) x.length 8) (P5 underlying121 sizeOf3 (by decide) rfl) (by rw [bc])) ?_
 obtain ⟨l2, dd, de⟩ := Az cy
 refine c0 call72 (CG db dd) ?_; rintro _ dx _ df bl ⟨dy, dz, eb, dg, rfl, rfl, ar⟩
 replace ar := ar.new fun p hp => bl p (by simp [hp])
 refine AB (lp (ln rfl)) (kO (kf (fS fO) kr) ?_)
 refine ua (ua (Aa ?_))
 refine kW (kd (ka kn)) (Aw (BM results29 (AT rfl) (AT rfl) (sr) ?_))
 obtain ⟨rfl, rfl⟩ := Cd de
 exact ⟨_, _, _, _, rfl, rfl, ar.any⟩
end Go.Proofs.YtdhookifhfkcpaaGreat
