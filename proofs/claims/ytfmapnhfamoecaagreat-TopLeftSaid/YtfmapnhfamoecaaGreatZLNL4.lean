/- The walks that this claim needs, printed by a program of mine; part 4. -/
import Derived.Test.YtfmapnhfamoecaaGreatZLNL3
namespace Go.Proofs.YtfmapnhfamoecaaGreat
open Go.SH Go.PL
open Tryz 
variable {heard : Bool} {F : FS} {hour DR Ad Ba Ab : Int} {Az : List (Int × Int × Int)} {Al : List (List (List Int))} {Bp Ak : List Int} {AQ Ax Fh Hl AE : Nat} {AR Aw Fb Hp AF : Option Addr}
set_option maxHeartbeats 1000000 in
theorem Qr {cf : (List Int) → Int → Int → Int → Int → (List (List (List Int))) → (List Int) → (List (Int × Int × Int)) → Int → Int → (List Int) → (List Int) → Bool → Option (Bool × (List Int) × Bool)} (ej : ∀ {Hp : Option Addr} {Hl : Nat} {l : List Int} {from_ many : Int} {Il : Nat} {Ad Ab : Int} {Aw : Option Addr} {Ax : Nat} {Al : List (List (List Int))} {AF : Option Addr} {AE : Nat} {Ak : List Int} {AR : Option Addr} {AQ : Nat} {Az : List (Int × Int × Int)} {cv : Nat × Nat} {av : Nat} {hour : Int} {bj : Nat × Nat} {ah : Nat} {Ba : Int} {bc : Nat × Nat} {ai : Nat} {Fb : Option Addr} {Fh : Nat} {Bp : List Int} {bd : Nat × Nat} {ak : Nat} {az : Option Addr} {ba : Nat} {out : List Int} {af : Nat} {found : Bool} {au : Nat} {bk : Nat × Nat} {F : FS} (_ : Av 1 (iE .i64) F Hp Hl l) (_ : F Il = some (.cells #[.int .i64 Ad, .int .i64 Ab, .slice Aw Al.length Ax, .slice AF Ak.length AE, .slice AR Az.length AQ] 100 cv)) (_ : Av 1 (BK 1 (BK 1 (iE .i64))) F Aw Ax Al) (_ : Av 1 (iE .i64) F AF AE Ak) (_ : Av 3 (Br (iE .i64) (Br (iE .i64) (iE .i64))) F AR AQ Az) (_ : F av = some (.cells #[.int .i64 hour] 3 bj)) (_ : F ah = some (.cells #[.int .i64 Ba] 3 bc)) (_ : F ai = some (.cells #[.slice Fb Bp.length Fh] 33 bd)) (_ : Av 1 (iE .i64) F Fb Fh Bp) (_ : Av 1 (iE .i64) F az ba out) (_ : F au = some (.cells (#[.func (.func 104) #[] #[.pointer (some ⟨Il, 0, none⟩), .pointer (some ⟨av, 0, none⟩), .pointer (some ⟨ah, 0, none⟩), .pointer (some ⟨ai, 0, none⟩), .pointer (some ⟨ak, 0, none⟩), .pointer (some ⟨af, 0, none⟩), .pointer (some ⟨au, 0, none⟩)]]) 245 bk)) {r : Bool} {r2 : List Int} {r3 : Bool} , cf l from_ many Ad Ab Al Ak Az hour Ba Bp out found = some (r, r2, r3) → SH.Spec Tryz.prog 104 #[.slice Hp l.length Hl, .int .i64 from_, .int .i64 many, .pointer (some ⟨Il, 0, none⟩), .pointer (some ⟨av, 0, none⟩), .pointer (some ⟨ah, 0, none⟩), .pointer (some ⟨ai, 0, none⟩), .pointer (some ⟨ak, 0, none⟩), .pointer (some ⟨af, 0, none⟩), .pointer (some ⟨au, 0, none⟩)] F [(ak, ce #[.slice az out.length ba] 33), (af, ce #[.bool found] 4)] fun F' L' v => ∃ (dk : Option Addr) (dm : Nat), v = .bool r ∧ L' = [(ak, ce #[.slice dk r2.length dm] 33), (af, ce #[.bool r3] 4)] ∧ Av 1 (iE .i64) F' dk dm r2) {l : List Int} {from_ many : Int} {Il : Nat} {cv : Nat × Nat} {av : Nat} {bj : Nat × Nat} {ah : Nat} {bc : Nat × Nat} {ai : Nat} {bd : Nat × Nat} {ak : Nat} {az : Option Addr} {ba : Nat} {out : List Int} {af : Nat} {found : Bool} {au : Nat} {bk : Nat × Nat} (bm : Av 1 (iE .i64) F Hp Hl l) (bh : F Il = some (.cells #[.int .i64 Ad, .int .i64 Ab, .slice Aw Al.length Ax, .slice AF Ak.length AE, .slice AR Az.length AQ] 100 cv)) (aj : Av 1 (BK 1 (BK 1 (iE .i64))) F Aw Ax Al) (ab : Av 1 (iE .i64) F AF AE Ak) (ao : Av 3 (Br (iE .i64) (Br (iE .i64) (iE .i64))) F AR AQ Az) (al : F av = some (.cells #[.int .i64 hour] 3 bj)) (aa : F ah = some (.cells #[.int .i64 Ba] 3 bc)) (ad : F ai = some (.cells #[.slice Fb Bp.length Fh] 33 bd)) (ae : Av 1 (iE .i64) F Fb Fh Bp) (aq : Av 1 (iE .i64) F az ba out) (ar : F au = some (.cells (#[.func (.func 104) #[] #[.pointer (some ⟨Il, 0, none⟩), .pointer (some ⟨av, 0, none⟩), .pointer (some ⟨ah, 0, none⟩), .pointer (some ⟨ai, 0, none⟩), .pointer (some ⟨ak, 0, none⟩), .pointer (some ⟨af, 0, none⟩), .pointer (some ⟨au, 0, none⟩)]]) 245 bk)) {r : Bool} {r2 : List Int} {r3 : Bool} (hr : IN cf l from_ many Ad Ab Al Ak Az hour Ba Bp out found = some (r, r2, r3)) :
    SH.Spec Tryz.prog 104 #[.slice Hp l.length Hl, .int .i64 from_, .int .i64 many, .pointer (some ⟨Il, 0, none⟩), .pointer (some ⟨av, 0, none⟩), .pointer (some ⟨ah, 0, none⟩), .pointer (some ⟨ai, 0, none⟩), .pointer (some ⟨ak, 0, none⟩), .pointer (some ⟨af, 0, none⟩), .pointer (some ⟨au, 0, none⟩)] F [(ak, ce #[.slice az out.length ba] 33), (af, ce #[.bool found] 4)] fun F' L' v => ∃ (dk : Option Addr) (dm : Nat), v = .bool r ∧ L' = [(ak, ce #[.slice dk r2.length dm] 33), (af, ce #[.bool r3] 4)] ∧ Av 1 (iE .i64) F' dk dm r2 := by
 refine sp func104 ntmps104 fun K _ _ => ?_
 rw [IN] at hr
 refine AN (ua (Aa ?_))
 refine A0 (fun e1 F1 L1 => Iv l from_ many Ad Ab Al Ak Az hour Ba Bp out found cf = some (r, r2, r3) ∧ F = F1 ∧ L1 = [(ak, ce #[.slice az out.length ba] 33), (af, ce #[.bool found] 4)] ∧ e1.sub [(0, .slice Hp l.length Hl), (1, .int .i64 from_), (2, .int .i64 many), (3, .pointer (some ⟨Il, 0, none⟩)), (9, .pointer (some ⟨au, 0, none⟩))]) ?_ ?_
 ·refine AN (um ?_)
  refine uv (CR rfl rfl) (Aa ?_)
  refine cQ (fun c1 => ?_) fun c1 => ?_
  ·have r4 := Bf hr c1
   refine AN (uv (AS isAgg100 sizeOf100 rfl (Has.frozen bh) (CK rfl) rfl) ?_)
   refine uv (BH (v := .agg #[.int .i64 Ad, .int .i64 Ab, .slice Aw Al.length Ax, .slice AF Ak.length AE, .slice AR Az.length AQ]) rfl (by intro w; kernel_rfl)) ?_
   refine Bt rfl rfl ?_; intro b5 iz
   refine ua (BX (um ?_))
   refine uv (Ae GS rfl) (uv (An isAgg98 rfl (Has.frozen bh) rfl) ?_)
   obtain ⟨l2, h6, r7⟩ := AG r4
   refine c0 call105 (Jm ao h6) ?_; rintro _ F8 _ cq en ⟨j0, j1, j2, eo, rfl, rfl, cw⟩
   replace bm := bm.mono (Ac _) cq
   replace aj := aj.mono (Ar (Ar (Ac _))) cq
   replace ab := ab.mono (Ac _) cq
   replace ae := ae.mono (Ac _) cq
   replace aq := aq.mono (Ac _) cq
   replace al := cq _ _ al
   replace aa := cq _ _ aa
   replace ad := cq _ _ ad
   replace cw := cw.new fun p hp => en p (by simp [hp])
   refine AI (lp (ln rfl)) (kO (kf (fS fO) (kf (fS fO) (kf (fS fO) kr))) (uv (A2 rfl) (uv (Ae K4 rfl) (uv (Ae GS rfl) (Cv (i := 0) sizeOf98 rfl rfl rfl rfl (CK rfl) (AI rfl (Aa ?_)))))))
   obtain ⟨bp, j3, ia⟩ := AG r7
   refine A0 (fun e1 F1 L1 => ∃ (ep : Option Addr) (er : Nat) (eu : Nat) (cx : LH), F8 = F1 ∧ L1 = ((b5, ce #[.int .i64 Ad, .int .i64 Ab, .slice Aw Al.length Ax, .slice AF Ak.length AE, .slice ep er eu] 247) :: ((ak, ce #[.slice az out.length ba] 33) :: ((af, ce #[.bool found] 4) :: (cx ++ [])))) ∧ e1.sub [(0, .slice Hp l.length Hl), (5, .pointer (some ⟨ah, 0, none⟩)), (6, .pointer (some ⟨ai, 0, none⟩)), (7, .pointer (some ⟨ak, 0, none⟩)), (8, .pointer (some ⟨af, 0, none⟩)), (14, .pointer (some ⟨b5, 0, none⟩))] ∧ Be K.w0.heap.size 132 3 (Br (iE .i64) (Br (iE .i64) (iE .i64))) F1 ep er eu bp cx) ?_ ?_
   ·clear ia
    refine AN (um ?_)
    refine uv (A7 underlying33 rfl) ?_
    refine um (Aa ?_)
    refine Ap ?_
    refine Bh (fun ib e1 F1 L1 => LA l ib fun tl k => ∃ (bb : List (Int × Int × Int)) (cy : Option Addr) (cz : Nat) (da : Nat) (bx : LH), De hour Ba tl bb = some bp ∧ F8 = F1 ∧ L1 = ((b5, ce #[.int .i64 Ad, .int .i64 Ab, .slice Aw Al.length Ax, .slice AF Ak.length AE, .slice cy cz da] 247) :: ((ak, ce #[.slice az out.length ba] 33) :: ((af, ce #[.bool found] 4) :: (bx ++ [])))) ∧ e1.sub [(0, .slice Hp l.length Hl), (4, .pointer (some ⟨av, 0, none⟩)), (5, .pointer (some ⟨ah, 0, none⟩)), (6, .pointer (some ⟨ai, 0, none⟩)), (7, .pointer (some ⟨ak, 0, none⟩)), (8, .pointer (some ⟨af, 0, none⟩)), (14, .pointer (some ⟨b5, 0, none⟩)), (31, .slice Hp l.length Hl), (32, .int .i64 (l.length : Int)), (33, .int .i64 k)] ∧ Be K.w0.heap.size 132 3 (Br (iE .i64) (Br (iE .i64) (iE .i64))) F1 cy cz da bb bx) _ (m0 kr ⟨_, _, rfl, BL.start _, l2, j0, j1, j2, eo, j3, rfl, rfl, (sc rfl (sc rfl z8)), cw⟩) ?_
    rintro ib e1 _ _ ⟨tl, k, ew, db, bb, cy, cz, da, bx, eg, rfl, rfl, ey, dn⟩
    refine AB _ ey (AN (uv (Bb rfl rfl) ?_))
    refine Aa (As ?_)
    refine cQ (fun eh => ?_) fun eh => ?_
    ·obtain ⟨x, jx, rfl, ez, ic, fa⟩ := BL.succ db eh
     rw [De] at eg
     refine Aq (As ?_)
     refine Ap (AN ?_)
     obtain ⟨jz, kb, kh, j4, fb, fe, ie, rfl, j5, ff⟩ := Av.at (Ac _) bm ((b5, ce #[.int .i64 Ad, .int .i64 Ab, .slice Aw Al.length Ax, .slice AF Ak.length AE, .slice cy cz da] 247) :: ((ak, ce #[.slice az out.length ba] 33) :: ((af, ce #[.bool found] 4) :: (bx ++ [])))) ic.1 ez
     refine uv (AK underlying33 sizeOf3 rfl fb rfl ic) (uv (An isAgg3 rfl fe (ff 0 (by decide))) ?_)
     refine ua (Aa ?_)
     refine Dp [(.still, 0), (.still, 1), (.still, 2), (.still, 3), (.still, 4), (.still, 5), (.still, 6), (.still, 7), (.still, 8), (.still, 9), (.seq, 10), (.seq, 11), (.still, 12), (.still, 13), (.still, 14), (.seq, 15)] (by kernel_rfl) (by kernel_rfl) (trivial) (by rfl) (by kernel_rfl) (mS [14] rfl (Bw rfl) (mS [14] rfl (Bw rfl) (mS [38] rfl (A2 rfl) (mS [39] rfl (Ae K4 rfl) (mS [40] rfl (Ae GS rfl) (mL [41] ([(b5, ce #[.int .i64 Ad, .int .i64 Ab, .slice Aw Al.length Ax, .slice AF Ak.length AE, .slice cy cz da] 247)]) rfl (s0 (s2 (s1 (s1 (s3 sr))))) (fun H F' L' cg cj => An isAgg98 rfl ((Has.own 0 rfl).ext cg cj) rfl) (mL [4] ([]) rfl sm (fun H F' L' cg cj => An isAgg3 rfl ((Has.frozen al).ext cg cj) rfl) ?_)))))))
     refine mS [16] rfl (Bw rfl) (mL [5] ([]) rfl sm (fun H F' L' cg cj => An isAgg3 rfl ((Has.frozen aa).ext cg cj) rfl) ?_)
     refine mS (v := .agg #[.int .i64 hour, .int .i64 x, .int .i64 Ba]) [43, 44, 45] rfl (BH (v := .agg #[.int .i64 hour, .int .i64 x, .int .i64 Ba]) rfl (by intro w; kernel_rfl)) ?_
     refine ⟨_, [(46, .agg #[.int .i64 hour, .int .i64 x, .int .i64 Ba])], rfl, rfl, z1, by kernel_rfl, ?_⟩; intro H
     refine bA (cs := #[.int .i64 hour, .int .i64 x, .int .i64 Ba]) KU [.agg #[.int .i64 hour, .int .i64 x, .int .i64 Ba]] ?_; intro j6 j7
     refine Aa ⟨_, rfl, A3.refl _, [5, 4, 3, 2, 1, 0], by kernel_rfl, .inl (.inr (fun d h => by cases h; rfl)), (fc (s0 (s1 (s2 (s1 (s1 (s3 sr)))))) (fc sm (fc sm (fc sm (fc sm (fc sm nm)))))), ?_⟩
     refine ⟨_, [(42, .slice cy cz da), (47, .slice (some ⟨j6, 0, none⟩) 1 1)], rfl, rfl, z2, by kernel_rfl, ?_⟩; intro H
     obtain ⟨l3, j8, j9, ja⟩ := GM eg
     refine Fm (xs := bb) (ys := [(hour, x, Ba)]) (zs := l3) rfl KU rfl rfl (Nat.le_refl _) (fun _ => .c (.c (.c (.c .h)))) dn (H2.box (vss := [[.int .i64 hour, .int .i64 x, .int .i64 Ba]]) (ys := [(hour, x, Ba)]) 0 rfl (Au (Ac _) (Au (Ac _) (Ac _))) (.cons ⟨_, _, rfl, rfl, ⟨_, _, rfl, rfl, rfl⟩⟩ .nil) rfl rfl) j8 j9 (by decide) ?_; intro ig ij ik fg fh
     refine kO (kd kr) ?_
     refine Aa ⟨_, rfl, A3.refl _, [0], by kernel_rfl, .inl (.inr (fun d h => by cases h; rfl)), (fc sm nm), ?_⟩
     refine mS [37] rfl (A2 rfl) (mS [49] rfl (Ae K4 rfl) (mS [50] rfl (Ae GS rfl) ?_))
     refine ⟨_, [(48, .slice ig ij ik), (51, .pointer (some ⟨b5, 4, none⟩))], rfl, rfl, z2, by kernel_rfl, ?_⟩; intro H
     refine Cv (i := 0) sizeOf98 rfl rfl rfl rfl (CK rfl) (AI rfl ?_)
     refine Aa ⟨undef, rfl, A3.refl _, [], by kernel_rfl, .inl (.inl rfl), nm, ?_⟩
     refine Ff ?_
     refine AD (id := 1) (Am ?_)
     refine uv (Bd rfl rfl (BL.Eg db eh (Av.lt bm))) ?_
     refine um (Aa ?_)
     subst ew; exact le kr ⟨_, _, rfl, fa, l3, ig, ij, ik, fg, ja, rfl, rfl, (sc rfl (sc rfl z8)), fh⟩
    obtain rfl := BL.zero db eh
    rw [De] at eg
    refine AT (Af (Af ?_))
    refine Ay ?_
    obtain rfl := AL eg
    exact mi kr ⟨cy, cz, da, bx, rfl, rfl, z6, dn⟩
   rintro e1 _ _ ⟨ep, er, eu, cx, rfl, rfl, fi, dp⟩
   refine AB _ fi (AN (uv (BP rfl rfl) ?_))
   refine uv (BH (v := .agg (#[.func (.func 106) #[] #[.pointer (some ⟨ai, 0, none⟩), .pointer (some ⟨ah, 0, none⟩)]])) rfl (by intro w; kernel_rfl)) ?_
   refine Bo rfl zeroValue241 ?_; intro jb jc
   refine B1 (i := 0) sizeOf241 rfl rfl rfl (by simp [Value.oneCell']) rfl (CK rfl) (AI rfl ?_)
   refine Aa (As (As ?_))
   refine Dp [(.still, 0), (.still, 1), (.seq, 2), (.seq, 3), (.still, 4)] (by kernel_rfl) (by kernel_rfl) (trivial) (by rfl) (by kernel_rfl) (mL [17] ([(jb, ce (#[.func (.func 106) #[] #[.pointer (some ⟨ai, 0, none⟩), .pointer (some ⟨ah, 0, none⟩)]]) 241)]) rfl (s0 (s2 (s1 (s1 (s1 (s3 sr)))))) (fun H F' L' cg cj => AS isAgg241 sizeOf241 rfl ((Has.own 0 rfl).ext cg cj) (CK rfl) rfl) (mS [14] rfl (Bw rfl) ?_))
   refine ⟨_, [(56, .pointer (some ⟨b5, 0, none⟩))], rfl, rfl, z1, by kernel_rfl, ?_⟩; intro H
   obtain rfl := (Be.Eu dp).1
   refine C1 (Nat.le_refl _) (Au (Ac _) (Au (Ac _) (Ac _))) (fC (fC (fC (fC fP)))) dp ?_; intro kj bn fj
   replace bm := bm.mono (Ac _) bn
   replace aj := aj.mono (Ar (Ar (Ac _))) bn
   replace ab := ab.mono (Ac _) bn
   replace ae := ae.mono (Ac _) bn
   replace aq := aq.mono (Ac _) bn
   replace aa := bn _ _ aa
   replace ad := bn _ _ ad
   refine Bi 1 rfl iz ?_; intro kl bl fk
   refine AI rfl ?_
   replace bm := bm.mono (Ac _) bl
   replace aj := aj.mono (Ar (Ar (Ac _))) bl
   replace ab := ab.mono (Ac _) bl
   replace ae := ae.mono (Ac _) bl
   replace aq := aq.mono (Ac _) bl
   replace fj := fj.mono (Au (Ac _) (Au (Ac _) (Ac _))) bl
   replace aa := bl _ _ aa
   replace ad := bl _ _ ad
   obtain ⟨l4, jd, je⟩ := AG ia
   refine c0 call109 (Kq fk aj ab fj jd) ?_; rintro _ jf _ br fl ⟨jg, jh, ji, jj, rfl, rfl, ck⟩
   replace bm := bm.mono (Ac _) br
   replace ae := ae.mono (Ac _) br
   replace aq := aq.mono (Ac _) br
   replace aa := br _ _ aa
   replace ad := br _ _ ad
   replace ck := ck.new fun p hp => fl p (by simp [hp])
   refine AI (lp (ln rfl)) (kO (kf (fS fO) (kf (fS fO) (kf (fS fO) kr))) ?_)
   refine Aa ⟨_, rfl, ((bn.trans bl).trans br), [0], by kernel_rfl, .inl (.inr (fun d h => by cases h; rfl)), (fc (s0 (s2 (s1 (s1 (s3 sr))))) nm), ?_⟩
   refine ⟨_, [(55, .agg (#[.func (.func 106) #[] #[.pointer (some ⟨ai, 0, none⟩), .pointer (some ⟨ah, 0, none⟩)]])), (57, .slice jg jh ji)], rfl, rfl, z2, by kernel_rfl, ?_⟩; intro H
   have dd : HG Tryz.prog jf 106 #[] #[.pointer (some ⟨ai, 0, none⟩), .pointer (some ⟨ah, 0, none⟩)] (Pu (IZ 24 cB)) Value.bool (fun il : (List Bool) => D0 il Bp Ba) := ⟨call106, fun F2 h2 vs il r ha hr => by obtain ⟨_, rfl, ⟨rfl, jk⟩⟩ := ha; exact PQ jk (h2 _ _ ad) (ae.mono (Ac _) h2) (h2 _ _ aa) hr⟩
   obtain rfl := (Be.Eu ck).1
   refine C1 (Nat.le_refl _) (Au (CD (n := 24) (sz := 1) Bq) (Ar (Ac _))) (fC (fC (fC fP))) ck ?_; intro km cn jl
   replace bm := bm.mono (Ac _) cn
   replace aq := aq.mono (Ac _) cn
   replace dd := dd.mono cn
   obtain ⟨l5, jm, im⟩ := AG je
   refine c0 call99 (Mi dd jl jm) ?_; rintro _ ko _ de jn ⟨kt, ku, rfl, rfl, kv, fm⟩
   replace bm := bm.mono (Ac _) de
   replace aq := aq.mono (Ac _) de
   refine AI (ln rfl) ?_
   refine Aa ⟨_, rfl, (cn.trans de), [], by kernel_rfl, .inl (.inl rfl), nm, ?_⟩
   refine mS (v := .bool (decide (l5 = []))) [58] rfl ((Ph underlying33 rfl).b (TG fm)) (Ff ?_)
   refine cQ (fun fo => ?_) fun fo => ?_
   ·have jo := Bf im fo
    refine Am (um ?_)
    refine Cv (i := 1) sizeOf33 rfl rfl rfl rfl (CK rfl) (AI rfl (Cv (i := 2) sizeOf4 rfl rfl rfl rfl (CK rfl) (AI rfl (BX (uv (An isAgg4 rfl (Has.own 2 rfl) rfl) ?_)))))
    refine ua (Aa ?_)
    refine kW (kd kr) ?_
    refine Ao (Ah ?_)
    refine BU results104 ?_
    obtain ⟨rfl, rfl, rfl⟩ := Kf jo
    exact ⟨_, _, rfl, rfl, bm⟩
   have jq := Bg im fo
   refine Aq (AN ?_)
   refine uv (An isAgg4 rfl (Has.own 2 rfl) rfl) ?_
   refine ua (Aa ?_)
   refine kW (kd kr) ?_
   refine Ao (Ah ?_)
   refine BU results104 ?_
   obtain ⟨rfl, rfl, rfl⟩ := Kf jq
   exact ⟨_, _, rfl, rfl, aq⟩
  have jr := Bg hr c1
  refine Aq ?_
  exact mi kr ⟨jr, rfl, rfl, z5⟩
 rintro e1 _ _ ⟨iq, rfl, rfl, dq⟩
 refine AB _ dq ?_
 rw [Iv] at iq
 refine A0 (fun e1 F1 L1 => ∃ (BD : List Int) (bo : Bool) (df : Option Addr) (dg : Nat), JO BD bo = some (r, r2, r3) ∧ A3 F F1 ∧ L1 = [(ak, ce #[.slice df BD.length dg] 33), (af, ce #[.bool bo] 4)] ∧ e1.sub [] ∧ Av 1 (iE .i64) F1 df dg BD) ?_ ?_
 ·refine AN (um (ua (Aa ?_)))
  refine Ap ?_
  obtain ⟨dr, fp⟩ := A1 iq
  refine Bh (fun ei e1 F1 L1 => ∃ (s_ : Int), Dc from_ (Al.length : Int) s_ ei ∧ ∃ (bu : List Int) (bg : Bool) (bz : Option Addr) (ca : Nat), DB l many Ad Ab Al Ak Az hour Ba Bp cf ei s_ bu bg = some (r, r2, r3) ∧ A3 F F1 ∧ L1 = [(ak, ce #[.slice bz bu.length ca] 33), (af, ce #[.bool bg] 4)] ∧ e1.sub [(0, .slice Hp l.length Hl), (2, .int .i64 many), (3, .pointer (some ⟨Il, 0, none⟩)), (9, .pointer (some ⟨au, 0, none⟩)), (18, .int .i64 s_)] ∧ Av 1 (iE .i64) F1 bz ca bu) _ (m0 kr ⟨_, Dc.start _ _, out, found, az, ba, fp, A3.refl _, rfl, z5, aq⟩) ?_
  rintro ei e1 js _ ⟨s_, bq, bu, bg, bz, ca, cp, aw, rfl, dt, bw⟩
  refine AB _ dt ?_
  replace bm := bm.mono (Ac _) aw
  replace aj := aj.mono (Ar (Ar (Ac _))) aw
  replace ab := ab.mono (Ac _) aw
  replace ao := ao.mono (Au (Ac _) (Au (Ac _) (Ac _))) aw
  replace ae := ae.mono (Ac _) aw
  replace bh := aw _ _ bh
  replace al := aw _ _ al
  replace aa := aw _ _ aa
  replace ad := aw _ _ ad
  replace ar := aw _ _ ar
  refine As (AN (um ?_))
  refine uv (Ae G4 rfl) (uv (An isAgg97 rfl (Has.frozen bh) rfl) (uv (A7 underlying97 rfl) (uv (Bb rfl rfl) (Aa ?_))))
  refine cQ (fun cb => ?_) fun cb => ?_
  ·obtain ⟨ei, rfl, du⟩ := Dc.succ bq cb
   rw [DB] at cp
   refine Aq (As ?_)
   refine Ap (As (Dp [(.still, 0), (.still, 1), (.still, 3), (.pre, 4), (.still, 6), (.still, 7), (.still, 8), (.still, 9), (.seq, 2), (.alloc (ce #[.int .i64 s_] 3) (fun b => .slice (some ⟨b, 0, none⟩) 1 1) [(73, .int .i64 s_)], 4), (.seq, 5), (.seq, 10)] (by kernel_rfl) (by kernel_rfl) (⟨⟨_, _, rfl, rfl, rfl, rfl, rfl, Pk rfl (Ie Cm [.int .i64 s_] rfl (by decide) (by simp [Value.cells]) (by decide))⟩, trivial⟩) (by rfl) (by kernel_rfl) (mL [9] ([]) rfl sm (fun H F' L' cg cj => An isAgg245 rfl ((Has.frozen ar).ext cg cj) rfl) (mS [0] rfl (Bw rfl) (mS [18] rfl (Bw rfl) ?_)))))
   refine ⟨⟨_, rfl, z1, by kernel_rfl⟩, ?_⟩
   refine mS [18] rfl (Bw rfl) (mS (v := .int .i64 (s_ + 1)) [76] rfl (Bd rfl rfl (Dc.Eg bq cb dr)) (mS [2] rfl (Bw rfl) ?_))
   obtain ⟨fq, ft⟩ := A1 cp
   refine mS (v := .int .i64 (many - 1)) [78] rfl (Fa rfl rfl fq) ?_
   refine ⟨_, [(71, .slice Hp l.length Hl)], rfl, rfl, z1, by kernel_rfl, ?_⟩; intro H
   obtain ⟨l6, fv, fw⟩ := AG ft
   refine c0 call110 (He bm fv) ?_; rintro _ jt _ ax dv ⟨fx, fy, ga, dw, rfl, rfl, cd⟩
   replace aj := aj.mono (Ar (Ar (Ac _))) ax
   replace ab := ab.mono (Ac _) ax
   replace ao := ao.mono (Au (Ac _) (Au (Ac _) (Ac _))) ax
   replace ae := ae.mono (Ac _) ax
   replace bw := bw.mono (Ac _) ax
   replace bh := ax _ _ bh
   replace al := ax _ _ al
   replace aa := ax _ _ aa
   replace ad := ax _ _ ad
   replace ar := ax _ _ ar
   replace cd := cd.new fun p hp => dv p (by simp [hp])
   refine AI (lp (ln rfl)) (kO (kf (fS fO) (kf (fS fO) kr)) ?_)
   refine Aa ⟨_, rfl, ax, [9, 8, 7, 6, 3, 0], by kernel_rfl, .inl (.inr (fun d h => by cases h; rfl)), (fc sm (fc sm (fc sm (fc sm (fc sm (fc sm nm)))))), ?_⟩
   refine SD rfl ?_; intro dx ir
   refine U4 (L' := (dx, ce #[.int .i64 s_] 3) :: ((ak, ce #[.slice bz bu.length ca] 33) :: ((af, ce #[.bool bg] 4) :: (dw ++ [])))) rfl ?_
   refine ⟨_, [(72, .slice fx fy ga), (74, .slice (some ⟨dx, 0, none⟩) 1 1)], rfl, rfl, z2, by kernel_rfl, ?_⟩; intro H
   obtain ⟨l7, gb, gg, gh⟩ := GM fw
   refine Fm (xs := l6) (ys := [s_]) (zs := l7) rfl Cm rfl rfl (Nat.le_refl _) (fun _ => .c (.c (.c .h))) cd (H2.box (vss := [[.int .i64 s_]]) (ys := [s_]) 0 rfl (Ac _) (.cons rfl .nil) rfl rfl) gb gg (by decide) ?_; intro gk gl gm iu ct
   refine kO (kd kr) ?_
   refine Aa ⟨_, rfl, A3.refl _, [9, 8, 7, 6, 0], by kernel_rfl, .inl (.inr (fun d h => by cases h; rfl)), (fc sm (fc sm (fc sm (fc sm (fc sm nm))))), ?_⟩
   refine ⟨_, [(70, .func (.func 104) #[] #[.pointer (some ⟨Il, 0, none⟩), .pointer (some ⟨av, 0, none⟩), .pointer (some ⟨ah, 0, none⟩), .pointer (some ⟨ai, 0, none⟩), .pointer (some ⟨ak, 0, none⟩), .pointer (some ⟨af, 0, none⟩), .pointer (some ⟨au, 0, none⟩)]), (75, .slice gk gl gm), (77, .int .i64 (s_ + 1)), (79, .int .i64 (many - 1))], rfl, rfl, z4, by kernel_rfl, ?_⟩; intro H
   obtain rfl := (Be.Eu ct).1
   refine C1 (Nat.le_refl _) (Ac _) (fC (fC fP)) ct ?_; intro ju ay gn
   replace aj := aj.mono (Ar (Ar (Ac _))) ay
   replace ab := ab.mono (Ac _) ay
   replace ao := ao.mono (Au (Ac _) (Au (Ac _) (Ac _))) ay
   replace ae := ae.mono (Ac _) ay
   replace bw := bw.mono (Ac _) ay
   replace bh := ay _ _ bh
   replace al := ay _ _ al
   replace aa := ay _ _ aa
   replace ad := ay _ _ ad
   replace ar := ay _ _ ar
   obtain ⟨ok, gp, dh, gq, dy⟩ := E5 gh
   refine cG call104 (ej gn bh aj ab ao al aa ad ae bw ar gq) ?_; rintro _ jv _ cu iv iw ⟨gr, gu, rfl, rfl, dz⟩
   refine AI (lb (lb (ln rfl))) ?_
   refine Aa ⟨_, rfl, (ay.trans cu), [], by kernel_rfl, .inl (.inl rfl), nm, ?_⟩
   refine Ff ?_
   refine A5 rfl (fun di => ?_) (fun di => ?_)
   ·have gv := bt dy di
    refine AN (ua (Aa (Ao (AA (Ah (Ah (AA (Ah ?_))))))))
    refine BU results104 ?_
    obtain ⟨rfl, rfl, rfl⟩ := Kf gv
    exact ⟨_, _, rfl, rfl, dz⟩
   have gw := bf dy di
   refine Aq (AD (id := 3) (Am (um ?_)))
   refine uv (Bd rfl rfl (Dc.Eg bq cb dr)) ?_
   refine ua (Aa ?_)
   exact le kr ⟨_, du, gp, dh, gr, gu, gw, (((aw.trans ax).trans ay).trans cu), rfl, z5, dz⟩
  obtain rfl := Dc.zero bq cb
  rw [DB] at cp
  refine AT (Af (Af ?_))
  refine Ay ?_
  exact mi kr ⟨bu, bg, bz, ca, cp, aw, rfl, (sn _), bw⟩
 rintro e1 jw _ ⟨BD, bo, df, dg, eb, iy, rfl, ec, gz⟩
 refine AB _ ec ?_
 rw [JO] at eb
 refine AN (ua (Aa (Ao ?_)))
 refine BU results104 ?_
 obtain ⟨rfl, rfl, rfl⟩ := Kf eb
 exact ⟨_, _, rfl, rfl, gz⟩
set_option maxHeartbeats 1000000 in
theorem QP : ∀ (fu : Nat) {Hp : Option Addr} {Hl : Nat} {l : List Int} {from_ many : Int} {Il : Nat} {Ad Ab : Int} {Aw : Option Addr} {Ax : Nat} {Al : List (List (List Int))} {AF : Option Addr} {AE : Nat} {Ak : List Int} {AR : Option Addr} {AQ : Nat} {Az : List (Int × Int × Int)} {ar : Nat × Nat} {ae : Nat} {hour : Int} {ak : Nat × Nat} {ab : Nat} {Ba : Int} {ai : Nat × Nat} {ad : Nat} {Fb : Option Addr} {Fh : Nat} {Bp : List Int} {aj : Nat × Nat} {ah : Nat} {ao : Option Addr} {aq : Nat} {out : List Int} {aa : Nat} {found : Bool} {af : Nat} {al : Nat × Nat} {F : FS} (_ : Av 1 (iE .i64) F Hp Hl l) (_ : F Il = some (.cells #[.int .i64 Ad, .int .i64 Ab, .slice Aw Al.length Ax, .slice AF Ak.length AE, .slice AR Az.length AQ] 100 ar)) (_ : Av 1 (BK 1 (BK 1 (iE .i64))) F Aw Ax Al) (_ : Av 1 (iE .i64) F AF AE Ak) (_ : Av 3 (Br (iE .i64) (Br (iE .i64) (iE .i64))) F AR AQ Az) (_ : F ae = some (.cells #[.int .i64 hour] 3 ak)) (_ : F ab = some (.cells #[.int .i64 Ba] 3 ai)) (_ : F ad = some (.cells #[.slice Fb Bp.length Fh] 33 aj)) (_ : Av 1 (iE .i64) F Fb Fh Bp) (_ : Av 1 (iE .i64) F ao aq out) (_ : F af = some (.cells (#[.func (.func 104) #[] #[.pointer (some ⟨Il, 0, none⟩), .pointer (some ⟨ae, 0, none⟩), .pointer (some ⟨ab, 0, none⟩), .pointer (some ⟨ad, 0, none⟩), .pointer (some ⟨ah, 0, none⟩), .pointer (some ⟨aa, 0, none⟩), .pointer (some ⟨af, 0, none⟩)]]) 245 al)) {r : Bool} {r2 : List Int} {r3 : Bool} , DI fu l from_ many Ad Ab Al Ak Az hour Ba Bp out found = some (r, r2, r3) → SH.Spec Tryz.prog 104 #[.slice Hp l.length Hl, .int .i64 from_, .int .i64 many, .pointer (some ⟨Il, 0, none⟩), .pointer (some ⟨ae, 0, none⟩), .pointer (some ⟨ab, 0, none⟩), .pointer (some ⟨ad, 0, none⟩), .pointer (some ⟨ah, 0, none⟩), .pointer (some ⟨aa, 0, none⟩), .pointer (some ⟨af, 0, none⟩)] F [(ah, ce #[.slice ao out.length aq] 33), (aa, ce #[.bool found] 4)] fun F' L' v => ∃ (au : Option Addr) (av : Nat), v = .bool r ∧ L' = [(ah, ce #[.slice au r2.length av] 33), (aa, ce #[.bool r3] 4)] ∧ Av 1 (iE .i64) F' au av r2 := by
  intro fu
  induction fu with
  | zero => intros; rename_i hr; rw [DI] at hr; cases hr
  | succ fu ih => intros; rename_i hr; rw [DI] at hr; exact Qr ih (by assumption) (by assumption) (by assumption) (by assumption) (by assumption) (by assumption) (by assumption) (by assumption) (by assumption) (by assumption) (by assumption) hr
set_option maxHeartbeats 1000000 in
theorem Sc (ad : Av 1 (BK 1 (BK 1 (iE .i64))) F Aw Ax Al) (aa : Av 1 (iE .i64) F AF AE Ak) (ae : Av 3 (Br (iE .i64) (Br (iE .i64) (iE .i64))) F AR AQ Az) (ab : Av 1 (iE .i64) F Fb Fh Bp) {r : List Int} {r2 : Int} (hr : KM Ad Ab Al Ak Az Ba hour Bp = some (r, r2)) :
    SH.Spec Tryz.prog 36 #[.agg #[.int .i64 Ad, .int .i64 Ab, .slice Aw Al.length Ax, .slice AF Ak.length AE, .slice AR Az.length AQ], .int .i64 Ba, .int .i64 hour, .slice Fb Bp.length Fh] F [] fun F' L' v => ∃ (ra : Option Addr) (rc : Nat), v = .tuple #[.slice ra r.length rc, .int .i64 r2] ∧ L' = [] ∧ Av 1 (iE .i64) F' ra rc r := by
 refine sp func36 ntmps36 fun K _ _ => ?_
 rw [KM] at hr
 refine AN ?_
 refine Bt rfl rfl ?_; intro b1 cx
 refine Bt rfl rfl ?_; intro b2 cy
 refine Bt rfl rfl ?_; intro b3 cz
 refine Bt rfl rfl ?_; intro b4 da
 refine ua (ua (Aa ?_))
 refine Vy ?_
 refine As (AN ?_)
 refine uv (AS isAgg100 sizeOf100 rfl (Has.own 3 rfl) (CK rfl) rfl) ?_
 obtain ⟨n, h5, r6⟩ := AG hr
 refine cV call100 (Mp ad aa ae h5) ?_
 refine ua (BX (um ?_))
 refine uv (B7 rfl rfl) (Aa ?_)
 refine cQ (fun c7 => ?_) fun c7 => ?_
 ·have r8 := Bf r6 c7
  refine AN (um (ua (ua (Aa ?_))))
  refine kW kn ?_
  refine Ao (Ah (noGoto_ret ?_))
  refine CT results36 (A6 rfl) (A6 rfl) (sr) ?_
  obtain ⟨rfl, rfl⟩ := D2 r8
  exact ⟨_, _, rfl, rfl, Av.nil _ _ _⟩
 have r9 := Bg r6 c7
 refine Aq (As ?_)
 obtain ⟨k, db, bm⟩ := AG r9
 refine jE ([(b4, ce #[.slice Fb Bp.length Fh] 33), (b3, ce #[.int .i64 hour] 3), (b2, ce #[.int .i64 Ba] 3), (b1, ce #[.int .i64 Ad, .int .i64 Ab, .slice Aw Al.length Ax, .slice AF Ak.length AE, .slice AR Az.length AQ] 100)]) [(4, .pointer (some ⟨b1, 0, none⟩)), (5, .pointer (some ⟨b2, 0, none⟩)), (6, .pointer (some ⟨b3, 0, none⟩)), (7, .pointer (some ⟨b4, 0, none⟩)), (33, .bool k)] ?_ ?_
 ·clear bm
  refine Am (uv (AS isAgg100 sizeOf100 rfl (Has.own 3 rfl) (CK rfl) rfl) (uv (An isAgg3 rfl (Has.own 2 rfl) rfl) ?_))
  obtain ⟨ok, dd, cn⟩ := AG db
  refine cV call101 (I1 ad aa ae dd) (uv (BC rfl) (um ?_))
  rcases Co (!ok) with au | au
  ·have de := bt cn au
   refine fB au (fB au (fB au (fB au ?_)))
   refine uv (AW (Iy rfl au) rfl) (Aa ?_)
   obtain rfl := AL de
   exact mi kr ⟨rfl, rfl, z5⟩
  have df := bf cn au
  refine nB au (uv (AS isAgg100 sizeOf100 rfl (Has.own 3 rfl) (CK rfl) rfl) (nB au (uv (An isAgg3 rfl (Has.own 1 rfl) rfl) (nB au ?_))))
  obtain ⟨fa, dg, dh⟩ := AG df
  refine cV call102 (L9 ad aa ae dg) (nB au (uv (BC rfl) (uv (AH (Iy rfl au) rfl) (Aa ?_))))
  obtain rfl := AL dh
  exact mi kr ⟨rfl, rfl, z5⟩
 refine A5 rfl (fun bn => ?_) (fun bn => ?_)
 ·have di := bt bm bn
  refine AN (ua (ua (Aa ?_)))
  refine kW kn ?_
  refine Ao (Ah (noGoto_ret ?_))
  refine CT results36 (A6 rfl) (A6 rfl) (sr) ?_
  obtain ⟨rfl, rfl⟩ := D2 di
  exact ⟨_, _, rfl, rfl, Av.nil _ _ _⟩
 have dk := bf bm bn
 refine Aq (As (AN ?_))
 refine uv (AS isAgg100 sizeOf100 rfl (Has.own 3 rfl) (CK rfl) rfl) (uv (An isAgg33 rfl (Has.own 0 rfl) rfl) ?_)
 obtain ⟨n2, dm, cp⟩ := AG dk
 refine cV call103 (K8 ad aa ae ab dm) ?_
 refine ua (BX (um ?_))
 refine uv (B7 rfl rfl) (Aa ?_)
 refine cQ (fun bo => ?_) fun bo => ?_
 ·have dn := Bf cp bo
  refine AN (um (ua (ua (Aa ?_))))
  refine kW kn ?_
  refine Ao (Ah (noGoto_ret ?_))
  refine CT results36 (A6 rfl) (A6 rfl) (sr) ?_
  obtain ⟨rfl, rfl⟩ := D2 dn
  exact ⟨_, _, rfl, rfl, Av.nil _ _ _⟩
 have dp := Bg cp bo
 refine Aq (As (AN ?_))
 refine uv (AS isAgg100 sizeOf100 rfl (Has.own 3 rfl) (CK rfl) rfl) ?_
 obtain ⟨d, l, n3, dq, cq⟩ := E5 dp
 refine c0 call89 (Nd ad aa ae dq) ?_; rintro _ dr _ ax dt ⟨fb, fe, ff, fg, du, rfl, rfl, dv, dw⟩
 replace ad := ad.mono (Ar (Ar (Ac _))) ax
 replace aa := aa.mono (Ac _) ax
 replace ae := ae.mono (Au (Ac _) (Au (Ac _) (Ac _))) ax
 replace ab := ab.mono (Ac _) ax
 refine AI (lp (ln rfl)) (kO (kf (fS fO) (kf (fS fO) (kf (fS fO) (kf (fS fO) kr)))) ?_)
 refine um (ox rfl rfl rfl (ox rfl rfl rfl (ox rfl rfl rfl (ua (ua (ua (BX (um ?_))))))))
 refine uv (B7 rfl rfl) (Aa ?_)
 refine cQ (fun bp => ?_) fun bp => ?_
 ·have dx := Bf cq bp
  refine AN (um (ua (ua (Aa ?_))))
  refine kW kn ?_
  refine Ao (Ah (noGoto_ret ?_))
  refine CT results36 (A6 rfl) (A6 rfl) (sr) ?_
  obtain ⟨rfl, rfl⟩ := D2 dx
  exact ⟨_, _, rfl, rfl, Av.nil _ _ _⟩
 have dy := Bg cq bp
 refine Aq (AN ?_)
 refine Bo rfl zeroValue33 ?_; intro ay dz
 refine BX ?_
 refine Bo rfl zeroValue4 ?_; intro az eb
 refine Cv (i := 0) sizeOf4 rfl rfl rfl rfl (CK rfl) (AI rfl ?_)
 refine Aa (As ?_)
 refine Vs ?_
 obtain ⟨out, found, ec, bq⟩ := Es dy
 refine A0 (fun e1 F1 L1 => ∃ (br : Option Addr) (bu : Nat), A3 dr F1 ∧ L1 = [(ay, ce #[.slice br out.length bu] 33), (az, ce #[.bool found] 4)] ∧ e1.sub [(15, .pointer (some ⟨ay, 0, none⟩)), (16, .pointer (some ⟨az, 0, none⟩))] ∧ Av 1 (iE .i64) F1 br bu out) ?_ ?_
 ·clear bq
  refine AN (uv (Ae G4 rfl) (uv (An isAgg97 rfl (Has.own 5 rfl) rfl) (uv (A7 underlying97 rfl) ?_)))
  obtain ⟨eg, eh⟩ := A1 ec
  refine uv (Bd rfl rfl eg) ?_
  refine um (Aa ?_)
  refine Ap (kW (kc (kc (kc (kc (kc (kc kn)))))) ?_)
  refine Cs 5 rfl cx ?_; intro fh av af
  refine E7 (L' := [(az, ce #[.bool false] 4), (ay, ce #[.slice none 0 0] 33), (b4, ce #[.slice Fb Bp.length Fh] 33), (b3, ce #[.int .i64 hour] 3), (b2, ce #[.int .i64 Ba] 3)]) rfl ?_
  replace ad := ad.mono (Ar (Ar (Ac _))) av
  replace aa := aa.mono (Ac _) av
  replace ae := ae.mono (Au (Ac _) (Au (Ac _) (Ac _))) av
  replace ab := ab.mono (Ac _) av
  refine Cs 4 rfl cy ?_; intro fi aq aj
  refine E7 (L' := [(az, ce #[.bool false] 4), (ay, ce #[.slice none 0 0] 33), (b4, ce #[.slice Fb Bp.length Fh] 33), (b3, ce #[.int .i64 hour] 3)]) rfl ?_
  replace ad := ad.mono (Ar (Ar (Ac _))) aq
  replace aa := aa.mono (Ac _) aq
  replace ae := ae.mono (Au (Ac _) (Au (Ac _) (Ac _))) aq
  replace ab := ab.mono (Ac _) aq
  replace af := aq _ _ af
  refine Cs 3 rfl cz ?_; intro fj ao ar
  refine E7 (L' := [(az, ce #[.bool false] 4), (ay, ce #[.slice none 0 0] 33), (b4, ce #[.slice Fb Bp.length Fh] 33)]) rfl ?_
  replace ad := ad.mono (Ar (Ar (Ac _))) ao
  replace aa := aa.mono (Ac _) ao
  replace ae := ae.mono (Au (Ac _) (Au (Ac _) (Ac _))) ao
  replace ab := ab.mono (Ac _) ao
  replace af := ao _ _ af
  replace aj := ao _ _ aj
  refine Cs 2 rfl da ?_; intro ei ak aw
  refine E7 (L' := [(az, ce #[.bool false] 4), (ay, ce #[.slice none 0 0] 33)]) rfl ?_
  replace ad := ad.mono (Ar (Ar (Ac _))) ak
  replace aa := aa.mono (Ac _) ak
  replace ae := ae.mono (Au (Ac _) (Au (Ac _) (Ac _))) ak
  replace ab := ab.mono (Ac _) ak
  replace af := ak _ _ af
  replace aj := ak _ _ aj
  replace ar := ak _ _ ar
  obtain ⟨ej, en⟩ := A1 eh
  refine SF (fun bh e1 F1 L1 => ∃ (k2 : Int), Dc 0 ((Al.length : Int) + 1) k2 bh ∧ ∃ (BD : List Int) (al : Bool) (bc : Option Addr) (bd : Nat), Fx Ad Ab Al Ak Az Ba hour Bp bh k2 BD al = some (out, found) ∧ A3 ei F1 ∧ L1 = [(az, ce #[.bool al] 4), (ay, ce #[.slice bc BD.length bd] 33)] ∧ e1.sub [(4, .pointer (some ⟨b1, 0, none⟩)), (5, .pointer (some ⟨b2, 0, none⟩)), (6, .pointer (some ⟨b3, 0, none⟩)), (7, .pointer (some ⟨b4, 0, none⟩)), (15, .pointer (some ⟨ay, 0, none⟩)), (16, .pointer (some ⟨az, 0, none⟩)), (52, .int .i64 ((Al.length : Int) + 1)), (53, .int .i64 k2)] ∧ Av 1 (iE .i64) F1 bc bd BD) _ (m0 kr ⟨_, Dc.start _ _, [], false, none, 0, en, A3.refl _, rfl, z8, Av.nil _ _ _⟩) ?_
  rintro bh e1 fk _ ⟨k2, ba, BD, al, bc, bd, bj, ah, rfl, bw, bk⟩
  refine AB _ bw ?_
  replace ad := ad.mono (Ar (Ar (Ac _))) ah
  replace aa := aa.mono (Ac _) ah
  replace ae := ae.mono (Au (Ac _) (Au (Ac _) (Ac _))) ah
  replace ab := ab.mono (Ac _) ah
  replace af := ah _ _ af
  replace aj := ah _ _ aj
  replace ar := ah _ _ ar
  replace aw := ah _ _ aw
  refine AN (uv (Bb rfl rfl) ?_)
  refine Aa (As ?_)
  refine cQ (fun bl => ?_) fun bl => ?_
  ·obtain ⟨bh, rfl, bx⟩ := Dc.succ ba bl
   rw [Fx] at bj
   refine Aq (As ?_)
   refine Ap ?_
   refine AN (um (ua (BX ?_)))
   refine Bo rfl zeroValue245 ?_; intro fl bz
   refine BX (uv (BP rfl rfl) (Cv (i := 0) sizeOf245 rfl rfl rfl rfl (CK rfl) (AI rfl (BX (uv (An isAgg245 rfl (Has.own 0 rfl) rfl) (um ?_))))))
   refine Bi 0 rfl bz ?_; intro fm ai ca
   refine AI rfl ?_
   replace ad := ad.mono (Ar (Ar (Ac _))) ai
   replace aa := aa.mono (Ac _) ai
   replace ae := ae.mono (Au (Ac _) (Au (Ac _) (Ac _))) ai
   replace ab := ab.mono (Ac _) ai
   replace bk := bk.mono (Ac _) ai
   replace af := ai _ _ af
   replace aj := ai _ _ aj
   replace ar := ai _ _ ar
   replace aw := ai _ _ aw
   obtain ⟨fo, cb, bb, eo, ct⟩ := E5 bj
   refine Jw (Lb := [(ay, ce #[.slice bc BD.length bd] 33), (az, ce #[.bool al] 4)]) (Lr := []) rfl call104 rfl rfl rfl (((fC fO).trans (pC pR))) ((QP FU) (Av.nil _ _ _) af ad aa ae ar aj aw ab bk ca eo) ?_; rintro _ fp _ bg ep er ⟨cu, cv, rfl, rfl, cw⟩
   refine AI (lb (lb (ln rfl))) (Aa ?_)
   refine A5 rfl (fun cd => ?_) (fun cd => ?_)
   ·have eu := bt ct cd
    refine AT (RM rfl ?_)
    refine Af (Af ?_)
    refine Ay ?_
    obtain ⟨rfl, rfl⟩ := D2 eu
    exact mi kr ⟨cu, cv, ((((((av.trans aq).trans ao).trans ak).trans ah).trans ai).trans bg), rfl, z2, cw⟩
   have ew := bf ct cd
   refine Aq (AD (id := 1) (Am ?_))
   refine uv (Bd rfl rfl (Dc.Eg ba bl ej)) ?_
   refine um (Aa ?_)
   refine lf ?_
   exact mf (kf (fC fO) kr) ⟨_, bx, cb, bb, cu, cv, ew, ((ah.trans ai).trans bg), rfl, z8, cw⟩
  obtain rfl := Dc.zero ba bl
  rw [Fx] at bj
  refine AT (Af (Af ?_))
  refine Ay ?_
  obtain ⟨rfl, rfl⟩ := D2 bj
  exact mi (kf (fC fO) kr) ⟨bc, bd, ((((av.trans aq).trans ao).trans ak).trans ah), rfl, z2, bk⟩
 rintro e1 fq _ ⟨br, bu, ey, rfl, cf, ez⟩
 refine AB _ cf ?_
 refine As (AN ?_)
 refine uv (An isAgg4 rfl (Has.own 1 rfl) rfl) (uv (BC rfl) (Aa ?_))
 refine A5 rfl (fun cg => ?_) (fun cg => ?_)
 ·have cj := bt bq cg
  refine AN (ua (ua (Aa ?_)))
  refine kW kn ?_
  refine Ao (Ah (noGoto_ret ?_))
  refine CT results36 (A6 rfl) (A6 rfl) (sr) ?_
  obtain ⟨rfl, rfl⟩ := D2 cj
  exact ⟨_, _, rfl, rfl, Av.nil _ _ _⟩
 have ck := bf bq cg
 refine Aq (AN ?_)
 refine uv (An isAgg33 rfl (Has.own 0 rfl) rfl) ?_
 refine ua (ua (Aa ?_))
 refine kW kn ?_
 refine Ao (noGoto_ret ?_)
 refine CT results36 (A6 rfl) (A6 rfl) (sr) ?_
 obtain ⟨rfl, rfl⟩ := D2 ck
 exact ⟨_, _, rfl, rfl, ez⟩
theorem KH {l : List Int} (ab : Av 1 (iE .i64) F Hp Hl l) {r : List Int} (hr : FC l = some r) :
    SH.Spec Tryz.prog 112 #[.slice Hp l.length Hl] F [] fun F' L' v => ∃ (ra : Option Addr) (rn : Nat) (rc : Nat) (rL : LH), v = .slice ra rn rc ∧ L' = rL ++ [] ∧ Be 0 3 1 (iE .i64) F' ra rn rc r rL := by
 refine sp func112 ntmps112 fun K _ _ => ?_
 rw [FC] at hr
 refine AN (ua (BX (um ?_)))
 refine uv (A7 underlying33 rfl) ?_
 obtain ⟨g1, r2⟩ := A1 hr
 obtain ⟨l2, h3, r4⟩ := CH r2
 refine Mx (R := (iE .i64)) (z0 := 0) (zs := l2) rfl Cm (by decide) (Ac _) (fun _ => rfl) rfl g1 h3 (fun _ => .n) ?_; intro a5 n8 ai ad
 refine ua (BX (um (um ?_)))
 obtain ⟨out, ae, af⟩ := CH r4
 refine UD (ys := l) (zs := out) rfl Cm (Ac _) rfl rfl (fun _ => .h) ad (Av.src ab) ae ?_; intro ah aa
 refine BX (um (ua (Aa (Ao ?_))))
 refine BU results112 ?_
 obtain rfl := AL af
 exact ⟨_, _, _, _, rfl, rfl, aa.any⟩
set_option maxHeartbeats 1000000 in
theorem Mm {l : List (List Int)} (ak : Av 1 (BK 1 (iE .i64)) F Hp Hl l) {r : List (List Int)} (hr : ER l = some r) :
    SH.Spec Tryz.prog 111 #[.slice Hp l.length Hl] F [] fun F' L' v => ∃ (ra : Option Addr) (rn : Nat) (rc : Nat) (rL : LH), v = .slice ra rn rc ∧ L' = rL ++ [] ∧ JF 0 33 3 1 (iE .i64) F' ra rn rc r rL := by
 refine sp func111 ntmps111 fun K _ _ => ?_
 rw [ER] at hr
 refine AN (ua (BX (um ?_)))
 refine uv (A7 underlying36 rfl) ?_
 obtain ⟨g1, r2⟩ := A1 hr
 obtain ⟨l2, h3, r4⟩ := CH r2
 refine Mx (R := Tz) (z0 := (none, 0, 0)) (zs := List.replicate ((l.length : Int) : Int).toNat (none, 0, 0)) rfl LL (by decide) Jl (fun _ => rfl) rfl g1 rfl (fun _ => .n) ?_; intro a5 n8 bx cn
 have cp : JF K.w0.heap.size 33 3 1 (iE .i64) F a5 n8 n8 l2 bx := JF.made cn h3
 refine ua (Aa ?_)
 obtain ⟨out, cq, bz⟩ := AG r4
 refine A0 (fun e1 F1 L1 => ∃ (ad : LH), A3 F F1 ∧ L1 = (ad ++ []) ∧ e1.sub [(3, .slice a5 n8 n8)] ∧ JF K.w0.heap.size 33 3 1 (iE .i64) F1 a5 n8 n8 out ad) ?_ ?_
 ·clear bz
  refine AN (um ?_)
  refine uv (A7 underlying36 rfl) ?_
  refine um (Aa ?_)
  refine Ap ?_
  refine Bh (fun ca e1 F1 L1 => LA l ca fun tl k => ∃ (BD : List (List Int)) (aa : LH), Cb tl k BD = some out ∧ A3 F F1 ∧ L1 = (aa ++ []) ∧ e1.sub [(3, .slice a5 n8 n8), (9, .slice Hp l.length Hl), (10, .int .i64 (l.length : Int)), (11, .int .i64 k)] ∧ JF K.w0.heap.size 33 3 1 (iE .i64) F1 a5 n8 n8 BD aa) _ (m0 kr ⟨_, _, rfl, BL.start _, l2, bx, cq, A3.refl _, rfl, z4, cp⟩) ?_
  rintro ca e1 dm _ ⟨tl, k, av, ae, BD, aa, ar, af, rfl, aw, ab⟩
  refine AB _ aw ?_
  replace ak := ak.mono (Ar (Ac _)) af
  refine AN (uv (Bb rfl rfl) ?_)
  refine Aa (As ?_)
  refine cQ (fun au => ?_) fun au => ?_
  ·obtain ⟨x, dn, rfl, ax, cb, ay⟩ := BL.succ ae au
   rw [Cb] at ar
   refine Aq (As ?_)
   refine Ap ?_
   refine AN (um ?_)
   obtain ⟨dp, dq, dr, ct, az, ba, cd, ⟨dt, du, rfl, cu⟩, cv, bb⟩ := Av.at (Ar (Ac _)) ak (aa ++ []) cb.1 ax
   refine uv (AK underlying36 sizeOf33 rfl az rfl cb) (uv (An isAgg33 rfl ba (bb 0 (by decide))) ?_)
   refine ua (ua (Aa (Am (um (um (um ?_))))))
   obtain ⟨l3, cw, cx⟩ := AG ar
   refine c0 call112 (KH cu cw) ?_; rintro _ cy _ ah bc ⟨cf, cg, cj, bd, rfl, rfl, ai⟩
   replace ak := ak.mono (Ar (Ac _)) ah
   replace ab := ab.mono (Ac _) ah
   replace ai := ai.new fun p hp => bc p (by simp [hp])
   refine AI (lp (ln rfl)) ?_
   obtain ⟨x2, bg, bh, cz⟩ := Bx cx
   have al := (JF.Eu ab).1
   refine Re (fS fP) ab bh ?_; intro bj bk bl dv dw dx bm bn aj da bo
   obtain ⟨dy, dz, eb, db, ao, dd, ck, rfl, de, df⟩ := Be.at Jl aj (L := bk ++ (bm ++ (bl ++ (bd ++ [])))) fP bg.1 bn
   refine uv (AK underlying36 sizeOf33 rfl ao rfl (V8 al bg)) ?_
   refine Gp (zs := bj.set (k : Int).toNat (cf, cg, cj)) (u := (cf, cg, cj)) sizeOf33 Jl rfl ao rfl rfl (fun _ => .h) aj rfl (Yn al aj bg) ?_; intro dg bp
   refine kO (ka (kx kr)) ?_
   obtain ⟨aq, dh, di⟩ := CH cz
   refine QN (p := fun X => JF K.w0.heap.size 33 3 1 (iE .i64) cy a5 n8 n8 aq X) (S5.back bo bp ai dh) (pT (pA ((fS fP).trans (pA pR))) (lp (lp (lp (ln rfl))))) ?_; intro bq br
   refine Aa (AD (id := 1) (Am ?_))
   refine uv (Bd rfl rfl (BL.Eg ae au (Av.lt ak))) ?_
   refine um (Aa ?_)
   subst av; exact le kr ⟨_, _, rfl, ay, aq, bq, di, (af.trans ah), rfl, z4, br⟩
  obtain rfl := BL.zero ae au
  rw [Cb] at ar
  refine AT (Af (Af ?_))
  refine Ay ?_
  obtain rfl := AL ar
  exact mi kr ⟨aa, af, rfl, z1, ab⟩
 rintro e1 ec _ ⟨ad, dk, rfl, bu, bw⟩
 refine AB _ bu ?_
 refine AN (um (ua (Aa (Ao ?_))))
 refine BU results111 ?_
 obtain rfl := AL bz
 exact ⟨_, _, _, _, rfl, rfl, bw.any⟩
theorem Oq {l : List (Int × Int × Int)} (ab : Av 3 (Br (iE .i64) (Br (iE .i64) (iE .i64))) F Hp Hl l) {r : List (Int × Int × Int)} (hr : GY l = some r) :
    SH.Spec Tryz.prog 113 #[.slice Hp l.length Hl] F [] fun F' L' v => ∃ (ra : Option Addr) (rn : Nat) (rc : Nat) (rL : LH), v = .slice ra rn rc ∧ L' = rL ++ [] ∧ Be 0 132 3 (Br (iE .i64) (Br (iE .i64) (iE .i64))) F' ra rn rc r rL := by
 refine sp func113 ntmps113 fun K _ _ => ?_
 rw [GY] at hr
 refine AN (ua (BX (um ?_)))
 refine uv (A7 underlying98 rfl) ?_
 obtain ⟨g1, r2⟩ := A1 hr
 obtain ⟨l2, h3, r4⟩ := CH r2
 refine Mx (R := (Br (iE .i64) (Br (iE .i64) (iE .i64)))) (z0 := (0, 0, 0)) (zs := l2) rfl KU (by decide) (Au (Ac _) (Au (Ac _) (Ac _))) (fun _ => ⟨_, _, rfl, rfl, ⟨_, _, rfl, rfl, rfl⟩⟩) rfl g1 h3 (fun _ => .n) ?_; intro a5 n8 ai ad
 refine ua (BX (um (um ?_)))
 obtain ⟨out, ae, af⟩ := CH r4
 refine UD (ys := l) (zs := out) rfl KU (Au (Ac _) (Au (Ac _) (Ac _))) rfl rfl (fun _ => .h) ad (Av.src ab) ae ?_; intro ah aa
 refine BX (um (ua (Aa (Ao ?_))))
 refine BU results113 ?_
 obtain rfl := AL af
 exact ⟨_, _, _, _, rfl, rfl, aa.any⟩
set_option maxHeartbeats 1000000 in
theorem Qs (aa : Av 1 (BK 1 (BK 1 (iE .i64))) F Aw Ax Al) (ab : Av 1 (iE .i64) F AF AE Ak) (ad : Av 3 (Br (iE .i64) (Br (iE .i64) (iE .i64))) F AR AQ Az) {r r2 : Int} {r3 : List (List (List Int))} {r4 : List Int} {r5 : List (Int × Int × Int)} (hr : IM Ad Ab Al Ak Az = some (r, r2, r3, r4, r5)) :
    SH.Spec Tryz.prog 37 #[.agg #[.int .i64 Ad, .int .i64 Ab, .slice Aw Al.length Ax, .slice AF Ak.length AE, .slice AR Az.length AQ]] F [] fun F' L' v => ∃ (cn : Option Addr) (cp : Nat) (cq : Nat) (ct : LH) (cu : Option Addr) (cv : Nat) (cw : Nat) (cx : LH) (cy : Option Addr) (cz : Nat) (da : Nat) (db : LH), v = .agg #[.int .i64 r, .int .i64 r2, .slice cn cp cq, .slice cu cv cw, .slice cy cz da] ∧ L' = ct ++ (cx ++ (db ++ [])) ∧ Be 0 36 1 (BK 1 (BK 1 (iE .i64))) F' cn cp cq r3 ct ∧ Be 0 3 1 (iE .i64) F' cu cv cw r4 cx ∧ Be 0 132 3 (Br (iE .i64) (Br (iE .i64) (iE .i64))) F' cy cz da r5 db := by
 refine sp func37 ntmps37 fun K _ _ => ?_
 rw [IM] at hr
 refine AN ?_
 refine Bt rfl rfl ?_; intro b1 ew
 refine Bo rfl zeroValue100 ?_; intro b2 ey
 refine BX (uv (Ae G4 rfl) (uv (An isAgg97 rfl (Has.own 1 rfl) rfl) (uv (A7 underlying97 rfl) ?_)))
 obtain ⟨g3, r6⟩ := A1 hr
 obtain ⟨l, h7, r8⟩ := CH r6
 refine Mx (R := (BK 1 (BK 1 (iE .i64)))) (z0 := []) (zs := l) rfl SO (by decide) (Ar (Ar (Ac _))) (fun _ => ⟨_, _, rfl, Av.nil _ _ _⟩) rfl g3 h7 (fun _ => .c (.c .n)) ?_; intro a9 ai bj bk
 refine ua (Aa ?_)
 obtain ⟨aj, dr, dd⟩ := AG r8
 refine A0 (fun e1 F1 L1 => ∃ (ar : LH), A3 F F1 ∧ L1 = ((b2, ce #[.int .i64 0, .int .i64 0, .slice none 0 0, .slice none 0 0, .slice none 0 0] 100) :: ((b1, ce #[.int .i64 Ad, .int .i64 Ab, .slice Aw Al.length Ax, .slice AF Ak.length AE, .slice AR Az.length AQ] 100) :: (ar ++ []))) ∧ e1.sub [(1, .pointer (some ⟨b1, 0, none⟩)), (2, .pointer (some ⟨b2, 0, none⟩)), (3, .slice a9 ai ai)] ∧ Be K.w0.heap.size 36 1 (BK 1 (BK 1 (iE .i64))) F1 a9 ai ai aj ar) ?_ ?_
 ·clear dd
  refine AN (uv (Ae G4 rfl) (uv (An isAgg97 rfl (Has.own 1 rfl) rfl) (uv (A7 underlying97 rfl) ?_)))
  refine um (Aa ?_)
  refine Ap ?_
  refine Bh (fun de e1 F1 L1 => LA Al de fun tl k => ∃ (af : List (List (List Int))) (ah : LH), DF tl k af = some aj ∧ A3 F F1 ∧ L1 = ((b2, ce #[.int .i64 0, .int .i64 0, .slice none 0 0, .slice none 0 0, .slice none 0 0] 100) :: ((b1, ce #[.int .i64 Ad, .int .i64 Ab, .slice Aw Al.length Ax, .slice AF Ak.length AE, .slice AR Az.length AQ] 100) :: (ah ++ []))) ∧ e1.sub [(1, .pointer (some ⟨b1, 0, none⟩)), (2, .pointer (some ⟨b2, 0, none⟩)), (3, .slice a9 ai ai), (11, .slice Aw Al.length Ax), (12, .int .i64 (Al.length : Int)), (13, .int .i64 k)] ∧ Be K.w0.heap.size 36 1 (BK 1 (BK 1 (iE .i64))) F1 a9 ai ai af ah) _ (m0 kr ⟨_, _, rfl, BL.start _, l, bj, dr, A3.refl _, rfl, z6, bk⟩) ?_
  rintro de e1 ez _ ⟨tl, k, bl, au, af, ah, bg, av, rfl, bm, ae⟩
  refine AB _ bm ?_
  replace aa := aa.mono (Ar (Ar (Ac _))) av
  refine AN (uv (Bb rfl rfl) ?_)
  refine Aa (As ?_)
  refine cQ (fun bh => ?_) fun bh => ?_
  ·obtain ⟨x, fa, rfl, bn, df, bo⟩ := BL.succ au bh
   rw [DF] at bg
   refine Aq (As ?_)
   refine Ap ?_
   refine AN (um ?_)
   obtain ⟨fb, fe, ff, dt, bp, bq, dg, ⟨fg, fh, rfl, du⟩, dv, br⟩ := Av.at (Ar (Ar (Ac _))) aa ((b2, ce #[.int .i64 0, .int .i64 0, .slice none 0 0, .slice none 0 0, .slice none 0 0] 100) :: ((b1, ce #[.int .i64 Ad, .int .i64 Ab, .slice Aw Al.length Ax, .slice AF Ak.length AE, .slice AR Az.length AQ] 100) :: (ah ++ []))) df.1 bn
   refine uv (AK underlying97 sizeOf36 rfl bp rfl df) (uv (An isAgg36 rfl bq (br 0 (by decide))) ?_)
   refine ua (ua (Aa (Am (um (um (um ?_))))))
   obtain ⟨l2, dw, dx⟩ := AG bg
   refine c0 call111 (Mm du dw) ?_; rintro _ fi _ aw bu ⟨fj, fk, fl, bw, rfl, rfl, aq⟩
   replace aa := aa.mono (Ar (Ar (Ac _))) aw
   replace ae := ae.mono (Ar (Ar (Ac _))) aw
   replace aq := aq.new fun p hp => bu p (by simp [hp])
   refine AI (lp (ln rfl)) (kO (kf (fS fO) (kf (fS fO) kr)) ?_)
   obtain ⟨x2, bx, bz, dy⟩ := Bx dx
   obtain ⟨fm, fo, fp, dz, bb, eb, dh, ⟨fq, ft, rfl, fv⟩, ec, eg⟩ := Be.at (Ar (Ar (Ac _))) ae (L := (b2, ce #[.int .i64 0, .int .i64 0, .slice none 0 0, .slice none 0 0, .slice none 0 0] 100) :: ((b1, ce #[.int .i64 Ad, .int .i64 Ab, .slice Aw Al.length Ax, .slice AF Ak.length AE, .slice AR Az.length AQ] 100) :: (bw ++ (ah ++ [])))) (fC (fC (fS fP))) bx.1 bz
   refine uv (AK underlying97 sizeOf36 rfl bb rfl (Be.idx ae bx)) ?_
   obtain rfl := (JF.Eu aq).1
   refine Tb (Nat.le_refl _) (Ac _) (fC (fC fP)) aq ?_; intro fw ax eh
   replace aa := aa.mono (Ar (Ar (Ac _))) ax
   replace ae := ae.mono (Ar (Ar (Ac _))) ax
   obtain ⟨ay, ei, ej⟩ := CH dy
   refine Gp (u := l2) sizeOf36 (Ar (Ar (Ac _))) rfl bb rfl ⟨_, _, rfl, eh⟩ (fun _ => .c (.c .h)) ae ei bx ?_; intro ca cb
   refine Aa (AD (id := 1) (Am ?_))
   refine uv (Bd rfl rfl (BL.Eg au bh (Av.lt aa))) ?_
   refine um (Aa ?_)
   subst bl; exact le kr ⟨_, _, rfl, bo, ay, ca, ej, ((av.trans aw).trans ax), rfl, z6, cb⟩
  obtain rfl := BL.zero au bh
  rw [DF] at bg
  refine AT (Af (Af ?_))
  refine Ay ?_
  obtain rfl := AL bg
  exact mi kr ⟨ah, av, rfl, z3, ae⟩
 rintro e1 fx _ ⟨ar, bc, rfl, cd, ak⟩
 refine AB _ cd ?_
 replace ab := ab.mono (Ac _) bc
 replace ad := ad.mono (Au (Ac _) (Au (Ac _) (Ac _))) bc
 refine As (Dp [(.still, 0), (.still, 1), (.still, 2), (.still, 4), (.still, 5), (.still, 7), (.seq, 3), (.seq, 6), (.seq, 8), (.still, 9), (.seq, 10), (.still, 11), (.seq, 12)] (by kernel_rfl) (by kernel_rfl) (trivial) (by rfl) (by kernel_rfl) (mS [3] rfl (Bw rfl) (mS [1] rfl (Ae Hw rfl) (mL [25] ([(b1, ce #[.int .i64 Ad, .int .i64 Ab, .slice Aw Al.length Ax, .slice AF Ak.length AE, .slice AR Az.length AQ] 100)]) rfl (s0 (s1 (s2 (s3 sr)))) (fun H F' L' cf cg => An isAgg33 rfl ((Has.own 0 rfl).ext cf cg) rfl) (mS [1] rfl (Ae GS rfl) (mL [28] ([(b1, ce #[.int .i64 Ad, .int .i64 Ab, .slice Aw Al.length Ax, .slice AF Ak.length AE, .slice AR Az.length AQ] 100)]) rfl (s0 (s1 (s2 (s3 sr)))) (fun H F' L' cf cg => An isAgg98 rfl ((Has.own 0 rfl).ext cf cg) rfl) (mS [1] rfl (Ae G4 rfl) ?_)))))))
 refine ⟨_, [(26, .slice AF Ak.length AE)], rfl, rfl, z1, by kernel_rfl, ?_⟩; intro H
 obtain ⟨l3, en, eo⟩ := AG dd
 refine c0 call112 (KH ab en) ?_; rintro _ fy _ az cj ⟨di, dk, dm, ep, rfl, rfl, al⟩
 replace ad := ad.mono (Au (Ac _) (Au (Ac _) (Ac _))) az
 replace ak := ak.mono (Ar (Ar (Ac _))) az
 replace al := al.new fun p hp => cj p (by simp [hp])
 refine AI (lp (ln rfl)) (kO (kf (fS fO) (kf (fS fO) kr)) ?_)
 refine Aa ⟨_, rfl, az, [7, 5, 4, 0], by kernel_rfl, .inl (.inr (fun d h => by cases h; rfl)), (fc sm (fc (s0 (s1 (s2 (s3 (s3 sr))))) (fc sm (fc sm nm)))), ?_⟩
 refine ⟨_, [(29, .slice AR Az.length AQ)], rfl, rfl, z1, by kernel_rfl, ?_⟩; intro H
 obtain ⟨l4, er, eu⟩ := AG eo
 refine c0 call113 (Oq ad er) ?_; rintro _ ga _ ba ck ⟨dn, bd, dp, dq, rfl, rfl, ao⟩
 replace ak := ak.mono (Ar (Ar (Ac _))) ba
 replace al := al.mono (Ac _) ba
 replace ao := ao.new fun p hp => ck p (by simp [hp])
 refine AI (lp (ln rfl)) (kO (kf (fS fO) (kf (fS fO) kr)) ?_)
 refine Aa ⟨_, rfl, ba, [7, 0], by kernel_rfl, .inl (.inr (fun d h => by cases h; rfl)), (fc sm (fc sm nm)), ?_⟩
 refine ⟨_, [(24, .slice a9 ai ai), (31, .pointer (some ⟨b1, 2, none⟩))], rfl, rfl, z2, by kernel_rfl, ?_⟩; intro H
 refine Cv (i := 1) sizeOf97 rfl rfl rfl rfl (CK rfl) (AI rfl ?_)
 refine Aa ⟨undef, rfl, A3.refl _, [], by kernel_rfl, .inl (.inl rfl), nm, ?_⟩
 refine mS [1] rfl (Ae Hw rfl) ?_
 refine ⟨_, [(27, .slice di dk dm), (32, .pointer (some ⟨b1, 3, none⟩))], rfl, rfl, z2, by kernel_rfl, ?_⟩; intro H
 refine Cv (i := 1) sizeOf33 rfl rfl rfl rfl (CK rfl) (AI rfl ?_)
 refine Aa ⟨undef, rfl, A3.refl _, [], by kernel_rfl, .inl (.inl rfl), nm, ?_⟩
 refine mS [1] rfl (Ae GS rfl) ?_
 refine ⟨_, [(30, .slice dn bd dp), (33, .pointer (some ⟨b1, 4, none⟩))], rfl, rfl, z2, by kernel_rfl, ?_⟩; intro H
 refine Cv (i := 1) sizeOf98 rfl rfl rfl rfl (CK rfl) (AI rfl ?_)
 refine Aa ⟨undef, rfl, A3.refl _, [], by kernel_rfl, .inl (.inl rfl), nm, ?_⟩
 refine Ff (AN (uv (AS isAgg100 sizeOf100 rfl (Has.own 1 rfl) (CK rfl) rfl) (B1 (i := 0) sizeOf100 rfl rfl rfl (by simp [Value.oneCell']) rfl (CK rfl) (AI rfl (Aa (kW (kc (kd (kg (fS (fS fP)) (kg (fS fP) kr)))) (Ao ?_)))))))
 refine Jv results37 (Fg (cs := #[.int .i64 Ad, .int .i64 Ab, .slice a9 ai ai, .slice di dk dm, .slice dn bd dp]) isAgg100 sizeOf100 rfl (Has.own 0 rfl) (CK rfl) rfl) (s1 (s4 (s4 (s4 sr)))) ?_
 obtain ⟨rfl, rfl, rfl, rfl, rfl⟩ := Yk eu
 exact ⟨_, _, _, _, _, _, _, _, _, _, _, _, rfl, rfl, ak.any, al.any, ao.any⟩
theorem Rw (ab : Av 1 (BK 1 (BK 1 (iE .i64))) F Aw Ax Al) (aa : Av 1 (iE .i64) F AF AE Ak) (ad : Av 3 (Br (iE .i64) (Br (iE .i64) (iE .i64))) F AR AQ Az) {r : List Int} {r2 : Int} (hr : Fu Ad Ab Al Ak Az DR Ba heard = some (r, r2)) :
    SH.Spec Tryz.prog 114 #[.agg #[.int .i64 Ad, .int .i64 Ab, .slice Aw Al.length Ax, .slice AF Ak.length AE, .slice AR Az.length AQ], .agg #[.int .i64 DR, .int .i64 Ba, .bool heard]] F [] fun F' L' v => ∃ (ra : Option Addr) (rc : Nat), v = .tuple #[.slice ra r.length rc, .int .i64 r2] ∧ L' = [] ∧ Av 1 (iE .i64) F' ra rc r := by
 refine sp func114 ntmps114 fun K _ _ => ?_
 rw [Fu] at hr
 refine AN ?_
 refine Bt rfl rfl ?_; intro b1 al
 refine Bt rfl rfl ?_; intro b2 ao
 refine ua (ua (BX ?_))
 refine uv (AS isAgg100 sizeOf100 rfl (Has.own 1 rfl) (CK rfl) rfl) (uv (AS isAgg127 sizeOf127 rfl (Has.own 0 rfl) (CK rfl) rfl) ?_)
 refine bA (cs := #[.int .i64 DR, .int .i64 Ba, .bool heard]) SV [.agg #[.int .i64 DR, .int .i64 Ba, .bool heard]] ?_; intro b3 af
 refine Bi 0 rfl af ?_; intro F4 ae ah
 refine AI rfl ?_
 replace ab := ab.mono (Ar (Ar (Ac _))) ae
 replace aa := aa.mono (Ac _) ae
 replace ad := ad.mono (Au (Ac _) (Au (Ac _) (Ac _))) ae
 have h7 : Av 3 (Br (iE .i64) (Br (iE .i64) bE)) F4 (some ⟨b3, 0, none⟩) 1 [(DR, Ba, heard)] := Av.BM (Au (Ac _) (Au (Ac _) EL)) (vss := [[.int .i64 DR, .int .i64 Ba, .bool heard]]) (xs := [(DR, Ba, heard)]) ah (.cons ⟨_, _, rfl, rfl, ⟨_, _, rfl, rfl, rfl⟩⟩ .nil) rfl (by simp [maxLen])
 obtain ⟨l, n, h8, r9⟩ := Es hr
 refine c0 call35 (Kh ab aa ad h7 h8) ?_; rintro _ aq _ ai aj ⟨ar, au, rfl, rfl, ak⟩
 refine AI (ln rfl) ?_
 refine ox rfl rfl rfl (ox rfl rfl rfl (ua (ua (Aa ?_))))
 refine kW kn (Ao (CT results114 (A6 rfl) (A6 rfl) (sr) ?_))
 obtain ⟨rfl, rfl⟩ := D2 r9
 exact ⟨_, _, rfl, rfl, ak⟩
theorem Rx (ab : Av 1 (BK 1 (BK 1 (iE .i64))) F Aw Ax Al) (aa : Av 1 (iE .i64) F AF AE Ak) (ad : Av 3 (Br (iE .i64) (Br (iE .i64) (iE .i64))) F AR AQ Az) {r : Bool} {r2 : Int} (hr : Hq Ad Ab Al Ak Az DR Ba heard = some (r, r2)) :
    Bl Tryz.prog 38 #[.agg #[.int .i64 Ad, .int .i64 Ab, .slice Aw Al.length Ax, .slice AF Ak.length AE, .slice AR Az.length AQ], .agg #[.int .i64 DR, .int .i64 Ba, .bool heard]] F (.tuple #[.bool r, .int .i64 r2]) := by
 refine sp func38 ntmps38 fun K _ _ => ?_
 rw [Hq] at hr
 refine AN ?_
 refine Bt rfl rfl ?_; intro b1 al
 refine Bt rfl rfl ?_; intro b2 ao
 refine ua (ua (BX ?_))
 refine uv (AS isAgg100 sizeOf100 rfl (Has.own 1 rfl) (CK rfl) rfl) (uv (AS isAgg127 sizeOf127 rfl (Has.own 0 rfl) (CK rfl) rfl) ?_)
 obtain ⟨l, n, h3, r4⟩ := Es hr
 refine c0 call114 (Rw ab aa ad h3) ?_; rintro _ F5 _ aq ar ⟨a9, au, rfl, rfl, av⟩
 refine AI (ln rfl) ?_
 refine um (ox rfl rfl rfl (ox rfl rfl rfl (ua (ua (Aa (As (AN (um (Aa ?_)))))))))
 refine Ap (AN (uv (CR rfl rfl) ?_))
 refine ua (Aa ?_)
 refine cQ (fun ae => ?_) fun ae => ?_
 ·have ai := Bf r4 ae
  refine AN (ua (ua (Aa ?_)))
  refine kW kn ?_
  refine Ao (AA (Ah ?_))
  refine CT results38 (A6 rfl) (A6 rfl) (sr) ?_
  obtain ⟨rfl, rfl⟩ := D2 ai
  exact rfl
 have ah := Bg r4 ae
 refine AN (uv (CR rfl rfl) ?_)
 refine ua (Aa ?_)
 refine cQ (fun af => ?_) fun af => ?_
 ·have aj := Bf ah af
  refine AN (ua (ua (Aa ?_)))
  refine kW kn ?_
  refine Ao (AA (Ah ?_))
  refine CT results38 (A6 rfl) (A6 rfl) (sr) ?_
  obtain ⟨rfl, rfl⟩ := D2 aj
  exact rfl
 have ak := Bg ah af
 refine Aq (AD (id := 0) (AN (um (ua (ua (Aa ?_))))))
 refine kW kn (Ao (CT results38 (A6 rfl) (A6 rfl) (sr) ?_))
 obtain ⟨rfl, rfl⟩ := D2 ak
 exact rfl
set_option maxHeartbeats 1000000 in
theorem OZ {cq : Option Addr} {ct : Nat} {numbers : List Int} {which : Int} (fi : Av 1 (iE .u8) F cq ct numbers) {r : Bool} (hr : HD numbers which = some r) :
    Bl Tryz.prog 5 #[.slice cq numbers.length ct, .int .u8 which] F (.bool r) := by
 refine sp func5 ntmps5 fun K _ _ => ?_
 rw [HD] at hr
 refine AN (ua (BX (um ?_)))
 obtain ⟨metal, at_, GB, h1, r2⟩ := E5 hr
 refine c0 call6 (RD fi h1) ?_; rintro _ F3 _ hF4 hn5 ⟨b7, a8, c9, rfl, rfl, h10⟩
 refine AI (lb (ln rfl)) ?_
 obtain ⟨n, n2, l, l2, l3, l4, vk, mq, h11, r12⟩ := Wo r2
 refine cG call30 (PJ h10 h11) ?_; rintro _ F13 _ hF14 vl vm ⟨ad, n21, ae, Lb19, af, n27, ah, Lb25, ai, n33, aj, Lb31, a35, n39, c36, Lb37, rfl, rfl, ij, fj, dk, bx⟩
 have ik := XE (Lb' := [(b7, ce #[.slice a8 metal.length c9, .int .i64 vk, .int .u32 mq] 137)]) (by rfl) vl vm
 replace ij := ij.new fun p hp => ik p (by simp [hp])
 replace fj := fj.new fun p hp => ik p (by simp [hp])
 replace dk := dk.new fun p hp => ik p (by simp [hp])
 replace bx := bx.new fun p hp => ik p (by simp [hp])
 refine AI (lb (lp (lp (lp (lp (ln rfl)))))) ?_
 refine um (ox rfl rfl rfl (ox rfl rfl rfl ?_))
 refine Bo rfl zeroValue100 ?_; intro ab hb42
 refine B1 (i := 0) sizeOf100 rfl rfl rfl (by simp [Value.oneCell']) rfl (CK rfl) (AI rfl ?_)
 refine ua (Aa (As (AN ?_)))
 refine uv (Ae LU rfl) (uv (An isAgg3 rfl (Has.own 0 rfl) rfl) (uv (Bb rfl rfl) (Aa ?_)))
 refine cQ (fun vn => ?_) fun vn => ?_
 ·have r44 := Bf r12 vn
  refine AN ?_
  obtain ⟨ok, h45, r46⟩ := AG r44
  refine cV call9 (Lx h45) ?_
  refine ua (Aa ?_)
  refine kW kn ?_
  refine Ao (Ah ?_)
  refine BU results5 ?_
  obtain rfl := AL r46
  exact rfl
 have r47 := Bg r12 vn
 refine Aq (AN ?_)
 refine uv (AS isAgg100 sizeOf100 rfl (Has.own 0 rfl) (CK rfl) rfl) ?_
 obtain rfl := (Be.Eu ij).1
 refine C1 (Nat.le_refl _) (Ar (Ar (Ac _))) (fC (fC fP)) ij ?_; intro F48 kt bj
 replace fj := fj.mono (Ac _) kt
 replace dk := dk.mono (Au (Ac _) (Au (Ac _) (Ac _))) kt
 replace bx := bx.mono (Ac _) kt
 obtain rfl := (Be.Eu fj).1
 refine C1 (Nat.le_refl _) (Ac _) (fC (fC fP)) fj ?_; intro F51 ku bn
 replace bj := bj.mono (Ar (Ar (Ac _))) ku
 replace dk := dk.mono (Au (Ac _) (Au (Ac _) (Ac _))) ku
 replace bx := bx.mono (Ac _) ku
 obtain rfl := (Be.Eu dk).1
 refine C1 (Nat.le_refl _) (Au (Ac _) (Au (Ac _) (Ac _))) (fC (fC fP)) dk ?_; intro F54 kv bz
 replace bj := bj.mono (Ar (Ar (Ac _))) kv
 replace bn := bn.mono (Ac _) kv
 replace bx := bx.mono (Ac _) kv
 obtain ⟨l5, n3, h57, r58⟩ := Es r47
 refine c0 call31 (MH bj bn bz h57) ?_; rintro _ F59 _ il hn61 ⟨eb, ec, rfl, rfl, bh⟩
 replace bj := bj.mono (Ar (Ar (Ac _))) il
 replace bn := bn.mono (Ac _) il
 replace bz := bz.mono (Au (Ac _) (Au (Ac _) (Ac _))) il
 replace bx := bx.mono (Ac _) il
 refine AI (ln rfl) ?_
 refine um (ox rfl rfl rfl (ox rfl rfl rfl (ua (ua (BX ?_)))))
 refine uv (AS isAgg100 sizeOf100 rfl (Has.own 0 rfl) (CK rfl) rfl) (um ?_)
 obtain rfl := (Be.Eu bx).1
 refine C1 (Nat.le_refl _) (Ac _) (fC (fC fP)) bx ?_; intro F66 im h68
 replace bj := bj.mono (Ar (Ar (Ac _))) im
 replace bn := bn.mono (Ac _) im
 replace bz := bz.mono (Au (Ac _) (Au (Ac _) (Ac _))) im
 replace bh := bh.mono (Ar (Ac _)) im
 obtain ⟨l6, n4, h69, r70⟩ := Es r58
 refine c0 call32 (Sb bj bn bz h68 h69) ?_; rintro _ vo _ iq hn73 ⟨cj, ck, rfl, rfl, eu⟩
 replace bj := bj.mono (Ar (Ar (Ac _))) iq
 replace bn := bn.mono (Ac _) iq
 replace bz := bz.mono (Au (Ac _) (Au (Ac _) (Ac _))) iq
 replace bh := bh.mono (Ar (Ac _)) iq
 refine AI (ln rfl) ?_
 refine um (ox rfl rfl rfl (ox rfl rfl rfl (ua (ua (Aa (As ?_))))))
 obtain ⟨k, h78, vp⟩ := AG r70
 refine jE ([(ab, ce #[.int .i64 n, .int .i64 n2, .slice ad l.length ae, .slice af l2.length ah, .slice ai l3.length aj] 100)]) [(1, .int .u8 which), (5, .pointer (some ⟨ab, 0, none⟩)), (7, .slice eb l5.length ec), (9, .slice cj l6.length ck), (72, .bool k)] ?_ ?_
 ·clear vp
  refine Am (um ?_)
  refine uv (B7 rfl rfl) (um ?_)
  by_cases jr : n3 ≠ 0
  ·have r81 := Bf h78 jr
   refine fT jr (fT jr ?_)
   refine uv (AW (Bn rfl jr) rfl) ?_
   refine um (AM (b' := true) 59 rfl rfl rfl rfl (AM (b' := true) 59 rfl rfl rfl rfl (AM (b' := true) 59 rfl rfl rfl rfl (AM (b' := true) 59 rfl rfl rfl rfl (AM (b' := true) 59 rfl rfl rfl rfl ?_)))))
   refine uv (AW rfl rfl) ?_
   refine um (AM (b' := true) 66 rfl rfl rfl rfl (AM (b' := true) 66 rfl rfl rfl rfl (AM (b' := true) 66 rfl rfl rfl rfl (AM (b' := true) 66 rfl rfl rfl rfl (AM (b' := true) 66 rfl rfl rfl rfl ?_)))))
   refine uv (AW rfl rfl) (Aa ?_)
   obtain rfl := AL r81
   exact mi (kc kn) ⟨rfl, rfl, z5⟩
  have r82 := Bg h78 jr
  refine nF jr (um (nF jr ?_))
  refine uv (B7 rfl rfl) (uv (AH (A8 rfl jr) rfl) (um ?_))
  by_cases ew : n4 ≠ 0
  ·have r84 := Bf r82 ew
   refine fT ew (fT ew (fT ew (fT ew (fT ew ?_))))
   refine uv (AW (Bn rfl ew) rfl) ?_
   refine um (AM (b' := true) 66 rfl rfl rfl rfl (AM (b' := true) 66 rfl rfl rfl rfl (AM (b' := true) 66 rfl rfl rfl rfl (AM (b' := true) 66 rfl rfl rfl rfl (AM (b' := true) 66 rfl rfl rfl rfl ?_)))))
   refine uv (AW rfl rfl) (Aa ?_)
   obtain rfl := AL r84
   exact mi (kc kn) ⟨rfl, rfl, z5⟩
  have r85 := Bg r82 ew
  refine nF ew (um (nF ew ?_))
  refine uv (A7 underlying103 rfl) (nF ew (uv (Ae Jz rfl) (nF ew (uv (An isAgg3 rfl (Has.own 0 rfl) rfl) (nF ew (uv (B7 rfl rfl) (uv (AH (A8 rfl ew) rfl) ?_)))))))
  refine um ?_
  by_cases ey : (l5.length : Int) ≠ n
  ·have r87 := Bf r85 ey
   refine fT ey (fT ey (fT ey (fT ey (fT ey ?_))))
   refine uv (AW (Bn rfl ey) rfl) (Aa ?_)
   obtain rfl := AL r87
   exact mi (kc kn) ⟨rfl, rfl, z5⟩
  have r88 := Bg r85 ey
  refine nF ey (um (nF ey ?_))
  refine uv (A7 underlying36 rfl) (nF ey (uv (Ae Jz rfl) (nF ey (uv (An isAgg3 rfl (Has.own 0 rfl) rfl) (nF ey (uv (B7 rfl rfl) (uv (AH (A8 rfl ey) rfl) ?_)))))))
  refine Aa ?_
  obtain rfl := AL r88
  exact mi (kc kn) ⟨rfl, rfl, z5⟩
 refine A5 rfl (fun vq => ?_) (fun vq => ?_)
 ·have r91 := bt vp vq
  refine AN (ua (Aa ?_))
  refine kW kn ?_
  refine Ao (Ah ?_)
  refine BU results5 ?_
  obtain rfl := AL r91
  exact rfl
 have r92 := bf vp vq
 refine Aq (AN ?_)
 refine uv (Ae Jz rfl) (uv (An isAgg3 rfl (Has.own 0 rfl) rfl) ?_)
 refine uv (BH (v := .agg #[.int .i64 (-1), .bool false]) rfl (by intro w; kernel_rfl)) ?_
 refine uv (BH (v := .agg #[.int .i64 0, .bool false]) rfl (by intro w; kernel_rfl)) ?_
 refine bA (cs := #[.int .i64 (-1), .bool false, .int .i64 0, .bool false]) Xk [.agg #[.int .i64 (-1), .bool false], .agg #[.int .i64 0, .bool false]] ?_; intro eg vr
 refine uv (BH (v := .agg #[.int .i64 n, .slice none 0 0, .slice (some ⟨eg, 0, none⟩) 2 2, .slice none 0 0]) rfl (by intro w; kernel_rfl)) ?_
 refine Bo rfl zeroValue113 ?_; intro cn hb94
 have fm : Be K.w0.heap.size 109 2 (Br (iE .i64) bE) vo (some ⟨eg, 0, none⟩) 2 2 [(-1, false), (0, false)] [(eg, ce #[.int .i64 (-1), .bool false, .int .i64 0, .bool false] 109)] := Be.BM (vss := [[.int .i64 (-1), .bool false], [.int .i64 0, .bool false]]) (Au (Ac _) EL) vr (.cons ⟨_, _, rfl, rfl, rfl⟩ (.cons ⟨_, _, rfl, rfl, rfl⟩ .nil)) rfl rfl (by simp [maxLen])
 generalize kz : ([(eg, ce #[.int .i64 (-1), .bool false, .int .i64 0, .bool false] 109)] : LH) = Lb95 at fm
 refine Cz (L' := Lb95 ++ [(cn, ce #[.int .i64 0, .slice none 0 0, .slice none 0 0, .slice none 0 0] 113), (ab, ce #[.int .i64 n, .int .i64 n2, .slice ad l.length ae, .slice af l2.length ah, .slice ai l3.length aj] 100)]) (by rw [← kz]; exact (fC fO)) ?_
 refine Cz (L' := (cn, ce #[.int .i64 0, .slice none 0 0, .slice none 0 0, .slice none 0 0] 113) :: ((ab, ce #[.int .i64 n, .int .i64 n2, .slice ad l.length ae, .slice af l2.length ah, .slice ai l3.length aj] 100) :: (Lb95 ++ []))) (List.Perm.symm (fC (fC fP))) (B1 (i := 0) sizeOf113 rfl rfl rfl (by simp [Value.oneCell']) rfl (CK rfl) (AI rfl ?_))
 refine BX (ua (Aa ?_))
 refine A0 (fun e1 F1 L1 => ∃ (cb : List (List Int)) (Az : List (Int × Int)) (ml : Option Addr) (fk : Nat) (mn : Nat) (cu : LH) (ir : Option Addr) (iu : Nat) (iv : Nat) (cd : LH), EK which n n2 l l2 l3 l5 l6 cb Az = some r ∧ A3 vo F1 ∧ L1 = ((cn, ce #[.int .i64 n, .slice none 0 0, .slice (some ⟨eg, 0, none⟩) 2 2, .slice ml fk mn] 113) :: ((ab, ce #[.int .i64 n, .int .i64 n2, .slice ad l.length ae, .slice af l2.length ah, .slice ai l3.length aj] 100) :: (Lb95 ++ (cu ++ (cd ++ []))))) ∧ e1.sub [(1, .int .u8 which), (5, .pointer (some ⟨ab, 0, none⟩)), (7, .slice eb l5.length ec), (9, .slice cj l6.length ck), (11, .pointer (some ⟨cn, 0, none⟩)), (12, .slice ir iu iv)] ∧ Be K.w0.heap.size 33 1 (BK 1 (iE .i64)) F1 ml fk mn cb cu ∧ Be K.w0.heap.size 116 2 (Br (iE .i64) (iE .i64)) F1 ir iu iv Az cd) ?_ ?_
 ·refine AN (um ?_)
  refine uv (A7 underlying36 rfl) ?_
  refine um (Aa ?_)
  refine Ap ?_
  refine Bh (fun fu2 e1 F1 L1 => LA l6 fu2 fun tl k2 => ∃ (av : List (List Int)) (bo : List (Int × Int)) (eh : Option Addr) (ei : Nat) (ej : Nat) (cf : LH) (en : Option Addr) (eo : Nat) (ep : Nat) (bp : LH), Cq which n n2 l l2 l3 l5 l6 tl k2 av bo = some r ∧ A3 vo F1 ∧ L1 = ((cn, ce #[.int .i64 n, .slice none 0 0, .slice (some ⟨eg, 0, none⟩) 2 2, .slice eh ei ej] 113) :: ((ab, ce #[.int .i64 n, .int .i64 n2, .slice ad l.length ae, .slice af l2.length ah, .slice ai l3.length aj] 100) :: (Lb95 ++ (cf ++ (bp ++ []))))) ∧ e1.sub [(1, .int .u8 which), (5, .pointer (some ⟨ab, 0, none⟩)), (7, .slice eb l5.length ec), (9, .slice cj l6.length ck), (11, .pointer (some ⟨cn, 0, none⟩)), (12, .slice en eo ep), (79, .slice cj l6.length ck), (80, .int .i64 (l6.length : Int)), (81, .int .i64 k2)] ∧ Be K.w0.heap.size 33 1 (BK 1 (iE .i64)) F1 eh ei ej av cf ∧ Be K.w0.heap.size 116 2 (Br (iE .i64) (iE .i64)) F1 en eo ep bo bp) _ (m0 (kc (kc (ka (ke (ke kr))))) ⟨_, _, rfl, BL.start _, [], [], none, 0, 0, [], none, 0, 0, [], r92, A3.refl _, rfl, (sc rfl z8), Be.nil _ _ _ _ _, Be.nil _ _ _ _ _⟩) ?_
  rintro fu2 e1 vt _ ⟨tl, k2, mr, fo, av, bo, eh, ei, ej, cf, en, eo, ep, bp, iw, fp, rfl, mu, dm, dn⟩
  refine AB _ mu ?_
  replace eu := eu.mono (Ar (Ac _)) fp
  refine AN (uv (Bb rfl rfl) ?_)
  refine Aa (As ?_)
  refine cQ (fun iy => ?_) fun iy => ?_
  ·obtain ⟨x, tl2, rfl, mv, mw, mx⟩ := BL.succ fo iy
   rw [Cq] at iw
   refine Aq ?_
   refine A0 (fun e1 F1 L1 => ∃ (bg : List (List Int)) (dd : List (Int × Int)) (iz : Option Addr) (j0 : Nat) (j1 : Nat) (ez : LH) (j2 : Option Addr) (j3 : Nat) (j4 : Nat) (fa : LH), EH k2 (Cq which n n2 l l2 l3 l5 l6 tl2) bg dd = some r ∧ A3 vt F1 ∧ L1 = ((cn, ce #[.int .i64 n, .slice none 0 0, .slice (some ⟨eg, 0, none⟩) 2 2, .slice iz j0 j1] 113) :: ((ab, ce #[.int .i64 n, .int .i64 n2, .slice ad l.length ae, .slice af l2.length ah, .slice ai l3.length aj] 100) :: (Lb95 ++ (ez ++ (fa ++ []))))) ∧ e1.sub [(1, .int .u8 which), (5, .pointer (some ⟨ab, 0, none⟩)), (7, .slice eb l5.length ec), (9, .slice cj l6.length ck), (11, .pointer (some ⟨cn, 0, none⟩)), (12, .slice j2 j3 j4), (79, .slice cj l6.length ck), (80, .int .i64 (l6.length : Int)), (81, .int .i64 k2)] ∧ Be K.w0.heap.size 33 1 (BK 1 (iE .i64)) F1 iz j0 j1 bg ez ∧ Be K.w0.heap.size 116 2 (Br (iE .i64) (iE .i64)) F1 j2 j3 j4 dd fa) ?_ ?_
   ·refine Ap ?_
    refine AN (um ?_)
    obtain ⟨b145, o146, c147, vs148, my, mz, vu, ⟨l0, ld, rfl, j5⟩, hl152, na⟩ := Av.at (Ar (Ac _)) eu ((cn, ce #[.int .i64 n, .slice none 0 0, .slice (some ⟨eg, 0, none⟩) 2 2, .slice eh ei ej] 113) :: ((ab, ce #[.int .i64 n, .int .i64 n2, .slice ad l.length ae, .slice af l2.length ah, .slice ai l3.length aj] 100) :: (Lb95 ++ (cf ++ (bp ++ []))))) mw.1 mv
    refine uv (AK underlying36 sizeOf33 rfl my rfl mw) (uv (An isAgg33 rfl mz (na 0 (by decide))) ?_)
    refine ua (ua (Aa ?_))
    obtain ⟨k3, nc, lg⟩ := AG iw
    refine jE (((cn, ce #[.int .i64 n, .slice none 0 0, .slice (some ⟨eg, 0, none⟩) 2 2, .slice eh ei ej] 113) :: ((ab, ce #[.int .i64 n, .int .i64 n2, .slice ad l.length ae, .slice af l2.length ah, .slice ai l3.length aj] 100) :: (Lb95 ++ (cf ++ (bp ++ [])))))) [(1, .int .u8 which), (5, .pointer (some ⟨ab, 0, none⟩)), (7, .slice eb l5.length ec), (9, .slice cj l6.length ck), (11, .pointer (some ⟨cn, 0, none⟩)), (12, .slice en eo ep), (13, .int .i64 k2), (14, .slice l0 x.length ld), (79, .slice cj l6.length ck), (80, .int .i64 (l6.length : Int)), (81, .int .i64 k2), (92, .bool k3)] ?_ ?_
    ·clear lg
     refine Am (um ?_)
     refine uv (A7 underlying33 rfl) (uv (KS rfl rfl) (um ?_))
     by_cases dp : 0 < (x.length : Int)
     ·have vv := Bf nc dp
      refine nT dp (um (nT dp ?_))
      refine uv (Bb rfl rfl) (uv (AW (Bn rfl dp) rfl) (Aa ?_))
      obtain rfl := AL vv
      exact mi kr ⟨rfl, rfl, (sc rfl (sc rfl (sc rfl (sc rfl z8))))⟩
     have vw := Bg nc dp
     refine fF dp (fF dp ?_)
     refine uv (AH (A8 rfl dp) rfl) (Aa ?_)
     obtain rfl := AL vw
     exact mi kr ⟨rfl, rfl, (sc rfl (sc rfl (sc rfl (sc rfl z8))))⟩
    refine A5 rfl (fun lh => ?_) (fun lh => ?_)
    ·have vx := bt lg lh
     refine AN (uv (Ae IQ rfl) (uv (An isAgg36 rfl (Has.own 0 rfl) rfl) (um ?_)))
     refine bA (cs := #[.int .i64 k2]) Cm [.int .i64 k2] ?_; intro j6 nd
     refine bA (cs := #[.slice (some ⟨j6, 0, none⟩) 1 1]) LL [.slice (some ⟨j6, 0, none⟩) 1 1] ?_; intro b166 hb166
     refine Bi 1 rfl nd ?_; intro nf fb ng
     refine AI rfl ?_
     replace j5 := j5.mono (Ac _) fb
     replace dm := dm.mono (Ar (Ac _)) fb
     replace dn := dn.mono (Au (Ac _) (Ac _)) fb
     have vy : Av 1 (iE .i64) nf (some ⟨j6, 0, none⟩) 1 [k2] := Av.BM (Ac _) (vss := [[.int .i64 k2]]) (xs := [k2]) ng (.cons rfl .nil) rfl (by simp [maxLen])
     obtain ⟨n5, vz, w4, w7⟩ := GM vx
     refine Fm (xs := av) (ys := [[k2]]) (zs := n5) rfl LL rfl rfl (Nat.le_refl _) (fun _ => .c (.c (.c (.s .h)))) dm (H2.box (vss := [[.slice (some ⟨j6, 0, none⟩) [k2].length 1]]) (ys := [[k2]]) 0 rfl (Ar (Ac _)) (.cons ⟨_, _, rfl, vy⟩ .nil) rfl rfl) vz w4 (by decide) ?_; intro j7 j8 j9 fe js
     refine kO (kd kr) (uv (Ae IQ rfl) (Cv (i := 0) sizeOf36 rfl rfl rfl rfl (CK rfl) (AI rfl ?_)))
     refine BX (um ?_)
     refine uv (A7 underlying33 rfl) ?_
     refine um (Aa ?_)
     refine Ap ?_
     refine Bh (fun fu4 e1 F1 L1 => LA x fu4 fun tl3 k4 => ∃ (cg : List (Int × Int)) (fq : Option Addr) (ft : Nat) (fv : Nat) (cv : LH), Dv k2 n5 (Cq which n n2 l l2 l3 l5 l6 tl2) tl3 cg = some r ∧ nf = F1 ∧ L1 = ((cn, ce #[.int .i64 n, .slice none 0 0, .slice (some ⟨eg, 0, none⟩) 2 2, .slice j7 j8 j9] 113) :: ((ab, ce #[.int .i64 n, .int .i64 n2, .slice ad l.length ae, .slice af l2.length ah, .slice ai l3.length aj] 100) :: (Lb95 ++ (fe ++ (cv ++ []))))) ∧ e1.sub [(1, .int .u8 which), (5, .pointer (some ⟨ab, 0, none⟩)), (7, .slice eb l5.length ec), (9, .slice cj l6.length ck), (11, .pointer (some ⟨cn, 0, none⟩)), (12, .slice fq ft fv), (79, .slice cj l6.length ck), (80, .int .i64 (l6.length : Int)), (81, .int .i64 k2), (100, .slice l0 x.length ld), (101, .int .i64 (x.length : Int)), (102, .int .i64 k4)] ∧ Be K.w0.heap.size 116 2 (Br (iE .i64) (iE .i64)) F1 fq ft fv cg cv) _ (m0 kr ⟨_, _, rfl, BL.start _, bo, en, eo, ep, bp, w7, rfl, rfl, (sc rfl (sc rfl (sc rfl (sc rfl z8)))), dn⟩) ?_
     rintro fu4 e1 _ _ ⟨tl3, k4, nh, fw, cg, fq, ft, fv, cv, ja, rfl, rfl, ni, jt⟩
     refine AB _ ni (AN (uv (Bb rfl rfl) ?_))
     refine Aa (As ?_)
     refine cQ (fun jb => ?_) fun jb => ?_
     ·obtain ⟨x2, tl4, rfl, nj, nk, np⟩ := BL.succ fw jb
      rw [Dv] at ja
      refine Aq (As ?_)
      refine Ap (AN ?_)
      obtain ⟨b195, o196, c197, vs198, nq, nr, w8, rfl, hl202, ns⟩ := Av.at (Ac _) j5 ((cn, ce #[.int .i64 n, .slice none 0 0, .slice (some ⟨eg, 0, none⟩) 2 2, .slice j7 j8 j9] 113) :: ((ab, ce #[.int .i64 n, .int .i64 n2, .slice ad l.length ae, .slice af l2.length ah, .slice ai l3.length aj] 100) :: (Lb95 ++ (fe ++ (cv ++ []))))) nk.1 nj
      refine uv (AK underlying33 sizeOf3 rfl nq rfl nk) (uv (An isAgg3 rfl nr (ns 0 (by decide))) ?_)
      refine ua (Aa (As ?_))
      obtain ⟨k5, nt, lj⟩ := AG ja
      refine jE (((cn, ce #[.int .i64 n, .slice none 0 0, .slice (some ⟨eg, 0, none⟩) 2 2, .slice j7 j8 j9] 113) :: ((ab, ce #[.int .i64 n, .int .i64 n2, .slice ad l.length ae, .slice af l2.length ah, .slice ai l3.length aj] 100) :: (Lb95 ++ (fe ++ (cv ++ [])))))) [(1, .int .u8 which), (5, .pointer (some ⟨ab, 0, none⟩)), (7, .slice eb l5.length ec), (9, .slice cj l6.length ck), (11, .pointer (some ⟨cn, 0, none⟩)), (12, .slice fq ft fv), (16, .int .i64 x2), (79, .slice cj l6.length ck), (80, .int .i64 (l6.length : Int)), (81, .int .i64 k2), (100, .slice l0 x.length ld), (101, .int .i64 (x.length : Int)), (102, .int .i64 k4), (111, .bool k5)] ?_ ?_
      ·clear lj
       refine Am (um ?_)
       refine uv (B7 rfl rfl) (um ?_)
       by_cases dq : x2 ≠ 0
       ·have w9 := Bf nt dq
        refine nT dq (um (nT dq ?_))
        refine uv (B7 rfl rfl) (uv (AW (Bn rfl dq) rfl) (Aa ?_))
        obtain rfl := AL w9
        exact mi kr ⟨rfl, rfl, (sc rfl (sc rfl (sc rfl (sc rfl (sc rfl (sc rfl z8))))))⟩
       have wb := Bg nt dq
       refine fF dq (fF dq ?_)
       refine uv (AH (A8 rfl dq) rfl) (Aa ?_)
       obtain rfl := AL wb
       exact mi kr ⟨rfl, rfl, (sc rfl (sc rfl (sc rfl (sc rfl (sc rfl (sc rfl z8))))))⟩
      refine A5 rfl (fun lk => ?_) (fun lk => ?_)
      ·have wc := bt lj lk
       refine AN (ua (Aa ?_))
       refine kW kn ?_
       refine Ao (Ah (AA (Ah (Ah (AA (AA (Ah (Ah (AA ?_)))))))))
       refine Ah (BU results5 ?_)
       obtain rfl := AL wc
       exact rfl
      have we := bf lj lk
      refine Aq (Am (um (um ?_)))
      refine uv (Ae IQ rfl) (uv (An isAgg36 rfl (Has.own 0 rfl) rfl) (uv ((A7 underlying36 rfl).i (Be.Kw js)) ?_))
      obtain ⟨g213, r214⟩ := A1 we
      refine uv (Fa rfl rfl g213) ?_
      refine uv (BH (v := .agg #[.int .i64 x2, .int .i64 ((n5.length : Int) - 1)]) rfl (by intro w; kernel_rfl)) ?_
      refine bA (cs := #[.int .i64 x2, .int .i64 ((n5.length : Int) - 1)]) UA [.agg #[.int .i64 x2, .int .i64 ((n5.length : Int) - 1)]] ?_; intro b215 hb215
      obtain ⟨fx, h216, g217, r218⟩ := GM r214
      refine Fm (xs := cg) (ys := [(x2, (n5.length : Int) - 1)]) (zs := fx) rfl UA rfl rfl (Nat.le_refl _) (fun _ => .c (.c (.c (.s (.s .h))))) jt (H2.box (vss := [[.int .i64 x2, .int .i64 ((n5.length : Int) - 1)]]) (ys := [(x2, (n5.length : Int) - 1)]) 0 rfl (Au (Ac _) (Ac _)) (.cons ⟨_, _, rfl, rfl, rfl⟩ .nil) rfl rfl) h216 g217 (by decide) ?_; intro a219 n223 c220 nu nv
      refine kO (kd kr) ?_
      refine ua (Aa (AD (id := 3) (Am ?_)))
      refine uv (Bd rfl rfl (BL.Eg fw jb (Av.lt j5))) ?_
      refine um (Aa ?_)
      subst nh; exact le kr ⟨_, _, rfl, np, fx, a219, n223, c220, nu, r218, rfl, rfl, (sc rfl (sc rfl (sc rfl (sc rfl z8)))), nv⟩
     obtain rfl := BL.zero fw jb
     rw [Dv] at ja
     refine AT (Af (Af ?_))
     refine Ay (AD (id := 1) ?_)
     exact mi kr ⟨n5, cg, j7, j8, j9, fe, fq, ft, fv, cv, ja, fb, rfl, (sc rfl z8), js, jt⟩
    have r225 := bf lg lh
    refine Aq (AD (id := 1) ?_)
    exact mi kr ⟨av, bo, eh, ei, ej, cf, en, eo, ep, bp, r225, A3.refl _, rfl, (sc rfl z8), dm, dn⟩
   rintro e1 F228 _ ⟨bg, dd, iz, j0, j1, ez, j2, j3, j4, fa, nw, ju, rfl, ny, nz, o2⟩
   refine AB _ ny ?_
   replace eu := eu.mono (Ar (Ac _)) ju
   rw [EH] at nw
   refine Am (uv (Bd rfl rfl (BL.Eg fo iy (Av.lt eu))) ?_)
   refine um (Aa ?_)
   subst mr; exact le kr ⟨_, _, rfl, mx, bg, dd, iz, j0, j1, ez, j2, j3, j4, fa, nw, (fp.trans ju), rfl, (sc rfl z8), nz, o2⟩
  obtain rfl := BL.zero fo iy
  rw [Cq] at iw
  refine AT (Af (Af ?_))
  refine Ay ?_
  exact mi kr ⟨av, bo, eh, ei, ej, cf, en, eo, ep, bp, iw, fp, rfl, z6, dm, dn⟩
 rintro e1 o3 _ ⟨cb, Az, ml, fk, mn, cu, ir, iu, iv, cd, o4, cw, rfl, o7, jv, jw⟩
 refine AB _ o7 ?_
 replace bj := bj.mono (Ar (Ar (Ac _))) cw
 replace bn := bn.mono (Ac _) cw
 replace bz := bz.mono (Au (Ac _) (Au (Ac _) (Ac _))) cw
 replace bh := bh.mono (Ar (Ac _)) cw
 replace eu := eu.mono (Ar (Ac _)) cw
 replace fm := fm.mono (Au (Ac _) EL) cw
 rw [EK] at o4
 obtain ⟨fl, o8, o9⟩ := AG o4
 refine A0 (fun e1 F1 L1 => ∃ (jc : Option Addr) (jd : Nat) (je : Nat) (ff : LH), o3 = F1 ∧ L1 = ((cn, ce #[.int .i64 n, .slice none 0 0, .slice (some ⟨eg, 0, none⟩) 2 2, .slice jc jd je] 113) :: ((ab, ce #[.int .i64 n, .int .i64 n2, .slice ad l.length ae, .slice af l2.length ah, .slice ai l3.length aj] 100) :: (Lb95 ++ (ff ++ (cd ++ []))))) ∧ e1.sub [(1, .int .u8 which), (5, .pointer (some ⟨ab, 0, none⟩)), (7, .slice eb l5.length ec), (9, .slice cj l6.length ck), (11, .pointer (some ⟨cn, 0, none⟩)), (12, .slice ir iu iv)] ∧ Be K.w0.heap.size 33 1 (BK 1 (iE .i64)) F1 jc jd je fl ff) ?_ ?_
 ·clear o9
  refine AN (uv (Ae IQ rfl) (uv (An isAgg36 rfl (Has.own 0 rfl) rfl) (uv ((A7 underlying36 rfl).i (Be.Kw jv)) (uv (CR rfl rfl) (Aa ?_)))))
  refine cQ (fun ll => ?_) fun ll => ?_
  ·have r243 := Bf o8 ll
   refine Am ?_
   refine bA (cs := #[.slice none 0 0]) LL [.slice none 0 0] ?_; intro jf oc
   refine uv (Ae IQ rfl) ?_
   have jx : Be K.w0.heap.size 33 1 (BK 1 (iE .i64)) o3 (some ⟨jf, 0, none⟩) 1 1 [[]] [(jf, ce #[.slice none 0 0] 33)] := Be.BM (vss := [[.slice none 0 0]]) (Ar (Ac _)) oc (.cons ⟨_, _, rfl, Av.nil _ _ _⟩ .nil) rfl rfl (by simp [maxLen])
   generalize jg : ([(jf, ce #[.slice none 0 0] 33)] : LH) = fy at jx
   refine Cz (L' := fy ++ ((cn, ce #[.int .i64 n, .slice none 0 0, .slice (some ⟨eg, 0, none⟩) 2 2, .slice ml fk mn] 113) :: ((ab, ce #[.int .i64 n, .int .i64 n2, .slice ad l.length ae, .slice af l2.length ah, .slice ai l3.length aj] 100) :: (Lb95 ++ (cu ++ (cd ++ [])))))) (by rw [← jg]; exact fO) ?_
   refine Cz (L' := (cn, ce #[.int .i64 n, .slice none 0 0, .slice (some ⟨eg, 0, none⟩) 2 2, .slice ml fk mn] 113) :: ((ab, ce #[.int .i64 n, .int .i64 n2, .slice ad l.length ae, .slice af l2.length ah, .slice ai l3.length aj] 100) :: (fy ++ (Lb95 ++ (cu ++ (cd ++ [])))))) (List.Perm.symm (fC (fC fP))) (Cv (i := 0) sizeOf36 rfl rfl rfl rfl (CK rfl) (AI rfl (Aa ?_)))
   obtain rfl := AL r243
   exact mi (kc (kc (kg (fS fP) (ka (kx kr))))) ⟨(some ⟨jf, 0, none⟩), 1, 1, fy, rfl, rfl, z6, jx⟩
  have r248 := Bg o8 ll
  refine Aq ?_
  obtain rfl := AL r248
  exact mi kr ⟨ml, fk, mn, cu, rfl, rfl, z6, jv⟩
 rintro e1 _ _ ⟨jc, jd, je, ff, rfl, rfl, od, jz⟩
 refine AB _ od (AN (uv (AS isAgg113 sizeOf113 rfl (Has.own 0 rfl) (CK rfl) rfl) (um ?_)))
 obtain ⟨l7, n6, h250, oe⟩ := Es o9
 refine QY (Lb := []) (Lt := Lb95 ++ (ff ++ (cd ++ []))) (Lr := [(cn, ce #[.int .i64 n, .slice none 0 0, .slice (some ⟨eg, 0, none⟩) 2 2, .slice jc jd je] 113), (ab, ce #[.int .i64 n, .int .i64 n2, .slice ad l.length ae, .slice af l2.length ah, .slice ai l3.length aj] 100)]) rfl call33 rfl rfl rfl (pT ((fC (fC fP)).trans (pA ((fC (fC fP)).trans (pA ((fC (fC fP)).trans (pA pR)))))) (ln (lp (lp (lp (ln rfl)))))) (fun F2 h2 h3 => by have h0 := TU (Av.nil (a := none) _ _ _) (fm.row (Au (Ac _) EL) h2 (fun p hp => h3 p (List.mem_append_left _ hp))) (jz.row (Ar (Ac _)) h2 (fun p hp => h3 p (List.mem_append_right _ (List.mem_append_left _ hp)))) (jw.row (Au (Ac _) (Ac _)) h2 (fun p hp => h3 p (List.mem_append_right _ (List.mem_append_right _ (List.mem_append_left _ hp))))) h250; rw [← (Be.Eu fm).1] at h0; rw [← (Be.Eu jz).1] at h0; rw [← (Be.Eu jw).1] at h0; exact h0) (fun _ _ _ _ hq => by obtain ⟨de, df, dg, aa, rfl, rfl, bq⟩ := hq; exact ⟨_, _, _, _, rfl, rfl, bq.flat (fun _ _ h => h)⟩) ?_; rintro _ og _ dr oh oi ⟨de, df, dg, aa, rfl, rfl, bq⟩
 replace bj := bj.mono (Ar (Ar (Ac _))) dr
 replace bn := bn.mono (Ac _) dr
 replace bz := bz.mono (Au (Ac _) (Au (Ac _) (Ac _))) dr
 replace bh := bh.mono (Ar (Ac _)) dr
 replace eu := eu.mono (Ar (Ac _)) dr
 have oj := XE (Lb' := []) (by rfl) oh oi
 replace bq := bq.new fun p hp => oj p (by simp [hp])
 refine AI (lp (ln (lp (lp (lp (ln rfl)))))) (kO (kf (fS (fS (fS (fS fO)))) (kf (fS (fS (fS (fS fO)))) kr)) ?_)
 refine um (ox rfl rfl rfl (ox rfl rfl rfl (ua (ua (Aa (As (AN (um ?_))))))))
 refine uv (B7 rfl rfl) (Aa ?_)
 refine cQ (fun lq => ?_) fun lq => ?_
 ·have r264 := Bf oe lq
  refine AN (ua (Aa ?_))
  refine kW kn ?_
  refine Ao (Ah ?_)
  refine BU results5 ?_
  obtain rfl := AL r264
  exact rfl
 have r265 := Bg oe lq
 refine Aq ?_
 refine A0 (fun e1 F1 L1 => Hj = some r ∧ A3 og F1 ∧ L1 = [] ∧ e1.sub []) ?_ ?_
 ·refine AN (uv (Ae Jz rfl) (uv (An isAgg3 rfl (Has.own 1 rfl) rfl) ?_))
  refine um (Aa ?_)
  refine Ap (kW (kd (kc (ka kn))) ?_)
  obtain ⟨g266, r267⟩ := A1 r265
  refine Bh (fun oo e1 F1 L1 => ∃ (k6 : Int), Dc 0 n k6 oo ∧ Cn which n n2 l l2 l3 l5 l6 l7 oo k6 = some r ∧ A3 og F1 ∧ L1 = ((ab, ce #[.int .i64 n, .int .i64 n2, .slice ad l.length ae, .slice af l2.length ah, .slice ai l3.length aj] 100) :: (aa ++ [])) ∧ e1.sub [(1, .int .u8 which), (5, .pointer (some ⟨ab, 0, none⟩)), (7, .slice eb l5.length ec), (9, .slice cj l6.length ck), (17, .slice de df dg), (138, .int .i64 n), (139, .int .i64 k6)]) _ (m0 kr ⟨_, Dc.start _ _, r267, A3.refl _, rfl, z7⟩) ?_
  rintro oo e1 F272 _ ⟨k6, ga, jh, br, rfl, oq⟩
  refine AB _ oq ?_
  replace bj := bj.mono (Ar (Ar (Ac _))) br
  replace bn := bn.mono (Ac _) br
  replace bz := bz.mono (Au (Ac _) (Au (Ac _) (Ac _))) br
  replace bh := bh.mono (Ar (Ac _)) br
  replace eu := eu.mono (Ar (Ac _)) br
  replace bq := bq.mono (Au (Ac _) (Ac _)) br
  refine AN (uv (Bb rfl rfl) ?_)
  refine Aa (As ?_)
  refine cQ (fun ji => ?_) fun ji => ?_
  ·obtain ⟨oo, rfl, ot⟩ := Dc.succ ga ji
   rw [Cn] at jh
   refine Aq ?_
   refine A0 (fun e1 F1 L1 => Ho k6 (Cn which n n2 l l2 l3 l5 l6 l7 oo) = some r ∧ A3 F272 F1 ∧ L1 = ((ab, ce #[.int .i64 n, .int .i64 n2, .slice ad l.length ae, .slice af l2.length ah, .slice ai l3.length aj] 100) :: (aa ++ [])) ∧ e1.sub [(1, .int .u8 which), (5, .pointer (some ⟨ab, 0, none⟩)), (7, .slice eb l5.length ec), (9, .slice cj l6.length ck), (17, .slice de df dg), (138, .int .i64 n), (139, .int .i64 k6)]) ?_ ?_
   ·refine Ap ?_
    refine AN (um (ua (BX (um (um ?_)))))
    refine uv (BH (v := .agg #[.int .i64 k6, .int .i64 0]) rfl (by intro w; kernel_rfl)) ?_
    obtain ⟨lr, h277, r278⟩ := AG jh
    refine OG (Lt := aa ++ []) (Lr := [(ab, ce #[.int .i64 n, .int .i64 n2, .slice ad l.length ae, .slice af l2.length ah, .slice ai l3.length aj] 100)]) rfl call34 rfl rfl rfl (pT ((fC fP).trans (pA pR)) (lp (ln rfl))) (fun F2 h2 h3 => by rw [(Be.Eu bq).1]; exact IS (bq.row (Au (Ac _) (Ac _)) h2 (fun p hp => h3 p (List.mem_append_left _ hp))) h277) ?_
    refine ua (Aa (As ?_))
    obtain ⟨k7, h279, lu⟩ := AG r278
    refine jE (((ab, ce #[.int .i64 n, .int .i64 n2, .slice ad l.length ae, .slice af l2.length ah, .slice ai l3.length aj] 100) :: (aa ++ []))) [(1, .int .u8 which), (5, .pointer (some ⟨ab, 0, none⟩)), (7, .slice eb l5.length ec), (9, .slice cj l6.length ck), (17, .slice de df dg), (18, .int .i64 k6), (19, .bool lr), (138, .int .i64 n), (139, .int .i64 k6), (189, .bool k7)] ?_ ?_
    ·clear lu
     refine Am (um (um ?_))
     obtain ⟨x3, cp, dt, ou⟩ := Bx h279
     obtain ⟨b284, o285, c286, vs287, ow, oy, hle290, ⟨a293, c294, rfl, h295⟩, hl291, oz⟩ := Av.at (Ar (Ac _)) bh ((ab, ce #[.int .i64 n, .int .i64 n2, .slice ad l.length ae, .slice af l2.length ah, .slice ai l3.length aj] 100) :: (aa ++ [])) cp.1 dt
     refine uv (AK underlying103 sizeOf123 rfl ow rfl cp) (uv (An isAgg123 rfl oy (oz 0 (by decide))) (uv (A7 underlying123 rfl) (uv (B7 rfl rfl) (um ?_))))
     by_cases ak : (x3.length : Int) ≠ 2
     ·have r297 := Bf ou ak
      refine fT ak (fT ak (fT ak (fT ak (fT ak (fT ak (fT ak (fU (fU (fU ?_)))))))))
      refine fU (fU (fU (fT ak (fT ak ?_))))
      refine uv (AW (Bn rfl ak) rfl) ?_
      refine um (AM (b' := true) 169 rfl rfl rfl rfl (AM (b' := true) 169 rfl rfl rfl rfl (fU (fU (fU (fU (fU (fU (fU ?_)))))))))
      refine fU (fU (fU (fU (fU (fU (fU (fU (fU (AM (b' := true) 169 rfl rfl rfl rfl ?_)))))))))
      refine uv (AW rfl rfl) (Aa ?_)
      obtain rfl := AL r297
      exact mi kr ⟨rfl, rfl, (sc rfl (sc rfl z8))⟩
     have r298 := Bg ou ak
     refine nF ak (um (nF ak (um (nF ak (um (nF ak ?_))))))
     obtain ⟨x4, jj, kb, r301⟩ := Bx r298
     obtain ⟨b302, o303, c304, vs305, p0, p3, hle308, ⟨a311, c312, rfl, h313⟩, hl309, p4⟩ := Av.at (Ar (Ac _)) eu ((ab, ce #[.int .i64 n, .int .i64 n2, .slice ad l.length ae, .slice af l2.length ah, .slice ai l3.length aj] 100) :: (aa ++ [])) jj.1 kb
     refine uv (AK underlying36 sizeOf33 rfl p0 rfl jj) (nF ak (uv (An isAgg33 rfl p3 (p4 0 (by decide))) (nF ak ?_)))
     obtain ⟨ok3, h314, p5⟩ := AG r301
     refine cV call18 (C2 h313 h314) ?_
     refine nF ak (um ?_)
     rcases Co ok3 with bd | bd
     ·have r317 := bt p5 bd
      refine nB bd (um (nB bd (um (nB bd ?_))))
      obtain ⟨b318, o319, c320, vs321, p6, p7, hle324, ⟨a327, c328, rfl, h329⟩, hl325, p8⟩ := Av.at (Ar (Ac _)) eu ((ab, ce #[.int .i64 n, .int .i64 n2, .slice ad l.length ae, .slice af l2.length ah, .slice ai l3.length aj] 100) :: (aa ++ [])) jj.1 kb
      refine uv (AK underlying36 sizeOf33 rfl p6 rfl jj) (nB bd (uv (An isAgg33 rfl p7 (p8 0 (by decide))) (nB bd ?_)))
      obtain ⟨ok4, h330, p9⟩ := AG r317
      refine cV call18 (C2 h329 h330) (nB bd (uv (BC rfl) (nF ak (uv (AW (Iy rfl bd) rfl) (nF ak (uv (Wu underlying4 rfl rfl) (uv (AH (A8 rfl ak) rfl) ?_)))))))
      refine um ?_
      by_cases bk : lr ≠ (!ok4)
      ·have r333 := Bf p9 bk
       refine fT bk (fT bk (fU (fU (fU (fU (fU (fU (fU (fU ?_)))))))))
       refine fU (fU (fU (fU (fU (fU (fU (fU (fT bk ?_))))))))
       refine uv (AW (Bn rfl bk) rfl) (Aa ?_)
       obtain rfl := AL r333
       exact mi kr ⟨rfl, rfl, (sc rfl (sc rfl z8))⟩
      have pa := Bg p9 bk
      refine nF bk (um (nF bk (um ?_)))
      rcases Co lr with al | al
      ·have r336 := bt pa al
       refine nB al (um (nB al (um (nB al ?_))))
       obtain ⟨b337, o338, c339, vs340, pb, pc, hle343, ⟨a346, c347, rfl, h348⟩, hl344, pd⟩ := Av.at (Ar (Ac _)) bh ((ab, ce #[.int .i64 n, .int .i64 n2, .slice ad l.length ae, .slice af l2.length ah, .slice ai l3.length aj] 100) :: (aa ++ [])) cp.1 dt
       refine uv (AK underlying103 sizeOf123 rfl pb rfl cp) (nB al (uv (An isAgg123 rfl pc (pd 0 (by decide))) (nB al ?_)))
       obtain ⟨x5, pe, pf, pg⟩ := Bx r336
       obtain ⟨b352, o353, c354, vs355, ph, pj, hle358, rfl, hl359, pk⟩ := Av.at (Ac _) h348 ((ab, ce #[.int .i64 n, .int .i64 n2, .slice ad l.length ae, .slice af l2.length ah, .slice ai l3.length aj] 100) :: (aa ++ [])) pe.1 pf
       refine uv (AK underlying123 sizeOf124 rfl ph rfl pe) (nB al (uv (An isAgg124 rfl pj (pk 0 (by decide))) (nB al (uv (CR rfl rfl) ?_))))
       refine nB al (um ?_)
       by_cases ax : x5 = 2
       ·have r362 := Bf pg ax
        refine fT ax (fT ax (fT ax (fT ax (fT ax (fT ax (fT ax (nB al ?_)))))))
        refine uv (AW (Bn rfl ax) rfl) (nF bk (uv (AW (Iy rfl al) rfl) (uv (AH (A8 rfl bk) rfl) (Aa ?_))))
        obtain rfl := AL r362
        exact mi kr ⟨rfl, rfl, (sc rfl (sc rfl z8))⟩
       have r363 := Bg pg ax
       refine nF ax (um (nF ax (um (nF ax ?_))))
       obtain ⟨b364, o365, c366, vs367, pn, po, hle370, ⟨a373, c374, rfl, h375⟩, hl371, pq⟩ := Av.at (Ar (Ac _)) bh ((ab, ce #[.int .i64 n, .int .i64 n2, .slice ad l.length ae, .slice af l2.length ah, .slice ai l3.length aj] 100) :: (aa ++ [])) cp.1 dt
       refine uv (AK underlying103 sizeOf123 rfl pn rfl cp) (nF ax (uv (An isAgg123 rfl po (pq 0 (by decide))) (nF ax ?_)))
       obtain ⟨x6, pr, pt, r378⟩ := Bx r363
       obtain ⟨b379, o380, c381, vs382, pv, pw, hle385, rfl, hl386, px⟩ := Av.at (Ac _) h375 ((ab, ce #[.int .i64 n, .int .i64 n2, .slice ad l.length ae, .slice af l2.length ah, .slice ai l3.length aj] 100) :: (aa ++ [])) pr.1 pt
       refine uv (AK underlying123 sizeOf124 rfl pv rfl pr) (nF ax (uv (An isAgg124 rfl pw (px 0 (by decide))) (nF ax (uv (CR rfl rfl) (nB al (uv (AH (A8 rfl ax) rfl) (nF bk ?_)))))))
       refine uv (AW (Iy rfl al) rfl) (uv (AH (A8 rfl bk) rfl) (Aa ?_))
       obtain rfl := AL r378
       exact mi kr ⟨rfl, rfl, (sc rfl (sc rfl z8))⟩
      have r388 := bf pa al
      refine fB al (fB al (fB al (fB al (fB al (fB al (fB al (fB al (fU (fU ?_)))))))))
      refine fU (fU (fU (fU (fU (fB al (nF bk ?_))))))
      refine uv (AH (Iy rfl al) rfl) (uv (AH (A8 rfl bk) rfl) (Aa ?_))
      obtain rfl := AL r388
      exact mi kr ⟨rfl, rfl, (sc rfl (sc rfl z8))⟩
     have py := bf p5 bd
     refine fB bd (fB bd (fB bd (fB bd (fB bd (fB bd (nF ak ?_))))))
     refine uv (AH (Iy rfl bd) rfl) (nF ak (uv (Wu underlying4 rfl rfl) (uv (AH (A8 rfl ak) rfl) (um ?_))))
     by_cases bl : lr ≠ false
     ·have r391 := Bf py bl
      refine fT bl (fT bl (fU (fU (fU (fU (fU (fU (fU (fU ?_)))))))))
      refine fU (fU (fU (fU (fU (fU (fU (fU (fT bl ?_))))))))
      refine uv (AW (Bn rfl bl) rfl) (Aa ?_)
      obtain rfl := AL r391
      exact mi kr ⟨rfl, rfl, (sc rfl (sc rfl z8))⟩
     have pz := Bg py bl
     refine nF bl (um (nF bl (um ?_)))
     rcases Co lr with ao | ao
     ·have r394 := bt pz ao
      refine nB ao (um (nB ao (um (nB ao ?_))))
      obtain ⟨b395, o396, c397, vs398, q0, qb, hle401, ⟨a404, c405, rfl, h406⟩, hl402, qc⟩ := Av.at (Ar (Ac _)) bh ((ab, ce #[.int .i64 n, .int .i64 n2, .slice ad l.length ae, .slice af l2.length ah, .slice ai l3.length aj] 100) :: (aa ++ [])) cp.1 dt
      refine uv (AK underlying103 sizeOf123 rfl q0 rfl cp) (nB ao (uv (An isAgg123 rfl qb (qc 0 (by decide))) (nB ao ?_)))
      obtain ⟨x7, qd, qe, qf⟩ := Bx r394
      obtain ⟨b410, o411, c412, vs413, qg, qh, hle416, rfl, hl417, qi⟩ := Av.at (Ac _) h406 ((ab, ce #[.int .i64 n, .int .i64 n2, .slice ad l.length ae, .slice af l2.length ah, .slice ai l3.length aj] 100) :: (aa ++ [])) qd.1 qe
      refine uv (AK underlying123 sizeOf124 rfl qg rfl qd) (nB ao (uv (An isAgg124 rfl qh (qi 0 (by decide))) (nB ao (uv (CR rfl rfl) ?_))))
      refine nB ao (um ?_)
      by_cases ay : x7 = 2
      ·have r420 := Bf qf ay
       refine fT ay (fT ay (fT ay (fT ay (fT ay (fT ay (fT ay (nB ao ?_)))))))
       refine uv (AW (Bn rfl ay) rfl) (nF bl (uv (AW (Iy rfl ao) rfl) (uv (AH (A8 rfl bl) rfl) (Aa ?_))))
       obtain rfl := AL r420
       exact mi kr ⟨rfl, rfl, (sc rfl (sc rfl z8))⟩
      have r421 := Bg qf ay
      refine nF ay (um (nF ay (um (nF ay ?_))))
      obtain ⟨b422, o423, c424, vs425, qj, qk, hle428, ⟨a431, c432, rfl, h433⟩, hl429, ql⟩ := Av.at (Ar (Ac _)) bh ((ab, ce #[.int .i64 n, .int .i64 n2, .slice ad l.length ae, .slice af l2.length ah, .slice ai l3.length aj] 100) :: (aa ++ [])) cp.1 dt
      refine uv (AK underlying103 sizeOf123 rfl qj rfl cp) (nF ay (uv (An isAgg123 rfl qk (ql 0 (by decide))) (nF ay ?_)))
      obtain ⟨x8, qn, qo, r436⟩ := Bx r421
      obtain ⟨b437, o438, c439, vs440, qp, qq, hle443, rfl, hl444, qs⟩ := Av.at (Ac _) h433 ((ab, ce #[.int .i64 n, .int .i64 n2, .slice ad l.length ae, .slice af l2.length ah, .slice ai l3.length aj] 100) :: (aa ++ [])) qn.1 qo
      refine uv (AK underlying123 sizeOf124 rfl qp rfl qn) (nF ay (uv (An isAgg124 rfl qq (qs 0 (by decide))) (nF ay (uv (CR rfl rfl) (nB ao (uv (AH (A8 rfl ay) rfl) (nF bl ?_)))))))
      refine uv (AW (Iy rfl ao) rfl) (uv (AH (A8 rfl bl) rfl) (Aa ?_))
      obtain rfl := AL r436
      exact mi kr ⟨rfl, rfl, (sc rfl (sc rfl z8))⟩
     have r446 := bf pz ao
     refine fB ao (fB ao (fB ao (fB ao (fB ao (fB ao (fB ao (fB ao (fU (fU ?_)))))))))
     refine fU (fU (fU (fU (fU (fB ao (nF bl ?_))))))
     refine uv (AH (Iy rfl ao) rfl) (uv (AH (A8 rfl bl) rfl) (Aa ?_))
     obtain rfl := AL r446
     exact mi kr ⟨rfl, rfl, (sc rfl (sc rfl z8))⟩
    refine A5 rfl (fun lv => ?_) (fun lv => ?_)
    ·have r449 := bt lu lv
     refine AN (ua (Aa ?_))
     refine kW kn ?_
     refine Ao (Ah (AA (Ah (Ah (AA (Ah ?_))))))
     refine BU results5 ?_
     obtain rfl := AL r449
     exact rfl
    have r450 := bf lu lv
    refine Aq (AN ?_)
    refine uv (AS isAgg100 sizeOf100 rfl (Has.own 0 rfl) (CK rfl) rfl) (um ?_)
    refine uv (BH (v := .agg #[.int .i64 k6, .int .i64 0, .bool true]) rfl (by intro w; kernel_rfl)) ?_
    refine um ?_
    refine uv (BH (v := .agg #[.int .i64 k6, .int .i64 1, .bool false]) rfl (by intro w; kernel_rfl)) ?_
    refine bA (cs := #[.int .i64 k6, .int .i64 0, .bool true, .int .i64 k6, .int .i64 1, .bool false]) SV [.agg #[.int .i64 k6, .int .i64 0, .bool true], .agg #[.int .i64 k6, .int .i64 1, .bool false]] ?_; intro b451 qt
    refine Bi 0 rfl qt ?_; intro F452 cx qu
    refine AI rfl ?_
    replace bj := bj.mono (Ar (Ar (Ac _))) cx
    replace bn := bn.mono (Ac _) cx
    replace bz := bz.mono (Au (Ac _) (Au (Ac _) (Ac _))) cx
    replace bh := bh.mono (Ar (Ac _)) cx
    have h455 : Av 3 (Br (iE .i64) (Br (iE .i64) bE)) F452 (some ⟨b451, 0, none⟩) 2 [(k6, 0, true), (k6, 1, false)] := Av.BM (Au (Ac _) (Au (Ac _) EL)) (vss := [[.int .i64 k6, .int .i64 0, .bool true], [.int .i64 k6, .int .i64 1, .bool false]]) (xs := [(k6, 0, true), (k6, 1, false)]) qu (.cons ⟨_, _, rfl, rfl, ⟨_, _, rfl, rfl, rfl⟩⟩ (.cons ⟨_, _, rfl, rfl, ⟨_, _, rfl, rfl, rfl⟩⟩ .nil)) rfl (by simp [maxLen])
    obtain ⟨l8, n7, h456, r457⟩ := Es r450
    refine c0 call35 (Kh bj bn bz h455 h456) ?_; rintro _ F458 _ cy hn460 ⟨a462, c463, rfl, rfl, h464⟩
    replace bj := bj.mono (Ar (Ar (Ac _))) cy
    replace bn := bn.mono (Ac _) cy
    replace bz := bz.mono (Au (Ac _) (Au (Ac _) (Ac _))) cy
    replace bh := bh.mono (Ar (Ac _)) cy
    refine AI (ln rfl) ?_
    refine um (ox rfl rfl rfl (ox rfl rfl rfl (ua (ua (Aa (As ?_))))))
    obtain ⟨k8, qw, lx⟩ := AG r457
    refine jE (((ab, ce #[.int .i64 n, .int .i64 n2, .slice ad l.length ae, .slice af l2.length ah, .slice ai l3.length aj] 100) :: (aa ++ []))) [(1, .int .u8 which), (5, .pointer (some ⟨ab, 0, none⟩)), (7, .slice eb l5.length ec), (9, .slice cj l6.length ck), (17, .slice de df dg), (18, .int .i64 k6), (138, .int .i64 n), (139, .int .i64 k6), (234, .bool k8)] ?_ ?_
    ·clear lx
     refine Am (um ?_)
     refine uv (B7 rfl rfl) (um ?_)
     by_cases aw : n7 ≠ 0
     ·have qx := Bf qw aw
      refine nT aw (um (nT aw ?_))
      refine uv (B7 rfl rfl) (uv (AW (Bn rfl aw) rfl) (um ?_))
      by_cases ca : n7 ≠ 6
      ·have r470 := Bf qx ca
       refine fT ca (fT ca (fU (fU (fT ca ?_))))
       refine uv (AW (Bn rfl ca) rfl) ?_
       refine um (AM (b' := true) 213 rfl rfl rfl rfl (AM (b' := true) 213 rfl rfl rfl rfl (AM (b' := true) 213 rfl rfl rfl rfl (fU (fU (fU (fU (fU (fU ?_)))))))))
       refine fU (fU (fU (fU (fU (fU (fU (fU (fU (fU ?_)))))))))
       refine AM (b' := true) 213 rfl rfl rfl rfl (uv (AW rfl rfl) (Aa ?_))
       obtain rfl := AL r470
       exact mi kr ⟨rfl, rfl, (sc rfl z8)⟩
      have qy := Bg qx ca
      refine nF ca (um (nF ca (um ?_)))
      rcases Co lr with dh | dh
      ·have r473 := bt qy dh
       refine nB dh (um (nB dh ?_))
       refine uv (B7 rfl rfl) (nF ca (uv (AW (Iy rfl dh) rfl) (uv (AH (A8 rfl ca) rfl) ?_)))
       refine um (fT aw (fT aw (fT aw (fU (fU (fU (fU (fU (fU ?_)))))))))
       refine fU (fU (fU (fU (fU (fU (fU (fU (fU (fU ?_)))))))))
       refine fT aw (uv (AW (Bn rfl aw) rfl) (Aa ?_))
       obtain rfl := AL r473
       exact mi kr ⟨rfl, rfl, (sc rfl z8)⟩
      have qz := bf qy dh
      refine fB dh (fB dh (nF ca ?_))
      refine uv (AH (Iy rfl dh) rfl) (uv (AH (A8 rfl ca) rfl) ?_)
      refine um (DO (b := false) 213 rfl rfl (um (DO (b := false) 213 rfl rfl ?_)))
      refine uv (CR rfl rfl) ?_
      refine DO (b := false) 213 rfl rfl (um ?_)
      by_cases aq : n7 = 0
      ·have r476 := Bf qz aq
       refine nT aq (um (nT aq (um (nT aq ?_))))
       obtain ⟨x9, jk, kh, r479⟩ := Bx r476
       obtain ⟨b480, o481, c482, vs483, re, rf, hle486, ⟨a489, c490, rfl, h491⟩, hl487, rh⟩ := Av.at (Ar (Ac _)) bh ((ab, ce #[.int .i64 n, .int .i64 n2, .slice ad l.length ae, .slice af l2.length ah, .slice ai l3.length aj] 100) :: (aa ++ [])) jk.1 kh
       refine uv (AK underlying103 sizeOf123 rfl re rfl jk) (nT aq (uv (An isAgg123 rfl rf (rh 0 (by decide))) (nT aq ?_)))
       obtain ⟨x10, ri, rj, rk⟩ := Bx r479
       obtain ⟨b495, o496, c497, vs498, rl, rm, hle501, rfl, hl502, rp⟩ := Av.at (Ac _) h491 ((ab, ce #[.int .i64 n, .int .i64 n2, .slice ad l.length ae, .slice af l2.length ah, .slice ai l3.length aj] 100) :: (aa ++ [])) ri.1 rj
       refine uv (AK underlying123 sizeOf124 rfl rl rfl ri) (nT aq (uv (An isAgg124 rfl rm (rp 0 (by decide))) (nT aq (uv (CR rfl rfl) ?_))))
       refine nT aq (um ?_)
       by_cases az : x10 = 2
       ·have r505 := Bf rk az
        refine fT az (fT az (fT az (fT az (fT az (fT az (fT az (nT aq ?_)))))))
        refine uv (AW (Bn rfl az) rfl) (DO (b := false) 213 rfl rfl (uv (AW (Bn rfl aq) rfl) (uv (AH rfl rfl) (Aa ?_))))
        obtain rfl := AL r505
        exact mi kr ⟨rfl, rfl, (sc rfl z8)⟩
       have r506 := Bg rk az
       refine nF az (um (nF az (um (nF az ?_))))
       obtain ⟨b507, o508, c509, vs510, rq, ru, hle513, ⟨a516, c517, rfl, h518⟩, hl514, ry⟩ := Av.at (Ar (Ac _)) bh ((ab, ce #[.int .i64 n, .int .i64 n2, .slice ad l.length ae, .slice af l2.length ah, .slice ai l3.length aj] 100) :: (aa ++ [])) jk.1 kh
       refine uv (AK underlying103 sizeOf123 rfl rq rfl jk) (nF az (uv (An isAgg123 rfl ru (ry 0 (by decide))) (nF az ?_)))
       obtain ⟨x11, rz, s5, r521⟩ := Bx r506
       obtain ⟨b522, o523, c524, vs525, s6, s7, hle528, rfl, hl529, s8⟩ := Av.at (Ac _) h518 ((ab, ce #[.int .i64 n, .int .i64 n2, .slice ad l.length ae, .slice af l2.length ah, .slice ai l3.length aj] 100) :: (aa ++ [])) rz.1 s5
       refine uv (AK underlying123 sizeOf124 rfl s6 rfl rz) (nF az (uv (An isAgg124 rfl s7 (s8 0 (by decide))) (nF az (uv (CR rfl rfl) (nT aq (uv (AH (A8 rfl az) rfl) (DO (b := false) 213 rfl rfl ?_)))))))
       refine uv (AW (Bn rfl aq) rfl) (uv (AH rfl rfl) (Aa ?_))
       obtain rfl := AL r521
       exact mi kr ⟨rfl, rfl, (sc rfl z8)⟩
      have r531 := Bg qz aq
      refine fF aq (fF aq (fF aq (fF aq (fF aq (fF aq (fF aq (fF aq (fU (fU ?_)))))))))
      refine fU (fU (fU (fU (fU (fF aq (DO (b := false) 213 rfl rfl ?_))))))
      refine uv (AH (A8 rfl aq) rfl) (uv (AH rfl rfl) (Aa ?_))
      obtain rfl := AL r531
      exact mi kr ⟨rfl, rfl, (sc rfl z8)⟩
     have s9 := Bg qw aw
     refine fF aw (fF aw ?_)
     refine uv (AH (A8 rfl aw) rfl) ?_
     refine um (DO (b := false) 206 rfl rfl (um (DO (b := false) 206 rfl rfl (um ?_))))
     rcases Co lr with di | di
     ·have sa := bt s9 di
      refine nB di (um (nB di ?_))
      refine uv (B7 rfl rfl) (DO (b := false) 206 rfl rfl (uv (AW (Iy rfl di) rfl) (uv (AH rfl rfl) ?_)))
      refine um (nF aw (um (nF aw ?_)))
      refine uv (CR rfl rfl) ?_
      refine nF aw (um ?_)
      by_cases ar : n7 = 0
      ·have r536 := Bf sa ar
       refine nT ar (um (nT ar (um (nT ar ?_))))
       obtain ⟨x12, jl, kj, r539⟩ := Bx r536
       obtain ⟨b540, o541, c542, vs543, sb, sd, hle546, ⟨a549, c550, rfl, h551⟩, hl547, se⟩ := Av.at (Ar (Ac _)) bh ((ab, ce #[.int .i64 n, .int .i64 n2, .slice ad l.length ae, .slice af l2.length ah, .slice ai l3.length aj] 100) :: (aa ++ [])) jl.1 kj
       refine uv (AK underlying103 sizeOf123 rfl sb rfl jl) (nT ar (uv (An isAgg123 rfl sd (se 0 (by decide))) (nT ar ?_)))
       obtain ⟨x13, sf, sg, sh⟩ := Bx r539
       obtain ⟨b555, o556, c557, vs558, si, sj, hle561, rfl, hl562, sk⟩ := Av.at (Ac _) h551 ((ab, ce #[.int .i64 n, .int .i64 n2, .slice ad l.length ae, .slice af l2.length ah, .slice ai l3.length aj] 100) :: (aa ++ [])) sf.1 sg
       refine uv (AK underlying123 sizeOf124 rfl si rfl sf) (nT ar (uv (An isAgg124 rfl sj (sk 0 (by decide))) (nT ar (uv (CR rfl rfl) ?_))))
       refine nT ar (um ?_)
       by_cases ba : x13 = 2
       ·have r565 := Bf sh ba
        refine fT ba (fT ba (fT ba (fT ba (fT ba (fT ba (fT ba (nT ar ?_)))))))
        refine uv (AW (Bn rfl ba) rfl) (nF aw (uv (AW (Bn rfl ar) rfl) (uv (AH (A8 rfl aw) rfl) (Aa ?_))))
        obtain rfl := AL r565
        exact mi kr ⟨rfl, rfl, (sc rfl z8)⟩
       have r566 := Bg sh ba
       refine nF ba (um (nF ba (um (nF ba ?_))))
       obtain ⟨b567, o568, c569, vs570, sq, ss, hle573, ⟨a576, c577, rfl, h578⟩, hl574, su⟩ := Av.at (Ar (Ac _)) bh ((ab, ce #[.int .i64 n, .int .i64 n2, .slice ad l.length ae, .slice af l2.length ah, .slice ai l3.length aj] 100) :: (aa ++ [])) jl.1 kj
       refine uv (AK underlying103 sizeOf123 rfl sq rfl jl) (nF ba (uv (An isAgg123 rfl ss (su 0 (by decide))) (nF ba ?_)))
       obtain ⟨x14, sv, sw, r581⟩ := Bx r566
       obtain ⟨b582, o583, c584, vs585, sx, sy, hle588, rfl, hl589, ta⟩ := Av.at (Ac _) h578 ((ab, ce #[.int .i64 n, .int .i64 n2, .slice ad l.length ae, .slice af l2.length ah, .slice ai l3.length aj] 100) :: (aa ++ [])) sv.1 sw
       refine uv (AK underlying123 sizeOf124 rfl sx rfl sv) (nF ba (uv (An isAgg124 rfl sy (ta 0 (by decide))) (nF ba (uv (CR rfl rfl) (nT ar (uv (AH (A8 rfl ba) rfl) (nF aw ?_)))))))
       refine uv (AW (Bn rfl ar) rfl) (uv (AH (A8 rfl aw) rfl) (Aa ?_))
       obtain rfl := AL r581
       exact mi kr ⟨rfl, rfl, (sc rfl z8)⟩
      have r591 := Bg sa ar
      refine fF ar (fF ar (fF ar (fF ar (fF ar (fF ar (fF ar (fF ar (fU (fU ?_)))))))))
      refine fU (fU (fU (fU (fU (fF ar (nF aw ?_))))))
      refine uv (AH (A8 rfl ar) rfl) (uv (AH (A8 rfl aw) rfl) (Aa ?_))
      obtain rfl := AL r591
      exact mi kr ⟨rfl, rfl, (sc rfl z8)⟩
     have tc := bf s9 di
     refine fB di (fB di (DO (b := false) 206 rfl rfl ?_))
     refine uv (AH (Iy rfl di) rfl) (uv (AH rfl rfl) ?_)
     refine um (DO (b := false) 213 rfl rfl (um (DO (b := false) 213 rfl rfl ?_)))
     refine uv (CR rfl rfl) ?_
     refine DO (b := false) 213 rfl rfl (um ?_)
     by_cases au : n7 = 0
     ·have r594 := Bf tc au
      refine nT au (um (nT au (um (nT au ?_))))
      obtain ⟨x15, jm, kl, r597⟩ := Bx r594
      obtain ⟨b598, o599, c600, vs601, td, te, hle604, ⟨a607, c608, rfl, h609⟩, hl605, tf⟩ := Av.at (Ar (Ac _)) bh ((ab, ce #[.int .i64 n, .int .i64 n2, .slice ad l.length ae, .slice af l2.length ah, .slice ai l3.length aj] 100) :: (aa ++ [])) jm.1 kl
      refine uv (AK underlying103 sizeOf123 rfl td rfl jm) (nT au (uv (An isAgg123 rfl te (tf 0 (by decide))) (nT au ?_)))
      obtain ⟨x16, tg, th, ti⟩ := Bx r597
      obtain ⟨b613, o614, c615, vs616, tj, tk, hle619, rfl, hl620, tm⟩ := Av.at (Ac _) h609 ((ab, ce #[.int .i64 n, .int .i64 n2, .slice ad l.length ae, .slice af l2.length ah, .slice ai l3.length aj] 100) :: (aa ++ [])) tg.1 th
      refine uv (AK underlying123 sizeOf124 rfl tj rfl tg) (nT au (uv (An isAgg124 rfl tk (tm 0 (by decide))) (nT au (uv (CR rfl rfl) ?_))))
      refine nT au (um ?_)
      by_cases bb : x16 = 2
      ·have r623 := Bf ti bb
       refine fT bb (fT bb (fT bb (fT bb (fT bb (fT bb (fT bb (nT au ?_)))))))
       refine uv (AW (Bn rfl bb) rfl) (DO (b := false) 213 rfl rfl (uv (AW (Bn rfl au) rfl) (uv (AH rfl rfl) (Aa ?_))))
       obtain rfl := AL r623
       exact mi kr ⟨rfl, rfl, (sc rfl z8)⟩
      have r624 := Bg ti bb
      refine nF bb (um (nF bb (um (nF bb ?_))))
      obtain ⟨b625, o626, c627, vs628, tn, tp, hle631, ⟨a634, c635, rfl, h636⟩, hl632, tq⟩ := Av.at (Ar (Ac _)) bh ((ab, ce #[.int .i64 n, .int .i64 n2, .slice ad l.length ae, .slice af l2.length ah, .slice ai l3.length aj] 100) :: (aa ++ [])) jm.1 kl
      refine uv (AK underlying103 sizeOf123 rfl tn rfl jm) (nF bb (uv (An isAgg123 rfl tp (tq 0 (by decide))) (nF bb ?_)))
      obtain ⟨x17, tr, tt, r639⟩ := Bx r624
      obtain ⟨b640, o641, c642, vs643, tu, tv, hle646, rfl, hl647, tw⟩ := Av.at (Ac _) h636 ((ab, ce #[.int .i64 n, .int .i64 n2, .slice ad l.length ae, .slice af l2.length ah, .slice ai l3.length aj] 100) :: (aa ++ [])) tr.1 tt
      refine uv (AK underlying123 sizeOf124 rfl tu rfl tr) (nF bb (uv (An isAgg124 rfl tv (tw 0 (by decide))) (nF bb (uv (CR rfl rfl) (nT au (uv (AH (A8 rfl bb) rfl) (DO (b := false) 213 rfl rfl ?_)))))))
      refine uv (AW (Bn rfl au) rfl) (uv (AH rfl rfl) (Aa ?_))
      obtain rfl := AL r639
      exact mi kr ⟨rfl, rfl, (sc rfl z8)⟩
     have r649 := Bg tc au
     refine fF au (fF au (fF au (fF au (fF au (fF au (fF au (fF au (fU (fU ?_)))))))))
     refine fU (fU (fU (fU (fU (fF au (DO (b := false) 213 rfl rfl ?_))))))
     refine uv (AH (A8 rfl au) rfl) (uv (AH rfl rfl) (Aa ?_))
     obtain rfl := AL r649
     exact mi kr ⟨rfl, rfl, (sc rfl z8)⟩
    refine A5 rfl (fun ly => ?_) (fun ly => ?_)
    ·have r652 := bt lx ly
     refine AN (ua (Aa ?_))
     refine kW kn ?_
     refine Ao (Ah (AA (Ah (Ah (AA (Ah ?_))))))
     refine BU results5 ?_
     obtain rfl := AL r652
     exact rfl
    have r653 := bf lx ly
    refine Aq (AN (um ?_))
    obtain ⟨g654, r655⟩ := A1 r653
    refine uv (Uk underlying5 underlying3 rfl g654) (uv (Ae Hw rfl) (uv (An isAgg33 rfl (Has.own 0 rfl) rfl) (uv (A7 underlying33 rfl) ?_)))
    obtain ⟨g656, r657⟩ := A1 r655
    refine uv (RG rfl rfl g656) ?_
    obtain ⟨hour, h658, r659⟩ := CH r657
    refine uv ((K3 rfl).i h658) (BX (uv (AS isAgg100 sizeOf100 rfl (Has.own 0 rfl) (CK rfl) rfl) ?_))
    refine um (um ?_)
    refine bA (cs := #[.int .i64 k6]) Cm [.int .i64 k6] ?_; intro b660 tx
    refine Bi 0 rfl tx ?_; intro F661 cz tz
    refine AI rfl ?_
    replace bj := bj.mono (Ar (Ar (Ac _))) cz
    replace bn := bn.mono (Ac _) cz
    replace bz := bz.mono (Au (Ac _) (Au (Ac _) (Ac _))) cz
    replace bh := bh.mono (Ar (Ac _)) cz
    have h664 : Av 1 (iE .i64) F661 (some ⟨b660, 0, none⟩) 1 [k6] := Av.BM (Ac _) (vss := [[.int .i64 k6]]) (xs := [k6]) tz (.cons rfl .nil) rfl (by simp [maxLen])
    obtain ⟨l9, n8, h665, u0⟩ := Es r659
    refine c0 call36 (Sc bj bn bz h664 h665) ?_; rintro _ F667 _ da hn669 ⟨a671, c672, rfl, rfl, jn⟩
    replace bj := bj.mono (Ar (Ar (Ac _))) da
    replace bn := bn.mono (Ac _) da
    replace bz := bz.mono (Au (Ac _) (Au (Ac _) (Ac _))) da
    replace bh := bh.mono (Ar (Ac _)) da
    refine AI (ln rfl) ?_
    refine um (ox rfl rfl rfl (ox rfl rfl rfl (ua (ua (Aa (As (AN (um ?_))))))))
    refine uv (B7 rfl rfl) (Aa ?_)
    refine cQ (fun ma => ?_) fun ma => ?_
    ·have r675 := Bf u0 ma
     refine As ?_
     obtain ⟨k9, u1, mb⟩ := AG r675
     refine jE (((ab, ce #[.int .i64 n, .int .i64 n2, .slice ad l.length ae, .slice af l2.length ah, .slice ai l3.length aj] 100) :: (aa ++ []))) [(1, .int .u8 which), (5, .pointer (some ⟨ab, 0, none⟩)), (7, .slice eb l5.length ec), (9, .slice cj l6.length ck), (17, .slice de df dg), (138, .int .i64 n), (139, .int .i64 k6), (261, .bool k9)] ?_ ?_
     ·clear mb
      refine Am (um ?_)
      refine uv (B7 rfl rfl) (um ?_)
      by_cases bc : n8 ≠ 6
      ·have r679 := Bf u1 bc
       refine fT bc (fT bc (fT bc (fT bc (fT bc (fT bc (fT bc ?_))))))
       refine uv (AW (Bn rfl bc) rfl) (Aa ?_)
       obtain rfl := AL r679
       exact mi kr ⟨rfl, rfl, z8⟩
      have r680 := Bg u1 bc
      refine nF bc (um (nF bc (um (nF bc ?_))))
      obtain ⟨x18, u2, u3, r683⟩ := Bx r680
      obtain ⟨b684, o685, c686, vs687, u4, u5, hle690, ⟨a693, c694, rfl, h695⟩, hl691, u6⟩ := Av.at (Ar (Ac _)) bh ((ab, ce #[.int .i64 n, .int .i64 n2, .slice ad l.length ae, .slice af l2.length ah, .slice ai l3.length aj] 100) :: (aa ++ [])) u2.1 u3
      refine uv (AK underlying103 sizeOf123 rfl u4 rfl u2) (nF bc (uv (An isAgg123 rfl u5 (u6 0 (by decide))) (nF bc ?_)))
      obtain ⟨x19, u7, u9, r698⟩ := Bx r683
      obtain ⟨b699, o700, c701, vs702, ub, uc, hle705, rfl, hl706, ud⟩ := Av.at (Ac _) h695 ((ab, ce #[.int .i64 n, .int .i64 n2, .slice ad l.length ae, .slice af l2.length ah, .slice ai l3.length aj] 100) :: (aa ++ [])) u7.1 u9
      refine uv (AK underlying123 sizeOf124 rfl ub rfl u7) (nF bc (uv (An isAgg124 rfl uc (ud 0 (by decide))) (nF bc (uv (CR rfl rfl) (uv (AH (A8 rfl bc) rfl) (Aa ?_))))))
      obtain rfl := AL r698
      exact mi kr ⟨rfl, rfl, z8⟩
     refine A5 rfl (fun mc => ?_) (fun mc => ?_)
     ·have r710 := bt mb mc
      refine AN (ua (Aa ?_))
      refine kW kn ?_
      refine Ao (Ah (Ah (AA (Ah (Ah (AA (Ah ?_)))))))
      refine BU results5 ?_
      obtain rfl := AL r710
      exact rfl
     have r711 := bf mb mc
     refine Aq (AT (Af ?_))
     refine Ay ?_
     exact mi kr ⟨r711, (((cx.trans cy).trans cz).trans da), rfl, z7⟩
    have r712 := Bg u0 ma
    refine Aq (AN ?_)
    refine uv (AS isAgg100 sizeOf100 rfl (Has.own 0 rfl) (CK rfl) rfl) ?_
    obtain ⟨n9, ue, l10, l11, l12, h713, r714⟩ := Rd r712
    refine c0 call37 (Qs bj bn bz h713) ?_; rintro _ uf _ km gb ⟨gg, gh, gk, du, gl, gm, gn, dv, a731, n735, c732, ug, rfl, rfl, db, bu, gp⟩
    replace jn := jn.mono (Ac _) km
    replace db := db.new fun p hp => gb p (by simp [hp])
    replace bu := bu.new fun p hp => gb p (by simp [hp])
    replace gp := gp.new fun p hp => gb p (by simp [hp])
    refine AI (lp (lp (lp (ln rfl)))) (kO (kf (fS (fS (fS fO))) kr) ?_)
    refine Bo rfl zeroValue100 ?_; intro dw hb737
    refine B1 (i := 0) sizeOf100 rfl rfl rfl (by simp [Value.oneCell']) rfl (CK rfl) (AI rfl (Aa ?_))
    obtain ⟨fg, h744, uh⟩ := AG r714
    refine A0 (fun e1 F1 L1 => ∃ (gq : Option Addr) (gr : Nat) (gu : Nat) (dx : LH), uf = F1 ∧ L1 = ((dw, ce #[.int .i64 n9, .int .i64 ue, .slice gg gh gk, .slice gl gm gn, .slice gq gr gu] 100) :: ((ab, ce #[.int .i64 n, .int .i64 n2, .slice ad l.length ae, .slice af l2.length ah, .slice ai l3.length aj] 100) :: (aa ++ (du ++ (dv ++ (dx ++ [])))))) ∧ e1.sub [(1, .int .u8 which), (5, .pointer (some ⟨ab, 0, none⟩)), (7, .slice eb l5.length ec), (9, .slice cj l6.length ck), (17, .slice de df dg), (18, .int .i64 k6), (25, .pointer (some ⟨dw, 0, none⟩)), (138, .int .i64 n), (139, .int .i64 k6)] ∧ Be K.w0.heap.size 132 3 (Br (iE .i64) (Br (iE .i64) (iE .i64))) F1 gq gr gu fg dx) ?_ ?_
    ·clear uh
     refine AN (um ?_)
     refine uv (A7 underlying33 rfl) ?_
     refine um (Aa ?_)
     refine Ap ?_
     refine Bh (fun fu8 e1 F1 L1 => LA l9 fu8 fun tl5 k10 => ∃ (bm : List (Int × Int × Int)) (gv : Option Addr) (gw : Nat) (gz : Nat) (dy : LH), Ds hour tl5 bm = some fg ∧ uf = F1 ∧ L1 = ((dw, ce #[.int .i64 n9, .int .i64 ue, .slice gg gh gk, .slice gl gm gn, .slice gv gw gz] 100) :: ((ab, ce #[.int .i64 n, .int .i64 n2, .slice ad l.length ae, .slice af l2.length ah, .slice ai l3.length aj] 100) :: (aa ++ (du ++ (dv ++ (dy ++ [])))))) ∧ e1.sub [(1, .int .u8 which), (5, .pointer (some ⟨ab, 0, none⟩)), (7, .slice eb l5.length ec), (9, .slice cj l6.length ck), (17, .slice de df dg), (18, .int .i64 k6), (22, .int .i64 hour), (25, .pointer (some ⟨dw, 0, none⟩)), (138, .int .i64 n), (139, .int .i64 k6), (264, .slice a671 l9.length c672), (265, .int .i64 (l9.length : Int)), (266, .int .i64 k10)] ∧ Be K.w0.heap.size 132 3 (Br (iE .i64) (Br (iE .i64) (iE .i64))) F1 gv gw gz bm dy) _ (m0 (kc (kc (kg (fS (fS (fS fP))) kr))) ⟨_, _, rfl, BL.start _, l12, a731, n735, c732, ug, h744, rfl, rfl, (sc rfl (sc rfl (sc rfl (sc rfl (sc rfl z8))))), gp⟩) ?_
     rintro fu8 e1 _ _ ⟨tl5, k10, ui, ia, bm, gv, gw, gz, dy, jo, rfl, rfl, uj, ko⟩
     refine AB _ uj (AN (uv (Bb rfl rfl) ?_))
     refine Aa (As ?_)
     refine cQ (fun jq => ?_) fun jq => ?_
     ·obtain ⟨mo, tl6, rfl, uk, uo, uq⟩ := BL.succ ia jq
      rw [Ds] at jo
      refine Aq (As ?_)
      refine Ap (AN ?_)
      obtain ⟨b761, o762, c763, vs764, ur, uu, hle767, rfl, hl768, uw⟩ := Av.at (Ac _) jn ((dw, ce #[.int .i64 n9, .int .i64 ue, .slice gg gh gk, .slice gl gm gn, .slice gv gw gz] 100) :: ((ab, ce #[.int .i64 n, .int .i64 n2, .slice ad l.length ae, .slice af l2.length ah, .slice ai l3.length aj] 100) :: (aa ++ (du ++ (dv ++ (dy ++ [])))))) uo.1 uk
      refine uv (AK underlying33 sizeOf3 rfl ur rfl uo) (uv (An isAgg3 rfl uu (uw 0 (by decide))) ?_)
      refine ua (Aa (Am ?_))
      refine uv (Ae GS rfl) (uv (An isAgg98 rfl (Has.own 0 rfl) rfl) ?_)
      refine um (um ?_)
      refine uv (BH (v := .agg #[.int .i64 hour, .int .i64 mo, .int .i64 1]) rfl (by intro w; kernel_rfl)) ?_
      refine bA (cs := #[.int .i64 hour, .int .i64 mo, .int .i64 1]) KU [.agg #[.int .i64 hour, .int .i64 mo, .int .i64 1]] ?_; intro b770 hb770
      obtain ⟨u, h771, g772, r773⟩ := GM jo
      refine Fm (xs := bm) (ys := [(hour, mo, 1)]) (zs := u) rfl KU rfl rfl (Nat.le_refl _) (fun _ => .c (.c (.c (.s (.s (.s .h)))))) ko (H2.box (vss := [[.int .i64 hour, .int .i64 mo, .int .i64 1]]) (ys := [(hour, mo, 1)]) 0 rfl (Au (Ac _) (Au (Ac _) (Ac _))) (.cons ⟨_, _, rfl, rfl, ⟨_, _, rfl, rfl, rfl⟩⟩ .nil) rfl rfl) h771 g772 (by decide) ?_; intro a774 n778 c775 ux uy
      refine kO (kd kr) (uv (Ae GS rfl) (Cv (i := 0) sizeOf98 rfl rfl rfl rfl (CK rfl) (AI rfl ?_)))
      refine Aa (AD (id := 7) (Am ?_))
      refine uv (Bd rfl rfl (BL.Eg ia jq (Av.lt jn))) ?_
      refine um (Aa ?_)
      subst ui; exact le kr ⟨_, _, rfl, uq, u, a774, n778, c775, ux, r773, rfl, rfl, (sc rfl (sc rfl (sc rfl (sc rfl (sc rfl z8))))), uy⟩
     obtain rfl := BL.zero ia jq
     rw [Ds] at jo
     refine AT (Af (Af ?_))
     refine Ay ?_
     obtain rfl := AL jo
     exact mi kr ⟨gv, gw, gz, dy, rfl, rfl, (sc rfl z8), ko⟩
    rintro e1 _ _ ⟨gq, gr, gu, dx, rfl, rfl, uz, bw⟩
    refine AB _ uz ?_
    refine As (AN ?_)
    refine uv (AS isAgg100 sizeOf100 rfl (Has.own 0 rfl) (CK rfl) rfl) (um ?_)
    refine uv (BH (v := .agg #[.int .i64 k6, .int .i64 1, .bool false]) rfl (by intro w; kernel_rfl)) ?_
    obtain ⟨ok5, n11, h781, r782⟩ := Es uh
    refine OG (Lt := du ++ (dv ++ (dx ++ []))) (Lr := (dw, ce #[.int .i64 n9, .int .i64 ue, .slice gg gh gk, .slice gl gm gn, .slice gq gr gu] 100) :: ((ab, ce #[.int .i64 n, .int .i64 n2, .slice ad l.length ae, .slice af l2.length ah, .slice ai l3.length aj] 100) :: (aa ++ []))) rfl call38 rfl rfl rfl (pT ((fC (fC (fS fP))).trans (pA ((fC (fC (fS fP))).trans (pA ((fC (fC (fS fP))).trans (pA pR)))))) (lp (lp (lp (ln rfl))))) (fun F2 h2 h3 => by rw [(Be.Eu db).1]; rw [(Be.Eu bu).1]; rw [(Be.Eu bw).1]; exact Rx (db.row (Ar (Ar (Ac _))) h2 (fun p hp => h3 p (List.mem_append_left _ hp))) (bu.row (Ac _) h2 (fun p hp => h3 p (List.mem_append_right _ (List.mem_append_left _ hp)))) (bw.row (Au (Ac _) (Au (Ac _) (Ac _))) h2 (fun p hp => h3 p (List.mem_append_right _ (List.mem_append_right _ (List.mem_append_left _ hp))))) h781) ?_
    refine um (ox rfl rfl rfl (ox rfl rfl rfl (ua (ua (Aa ?_)))))
    obtain ⟨k11, va, me⟩ := AG r782
    refine jE (((dw, ce #[.int .i64 n9, .int .i64 ue, .slice gg gh gk, .slice gl gm gn, .slice gq gr gu] 100) :: ((ab, ce #[.int .i64 n, .int .i64 n2, .slice ad l.length ae, .slice af l2.length ah, .slice ai l3.length aj] 100) :: (aa ++ (du ++ (dv ++ (dx ++ []))))))) [(1, .int .u8 which), (5, .pointer (some ⟨ab, 0, none⟩)), (7, .slice eb l5.length ec), (9, .slice cj l6.length ck), (17, .slice de df dg), (18, .int .i64 k6), (25, .pointer (some ⟨dw, 0, none⟩)), (138, .int .i64 n), (139, .int .i64 k6), (291, .bool k11)] ?_ ?_
    ·clear me
     refine Am (um ?_)
     refine uv (B7 rfl rfl) (um ?_)
     by_cases dz : n11 ≠ 0
     ·have r786 := Bf va dz
      refine fT dz (fT dz ?_)
      refine uv (AW (Bn rfl dz) rfl) (Aa ?_)
      obtain rfl := AL r786
      exact mi kr ⟨rfl, rfl, (sc rfl (sc rfl z8))⟩
     have r787 := Bg va dz
     refine nF dz (um (nF dz ?_))
     refine uv (BC rfl) (uv (AH (A8 rfl dz) rfl) (Aa ?_))
     obtain rfl := AL r787
     exact mi kr ⟨rfl, rfl, (sc rfl (sc rfl z8))⟩
    refine A5 rfl (fun mg => ?_) (fun mg => ?_)
    ·have r790 := bt me mg
     refine AN (ua (Aa ?_))
     refine kW kn ?_
     refine Ao (Ah (AA (Ah (Ah (AA (Ah ?_))))))
     refine BU results5 ?_
     obtain rfl := AL r790
     exact rfl
    have r791 := bf me mg
    refine Aq (AN ?_)
    refine uv (AS isAgg100 sizeOf100 rfl (Has.own 0 rfl) (CK rfl) rfl) (um ?_)
    refine uv (BH (v := .agg #[.int .i64 k6, .int .i64 0, .bool true]) rfl (by intro w; kernel_rfl)) ?_
    refine um ?_
    refine uv (BH (v := .agg #[.int .i64 k6, .int .i64 1, .bool false]) rfl (by intro w; kernel_rfl)) ?_
    refine bA (cs := #[.int .i64 k6, .int .i64 0, .bool true, .int .i64 k6, .int .i64 1, .bool false]) SV [.agg #[.int .i64 k6, .int .i64 0, .bool true], .agg #[.int .i64 k6, .int .i64 1, .bool false]] ?_; intro b792 vb
    obtain rfl := (Be.Eu db).1
    refine C1 (Nat.le_refl _) (Ar (Ar (Ac _))) (fC (fC (fC (fS fP)))) db ?_; intro F793 ib er
    replace bu := bu.mono (Ac _) ib
    replace bw := bw.mono (Au (Ac _) (Au (Ac _) (Ac _))) ib
    obtain rfl := (Be.Eu bu).1
    refine C1 (Nat.le_refl _) (Ac _) (fC (fC (fC (fS fP)))) bu ?_; intro F796 ic ie
    replace er := er.mono (Ar (Ar (Ac _))) ic
    replace bw := bw.mono (Au (Ac _) (Au (Ac _) (Ac _))) ic
    obtain rfl := (Be.Eu bw).1
    refine C1 (Nat.le_refl _) (Au (Ac _) (Au (Ac _) (Ac _))) (fC (fC (fC (fS fP)))) bw ?_; intro F799 ig mh
    replace er := er.mono (Ar (Ar (Ac _))) ig
    replace ie := ie.mono (Ac _) ig
    refine Bi 0 rfl vb ?_; intro F802 fh vc
    refine AI rfl ?_
    replace er := er.mono (Ar (Ar (Ac _))) fh
    replace ie := ie.mono (Ac _) fh
    replace mh := mh.mono (Au (Ac _) (Au (Ac _) (Ac _))) fh
    have h805 : Av 3 (Br (iE .i64) (Br (iE .i64) bE)) F802 (some ⟨b792, 0, none⟩) 2 [(k6, 0, true), (k6, 1, false)] := Av.BM (Au (Ac _) (Au (Ac _) EL)) (vss := [[.int .i64 k6, .int .i64 0, .bool true], [.int .i64 k6, .int .i64 1, .bool false]]) (xs := [(k6, 0, true), (k6, 1, false)]) vc (.cons ⟨_, _, rfl, rfl, ⟨_, _, rfl, rfl, rfl⟩⟩ (.cons ⟨_, _, rfl, rfl, ⟨_, _, rfl, rfl, rfl⟩⟩ .nil)) rfl (by simp [maxLen])
    obtain ⟨l13, n12, h806, vd⟩ := Es r791
    refine c0 call35 (Kh er ie mh h805 h806) ?_; rintro _ F808 _ ve hn810 ⟨a812, c813, rfl, rfl, h814⟩
    refine AI (ln rfl) ?_
    refine um (ox rfl rfl rfl (ox rfl rfl rfl (ua (ua (BX (um ?_))))))
    refine uv (B7 rfl rfl) (Aa ?_)
    refine cQ (fun mj => ?_) fun mj => ?_
    ·have r816 := Bf vd mj
     refine AN (ua (Aa ?_))
     refine kW kn ?_
     refine Ao (AA (Ah (Ah (AA (Ah ?_)))))
     refine BU results5 ?_
     obtain rfl := AL r816
     exact rfl
    have r817 := Bg vd mj
    refine Aq (AD (id := 5) ?_)
    exact mi (kd kr) ⟨r817, (((((((((cx.trans cy).trans cz).trans da).trans km).trans ib).trans ic).trans ig).trans fh).trans ve), rfl, z7⟩
   rintro e1 F820 _ ⟨vf, vg, rfl, vh⟩
   refine AB _ vh ?_
   rw [Ho] at vf
   refine Am (uv (Bd rfl rfl (Dc.Eg ga ji g266)) ?_)
   refine um (Aa ?_)
   exact le kr ⟨_, ot, vf, (br.trans vg), rfl, z7⟩
  obtain rfl := Dc.zero ga ji
  rw [Cn] at jh
  refine AT (Af (Af ?_))
  refine Ay ?_
  exact mi kn ⟨jh, br, rfl, (sn _)⟩
 rintro e1 F824 _ ⟨vi, hF825, rfl, vj⟩
 refine AB _ vj ?_
 rw [Hj] at vi
 refine AN ?_
 obtain ⟨ok6, h826, r827⟩ := AG vi
 refine cV call9 (Lx h826) ?_
 refine ua (Aa (Ao ?_))
 refine BU results5 ?_
 obtain rfl := AL r827
 exact rfl
end Go.Proofs.YtfmapnhfamoecaaGreat
