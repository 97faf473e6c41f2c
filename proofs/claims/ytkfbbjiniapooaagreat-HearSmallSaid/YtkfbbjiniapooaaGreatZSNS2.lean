/- The walks that this claim needs, printed by a program of mine; part 2. -/
import Derived.Test.YtkfbbjiniapooaaGreatZSNS1
namespace Go.Proofs.YtkfbbjiniapooaaGreat
open Go.SH Go.PL
open Tryz 
variable {F : FS} {BQ n p Cw r3 stand AF wide AK : Int} {AI l Ac s1 s2 table HR : List Int} {WV WS A4 Mm Ae PG PM DF Ja : Nat} {Wg Wu A3 Mq Af PH PE DH I9 : Option Addr}
set_option maxHeartbeats 1000000 in
theorem Pw (aa : AL 1 (iE .i64) F Af Ae Ac) {r : Int} {r2 : List Int} (hr : LI wide Ac Cw = some (r, r2, r3)) :
    SH.Spec Tryz.prog 20 #[.agg #[.int .i64 wide, .slice Af Ac.length Ae], .int .i64 Cw] F [] fun F' L' v => ∃ (av : Option Addr) (aw : Nat) (ax : Nat) (ay : LH), v = .tuple #[.agg #[.int .i64 r, .slice av aw ax], .int .i64 r3] ∧ L' = ay ++ [] ∧ AN 0 32 1 (iE .i64) F' av aw ax r2 ay := by
 refine sp func20 ntmps20 fun K _ _ => ?_
 rw [LI] at hr
 refine AM ?_
 refine Bu rfl rfl ?_; intro b1 ca
 refine A6 rfl zeroValue25 ?_; intro b2 cb
 refine ua (Aa (Ar (AM ?_)))
 refine uv (As isAgg25 sizeOf25 rfl (Has.own 1 rfl) (Be rfl) rfl) ?_
 obtain ⟨n, h3, r4⟩ := Aw hr
 refine cV call12 (EZ aa h3) ?_
 refine ua (BX (um ?_))
 refine uv (Bo rfl rfl) (Aa ?_)
 refine cQ (fun c5 => ?_) fun c5 => ?_
 ·have r6 := AO r4 c5
  refine AM ?_
  refine uv (Bc (v := .agg #[.int .i64 0, .slice none 0 0]) rfl (by intro w; kernel_rfl)) ?_
  refine um (Bg (i := 0) sizeOf25 rfl rfl rfl (by simp [Value.oneCell']) rfl (Be rfl) (AJ rfl ?_))
  refine ua (Aa ?_)
  refine kW (kc kn) ?_
  refine Ap (Ah ?_)
  refine Ba results20 (Fh (cs := #[.int .i64 0, .slice none 0 0]) isAgg25 sizeOf25 rfl (Has.own 0 rfl) (Be rfl) rfl) (AG rfl) (s1 sr) ?_
  obtain ⟨rfl, rfl, rfl⟩ := Me r6
  exact ⟨_, _, _, [], rfl, rfl, AN.nil _ _ _ _ _⟩
 have r7 := AP r4 c5
 refine Al (Ar (AM ?_))
 refine uv (As isAgg25 sizeOf25 rfl (Has.own 1 rfl) (Be rfl) rfl) (um ?_)
 obtain ⟨n2, h8, r9⟩ := Aw r7
 refine cV call62 (Fl aa h8) ?_
 refine ua (BX (um ?_))
 refine uv (Bo rfl rfl) (Aa ?_)
 refine cQ (fun H4 => ?_) fun H4 => ?_
 ·have ba := AO r9 H4
  refine AM ?_
  refine uv (Bc (v := .agg #[.int .i64 0, .slice none 0 0]) rfl (by intro w; kernel_rfl)) ?_
  refine um (Bg (i := 0) sizeOf25 rfl rfl rfl (by simp [Value.oneCell']) rfl (Be rfl) (AJ rfl ?_))
  refine ua (Aa ?_)
  refine kW (kc kn) ?_
  refine Ap (Ah ?_)
  refine Ba results20 (Fh (cs := #[.int .i64 0, .slice none 0 0]) isAgg25 sizeOf25 rfl (Has.own 0 rfl) (Be rfl) rfl) (AG rfl) (s1 sr) ?_
  obtain ⟨rfl, rfl, rfl⟩ := Me ba
  exact ⟨_, _, _, [], rfl, rfl, AN.nil _ _ _ _ _⟩
 have bb := AP r9 H4
 refine Al (Ar ?_)
 refine CF [(.pre, 7), (.still, 0), (.still, 1), (.still, 2), (.still, 3), (.still, 4), (.seq, 5), (.still, 6), (.alloc (.cells (.agg #[.int .i64 0, .slice none 0 0] : Value).cells 25 (0, 0)) (fun b => .pointer (some ⟨b, 0, none⟩)) [], 7), (.seq, 8)] (by kernel_rfl) (by kernel_rfl) (⟨⟨_, _, rfl, rfl, rfl, rfl, rfl, Gb zeroValue25⟩, trivial⟩) (by rfl) (by kernel_rfl) ?_
 refine ⟨⟨[], rfl, sn _, by kernel_rfl⟩, ?_⟩
 refine mS [2] rfl (Am Hx rfl) (mL [22] ([(b1, ce #[.int .i64 wide, .slice Af Ac.length Ae] 25)]) rfl (s0 (s1 (s2 sr))) (fun H F' L' af ah => Ao isAgg3 rfl ((Has.own 0 rfl).ext af ah) rfl) (mS [2] rfl (Am BN rfl) (mL [24] ([(b1, ce #[.int .i64 wide, .slice Af Ac.length Ae] 25)]) rfl (s0 (s1 (s2 sr))) (fun H F' L' af ah => Ao isAgg23 rfl ((Has.own 0 rfl).ext af ah) rfl) (mS [25] rfl (AX underlying23 rfl) ?_))))
 refine ⟨_, [(26, .int .i64 (Ac.length : Int))], rfl, rfl, z1, by kernel_rfl, ?_⟩; intro H
 obtain ⟨bc, bg⟩ := AW bb
 obtain ⟨l, bh, bj⟩ := B8 bg
 refine Ld (R := (iE .i64)) (z0 := 0) (zs := l) rfl FF (by decide) (Ad _) (fun _ => rfl) rfl bc bh (fun _ => .c (.c .n)) ?_; intro U9 ab ai aj
 refine Aa ⟨_, rfl, AY.refl _, [1, 0], by kernel_rfl, .inl (.inr (fun d h => by cases h; rfl)), (fc (s0 (s1 (s2 (s3 sr)))) (fc sm nm)), ?_⟩
 refine mS (v := .agg #[.int .i64 wide, .slice U9 ab ab]) [23, 27] rfl (Bc (v := .agg #[.int .i64 wide, .slice U9 ab ab]) rfl (by intro w; kernel_rfl)) ?_
 refine G9 rfl ?_; intro ak bk
 refine JK (L' := (ak, ce #[.int .i64 0, .slice none 0 0] 25) :: ((b2, ce #[.int .i64 0, .slice none 0 0] 25) :: ((b1, ce #[.int .i64 wide, .slice Af Ac.length Ae] 25) :: (ai ++ [])))) rfl ?_
 refine ⟨_, [(8, .pointer (some ⟨ak, 0, none⟩)), (28, .agg #[.int .i64 wide, .slice U9 ab ab])], rfl, rfl, z2, by kernel_rfl, ?_⟩; intro H
 refine Bg (i := 0) sizeOf25 rfl rfl rfl (by simp [Value.oneCell']) rfl (Be rfl) (AJ rfl ?_)
 refine Aa ⟨undef, rfl, AY.refl _, [], by kernel_rfl, .inl (.inl rfl), nm, ?_⟩
 refine DI (AM (uv (Am BN rfl) (uv (Ao isAgg23 rfl (Has.own 0 rfl) rfl) (uv (Am BN rfl) (uv (Ao isAgg23 rfl (Has.own 2 rfl) rfl) ?_)))))
 obtain ⟨out, bl, bm⟩ := B8 bj
 refine QS (ys := Ac) (zs := out) rfl FF (Ad _) rfl rfl (fun _ => .c (.c (.c .h))) aj (AL.src aa) bl ?_; intro ao ad
 refine BX (uv (Am BN rfl) (uv (Ao isAgg23 rfl (Has.own 0 rfl) rfl) (um ?_)))
 obtain ⟨x, aq, ar, bn⟩ := Bj bm
 obtain ⟨cc, cd, cf, bo, ae, bp, az, rfl, bq, br⟩ := AN.at (Ad _) ad (L := (ak, ce #[.int .i64 wide, .slice U9 ab ab] 25) :: ((b2, ce #[.int .i64 0, .slice none 0 0] 25) :: ((b1, ce #[.int .i64 wide, .slice Af Ac.length Ae] 25) :: (ao ++ [])))) (fC (fC (fC fP))) aq.1 ar
 refine uv (AA underlying23 sizeOf32 rfl ae rfl (AN.idx ad aq)) ?_
 obtain ⟨bu, bw, bx⟩ := B8 bn
 refine Cv (u := 2) sizeOf32 (Ad _) rfl ae rfl rfl (fun _ => .c (.c (.c .h))) ad bw aq ?_; intro bz au
 refine BX (uv (As isAgg25 sizeOf25 rfl (Has.own 0 rfl) (Be rfl) rfl) (Bg (i := 1) sizeOf25 rfl rfl rfl (by simp [Value.oneCell']) rfl (Be rfl) (AJ rfl ?_)))
 refine ua (Aa ?_)
 refine kW (kd (kc (kd kr))) (Ap (Ba results20 (Fh (cs := #[.int .i64 wide, .slice U9 ab ab]) isAgg25 sizeOf25 rfl (Has.own 0 rfl) (Be rfl) rfl) (AG rfl) (s1 (s4 sr)) ?_))
 obtain ⟨rfl, rfl, rfl⟩ := Me bx
 exact ⟨_, _, _, _, rfl, rfl, au.any⟩
theorem Ey {kind : Int} (aa : AL 1 (iE .i64) F Af Ae Ac) {r : Int} (hr : DE wide Ac p kind = some r) :
    Bz Tryz.prog 34 #[.agg #[.int .i64 wide, .slice Af Ac.length Ae], .int .i64 p, .int .i64 kind] F (.int .i64 r) := by
 refine sp func34 ntmps34 fun K _ _ => ?_
 rw [DE] at hr
 refine AM ?_
 refine Bu rfl rfl ?_; intro b1 ar
 refine ua (Aa (Ar (AM (um ?_))))
 refine uv (Am C0 rfl) (uv (Ao isAgg22 rfl (Has.own 0 rfl) rfl) (uv (AX underlying22 rfl) ?_))
 obtain ⟨g2, r3⟩ := AW hr
 refine uv (FD rfl rfl g2) ?_
 obtain ⟨ok, h4, r5⟩ := Aw r3
 refine cV call60 (CQ h4) (Aa ?_)
 refine AU rfl (fun c6 => ?_) (fun c6 => ?_)
 ·have r7 := bt r5 c6
  refine AM (ua (Aa ?_))
  refine kW kn ?_
  refine Ap (Ah ?_)
  refine B2 results34 ?_
  obtain rfl := AH r7
  exact rfl
 have r8 := bf r5 c6
 refine Al (Ar (AM ?_))
 refine uv (Am C0 rfl) (uv (Ao isAgg22 rfl (Has.own 0 rfl) rfl) (um ?_))
 obtain ⟨x, g9, ab, ah⟩ := Bj r8
 obtain ⟨Yr, au, OV, aj, ad, ae, ai, rfl, ak, af⟩ := AL.at (Ad _) aa ([(b1, ce #[.int .i64 wide, .slice Af Ac.length Ae] 45)]) g9.1 ab
 refine uv (AA underlying22 sizeOf3 rfl ad rfl g9) (uv (Ao isAgg3 rfl ae (af 0 (by decide))) (um (uv (Bo rfl rfl) (Aa ?_))))
 refine cQ (fun Jj => ?_) fun Jj => ?_
 ·have ao := AO ah Jj
  refine AM (ua (Aa ?_))
  refine kW kn ?_
  refine Ap (Ah ?_)
  refine B2 results34 ?_
  obtain rfl := AH ao
  exact rfl
 have aq := AP ah Jj
 refine Al (AM (ua (Aa ?_)))
 refine kW kn (Ap (B2 results34 ?_))
 obtain rfl := AH aq
 exact rfl
set_option maxHeartbeats 1000000 in
theorem Mx (aa : AL 1 (iE .i64) F Af Ae Ac) {r : Int} {r2 : List Int} (hr : I4 wide Ac Cw = some (r, r2, r3)) :
    SH.Spec Tryz.prog 21 #[.agg #[.int .i64 wide, .slice Af Ac.length Ae], .int .i64 Cw] F [] fun F' L' v => ∃ (az : Option Addr) (ba : Nat) (bb : Nat) (bc : LH), v = .tuple #[.agg #[.int .i64 r, .slice az ba bb], .int .i64 r3] ∧ L' = bc ++ [] ∧ AN 0 3 1 (iE .i64) F' az ba bb r2 bc := by
 refine sp func21 ntmps21 fun K _ _ => ?_
 rw [I4] at hr
 refine AM ?_
 refine Bu rfl rfl ?_; intro b1 ca
 refine A6 rfl zeroValue45 ?_; intro b2 cb
 refine ua (Aa (Ar (AM ?_)))
 refine uv (As isAgg45 sizeOf45 rfl (Has.own 1 rfl) (Be rfl) rfl) ?_
 obtain ⟨n, h3, r4⟩ := Aw hr
 refine cV call17 (D4 aa h3) ?_
 refine ua (BX (um ?_))
 refine uv (Bo rfl rfl) (Aa ?_)
 refine cQ (fun c5 => ?_) fun c5 => ?_
 ·have r6 := AO r4 c5
  refine AM ?_
  refine uv (Bc (v := .agg #[.int .i64 0, .slice none 0 0]) rfl (by intro w; kernel_rfl)) ?_
  refine um (Bg (i := 0) sizeOf45 rfl rfl rfl (by simp [Value.oneCell']) rfl (Be rfl) (AJ rfl ?_))
  refine ua (Aa ?_)
  refine kW (kc kn) ?_
  refine Ap (Ah ?_)
  refine Ba results21 (Fh (cs := #[.int .i64 0, .slice none 0 0]) isAgg45 sizeOf45 rfl (Has.own 0 rfl) (Be rfl) rfl) (AG rfl) (s1 sr) ?_
  obtain ⟨rfl, rfl, rfl⟩ := Me r6
  exact ⟨_, _, _, [], rfl, rfl, AN.nil _ _ _ _ _⟩
 have r7 := AP r4 c5
 refine Al (Ar (AM ?_))
 refine uv (As isAgg45 sizeOf45 rfl (Has.own 1 rfl) (Be rfl) rfl) (um ?_)
 obtain ⟨n2, h8, r9⟩ := Aw r7
 refine cV call34 (Ey aa h8) ?_
 refine ua (BX (um ?_))
 refine uv (Bo rfl rfl) (Aa ?_)
 refine cQ (fun H4 => ?_) fun H4 => ?_
 ·have bh := AO r9 H4
  refine AM ?_
  refine uv (Bc (v := .agg #[.int .i64 0, .slice none 0 0]) rfl (by intro w; kernel_rfl)) ?_
  refine um (Bg (i := 0) sizeOf45 rfl rfl rfl (by simp [Value.oneCell']) rfl (Be rfl) (AJ rfl ?_))
  refine ua (Aa ?_)
  refine kW (kc kn) ?_
  refine Ap (Ah ?_)
  refine Ba results21 (Fh (cs := #[.int .i64 0, .slice none 0 0]) isAgg45 sizeOf45 rfl (Has.own 0 rfl) (Be rfl) rfl) (AG rfl) (s1 sr) ?_
  obtain ⟨rfl, rfl, rfl⟩ := Me bh
  exact ⟨_, _, _, [], rfl, rfl, AN.nil _ _ _ _ _⟩
 have bj := AP r9 H4
 refine Al (Ar ?_)
 refine CF [(.pre, 7), (.still, 0), (.still, 1), (.still, 3), (.still, 4), (.seq, 2), (.seq, 5), (.still, 6), (.alloc (.cells (.agg #[.int .i64 0, .slice none 0 0] : Value).cells 45 (0, 0)) (fun b => .pointer (some ⟨b, 0, none⟩)) [], 7), (.seq, 8)] (by kernel_rfl) (by kernel_rfl) (⟨⟨_, _, rfl, rfl, rfl, rfl, rfl, Gb zeroValue45⟩, trivial⟩) (by rfl) (by kernel_rfl) ?_
 refine ⟨⟨[], rfl, sn _, by kernel_rfl⟩, ?_⟩
 refine mS [2] rfl (Am Kg rfl) (mL [22] ([(b1, ce #[.int .i64 wide, .slice Af Ac.length Ae] 45)]) rfl (s0 (s1 (s2 sr))) (fun H F' L' aq ar => Ao isAgg3 rfl ((Has.own 0 rfl).ext aq ar) rfl) (mS [2] rfl (Am C0 rfl) (mL [25] ([(b1, ce #[.int .i64 wide, .slice Af Ac.length Ae] 45)]) rfl (s0 (s1 (s2 sr))) (fun H F' L' aq ar => Ao isAgg22 rfl ((Has.own 0 rfl).ext aq ar) rfl) ?_)))
 refine ⟨_, [], rfl, rfl, (sn _), by kernel_rfl, ?_⟩; intro H
 refine HB (cs := #[]) rfl rfl (HV Br) ?_; intro ao au
 refine Aa ⟨_, rfl, AY.refl _, [4, 3, 1, 0], by kernel_rfl, .inl (.inr (fun d h => by cases h; rfl)), (fc (s0 (s1 (s1 (s2 sr)))) (fc sm (fc (s0 (s1 (s1 (s2 sr)))) (fc sm nm)))), ?_⟩
 refine ⟨_, [(24, .slice (some ⟨ao, 0, none⟩) 0 0), (26, .slice Af Ac.length Ae)], rfl, rfl, z2, by kernel_rfl, ?_⟩; intro H
 have ae : AN K.w0.heap.size 3 1 (iE .i64) F (some ⟨ao, 0, none⟩) 0 0 ([] : List Int) [(ao, ce #[] 3)] := AN.BS (vss := []) (Ad _) au .nil rfl rfl (by simp [maxLen])
 generalize ab : ([(ao, ce #[] 3)] : LH) = af at ae
 refine AV (L' := af ++ [(b2, ce #[.int .i64 0, .slice none 0 0] 45), (b1, ce #[.int .i64 wide, .slice Af Ac.length Ae] 45)]) (by rw [← ab]; exact fO) ?_
 refine AV (L' := (b2, ce #[.int .i64 0, .slice none 0 0] 45) :: ((b1, ce #[.int .i64 wide, .slice Af Ac.length Ae] 45) :: (af ++ []))) (List.Perm.symm (fC (fC fP))) ?_
 obtain ⟨l, bk, bl, bm⟩ := E9 bj
 refine DB (xs := ([] : List Int)) (ys := Ac) (zs := l) rfl Br rfl rfl (Nat.le_refl _) (fun _ => .c (.c .h)) ae (AL.src aa) bk bl (by decide) ?_; intro ah ai Jj aj ad
 refine Aa ⟨_, rfl, AY.refl _, [1, 0], by kernel_rfl, .inl (.inr (fun d h => by cases h; rfl)), (fc (s0 (s1 (s2 (s3 sr)))) (fc sm nm)), ?_⟩
 refine mS (v := .agg #[.int .i64 wide, .slice ah ai Jj]) [23, 27] rfl (Bc (v := .agg #[.int .i64 wide, .slice ah ai Jj]) rfl (by intro w; kernel_rfl)) ?_
 refine G9 rfl ?_; intro av bn
 refine JK (L' := (av, ce #[.int .i64 0, .slice none 0 0] 45) :: ((b2, ce #[.int .i64 0, .slice none 0 0] 45) :: ((b1, ce #[.int .i64 wide, .slice Af Ac.length Ae] 45) :: (aj ++ [])))) rfl ?_
 refine ⟨_, [(8, .pointer (some ⟨av, 0, none⟩)), (28, .agg #[.int .i64 wide, .slice ah ai Jj])], rfl, rfl, z2, by kernel_rfl, ?_⟩; intro H
 refine Bg (i := 0) sizeOf45 rfl rfl rfl (by simp [Value.oneCell']) rfl (Be rfl) (AJ rfl ?_)
 refine Aa ⟨undef, rfl, AY.refl _, [], by kernel_rfl, .inl (.inl rfl), nm, ?_⟩
 refine DI (AM (uv (Am C0 rfl) (uv (Ao isAgg22 rfl (Has.own 0 rfl) rfl) (um ?_))))
 obtain ⟨x, aw, ax, bo⟩ := Bj bm
 obtain ⟨cc, cd, cf, bp, ak, bq, bg, rfl, br, bu⟩ := AN.at (Ad _) ad (L := (av, ce #[.int .i64 wide, .slice ah ai Jj] 45) :: ((b2, ce #[.int .i64 0, .slice none 0 0] 45) :: ((b1, ce #[.int .i64 wide, .slice Af Ac.length Ae] 45) :: (aj ++ [])))) (fC (fC (fC fP))) aw.1 ax
 refine uv (AA underlying22 sizeOf3 rfl ak rfl (AN.idx ad aw)) ?_
 obtain ⟨out, bw, bx⟩ := B8 bo
 refine Cv (u := 2) sizeOf3 (Ad _) rfl ak rfl rfl (fun _ => .c (.c (.c .h))) ad bw aw ?_; intro bz ay
 refine BX (uv (As isAgg45 sizeOf45 rfl (Has.own 0 rfl) (Be rfl) rfl) (Bg (i := 1) sizeOf45 rfl rfl rfl (by simp [Value.oneCell']) rfl (Be rfl) (AJ rfl ?_)))
 refine ua (Aa ?_)
 refine kW (kd (kc (kd kr))) (Ap (Ba results21 (Fh (cs := #[.int .i64 wide, .slice ah ai Jj]) isAgg45 sizeOf45 rfl (Has.own 0 rfl) (Be rfl) rfl) (AG rfl) (s1 (s4 sr)) ?_))
 obtain ⟨rfl, rfl, rfl⟩ := Me bx
 exact ⟨_, _, _, _, rfl, rfl, ay.any⟩
set_option maxHeartbeats 1000000 in
theorem H7 (aa : AL 1 (iE .i64) F PH PG s1) (ab : AL 1 (iE .i64) F PE PM s2) {r : Bool} (hr : CX s1 s2 = some r) :
    Bz Tryz.prog 100 #[.slice PH s1.length PG, .slice PE s2.length PM] F (.bool r) := by
 refine sp func100 ntmps100 fun K _ _ => ?_
 rw [CX] at hr
 refine AM (ua (Aa (Ar (AM (um ?_)))))
 refine uv (AX underlying23 rfl) (um (uv (AX underlying23 rfl) (uv (Bo rfl rfl) (Aa ?_))))
 refine cQ (fun c1 => ?_) fun c1 => ?_
 ·have r2 := AO hr c1
  refine AM (ua (Aa (Ap (Ah ?_))))
  refine B2 results100 ?_
  obtain rfl := AH r2
  exact rfl
 have r3 := AP hr c1
 refine Al ?_
 refine AQ (fun e1 F1 L1 => DA = some r ∧ F = F1 ∧ L1 = [] ∧ e1.sub []) ?_ ?_
 ·refine AM (um ?_)
  refine uv (AX underlying23 rfl) ?_
  refine um (Aa ?_)
  refine Aq ?_
  refine A9 (fun aw e1 F1 L1 => LA s1 aw fun tl k => BE s2 tl k = some r ∧ F = F1 ∧ L1 = [] ∧ e1.sub [(0, .slice PH s1.length PG), (1, .slice PE s2.length PM), (12, .int .i64 (s1.length : Int)), (13, .int .i64 k)]) _ (m0 kr ⟨_, _, rfl, BO.start _, r3, rfl, rfl, z4⟩) ?_
  rintro aw e1 _ _ ⟨tl, k, bg, ad, r6, rfl, rfl, bh⟩
  refine Az _ bh (AM (uv (A7 rfl rfl) ?_))
  refine Aa (Ar ?_)
  refine cQ (fun c9 => ?_) fun c9 => ?_
  ·obtain ⟨x, bp, rfl, ae, ax, af⟩ := BO.succ ad c9
   rw [BE] at r6
   refine Al (Ar ?_)
   refine Aq ?_
   refine AM (um (ua ?_))
   refine dN ?_
   refine wm (wm ?_)
   obtain ⟨bq, br, JH, bj, ah, ai, ay, rfl, bk, aj⟩ := AL.at (Ad _) aa ([]) ax.1 ae
   refine wv (AA underlying23 sizeOf32 rfl ah rfl ax) (wv (Ao isAgg32 rfl ai (aj 0 (by decide))) ?_)
   refine wm (wm ?_)
   obtain ⟨x2, az, ak, ba⟩ := Bj r6
   obtain ⟨bu, bw, Mi, bl, ao, aq, bb, rfl, bm, ar⟩ := AL.at (Ad _) ab ([]) az.1 ak
   refine wv (AA underlying23 sizeOf32 rfl ao rfl az) (wv (Ao isAgg32 rfl aq (ar 0 (by decide))) (wv (Bo rfl rfl) (BD ?_)))
   refine cQ (fun au => ?_) fun au => ?_
   ·have bn := AO ba au
    refine AM (ua (Aa (Ap (AB (Ah (Ah (AB (Ah ?_))))))))
    refine B2 results100 ?_
    obtain rfl := AH bn
    exact rfl
   have bo := AP ba au
   refine Al (Av (id := 1) (Ak ?_))
   refine uv (A1 rfl rfl (BO.DZ ad c9 (AL.lt aa))) ?_
   refine um (Aa ?_)
   subst bg; exact le kr ⟨_, _, rfl, af, bo, rfl, rfl, z4⟩
  obtain rfl := BO.zero ad c9
  rw [BE] at r6
  refine AR (Aj (Aj ?_))
  refine Ay ?_
  exact mi kr ⟨r6, rfl, rfl, (sn _)⟩
 rintro e1 _ _ ⟨bc, rfl, rfl, av⟩
 refine Az _ av ?_
 rw [DA] at bc
 refine AM (ua (Aa (Ap ?_)))
 refine B2 results100 ?_
 obtain rfl := AH bc
 exact rfl
theorem Mk {a b : List Int} (aa : AL 1 (iE .i64) F Wg WV a) (ab : AL 1 (iE .i64) F Wu WS b) {r : Bool} (hr : FV a b = some r) :
    Bz Tryz.prog 64 #[.slice Wg a.length WV, .slice Wu b.length WS] F (.bool r) := by
 refine sp func64 ntmps64 fun K _ _ => ?_
 rw [FV] at hr
 refine AM (ua (BX (um (um ?_))))
 obtain ⟨ok, h1, r2⟩ := Aw hr
 refine cV call100 (H7 aa ab h1) ?_
 refine ua (Aa (Ap ?_))
 refine B2 results64 ?_
 obtain rfl := AH r2
 exact rfl
theorem Fg {ae : Int} {aa : Option Addr} {ab : Nat} {ad : List Int} (ah : AL 1 (iE .i64) F Af Ae Ac) (af : AL 1 (iE .i64) F aa ab ad) {r : Bool} (hr : Dz wide Ac ae ad = some r) :
    Bz Tryz.prog 23 #[.agg #[.int .i64 wide, .slice Af Ac.length Ae], .agg #[.int .i64 ae, .slice aa ad.length ab]] F (.bool r) := by
 refine sp func23 ntmps23 fun K _ _ => ?_
 rw [Dz] at hr
 refine AM ?_
 refine Bu rfl rfl ?_; intro b1 ai
 refine Bu rfl rfl ?_; intro b2 aj
 refine ua (BX ?_)
 refine uv (Am Hx rfl) (uv (Ao isAgg3 rfl (Has.own 1 rfl) rfl) (uv (Am Hx rfl) (uv (Ao isAgg3 rfl (Has.own 0 rfl) rfl) (uv (Bv rfl rfl) (um ?_)))))
 by_cases c3 : wide = ae
 ·have r4 := AO hr c3
  refine nT c3 (uv (Am BN rfl) (nT c3 (uv (Ao isAgg23 rfl (Has.own 1 rfl) rfl) (nT c3 (uv (Am BN rfl) (nT c3 (uv (Ao isAgg23 rfl (Has.own 0 rfl) rfl) ?_)))))))
  refine nT c3 ?_
  obtain ⟨ok, h5, r6⟩ := Aw r4
  refine cV call64 (Mk ah af h5) (uv (Au (A5 rfl c3) rfl) ?_)
  refine ua (Aa ?_)
  refine kW kn (Ap (B2 results23 ?_))
  obtain rfl := AH r6
  exact rfl
 have r7 := AP hr c3
 refine fF c3 (fF c3 (fF c3 (fF c3 (fF c3 ?_))))
 refine uv (At (AZ rfl c3) rfl) ?_
 refine ua (Aa ?_)
 refine kW kn (Ap (B2 results23 ?_))
 obtain rfl := AH r7
 exact rfl
set_option maxHeartbeats 1000000 in
theorem Ek (aa : AL 1 (iE .i64) F Af Ae Ac) {r : Bool} (hr : CV wide Ac AK AF Cw = some r) :
    Bz Tryz.prog 5 #[.agg #[.int .i64 wide, .slice Af Ac.length Ae], .agg #[.int .i64 AK, .int .i64 AF], .int .i64 Cw] F (.bool r) := by
 refine sp func5 ntmps5 fun K _ _ => ?_
 rw [CV] at hr
 refine AM ?_
 refine Bu rfl rfl ?_; intro b1 fv
 refine Bu rfl rfl ?_; intro b2 fw
 refine ua (Aa (Ar (AM ?_)))
 refine uv (As isAgg25 sizeOf25 rfl (Has.own 1 rfl) (Be rfl) rfl) ?_
 obtain ⟨ok, h3, r4⟩ := Aw hr
 refine cV call14 (FO aa h3) (Aa ?_)
 refine AU rfl (fun c5 => ?_) (fun c5 => ?_)
 ·have r6 := bt r4 c5
  refine AM ?_
  obtain ⟨fx, h7, r8⟩ := Aw r6
  refine cV call13 (BR h7) ?_
  refine ua (Aa ?_)
  refine kW kn ?_
  refine Ap (Ah ?_)
  refine B2 results5 ?_
  obtain rfl := AH r8
  exact rfl
 have r9 := bf r4 c5
 refine Al (Ar ?_)
 refine CF [(.pre, 4), (.pre, 5), (.still, 0), (.still, 2), (.seq, 1), (.seq, 3), (.alloc (.cells (.agg #[.int .i64 0, .slice none 0 0] : Value).cells 25 (0, 0)) (fun b => .pointer (some ⟨b, 0, none⟩)) [], 4), (.alloc (.cells (.agg #[.int .i64 0, .slice none 0 0] : Value).cells 45 (0, 0)) (fun b => .pointer (some ⟨b, 0, none⟩)) [], 5), (.seq, 6), (.seq, 7)] (by kernel_rfl) (by kernel_rfl) (⟨⟨_, _, rfl, rfl, rfl, rfl, rfl, Gb zeroValue25⟩, ⟨⟨_, _, rfl, rfl, rfl, rfl, rfl, Gb zeroValue45⟩, trivial⟩⟩) (by rfl) (by kernel_rfl) ?_
 refine ⟨⟨[], rfl, sn _, by kernel_rfl⟩, ?_⟩
 refine ⟨⟨[], rfl, sn _, by kernel_rfl⟩, ?_⟩
 refine mL [3] ([(b1, ce #[.int .i64 wide, .slice Af Ac.length Ae] 25)]) rfl (s0 (s1 (s2 sr))) (fun H F' L' aj ak => As isAgg25 sizeOf25 rfl ((Has.own 0 rfl).ext aj ak) (Be rfl) rfl) (mL [3] ([(b1, ce #[.int .i64 wide, .slice Af Ac.length Ae] 25)]) rfl (s0 (s1 (s2 sr))) (fun H F' L' aj ak => As isAgg25 sizeOf25 rfl ((Has.own 0 rfl).ext aj ak) (Be rfl) rfl) ?_)
 refine ⟨_, [(16, .agg #[.int .i64 wide, .slice Af Ac.length Ae])], rfl, rfl, z1, by kernel_rfl, ?_⟩; intro H
 obtain ⟨n, l, dy, dz⟩ := Bs r9
 refine c0 call15 (FJ aa dy) ?_; rintro _ fy _ ca cp ⟨HU, bb, FG, ad, rfl, rfl, ab⟩
 replace aa := aa.mono (Ad _) ca
 replace ab := ab.new fun p hp => cp p (by simp [hp])
 refine AJ (lp (ln rfl)) (kO (kf (fS fO) (kf (fS fO) kr)) ?_)
 refine Aa ⟨_, rfl, ca, [2], by kernel_rfl, .inl (.inr (fun d h => by cases h; rfl)), (fc (s0 (s1 (s2 (s3 sr)))) nm), ?_⟩
 refine ⟨_, [(18, .agg #[.int .i64 wide, .slice Af Ac.length Ae])], rfl, rfl, z1, by kernel_rfl, ?_⟩; intro H
 obtain ⟨n2, l2, eb, eg⟩ := Bs dz
 refine c0 call16 (DK aa eb) ?_; rintro _ ga _ bn cq ⟨bl, bm, Jl, ah, rfl, rfl, ao⟩
 replace aa := aa.mono (Ad _) bn
 replace ab := ab.mono (Ad _) bn
 replace ao := ao.new fun p hp => cq p (by simp [hp])
 refine AJ (lp (ln rfl)) (kO (kf (fS fO) (kf (fS fO) kr)) ?_)
 refine Aa ⟨_, rfl, bn, [], by kernel_rfl, .inl (.inl rfl), nm, ?_⟩
 refine G9 rfl ?_; intro au eh
 refine JK (L' := (au, ce #[.int .i64 0, .slice none 0 0] 25) :: ((b2, ce #[.int .i64 AK, .int .i64 AF] 29) :: ((b1, ce #[.int .i64 wide, .slice Af Ac.length Ae] 25) :: (ah ++ (ad ++ []))))) rfl ?_
 refine G9 rfl ?_; intro bc ei
 refine JK (L' := (bc, ce #[.int .i64 0, .slice none 0 0] 45) :: ((au, ce #[.int .i64 0, .slice none 0 0] 25) :: ((b2, ce #[.int .i64 AK, .int .i64 AF] 29) :: ((b1, ce #[.int .i64 wide, .slice Af Ac.length Ae] 25) :: (ah ++ (ad ++ [])))))) rfl ?_
 refine ⟨_, [(7, .pointer (some ⟨au, 0, none⟩)), (17, .agg #[.int .i64 n, .slice HU bb FG])], rfl, rfl, z2, by kernel_rfl, ?_⟩; intro H
 refine Bg (i := 1) sizeOf25 rfl rfl rfl (by simp [Value.oneCell']) rfl (Be rfl) (AJ rfl ?_)
 refine Aa ⟨undef, rfl, AY.refl _, [], by kernel_rfl, .inl (.inl rfl), nm, ?_⟩
 refine ⟨_, [(8, .pointer (some ⟨bc, 0, none⟩)), (19, .agg #[.int .i64 n2, .slice bl bm Jl])], rfl, rfl, z2, by kernel_rfl, ?_⟩; intro H
 refine Bg (i := 0) sizeOf45 rfl rfl rfl (by simp [Value.oneCell']) rfl (Be rfl) (AJ rfl ?_)
 refine Aa ⟨undef, rfl, AY.refl _, [], by kernel_rfl, .inl (.inl rfl), nm, ?_⟩
 refine DI (Ar ?_)
 obtain ⟨k, ej, cr⟩ := Aw eg
 refine jE (((bc, ce #[.int .i64 n2, .slice bl bm Jl] 45) :: ((au, ce #[.int .i64 n, .slice HU bb FG] 25) :: ((b1, ce #[.int .i64 wide, .slice Af Ac.length Ae] 25) :: (ad ++ (ah ++ [])))))) [(2, .int .i64 Cw), (3, .pointer (some ⟨b1, 0, none⟩)), (7, .pointer (some ⟨au, 0, none⟩)), (8, .pointer (some ⟨bc, 0, none⟩)), (34, .bool k)] ?_ ?_
 ·clear cr
  refine Iv (by kernel_rfl) (by kernel_rfl) (by kernel_rfl) (wv (As isAgg25 sizeOf25 rfl (Has.own 1 rfl) (Be rfl) rfl) ?_)
  obtain ⟨n3, en, eo⟩ := Aw ej
  refine JD (Lt := ad ++ []) (Lr := (bc, ce #[.int .i64 n2, .slice bl bm Jl] 45) :: ((au, ce #[.int .i64 n, .slice HU bb FG] 25) :: ((b2, ce #[.int .i64 AK, .int .i64 AF] 29) :: ((b1, ce #[.int .i64 wide, .slice Af Ac.length Ae] 25) :: (ah ++ []))))) rfl call12 rfl rfl rfl (pT ((fC (fC (fC (fC (fS fP))))).trans (pA pR)) (lp (ln rfl))) (fun F2 h2 h3 => by rw [(AN.Bm ab).1]; exact EZ (ab.row (Ad _) h2 (fun p hp => h3 p (List.mem_append_left _ hp))) en) ?_
  refine wv (As isAgg45 sizeOf45 rfl (Has.own 0 rfl) (Be rfl) rfl) ?_
  obtain ⟨n4, ep, du⟩ := Aw eo
  refine JD (Lt := ah ++ []) (Lr := (bc, ce #[.int .i64 n2, .slice bl bm Jl] 45) :: ((au, ce #[.int .i64 n, .slice HU bb FG] 25) :: ((b2, ce #[.int .i64 AK, .int .i64 AF] 29) :: ((b1, ce #[.int .i64 wide, .slice Af Ac.length Ae] 25) :: (ad ++ []))))) rfl call17 rfl rfl rfl (pT ((fC (fC (fC (fC fP)))).trans (pA pR)) (lp (ln rfl))) (fun F2 h2 h3 => by rw [(AN.Bm ao).1]; exact D4 (ao.row (Ad _) h2 (fun p hp => h3 p (List.mem_append_left _ hp))) ep) ?_
  refine wv (Bo rfl rfl) (wm ?_)
  by_cases af : n3 ≠ n4
  ·have er := AO du af
   refine AE (b' := true) 25 rfl (Env.DX rfl af) rfl rfl (AE (b' := true) 25 rfl (Env.DX rfl af) rfl rfl (AE (b' := true) 25 rfl (Env.DX rfl af) rfl rfl (AE (b' := true) 25 rfl (Env.DX rfl af) rfl rfl (AE (b' := true) 25 rfl (Env.DX rfl af) rfl rfl (AE (b' := true) 25 rfl (Env.DX rfl af) rfl rfl (AE (b' := true) 25 rfl (Env.DX rfl af) rfl rfl (AE (b' := true) 25 rfl (Env.DX rfl af) rfl rfl ?_)))))))
   refine wv (Au (A5 rfl af) rfl) (BD ?_)
   obtain rfl := AH er
   exact mi (kc (kc (kd (kc (kg (fS fP) kr))))) ⟨rfl, rfl, z5⟩
  have et := AP du af
  refine AS (b := false) 25 rfl (Env.DY rfl af) (wv (As isAgg29 sizeOf29 rfl (Has.own 2 rfl) (Be rfl) rfl) (AS (b := false) 25 rfl (Env.DY rfl af) ?_))
  obtain ⟨n5, eu, ew⟩ := Aw et
  refine Dx rfl call18 rfl rfl rfl (HZ eu) (AS (b := false) 25 rfl (Env.DY rfl af) (wv (Am GX rfl) (AS (b := false) 25 rfl (Env.DY rfl af) (wv (Ao isAgg27 rfl (Has.own 2 rfl) rfl) (AS (b := false) 25 rfl (Env.DY rfl af) (wv (Am GW rfl) (AS (b := false) 25 rfl (Env.DY rfl af) ?_)))))))
  refine wv (Ao isAgg3 rfl (Has.own 2 rfl) rfl) (AS (b := false) 25 rfl (Env.DY rfl af) ?_)
  obtain ⟨n6, ey, ez⟩ := Aw ew
  refine Dx rfl call19 rfl rfl rfl (FZ ey) (AS (b := false) 25 rfl (Env.DY rfl af) (wv (Bo rfl rfl) (wv (At (AZ rfl af) rfl) (BD ?_))))
  obtain rfl := AH ez
  exact mi (kc (kc (kd (kc (kg (fS fP) kr))))) ⟨rfl, rfl, z5⟩
 refine AU rfl (fun ct => ?_) (fun ct => ?_)
 ·have fa := bt cr ct
  refine AM (ua (Aa ?_))
  refine kW kn ?_
  refine Ap (Ah ?_)
  refine B2 results5 ?_
  obtain rfl := AH fa
  exact rfl
 have fb := bf cr ct
 refine Al (AM ?_)
 refine uv (As isAgg25 sizeOf25 rfl (Has.own 1 rfl) (Be rfl) rfl) (um ?_)
 obtain ⟨n7, l3, n8, fe, ff⟩ := Lg fb
 refine Dh (Lb := []) (Lt := ad ++ []) (Lr := (bc, ce #[.int .i64 n2, .slice bl bm Jl] 45) :: ((au, ce #[.int .i64 n, .slice HU bb FG] 25) :: ((b1, ce #[.int .i64 wide, .slice Af Ac.length Ae] 25) :: (ah ++ [])))) rfl call20 rfl rfl rfl (pT ((fC (fC (fC fP))).trans (pA pR)) (ln (lp (ln rfl)))) (fun F2 h2 h3 => by rw [(AN.Bm ab).1]; exact Pw (ab.row (Ad _) h2 (fun p hp => h3 p (List.mem_append_left _ hp))) fe) (fun _ _ _ _ hq => by obtain ⟨bg, bh, bj, az, rfl, rfl, ae⟩ := hq; exact ⟨_, _, _, _, rfl, rfl, ae.flat (fun _ _ h => h)⟩) ?_; rintro _ gb _ bo cu cv ⟨bg, bh, bj, az, rfl, rfl, ae⟩
 replace aa := aa.mono (Ad _) bo
 replace ab := ab.mono (Ad _) bo
 replace ao := ao.mono (Ad _) bo
 have cw := J1 (Lb' := []) (by rfl) cu cv
 replace ae := ae.new fun p hp => cw p (by simp [hp])
 refine AJ (lp (ln (lp (ln rfl)))) (kO (kf (fS (fS fO)) (kf (fS (fS fO)) (kf (fS (fS fO)) kr))) ?_)
 refine um (ox rfl rfl rfl (ox rfl rfl rfl ?_))
 refine A6 rfl zeroValue25 ?_; intro ax fg
 refine Bg (i := 0) sizeOf25 rfl rfl rfl (by simp [Value.oneCell']) rfl (Be rfl) (AJ rfl ?_)
 refine ua (BX ?_)
 refine uv (As isAgg45 sizeOf45 rfl (Has.own 1 rfl) (Be rfl) rfl) (um ?_)
 obtain ⟨n9, l4, ay, fh, fi⟩ := Lg ff
 refine Dh (Lb := []) (Lt := ah ++ []) (Lr := (ax, ce #[.int .i64 n7, .slice bg bh bj] 25) :: ((bc, ce #[.int .i64 n2, .slice bl bm Jl] 45) :: ((au, ce #[.int .i64 n, .slice HU bb FG] 25) :: ((b1, ce #[.int .i64 wide, .slice Af Ac.length Ae] 25) :: (az ++ (ad ++ [])))))) rfl call21 rfl rfl rfl (pT ((fC (fC (fC (fC (fS (fS fP)))))).trans (pA pR)) (ln (lp (ln rfl)))) (fun F2 h2 h3 => by rw [(AN.Bm ao).1]; exact Mx (ao.row (Ad _) h2 (fun p hp => h3 p (List.mem_append_left _ hp))) fh) (fun _ _ _ _ hq => by obtain ⟨bp, bq, br, bu, rfl, rfl, aq⟩ := hq; exact ⟨_, _, _, _, rfl, rfl, aq.flat (fun _ _ h => h)⟩) ?_; rintro _ gg _ bw cx cy ⟨bp, bq, br, bu, rfl, rfl, aq⟩
 replace aa := aa.mono (Ad _) bw
 replace ab := ab.mono (Ad _) bw
 replace ae := ae.mono (Ad _) bw
 have cz := J1 (Lb' := []) (by rfl) cx cy
 replace aq := aq.new fun p hp => cz p (by simp [hp])
 refine AJ (lp (ln (lp (ln rfl)))) (kO (kf (fS (fS fO)) (kf (fS (fS fO)) (kf (fS (fS fO)) (kf (fS (fS fO)) kr)))) ?_)
 refine um (ox rfl rfl rfl (ox rfl rfl rfl ?_))
 refine A6 rfl zeroValue45 ?_; intro bk fj
 refine Bg (i := 0) sizeOf45 rfl rfl rfl (by simp [Value.oneCell']) rfl (Be rfl) (AJ rfl ?_)
 refine ua (Aa (Ar ?_))
 obtain ⟨k2, dv, da⟩ := Aw fi
 refine jF (((ax, ce #[.int .i64 n7, .slice bg bh bj] 25) :: ((au, ce #[.int .i64 n, .slice HU bb FG] 25) :: ((b1, ce #[.int .i64 wide, .slice Af Ac.length Ae] 25) :: (ad ++ (az ++ [])))))) [(3, .pointer (some ⟨b1, 0, none⟩)), (7, .pointer (some ⟨au, 0, none⟩)), (9, .pointer (some ⟨ax, 0, none⟩)), (65, .bool k2)] ?_ fun fk ba => ?_
 ·clear da
  refine CF [(.still, 0), (.still, 1), (.still, 2), (.still, 3), (.still, 4), (.still, 5), (.still, 6), (.still, 7), (.still, 8), (.still, 9), (.still, 10), (.still, 11), (.still, 14), (.still, 15), (.seq, 12), (.still, 13), (.seq, 16), (.still, 17), (.still, 18)] (by kernel_rfl) (by kernel_rfl) (trivial) (by rfl) (by kernel_rfl) (mS [10] rfl (Bh rfl) (mS [12] rfl (Bh rfl) (mS (v := .bool (decide (n8 ≠ ay))) [47, 48] rfl (Bo rfl rfl) (mS [49] rfl (Bh rfl) ?_))))
  by_cases av : n8 ≠ ay
  ·have fl := AO dv av
   refine GF (ek := [(50, .bool (decide (n8 ≠ ay)))]) (b' := true) 50 rfl rfl (Env.DX rfl av) rfl rfl rfl rfl z1 (by kernel_rfl) (GF (ek := [(50, .bool (decide (n8 ≠ ay)))]) (b' := true) 50 rfl rfl (Env.DX rfl av) rfl rfl rfl rfl z1 (by kernel_rfl) (GF (ek := [(50, .bool (decide (n8 ≠ ay)))]) (b' := true) 50 rfl rfl (Env.DX rfl av) rfl rfl rfl rfl z1 (by kernel_rfl) (GF (ek := [(50, .bool (decide (n8 ≠ ay)))]) (b' := true) 50 rfl rfl (Env.DX rfl av) rfl rfl rfl rfl z1 (by kernel_rfl) (GF (ek := [(50, .bool (decide (n8 ≠ ay)))]) (b' := true) 50 rfl rfl (Env.DX rfl av) rfl rfl rfl rfl z1 (by kernel_rfl) (mS (v := .bool true) [50, 55] rfl (Au (A5 rfl av) rfl) (mS [56] rfl (Bh rfl) (GF (ek := [(57, .bool true)]) (b' := true) 57 rfl rfl rfl rfl rfl rfl rfl z1 (by kernel_rfl) ?_)))))))
   refine GF (ek := [(57, .bool true)]) (b' := true) 57 rfl rfl rfl rfl rfl rfl rfl z1 (by kernel_rfl) (GF (ek := [(57, .bool true)]) (b' := true) 57 rfl rfl rfl rfl rfl rfl rfl z1 (by kernel_rfl) ?_)
   refine ⟨_, [(57, .bool true), (58, undef)], rfl, rfl, z2, by kernel_rfl, ?_⟩; intro H
   refine Ai (b' := true) 57 rfl rfl rfl rfl ?_
   refine Aa ⟨_, rfl, AY.refl _, [15, 14], by kernel_rfl, .inl (.inr (fun d h => by cases h; rfl)), (fc sm (fc sm nm)), ?_⟩
   refine GF (ek := [(57, .bool true)]) (b' := true) 57 rfl rfl rfl rfl rfl rfl rfl z1 (by kernel_rfl) ?_
   refine ⟨_, [(57, .bool true), (60, undef), (62, undef)], rfl, rfl, z3, by kernel_rfl, ?_⟩; intro H
   refine Ai (b' := true) 57 rfl rfl rfl rfl ?_
   refine Aa ⟨_, rfl, AY.refl _, [], by kernel_rfl, .inl (.inl rfl), nm, ?_⟩
   refine GF (ek := [(57, .bool true)]) (b' := true) 57 rfl rfl rfl rfl rfl rfl rfl z1 (by kernel_rfl) (mS (v := .bool true) [57, 64] rfl (Au rfl rfl) (DI ?_))
   obtain rfl := AH fl
   exact mi (kd (kc (kd (kc (kc (kx (kx (kg (fS fP) kr)))))))) ⟨AY.refl _, rfl, z4⟩
  have dw := AP dv av
  refine Km 50 (v := .pointer (some ⟨ax, 0, none⟩)) (ek := [(9, .pointer (some ⟨ax, 0, none⟩)), (50, .bool (decide (n8 ≠ ay)))]) (Ls := []) rfl rfl (Env.DY rfl av) rfl rfl rfl (z2) (by kernel_rfl) sm (fun H F' L' aj ak => Am Hx rfl) (Km 50 (v := .int .i64 n7) (ek := [(50, .bool (decide (n8 ≠ ay))), (51, .pointer (some ⟨ax, 0, none⟩))]) (Ls := [(ax, ce #[.int .i64 n7, .slice bg bh bj] 25)]) rfl rfl (Env.DY rfl av) rfl rfl rfl (z2) (by kernel_rfl) (s0 (s1 (s2 (s1 (s1 (s1 (s3 (s3 (s3 (s3 sr)))))))))) (fun H F' L' aj ak => Ao isAgg3 rfl ((Has.own 0 rfl).ext aj ak) rfl) (Km 50 (v := .pointer (some ⟨bk, 0, none⟩)) (ek := [(11, .pointer (some ⟨bk, 0, none⟩)), (50, .bool (decide (n8 ≠ ay)))]) (Ls := []) rfl rfl (Env.DY rfl av) rfl rfl rfl (z2) (by kernel_rfl) sm (fun H F' L' aj ak => Am Kg rfl) (Km 50 (v := .int .i64 n9) (ek := [(50, .bool (decide (n8 ≠ ay))), (53, .pointer (some ⟨bk, 0, none⟩))]) (Ls := [(bk, ce #[.int .i64 n9, .slice bp bq br] 45)]) rfl rfl (Env.DY rfl av) rfl rfl rfl (z2) (by kernel_rfl) (s0 (s2 (s1 (s1 (s1 (s1 (s3 (s3 (s3 (s3 sr)))))))))) (fun H F' L' aj ak => Ao isAgg3 rfl ((Has.own 0 rfl).ext aj ak) rfl) (Km 50 (v := .bool (decide (n7 ≠ n9))) (ek := [(50, .bool (decide (n8 ≠ ay))), (52, .int .i64 n7), (54, .int .i64 n9)]) (Ls := []) rfl rfl (Env.DY rfl av) rfl rfl rfl (z3) (by kernel_rfl) sm (fun H F' L' aj ak => Bo rfl rfl) (mS (v := .bool (decide (n7 ≠ n9))) [50, 55] rfl (At (AZ rfl av) rfl) (mS [56] rfl (Bh rfl) ?_))))))
  by_cases ai : n7 ≠ n9
  ·have fm := AO dw ai
   refine GF (ek := [(57, .bool (decide (n7 ≠ n9)))]) (b' := true) 57 rfl rfl (Env.DX rfl ai) rfl rfl rfl rfl z1 (by kernel_rfl) (GF (ek := [(57, .bool (decide (n7 ≠ n9)))]) (b' := true) 57 rfl rfl (Env.DX rfl ai) rfl rfl rfl rfl z1 (by kernel_rfl) (GF (ek := [(57, .bool (decide (n7 ≠ n9)))]) (b' := true) 57 rfl rfl (Env.DX rfl ai) rfl rfl rfl rfl z1 (by kernel_rfl) ?_))
   refine ⟨_, [(57, .bool (decide (n7 ≠ n9))), (58, undef)], rfl, rfl, z2, by kernel_rfl, ?_⟩; intro H
   refine fT ai ?_
   refine Aa ⟨_, rfl, AY.refl _, [15, 14], by kernel_rfl, .inl (.inr (fun d h => by cases h; rfl)), (fc sm (fc sm nm)), ?_⟩
   refine GF (ek := [(57, .bool (decide (n7 ≠ n9)))]) (b' := true) 57 rfl rfl (Env.DX rfl ai) rfl rfl rfl rfl z1 (by kernel_rfl) ?_
   refine ⟨_, [(57, .bool (decide (n7 ≠ n9))), (60, undef), (62, undef)], rfl, rfl, z3, by kernel_rfl, ?_⟩; intro H
   refine fT ai ?_
   refine Aa ⟨_, rfl, AY.refl _, [], by kernel_rfl, .inl (.inl rfl), nm, ?_⟩
   refine GF (ek := [(57, .bool (decide (n7 ≠ n9)))]) (b' := true) 57 rfl rfl (Env.DX rfl ai) rfl rfl rfl rfl z1 (by kernel_rfl) (mS (v := .bool true) [57, 64] rfl (Au (A5 rfl ai) rfl) (DI ?_))
   obtain rfl := AH fm
   exact mi (kd (kc (kd (kc (kc (kx (kx (kg (fS fP) kr)))))))) ⟨AY.refl _, rfl, z4⟩
  have fo := AP dw ai
  refine Km 57 (v := .agg #[.int .i64 n7, .slice bg bh bj]) (ek := [(9, .pointer (some ⟨ax, 0, none⟩)), (57, .bool (decide (n7 ≠ n9)))]) (Ls := [(ax, ce #[.int .i64 n7, .slice bg bh bj] 25)]) rfl rfl (Env.DY rfl ai) rfl rfl rfl (z2) (by kernel_rfl) (s0 (s1 (s2 (s1 (s1 (s1 (s3 (s3 (s3 (s3 sr)))))))))) (fun H F' L' aj ak => As isAgg25 sizeOf25 rfl ((Has.own 0 rfl).ext aj ak) (Be rfl) rfl) (Km 57 (v := .pointer (some ⟨bk, 1, none⟩)) (ek := [(11, .pointer (some ⟨bk, 0, none⟩)), (57, .bool (decide (n7 ≠ n9)))]) (Ls := []) rfl rfl (Env.DY rfl ai) rfl rfl rfl (z2) (by kernel_rfl) sm (fun H F' L' aj ak => Am C0 rfl) (Km 57 (v := .slice bp bq br) (ek := [(57, .bool (decide (n7 ≠ n9))), (61, .pointer (some ⟨bk, 1, none⟩))]) (Ls := [(bk, ce #[.int .i64 n9, .slice bp bq br] 45)]) rfl rfl (Env.DY rfl ai) rfl rfl rfl (z2) (by kernel_rfl) (s0 (s2 (s1 (s1 (s1 (s1 (s3 (s3 (s3 (s3 sr)))))))))) (fun H F' L' aj ak => Ao isAgg22 rfl ((Has.own 0 rfl).ext aj ak) rfl) ?_))
  refine ⟨_, [(57, .bool (decide (n7 ≠ n9))), (58, .agg #[.int .i64 n7, .slice bg bh bj])], rfl, rfl, z2, by kernel_rfl, ?_⟩; intro H
  refine nF ai ?_
  obtain ⟨fp, l5, fq, fs⟩ := Bs fo
  refine Dh (Lb := []) (Lt := az ++ []) (Lr := (bk, ce #[.int .i64 n9, .slice bp bq br] 45) :: ((ax, ce #[.int .i64 n7, .slice bg bh bj] 25) :: ((bc, ce #[.int .i64 n2, .slice bl bm Jl] 45) :: ((au, ce #[.int .i64 n, .slice HU bb FG] 25) :: ((b1, ce #[.int .i64 wide, .slice Af Ac.length Ae] 25) :: (bu ++ (ah ++ (ad ++ [])))))))) rfl call16 rfl rfl rfl (pT ((fC (fC (fC (fC (fC (fS (fS fP))))))).trans (pA pR)) (ln (lp (ln rfl)))) (fun F2 h2 h3 => by rw [(AN.Bm ae).1]; exact DK (ae.row (Ad _) h2 (fun p hp => h3 p (List.mem_append_left _ hp))) fq) (fun _ _ _ _ hq => by obtain ⟨cb, cc, cd, cf, rfl, rfl, aw⟩ := hq; exact ⟨_, _, _, _, rfl, rfl, aw.flat (fun _ _ h => h)⟩) ?_; rintro _ gh _ bx db dd ⟨cb, cc, cd, cf, rfl, rfl, aw⟩
  replace aq := aq.mono (Ad _) bx
  have cg := J1 (Lb' := []) (by rfl) db dd
  replace aw := aw.new fun p hp => cg p (by simp [hp])
  refine AJ (lp (ln (lp (ln rfl)))) (kO (kf (fS (fS fO)) (kf (fS (fS fO)) (kf (fS (fS fO)) (kf (fS (fS fO)) (kf (fS (fS fO)) kr))))) ?_)
  refine Aa ⟨_, rfl, bx, [15, 14], by kernel_rfl, .inl (.inr (fun d h => by cases h; rfl)), (fc (s0 (s2 (s1 (s1 (s1 (s1 (s3 (s3 (s3 (s3 (s3 sr))))))))))) (fc sm nm)), ?_⟩
  refine Km 57 (v := .slice cb cc cd) (ek := [(57, .bool (decide (n7 ≠ n9))), (59, .agg #[.int .i64 fp, .slice cb cc cd])]) (Ls := []) rfl rfl (Env.DY rfl ai) rfl rfl rfl (z2) (by kernel_rfl) sm (fun H F' L' aj ak => VR (v := .slice cb cc cd) (by intro w; kernel_rfl) rfl) ?_
  refine ⟨_, [(57, .bool (decide (n7 ≠ n9))), (60, .slice cb cc cd), (62, .slice bp bq br)], rfl, rfl, z3, by kernel_rfl, ?_⟩; intro H
  refine nF ai ?_
  obtain ⟨de, df, dg⟩ := Aw fs
  refine Bi (Lt := cf ++ (bu ++ [])) (Lr := (bk, ce #[.int .i64 n9, .slice bp bq br] 45) :: ((ax, ce #[.int .i64 n7, .slice bg bh bj] 25) :: ((bc, ce #[.int .i64 n2, .slice bl bm Jl] 45) :: ((au, ce #[.int .i64 n, .slice HU bb FG] 25) :: ((b1, ce #[.int .i64 wide, .slice Af Ac.length Ae] 25) :: (az ++ (ah ++ (ad ++ [])))))))) rfl call22 rfl rfl rfl (pT ((fC (fC (fC (fC (fC fP))))).trans (pA ((fC (fC (fC (fC (fC (fS fP)))))).trans (pA pR)))) (lp (lp (ln rfl)))) (fun F2 h2 h3 => by rw [(AN.Bm aw).1]; rw [(AN.Bm aq).1]; exact Bq (aw.row (Ad _) h2 (fun p hp => h3 p (List.mem_append_left _ hp))) (aq.row (Ad _) h2 (fun p hp => h3 p (List.mem_append_right _ (List.mem_append_left _ hp)))) df) ?_
  refine Aa ⟨_, rfl, AY.refl _, [], by kernel_rfl, .inl (.inl rfl), nm, ?_⟩
  refine Km 57 (v := .bool (!de)) (ek := [(57, .bool (decide (n7 ≠ n9))), (63, .bool de)]) (Ls := []) rfl rfl (Env.DY rfl ai) rfl rfl rfl (z2) (by kernel_rfl) sm (fun H F' L' aj ak => Cf rfl) (mS (v := .bool (!de)) [57, 64] rfl (At (AZ rfl ai) rfl) (DI ?_))
  obtain rfl := AH dg
  exact mi (kd (kc (kd (kc (kc (kx (kg (fS (fS (fS fP))) (ka kn)))))))) ⟨bx, rfl, z4⟩
 replace aa := aa.mono (Ad _) ba
 replace ab := ab.mono (Ad _) ba
 replace ae := ae.mono (Ad _) ba
 refine AU rfl (fun bz => ?_) (fun bz => ?_)
 ·have dh := bt da bz
  refine AM (ua (Aa ?_))
  refine kW kn ?_
  refine Ap (Ah ?_)
  refine B2 results5 ?_
  obtain rfl := AH dh
  exact rfl
 have di := bf da bz
 refine Al (AM ?_)
 refine uv (Am BN rfl) (uv (Ao isAgg23 rfl (Has.own 0 rfl) rfl) ?_)
 obtain ⟨u, dk, dm⟩ := B8 di
 refine UF (z0 := 0) (zs := u) rfl FF (by decide) (Ad _) (fun _ => rfl) rfl (fun _ => .c (.c (.c (.s .h)))) ae dk ?_; intro cj dx
 refine BX (uv (As isAgg25 sizeOf25 rfl (Has.own 1 rfl) (Be rfl) rfl) (uv (As isAgg25 sizeOf25 rfl (Has.own 2 rfl) (Be rfl) rfl) ?_))
 obtain ⟨ft, dn, cn⟩ := Aw dm
 refine Bi (Lt := ad ++ []) (Lr := (ax, ce #[.int .i64 n7, .slice bg bh bj] 25) :: ((au, ce #[.int .i64 n, .slice HU bb FG] 25) :: ((b1, ce #[.int .i64 wide, .slice Af Ac.length Ae] 25) :: (cj ++ [])))) rfl call23 rfl rfl rfl (pT ((fC (fC (fC fP))).trans (pA pR)) (lp (ln rfl))) (fun F2 h2 h3 => by rw [(AN.Bm ab).1]; exact Fg (ab.row (Ad _) h2 (fun p hp => h3 p (List.mem_append_left _ hp))) (aa.mono (Ad _) h2) dn) ?_
 refine um ?_
 rcases Bf ft with ar | ar
 ·have dp := bt cn ar
  refine nB ar ?_
  obtain ⟨gi, dq, dr⟩ := Aw dp
  refine cV call13 (BR dq) (uv (Au (Es rfl ar) rfl) ?_)
  refine ua (Aa ?_)
  refine kW kn (Ap (B2 results5 ?_))
  obtain rfl := AH dr
  exact rfl
 have dt := bf cn ar
 refine fB ar (uv (At (Es rfl ar) rfl) ?_)
 refine ua (Aa ?_)
 refine kW kn (Ap (B2 results5 ?_))
 obtain rfl := AH dt
 exact rfl
theorem GQ (ab : AL 1 (iE .i64) F Mq Mm l) {r : List Int} (hr : DT l = some r) :
    SH.Spec Tryz.prog 24 #[.slice Mq l.length Mm] F [] fun F' L' v => ∃ (ra : Option Addr) (rn : Nat) (rc : Nat) (rL : LH), v = .slice ra rn rc ∧ L' = rL ++ [] ∧ AN 0 3 1 (iE .i64) F' ra rn rc r rL := by
 refine sp func24 ntmps24 fun K _ _ => ?_
 rw [DT] at hr
 refine AM (ua (BX (um ?_)))
 refine uv (AX underlying22 rfl) ?_
 obtain ⟨g1, r2⟩ := AW hr
 obtain ⟨l2, h3, r4⟩ := B8 r2
 refine Ld (R := (iE .i64)) (z0 := 0) (zs := l2) rfl Br (by decide) (Ad _) (fun _ => rfl) rfl g1 h3 (fun _ => .n) ?_; intro a5 n8 ai ad
 refine ua (BX (um (um ?_)))
 obtain ⟨out, ae, af⟩ := B8 r4
 refine QS (ys := l) (zs := out) rfl Br (Ad _) rfl rfl (fun _ => .h) ad (AL.src ab) ae ?_; intro ah aa
 refine BX (um (ua (Aa (Ap ?_))))
 refine B2 results24 ?_
 obtain rfl := AH af
 exact ⟨_, _, _, _, rfl, rfl, aa.any⟩
theorem J9 (aa : AL 1 (iE .i64) F Af Ae Ac) {r : Int} (hr : FK wide Ac AK stand = some r) :
    Bz Tryz.prog 68 #[.agg #[.int .i64 wide, .slice Af Ac.length Ae], .int .i64 AK, .int .i64 stand] F (.int .i64 r) := by
 refine sp func68 ntmps68 fun K _ _ => ?_
 rw [FK] at hr
 refine AM ?_
 refine Bu rfl rfl ?_; intro b1 ah
 refine ua (Aa (Ar (AM ?_)))
 refine uv (As isAgg45 sizeOf45 rfl (Has.own 0 rfl) (Be rfl) rfl) ?_
 obtain ⟨n, h2, r3⟩ := Aw hr
 refine cV call17 (D4 aa h2) ?_
 refine ua (BX (um ?_))
 refine uv (Bo rfl rfl) (Aa ?_)
 refine cQ (fun c4 => ?_) fun c4 => ?_
 ·have r5 := AO r3 c4
  refine AM (um (ua (Aa ?_)))
  refine kW kn ?_
  refine Ap (Ah ?_)
  refine B2 results68 ?_
  obtain rfl := AH r5
  exact rfl
 have r6 := AP r3 c4
 refine Al (Ar (AM (um ?_)))
 obtain ⟨ok, h7, r8⟩ := Aw r6
 refine cV call60 (CQ h7) (Aa ?_)
 refine AU rfl (fun c9 => ?_) (fun c9 => ?_)
 ·have ab := bt r8 c9
  refine AM (ua (Aa ?_))
  refine kW kn ?_
  refine Ap (Ah ?_)
  refine B2 results68 ?_
  obtain rfl := AH ab
  exact rfl
 have ad := bf r8 c9
 refine Al (AM ?_)
 refine uv (As isAgg45 sizeOf45 rfl (Has.own 0 rfl) (Be rfl) rfl) (um ?_)
 obtain ⟨n2, ae, af⟩ := Aw ad
 refine cV call34 (Ey aa ae) ?_
 refine ua (Aa ?_)
 refine kW kn (Ap (B2 results68 ?_))
 obtain rfl := AH af
 exact rfl
set_option maxHeartbeats 1000000 in
theorem I3 {q : Int} (aa : AL 1 (iE .i64) F Af Ae Ac) {r : Int} (hr : Fu wide Ac AK p q = some r) :
    Bz Tryz.prog 69 #[.agg #[.int .i64 wide, .slice Af Ac.length Ae], .int .i64 AK, .int .i64 p, .int .i64 q] F (.int .i64 r) := by
 refine sp func69 ntmps69 fun K _ _ => ?_
 rw [Fu] at hr
 refine AM ?_
 refine Bu rfl rfl ?_; intro b1 fm
 refine ua (Aa (Ar ?_))
 obtain ⟨k, h2, r3⟩ := Aw hr
 refine jE ([(b1, ce #[.int .i64 wide, .slice Af Ac.length Ae] 45)]) [(1, .int .i64 AK), (2, .int .i64 p), (3, .int .i64 q), (4, .pointer (some ⟨b1, 0, none⟩)), (42, .bool k)] ?_ ?_
 ·clear r3
  refine Ak (um ?_)
  refine uv (Am C0 rfl) (uv (Ao isAgg22 rfl (Has.own 0 rfl) rfl) (uv (AX underlying22 rfl) ?_))
  obtain ⟨g4, r5⟩ := AW h2
  refine uv (FD rfl rfl g4) ?_
  obtain ⟨ok, h6, r7⟩ := Aw r5
  refine cV call60 (CQ h6) (um ?_)
  rcases Bf ok with c8 | c8
  ·have r9 := bt r7 c8
   refine fB c8 (fB c8 (fB c8 (fB c8 (fB c8 (fB c8 ?_)))))
   refine uv (Au (Es rfl c8) rfl) ?_
   refine um (Ai (b' := true) 27 rfl rfl rfl rfl (Ai (b' := true) 27 rfl rfl rfl rfl (Ai (b' := true) 27 rfl rfl rfl rfl (Ai (b' := true) 27 rfl rfl rfl rfl (Ai (b' := true) 27 rfl rfl rfl rfl (Ai (b' := true) 27 rfl rfl rfl rfl ?_))))))
   refine uv (Au rfl rfl) ?_
   refine um (Ai (b' := true) 35 rfl rfl rfl rfl (Ai (b' := true) 35 rfl rfl rfl rfl (Ai (b' := true) 35 rfl rfl rfl rfl (Ai (b' := true) 35 rfl rfl rfl rfl (Ai (b' := true) 35 rfl rfl rfl rfl (Ai (b' := true) 35 rfl rfl rfl rfl ?_))))))
   refine uv (Au rfl rfl) (Aa ?_)
   obtain rfl := AH r9
   exact mi kr ⟨rfl, rfl, z5⟩
  have ct := bf r7 c8
  refine nB c8 (um (nB c8 ?_))
  refine uv (Am C0 rfl) (nB c8 (uv (Ao isAgg22 rfl (Has.own 0 rfl) rfl) (nB c8 (uv (AX underlying22 rfl) (nB c8 ?_)))))
  obtain ⟨cu, cv⟩ := AW ct
  refine uv (FD rfl rfl cu) (nB c8 ?_)
  obtain ⟨cw, cx, bq⟩ := Aw cv
  refine cV call60 (CQ cx) (uv (At (Es rfl c8) rfl) (um ?_))
  rcases Bf cw with JH | JH
  ·have cy := bt bq JH
   refine fB JH (fB JH (fB JH (fB JH (fB JH (fB JH ?_)))))
   refine uv (Au (Es rfl JH) rfl) ?_
   refine um (Ai (b' := true) 35 rfl rfl rfl rfl (Ai (b' := true) 35 rfl rfl rfl rfl (Ai (b' := true) 35 rfl rfl rfl rfl (Ai (b' := true) 35 rfl rfl rfl rfl (Ai (b' := true) 35 rfl rfl rfl rfl (Ai (b' := true) 35 rfl rfl rfl rfl ?_))))))
   refine uv (Au rfl rfl) (Aa ?_)
   obtain rfl := AH cy
   exact mi kr ⟨rfl, rfl, z5⟩
  have cz := bf bq JH
  refine nB JH (uv (Am C0 rfl) (nB JH (uv (Ao isAgg22 rfl (Has.own 0 rfl) rfl) ?_)))
  refine nB JH (um (nB JH ?_))
  obtain ⟨x, br, ao, bu⟩ := Bj cz
  obtain ⟨fo, fp, I0, da, aq, ar, bw, rfl, db, au⟩ := AL.at (Ad _) aa ([(b1, ce #[.int .i64 wide, .slice Af Ac.length Ae] 45)]) br.1 ao
  refine uv (AA underlying22 sizeOf3 rfl aq rfl br) (nB JH (uv (Ao isAgg3 rfl ar (au 0 (by decide))) (nB JH (uv (Bv rfl rfl) (uv (At (Es rfl JH) rfl) (um ?_))))))
  by_cases ab : x = 2
  ·have dd := AO bu ab
   refine fT ab (fT ab (fT ab (fT ab (fT ab (fT ab ?_)))))
   refine uv (Au (A5 rfl ab) rfl) (Aa ?_)
   obtain rfl := AH dd
   exact mi kr ⟨rfl, rfl, z5⟩
  have de := AP bu ab
  refine nF ab (uv (Am C0 rfl) (nF ab (uv (Ao isAgg22 rfl (Has.own 0 rfl) rfl) ?_)))
  refine nF ab (um (nF ab ?_))
  obtain ⟨x2, bx, av, df⟩ := Bj de
  obtain ⟨Qr, fq, fs, dg, aw, ax, bz, rfl, dh, ay⟩ := AL.at (Ad _) aa ([(b1, ce #[.int .i64 wide, .slice Af Ac.length Ae] 45)]) bx.1 av
  refine uv (AA underlying22 sizeOf3 rfl aw rfl bx) (nF ab (uv (Ao isAgg3 rfl ax (ay 0 (by decide))) (nF ab (uv (Bv rfl rfl) (uv (At (AZ rfl ab) rfl) (Aa ?_))))))
  obtain rfl := AH df
  exact mi kr ⟨rfl, rfl, z5⟩
 refine AU rfl (fun az => ?_) (fun az => ?_)
 ·have di := bt r3 az
  refine AM (ua (Aa ?_))
  refine kW kn ?_
  refine Ap (Ah ?_)
  refine B2 results69 ?_
  obtain rfl := AH di
  exact rfl
 have dk := bf r3 az
 refine Al (dW (wm (wv (Am Kg rfl) (wv (Ao isAgg3 rfl (Has.own 0 rfl) rfl) ?_))))
 obtain ⟨dm, dn⟩ := AW dk
 refine wv (K8 rfl rfl dm) (wm (wv (Am Kg rfl) (wv (Ao isAgg3 rfl (Has.own 0 rfl) rfl) ?_)))
 obtain ⟨dp, dq⟩ := AW dn
 refine wv (K8 rfl rfl dp) ?_
 obtain ⟨dr, dt⟩ := AW dq
 refine wv (FD rfl rfl dr) ?_
 obtain ⟨down, du, dv⟩ := B8 dt
 refine wv ((Ej rfl).i du) (YN (by kernel_rfl) (by kernel_rfl) (by kernel_rfl) (wm (wv (Am Kg rfl) (wv (Ao isAgg3 rfl (Has.own 0 rfl) rfl) ?_))))
 obtain ⟨dw, dx⟩ := AW dv
 refine wv (EN rfl rfl dw) (wm (wv (Am Kg rfl) (wv (Ao isAgg3 rfl (Has.own 0 rfl) rfl) ?_)))
 obtain ⟨dy, dz⟩ := AW dx
 refine wv (EN rfl rfl dy) ?_
 obtain ⟨eb, eg⟩ := AW dz
 refine wv (FD rfl rfl eb) ?_
 obtain ⟨Bb, eh, DZ⟩ := B8 eg
 refine wv ((Ej rfl).i eh) ?_
 refine BD (Ar (AM (um (um ?_))))
 obtain ⟨ei, ej⟩ := AW DZ
 refine uv (PT rfl rfl ei) ?_
 refine um (um ?_)
 obtain ⟨en, eo⟩ := AW ej
 refine uv (PT rfl rfl en) ?_
 obtain ⟨ep, ca⟩ := AW eo
 refine uv (A1 rfl rfl ep) (uv (Bo rfl rfl) (Aa ?_))
 refine cQ (fun ba => ?_) fun ba => ?_
 ·have er := AO ca ba
  refine AM (ua (Aa ?_))
  refine kW kn ?_
  refine Ap (Ah ?_)
  refine B2 results69 ?_
  obtain rfl := AH er
  exact rfl
 have et := AP ca ba
 refine Al (AM (ua (Aa ?_)))
 obtain ⟨along, cb, cc⟩ := Aw et
 refine jE ([(b1, ce #[.int .i64 wide, .slice Af Ac.length Ae] 45)]) [(3, .int .i64 q), (4, .pointer (some ⟨b1, 0, none⟩)), (11, .int .i64 along)] ?_ ?_
 ·clear cc
  refine AM (um (Aa ?_))
  refine Aq (AM (uv (Bv rfl rfl) ?_))
  refine ua (Aa ?_)
  refine cQ (fun bb => ?_) fun bb => ?_
  ·have eu := AO cb bb
   refine Ak (um ?_)
   obtain ⟨ew, ey⟩ := AW eu
   refine uv (QZ rfl ew) ?_
   refine ua (Aa (Av (id := 0) ?_))
   obtain rfl := AH ey
   exact mi kr ⟨rfl, rfl, z3⟩
  have cd := AP cb bb
  refine AM (uv (Bv rfl rfl) ?_)
  refine ua (Aa ?_)
  refine cQ (fun bc => ?_) fun bc => ?_
  ·have ez := AO cd bc
   refine Ak (um (ua (Aa (Av (id := 0) ?_))))
   obtain rfl := AH ez
   exact mi kr ⟨rfl, rfl, z3⟩
  have cf := AP cd bc
  refine AM (uv (Bv rfl rfl) ?_)
  refine ua (Aa ?_)
  refine cQ (fun bg => ?_) fun bg => ?_
  ·have fa := AO cf bg
   refine Ak (um (ua (Aa (Av (id := 0) ?_))))
   obtain rfl := AH fa
   exact mi kr ⟨rfl, rfl, z3⟩
  have cg := AP cf bg
  refine AM (uv (Bv rfl rfl) ?_)
  refine ua (Aa ?_)
  refine cQ (fun bh => ?_) fun bh => ?_
  ·have fb := AO cg bh
   refine Ak (um ?_)
   obtain ⟨fe, ff⟩ := AW fb
   refine uv (QZ rfl fe) ?_
   refine ua (Aa (Av (id := 0) ?_))
   obtain rfl := AH ff
   exact mi kr ⟨rfl, rfl, z3⟩
  have fg := AP cg bh
  refine Al (Av (id := 0) ?_)
  obtain rfl := AH fg
  exact mi kr ⟨rfl, rfl, z3⟩
 refine AM (ua (Aa ?_))
 obtain ⟨n, cj, cn⟩ := Aw cc
 refine jE ([(b1, ce #[.int .i64 wide, .slice Af Ac.length Ae] 45)]) [(3, .int .i64 q), (4, .pointer (some ⟨b1, 0, none⟩)), (11, .int .i64 along), (12, .int .i64 n)] ?_ ?_
 ·clear cn
  refine AM (um ?_)
  refine uv (Bv rfl rfl) (Aa ?_)
  refine cQ (fun bj => ?_) fun bj => ?_
  ·have fh := AO cj bj
   refine Ak (ua (Aa ?_))
   obtain rfl := AH fh
   exact mi kr ⟨rfl, rfl, z4⟩
  have fi := AP cj bj
  refine Al ?_
  obtain rfl := AH fi
  exact mi kr ⟨rfl, rfl, z4⟩
 obtain ⟨n2, cp, ae⟩ := Aw cn
 refine jE ([(b1, ce #[.int .i64 wide, .slice Af Ac.length Ae] 45)]) [(3, .int .i64 q), (4, .pointer (some ⟨b1, 0, none⟩)), (12, .int .i64 n2)] ?_ ?_
 ·clear ae
  refine AM (um ?_)
  refine uv (Bv rfl rfl) (Aa ?_)
  refine cQ (fun ad => ?_) fun ad => ?_
  ·have bk := AO cp ad
   refine Ak (ua (Aa ?_))
   obtain rfl := AH bk
   exact mi kr ⟨rfl, rfl, z3⟩
  have bl := AP cp ad
  refine Al ?_
  obtain rfl := AH bl
  exact mi kr ⟨rfl, rfl, z3⟩
 refine AM (um ?_)
 refine uv (Am C0 rfl) (uv (Ao isAgg22 rfl (Has.own 0 rfl) rfl) (um ?_))
 obtain ⟨x3, af, ah, bm⟩ := Bj ae
 obtain ⟨fj, fk, fl, cq, ai, aj, bn, rfl, cr, ak⟩ := AL.at (Ad _) aa ([(b1, ce #[.int .i64 wide, .slice Af Ac.length Ae] 45)]) af.1 ah
 refine uv (AA underlying22 sizeOf3 rfl ai rfl af) (uv (Ao isAgg3 rfl aj (ak 0 (by decide))) (uv (EN rfl rfl (by decide)) ?_))
 obtain ⟨bo, bp⟩ := AW bm
 refine uv (A1 rfl rfl bo) ?_
 refine ua (Aa ?_)
 refine kW kn (Ap (B2 results69 ?_))
 obtain rfl := AH bp
 exact rfl
set_option maxHeartbeats 1000000 in
theorem IM (ao : AL 1 (iE .i64) F Af Ae Ac) {r : List Int} {r2 : Int} (hr : EM wide Ac AK stand = some (r, r2)) :
    SH.Spec Tryz.prog 28 #[.agg #[.int .i64 wide, .slice Af Ac.length Ae], .int .i64 AK, .int .i64 stand] F [] fun F' L' v => ∃ (ra : Option Addr) (rn : Nat) (rc : Nat) (rL : LH), v = .tuple #[.slice ra rn rc, .int .i64 r2] ∧ L' = rL ++ [] ∧ AN 0 3 1 (iE .i64) F' ra rn rc r rL := by
 refine sp func28 ntmps28 fun K _ _ => ?_
 rw [EM] at hr
 refine AM ?_
 refine Bu rfl rfl ?_; intro b1 lh
 refine ua (ua (Aa (Ar (AM ?_))))
 refine uv (As isAgg45 sizeOf45 rfl (Has.own 0 rfl) (Be rfl) rfl) ?_
 refine um (um ?_)
 obtain ⟨n, h2, r3⟩ := Aw hr
 refine cV call68 (J9 ao h2) ?_
 refine ua (BX (um ?_))
 refine uv (Bo rfl rfl) (Aa ?_)
 refine cQ (fun c4 => ?_) fun c4 => ?_
 ·have r5 := AO r3 c4
  refine AM (um (ua (ua (Aa ?_))))
  refine kW kn ?_
  refine Ap (Ah ?_)
  refine Ba results28 (AG rfl) (AG rfl) (sr) ?_
  obtain ⟨rfl, rfl⟩ := BK r5
  exact ⟨_, _, _, [], rfl, rfl, AN.nil _ _ _ _ _⟩
 have r6 := AP r3 c4
 refine Al (AM ?_)
 refine uv (Am C0 rfl) (uv (Ao isAgg22 rfl (Has.own 0 rfl) rfl) (uv (AX underlying22 rfl) ?_))
 obtain ⟨g7, r8⟩ := AW r6
 obtain ⟨l, h9, iz⟩ := B8 r8
 refine Ld (R := (iE .i64)) (z0 := 0) (zs := l) rfl Br (by decide) (Ad _) (fun _ => rfl) rfl g7 h9 (fun _ => .c .n) ?_; intro MS ah dt du
 refine ua (Aa ?_)
 obtain ⟨out, j0, gu⟩ := Aw iz
 refine AQ (fun e1 F1 L1 => ∃ (ax : LH), F = F1 ∧ L1 = ((b1, ce #[.int .i64 wide, .slice Af Ac.length Ae] 45) :: (ax ++ [])) ∧ e1.sub [(1, .int .i64 AK), (2, .int .i64 stand), (3, .pointer (some ⟨b1, 0, none⟩)), (9, .slice MS ah ah)] ∧ AN K.w0.heap.size 3 1 (iE .i64) F1 MS ah ah out ax) ?_ ?_
 ·clear gu
  refine AM (ua (Aa ?_))
  refine Aq ?_
  refine A9 (fun dp e1 F1 L1 => ∃ (bk : List Int) (p : Int) (aq : LH), Dc dp bk p = some out ∧ F = F1 ∧ L1 = ((b1, ce #[.int .i64 wide, .slice Af Ac.length Ae] 45) :: (aq ++ [])) ∧ e1.sub [(1, .int .i64 AK), (2, .int .i64 stand), (3, .pointer (some ⟨b1, 0, none⟩)), (9, .slice MS ah ah), (10, .int .i64 p)] ∧ AN K.w0.heap.size 3 1 (iE .i64) F1 MS ah ah bk aq) FU (m0 kr ⟨l, 0, dt, j0, rfl, rfl, z5, du⟩) ?_
  rintro dp e1 _ _ ⟨bk, p, aq, bu, rfl, rfl, dv, ar⟩
  refine Az _ dv ?_
  rcases dp with _ | dp
  ·rw [Dc] at bu; cases bu
  rw [Dc] at bu
  refine Ar (AM (um (um ?_)))
  refine uv ((AX underlying22 rfl).i (AN.HH ar)) (uv (A7 rfl rfl) (Aa ?_))
  refine cQ (fun JE => ?_) fun JE => ?_
  ·have j4 := AO bu JE
   refine Al (Ar ?_)
   refine Aq ?_
   refine Ak (um (um ?_))
   obtain ⟨x, dw, dx, j5⟩ := Bj j4
   obtain ⟨lj, lk, ll, j6, bw, j7, gv, rfl, j8, j9⟩ := AN.at (Ad _) ar (L := (b1, ce #[.int .i64 wide, .slice Af Ac.length Ae] 45) :: (aq ++ [])) (fC fP) dw.1 dx
   refine uv (AA underlying22 sizeOf3 rfl bw rfl (AN.idx ar dw)) ?_
   obtain ⟨dy, ja, jb⟩ := B8 j5
   refine Cv (u := -1) sizeOf3 (Ad _) rfl bw rfl rfl (fun _ => .c .h) ar ja dw ?_; intro dz eb
   refine Aa (Av (id := 1) (Ak (um ?_)))
   obtain ⟨jc, jd⟩ := AW jb
   refine uv (A1 rfl rfl jc) ?_
   refine ua (Aa ?_)
   exact le kr ⟨dy, p + 1, dz, jd, rfl, rfl, z5, eb⟩
  have je := AP bu JE
  refine AR (Aj (Aj ?_))
  refine Ay ?_
  obtain rfl := AH je
  exact mi kr ⟨aq, rfl, rfl, z4, ar⟩
 rintro e1 _ _ ⟨ax, rfl, rfl, eg, bl⟩
 refine Az _ eg ?_
 refine AM (um (um ?_))
 obtain ⟨x2, eh, ei, jf⟩ := Bj gu
 obtain ⟨lq, lr, lu, jg, bx, jh, gw, rfl, ji, jj⟩ := AN.at (Ad _) bl (L := (b1, ce #[.int .i64 wide, .slice Af Ac.length Ae] 45) :: (ax ++ [])) (fC fP) eh.1 ei
 refine uv (AA underlying22 sizeOf3 rfl bx rfl (AN.idx bl eh)) ?_
 obtain ⟨ej, jk, jl⟩ := B8 jf
 refine Cv (u := 0) sizeOf3 (Ad _) rfl bx rfl rfl (fun _ => .c .h) bl jk eh ?_; intro en eo
 refine Aa ?_
 obtain ⟨bm, jm, gy⟩ := Aw jl
 refine AQ (fun e1 F1 L1 => ∃ (bn : LH), F = F1 ∧ L1 = (bn ++ []) ∧ e1.sub [(9, .slice MS ah ah)] ∧ AN K.w0.heap.size 3 1 (iE .i64) F1 MS ah ah bm bn) ?_ ?_
 ·clear gy
  refine AM (ua (Aa ?_))
  refine Aq ?_
  refine A9 (fun bz e1 F1 L1 => ∃ (ay : List Int) (changed : Bool) (au : LH), Co wide Ac AK bz ay changed = some bm ∧ F = F1 ∧ L1 = ((b1, ce #[.int .i64 wide, .slice Af Ac.length Ae] 45) :: (au ++ [])) ∧ e1.sub [(1, .int .i64 AK), (3, .pointer (some ⟨b1, 0, none⟩)), (9, .slice MS ah ah), (11, .bool changed)] ∧ AN K.w0.heap.size 3 1 (iE .i64) F1 MS ah ah ay au) FU (m0 kr ⟨ej, true, en, jm, rfl, rfl, z4, eo⟩) ?_
  rintro bz e1 _ _ ⟨ay, changed, au, ca, rfl, rfl, ep, cb⟩
  refine Az _ ep ?_
  rcases bz with _ | bz
  ·rw [Co] at ca; cases ca
  rw [Co] at ca
  refine Ar (AM (um (Aa ?_)))
  refine AU rfl (fun er => ?_) (fun er => ?_)
  ·have jn := bt ca er
   refine Al (Aq ?_)
   refine AM (ua (BX (ua (Aa ?_))))
   refine Aq ?_
   refine A9 (fun dq e1 F1 L1 => ∃ (av : List Int) (ad : Bool) (p2 : Int) (aw : LH), DM wide Ac AK (Co wide Ac AK bz) dq av ad p2 = some bm ∧ F = F1 ∧ L1 = ((b1, ce #[.int .i64 wide, .slice Af Ac.length Ae] 45) :: (aw ++ [])) ∧ e1.sub [(1, .int .i64 AK), (3, .pointer (some ⟨b1, 0, none⟩)), (9, .slice MS ah ah), (11, .bool ad), (12, .int .i64 p2)] ∧ AN K.w0.heap.size 3 1 (iE .i64) F1 MS ah ah av aw) FU (m0 kr ⟨ay, false, 0, au, jn, rfl, rfl, z5, cb⟩) ?_
   rintro dq e1 _ _ ⟨av, ad, p2, aw, cc, rfl, rfl, et, bo⟩
   refine Az _ et ?_
   rcases dq with _ | dq
   ·rw [DM] at cc; cases cc
   rw [DM] at cc
   refine Ar (AM (um (um ?_)))
   refine uv ((AX underlying22 rfl).i (AN.HH bo)) (uv (A7 rfl rfl) (Aa ?_))
   refine cQ (fun eu => ?_) fun eu => ?_
   ·have jo := AO cc eu
    refine Al ?_
    obtain ⟨bp, ak, jq, gz⟩ := Bs jo
    refine AQ (fun e1 F1 L1 => ∃ (az : LH), F = F1 ∧ L1 = ((b1, ce #[.int .i64 wide, .slice Af Ac.length Ae] 45) :: (az ++ [])) ∧ e1.sub [(1, .int .i64 AK), (3, .pointer (some ⟨b1, 0, none⟩)), (9, .slice MS ah ah), (11, .bool ak), (12, .int .i64 p2)] ∧ AN K.w0.heap.size 3 1 (iE .i64) F1 MS ah ah bp az) ?_ ?_
    ·clear gz
     refine Aq ?_
     refine AM (ua (Aa ?_))
     refine Aq ?_
     refine A9 (fun dr e1 F1 L1 => ∃ (ba : List Int) (ae : Bool) (q : Int) (aj : LH), Di wide Ac AK p2 dr ba ae q = some (bp, ak) ∧ F = F1 ∧ L1 = ((b1, ce #[.int .i64 wide, .slice Af Ac.length Ae] 45) :: (aj ++ [])) ∧ e1.sub [(1, .int .i64 AK), (3, .pointer (some ⟨b1, 0, none⟩)), (9, .slice MS ah ah), (11, .bool ae), (12, .int .i64 p2), (13, .int .i64 q)] ∧ AN K.w0.heap.size 3 1 (iE .i64) F1 MS ah ah ba aj) FU (m0 kr ⟨av, ad, 0, aw, jq, rfl, rfl, z6, bo⟩) ?_
     rintro dr e1 _ _ ⟨ba, ae, q, aj, cd, rfl, rfl, ew, af⟩
     refine Az _ ew ?_
     rcases dr with _ | dr
     ·rw [Di] at cd; cases cd
     rw [Di] at cd
     refine Ar (AM (um (um ?_)))
     refine uv ((AX underlying22 rfl).i (AN.HH af)) (uv (A7 rfl rfl) (Aa ?_))
     refine cQ (fun ey => ?_) fun ey => ?_
     ·have jr := AO cd ey
      refine Al (Ar ?_)
      refine Aq (AM (uv (As isAgg45 sizeOf45 rfl (Has.own 0 rfl) (Be rfl) rfl) ?_))
      refine um (um (um ?_))
      obtain ⟨n2, js, jt⟩ := Aw jr
      refine cV call69 (I3 ao js) ?_
      refine ua (Aa ?_)
      obtain ⟨k, ia, ez⟩ := Aw jt
      refine jE (((b1, ce #[.int .i64 wide, .slice Af Ac.length Ae] 45) :: (aj ++ []))) [(1, .int .i64 AK), (3, .pointer (some ⟨b1, 0, none⟩)), (9, .slice MS ah ah), (11, .bool ae), (12, .int .i64 p2), (13, .int .i64 q), (14, .int .i64 n2), (84, .bool k)] ?_ ?_
      ·clear ez
       refine Iv (by kernel_rfl) (by kernel_rfl) (by kernel_rfl) (wm (wv (Ex rfl rfl) (wm ?_)))
       by_cases ai : 0 < n2
       ·have fa := AO ia ai
        refine AS (b := true) 58 rfl (Env.DX rfl ai) (wm (AS (b := true) 58 rfl (Env.DX rfl ai) (wm (AS (b := true) 58 rfl (Env.DX rfl ai) ?_))))
        obtain ⟨x3, bb, bg, cf⟩ := Bj fa
        obtain ⟨ju, jv, jw, ib, cg, cj, fb, rfl, ic, cn⟩ := AN.at (Ad _) af (L := (b1, ce #[.int .i64 wide, .slice Af Ac.length Ae] 45) :: (aj ++ [])) (fC fP) bb.1 bg
        refine wv (AA underlying22 sizeOf3 rfl cg rfl (AN.idx af bb)) (AS (b := true) 58 rfl (Env.DX rfl ai) (wv (Ao isAgg3 rfl cj (cn 0 (by decide))) (AS (b := true) 58 rfl (Env.DX rfl ai) (wv (JI rfl rfl) (wv (Au (A5 rfl ai) rfl) (wm ?_))))))
        by_cases ab : 0 ≤ x3
        ·have fe := AO cf ab
         refine AS (b := true) 65 rfl (Env.DX rfl ab) (wm (AS (b := true) 65 rfl (Env.DX rfl ab) (wm (AS (b := true) 65 rfl (Env.DX rfl ab) ?_))))
         obtain ⟨x4, bc, bh, cp⟩ := Bj fe
         obtain ⟨jx, jz, kb, ie, cq, cr, ff, rfl, ig, ct⟩ := AN.at (Ad _) af (L := (b1, ce #[.int .i64 wide, .slice Af Ac.length Ae] 45) :: (aj ++ [])) (fC fP) bc.1 bh
         refine wv (AA underlying22 sizeOf3 rfl cq rfl (AN.idx af bc)) (AS (b := true) 65 rfl (Env.DX rfl ab) (wv (Ao isAgg3 rfl cr (ct 0 (by decide))) (AS (b := true) 65 rfl (Env.DX rfl ab) (wv (A7 rfl rfl) ?_))))
         refine AS (b := true) 65 rfl (Env.DX rfl ab) (wm ?_)
         by_cases aa : x4 < 0
         ·have fg := AO cp aa
          refine AE (b' := true) 71 rfl (Env.DX rfl aa) rfl rfl (AE (b' := true) 71 rfl (Env.DX rfl aa) rfl rfl (AE (b' := true) 71 rfl (Env.DX rfl aa) rfl rfl (AE (b' := true) 71 rfl (Env.DX rfl aa) rfl rfl (AE (b' := true) 71 rfl (Env.DX rfl aa) rfl rfl (AE (b' := true) 71 rfl (Env.DX rfl aa) rfl rfl (AE (b' := true) 71 rfl (Env.DX rfl aa) rfl rfl (AE (b' := true) 71 rfl (Env.DX rfl aa) rfl rfl (AE (b' := true) 71 rfl (Env.DX rfl aa) rfl rfl (AE (b' := true) 71 rfl (Env.DX rfl aa) rfl rfl ?_)))))))))
          refine AE (b' := true) 71 rfl (Env.DX rfl aa) rfl rfl (AS (b := true) 65 rfl (Env.DX rfl ab) ?_)
          refine wv (Au (A5 rfl aa) rfl) (wv (Au (A5 rfl ab) rfl) (BD ?_))
          obtain rfl := AH fg
          exact mi kr ⟨rfl, rfl, z8⟩
         have fh := AP cp aa
         refine AS (b := false) 71 rfl (Env.DY rfl aa) (wm (AS (b := false) 71 rfl (Env.DY rfl aa) (wm (AS (b := false) 71 rfl (Env.DY rfl aa) ?_))))
         obtain ⟨kh, kj, kl, ij, cu, cv, fi, rfl, ik, cw⟩ := AN.at (Ad _) af (L := (b1, ce #[.int .i64 wide, .slice Af Ac.length Ae] 45) :: (aj ++ [])) (fC fP) bb.1 bg
         refine wv (AA underlying22 sizeOf3 rfl cu rfl (AN.idx af bb)) (AS (b := false) 71 rfl (Env.DY rfl aa) (wv (Ao isAgg3 rfl cv (cw 0 (by decide))) ?_))
         refine AS (b := false) 71 rfl (Env.DY rfl aa) (wm (AS (b := false) 71 rfl (Env.DY rfl aa) ?_))
         obtain ⟨fj, fk⟩ := AW fh
         refine wv (A1 rfl rfl fj) ?_
         refine AS (b := false) 71 rfl (Env.DY rfl aa) (wm (AS (b := false) 71 rfl (Env.DY rfl aa) (wm (AS (b := false) 71 rfl (Env.DY rfl aa) ?_))))
         obtain ⟨km, ko, kt, il, cx, cy, fl, rfl, im, cz⟩ := AN.at (Ad _) af (L := (b1, ce #[.int .i64 wide, .slice Af Ac.length Ae] 45) :: (aj ++ [])) (fC fP) bc.1 bh
         refine wv (AA underlying22 sizeOf3 rfl cx rfl (AN.idx af bc)) (AS (b := false) 71 rfl (Env.DY rfl aa) (wv (Ao isAgg3 rfl cy (cz 0 (by decide))) (AS (b := false) 71 rfl (Env.DY rfl aa) (wv (A7 rfl rfl) (AS (b := true) 65 rfl (Env.DX rfl ab) (wv (At (AZ rfl aa) rfl) (wv (Au (A5 rfl ab) rfl) ?_)))))))
         refine BD ?_
         obtain rfl := AH fk
         exact mi kr ⟨rfl, rfl, z8⟩
        have fm := AP cf ab
        refine AE (b' := false) 65 rfl (Env.DY rfl ab) rfl rfl (AE (b' := false) 65 rfl (Env.DY rfl ab) rfl rfl (AE (b' := false) 65 rfl (Env.DY rfl ab) rfl rfl (AE (b' := false) 65 rfl (Env.DY rfl ab) rfl rfl (AE (b' := false) 65 rfl (Env.DY rfl ab) rfl rfl (AE (b' := false) 65 rfl (Env.DY rfl ab) rfl rfl (BH 71 rfl rfl rfl (BH 71 rfl rfl rfl (BH 71 rfl rfl rfl (BH 71 rfl rfl rfl ?_)))))))))
        refine BH 71 rfl rfl rfl (BH 71 rfl rfl rfl (BH 71 rfl rfl rfl (BH 71 rfl rfl rfl (BH 71 rfl rfl rfl (BH 71 rfl rfl rfl (BH 71 rfl rfl rfl (AE (b' := false) 65 rfl (Env.DY rfl ab) rfl rfl ?_)))))))
        refine wv (At (AZ rfl ab) rfl) (BD ?_)
        obtain rfl := AH fm
        exact mi kr ⟨rfl, rfl, z8⟩
       have fo := AP ia ai
       refine AE (b' := false) 58 rfl (Env.DY rfl ai) rfl rfl (AE (b' := false) 58 rfl (Env.DY rfl ai) rfl rfl (AE (b' := false) 58 rfl (Env.DY rfl ai) rfl rfl (AE (b' := false) 58 rfl (Env.DY rfl ai) rfl rfl (AE (b' := false) 58 rfl (Env.DY rfl ai) rfl rfl ?_))))
       refine wv (At (AZ rfl ai) rfl) ?_
       refine wm (AE (b' := false) 65 rfl rfl rfl rfl (AE (b' := false) 65 rfl rfl rfl rfl (AE (b' := false) 65 rfl rfl rfl rfl (AE (b' := false) 65 rfl rfl rfl rfl (AE (b' := false) 65 rfl rfl rfl rfl (AE (b' := false) 65 rfl rfl rfl rfl (BH 71 rfl rfl rfl (BH 71 rfl rfl rfl (BH 71 rfl rfl rfl ?_)))))))))
       refine BH 71 rfl rfl rfl (BH 71 rfl rfl rfl (BH 71 rfl rfl rfl (BH 71 rfl rfl rfl (BH 71 rfl rfl rfl (BH 71 rfl rfl rfl (BH 71 rfl rfl rfl (BH 71 rfl rfl rfl (AE (b' := false) 65 rfl rfl rfl rfl ?_))))))))
       refine wv (At rfl rfl) (BD ?_)
       obtain rfl := AH fo
       exact mi kr ⟨rfl, rfl, z8⟩
      refine AU rfl (fun bq => ?_) (fun bq => ?_)
      ·have fp := bt ez bq
       refine AM (um (um (um (um ?_))))
       obtain ⟨x5, da, db, fq⟩ := Bj fp
       obtain ⟨ku, kv, kz, iq, dd, de, fs, rfl, ir, df⟩ := AN.at (Ad _) af (L := (b1, ce #[.int .i64 wide, .slice Af Ac.length Ae] 45) :: (aj ++ [])) (fC fP) da.1 db
       refine uv (AA underlying22 sizeOf3 rfl dd rfl (AN.idx af da)) (uv (Ao isAgg3 rfl de (df 0 (by decide))) (um ?_))
       obtain ⟨ft, fv⟩ := AW fq
       refine uv (A1 rfl rfl ft) ?_
       obtain ⟨x6, br, dg, fw⟩ := Bj fv
       obtain ⟨l0, la, lg, iu, bj, iv, fx, rfl, iw, iy⟩ := AN.at (Ad _) af (L := (b1, ce #[.int .i64 wide, .slice Af Ac.length Ae] 45) :: (aj ++ [])) (fC fP) br.1 dg
       refine uv (AA underlying22 sizeOf3 rfl bj rfl (AN.idx af br)) ?_
       obtain ⟨dh, fy, ga⟩ := B8 fw
       refine Cv (u := x5 + n2) sizeOf3 (Ad _) rfl bj rfl rfl (fun _ => .c .h) af fy br ?_; intro di dk
       refine Aa (Ak (ua (Aa (Av (id := 7) (Ak (um ?_))))))
       obtain ⟨gb, gg⟩ := AW ga
       refine uv (A1 rfl rfl gb) ?_
       refine ua (Aa ?_)
       exact le kr ⟨dh, true, q + 1, di, gg, rfl, rfl, z6, dk⟩
      have gh := bf ez bq
      refine Al (Av (id := 7) (Ak (um ?_)))
      obtain ⟨gi, gj⟩ := AW gh
      refine uv (A1 rfl rfl gi) ?_
      refine ua (Aa ?_)
      exact le kr ⟨ba, ae, q + 1, aj, gj, rfl, rfl, z6, af⟩
     have gk := AP cd ey
     refine AR (Aj (Aj ?_))
     refine Ay (Av (id := 5) ?_)
     obtain ⟨rfl, rfl⟩ := BK gk
     exact mi kr ⟨aj, rfl, rfl, z5, af⟩
    rintro e1 _ _ ⟨az, rfl, rfl, dm, gl⟩
    refine Az _ dm ?_
    refine Ak (um ?_)
    obtain ⟨gm, gn⟩ := AW gz
    refine uv (A1 rfl rfl gm) ?_
    refine ua (Aa ?_)
    exact le kr ⟨bp, ak, p2 + 1, az, gn, rfl, rfl, z5, gl⟩
   have gp := AP cc eu
   refine AR (Aj (Aj ?_))
   refine Ay (Av (id := 3) ?_)
   exact le kr ⟨av, ad, aw, gp, rfl, rfl, z4, bo⟩
  have gq := bf ca er
  refine AR (Aj (Aj ?_))
  refine Ay ?_
  obtain rfl := AH gq
  exact mi (kd kr) ⟨au, rfl, rfl, z1, cb⟩
 rintro e1 _ _ ⟨bn, rfl, rfl, dn, gr⟩
 refine Az _ dn ?_
 refine AM (um (ua (ua (Aa (Ap ?_)))))
 refine Ba results28 (AG rfl) (AG rfl) (sr) ?_
 obtain ⟨rfl, rfl⟩ := BK gy
 exact ⟨_, _, _, _, rfl, rfl, gr.any⟩
set_option maxHeartbeats 1000000 in
theorem I2 (ab : AL 1 (iE .i64) F Af Ae Ac) {r r2 : Int} (hr : Hr wide Ac AK stand Cw = some (r, r2)) :
    Bz Tryz.prog 26 #[.agg #[.int .i64 wide, .slice Af Ac.length Ae], .int .i64 AK, .int .i64 stand, .int .i64 Cw] F (.tuple #[.int .i64 r, .int .i64 r2]) := by
 refine sp func26 ntmps26 fun K _ _ => ?_
 rw [Hr] at hr
 refine AM ?_
 refine Bu rfl rfl ?_; intro b1 bq
 refine ua (ua (BX ?_))
 refine uv (As isAgg45 sizeOf45 rfl (Has.own 0 rfl) (Be rfl) rfl) ?_
 refine um (um ?_)
 obtain ⟨l, n, h2, r3⟩ := Bs hr
 refine c0 call28 (IM ab h2) ?_; rintro _ F4 _ br ay ⟨a8, bu, c9, ad, rfl, rfl, aa⟩
 replace aa := aa.new fun p hp => ay p (by simp [hp])
 refine AJ (lp (ln rfl)) (kO (kf (fS fO) kr) ?_)
 refine um (ox rfl rfl rfl (ox rfl rfl rfl (ua (ua (Aa (Ar (AM (um ?_))))))))
 refine uv (Bo rfl rfl) (Aa ?_)
 refine cQ (fun OV => ?_) fun OV => ?_
 ·have az := AO r3 OV
  refine AM (um (ua (ua (Aa ?_))))
  refine kW kn ?_
  refine Ap (Ah ?_)
  refine Ba results26 (AG rfl) (AG rfl) (sr) ?_
  obtain ⟨rfl, rfl⟩ := BK az
  exact rfl
 have ba := AP r3 OV
 refine Al (Ar (AM (um ?_)))
 refine uv (Am C0 rfl) (uv (Ao isAgg22 rfl (Has.own 0 rfl) rfl) (uv (AX underlying22 rfl) ?_))
 obtain ⟨bb, bc⟩ := AW ba
 refine uv (FD rfl rfl bb) ?_
 obtain ⟨ok, bg, au⟩ := Aw bc
 refine cV call60 (CQ bg) (Aa ?_)
 refine AU rfl (fun Jj => ?_) (fun Jj => ?_)
 ·have bh := bt au Jj
  refine AM (ua (ua (Aa ?_)))
  refine kW kn ?_
  refine Ap (Ah ?_)
  refine Ba results26 (AG rfl) (AG rfl) (sr) ?_
  obtain ⟨rfl, rfl⟩ := BK bh
  exact rfl
 have bj := bf au Jj
 refine Al (Ar (AM (um (um ?_))))
 obtain ⟨x, af, ae, av⟩ := Bj bj
 obtain ⟨Xj, bw, Jl, bk, ah, ai, aw, rfl, bl, aj⟩ := AN.at (Ad _) aa (L := (b1, ce #[.int .i64 wide, .slice Af Ac.length Ae] 45) :: (ad ++ [])) (fC fP) af.1 ae
 refine uv (AA underlying22 sizeOf3 rfl ah rfl (AN.idx aa af)) (uv (Ao isAgg3 rfl ai (aj 0 (by decide))) (uv (A7 rfl rfl) (Aa ?_)))
 refine cQ (fun ak => ?_) fun ak => ?_
 ·have bm := AO av ak
  refine AM (ua (ua (Aa ?_)))
  refine kW kn ?_
  refine Ap (Ah ?_)
  refine Ba results26 (AG rfl) (AG rfl) (sr) ?_
  obtain ⟨rfl, rfl⟩ := BK bm
  exact rfl
 have bn := AP av ak
 refine Al (AM (um (um ?_)))
 obtain ⟨bx, bz, ca, bo, ao, aq, ax, rfl, bp, ar⟩ := AN.at (Ad _) aa (L := (b1, ce #[.int .i64 wide, .slice Af Ac.length Ae] 45) :: (ad ++ [])) (fC fP) af.1 ae
 refine uv (AA underlying22 sizeOf3 rfl ao rfl (AN.idx aa af)) (uv (Ao isAgg3 rfl aq (ar 0 (by decide))) ?_)
 refine ua (ua (Aa ?_))
 refine kW kn (Ap (Ba results26 (AG rfl) (AG rfl) (sr) ?_))
 obtain ⟨rfl, rfl⟩ := BK bn
 exact rfl
theorem M0 {a b : Int} {r : Bool} (hr : Jr a b n = some r) :
    Bz Tryz.prog 72 #[.int .i64 a, .int .i64 b, .int .i64 n] F (.bool r) := by
 refine sp func72 ntmps72 fun K _ _ => ?_
 rw [Jr] at hr
 refine AM (ua (Aa ?_))
 refine AQ (fun e1 F1 L1 => ∃ (ad : Int), Ih a ad = some r ∧ F = F1 ∧ L1 = [] ∧ e1.sub [(0, .int .i64 a), (1, .int .i64 ad)]) ?_ ?_
 ·refine AM (ua (Aa ?_))
  refine Aq ?_
  obtain ⟨g1, r2⟩ := AW hr
  refine A9 (fun ab e1 F1 L1 => ∃ (i : Int), DD 0 n i ab ∧ ∃ (aa : Int), Fx a ab aa = some r ∧ F = F1 ∧ L1 = [] ∧ e1.sub [(0, .int .i64 a), (1, .int .i64 aa), (2, .int .i64 n), (7, .int .i64 i)]) _ (m0 kr ⟨_, DD.start _ _, b, r2, rfl, rfl, z4⟩) ?_
  rintro ab e1 _ _ ⟨i, ae, aa, r5, rfl, rfl, ai⟩
  refine Az _ ai ?_
  refine Ar (AM (um (um ?_)))
  refine uv (A7 rfl rfl) (Aa ?_)
  refine cQ (fun c8 => ?_) fun c8 => ?_
  ·obtain ⟨ab, rfl, aj⟩ := DD.succ ae c8
   rw [Fx] at r5
   refine Al (Ar ?_)
   refine Aq ?_
   refine Ar (AM (um (um ?_)))
   refine uv (JI rfl rfl) (Aa ?_)
   refine cQ (fun H4 => ?_) fun H4 => ?_
   ·have ak := AO r5 H4
    refine AM (ua (Aa (Ap (Ah (AB (Ah (Ah (AB (Ah ?_)))))))))
    refine B2 results72 ?_
    obtain rfl := AH ak
    exact rfl
   have ao := AP r5 H4
   refine Al (Ak (um ?_))
   obtain ⟨aq, ar⟩ := AW ao
   refine uv (A1 rfl rfl aq) ?_
   refine ua (Aa (Av (id := 1) (Ak (um ?_))))
   refine uv (A1 rfl rfl (DD.DZ ae c8 g1)) ?_
   refine ua (Aa ?_)
   exact le kr ⟨_, aj, aa + 1, ar, rfl, rfl, z4⟩
  obtain rfl := DD.zero ae c8
  rw [Fx] at r5
  refine AR (Aj (Aj ?_))
  refine Ay ?_
  exact mi kr ⟨aa, r5, rfl, rfl, z2⟩
 rintro e1 _ _ ⟨ad, ah, rfl, rfl, af⟩
 refine Az _ af ?_
 rw [Ih] at ah
 refine AM (um (um ?_))
 refine uv (A7 rfl rfl) ?_
 refine ua (Aa (Ap ?_))
 refine B2 results72 ?_
 obtain rfl := AH ah
 exact rfl
set_option maxHeartbeats 1000000 in
theorem Np (ad : AL 1 (iE .i64) F Af Ae Ac) (aa : AL 1 (iE .i64) F DH DF table) {r : Bool} {r2 : Int} (hr : Jo wide Ac AK stand table = some (r, r2)) :
    Bz Tryz.prog 30 #[.agg #[.int .i64 wide, .slice Af Ac.length Ae], .int .i64 AK, .int .i64 stand, .slice DH table.length DF] F (.tuple #[.bool r, .int .i64 r2]) := by
 refine sp func30 ntmps30 fun K _ _ => ?_
 rw [Jo] at hr
 refine AM ?_
 refine Bu rfl rfl ?_; intro b1 di
 refine ua (ua (Aa (Ar (AM ?_))))
 refine uv (As isAgg45 sizeOf45 rfl (Has.own 0 rfl) (Be rfl) rfl) ?_
 refine um (um ?_)
 obtain ⟨n, h2, r3⟩ := Aw hr
 refine cV call68 (J9 ad h2) ?_
 refine ua (BX (um ?_))
 refine uv (Bo rfl rfl) (Aa ?_)
 refine cQ (fun c4 => ?_) fun c4 => ?_
 ·have r5 := AO r3 c4
  refine AM (um (ua (ua (Aa ?_))))
  refine kW kn ?_
  refine Ap (Ah ?_)
  refine Ba results30 (AG rfl) (AG rfl) (sr) ?_
  obtain ⟨rfl, rfl⟩ := BK r5
  exact rfl
 have r6 := AP r3 c4
 refine Al (Ar (AM (um ?_)))
 refine uv (AX underlying22 rfl) (uv (Am C0 rfl) (uv (Ao isAgg22 rfl (Has.own 0 rfl) rfl) (uv (AX underlying22 rfl) (uv (Bo rfl rfl) (Aa ?_)))))
 refine cQ (fun c7 => ?_) fun c7 => ?_
 ·have r8 := AO r6 c7
  refine AM (ua (ua (Aa ?_)))
  refine kW kn ?_
  refine Ap (Ah ?_)
  refine Ba results30 (AG rfl) (AG rfl) (sr) ?_
  obtain ⟨rfl, rfl⟩ := BK r8
  exact rfl
 have r9 := AP r6 c7
 refine Al (Ar (AM (um (um ?_))))
 obtain ⟨x, br, ao, bu⟩ := Bj r9
 obtain ⟨dk, dm, JH, cq, aq, ar, bw, rfl, cr, au⟩ := AL.at (Ad _) aa ([(b1, ce #[.int .i64 wide, .slice Af Ac.length Ae] 45)]) br.1 ao
 refine uv (AA underlying22 sizeOf3 rfl aq rfl br) (uv (Ao isAgg3 rfl ar (au 0 (by decide))) (uv (Bo rfl rfl) (Aa ?_)))
 refine cQ (fun I1 => ?_) fun I1 => ?_
 ·have ct := AO bu I1
  refine AM (ua (ua (Aa ?_)))
  refine kW kn ?_
  refine Ap (Ah ?_)
  refine Ba results30 (AG rfl) (AG rfl) (sr) ?_
  obtain ⟨rfl, rfl⟩ := BK ct
  exact rfl
 have cu := AP bu I1
 refine Al ?_
 refine AQ (fun e1 F1 L1 => Ii = some (r, r2) ∧ F = F1 ∧ L1 = [] ∧ e1.sub []) ?_ ?_
 ·refine AM (ua (Aa ?_))
  refine Aq ?_
  refine A9 (fun bx e1 F1 L1 => LA table bx fun tl p => DJ wide Ac AK table tl p = some (r, r2) ∧ F = F1 ∧ L1 = [(b1, ce #[.int .i64 wide, .slice Af Ac.length Ae] 45)] ∧ e1.sub [(1, .int .i64 AK), (3, .slice DH table.length DF), (4, .pointer (some ⟨b1, 0, none⟩)), (11, .int .i64 p)]) _ (m0 kr ⟨_, _, rfl, BO.start _, cu, rfl, rfl, z4⟩) ?_
  rintro bx e1 _ _ ⟨tl, p, av, ae, ah, rfl, rfl, aw⟩
  refine Az _ aw ?_
  refine Ar (AM (um (um ?_)))
  refine uv (AX underlying22 rfl) (uv (A7 rfl rfl) (Aa ?_))
  refine cQ (fun ai => ?_) fun ai => ?_
  ·obtain ⟨x2, bz, rfl, ax, ca, ay⟩ := BO.succ ae ai
   rw [DJ] at ah
   refine Al ?_
   refine AQ (fun e1 F1 L1 => Ic p (DJ wide Ac AK table bz) = some (r, r2) ∧ F = F1 ∧ L1 = [(b1, ce #[.int .i64 wide, .slice Af Ac.length Ae] 45)] ∧ e1.sub [(1, .int .i64 AK), (3, .slice DH table.length DF), (4, .pointer (some ⟨b1, 0, none⟩)), (11, .int .i64 p)]) ?_ ?_
   ·refine Aq ?_
    refine AM (ua (Aa ?_))
    refine Aq ?_
    refine A9 (fun cb e1 F1 L1 => LA table cb fun cc q => Fm wide Ac AK p x2 (DJ wide Ac AK table bz) cc q = some (r, r2) ∧ F = F1 ∧ L1 = [(b1, ce #[.int .i64 wide, .slice Af Ac.length Ae] 45)] ∧ e1.sub [(1, .int .i64 AK), (3, .slice DH table.length DF), (4, .pointer (some ⟨b1, 0, none⟩)), (11, .int .i64 p), (12, .int .i64 q)]) _ (m0 kr ⟨_, _, rfl, BO.start _, ah, rfl, rfl, z5⟩) ?_
    rintro cb e1 _ _ ⟨cc, q, az, af, aj, rfl, rfl, ba⟩
    refine Az _ ba ?_
    refine Ar (AM (um (um ?_)))
    refine uv (AX underlying22 rfl) (uv (A7 rfl rfl) (Aa ?_))
    refine cQ (fun ak => ?_) fun ak => ?_
    ·obtain ⟨x3, dn, rfl, bb, cd, bc⟩ := BO.succ af ak
     rw [Fm] at aj
     refine Al (Ar ?_)
     refine Aq (AM (uv (As isAgg45 sizeOf45 rfl (Has.own 0 rfl) (Be rfl) rfl) ?_))
     refine um (um (um ?_))
     obtain ⟨n2, cv, cw⟩ := Aw aj
     refine cV call69 (I3 ad cv) ?_
     refine ua (Aa ?_)
     obtain ⟨k, cf, bg⟩ := Aw cw
     refine jE ([(b1, ce #[.int .i64 wide, .slice Af Ac.length Ae] 45)]) [(1, .int .i64 AK), (3, .slice DH table.length DF), (4, .pointer (some ⟨b1, 0, none⟩)), (11, .int .i64 p), (12, .int .i64 q), (62, .bool k)] ?_ ?_
     ·clear bg
      refine Iv (by kernel_rfl) (by kernel_rfl) (by kernel_rfl) (wm (wv (Ex rfl rfl) (wm ?_)))
      by_cases ab : 0 < n2
      ·have cx := AO cf ab
       refine AS (b := true) 51 rfl (Env.DX rfl ab) (wm (AS (b := true) 51 rfl (Env.DX rfl ab) (wm (AS (b := true) 51 rfl (Env.DX rfl ab) ?_))))
       obtain ⟨dp, dq, dr, cy, bh, bj, cg, rfl, cz, bk⟩ := AL.at (Ad _) aa ([(b1, ce #[.int .i64 wide, .slice Af Ac.length Ae] 45)]) cd.1 bb
       refine wv (AA underlying22 sizeOf3 rfl bh rfl cd) (AS (b := true) 51 rfl (Env.DX rfl ab) (wv (Ao isAgg3 rfl bj (bk 0 (by decide))) ?_))
       refine AS (b := true) 51 rfl (Env.DX rfl ab) (wm (AS (b := true) 51 rfl (Env.DX rfl ab) (wm (AS (b := true) 51 rfl (Env.DX rfl ab) ?_))))
       obtain ⟨dt, du, dv, da, bl, bm, cj, rfl, db, bn⟩ := AL.at (Ad _) aa ([(b1, ce #[.int .i64 wide, .slice Af Ac.length Ae] 45)]) ca.1 ax
       refine wv (AA underlying22 sizeOf3 rfl bl rfl ca) (AS (b := true) 51 rfl (Env.DX rfl ab) (wv (Ao isAgg3 rfl bm (bn 0 (by decide))) ?_))
       refine AS (b := true) 51 rfl (Env.DX rfl ab) (wm (AS (b := true) 51 rfl (Env.DX rfl ab) ?_))
       obtain ⟨ok, dd, de⟩ := Aw cx
       refine Dx rfl call72 rfl rfl rfl (M0 dd) (wv (Au (A5 rfl ab) rfl) (BD ?_))
       obtain rfl := AH de
       exact mi kr ⟨rfl, rfl, z6⟩
      have df := AP cf ab
      refine AE (b' := false) 51 rfl (Env.DY rfl ab) rfl rfl (AE (b' := false) 51 rfl (Env.DY rfl ab) rfl rfl (AE (b' := false) 51 rfl (Env.DY rfl ab) rfl rfl (AE (b' := false) 51 rfl (Env.DY rfl ab) rfl rfl (AE (b' := false) 51 rfl (Env.DY rfl ab) rfl rfl (AE (b' := false) 51 rfl (Env.DY rfl ab) rfl rfl (AE (b' := false) 51 rfl (Env.DY rfl ab) rfl rfl (AE (b' := false) 51 rfl (Env.DY rfl ab) rfl rfl (AE (b' := false) 51 rfl (Env.DY rfl ab) rfl rfl (AE (b' := false) 51 rfl (Env.DY rfl ab) rfl rfl ?_)))))))))
      refine wv (At (AZ rfl ab) rfl) (BD ?_)
      obtain rfl := AH df
      exact mi kr ⟨rfl, rfl, z6⟩
     refine AU rfl (fun bo => ?_) (fun bo => ?_)
     ·have dg := bt bg bo
      refine AM (ua (ua (Aa ?_)))
      refine kW kn ?_
      refine Ap (AB (Ah (Ah (AB (AB (Ah (Ah (AB (Ah ?_)))))))))
      refine Ba results30 (AG rfl) (AG rfl) (sr) ?_
      obtain ⟨rfl, rfl⟩ := BK dg
      exact rfl
     have dh := bf bg bo
     refine Al (Av (id := 3) (Ak (um ?_)))
     refine uv (A1 rfl rfl (BO.DZ af ak (AL.lt aa))) ?_
     refine ua (Aa ?_)
     subst az; exact le kr ⟨_, _, rfl, bc, dh, rfl, rfl, z5⟩
    obtain rfl := BO.zero af ak
    rw [Fm] at aj
    refine AR (Aj (Aj ?_))
    refine Ay (Av (id := 1) ?_)
    exact mi kr ⟨aj, rfl, rfl, z4⟩
   rintro e1 _ _ ⟨cn, rfl, rfl, bp⟩
   refine Az _ bp ?_
   rw [Ic] at cn
   refine Ak (um ?_)
   refine uv (A1 rfl rfl (BO.DZ ae ai (AL.lt aa))) ?_
   refine ua (Aa ?_)
   subst av; exact le kr ⟨_, _, rfl, ay, cn, rfl, rfl, z4⟩
  obtain rfl := BO.zero ae ai
  rw [DJ] at ah
  refine AR (Aj (Aj ?_))
  refine Ay ?_
  exact mi kn ⟨ah, rfl, rfl, (sn _)⟩
 rintro e1 _ _ ⟨cp, rfl, rfl, bq⟩
 refine Az _ bq ?_
 rw [Ii] at cp
 refine AM (ua (ua (Aa (Ap ?_))))
 refine Ba results30 (AG rfl) (AG rfl) (sr) ?_
 obtain ⟨rfl, rfl⟩ := BK cp
 exact rfl
set_option maxHeartbeats 1000000 in
theorem IS (aa : AL 1 (iE .i64) F Af Ae Ac) (ab : AL 1 (iE .i64) F DH DF table) {r : Bool} (hr : EU wide Ac AK stand Cw table = some r) :
    Bz Tryz.prog 6 #[.agg #[.int .i64 wide, .slice Af Ac.length Ae], .int .i64 AK, .int .i64 stand, .int .i64 Cw, .slice DH table.length DF] F (.bool r) := by
 refine sp func6 ntmps6 fun K _ _ => ?_
 rw [EU] at hr
 refine AM ?_
 refine Bu rfl rfl ?_; intro b1 fy
 refine ua (Aa (Ar ?_))
 obtain ⟨k, h2, r3⟩ := Aw hr
 refine jE ([(b1, ce #[.int .i64 wide, .slice Af Ac.length Ae] 25)]) [(1, .int .i64 AK), (2, .int .i64 stand), (3, .int .i64 Cw), (4, .slice DH table.length DF), (5, .pointer (some ⟨b1, 0, none⟩)), (28, .bool k)] ?_ ?_
 ·clear r3
  refine Ak (uv (As isAgg25 sizeOf25 rfl (Has.own 0 rfl) (Be rfl) rfl) ?_)
  obtain ⟨ok, h4, r5⟩ := Aw h2
  refine cV call14 (FO aa h4) (um ?_)
  rcases Bf ok with c6 | c6
  ·have r7 := bt r5 c6
   refine fB c6 (fB c6 (fB c6 ?_))
   refine uv (Au (Es rfl c6) rfl) (Aa ?_)
   obtain rfl := AH r7
   exact mi kr ⟨rfl, rfl, z6⟩
  have r8 := bf r5 c6
  refine nB c6 (um (nB c6 ?_))
  refine uv (AX underlying22 rfl) (nB c6 (uv (Ex rfl rfl) (uv (At (Es rfl c6) rfl) (Aa ?_))))
  obtain rfl := AH r8
  exact mi kr ⟨rfl, rfl, z6⟩
 refine AU rfl (fun H4 => ?_) (fun H4 => ?_)
 ·have dv := bt r3 H4
  refine AM ?_
  obtain ⟨ga, dw, dx⟩ := Aw dv
  refine cV call13 (BR dw) ?_
  refine ua (Aa ?_)
  refine kW kn ?_
  refine Ap (Ah ?_)
  refine B2 results6 ?_
  obtain rfl := AH dx
  exact rfl
 have dy := bf r3 H4
 refine Al (Ar ?_)
 refine CF [(.pre, 6), (.pre, 7), (.still, 0), (.still, 2), (.still, 4), (.seq, 1), (.seq, 3), (.seq, 5), (.alloc (.cells (.agg #[.int .i64 0, .slice none 0 0] : Value).cells 25 (0, 0)) (fun b => .pointer (some ⟨b, 0, none⟩)) [], 6), (.alloc (.cells (.agg #[.int .i64 0, .slice none 0 0] : Value).cells 45 (0, 0)) (fun b => .pointer (some ⟨b, 0, none⟩)) [], 7), (.seq, 8), (.still, 9), (.seq, 10)] (by kernel_rfl) (by kernel_rfl) (⟨⟨_, _, rfl, rfl, rfl, rfl, rfl, Gb zeroValue25⟩, ⟨⟨_, _, rfl, rfl, rfl, rfl, rfl, Gb zeroValue45⟩, trivial⟩⟩) (by rfl) (by kernel_rfl) ?_
 refine ⟨⟨[], rfl, sn _, by kernel_rfl⟩, ?_⟩
 refine ⟨⟨[], rfl, sn _, by kernel_rfl⟩, ?_⟩
 refine mL [5] ([(b1, ce #[.int .i64 wide, .slice Af Ac.length Ae] 25)]) rfl (s0 sr) (fun H F' L' bz ca => As isAgg25 sizeOf25 rfl ((Has.own 0 rfl).ext bz ca) (Be rfl) rfl) (mS [4] rfl (Bh rfl) (mL [5] ([(b1, ce #[.int .i64 wide, .slice Af Ac.length Ae] 25)]) rfl (s0 sr) (fun H F' L' bz ca => As isAgg25 sizeOf25 rfl ((Has.own 0 rfl).ext bz ca) (Be rfl) rfl) ?_))
 refine ⟨_, [(30, .agg #[.int .i64 wide, .slice Af Ac.length Ae])], rfl, rfl, z1, by kernel_rfl, ?_⟩; intro H
 obtain ⟨n, l, dz, eb⟩ := Bs dy
 refine c0 call15 (FJ aa dz) ?_; rintro _ gb _ bn cb ⟨az, ba, I1, ae, rfl, rfl, ad⟩
 replace aa := aa.mono (Ad _) bn
 replace ab := ab.mono (Ad _) bn
 replace ad := ad.new fun p hp => cb p (by simp [hp])
 refine AJ (lp (ln rfl)) (kO (kf (fS fO) kr) ?_)
 refine Aa ⟨_, rfl, bn, [4, 2], by kernel_rfl, .inl (.inr (fun d h => by cases h; rfl)), (fc (s0 (s2 (s3 sr))) (fc sm nm)), ?_⟩
 refine ⟨_, [(32, .slice DH table.length DF)], rfl, rfl, z1, by kernel_rfl, ?_⟩; intro H
 obtain ⟨l2, eg, eh⟩ := Aw eb
 refine c0 call24 (GQ ab eg) ?_; rintro _ gg _ bm cc ⟨dp, dq, dr, af, rfl, rfl, ai⟩
 replace aa := aa.mono (Ad _) bm
 replace ab := ab.mono (Ad _) bm
 replace ad := ad.mono (Ad _) bm
 replace ai := ai.new fun p hp => cc p (by simp [hp])
 refine AJ (lp (ln rfl)) (kO (kf (fS fO) kr) ?_)
 refine Aa ⟨_, rfl, bm, [4], by kernel_rfl, .inl (.inr (fun d h => by cases h; rfl)), (fc (s0 (s2 (s3 (s3 sr)))) nm), ?_⟩
 refine ⟨_, [(34, .agg #[.int .i64 wide, .slice Af Ac.length Ae])], rfl, rfl, z1, by kernel_rfl, ?_⟩; intro H
 obtain ⟨n2, l3, ei, ej⟩ := Bs eh
 refine c0 call16 (DK aa ei) ?_; rintro _ gh _ bj cd ⟨bb, bc, bg, ah, rfl, rfl, aj⟩
 replace aa := aa.mono (Ad _) bj
 replace ab := ab.mono (Ad _) bj
 replace ad := ad.mono (Ad _) bj
 replace ai := ai.mono (Ad _) bj
 replace aj := aj.new fun p hp => cd p (by simp [hp])
 refine AJ (lp (ln rfl)) (kO (kf (fS fO) kr) ?_)
 refine Aa ⟨_, rfl, bj, [], by kernel_rfl, .inl (.inl rfl), nm, ?_⟩
 refine G9 rfl ?_; intro au en
 refine JK (L' := (au, ce #[.int .i64 0, .slice none 0 0] 25) :: ((b1, ce #[.int .i64 wide, .slice Af Ac.length Ae] 25) :: (ah ++ (af ++ (ae ++ []))))) rfl ?_
 refine G9 rfl ?_; intro av eo
 refine JK (L' := (av, ce #[.int .i64 0, .slice none 0 0] 45) :: ((au, ce #[.int .i64 0, .slice none 0 0] 25) :: ((b1, ce #[.int .i64 wide, .slice Af Ac.length Ae] 25) :: (ah ++ (af ++ (ae ++ [])))))) rfl ?_
 refine ⟨_, [(11, .pointer (some ⟨au, 0, none⟩)), (31, .agg #[.int .i64 n, .slice az ba I1])], rfl, rfl, z2, by kernel_rfl, ?_⟩; intro H
 refine Bg (i := 1) sizeOf25 rfl rfl rfl (by simp [Value.oneCell']) rfl (Be rfl) (AJ rfl ?_)
 refine Aa ⟨undef, rfl, AY.refl _, [], by kernel_rfl, .inl (.inl rfl), nm, ?_⟩
 refine mS [33] rfl (Ej rfl) ?_
 refine ⟨_, [(13, .pointer (some ⟨av, 0, none⟩)), (35, .agg #[.int .i64 n2, .slice bb bc bg])], rfl, rfl, z2, by kernel_rfl, ?_⟩; intro H
 refine Bg (i := 0) sizeOf45 rfl rfl rfl (by simp [Value.oneCell']) rfl (Be rfl) (AJ rfl ?_)
 refine Aa ⟨undef, rfl, AY.refl _, [], by kernel_rfl, .inl (.inl rfl), nm, ?_⟩
 refine DI (AM (uv (As isAgg25 sizeOf25 rfl (Has.own 1 rfl) (Be rfl) rfl) ?_))
 refine um (um (um ?_))
 obtain ⟨n3, n4, ep, er⟩ := Bs ej
 refine Bi (Lt := ae ++ []) (Lr := (av, ce #[.int .i64 n2, .slice bb bc bg] 45) :: ((au, ce #[.int .i64 n, .slice az ba I1] 25) :: ((b1, ce #[.int .i64 wide, .slice Af Ac.length Ae] 25) :: (ah ++ (af ++ []))))) rfl call25 rfl rfl rfl (pT ((fC (fC (fC (fS (fS fP))))).trans (pA pR)) (lp (ln rfl))) (fun F2 h2 h3 => by rw [(AN.Bm ad).1]; exact J3 (ad.row (Ad _) h2 (fun p hp => h3 p (List.mem_append_left _ hp))) ep) ?_
 refine um (ox rfl rfl rfl (ox rfl rfl rfl (ua (ua (BX ?_)))))
 refine uv (As isAgg45 sizeOf45 rfl (Has.own 0 rfl) (Be rfl) rfl) ?_
 refine um (um (um ?_))
 obtain ⟨n5, n6, et, eu⟩ := Bs er
 refine Bi (Lt := ah ++ []) (Lr := (av, ce #[.int .i64 n2, .slice bb bc bg] 45) :: ((au, ce #[.int .i64 n, .slice az ba I1] 25) :: ((b1, ce #[.int .i64 wide, .slice Af Ac.length Ae] 25) :: (af ++ (ae ++ []))))) rfl call26 rfl rfl rfl (pT ((fC (fC (fC fP))).trans (pA pR)) (lp (ln rfl))) (fun F2 h2 h3 => by rw [(AN.Bm aj).1]; exact I2 (aj.row (Ad _) h2 (fun p hp => h3 p (List.mem_append_left _ hp))) et) ?_
 refine um (ox rfl rfl rfl (ox rfl rfl rfl (ua (ua (Aa (Ar ?_))))))
 obtain ⟨k2, dt, cf⟩ := Aw eu
 refine jE (((av, ce #[.int .i64 n2, .slice bb bc bg] 45) :: ((au, ce #[.int .i64 n, .slice az ba I1] 25) :: ((b1, ce #[.int .i64 wide, .slice Af Ac.length Ae] 25) :: (ae ++ (af ++ (ah ++ []))))))) [(1, .int .i64 AK), (2, .int .i64 stand), (4, .slice DH table.length DF), (5, .pointer (some ⟨b1, 0, none⟩)), (11, .pointer (some ⟨au, 0, none⟩)), (12, .slice dp dq dr), (13, .pointer (some ⟨av, 0, none⟩)), (59, .bool k2)] ?_ ?_
 ·clear cf
  refine Ak (um (um ?_))
  refine uv (Bo rfl rfl) (um ?_)
  by_cases bl : n3 ≠ n5
  ·have ew := AO dt bl
   refine fT bl (fT bl (fT bl ?_))
   refine uv (Au (A5 rfl bl) rfl) (Aa ?_)
   obtain rfl := AH ew
   exact mi (kc (kc (kc (kg (fS (fS fP)) (kg (fS fP) kr))))) ⟨rfl, rfl, z8⟩
  have ey := AP dt bl
  refine nF bl (um (nF bl (um (nF bl ?_))))
  refine uv (Bo rfl rfl) (uv (At (AZ rfl bl) rfl) (Aa ?_))
  obtain rfl := AH ey
  exact mi (kc (kc (kc (kg (fS (fS fP)) (kg (fS fP) kr))))) ⟨rfl, rfl, z8⟩
 refine AU rfl (fun cg => ?_) (fun cg => ?_)
 ·have DZ := bt cf cg
  refine AM (ua (Aa ?_))
  refine kW kn ?_
  refine Ap (Ah ?_)
  refine B2 results6 ?_
  obtain rfl := AH DZ
  exact rfl
 have ez := bf cf cg
 refine Al (AM ?_)
 refine uv (As isAgg25 sizeOf25 rfl (Has.own 1 rfl) (Be rfl) rfl) ?_
 refine um (um ?_)
 obtain ⟨l4, n7, fa, fb⟩ := Bs ez
 refine Dh (Lb := []) (Lt := ae ++ []) (Lr := (av, ce #[.int .i64 n2, .slice bb bc bg] 45) :: ((au, ce #[.int .i64 n, .slice az ba I1] 25) :: ((b1, ce #[.int .i64 wide, .slice Af Ac.length Ae] 25) :: (af ++ (ah ++ []))))) rfl call27 rfl rfl rfl (pT ((fC (fC (fC fP))).trans (pA pR)) (ln (lp (ln rfl)))) (fun F2 h2 h3 => by rw [(AN.Bm ad).1]; exact IL (ad.row (Ad _) h2 (fun p hp => h3 p (List.mem_append_left _ hp))) fa) (fun _ _ _ _ hq => by obtain ⟨fe, ff, fg, bo, rfl, rfl, ar⟩ := hq; exact ⟨_, _, _, _, rfl, rfl, ar.flat (fun _ _ h => h)⟩) ?_; rintro _ gi _ bk cj cn ⟨fe, ff, fg, bo, rfl, rfl, ar⟩
 replace aa := aa.mono (Ad _) bk
 replace ab := ab.mono (Ad _) bk
 replace ad := ad.mono (Ad _) bk
 replace ai := ai.mono (Ad _) bk
 replace aj := aj.mono (Ad _) bk
 have cp := J1 (Lb' := []) (by rfl) cj cn
 replace ar := ar.new fun p hp => cp p (by simp [hp])
 refine AJ (lp (ln (lp (ln rfl)))) (kO (kf (fS (fS fO)) (kf (fS (fS fO)) (kf (fS (fS fO)) kr))) ?_)
 refine um (ox rfl rfl rfl (ox rfl rfl rfl (ua (ua (BX ?_)))))
 refine uv (As isAgg45 sizeOf45 rfl (Has.own 0 rfl) (Be rfl) rfl) ?_
 refine um (um ?_)
 obtain ⟨l5, n8, fh, fi⟩ := Bs fb
 refine Dh (Lb := []) (Lt := ah ++ []) (Lr := (av, ce #[.int .i64 n2, .slice bb bc bg] 45) :: ((au, ce #[.int .i64 n, .slice az ba I1] 25) :: ((b1, ce #[.int .i64 wide, .slice Af Ac.length Ae] 25) :: (bo ++ (ae ++ (af ++ [])))))) rfl call28 rfl rfl rfl (pT ((fC (fC (fC (fS (fS (fS fP)))))).trans (pA pR)) (ln (lp (ln rfl)))) (fun F2 h2 h3 => by rw [(AN.Bm aj).1]; exact IM (aj.row (Ad _) h2 (fun p hp => h3 p (List.mem_append_left _ hp))) fh) (fun _ _ _ _ hq => by obtain ⟨fj, fk, fl, bq, rfl, rfl, ax⟩ := hq; exact ⟨_, _, _, _, rfl, rfl, ax.flat (fun _ _ h => h)⟩) ?_; rintro _ gj _ ay cq cr ⟨fj, fk, fl, bq, rfl, rfl, ax⟩
 replace aa := aa.mono (Ad _) ay
 replace ab := ab.mono (Ad _) ay
 replace ad := ad.mono (Ad _) ay
 replace ai := ai.mono (Ad _) ay
 replace aj := aj.mono (Ad _) ay
 replace ar := ar.mono (Ad _) ay
 have ct := J1 (Lb' := []) (by rfl) cq cr
 replace ax := ax.new fun p hp => ct p (by simp [hp])
 refine AJ (lp (ln (lp (ln rfl)))) (kO (kf (fS (fS fO)) (kf (fS (fS fO)) (kf (fS (fS fO)) kr))) ?_)
 refine um (ox rfl rfl rfl (ox rfl rfl rfl (ua (ua (Aa (Ar ?_))))))
 obtain ⟨k3, du, cu⟩ := Aw fi
 refine jE (((av, ce #[.int .i64 n2, .slice bb bc bg] 45) :: ((au, ce #[.int .i64 n, .slice az ba I1] 25) :: ((b1, ce #[.int .i64 wide, .slice Af Ac.length Ae] 25) :: (ae ++ (af ++ (ah ++ []))))))) [(1, .int .i64 AK), (2, .int .i64 stand), (4, .slice DH table.length DF), (5, .pointer (some ⟨b1, 0, none⟩)), (11, .pointer (some ⟨au, 0, none⟩)), (12, .slice dp dq dr), (13, .pointer (some ⟨av, 0, none⟩)), (82, .bool k3)] ?_ ?_
 ·clear cu
  refine Ak (um (um ?_))
  refine uv (Bo rfl rfl) (um ?_)
  by_cases bh : n7 ≠ n8
  ·have fm := AO du bh
   refine fT bh (fT bh (fT bh (fT bh ?_)))
   refine uv (Au (A5 rfl bh) rfl) (Aa ?_)
   obtain rfl := AH fm
   exact mi (kc (kc (kc (kx (kg (fS (fS fP)) (kg (fS (fS fP)) (ka kn))))))) ⟨rfl, rfl, z8⟩
  have fo := AP du bh
  refine nF bh (um (nF bh (um (nF bh ?_))))
  obtain ⟨gk, fp, fq⟩ := Aw fo
  refine Bi (Lt := bo ++ (bq ++ [])) (Lr := (av, ce #[.int .i64 n2, .slice bb bc bg] 45) :: ((au, ce #[.int .i64 n, .slice az ba I1] 25) :: ((b1, ce #[.int .i64 wide, .slice Af Ac.length Ae] 25) :: (ah ++ (ae ++ (af ++ [])))))) rfl call22 rfl rfl rfl (pT ((fC (fC (fC (fS (fS fP))))).trans (pA ((fC (fC (fC fP))).trans (pA pR)))) (lp (lp (ln rfl)))) (fun F2 h2 h3 => by rw [(AN.Bm ar).1]; rw [(AN.Bm ax).1]; exact Bq (ar.row (Ad _) h2 (fun p hp => h3 p (List.mem_append_left _ hp))) (ax.row (Ad _) h2 (fun p hp => h3 p (List.mem_append_right _ (List.mem_append_left _ hp)))) fp) ?_
  refine nF bh (uv (Cf rfl) (uv (At (AZ rfl bh) rfl) (Aa ?_)))
  obtain rfl := AH fq
  exact mi (kc (kc (kc (kx (kg (fS (fS fP)) (kg (fS (fS fP)) (ka kn))))))) ⟨rfl, rfl, z8⟩
 refine AU rfl (fun bp => ?_) (fun bp => ?_)
 ·have cv := bt cu bp
  refine AM (ua (Aa ?_))
  refine kW kn ?_
  refine Ap (Ah ?_)
  refine B2 results6 ?_
  obtain rfl := AH cv
  exact rfl
 have cw := bf cu bp
 refine Al (AM ?_)
 refine uv (As isAgg25 sizeOf25 rfl (Has.own 1 rfl) (Be rfl) rfl) ?_
 refine um (um (um ?_))
 obtain ⟨fs, n9, cx, cy⟩ := Bs cw
 refine Bi (Lt := ae ++ (af ++ [])) (Lr := (av, ce #[.int .i64 n2, .slice bb bc bg] 45) :: ((au, ce #[.int .i64 n, .slice az ba I1] 25) :: ((b1, ce #[.int .i64 wide, .slice Af Ac.length Ae] 25) :: (ah ++ [])))) rfl call29 rfl rfl rfl (pT ((fC (fC (fC fP))).trans (pA ((fC (fC (fC fP))).trans (pA pR)))) (lp (lp (ln rfl)))) (fun F2 h2 h3 => by rw [(AN.Bm ad).1]; rw [(AN.Bm ai).1]; exact MT (ad.row (Ad _) h2 (fun p hp => h3 p (List.mem_append_left _ hp))) (ai.row (Ad _) h2 (fun p hp => h3 p (List.mem_append_right _ (List.mem_append_left _ hp)))) cx) ?_
 refine um (ox rfl rfl rfl (ox rfl rfl rfl (ua (ua (BX ?_)))))
 refine uv (As isAgg45 sizeOf45 rfl (Has.own 0 rfl) (Be rfl) rfl) ?_
 refine um (um (um ?_))
 obtain ⟨ft, fv, cz, br⟩ := Bs cy
 refine Bi (Lt := ah ++ []) (Lr := (av, ce #[.int .i64 n2, .slice bb bc bg] 45) :: ((au, ce #[.int .i64 n, .slice az ba I1] 25) :: ((b1, ce #[.int .i64 wide, .slice Af Ac.length Ae] 25) :: (ae ++ (af ++ []))))) rfl call30 rfl rfl rfl (pT ((fC (fC (fC (fS (fS fP))))).trans (pA pR)) (lp (ln rfl))) (fun F2 h2 h3 => by rw [(AN.Bm aj).1]; exact Np (aj.row (Ad _) h2 (fun p hp => h3 p (List.mem_append_left _ hp))) (ab.mono (Ad _) h2) cz) ?_
 refine um (ox rfl rfl rfl (ox rfl rfl rfl (ua (ua (BX (um (um ?_)))))))
 refine uv (WU underlying4 rfl rfl) (um ?_)
 by_cases ao : fs = ft
 ·have bu := AO br ao
  refine nT ao (um (nT ao (um (nT ao ?_))))
  refine uv (Bv rfl rfl) (uv (Au (A5 rfl ao) rfl) (um ?_))
  by_cases aq : n9 = fv
  ·have da := AO bu aq
   refine nT aq (uv (As isAgg25 sizeOf25 rfl (Has.own 1 rfl) (Be rfl) rfl) (nT aq (uv (As isAgg25 sizeOf25 rfl (Has.own 2 rfl) (Be rfl) rfl) (nT aq ?_))))
   obtain ⟨fw, db, bw⟩ := Aw da
   refine Bi (Lt := ae ++ []) (Lr := (av, ce #[.int .i64 n2, .slice bb bc bg] 45) :: ((au, ce #[.int .i64 n, .slice az ba I1] 25) :: ((b1, ce #[.int .i64 wide, .slice Af Ac.length Ae] 25) :: (af ++ (ah ++ []))))) rfl call23 rfl rfl rfl (pT ((fC (fC (fC fP))).trans (pA pR)) (lp (ln rfl))) (fun F2 h2 h3 => by rw [(AN.Bm ad).1]; exact Fg (ad.row (Ad _) h2 (fun p hp => h3 p (List.mem_append_left _ hp))) (aa.mono (Ad _) h2) db) ?_
   refine uv (Au (A5 rfl aq) rfl) (um ?_)
   rcases Bf fw with ak | ak
   ·have dd := bt bw ak
    refine nB ak (um (nB ak (um (nB ak ?_))))
    obtain ⟨fx, de, bx⟩ := Aw dd
    refine Bi (Lt := af ++ []) (Lr := (av, ce #[.int .i64 n2, .slice bb bc bg] 45) :: ((au, ce #[.int .i64 n, .slice az ba I1] 25) :: ((b1, ce #[.int .i64 wide, .slice Af Ac.length Ae] 25) :: (ae ++ (ah ++ []))))) rfl call22 rfl rfl rfl (pT ((fC (fC (fC (fS fP)))).trans (pA pR)) (lp (ln rfl))) (fun F2 h2 h3 => by rw [(AN.Bm ai).1]; exact Bq (ai.row (Ad _) h2 (fun p hp => h3 p (List.mem_append_left _ hp))) (ab.mono (Ad _) h2) de) ?_
    refine uv (Au (Es rfl ak) rfl) (um ?_)
    rcases Bf fx with aw | aw
    ·have df := bt bx aw
     refine nB aw ?_
     obtain ⟨gl, dg, dh⟩ := Aw df
     refine cV call13 (BR dg) (uv (Au (Es rfl aw) rfl) ?_)
     refine ua (Aa ?_)
     refine kW kn (Ap (B2 results6 ?_))
     obtain rfl := AH dh
     exact rfl
    have di := bf bx aw
    refine fB aw (uv (At (Es rfl aw) rfl) ?_)
    refine ua (Aa ?_)
    refine kW kn (Ap (B2 results6 ?_))
    obtain rfl := AH di
    exact rfl
   have dk := bf bw ak
   refine fB ak (fB ak (fB ak ?_))
   refine uv (At (Es rfl ak) rfl) ?_
   refine um (Ai (b' := false) 117 rfl rfl rfl rfl ?_)
   refine uv (At rfl rfl) ?_
   refine ua (Aa ?_)
   refine kW kn (Ap (B2 results6 ?_))
   obtain rfl := AH dk
   exact rfl
  have dm := AP bu aq
  refine fF aq (fF aq (fF aq ?_))
  refine uv (At (AZ rfl aq) rfl) ?_
  refine um (Ai (b' := false) 112 rfl rfl rfl rfl (Ai (b' := false) 112 rfl rfl rfl rfl (Ai (b' := false) 112 rfl rfl rfl rfl ?_)))
  refine uv (At rfl rfl) ?_
  refine um (Ai (b' := false) 117 rfl rfl rfl rfl ?_)
  refine uv (At rfl rfl) ?_
  refine ua (Aa ?_)
  refine kW kn (Ap (B2 results6 ?_))
  obtain rfl := AH dm
  exact rfl
 have dn := AP br ao
 refine fF ao (fF ao (fF ao ?_))
 refine uv (At (AZ rfl ao) rfl) ?_
 refine um (Ai (b' := false) 107 rfl rfl rfl rfl (Ai (b' := false) 107 rfl rfl rfl rfl (Ai (b' := false) 107 rfl rfl rfl rfl ?_)))
 refine uv (At rfl rfl) ?_
 refine um (Ai (b' := false) 112 rfl rfl rfl rfl (Ai (b' := false) 112 rfl rfl rfl rfl (Ai (b' := false) 112 rfl rfl rfl rfl ?_)))
 refine uv (At rfl rfl) ?_
 refine um (Ai (b' := false) 117 rfl rfl rfl rfl ?_)
 refine uv (At rfl rfl) ?_
 refine ua (Aa ?_)
 refine kW kn (Ap (B2 results6 ?_))
 obtain rfl := AH dn
 exact rfl
set_option maxHeartbeats 1000000 in
theorem QW (ab : AL 1 (iE .i64) F Af Ae Ac) (ad : AL 1 (iE .i64) F I9 Ja HR) {r r2 : Int} (hr : Mz wide Ac AK HR = some (r, r2)) :
    Bz Tryz.prog 31 #[.agg #[.int .i64 wide, .slice Af Ac.length Ae], .int .i64 AK, .slice I9 HR.length Ja] F (.tuple #[.int .i64 r, .int .i64 r2]) := by
 refine sp func31 ntmps31 fun K _ _ => ?_
 rw [Mz] at hr
 refine AM ?_
 refine Bu rfl rfl ?_; intro b1 ic
 refine ua (ua (BX ?_))
 refine uv (As isAgg25 sizeOf25 rfl (Has.own 0 rfl) (Be rfl) rfl) (um ?_)
 obtain ⟨d, n, h2, r3⟩ := Bs hr
 refine c0 call73 (I7 ab h2) ?_; rintro _ F4 _ dx ie ⟨v8, rfl, rfl, fe⟩
 replace ab := ab.mono (Ad _) dx
 replace ad := ad.mono (Ad _) dx
 refine AJ (ln rfl) ?_
 refine um (ox rfl rfl rfl (ox rfl rfl rfl (ua (ua (Aa (Ar ?_))))))
 refine Aq ?_
 refine AM (um ?_)
 refine uv (Bo rfl rfl) ?_
 refine ua (Aa ?_)
 refine cQ (fun H4 => ?_) fun H4 => ?_
 ·have ff := AO r3 H4
  refine AM (um (ua (ua (Aa ?_))))
  refine kW kn ?_
  refine Ap (AB (Ah ?_))
  refine Ba results31 (AG rfl) (AG rfl) (sr) ?_
  obtain ⟨rfl, rfl⟩ := BK ff
  exact rfl
 have dy := AP r3 H4
 refine AM (um ?_)
 refine uv (AX underlying22 rfl) (uv (Bv rfl rfl) ?_)
 refine ua (Aa ?_)
 refine cQ (fun LB => ?_) fun LB => ?_
 ·have fg := AO dy LB
  refine AM (ua (ua (Aa ?_)))
  refine kW kn ?_
  refine Ap (AB (Ah ?_))
  refine Ba results31 (AG rfl) (AG rfl) (sr) ?_
  obtain ⟨rfl, rfl⟩ := BK fg
  exact rfl
 have fh := AP dy LB
 refine dW (wv (As isAgg25 sizeOf25 rfl (Has.own 0 rfl) (Be rfl) rfl) (wm ?_))
 obtain ⟨x, dz, cg, fi⟩ := Bj fh
 obtain ⟨ig, ij, Jj, fj, cj, cn, eb, rfl, fk, cp⟩ := AL.at (Ad _) ad ([(b1, ce #[.int .i64 wide, .slice Af Ac.length Ae] 25)]) dz.1 cg
 refine wv (AA underlying22 sizeOf3 rfl cj rfl dz) (wv (Ao isAgg3 rfl cn (cp 0 (by decide))) ?_)
 obtain ⟨n2, fl, eg⟩ := Aw fi
 refine Dx rfl call62 rfl rfl rfl (Fl ab fl) (wv (Bo rfl rfl) ?_)
 refine wa (BD ?_)
 refine cQ (fun cq => ?_) fun cq => ?_
 ·have fm := AO eg cq
  refine AM (ua (ua (Aa ?_)))
  refine kW kn ?_
  refine Ap (AB (Ah ?_))
  refine Ba results31 (AG rfl) (AG rfl) (sr) ?_
  obtain ⟨rfl, rfl⟩ := BK fm
  exact rfl
 have fo := AP eg cq
 refine Al (Av (id := 0) (AM (ua (Aa ?_))))
 refine AQ (fun e1 F1 L1 => ∃ (sum : Int), Kt sum = some (r, r2) ∧ AY F4 F1 ∧ L1 = [] ∧ e1.sub [(10, .int .i64 sum)]) ?_ ?_
 ·refine AM (um ?_)
  obtain ⟨fp, fq⟩ := AW fo
  obtain ⟨ae, fs, ft⟩ := B8 fq
  obtain ⟨bz, ca, bh, ar⟩ := AL.slice (Ad _) ad fp fs
  refine uv ((IE (l := 1) (h := (HR.length : Int)) underlying22 sizeOf3 rfl (.inr ⟨_, rfl, rfl⟩) (.inl ⟨rfl, rfl⟩) ar.1).eq ar.2) (uv (AX underlying22 rfl) ?_)
  refine um (Aa ?_)
  refine Aq (kW kn ?_)
  refine A9 (fun eh e1 F1 L1 => LA ae eh fun tl k => ∃ (ah : Int) (cr : Value), G3 HR d tl k ah = some (r, r2) ∧ AY F4 F1 ∧ L1 = [] ∧ e1.sub [(2, .slice I9 HR.length Ja), (8, cr), (10, .int .i64 ah), (38, .slice bz ae.length ca), (39, .int .i64 (ae.length : Int)), (40, .int .i64 k)] ∧ Oj 138 (MR (iE .i64) (MR (Ol 1 (iE .i64)) (MR (iE .i64) (MR (iE .i64) bE)))) F1 cr d) _ (m0 kr ⟨_, _, rfl, BO.start _, 0, v8, ft, AY.refl _, rfl, z6, fe⟩) ?_
  rintro eh e1 ct _ ⟨tl, k, cu, aw, ah, cr, cb, ao, rfl, cv, aj⟩
  refine Az _ cv ?_
  replace ad := ad.mono (Ad _) ao
  replace bh := bh.mono (Ad _) ao
  refine AM (uv (A7 rfl rfl) ?_)
  refine Aa (Ar ?_)
  refine cQ (fun cc => ?_) fun cc => ?_
  ·obtain ⟨x2, fv, rfl, cw, ei, cx⟩ := BO.succ aw cc
   rw [G3] at cb
   refine Al ?_
   refine AQ (fun e1 F1 L1 => ∃ (aq : Int) (cd : Value), Kk k (G3 HR d fv) aq = some (r, r2) ∧ AY ct F1 ∧ L1 = [] ∧ e1.sub [(2, .slice I9 HR.length Ja), (8, cd), (10, .int .i64 aq), (38, .slice bz ae.length ca), (39, .int .i64 (ae.length : Int)), (40, .int .i64 k)] ∧ Oj 138 (MR (iE .i64) (MR (Ol 1 (iE .i64)) (MR (iE .i64) (MR (iE .i64) bE)))) F1 cd d) ?_ ?_
   ·refine Aq ?_
    refine AM (um ?_)
    obtain ⟨ik, il, im, fw, cy, cz, ej, rfl, fx, da⟩ := AL.at (Ad _) bh ([]) ei.1 cw
    refine uv (AA underlying22 sizeOf3 rfl cy rfl ei) (uv (Ao isAgg3 rfl cz (da 0 (by decide))) ?_)
    refine A6 rfl zeroValue3 ?_; intro bk fy
    refine ua (Bt (i := 0) sizeOf3 rfl rfl rfl rfl (Be rfl) (AJ rfl (BX ?_)))
    refine A6 rfl zeroValue3 ?_; intro ax ga
    refine Bt (i := 0) sizeOf3 rfl rfl rfl rfl (Be rfl) (AJ rfl (Aa ?_))
    obtain ⟨ak, gb, db⟩ := Aw cb
    refine AQ (fun e1 F1 L1 => ∃ (cf : Value), AY ct F1 ∧ L1 = [(ax, ce #[.int .i64 ak] 3)] ∧ e1.sub [(2, .slice I9 HR.length Ja), (8, cf), (10, .int .i64 ah), (13, .pointer (some ⟨ax, 0, none⟩)), (38, .slice bz ae.length ca), (39, .int .i64 (ae.length : Int)), (40, .int .i64 k)] ∧ Oj 138 (MR (iE .i64) (MR (Ol 1 (iE .i64)) (MR (iE .i64) (MR (iE .i64) bE)))) F1 cf d) ?_ ?_
    ·clear db
     refine AM (um (um (um ?_)))
     obtain ⟨x3, en, dd, gg⟩ := Bj gb
     obtain ⟨iq, ir, iu, gh, de, df, eo, rfl, gi, dg⟩ := AL.at (Ad _) ad ([(ax, ce #[.int .i64 (-1)] 3), (bk, ce #[.int .i64 x2] 3)]) en.1 dd
     refine uv (AA underlying22 sizeOf3 rfl de rfl en) (uv (Ao isAgg3 rfl df (dg 0 (by decide))) ?_)
     obtain ⟨bl, ay, down, Bb, BW, gj, gk⟩ := Rx gg
     have ep := aj; rw [gj] at ep; obtain ⟨dh, iv, gl, di, az, ⟨_, _, rfl, rfl, ⟨_, _, rfl, ⟨gm, gn, rfl, gp⟩, ⟨_, _, rfl, rfl, ⟨_, _, rfl, rfl, rfl⟩⟩⟩⟩⟩ := ep; subst di
     have az : ct dh = some (.cells #[.int .i64 bl, .slice gm ay.length gn, .int .i64 down, .int .i64 Bb, .bool BW] 138 gl) := az
     obtain ⟨y, gq, gr⟩ := Aw gk
     refine c0 call70 (HC az gp gq) ?_; rintro _ iw _ bm gu ⟨bn, rfl, rfl, ba⟩
     replace aj := aj.mono (GS (Ad _) (GS (CP (Ad _)) (GS (Ad _) (GS (Ad _) SD)))) bm
     refine AJ (ln rfl) (Aa (Aq ?_))
     refine HP (encs := (fun x : Int × Int => #[.int .i64 x.1, .int .i64 x.2])) (xs := y) rfl call101 rfl (fun _ => rfl) ba (fun pre F1 L1 => ∃ (bj : List (Int × Int)) (aa : Int), y = pre ++ bj ∧ G6 x2 bj aa = some ak ∧ L1 = [(ax, ce #[.int .i64 aa] 3), (bk, ce #[.int .i64 x2] 3)]) (fun _ _ _ => False) ?_ ?_ ?_ ?_ ?_ ?_
     ·rintro pre F1 F2 L1 ⟨bj, aa, af, dk, rfl⟩ hx; exact ⟨bj, aa, af, dk, rfl⟩
     ·intro c F1 F2 L1 h hx; exact h
     ·exact ⟨_, -1, rfl, gr, rfl⟩
     ·rintro gv er et eu ew ey dm ez pre x4 iy ai gw _ fa ⟨bj, aa, af, bb, rfl⟩
      obtain rfl := KB af ai
      rw [G6] at bb
      refine Az [(2, .slice I9 HR.length Ja), (8, .pointer (some ⟨dh, 0, none⟩)), (10, .int .i64 ah), (12, .pointer (some ⟨bk, 0, none⟩)), (13, .pointer (some ⟨ax, 0, none⟩)), (38, .slice bz ae.length ca), (39, .int .i64 (ae.length : Int)), (40, .int .i64 k), (50, .func (.func 101) #[] bn), (51, .int .i64 x4.1), (52, .int .i64 x4.2)] (by exact (sc rfl (sc rfl (sc rfl z8)))) ?_
      refine AM (ua (Aa (Ak (ua (Aa ?_)))))
      refine ⟨rfl, ?_⟩
      refine Aq ?_
      refine AM (um ?_)
      refine uv (Ao isAgg3 rfl (Has.own 1 rfl) rfl) (uv (Bv rfl rfl) (Aa ?_))
      refine cQ (fun bc => ?_) fun bc => ?_
      ·have dn := AO bb bc
       refine Ak (um ?_)
       refine Bt (i := 0) sizeOf3 rfl rfl rfl rfl (Be rfl) (AJ rfl ?_)
       refine Aa (Av (id := 4) ?_)
       refine ⟨[(ax, ce #[.int .i64 x4.2] 3), (bk, ce #[.int .i64 x2] 3)], ⟨_, .refl _, sr⟩, ?_⟩; exact ⟨_, x4.2, (by rw [ai]; simp), dn, rfl⟩
      have dp := AP bb bc
      refine Al (Av (id := 4) ?_)
      refine ⟨[(ax, ce #[.int .i64 aa] 3), (bk, ce #[.int .i64 x2] 3)], ⟨_, .refl _, sr⟩, ?_⟩; exact ⟨_, aa, (by rw [ai]; simp), dp, rfl⟩
     ·rintro gy _ au ⟨bj, aa, af, bo, rfl⟩
      obtain rfl := LJ af; rw [G6] at bo
      replace aj := aj.mono (GS (Ad _) (GS (CP (Ad _)) (GS (Ad _) (GS (Ad _) SD)))) au
      refine Av (id := 3) ?_
      obtain rfl := AH bo
      exact mi (kc kn) ⟨.pointer (some ⟨dh, 0, none⟩), (bm.trans au), rfl, z7, aj⟩
     intro c F1 L1 hx h; exact h.elim
    rintro e1 gz _ ⟨cf, bp, rfl, bq, dq⟩
    refine Az _ bq ?_
    refine Ar (AM ?_)
    refine uv (Ao isAgg3 rfl (Has.own 0 rfl) rfl) (uv (Bv rfl rfl) (Aa ?_))
    refine cQ (fun bg => ?_) fun bg => ?_
    ·have dr := AO db bg
     refine AM (ua (ua (Aa ?_)))
     refine kW kn ?_
     refine Ap (Ah (AB (Ah (Ah (AB (Ah ?_))))))
     refine Ba results31 (AG rfl) (AG rfl) (sr) ?_
     obtain ⟨rfl, rfl⟩ := BK dr
     exact rfl
    have dt := AP db bg
    refine Al (Ak (um ?_))
    refine uv (Ao isAgg3 rfl (Has.own 0 rfl) rfl) ?_
    obtain ⟨du, dv⟩ := AW dt
    refine uv (A1 rfl rfl du) ?_
    refine ua (Aa (Av (id := 2) ?_))
    exact mi kn ⟨ah + ak, cf, dv, bp, rfl, z6, dq⟩
   rintro e1 ia _ ⟨aq, cd, br, av, rfl, bu, dw⟩
   refine Az _ bu ?_
   replace bh := bh.mono (Ad _) av
   rw [Kk] at br
   refine Ak (uv (A1 rfl rfl (BO.DZ aw cc (AL.lt bh))) ?_)
   refine um (Aa ?_)
   subst cu; exact le kr ⟨_, _, rfl, cx, aq, cd, br, (ao.trans av), rfl, z6, dw⟩
  obtain rfl := BO.zero aw cc
  rw [G3] at cb
  refine AR (Aj (Aj ?_))
  refine Ay ?_
  exact mi kr ⟨ah, cb, ao, rfl, z1⟩
 rintro e1 ib _ ⟨sum, bw, fb, rfl, bx⟩
 refine Az _ bx ?_
 rw [Kt] at bw
 refine AM (um (ua (ua (Aa (Ap ?_)))))
 refine Ba results31 (AG rfl) (AG rfl) (sr) ?_
 obtain ⟨rfl, rfl⟩ := BK bw
 exact rfl
set_option maxHeartbeats 1000000 in
theorem J6 (aa : AL 1 (iE .i64) F Af Ae Ac) (ab : AL 1 (iE .i64) F I9 Ja HR) {r r2 : Int} (hr : HY wide Ac AK HR = some (r, r2)) :
    Bz Tryz.prog 32 #[.agg #[.int .i64 wide, .slice Af Ac.length Ae], .int .i64 AK, .slice I9 HR.length Ja] F (.tuple #[.int .i64 r, .int .i64 r2]) := by
 refine sp func32 ntmps32 fun K _ _ => ?_
 rw [HY] at hr
 refine AM ?_
 refine Bu rfl rfl ?_; intro b1 de
 refine ua (ua (Aa (Ar (AM ?_))))
 refine uv (As isAgg45 sizeOf45 rfl (Has.own 0 rfl) (Be rfl) rfl) ?_
 obtain ⟨n, h2, r3⟩ := Aw hr
 refine cV call17 (D4 aa h2) ?_
 refine ua (BX (um ?_))
 refine uv (Bo rfl rfl) (Aa ?_)
 refine cQ (fun c4 => ?_) fun c4 => ?_
 ·have r5 := AO r3 c4
  refine AM (um (ua (ua (Aa ?_))))
  refine kW kn ?_
  refine Ap (Ah ?_)
  refine Ba results32 (AG rfl) (AG rfl) (sr) ?_
  obtain ⟨rfl, rfl⟩ := BK r5
  exact rfl
 have r6 := AP r3 c4
 refine Al (Ar (AM (um ?_)))
 obtain ⟨ok, h7, r8⟩ := Aw r6
 refine cV call60 (CQ h7) (Aa ?_)
 refine AU rfl (fun c9 => ?_) (fun c9 => ?_)
 ·have bw := bt r8 c9
  refine AM (ua (ua (Aa ?_)))
  refine kW kn ?_
  refine Ap (Ah ?_)
  refine Ba results32 (AG rfl) (AG rfl) (sr) ?_
  obtain ⟨rfl, rfl⟩ := BK bw
  exact rfl
 have bj := bf r8 c9
 refine Al (Ar (AM (um ?_)))
 refine uv (AX underlying22 rfl) (uv (Bv rfl rfl) (Aa ?_))
 refine cQ (fun Lv => ?_) fun Lv => ?_
 ·have bx := AO bj Lv
  refine AM (ua (ua (Aa ?_)))
  refine kW kn ?_
  refine Ap (Ah ?_)
  refine Ba results32 (AG rfl) (AG rfl) (sr) ?_
  obtain ⟨rfl, rfl⟩ := BK bx
  exact rfl
 have bz := AP bj Lv
 refine Al (Ar ?_)
 refine dW (wv (As isAgg45 sizeOf45 rfl (Has.own 0 rfl) (Be rfl) rfl) (wm ?_))
 obtain ⟨x, bk, aj, ca⟩ := Bj bz
 obtain ⟨W2, df, QY, cb, ak, ao, bl, rfl, cc, aq⟩ := AL.at (Ad _) ab ([(b1, ce #[.int .i64 wide, .slice Af Ac.length Ae] 45)]) bk.1 aj
 refine wv (AA underlying22 sizeOf3 rfl ak rfl bk) (wv (Ao isAgg3 rfl ao (aq 0 (by decide))) ?_)
 obtain ⟨n2, cd, bm⟩ := Aw ca
 refine Dx rfl call34 rfl rfl rfl (Ey aa cd) (wv (Bo rfl rfl) (BD ?_))
 refine cQ (fun Jl => ?_) fun Jl => ?_
 ·have cf := AO bm Jl
  refine AM (ua (ua (Aa ?_)))
  refine kW kn ?_
  refine Ap (Ah ?_)
  refine Ba results32 (AG rfl) (AG rfl) (sr) ?_
  obtain ⟨rfl, rfl⟩ := BK cf
  exact rfl
 have cg := AP bm Jl
 refine Al (AM (ua (Aa ?_)))
 refine AQ (fun e1 F1 L1 => ∃ (sum : Int), Ig sum = some (r, r2) ∧ F = F1 ∧ L1 = [] ∧ e1.sub [(9, .int .i64 sum)]) ?_ ?_
 ·refine AM (ua (Aa ?_))
  refine Aq ?_
  obtain ⟨cj, cn⟩ := AW cg
  refine A9 (fun af e1 F1 L1 => ∃ (i : Int), DD 1 (HR.length : Int) i af ∧ ∃ (ad : Int), Fv wide Ac AK HR af i ad = some (r, r2) ∧ F = F1 ∧ L1 = [(b1, ce #[.int .i64 wide, .slice Af Ac.length Ae] 45)] ∧ e1.sub [(1, .int .i64 AK), (2, .slice I9 HR.length Ja), (3, .pointer (some ⟨b1, 0, none⟩)), (9, .int .i64 ad), (10, .int .i64 i)]) _ (m0 kr ⟨_, DD.start _ _, 0, cn, rfl, rfl, z5⟩) ?_
  rintro af e1 _ _ ⟨i, ae, ad, ah, rfl, rfl, ar⟩
  refine Az _ ar ?_
  refine Ar (AM (um (um ?_)))
  refine uv (AX underlying22 rfl) (uv (A7 rfl rfl) (Aa ?_))
  refine cQ (fun ai => ?_) fun ai => ?_
  ·obtain ⟨af, rfl, au⟩ := DD.succ ae ai
   rw [Fv] at ah
   refine Al (Ar ?_)
   refine Aq (dW (wv (As isAgg45 sizeOf45 rfl (Has.own 0 rfl) (Be rfl) rfl) ?_))
   refine wm (wm (wm ?_))
   obtain ⟨cp, cq⟩ := AW ah
   refine wv (FD rfl rfl cp) ?_
   obtain ⟨x2, bn, av, cr⟩ := Bj cq
   obtain ⟨dg, dh, di, ct, aw, ax, bo, rfl, cu, ay⟩ := AL.at (Ad _) ab ([(b1, ce #[.int .i64 wide, .slice Af Ac.length Ae] 45)]) bn.1 av
   refine wv (AA underlying22 sizeOf3 rfl aw rfl bn) (wv (Ao isAgg3 rfl ax (ay 0 (by decide))) ?_)
   refine wm (wm ?_)
   obtain ⟨x3, bp, az, cv⟩ := Bj cr
   obtain ⟨dk, dm, dn, cw, ba, bb, bq, rfl, cx, bc⟩ := AL.at (Ad _) ab ([(b1, ce #[.int .i64 wide, .slice Af Ac.length Ae] 45)]) bp.1 az
   refine wv (AA underlying22 sizeOf3 rfl ba rfl bp) (wv (Ao isAgg3 rfl bb (bc 0 (by decide))) ?_)
   obtain ⟨n3, cy, br⟩ := Aw cv
   refine Dx rfl call69 rfl rfl rfl (I3 aa cy) ?_
   refine wa (BD (Ar (AM (um ?_))))
   refine uv (Bv rfl rfl) (Aa ?_)
   refine cQ (fun bg => ?_) fun bg => ?_
   ·have cz := AO br bg
    refine AM (ua (ua (Aa ?_)))
    refine kW kn ?_
    refine Ap (Ah (AB (Ah (Ah (AB (Ah ?_))))))
    refine Ba results32 (AG rfl) (AG rfl) (sr) ?_
    obtain ⟨rfl, rfl⟩ := BK cz
    exact rfl
   have da := AP br bg
   refine Al (Ak (um (um ?_)))
   obtain ⟨db, dd⟩ := AW da
   refine uv (A1 rfl rfl db) ?_
   refine ua (Aa (Av (id := 1) (Ak (um ?_))))
   refine uv (A1 rfl rfl (DD.DZ ae ai cj)) ?_
   refine ua (Aa ?_)
   exact le kr ⟨_, au, ad + n3, dd, rfl, rfl, z5⟩
  obtain rfl := DD.zero ae ai
  rw [Fv] at ah
  refine AR (Aj (Aj ?_))
  refine Ay ?_
  exact mi kn ⟨ad, ah, rfl, rfl, z1⟩
 rintro e1 _ _ ⟨sum, bu, rfl, rfl, bh⟩
 refine Az _ bh ?_
 rw [Ig] at bu
 refine AM (um (ua (ua (Aa (Ap ?_)))))
 refine Ba results32 (AG rfl) (AG rfl) (sr) ?_
 obtain ⟨rfl, rfl⟩ := BK bu
 exact rfl
set_option maxHeartbeats 1000000 in
theorem Ji (aa : AL 1 (iE .i64) F Af Ae Ac) (ad : AL 1 (iE .i64) F I9 Ja HR) {r : Bool} (hr : Fy wide Ac AK stand Cw HR = some r) :
    Bz Tryz.prog 7 #[.agg #[.int .i64 wide, .slice Af Ac.length Ae], .int .i64 AK, .int .i64 stand, .int .i64 Cw, .slice I9 HR.length Ja] F (.bool r) := by
 refine sp func7 ntmps7 fun K _ _ => ?_
 rw [Fy] at hr
 refine AM ?_
 refine Bu rfl rfl ?_; intro b1 ir
 refine ua (Aa (Ar ?_))
 obtain ⟨k, h2, r3⟩ := Aw hr
 refine jE ([(b1, ce #[.int .i64 wide, .slice Af Ac.length Ae] 25)]) [(1, .int .i64 AK), (2, .int .i64 stand), (3, .int .i64 Cw), (4, .slice I9 HR.length Ja), (5, .pointer (some ⟨b1, 0, none⟩)), (25, .bool k)] ?_ ?_
 ·clear r3
  refine Ak (uv (As isAgg25 sizeOf25 rfl (Has.own 0 rfl) (Be rfl) rfl) ?_)
  obtain ⟨ok, h4, r5⟩ := Aw h2
  refine cV call14 (FO aa h4) (um ?_)
  rcases Bf ok with c6 | c6
  ·have r7 := bt r5 c6
   refine fB c6 (fB c6 (fB c6 ?_))
   refine uv (Au (Es rfl c6) rfl) (Aa ?_)
   obtain rfl := AH r7
   exact mi kr ⟨rfl, rfl, z6⟩
  have r8 := bf r5 c6
  refine nB c6 (um (nB c6 ?_))
  refine uv (AX underlying22 rfl) (nB c6 (uv (Ex rfl rfl) (uv (At (Es rfl c6) rfl) (Aa ?_))))
  obtain rfl := AH r8
  exact mi kr ⟨rfl, rfl, z6⟩
 refine AU rfl (fun H4 => ?_) (fun H4 => ?_)
 ·have fj := bt r3 H4
  refine AM ?_
  obtain ⟨iu, fk, fl⟩ := Aw fj
  refine cV call13 (BR fk) ?_
  refine ua (Aa ?_)
  refine kW kn ?_
  refine Ap (Ah ?_)
  refine B2 results7 ?_
  obtain rfl := AH fl
  exact rfl
 have fm := bf r3 H4
 refine Al (Ar ?_)
 refine CF [(.pre, 6), (.pre, 7), (.still, 0), (.still, 2), (.still, 4), (.seq, 1), (.seq, 3), (.seq, 5), (.alloc (.cells (.agg #[.int .i64 0, .slice none 0 0] : Value).cells 25 (0, 0)) (fun b => .pointer (some ⟨b, 0, none⟩)) [], 6), (.alloc (.cells (.agg #[.int .i64 0, .slice none 0 0] : Value).cells 45 (0, 0)) (fun b => .pointer (some ⟨b, 0, none⟩)) [], 7), (.seq, 8), (.still, 9), (.seq, 10)] (by kernel_rfl) (by kernel_rfl) (⟨⟨_, _, rfl, rfl, rfl, rfl, rfl, Gb zeroValue25⟩, ⟨⟨_, _, rfl, rfl, rfl, rfl, rfl, Gb zeroValue45⟩, trivial⟩⟩) (by rfl) (by kernel_rfl) ?_
 refine ⟨⟨[], rfl, sn _, by kernel_rfl⟩, ?_⟩
 refine ⟨⟨[], rfl, sn _, by kernel_rfl⟩, ?_⟩
 refine mL [5] ([(b1, ce #[.int .i64 wide, .slice Af Ac.length Ae] 25)]) rfl (s0 sr) (fun H F' L' cv cw => As isAgg25 sizeOf25 rfl ((Has.own 0 rfl).ext cv cw) (Be rfl) rfl) (mS [4] rfl (Bh rfl) (mL [5] ([(b1, ce #[.int .i64 wide, .slice Af Ac.length Ae] 25)]) rfl (s0 sr) (fun H F' L' cv cw => As isAgg25 sizeOf25 rfl ((Has.own 0 rfl).ext cv cw) (Be rfl) rfl) ?_))
 refine ⟨_, [(27, .agg #[.int .i64 wide, .slice Af Ac.length Ae])], rfl, rfl, z1, by kernel_rfl, ?_⟩; intro H
 obtain ⟨n, l, fo, fp⟩ := Bs fm
 refine c0 call15 (FJ aa fo) ?_; rintro _ iv _ bo cx ⟨aw, ax, I1, ae, rfl, rfl, ah⟩
 replace aa := aa.mono (Ad _) bo
 replace ad := ad.mono (Ad _) bo
 replace ah := ah.new fun p hp => cx p (by simp [hp])
 refine AJ (lp (ln rfl)) (kO (kf (fS fO) kr) ?_)
 refine Aa ⟨_, rfl, bo, [4, 2], by kernel_rfl, .inl (.inr (fun d h => by cases h; rfl)), (fc (s0 (s2 (s3 sr))) (fc sm nm)), ?_⟩
 refine ⟨_, [(29, .slice I9 HR.length Ja)], rfl, rfl, z1, by kernel_rfl, ?_⟩; intro H
 obtain ⟨l2, fq, fs⟩ := Aw fp
 refine c0 call24 (GQ ad fq) ?_; rintro _ iw _ bn cy ⟨cr, ct, cu, af, rfl, rfl, aq⟩
 replace aa := aa.mono (Ad _) bn
 replace ad := ad.mono (Ad _) bn
 replace ah := ah.mono (Ad _) bn
 replace aq := aq.new fun p hp => cy p (by simp [hp])
 refine AJ (lp (ln rfl)) (kO (kf (fS fO) kr) ?_)
 refine Aa ⟨_, rfl, bn, [4], by kernel_rfl, .inl (.inr (fun d h => by cases h; rfl)), (fc (s0 (s2 (s3 (s3 sr)))) nm), ?_⟩
 refine ⟨_, [(31, .agg #[.int .i64 wide, .slice Af Ac.length Ae])], rfl, rfl, z1, by kernel_rfl, ?_⟩; intro H
 obtain ⟨n2, l3, ft, fv⟩ := Bs fs
 refine c0 call16 (DK aa ft) ?_; rintro _ iy _ bb cz ⟨bg, bh, bj, ak, rfl, rfl, ar⟩
 replace aa := aa.mono (Ad _) bb
 replace ad := ad.mono (Ad _) bb
 replace ah := ah.mono (Ad _) bb
 replace aq := aq.mono (Ad _) bb
 replace ar := ar.new fun p hp => cz p (by simp [hp])
 refine AJ (lp (ln rfl)) (kO (kf (fS fO) kr) ?_)
 refine Aa ⟨_, rfl, bb, [], by kernel_rfl, .inl (.inl rfl), nm, ?_⟩
 refine G9 rfl ?_; intro au fw
 refine JK (L' := (au, ce #[.int .i64 0, .slice none 0 0] 25) :: ((b1, ce #[.int .i64 wide, .slice Af Ac.length Ae] 25) :: (ak ++ (af ++ (ae ++ []))))) rfl ?_
 refine G9 rfl ?_; intro az fx
 refine JK (L' := (az, ce #[.int .i64 0, .slice none 0 0] 45) :: ((au, ce #[.int .i64 0, .slice none 0 0] 25) :: ((b1, ce #[.int .i64 wide, .slice Af Ac.length Ae] 25) :: (ak ++ (af ++ (ae ++ [])))))) rfl ?_
 refine ⟨_, [(11, .pointer (some ⟨au, 0, none⟩)), (28, .agg #[.int .i64 n, .slice aw ax I1])], rfl, rfl, z2, by kernel_rfl, ?_⟩; intro H
 refine Bg (i := 1) sizeOf25 rfl rfl rfl (by simp [Value.oneCell']) rfl (Be rfl) (AJ rfl ?_)
 refine Aa ⟨undef, rfl, AY.refl _, [], by kernel_rfl, .inl (.inl rfl), nm, ?_⟩
 refine mS [30] rfl (Ej rfl) ?_
 refine ⟨_, [(13, .pointer (some ⟨az, 0, none⟩)), (32, .agg #[.int .i64 n2, .slice bg bh bj])], rfl, rfl, z2, by kernel_rfl, ?_⟩; intro H
 refine Bg (i := 0) sizeOf45 rfl rfl rfl (by simp [Value.oneCell']) rfl (Be rfl) (AJ rfl ?_)
 refine Aa ⟨undef, rfl, AY.refl _, [], by kernel_rfl, .inl (.inl rfl), nm, ?_⟩
 refine DI (AM (uv (As isAgg25 sizeOf25 rfl (Has.own 1 rfl) (Be rfl) rfl) ?_))
 refine um (um ?_)
 obtain ⟨n3, n4, fy, ga⟩ := Bs fv
 refine Bi (Lt := ae ++ (af ++ [])) (Lr := (az, ce #[.int .i64 n2, .slice bg bh bj] 45) :: ((au, ce #[.int .i64 n, .slice aw ax I1] 25) :: ((b1, ce #[.int .i64 wide, .slice Af Ac.length Ae] 25) :: (ak ++ [])))) rfl call31 rfl rfl rfl (pT ((fC (fC (fC (fS (fS fP))))).trans (pA ((fC (fC (fC (fS fP)))).trans (pA pR)))) (lp (lp (ln rfl)))) (fun F2 h2 h3 => by rw [(AN.Bm ah).1]; rw [(AN.Bm aq).1]; exact QW (ah.row (Ad _) h2 (fun p hp => h3 p (List.mem_append_left _ hp))) (aq.row (Ad _) h2 (fun p hp => h3 p (List.mem_append_right _ (List.mem_append_left _ hp)))) fy) ?_
 refine um (ox rfl rfl rfl (ox rfl rfl rfl (ua (ua (BX ?_)))))
 refine uv (As isAgg45 sizeOf45 rfl (Has.own 0 rfl) (Be rfl) rfl) ?_
 refine um (um ?_)
 obtain ⟨n5, n6, gb, gg⟩ := Bs ga
 refine Bi (Lt := ak ++ []) (Lr := (az, ce #[.int .i64 n2, .slice bg bh bj] 45) :: ((au, ce #[.int .i64 n, .slice aw ax I1] 25) :: ((b1, ce #[.int .i64 wide, .slice Af Ac.length Ae] 25) :: (af ++ (ae ++ []))))) rfl call32 rfl rfl rfl (pT ((fC (fC (fC fP))).trans (pA pR)) (lp (ln rfl))) (fun F2 h2 h3 => by rw [(AN.Bm ar).1]; exact J6 (ar.row (Ad _) h2 (fun p hp => h3 p (List.mem_append_left _ hp))) (ad.mono (Ad _) h2) gb) ?_
 refine um (ox rfl rfl rfl (ox rfl rfl rfl (ua (ua (Aa (Ar ?_))))))
 obtain ⟨k2, et, da⟩ := Aw gg
 refine jE (((az, ce #[.int .i64 n2, .slice bg bh bj] 45) :: ((au, ce #[.int .i64 n, .slice aw ax I1] 25) :: ((b1, ce #[.int .i64 wide, .slice Af Ac.length Ae] 25) :: (ae ++ (af ++ (ak ++ []))))))) [(1, .int .i64 AK), (2, .int .i64 stand), (3, .int .i64 Cw), (4, .slice I9 HR.length Ja), (5, .pointer (some ⟨b1, 0, none⟩)), (11, .pointer (some ⟨au, 0, none⟩)), (12, .slice cr ct cu), (13, .pointer (some ⟨az, 0, none⟩)), (54, .bool k2)] ?_ ?_
 ·clear da
  refine Ak (um (um ?_))
  refine uv (Bo rfl rfl) (um ?_)
  by_cases bk : n3 ≠ n5
  ·have gh := AO et bk
   refine fT bk (fT bk (fT bk ?_))
   refine uv (Au (A5 rfl bk) rfl) (Aa ?_)
   obtain rfl := AH gh
   exact mi (kc (kc (kc (kg (fS (fS fP)) (kg (fS fP) kr))))) ⟨rfl, rfl, (sc rfl z8)⟩
  have gi := AP et bk
  refine nF bk (um (nF bk (um (nF bk ?_))))
  refine uv (Bo rfl rfl) (uv (At (AZ rfl bk) rfl) (Aa ?_))
  obtain rfl := AH gi
  exact mi (kc (kc (kc (kg (fS (fS fP)) (kg (fS fP) kr))))) ⟨rfl, rfl, (sc rfl z8)⟩
 refine AU rfl (fun db => ?_) (fun db => ?_)
 ·have DZ := bt da db
  refine AM (ua (Aa ?_))
  refine kW kn ?_
  refine Ap (Ah ?_)
  refine B2 results7 ?_
  obtain rfl := AH DZ
  exact rfl
 have gj := bf da db
 refine Al (AM ?_)
 refine uv (As isAgg25 sizeOf25 rfl (Has.own 1 rfl) (Be rfl) rfl) ?_
 refine um (um (um ?_))
 obtain ⟨l4, n7, gk, gl⟩ := Bs gj
 refine Dh (Lb := []) (Lt := ae ++ []) (Lr := (az, ce #[.int .i64 n2, .slice bg bh bj] 45) :: ((au, ce #[.int .i64 n, .slice aw ax I1] 25) :: ((b1, ce #[.int .i64 wide, .slice Af Ac.length Ae] 25) :: (af ++ (ak ++ []))))) rfl call33 rfl rfl rfl (pT ((fC (fC (fC fP))).trans (pA pR)) (ln (lp (ln rfl)))) (fun F2 h2 h3 => by rw [(AN.Bm ah).1]; exact MO (ah.row (Ad _) h2 (fun p hp => h3 p (List.mem_append_left _ hp))) gk) (fun _ _ _ _ hq => by obtain ⟨eu, ew, ey, ba, rfl, rfl, aj⟩ := hq; exact ⟨_, _, _, _, rfl, rfl, aj.flat (fun _ _ h => h)⟩) ?_; rintro _ gm _ bc dd de ⟨eu, ew, ey, ba, rfl, rfl, aj⟩
 replace aa := aa.mono (Ad _) bc
 replace ad := ad.mono (Ad _) bc
 replace ah := ah.mono (Ad _) bc
 replace aq := aq.mono (Ad _) bc
 replace ar := ar.mono (Ad _) bc
 have df := J1 (Lb' := []) (by rfl) dd de
 replace aj := aj.new fun p hp => df p (by simp [hp])
 refine AJ (lp (ln (lp (ln rfl)))) (kO (kf (fS (fS fO)) (kf (fS (fS fO)) (kf (fS (fS fO)) kr))) ?_)
 refine um (ox rfl rfl rfl (ox rfl rfl rfl (ua (ua (BX ?_)))))
 refine uv (As isAgg45 sizeOf45 rfl (Has.own 0 rfl) (Be rfl) rfl) ?_
 refine um (um (um ?_))
 obtain ⟨n8, n9, gn, gp⟩ := Bs gl
 refine Bi (Lt := ak ++ []) (Lr := (az, ce #[.int .i64 n2, .slice bg bh bj] 45) :: ((au, ce #[.int .i64 n, .slice aw ax I1] 25) :: ((b1, ce #[.int .i64 wide, .slice Af Ac.length Ae] 25) :: (ba ++ (ae ++ (af ++ [])))))) rfl call26 rfl rfl rfl (pT ((fC (fC (fC (fS (fS (fS fP)))))).trans (pA pR)) (lp (ln rfl))) (fun F2 h2 h3 => by rw [(AN.Bm ar).1]; exact I2 (ar.row (Ad _) h2 (fun p hp => h3 p (List.mem_append_left _ hp))) gn) ?_
 refine um (ox rfl rfl rfl (ox rfl rfl rfl (ua (ua (Aa (Ar ?_))))))
 obtain ⟨k3, ez, dg⟩ := Aw gp
 refine jE (((az, ce #[.int .i64 n2, .slice bg bh bj] 45) :: ((au, ce #[.int .i64 n, .slice aw ax I1] 25) :: ((b1, ce #[.int .i64 wide, .slice Af Ac.length Ae] 25) :: (ae ++ (af ++ (ak ++ (ba ++ [])))))))) [(1, .int .i64 AK), (2, .int .i64 stand), (3, .int .i64 Cw), (4, .slice I9 HR.length Ja), (5, .pointer (some ⟨b1, 0, none⟩)), (11, .pointer (some ⟨au, 0, none⟩)), (12, .slice cr ct cu), (13, .pointer (some ⟨az, 0, none⟩)), (15, .int .i64 n7), (16, .int .i64 n8), (18, .slice eu ew ey), (82, .bool k3)] ?_ ?_
 ·clear dg
  refine Ak (um (um ?_))
  refine uv (Bo rfl rfl) (um ?_)
  by_cases ay : n7 ≠ n9
  ·have gq := AO ez ay
   refine fT ay (fT ay (fT ay (fU (fU (fU (fT ay ?_))))))
   refine uv (Au (A5 rfl ay) rfl) (Aa ?_)
   obtain rfl := AH gq
   exact mi (kc (kc (kc (kg (fS fP) (kg (fS fP) (kg (fS fP) kr)))))) ⟨rfl, rfl, (sc rfl (sc rfl (sc rfl (sc rfl z8))))⟩
  have fa := AP ez ay
  refine nF ay (um (nF ay ?_))
  refine uv (Bo rfl rfl) ?_
  refine nF ay (um ?_)
  by_cases bl : n7 ≠ 0
  ·have gr := AO fa bl
   refine nT bl (um (nT bl ?_))
   refine uv ((AX underlying22 rfl).i (AN.HH aj)) (nT bl (uv (Ex rfl rfl) (nF ay (uv (Au (A5 rfl bl) rfl) (uv (At (AZ rfl ay) rfl) (Aa ?_))))))
   obtain rfl := AH gr
   exact mi (kc (kc (kc (kg (fS fP) (kg (fS fP) (kg (fS fP) kr)))))) ⟨rfl, rfl, (sc rfl (sc rfl (sc rfl (sc rfl z8))))⟩
  have gu := AP fa bl
  refine fF bl (fF bl (fF bl (nF ay ?_)))
  refine uv (At (AZ rfl bl) rfl) (uv (At (AZ rfl ay) rfl) (Aa ?_))
  obtain rfl := AH gu
  exact mi (kc (kc (kc (kg (fS fP) (kg (fS fP) (kg (fS fP) kr)))))) ⟨rfl, rfl, (sc rfl (sc rfl (sc rfl (sc rfl z8))))⟩
 refine AU rfl (fun dh => ?_) (fun dh => ?_)
 ·have gv := bt dg dh
  refine AM (ua (Aa ?_))
  refine kW kn ?_
  refine Ap (Ah ?_)
  refine B2 results7 ?_
  obtain rfl := AH gv
  exact rfl
 have fb := bf dg dh
 refine Al ?_
 refine AQ (fun e1 F1 L1 => FA wide Ac HR n l l2 = some r ∧ gm = F1 ∧ L1 = ((au, ce #[.int .i64 n, .slice aw ax I1] 25) :: ((b1, ce #[.int .i64 wide, .slice Af Ac.length Ae] 25) :: (ae ++ (af ++ [])))) ∧ e1.sub [(4, .slice I9 HR.length Ja), (5, .pointer (some ⟨b1, 0, none⟩)), (11, .pointer (some ⟨au, 0, none⟩)), (12, .slice cr ct cu)]) ?_ ?_
 ·refine AM (um ?_)
  refine uv (Bv rfl rfl) (Aa ?_)
  refine cQ (fun di => ?_) fun di => ?_
  ·have gw := AO fb di
   refine AM (uv (As isAgg45 sizeOf45 rfl (Has.own 0 rfl) (Be rfl) rfl) ?_)
   refine um (um ?_)
   obtain ⟨gy, gz, ia, ib⟩ := Bs gw
   refine Bi (Lt := ak ++ (ba ++ [])) (Lr := (az, ce #[.int .i64 n2, .slice bg bh bj] 45) :: ((au, ce #[.int .i64 n, .slice aw ax I1] 25) :: ((b1, ce #[.int .i64 wide, .slice Af Ac.length Ae] 25) :: (ae ++ (af ++ []))))) rfl call32 rfl rfl rfl (pT ((fC (fC (fC (fS (fS fP))))).trans (pA ((fC (fC (fC (fS (fS fP))))).trans (pA pR)))) (lp (lp (ln rfl)))) (fun F2 h2 h3 => by rw [(AN.Bm ar).1]; rw [(AN.Bm aj).1]; exact J6 (ar.row (Ad _) h2 (fun p hp => h3 p (List.mem_append_left _ hp))) (aj.row (Ad _) h2 (fun p hp => h3 p (List.mem_append_right _ (List.mem_append_left _ hp)))) ia) ?_
   refine um (ox rfl rfl rfl (ox rfl rfl rfl (ua (ua (Aa ?_)))))
   obtain ⟨k4, fe, dk⟩ := Aw ib
   refine jE (((au, ce #[.int .i64 n, .slice aw ax I1] 25) :: ((b1, ce #[.int .i64 wide, .slice Af Ac.length Ae] 25) :: (ae ++ (af ++ []))))) [(4, .slice I9 HR.length Ja), (5, .pointer (some ⟨b1, 0, none⟩)), (11, .pointer (some ⟨au, 0, none⟩)), (12, .slice cr ct cu), (115, .bool k4)] ?_ ?_
   ·clear dk
    refine Ak (um ?_)
    refine uv (Bo rfl rfl) (um ?_)
    by_cases bm : gz ≠ 0
    ·have dm := AO fe bm
     refine fT bm (fT bm (fT bm ?_))
     refine uv (Au (A5 rfl bm) rfl) ?_
     refine um (Ai (b' := true) 99 rfl rfl rfl rfl (Ai (b' := true) 99 rfl rfl rfl rfl (Ai (b' := true) 99 rfl rfl rfl rfl (Ai (b' := true) 99 rfl rfl rfl rfl (Ai (b' := true) 99 rfl rfl rfl rfl ?_)))))
     refine uv (Au rfl rfl) ?_
     refine um (Ai (b' := true) 106 rfl rfl rfl rfl (Ai (b' := true) 106 rfl rfl rfl rfl (Ai (b' := true) 106 rfl rfl rfl rfl (Ai (b' := true) 106 rfl rfl rfl rfl (Ai (b' := true) 106 rfl rfl rfl rfl (Ai (b' := true) 106 rfl rfl rfl rfl (Ai (b' := true) 106 rfl rfl rfl rfl (Ai (b' := true) 106 rfl rfl rfl rfl ?_))))))))
     refine uv (Au rfl rfl) (Aa ?_)
     obtain rfl := AH dm
     exact mi (kd (kc (kc (ka (ka kn))))) ⟨rfl, rfl, z5⟩
    have bq := AP fe bm
    refine nF bm (um (nF bm (um (nF bm ?_))))
    refine uv (Bo rfl rfl) (uv (At (AZ rfl bm) rfl) (um ?_))
    by_cases ai : gy ≠ n8
    ·have dn := AO bq ai
     refine fT ai (fT ai (fT ai (fT ai (fT ai ?_))))
     refine uv (Au (A5 rfl ai) rfl) ?_
     refine um (Ai (b' := true) 106 rfl rfl rfl rfl (Ai (b' := true) 106 rfl rfl rfl rfl (Ai (b' := true) 106 rfl rfl rfl rfl (Ai (b' := true) 106 rfl rfl rfl rfl (Ai (b' := true) 106 rfl rfl rfl rfl (Ai (b' := true) 106 rfl rfl rfl rfl (Ai (b' := true) 106 rfl rfl rfl rfl (Ai (b' := true) 106 rfl rfl rfl rfl ?_))))))))
     refine uv (Au rfl rfl) (Aa ?_)
     obtain rfl := AH dn
     exact mi (kd (kc (kc (ka (ka kn))))) ⟨rfl, rfl, z5⟩
    have dp := AP bq ai
    refine nF ai (um (nF ai ?_))
    obtain ⟨x, br, bu, bw⟩ := Bj dp
    obtain ⟨ic, ie, ig, ff, bx, bz, dq, rfl, fg, ca⟩ := AN.at (Ad _) aj (L := (az, ce #[.int .i64 n2, .slice bg bh bj] 45) :: ((au, ce #[.int .i64 n, .slice aw ax I1] 25) :: ((b1, ce #[.int .i64 wide, .slice Af Ac.length Ae] 25) :: (ae ++ (af ++ (ak ++ (ba ++ []))))))) (fC (fC (fC (fS (fS (fS fP)))))) br.1 bu
    refine uv (AA underlying22 sizeOf3 rfl bx rfl (AN.idx aj br)) (nF ai (uv (Ao isAgg3 rfl bz (ca 0 (by decide))) ?_))
    refine nF ai (um (nF ai ?_))
    refine uv (Bo rfl rfl) (uv (At (AZ rfl ai) rfl) (um ?_))
    by_cases ab : x ≠ stand
    ·have dr := AO bw ab
     refine fT ab (fT ab (fT ab (fT ab (fT ab (fT ab (fT ab (fT ab ?_)))))))
     refine uv (Au (A5 rfl ab) rfl) (Aa ?_)
     obtain rfl := AH dr
     exact mi (kd (kc (kc (ka (ka kn))))) ⟨rfl, rfl, z5⟩
    have dt := AP bw ab
    refine nF ab (um (nF ab (um (nF ab ?_))))
    refine uv ((AX underlying22 rfl).i (AN.HH aj)) (nF ab ?_)
    obtain ⟨du, dv⟩ := AW dt
    refine uv (FD rfl rfl du) (nF ab ?_)
    obtain ⟨x2, cb, cc, dw⟩ := Bj dv
    obtain ⟨ij, ik, il, fh, cd, cf, dx, rfl, fi, cg⟩ := AN.at (Ad _) aj (L := (az, ce #[.int .i64 n2, .slice bg bh bj] 45) :: ((au, ce #[.int .i64 n, .slice aw ax I1] 25) :: ((b1, ce #[.int .i64 wide, .slice Af Ac.length Ae] 25) :: (ae ++ (af ++ (ak ++ (ba ++ []))))))) (fC (fC (fC (fS (fS (fS fP)))))) cb.1 cc
    refine uv (AA underlying22 sizeOf3 rfl cd rfl (AN.idx aj cb)) (nF ab (uv (Ao isAgg3 rfl cf (cg 0 (by decide))) ?_))
    refine nF ab (um (nF ab ?_))
    refine uv (Bo rfl rfl) (uv (At (AZ rfl ab) rfl) (Aa ?_))
    obtain rfl := AH dw
    exact mi (kd (kc (kc (ka (ka kn))))) ⟨rfl, rfl, z5⟩
   refine AU rfl (fun bp => ?_) (fun bp => ?_)
   ·have dy := bt dk bp
    refine AM (ua (Aa ?_))
    refine kW kn ?_
    refine Ap (Ah ?_)
    refine B2 results7 ?_
    obtain rfl := AH dy
    exact rfl
   have dz := bf dk bp
   refine Al ?_
   exact mi kr ⟨dz, rfl, rfl, z4⟩
  have eb := AP fb di
  refine Al ?_
  exact mi (kd (kc (kc (ka (ka kn))))) ⟨eb, rfl, rfl, z4⟩
 rintro e1 _ _ ⟨cj, rfl, rfl, cn⟩
 refine Az _ cn ?_
 rw [FA] at cj
 refine AM (uv (As isAgg25 sizeOf25 rfl (Has.own 0 rfl) (Be rfl) rfl) (uv (As isAgg25 sizeOf25 rfl (Has.own 1 rfl) (Be rfl) rfl) ?_))
 obtain ⟨im, eg, cp⟩ := Aw cj
 refine Bi (Lt := ae ++ []) (Lr := (au, ce #[.int .i64 n, .slice aw ax I1] 25) :: ((b1, ce #[.int .i64 wide, .slice Af Ac.length Ae] 25) :: (af ++ []))) rfl call23 rfl rfl rfl (pT ((fC (fC fP)).trans (pA pR)) (lp (ln rfl))) (fun F2 h2 h3 => by rw [(AN.Bm ah).1]; exact Fg (ah.row (Ad _) h2 (fun p hp => h3 p (List.mem_append_left _ hp))) (aa.mono (Ad _) h2) eg) ?_
 refine um ?_
 rcases Bf im with ao | ao
 ·have eh := bt cp ao
  refine nB ao (um (nB ao (um (nB ao ?_))))
  obtain ⟨iq, ei, cq⟩ := Aw eh
  refine Bi (Lt := af ++ []) (Lr := (au, ce #[.int .i64 n, .slice aw ax I1] 25) :: ((b1, ce #[.int .i64 wide, .slice Af Ac.length Ae] 25) :: (ae ++ []))) rfl call22 rfl rfl rfl (pT ((fC (fC (fS fP))).trans (pA pR)) (lp (ln rfl))) (fun F2 h2 h3 => by rw [(AN.Bm aq).1]; exact Bq (aq.row (Ad _) h2 (fun p hp => h3 p (List.mem_append_left _ hp))) (ad.mono (Ad _) h2) ei) ?_
  refine uv (Au (Es rfl ao) rfl) (um ?_)
  rcases Bf iq with av | av
  ·have ej := bt cq av
   refine nB av ?_
   obtain ⟨iz, en, eo⟩ := Aw ej
   refine cV call13 (BR en) (uv (Au (Es rfl av) rfl) ?_)
   refine ua (Aa ?_)
   refine kW kn (Ap (B2 results7 ?_))
   obtain rfl := AH eo
   exact rfl
  have ep := bf cq av
  refine fB av (uv (At (Es rfl av) rfl) ?_)
  refine ua (Aa ?_)
  refine kW kn (Ap (B2 results7 ?_))
  obtain rfl := AH ep
  exact rfl
 have er := bf cp ao
 refine fB ao (fB ao (fB ao ?_))
 refine uv (At (Es rfl ao) rfl) ?_
 refine um (Ai (b' := false) 124 rfl rfl rfl rfl ?_)
 refine uv (At rfl rfl) ?_
 refine ua (Aa ?_)
 refine kW kn (Ap (B2 results7 ?_))
 obtain rfl := AH er
 exact rfl
set_option maxHeartbeats 1000000 in
theorem Gz (aa : AL 1 (iE .i64) F Af Ae Ac) {r : List (List Int)} (hr : D6 wide Ac AK AF = some r) :
    SH.Spec Tryz.prog 35 #[.agg #[.int .i64 wide, .slice Af Ac.length Ae], .int .i64 AK, .int .i64 AF] F [] fun F' L' v => ∃ (ra : Option Addr) (rc : Nat), v = .slice ra r.length rc ∧ L' = [] ∧ AL 1 (Ol 1 (iE .i64)) F' ra rc r := by
 refine sp func35 ntmps35 fun K _ _ => ?_
 rw [D6] at hr
 refine AM ?_
 refine Bu rfl rfl ?_; intro b1 j9
 refine ua (BX ?_)
 refine uv (Am C0 rfl) (uv (Ao isAgg22 rfl (Has.own 0 rfl) rfl) (uv (AX underlying22 rfl) ?_))
 obtain ⟨g2, r3⟩ := AW hr
 obtain ⟨l, h4, r5⟩ := B8 r3
 refine Ld (R := Sp) (z0 := (none, 0, 0)) (zs := List.replicate ((Ac.length : Int) : Int).toNat (none, 0, 0)) rfl Q2 (by decide) My (fun _ => rfl) rfl g2 rfl (fun _ => .c .n) ?_; intro a6 n9 fe dd
 have gq : K3 K.w0.heap.size 22 3 1 (iE .i64) F a6 n9 n9 l fe := K3.made dd h4
 refine ua (Aa ?_)
 obtain ⟨out, gr, ff⟩ := Aw r5
 refine AQ (fun e1 F1 L1 => ∃ (bg : LH), AY F F1 ∧ L1 = (bg ++ []) ∧ e1.sub [(7, .slice a6 n9 n9)] ∧ K3 K.w0.heap.size 22 3 1 (iE .i64) F1 a6 n9 n9 out bg) ?_ ?_
 ·clear ff
  refine AM (ua (Aa ?_))
  refine Aq ?_
  refine A9 (fun fg e1 F1 L1 => LA Ac fg fun tl s_ => ∃ (ar : List (List Int)) (af : LH), Du wide Ac AK AF tl s_ ar = some out ∧ AY F F1 ∧ L1 = ((b1, ce #[.int .i64 wide, .slice Af Ac.length Ae] 45) :: (af ++ [])) ∧ e1.sub [(1, .int .i64 AK), (2, .int .i64 AF), (3, .pointer (some ⟨b1, 0, none⟩)), (7, .slice a6 n9 n9), (8, .int .i64 s_)] ∧ K3 K.w0.heap.size 22 3 1 (iE .i64) F1 a6 n9 n9 ar af) _ (m0 kr ⟨_, _, rfl, BO.start _, l, fe, gr, AY.refl _, rfl, z5, gq⟩) ?_
  rintro fg e1 gu _ ⟨tl, s_, de, bh, ar, af, cz, bj, rfl, df, ak⟩
  refine Az _ df ?_
  replace aa := aa.mono (Ad _) bj
  refine Ar (AM (um ?_))
  refine uv (Am C0 rfl) (uv (Ao isAgg22 rfl (Has.own 0 rfl) rfl) (uv (AX underlying22 rfl) (uv (A7 rfl rfl) (Aa ?_))))
  refine cQ (fun Jk => ?_) fun Jk => ?_
  ·obtain ⟨x, ja, rfl, dg, fh, dh⟩ := BO.succ bh Jk
   rw [Du] at cz
   refine Al ?_
   obtain ⟨bk, fi, fj⟩ := Aw cz
   refine AQ (fun e1 F1 L1 => ∃ (au : LH), AY gu F1 ∧ L1 = ((b1, ce #[.int .i64 wide, .slice Af Ac.length Ae] 45) :: (au ++ [])) ∧ e1.sub [(1, .int .i64 AK), (2, .int .i64 AF), (3, .pointer (some ⟨b1, 0, none⟩)), (7, .slice a6 n9 n9), (8, .int .i64 s_)] ∧ K3 K.w0.heap.size 22 3 1 (iE .i64) F1 a6 n9 n9 bk au) ?_ ?_
   ·clear fj
    refine Aq ?_
    refine Ar (AM ?_)
    refine uv (Am C0 rfl) (uv (Ao isAgg22 rfl (Has.own 0 rfl) rfl) (um ?_))
    obtain ⟨jb, jc, jd, gv, di, dk, fk, rfl, gw, dm⟩ := AL.at (Ad _) aa ((b1, ce #[.int .i64 wide, .slice Af Ac.length Ae] 45) :: (af ++ [])) fh.1 dg
    refine uv (AA underlying22 sizeOf3 rfl di rfl fh) (uv (Ao isAgg3 rfl dk (dm 0 (by decide))) (uv (Bo rfl rfl) (Aa ?_)))
    refine cQ (fun dn => ?_) fun dn => ?_
    ·have gy := AO fi dn
     refine AR (Aj ?_)
     refine Ay ?_
     obtain rfl := AH gy
     exact mi kr ⟨af, AY.refl _, rfl, z5, ak⟩
    have gz := AP fi dn
    refine Al (AM ?_)
    refine uv (As isAgg45 sizeOf45 rfl (Has.own 0 rfl) (Be rfl) rfl) ?_
    refine um (um ?_)
    obtain ⟨l2, n, ia, ib⟩ := Bs gz
    refine c0 call28 (IM aa ia) ?_; rintro _ fl _ bl dp ⟨fm, fo, fp, ah, rfl, rfl, ab⟩
    replace aa := aa.mono (Ad _) bl
    replace ak := ak.mono (Ad _) bl
    replace ab := ab.new fun p hp => dp p (by simp [hp])
    refine AJ (lp (ln rfl)) (kO (kf (fS fO) kr) ?_)
    refine um (ox rfl rfl rfl (ox rfl rfl rfl (ua (ua (BX (ua (Aa ?_)))))))
    refine Aq ?_
    refine A9 (fun fq e1 F1 L1 => LA l2 fq fun fs p => ∃ (av : List (List Int)) (ad : LH), CI Ac AF s_ fs p av = some bk ∧ fl = F1 ∧ L1 = ((b1, ce #[.int .i64 wide, .slice Af Ac.length Ae] 45) :: (ad ++ (ah ++ []))) ∧ e1.sub [(1, .int .i64 AK), (2, .int .i64 AF), (3, .pointer (some ⟨b1, 0, none⟩)), (7, .slice a6 n9 n9), (8, .int .i64 s_), (9, .slice fm fo fp), (11, .int .i64 p)] ∧ K3 K.w0.heap.size 22 3 1 (iE .i64) F1 a6 n9 n9 av ad) _ (m0 (kc (kg (fS fP) kr)) ⟨_, _, rfl, BO.start _, ar, af, ib, rfl, rfl, z7, ak⟩) ?_
    rintro fq e1 _ _ ⟨fs, p, bn, aw, av, ad, da, rfl, rfl, dq, ax⟩
    refine Az _ dq ?_
    refine Ar (AM (um (um ?_)))
    refine uv ((AX underlying22 rfl).i (AN.HH ab)) (uv (A7 rfl rfl) (Aa ?_))
    refine cQ (fun bo => ?_) fun bo => ?_
    ·obtain ⟨x2, je, rfl, bp, db, bq⟩ := BO.succ aw bo
     rw [CI] at da
     refine Al (Ar ?_)
     refine Aq ?_
     obtain ⟨k, ic, dr⟩ := Aw da
     refine jE (((b1, ce #[.int .i64 wide, .slice Af Ac.length Ae] 45) :: (ad ++ (ah ++ [])))) [(1, .int .i64 AK), (2, .int .i64 AF), (3, .pointer (some ⟨b1, 0, none⟩)), (7, .slice a6 n9 n9), (8, .int .i64 s_), (9, .slice fm fo fp), (11, .int .i64 p), (62, .bool k)] ?_ ?_
     ·clear dr
      refine Ak (uv (Am C0 rfl) (uv (Ao isAgg22 rfl (Has.own 0 rfl) rfl) (um ?_)))
      obtain ⟨x3, ft, dt, fv⟩ := Bj ic
      obtain ⟨jf, jg, jh, ie, du, dv, fw, rfl, ig, dw⟩ := AL.at (Ad _) aa ((b1, ce #[.int .i64 wide, .slice Af Ac.length Ae] 45) :: (ad ++ (ah ++ []))) ft.1 dt
      refine uv (AA underlying22 sizeOf3 rfl du rfl ft) (uv (Ao isAgg3 rfl dv (dw 0 (by decide))) (uv (Bv rfl rfl) (um ?_)))
      by_cases ai : x3 = 1
      ·have fx := AO fv ai
       refine nT ai (um (nT ai (um (nT ai ?_))))
       obtain ⟨ji, jj, jk, ij, dx, dy, fy, rfl, ik, dz⟩ := AN.at (Ad _) ab (L := (b1, ce #[.int .i64 wide, .slice Af Ac.length Ae] 45) :: (ad ++ (ah ++ []))) (fC (fS fP)) db.1 bp
       refine uv (AA underlying22 sizeOf3 rfl dx rfl (AN.idx ab db)) (nT ai (uv (Ao isAgg3 rfl dy (dz 0 (by decide))) (nT ai (uv (JI rfl rfl) (uv (Au (A5 rfl ai) rfl) (um ?_))))))
       by_cases ae : 0 ≤ x2
       ·have il := AO fx ae
        refine nT ae (um (nT ae (um (nT ae ?_))))
        obtain ⟨jl, jm, jn, im, eb, br, eg, rfl, ga, bu⟩ := AN.at (Ad _) ab (L := (b1, ce #[.int .i64 wide, .slice Af Ac.length Ae] 45) :: (ad ++ (ah ++ []))) (fC (fS fP)) db.1 bp
        refine uv (AA underlying22 sizeOf3 rfl eb rfl (AN.idx ab db)) (nT ae (uv (Ao isAgg3 rfl br (bu 0 (by decide))) ?_))
        refine nT ae (um (nT ae ?_))
        refine uv (Kp rfl rfl) (uv (Au (A5 rfl ae) rfl) (Aa ?_))
        obtain rfl := AH il
        exact mi kr ⟨rfl, rfl, z8⟩
       have eh := AP fx ae
       refine fF ae (fF ae (fF ae (fF ae (fF ae (fF ae ?_)))))
       refine uv (At (AZ rfl ae) rfl) (Aa ?_)
       obtain rfl := AH eh
       exact mi kr ⟨rfl, rfl, z8⟩
      have ei := AP fv ai
      refine fF ai (fF ai (fF ai (fF ai (fF ai ?_))))
      refine uv (At (AZ rfl ai) rfl) ?_
      refine um (Ai (b' := false) 55 rfl rfl rfl rfl (Ai (b' := false) 55 rfl rfl rfl rfl (Ai (b' := false) 55 rfl rfl rfl rfl (Ai (b' := false) 55 rfl rfl rfl rfl (Ai (b' := false) 55 rfl rfl rfl rfl (Ai (b' := false) 55 rfl rfl rfl rfl ?_))))))
      refine uv (At rfl rfl) (Aa ?_)
      obtain rfl := AH ei
      exact mi kr ⟨rfl, rfl, z8⟩
     refine AU rfl (fun bm => ?_) (fun bm => ?_)
     ·have ej := bt dr bm
      refine Ak (um (um (um (um ?_))))
      obtain ⟨x4, ao, bw, en⟩ := Bj ej
      have aq := (K3.Bm ax).1
      refine UB (fC fP) ax bw ?_; intro bx ay az iq ir iu bz ba aj ca cb
      refine kO (kf (fS (fS (fS fO))) kr) ?_
      obtain ⟨iv, iw, iy, gb, cc, cd, eo, rfl, gg, cf⟩ := AN.at My aj (L := (b1, ce #[.int .i64 wide, .slice Af Ac.length Ae] 45) :: (ay ++ (bz ++ (az ++ (ah ++ []))))) (fC fP) ao.1 ba
      refine uv (AA underlying70 sizeOf22 rfl cc rfl (Xo aq ao)) (uv (Ao isAgg22 rfl cd (cf 0 (by decide))) (um ?_))
      refine bA (cs := #[.int .i64 s_]) Br [.int .i64 s_] ?_; intro iz gh
      obtain ⟨l3, ep, er, et⟩ := E9 en
      refine DB (xs := x4) (ys := [s_]) (zs := l3) rfl Br rfl rfl (Nat.le_refl _) (fun _ => .c (.c (.s .h))) ca (GO.box (vss := [[.int .i64 s_]]) (ys := [s_]) 0 rfl (Ad _) (.cons rfl .nil) rfl rfl) ep er (by decide) ?_; intro cg cj cn cp cq
      refine kO (kd kr) ?_
      obtain ⟨j0, j4, j5, gi, bb, gj, eu, rfl, gk, gl⟩ := AN.at My aj (L := (b1, ce #[.int .i64 wide, .slice Af Ac.length Ae] 45) :: (ay ++ (cp ++ (az ++ (ah ++ []))))) (fC fP) ao.1 ba
      refine uv (AA underlying70 sizeOf22 rfl bb rfl (Xo aq ao)) ?_
      refine Cv (zs := bx.set (p : Int).toNat (cg, cj, cn)) (u := (cg, cj, cn)) sizeOf22 My rfl bb rfl rfl (fun _ => .c .h) aj rfl (X2 aq aj ao) ?_; intro gm cr
      obtain ⟨ct, ew, ey⟩ := B8 et
      refine Ut (p := fun X => K3 K.w0.heap.size 22 3 1 (iE .i64) fl a6 n9 n9 ct X) (Sc.back cb cr cq ew) (pT ((fC fP).trans (pA ((fC fP).trans (pA ((fC fP).trans (pA pR)))))) (lp (lp (lp (ln rfl))))) ?_; intro cu cv
      refine kO (kf (fS fO) kr) ?_
      refine Aa (Av (id := 3) (Ak (um ?_)))
      refine uv (A1 rfl rfl (BO.DZ aw bo (AN.R5 ab))) ?_
      refine ua (Aa ?_)
      subst bn; exact le kr ⟨_, _, rfl, bq, ct, cu, ey, rfl, rfl, z7, cv⟩
     have ez := bf dr bm
     refine Al (Av (id := 3) (Ak (um ?_)))
     refine uv (A1 rfl rfl (BO.DZ aw bo (AN.R5 ab))) ?_
     refine ua (Aa ?_)
     subst bn; exact le kr ⟨_, _, rfl, bq, av, ad, ez, rfl, rfl, z7, ax⟩
    obtain rfl := BO.zero aw bo
    rw [CI] at da
    refine AR (Aj (Aj ?_))
    refine Ay (Av (id := 1) ?_)
    obtain rfl := AH da
    exact mi (kc (ka kn)) ⟨ad, bl, rfl, z5, ax⟩
   rintro e1 j6 _ ⟨au, bc, rfl, cw, fa⟩
   refine Az _ cw ?_
   replace aa := aa.mono (Ad _) bc
   refine Ak (um ?_)
   refine uv (A1 rfl rfl (BO.DZ bh Jk (AL.lt aa))) ?_
   refine ua (Aa ?_)
   subst de; exact le kr ⟨_, _, rfl, dh, bk, au, fj, (bj.trans bc), rfl, z5, fa⟩
  obtain rfl := BO.zero bh Jk
  rw [Du] at cz
  refine AR (Aj (Aj ?_))
  refine Ay ?_
  obtain rfl := AH cz
  exact mi (kd kr) ⟨af, bj, rfl, z1, ak⟩
 rintro e1 j7 _ ⟨bg, gn, rfl, cx, cy⟩
 refine Az _ cx ?_
 refine AM (um (ua (Aa ?_)))
 obtain rfl := (K3.Bm cy).1
 refine RH (Nat.le_refl _) (Ad _) fP cy ?_; intro j8 gp fb
 refine Ap (B2 results35 ?_)
 obtain rfl := AH ff
 exact ⟨_, _, rfl, rfl, fb⟩
set_option maxHeartbeats 1000000 in
theorem PF (aa : AL 1 (iE .i64) F Af Ae Ac) {r : List Int} {r2 : Int} (hr : LO wide Ac AK AF stand = some (r, r2)) :
    SH.Spec Tryz.prog 36 #[.agg #[.int .i64 wide, .slice Af Ac.length Ae], .agg #[.int .i64 AK, .int .i64 AF], .int .i64 stand] F [] fun F' L' v => ∃ (ra : Option Addr) (rn : Nat) (rc : Nat) (rL : LH), v = .tuple #[.slice ra rn rc, .int .i64 r2] ∧ L' = rL ++ [] ∧ AN 0 3 1 (iE .i64) F' ra rn rc r rL := by
 refine sp func36 ntmps36 fun K _ _ => ?_
 rw [LO] at hr
 refine AM ?_
 refine Bu rfl rfl ?_; intro b1 dv
 refine Bu rfl rfl ?_; intro b2 dw
 refine ua (ua (Aa (Ar (AM ?_))))
 refine uv (As isAgg25 sizeOf25 rfl (Has.own 1 rfl) (Be rfl) rfl) ?_
 obtain ⟨n, h3, r4⟩ := Aw hr
 refine cV call12 (EZ aa h3) ?_
 refine ua (BX (um ?_))
 refine uv (Bo rfl rfl) (Aa ?_)
 refine cQ (fun c5 => ?_) fun c5 => ?_
 ·have r6 := AO r4 c5
  refine AM (um (ua (ua (Aa ?_))))
  refine kW kn ?_
  refine Ap (Ah ?_)
  refine Ba results36 (AG rfl) (AG rfl) (sr) ?_
  obtain ⟨rfl, rfl⟩ := BK r6
  exact ⟨_, _, _, [], rfl, rfl, AN.nil _ _ _ _ _⟩
 have r7 := AP r4 c5
 refine Al (Ar (AM ?_))
 refine uv (As isAgg29 sizeOf29 rfl (Has.own 0 rfl) (Be rfl) rfl) ?_
 obtain ⟨n2, h8, r9⟩ := Aw r7
 refine cV call18 (HZ h8) ?_
 refine ua (BX (um ?_))
 refine uv (Bo rfl rfl) (Aa ?_)
 refine cQ (fun H4 => ?_) fun H4 => ?_
 ·have cr := AO r9 H4
  refine AM (um (ua (ua (Aa ?_))))
  refine kW kn ?_
  refine Ap (Ah ?_)
  refine Ba results36 (AG rfl) (AG rfl) (sr) ?_
  obtain ⟨rfl, rfl⟩ := BK cr
  exact ⟨_, _, _, [], rfl, rfl, AN.nil _ _ _ _ _⟩
 have ct := AP r9 H4
 refine Al (AM ?_)
 refine uv (As isAgg25 sizeOf25 rfl (Has.own 1 rfl) (Be rfl) rfl) (uv (Am GX rfl) (uv (Ao isAgg27 rfl (Has.own 0 rfl) rfl) (um ?_)))
 obtain ⟨l, n3, cu, ca⟩ := Bs ct
 refine c0 call27 (IL aa cu) ?_; rintro _ cb _ az ba ⟨cc, cd, QY, ah, rfl, rfl, ad⟩
 replace aa := aa.mono (Ad _) az
 replace ad := ad.new fun p hp => ba p (by simp [hp])
 refine AJ (lp (ln rfl)) (kO (kf (fS fO) (kf (fS fO) kr)) ?_)
 refine um (ox rfl rfl rfl (ox rfl rfl rfl (ua (ua (Aa (Ar (AM (um ?_))))))))
 refine uv (Bo rfl rfl) (Aa ?_)
 refine cQ (fun Jk => ?_) fun Jk => ?_
 ·have cv := AO ca Jk
  refine AM (um (ua (ua (Aa ?_))))
  refine kW kn ?_
  refine Ap (Ah ?_)
  refine Ba results36 (AG rfl) (AG rfl) (sr) ?_
  obtain ⟨rfl, rfl⟩ := BK cv
  exact ⟨_, _, _, [], rfl, rfl, AN.nil _ _ _ _ _⟩
 have cw := AP ca Jk
 refine Al (AM (ua (Aa ?_)))
 obtain ⟨out, cx, cf⟩ := Aw cw
 refine AQ (fun e1 F1 L1 => ∃ (bb : Option Addr) (bc : Nat) (Jl : Nat) (aj : LH), cb = F1 ∧ L1 = (aj ++ []) ∧ e1.sub [(12, .slice bb bc Jl)] ∧ AN K.w0.heap.size 3 1 (iE .i64) F1 bb bc Jl out aj) ?_ ?_
 ·clear cf
  refine AM (um ?_)
  refine uv ((AX underlying22 rfl).i (AN.HH ad)) ?_
  refine um (Aa ?_)
  refine Aq ?_
  refine A9 (fun cg e1 F1 L1 => LA l cg fun tl k => ∃ (af : List Int) (ao : Option Addr) (aq : Nat) (ar : Nat) (ab : LH), GC Ac AF tl k af = some out ∧ cb = F1 ∧ L1 = ((b2, ce #[.int .i64 AK, .int .i64 AF] 29) :: ((b1, ce #[.int .i64 wide, .slice Af Ac.length Ae] 25) :: (ab ++ (ah ++ [])))) ∧ e1.sub [(3, .pointer (some ⟨b1, 0, none⟩)), (4, .pointer (some ⟨b2, 0, none⟩)), (12, .slice ao aq ar), (36, .slice cc cd QY), (37, .int .i64 (l.length : Int)), (38, .int .i64 k)] ∧ AN K.w0.heap.size 3 1 (iE .i64) F1 ao aq ar af ab) _ (m0 (kc (kc (ke kr))) ⟨_, _, rfl, BO.start _, [], none, 0, 0, [], cx, rfl, rfl, z6, AN.nil _ _ _ _ _⟩) ?_
  rintro cg e1 _ _ ⟨tl, k, au, ai, af, ao, aq, ar, ab, ay, rfl, rfl, bg, ak⟩
  refine Az _ bg (AM (uv (A7 rfl rfl) ?_))
  refine Aa (Ar ?_)
  refine cQ (fun av => ?_) fun av => ?_
  ·obtain ⟨x, dx, rfl, bh, cj, aw⟩ := BO.succ ai av
   rw [GC] at ay
   refine Al (Ar ?_)
   refine Aq ?_
   refine AM (um ?_)
   obtain ⟨dy, dz, eb, cy, bj, bk, cn, rfl, cz, bl⟩ := AN.at (Ad _) ad (L := (b2, ce #[.int .i64 AK, .int .i64 AF] 29) :: ((b1, ce #[.int .i64 wide, .slice Af Ac.length Ae] 25) :: (ab ++ (ah ++ [])))) (fC (fC (fS fP))) cj.1 bh
   refine uv (AA underlying22 sizeOf3 rfl bj rfl (AN.idx ad cj)) (uv (Ao isAgg3 rfl bk (bl 0 (by decide))) ?_)
   refine ua (ua (Aa ?_))
   obtain ⟨k2, da, bm⟩ := Aw ay
   refine jE (((b2, ce #[.int .i64 AK, .int .i64 AF] 29) :: ((b1, ce #[.int .i64 wide, .slice Af Ac.length Ae] 25) :: (ab ++ (ah ++ []))))) [(3, .pointer (some ⟨b1, 0, none⟩)), (4, .pointer (some ⟨b2, 0, none⟩)), (12, .slice ao aq ar), (13, .int .i64 k), (36, .slice cc cd QY), (37, .int .i64 (l.length : Int)), (38, .int .i64 k), (54, .bool k2)] ?_ ?_
   ·clear bm
    refine Ak (uv (Am BN rfl) (uv (Ao isAgg23 rfl (Has.own 1 rfl) rfl) (um ?_)))
    obtain ⟨x2, cp, bn, DZ⟩ := Bj da
    obtain ⟨eg, eh, ei, db, bo, bp, cq, rfl, dd, bq⟩ := AL.at (Ad _) aa ((b2, ce #[.int .i64 AK, .int .i64 AF] 29) :: ((b1, ce #[.int .i64 wide, .slice Af Ac.length Ae] 25) :: (ab ++ (ah ++ [])))) cp.1 bn
    refine uv (AA underlying23 sizeOf32 rfl bo rfl cp) (uv (Ao isAgg32 rfl bp (bq 0 (by decide))) (uv (Bv rfl rfl) (um ?_)))
    by_cases ae : x2 = 1
    ·have de := AO DZ ae
     refine nT ae (um (nT ae ?_))
     refine uv (Am GW rfl) (nT ae (uv (Ao isAgg3 rfl (Has.own 0 rfl) rfl) (nT ae ?_)))
     obtain ⟨ok, df, dg⟩ := Aw de
     refine cV call55 (G5 df) (uv (Au (A5 rfl ae) rfl) (Aa ?_))
     obtain rfl := AH dg
     exact mi kr ⟨rfl, rfl, z8⟩
    have dh := AP DZ ae
    refine fF ae (fF ae (fF ae (fF ae ?_)))
    refine uv (At (AZ rfl ae) rfl) (Aa ?_)
    obtain rfl := AH dh
    exact mi kr ⟨rfl, rfl, z8⟩
   refine AU rfl (fun br => ?_) (fun br => ?_)
   ·have di := bt bm br
    refine Ak (um (um ?_))
    refine bA (cs := #[.int .i64 k]) Br [.int .i64 k] ?_; intro ej dk
    obtain ⟨ax, dm, dn, dp⟩ := E9 di
    refine DB (xs := af) (ys := [k]) (zs := ax) rfl Br rfl rfl (Nat.le_refl _) (fun _ => .c (.c (.c .h))) ak (GO.box (vss := [[.int .i64 k]]) (ys := [k]) 0 rfl (Ad _) (.cons rfl .nil) rfl rfl) dm dn (by decide) ?_; intro dq dr dt bu bw
    refine kO (kd kr) ?_
    refine ua (Aa (Av (id := 1) (Ak ?_)))
    refine uv (A1 rfl rfl (BO.DZ ai av (AN.R5 ad))) ?_
    refine um (Aa ?_)
    subst au; exact le kr ⟨_, _, rfl, aw, ax, dq, dr, dt, bu, dp, rfl, rfl, z6, bw⟩
   have du := bf bm br
   refine Al (Av (id := 1) (Ak ?_))
   refine uv (A1 rfl rfl (BO.DZ ai av (AN.R5 ad))) ?_
   refine um (Aa ?_)
   subst au; exact le kr ⟨_, _, rfl, aw, af, ao, aq, ar, ab, du, rfl, rfl, z6, ak⟩
  obtain rfl := BO.zero ai av
  rw [GC] at ay
  refine AR (Aj (Aj ?_))
  refine Ay ?_
  obtain rfl := AH ay
  exact mi (kd (kd (ka kn))) ⟨ao, aq, ar, ab, rfl, rfl, z1, ak⟩
 rintro e1 _ _ ⟨bb, bc, Jl, aj, rfl, rfl, bx, bz⟩
 refine Az _ bx ?_
 refine AM (um (ua (ua (Aa (Ap ?_)))))
 refine Ba results36 (AG rfl) (AG rfl) (sr) ?_
 obtain ⟨rfl, rfl⟩ := BK cf
 exact ⟨_, _, _, _, rfl, rfl, bz.any⟩
set_option maxHeartbeats 1000000 in
theorem KH {x : List Bool} (ax : x.length = 30) {r : List Int} (hr : Fp x = some r) :
    SH.Spec Tryz.prog 76 #[.agg (arr cB x)] F [] fun F' L' v => ∃ (ra : Option Addr) (rn : Nat) (rc : Nat) (rL : LH), v = .slice ra rn rc ∧ L' = rL ++ [] ∧ AN 0 3 1 (iE .i64) F' ra rn rc r rL := by
 refine sp func76 ntmps76 fun K _ _ => ?_
 rw [Fp] at hr
 refine AM ?_
 refine Bu rfl rfl ?_; intro b1 bq
 refine ua (BX (ua (Aa ?_)))
 obtain ⟨out, h8, r9⟩ := Aw hr
 refine AQ (fun e1 F1 L1 => ∃ (a2 : Option Addr) (n6 : Nat) (c3 : Nat) (ao : LH), F = F1 ∧ L1 = (ao ++ []) ∧ e1.sub [(3, .slice a2 n6 c3)] ∧ AN K.w0.heap.size 3 1 (iE .i64) F1 a2 n6 c3 out ao) ?_ ?_
 ·clear r9
  refine AM (uv (Ow isAgg113 sizeOf113 rfl (Has.own 0 rfl) (Kw BY ax)) ?_)
  refine um (Aa ?_)
  refine Aq (kW kn ?_)
  obtain ⟨ay, ba⟩ := AW h8
  refine A9 (fun aj e1 F1 L1 => ∃ (k : Int), DD 0 30 k aj ∧ ∃ (aa : List Int) (Nv : Option Addr) (af : Nat) (FE : Nat) (ab : LH), C1 x aj k aa = some out ∧ F = F1 ∧ L1 = (ab ++ []) ∧ e1.sub [(3, .slice Nv af FE), (6, .agg (arr cB x)), (7, .int .i64 k)] ∧ AN K.w0.heap.size 3 1 (iE .i64) F1 Nv af FE aa ab) _ (m0 (ke kr) ⟨_, DD.start _ _, [], none, 0, 0, [], ba, rfl, rfl, z3, AN.nil _ _ _ _ _⟩) ?_
  rintro aj e1 _ _ ⟨k, ad, aa, Nv, af, FE, ab, ak, rfl, rfl, aq, ae⟩
  refine Az _ aq (AM (uv (A7 rfl rfl) ?_))
  refine Aa (Ar ?_)
  refine cQ (fun I0 => ?_) fun I0 => ?_
  ·obtain ⟨aj, rfl, ah⟩ := DD.succ ad I0
   rw [C1] at ak
   refine Al (Ar ?_)
   refine Aq ?_
   refine AM (um ?_)
   obtain ⟨x2, bb, ar, az⟩ := Bj ak
   refine uv (Td (VQ ax bb ar) rfl rfl) ?_
   refine ua (ua (BX (um (Aa ?_))))
   refine AU rfl (fun N3 => ?_) (fun N3 => ?_)
   ·have bc := bt az N3
    refine Ak (um (um ?_))
    refine bA (cs := #[.int .i64 k]) Br [.int .i64 k] ?_; intro br bg
    obtain ⟨ai, bh, bj, bk⟩ := E9 bc
    refine DB (xs := aa) (ys := [k]) (zs := ai) rfl Br rfl rfl (Nat.le_refl _) (fun _ => .c .h) ae (GO.box (vss := [[.int .i64 k]]) (ys := [k]) 0 rfl (Ad _) (.cons rfl .nil) rfl rfl) bh bj (by decide) ?_; intro bl bm bn au av
    refine kO (kd kr) ?_
    refine ua (Aa (Av (id := 1) (Ak ?_)))
    refine uv (A1 rfl rfl (DD.DZ ad I0 ay)) ?_
    refine um (Aa ?_)
    exact le kr ⟨_, ah, ai, bl, bm, bn, au, bk, rfl, rfl, z3, av⟩
   have bo := bf az N3
   refine Al (Av (id := 1) (Ak ?_))
   refine uv (A1 rfl rfl (DD.DZ ad I0 ay)) ?_
   refine um (Aa ?_)
   exact le kr ⟨_, ah, aa, Nv, af, FE, ab, bo, rfl, rfl, z3, ae⟩
  obtain rfl := DD.zero ad I0
  rw [C1] at ak
  refine AR (Aj (Aj ?_))
  refine Ay ?_
  obtain rfl := AH ak
  exact mi kr ⟨Nv, af, FE, ab, rfl, rfl, z1, ae⟩
 rintro e1 _ _ ⟨a2, n6, c3, ao, rfl, rfl, aw, bp⟩
 refine Az _ aw ?_
 refine AM (um (ua (Aa (Ap ?_))))
 refine B2 results76 ?_
 obtain rfl := AH r9
 exact ⟨_, _, _, _, rfl, rfl, bp.any⟩
set_option maxHeartbeats 1000000 in
theorem Px (aa : AL 1 (iE .i64) F Af Ae Ac) {r : List Int} {r2 : Int} (hr : Lz wide Ac AK AF BQ = some (r, r2)) :
    SH.Spec Tryz.prog 37 #[.agg #[.int .i64 wide, .slice Af Ac.length Ae], .agg #[.int .i64 AK, .int .i64 AF], .int .i64 BQ] F [] fun F' L' v => ∃ (ra : Option Addr) (rn : Nat) (rc : Nat) (rL : LH), v = .tuple #[.slice ra rn rc, .int .i64 r2] ∧ L' = rL ++ [] ∧ AN 0 3 1 (iE .i64) F' ra rn rc r rL := by
 refine sp func37 ntmps37 fun K _ _ => ?_
 rw [Lz] at hr
 refine AM ?_
 refine Bu rfl rfl ?_; intro b1 bn
 refine Bu rfl rfl ?_; intro b2 bo
 refine ua (ua (BX ?_))
 refine uv (As isAgg25 sizeOf25 rfl (Has.own 1 rfl) (Be rfl) rfl) (uv (As isAgg29 sizeOf29 rfl (Has.own 0 rfl) (Be rfl) rfl) ?_)
 obtain ⟨l, n, h3, r4⟩ := Bs hr
 refine c0 call75 (K1 aa h3) ?_; rintro _ F5 _ av aw ⟨a9, bp, H4, af, rfl, rfl, ab⟩
 replace aa := aa.mono (Ad _) av
 replace ab := ab.new fun p hp => aw p (by simp [hp])
 refine AJ (lp (ln rfl)) (kO (kf (fS fO) (kf (fS fO) kr)) ?_)
 refine um (ox rfl rfl rfl (ox rfl rfl rfl (ua (ua (Aa (Ar (AM (um ?_))))))))
 refine uv (Bo rfl rfl) (Aa ?_)
 refine cQ (fun JH => ?_) fun JH => ?_
 ·have ax := AO r4 JH
  refine AM (um (ua (ua (Aa ?_))))
  refine kW kn ?_
  refine Ap (Ah ?_)
  refine Ba results37 (AG rfl) (AG rfl) (sr) ?_
  obtain ⟨rfl, rfl⟩ := BK ax
  exact ⟨_, _, _, [], rfl, rfl, AN.nil _ _ _ _ _⟩
 have ay := AP r4 JH
 refine Al (Ar (AM ?_))
 refine uv (As isAgg25 sizeOf25 rfl (Has.own 1 rfl) (Be rfl) rfl) (um ?_)
 obtain ⟨n2, az, ar⟩ := Aw ay
 refine cV call62 (Fl aa az) ?_
 refine ua (BX (um ?_))
 refine uv (Bo rfl rfl) (Aa ?_)
 refine cQ (fun QY => ?_) fun QY => ?_
 ·have ba := AO ar QY
  refine AM (um (ua (ua (Aa ?_))))
  refine kW kn ?_
  refine Ap (Ah ?_)
  refine Ba results37 (AG rfl) (AG rfl) (sr) ?_
  obtain ⟨rfl, rfl⟩ := BK ba
  exact ⟨_, _, _, [], rfl, rfl, AN.nil _ _ _ _ _⟩
 have bb := AP ar QY
 refine Al (AM (um (um ?_)))
 obtain ⟨x, au, ah, bc⟩ := Bj bb
 obtain ⟨bq, br, N3, bg, ai, aj, ad, ⟨rfl, bh⟩, ak, ao⟩ := AN.at (BP (n := 30) (sz := 1) BY) ab (L := (b2, ce #[.int .i64 AK, .int .i64 AF] 29) :: ((b1, ce #[.int .i64 wide, .slice Af Ac.length Ae] 25) :: (af ++ []))) (fC (fC fP)) au.1 ah
 refine uv (AA underlying109 sizeOf113 rfl ai rfl (AN.idx ab au)) (uv (As isAgg113 sizeOf113 rfl aj ad (CK ad ak ao)) ?_)
 obtain ⟨l2, bj, bk⟩ := Aw bc
 refine c0 call76 (KH bh bj) ?_; rintro _ bu _ bl aq ⟨bw, bx, bz, bm, rfl, rfl, ae⟩
 replace ae := ae.new fun p hp => aq p (by simp [hp])
 refine AJ (lp (ln rfl)) (kO (kf (fS fO) (kf (fS fO) kr)) ?_)
 refine ua (ua (Aa ?_))
 refine kW (kd (kd (ka kn))) (Ap (Ba results37 (AG rfl) (AG rfl) (sr) ?_))
 obtain ⟨rfl, rfl⟩ := BK bk
 exact ⟨_, _, _, _, rfl, rfl, ae.any⟩
set_option maxHeartbeats 1000000 in
theorem Rq (aa : AL 1 (iE .i64) F Af Ae Ac) {r : List Int} {r2 : Int} (hr : NL wide Ac AK AF = some (r, r2)) :
    SH.Spec Tryz.prog 38 #[.agg #[.int .i64 wide, .slice Af Ac.length Ae], .agg #[.int .i64 AK, .int .i64 AF]] F [] fun F' L' v => ∃ (ra : Option Addr) (rn : Nat) (rc : Nat) (rL : LH), v = .tuple #[.slice ra rn rc, .int .i64 r2] ∧ L' = rL ++ [] ∧ AN 0 3 1 (iE .i64) F' ra rn rc r rL := by
 refine sp func38 ntmps38 fun K _ _ => ?_
 rw [NL] at hr
 refine AM ?_
 refine Bu rfl rfl ?_; intro b1 dk
 refine Bu rfl rfl ?_; intro b2 dm
 refine ua (ua (BX ?_))
 refine uv (As isAgg25 sizeOf25 rfl (Has.own 1 rfl) (Be rfl) rfl) (uv (As isAgg29 sizeOf29 rfl (Has.own 0 rfl) (Be rfl) rfl) ?_)
 obtain ⟨l, n, h3, r4⟩ := Bs hr
 refine c0 call75 (K1 aa h3) ?_; rintro _ F5 _ cg cj ⟨a9, bx, H4, af, rfl, rfl, ah⟩
 replace aa := aa.mono (Ad _) cg
 replace ah := ah.new fun p hp => cj p (by simp [hp])
 refine AJ (lp (ln rfl)) (kO (kf (fS fO) (kf (fS fO) kr)) ?_)
 refine um (ox rfl rfl rfl (ox rfl rfl rfl (ua (ua (Aa (Ar (AM (um ?_))))))))
 refine uv (Bo rfl rfl) (Aa ?_)
 refine cQ (fun JH => ?_) fun JH => ?_
 ·have cn := AO r4 JH
  refine AM (um (ua (ua (Aa ?_))))
  refine kW kn ?_
  refine Ap (Ah ?_)
  refine Ba results38 (AG rfl) (AG rfl) (sr) ?_
  obtain ⟨rfl, rfl⟩ := BK cn
  exact ⟨_, _, _, [], rfl, rfl, AN.nil _ _ _ _ _⟩
 have cp := AP r4 JH
 refine Al (AM (ua (Aa ?_)))
 obtain ⟨out, cq, bz⟩ := Aw cp
 refine AQ (fun e1 F1 L1 => ∃ (ay : Option Addr) (az : Nat) (J5 : Nat) (ak : LH), F5 = F1 ∧ L1 = (ak ++ []) ∧ e1.sub [(8, .slice ay az J5)] ∧ AN K.w0.heap.size 3 1 (iE .i64) F1 ay az J5 out ak) ?_ ?_
 ·clear bz
  refine AM (uv (Am BN rfl) (uv (Ao isAgg23 rfl (Has.own 1 rfl) rfl) (uv (AX underlying23 rfl) ?_)))
  refine um (Aa ?_)
  refine Aq (kW (kd (kd kr)) ?_)
  refine A9 (fun ca e1 F1 L1 => LA Ac ca fun tl k => ∃ (ae : List Int) (aq : Option Addr) (Pv : Nat) (Mi : Nat) (ab : LH), Hw l tl k ae = some out ∧ F5 = F1 ∧ L1 = (af ++ (ab ++ [])) ∧ e1.sub [(6, .slice a9 bx H4), (8, .slice aq Pv Mi), (21, .slice Af Ac.length Ae), (22, .int .i64 (Ac.length : Int)), (23, .int .i64 k)] ∧ AN K.w0.heap.size 3 1 (iE .i64) F1 aq Pv Mi ae ab) _ (m0 (ka (ke kr)) ⟨_, _, rfl, BO.start _, [], none, 0, 0, [], cq, rfl, rfl, z5, AN.nil _ _ _ _ _⟩) ?_
  rintro ca e1 _ _ ⟨tl, k, ar, ai, ae, aq, Pv, Mi, ab, ax, rfl, rfl, ba, ao⟩
  refine Az _ ba (AM (uv (A7 rfl rfl) ?_))
  refine Aa (Ar ?_)
  refine cQ (fun au => ?_) fun au => ?_
  ·obtain ⟨x, dn, rfl, bb, cb, av⟩ := BO.succ ai au
   rw [Hw] at ax
   refine Al (Ar ?_)
   refine Aq ?_
   refine AM (um ?_)
   obtain ⟨dp, dq, dr, cr, bc, bg, cc, rfl, ct, bh⟩ := AL.at (Ad _) aa (af ++ (ab ++ [])) cb.1 bb
   refine uv (AA underlying23 sizeOf32 rfl bc rfl cb) (uv (Ao isAgg32 rfl bg (bh 0 (by decide))) ?_)
   refine ua (ua (Aa ?_))
   obtain ⟨k2, cd, bj⟩ := Aw ax
   refine jE ((af ++ (ab ++ []))) [(6, .slice a9 bx H4), (8, .slice aq Pv Mi), (9, .int .i64 k), (21, .slice Af Ac.length Ae), (22, .int .i64 (Ac.length : Int)), (23, .int .i64 k), (37, .bool k2)] ?_ ?_
   ·clear bj
    refine Ak (um ?_)
    refine uv (Bv rfl rfl) (um ?_)
    by_cases ad : x = 1
    ·have cu := AO cd ad
     refine nT ad (um (nT ad (um (nT ad ?_))))
     obtain ⟨x2, cf, bk, cv⟩ := Bj cu
     obtain ⟨dt, du, dv, cw, bl, bm, aj, ⟨rfl, cx⟩, bn, bo⟩ := AN.at (BP (n := 30) (sz := 1) BY) ah (L := af ++ (ab ++ [])) fP cf.1 bk
     refine uv (AA underlying109 sizeOf113 rfl bl rfl (AN.idx ah cf)) (nT ad (uv (As isAgg113 sizeOf113 rfl bm aj (CK aj bn bo)) (nT ad ?_)))
     refine uv (Bc (v := .agg (arr cB (List.replicate 30 false))) rfl (by intro w; kernel_rfl)) ?_
     refine nT ad (uv (Ri (OO _ _ _ _) (QE cx List.length_replicate) rfl rfl) (uv (Au (A5 rfl ad) rfl) (Aa ?_)))
     obtain rfl := AH cv
     exact mi kr ⟨rfl, rfl, z7⟩
    have cy := AP cd ad
    refine fF ad (fF ad (fF ad (fF ad (fF ad (fF ad ?_)))))
    refine uv (At (AZ rfl ad) rfl) (Aa ?_)
    obtain rfl := AH cy
    exact mi kr ⟨rfl, rfl, z7⟩
   refine AU rfl (fun bp => ?_) (fun bp => ?_)
   ·have cz := bt bj bp
    refine Ak (um (um ?_))
    refine bA (cs := #[.int .i64 k]) Br [.int .i64 k] ?_; intro dw da
    obtain ⟨aw, db, dd, de⟩ := E9 cz
    refine DB (xs := ae) (ys := [k]) (zs := aw) rfl Br rfl rfl (Nat.le_refl _) (fun _ => .c (.s .h)) ao (GO.box (vss := [[.int .i64 k]]) (ys := [k]) 0 rfl (Ad _) (.cons rfl .nil) rfl rfl) db dd (by decide) ?_; intro df dg dh bq br
    refine kO (kd kr) ?_
    refine ua (Aa (Av (id := 1) (Ak ?_)))
    refine uv (A1 rfl rfl (BO.DZ ai au (AL.lt aa))) ?_
    refine um (Aa ?_)
    subst ar; exact le kr ⟨_, _, rfl, av, aw, df, dg, dh, bq, de, rfl, rfl, z5, br⟩
   have di := bf bj bp
   refine Al (Av (id := 1) (Ak ?_))
   refine uv (A1 rfl rfl (BO.DZ ai au (AL.lt aa))) ?_
   refine um (Aa ?_)
   subst ar; exact le kr ⟨_, _, rfl, av, ae, aq, Pv, Mi, ab, di, rfl, rfl, z5, ao⟩
  obtain rfl := BO.zero ai au
  rw [Hw] at ax
  refine AR (Aj (Aj ?_))
  refine Ay ?_
  obtain rfl := AH ax
  exact mi (kx kr) ⟨aq, Pv, Mi, ab, rfl, rfl, z1, ao⟩
 rintro e1 _ _ ⟨ay, az, J5, ak, rfl, rfl, bu, bw⟩
 refine Az _ bu ?_
 refine AM (um (ua (ua (Aa (Ap ?_)))))
 refine Ba results38 (AG rfl) (AG rfl) (sr) ?_
 obtain ⟨rfl, rfl⟩ := BK bz
 exact ⟨_, _, _, _, rfl, rfl, bw.any⟩
theorem Nl (aa : AL 1 (iE .i64) F Af Ae Ac) {r : Bool} (hr : Js wide Ac AK AF stand BQ = some r) :
    Bz Tryz.prog 39 #[.agg #[.int .i64 wide, .slice Af Ac.length Ae], .int .i64 AK, .int .i64 AF, .int .i64 stand, .int .i64 BQ] F (.bool r) := by
 refine sp func39 ntmps39 fun K _ _ => ?_
 rw [Js] at hr
 refine AM ?_
 refine Bu rfl rfl ?_; intro b1 ab
 refine ua (BX ?_)
 refine uv (As isAgg45 sizeOf45 rfl (Has.own 0 rfl) (Be rfl) rfl) ?_
 refine um (um (um ?_))
 obtain ⟨n, n2, h2, r3⟩ := Bs hr
 refine cV call26 (I2 aa h2) ?_
 refine um (ox rfl rfl rfl (ox rfl rfl rfl (ua (ua (BX (um ?_))))))
 refine uv (Bv rfl rfl) (um ?_)
 by_cases c4 : n2 = 0
 ·have r5 := AO r3 c4
  refine nT c4 (um (nT c4 (um (nT c4 ?_))))
  refine uv (Kp rfl rfl) (uv (Au (A5 rfl c4) rfl) ?_)
  refine ua (Aa ?_)
  refine kW kn (Ap (B2 results39 ?_))
  obtain rfl := AH r5
  exact rfl
 have r6 := AP r3 c4
 refine fF c4 (fF c4 (fF c4 ?_))
 refine uv (At (AZ rfl c4) rfl) ?_
 refine ua (Aa ?_)
 refine kW kn (Ap (B2 results39 ?_))
 obtain rfl := AH r6
 exact rfl
set_option maxHeartbeats 1000000 in
theorem QL (aa : AL 1 (iE .i64) F Af Ae Ac) {r : List Int} {r2 : Int} (hr : MB wide Ac AF stand BQ = some (r, r2)) :
    SH.Spec Tryz.prog 40 #[.agg #[.int .i64 wide, .slice Af Ac.length Ae], .int .i64 AF, .int .i64 stand, .int .i64 BQ] F [] fun F' L' v => ∃ (ra : Option Addr) (rn : Nat) (rc : Nat) (rL : LH), v = .tuple #[.slice ra rn rc, .int .i64 r2] ∧ L' = rL ++ [] ∧ AN 0 27 1 (iE .i64) F' ra rn rc r rL := by
 refine sp func40 ntmps40 fun K _ _ => ?_
 rw [MB] at hr
 refine AM ?_
 refine Bu rfl rfl ?_; intro b1 ep
 refine ua (ua (Aa (Ar (AM ?_))))
 refine uv (As isAgg25 sizeOf25 rfl (Has.own 0 rfl) (Be rfl) rfl) ?_
 obtain ⟨n, h2, r3⟩ := Aw hr
 refine cV call12 (EZ aa h2) ?_
 refine ua (BX (um ?_))
 refine uv (Bo rfl rfl) (Aa ?_)
 refine cQ (fun c4 => ?_) fun c4 => ?_
 ·have r5 := AO r3 c4
  refine AM (um (ua (ua (Aa ?_))))
  refine kW kn ?_
  refine Ap (Ah ?_)
  refine Ba results40 (AG rfl) (AG rfl) (sr) ?_
  obtain ⟨rfl, rfl⟩ := BK r5
  exact ⟨_, _, _, [], rfl, rfl, AN.nil _ _ _ _ _⟩
 have r6 := AP r3 c4
 refine Al (Ar (AM (um ?_)))
 refine uv (Bc (v := .agg #[.int .i64 0, .int .i64 AF]) rfl (by intro w; kernel_rfl)) ?_
 obtain ⟨n2, h7, r8⟩ := Aw r6
 refine cV call18 (HZ h7) ?_
 refine ua (BX (um ?_))
 refine uv (Bo rfl rfl) (Aa ?_)
 refine cQ (fun c9 => ?_) fun c9 => ?_
 ·have cv := AO r8 c9
  refine AM (um (ua (ua (Aa ?_))))
  refine kW kn ?_
  refine Ap (Ah ?_)
  refine Ba results40 (AG rfl) (AG rfl) (sr) ?_
  obtain ⟨rfl, rfl⟩ := BK cv
  exact ⟨_, _, _, [], rfl, rfl, AN.nil _ _ _ _ _⟩
 have cw := AP r8 c9
 refine Al ?_
 refine AQ (fun e1 F1 L1 => Kq wide Ac AF stand BQ = some (r, r2) ∧ AY F F1 ∧ L1 = [(b1, ce #[.int .i64 wide, .slice Af Ac.length Ae] 25)] ∧ e1.sub [(1, .int .i64 AF), (2, .int .i64 stand), (3, .int .i64 BQ), (4, .pointer (some ⟨b1, 0, none⟩))]) ?_ ?_
 ·refine Ar (CF [(.still, 0), (.still, 1), (.still, 3), (.still, 4), (.still, 8), (.seq, 2), (.seq, 5), (.seq, 6), (.still, 7)] (by kernel_rfl) (by kernel_rfl) (trivial) (by rfl) (by kernel_rfl) (mL [4] ([(b1, ce #[.int .i64 wide, .slice Af Ac.length Ae] 25)]) rfl (s0 sr) (fun H F' L' au av => As isAgg25 sizeOf25 rfl ((Has.own 0 rfl).ext au av) (Be rfl) rfl) (mS [2] rfl (Bh rfl) (mL [4] ([(b1, ce #[.int .i64 wide, .slice Af Ac.length Ae] 25)]) rfl (s0 sr) (fun H F' L' au av => As isAgg25 sizeOf25 rfl ((Has.own 0 rfl).ext au av) (Be rfl) rfl) (mS [3] rfl (Bh rfl) (Us (v := .int .i64 0) (ek := []) (Ls := []) rfl rfl rfl rfl ((sn _)) (by kernel_rfl) sm (fun H F' L' au av => Bh rfl) ?_))))))
  refine ⟨_, [(29, .agg #[.int .i64 wide, .slice Af Ac.length Ae]), (30, .int .i64 stand)], rfl, rfl, z2, by kernel_rfl, ?_⟩; intro H
  obtain ⟨n3, cx, cy⟩ := Aw cw
  refine cV call62 (Fl aa cx) ?_
  refine Aa ⟨_, rfl, AY.refl _, [8, 4, 3], by kernel_rfl, .inl (.inr (fun d h => by cases h; rfl)), (fc sm (fc sm (fc (s0 sr) nm))), ?_⟩
  refine ⟨_, [(32, .agg #[.int .i64 wide, .slice Af Ac.length Ae]), (33, .int .i64 BQ)], rfl, rfl, z2, by kernel_rfl, ?_⟩; intro H
  obtain ⟨n4, cz, da⟩ := Aw cy
  refine cV call62 (Fl aa cz) ?_
  refine Aa ⟨_, rfl, AY.refl _, [8], by kernel_rfl, .inl (.inr (fun d h => by cases h; rfl)), (fc sm nm), ?_⟩
  refine ⟨_, [(31, .int .i64 n3), (34, .int .i64 n4)], rfl, rfl, z2, by kernel_rfl, ?_⟩; intro H
  refine bA (cs := #[.int .i64 n3, .int .i64 n4]) Vl [.int .i64 n3, .int .i64 n4] ?_; intro cf az
  refine Aa ⟨_, rfl, AY.refl _, [8], by kernel_rfl, .inl (.inr (fun d h => by cases h; rfl)), (fc sm nm), ?_⟩
  refine mS [35] rfl (AX underlying115 rfl) (DI (Aq ?_))
  refine GI 0 rfl az ?_; intro cg ba bb
  refine IB (L' := [(b1, ce #[.int .i64 wide, .slice Af Ac.length Ae] 25)]) rfl ?_
  have db : AL 1 (iE .i64) cg (some ⟨cf, 0, none⟩) 2 [n3, n4] := AL.BS (Ad _) (vss := [[.int .i64 n3], [.int .i64 n4]]) (xs := [n3, n4]) bb (.cons rfl (.cons rfl .nil)) rfl (by simp [maxLen])
  obtain ⟨dd, de⟩ := AW da
  refine A9 (fun aw e1 F1 L1 => ∃ (k : Int), DD 0 2 k aw ∧ HQ wide Ac AF stand BQ n3 n4 aw k = some (r, r2) ∧ cg = F1 ∧ L1 = [(b1, ce #[.int .i64 wide, .slice Af Ac.length Ae] 25)] ∧ e1.sub [(1, .int .i64 AF), (2, .int .i64 stand), (3, .int .i64 BQ), (4, .pointer (some ⟨b1, 0, none⟩)), (35, .slice (some ⟨cf, 0, none⟩) [n3, n4].length 2), (36, .int .i64 2), (37, .int .i64 k)]) _ (m0 kr ⟨_, DD.start _ _, de, rfl, rfl, z7⟩) ?_
  rintro aw e1 _ _ ⟨k, af, ax, rfl, rfl, bc⟩
  refine Az _ bc (AM (uv (A7 rfl rfl) ?_))
  refine Aa (Ar ?_)
  refine cQ (fun N3 => ?_) fun N3 => ?_
  ·obtain ⟨aw, rfl, bg⟩ := DD.succ af N3
   rw [HQ] at ax
   refine Al (Ar ?_)
   refine Aq (AM ?_)
   obtain ⟨x, cj, bh, cn⟩ := Bj ax
   obtain ⟨er, et, eu, df, bj, bk, cp, rfl, dg, bl⟩ := AL.at (Ad _) db ([(b1, ce #[.int .i64 wide, .slice Af Ac.length Ae] 25)]) cj.1 bh
   refine uv (AA underlying115 sizeOf38 rfl bj rfl cj) (uv (Ao isAgg38 rfl bk (bl 0 (by decide))) ?_)
   refine ua (BX (um ?_))
   refine uv (Bo rfl rfl) (Aa ?_)
   refine cQ (fun bm => ?_) fun bm => ?_
   ·have dh := AO cn bm
    refine AM (um (ua (ua (Aa ?_))))
    refine kW kn ?_
    refine Ap (AB (Ah (Ah (AB (Ah ?_)))))
    refine Ba results40 (AG rfl) (AG rfl) (sr) ?_
    obtain ⟨rfl, rfl⟩ := BK dh
    exact ⟨_, _, _, [], rfl, rfl, AN.nil _ _ _ _ _⟩
   have di := AP cn bm
   refine Al (Av (id := 1) (Ak ?_))
   refine uv (A1 rfl rfl (DD.DZ af N3 dd)) ?_
   refine um (Aa ?_)
   exact le kr ⟨_, bg, di, rfl, rfl, z7⟩
  obtain rfl := DD.zero af N3
  rw [HQ] at ax
  refine AR (Aj (Aj ?_))
  refine Ay ?_
  exact mi kr ⟨ax, ba, rfl, z4⟩
 rintro e1 cq _ ⟨cr, bn, rfl, bo⟩
 refine Az _ bo ?_
 replace aa := aa.mono (Ad _) bn
 rw [Kq] at cr
 refine AM (ua (Aa ?_))
 obtain ⟨out, dk, ct⟩ := Aw cr
 refine AQ (fun e1 F1 L1 => ∃ (bp : Option Addr) (bq : Nat) (br : Nat) (ah : LH), cq = F1 ∧ L1 = (ah ++ []) ∧ e1.sub [(14, .slice bp bq br)] ∧ AN K.w0.heap.size 27 1 (iE .i64) F1 bp bq br out ah) ?_ ?_
 ·clear ct
  refine AM (ua (Aa ?_))
  refine Aq ?_
  refine A9 (fun ay e1 F1 L1 => ∃ (ad : List Int) (w : Int) (aj : Option Addr) (ak : Nat) (ao : Nat) (ab : LH), G4 wide Ac AF stand BQ ay ad w = some out ∧ cq = F1 ∧ L1 = ((b1, ce #[.int .i64 wide, .slice Af Ac.length Ae] 25) :: (ab ++ [])) ∧ e1.sub [(1, .int .i64 AF), (2, .int .i64 stand), (3, .int .i64 BQ), (4, .pointer (some ⟨b1, 0, none⟩)), (14, .slice aj ak ao), (15, .int .i64 w)] ∧ AN K.w0.heap.size 27 1 (iE .i64) F1 aj ak ao ad ab) FU (m0 (kc (ke kr)) ⟨[], 0, none, 0, 0, [], dk, rfl, rfl, z6, AN.nil _ _ _ _ _⟩) ?_
  rintro ay e1 _ _ ⟨ad, w, aj, ak, ao, ab, aq, rfl, rfl, bu, ai⟩
  refine Az _ bu ?_
  rcases ay with _ | ay
  ·rw [G4] at aq; cases aq
  rw [G4] at aq
  refine Ar (AM (um ?_))
  refine uv (Kp rfl rfl) (Aa ?_)
  refine cQ (fun bw => ?_) fun bw => ?_
  ·have dm := AO aq bw
   refine Al (Ar ?_)
   refine Aq (AM (uv (As isAgg25 sizeOf25 rfl (Has.own 0 rfl) (Be rfl) rfl) ?_))
   refine um (um (um ?_))
   obtain ⟨n5, n6, dn, dp⟩ := Bs dm
   refine cV call25 (J3 aa dn) ?_
   refine um (ox rfl rfl rfl (ox rfl rfl rfl (ua (ua (Aa ?_)))))
   obtain ⟨k2, cu, bx⟩ := Aw dp
   refine jE (((b1, ce #[.int .i64 wide, .slice Af Ac.length Ae] 25) :: (ab ++ []))) [(1, .int .i64 AF), (2, .int .i64 stand), (3, .int .i64 BQ), (4, .pointer (some ⟨b1, 0, none⟩)), (14, .slice aj ak ao), (15, .int .i64 w), (63, .bool k2)] ?_ ?_
   ·clear bx
    refine Ak (um ?_)
    refine uv (Bv rfl rfl) (um ?_)
    by_cases ae : n6 = 0
    ·have dq := AO cu ae
     refine nT ae (um (nT ae (um (nT ae ?_))))
     refine uv (Kp rfl rfl) (uv (Au (A5 rfl ae) rfl) (Aa ?_))
     obtain rfl := AH dq
     exact mi kr ⟨rfl, rfl, z7⟩
    have dr := AP cu ae
    refine fF ae (fF ae (fF ae ?_))
    refine uv (At (AZ rfl ae) rfl) (Aa ?_)
    obtain rfl := AH dr
    exact mi kr ⟨rfl, rfl, z7⟩
   refine AU rfl (fun bz => ?_) (fun bz => ?_)
   ·have dt := bt bx bz
    refine Ak (um (um ?_))
    refine bA (cs := #[.int .i64 w]) QX [.int .i64 w] ?_; intro ew du
    obtain ⟨ar, dv, dw, dx⟩ := E9 dt
    refine DB (xs := ad) (ys := [w]) (zs := ar) rfl QX rfl rfl (Nat.le_refl _) (fun _ => .c (.c .h)) ai (GO.box (vss := [[.int .i64 w]]) (ys := [w]) 0 rfl (Ad _) (.cons rfl .nil) rfl rfl) dv dw (by decide) ?_; intro dy dz eb ca cb
    refine kO (kd kr) ?_
    refine ua (Aa (Av (id := 3) (Ak (um ?_))))
    obtain ⟨eg, eh⟩ := AW dx
    refine uv (A1 rfl rfl eg) ?_
    refine ua (Aa ?_)
    exact le kr ⟨ar, w + 1, dy, dz, eb, ca, eh, rfl, rfl, z6, cb⟩
   have ei := bf bx bz
   refine Al (Av (id := 3) (Ak (um ?_)))
   obtain ⟨ej, en⟩ := AW ei
   refine uv (A1 rfl rfl ej) ?_
   refine ua (Aa ?_)
   exact le kr ⟨ad, w + 1, aj, ak, ao, ab, en, rfl, rfl, z6, ai⟩
  have eo := AP aq bw
  refine AR (Aj (Aj ?_))
  refine Ay ?_
  obtain rfl := AH eo
  exact mi (kd kr) ⟨aj, ak, ao, ab, rfl, rfl, z1, ai⟩
 rintro e1 _ _ ⟨bp, bq, br, ah, rfl, rfl, cc, cd⟩
 refine Az _ cc ?_
 refine AM (um (ua (ua (Aa (Ap ?_)))))
 refine Ba results40 (AG rfl) (AG rfl) (sr) ?_
 obtain ⟨rfl, rfl⟩ := BK ct
 exact ⟨_, _, _, _, rfl, rfl, cd.any⟩
set_option maxHeartbeats 1000000 in
theorem IJ (aa : AL 1 (iE .i64) F PH PG s1) (ab : AL 1 (iE .i64) F PE PM s2) {r : Bool} (hr : El s1 s2 = some r) :
    Bz Tryz.prog 77 #[.slice PH s1.length PG, .slice PE s2.length PM] F (.bool r) := by
 refine sp func77 ntmps77 fun K _ _ => ?_
 rw [El] at hr
 refine AM (ua (Aa (Ar (AM (um ?_)))))
 refine uv (AX underlying74 rfl) (um (uv (AX underlying74 rfl) (uv (Bo rfl rfl) (Aa ?_))))
 refine cQ (fun c1 => ?_) fun c1 => ?_
 ·have r2 := AO hr c1
  refine AM (ua (Aa (Ap (Ah ?_))))
  refine B2 results77 ?_
  obtain rfl := AH r2
  exact rfl
 have r3 := AP hr c1
 refine Al ?_
 refine AQ (fun e1 F1 L1 => DW = some r ∧ F = F1 ∧ L1 = [] ∧ e1.sub []) ?_ ?_
 ·refine AM (um ?_)
  refine uv (AX underlying74 rfl) ?_
  refine um (Aa ?_)
  refine Aq ?_
  refine A9 (fun aw e1 F1 L1 => LA s1 aw fun tl k => Cb s2 tl k = some r ∧ F = F1 ∧ L1 = [] ∧ e1.sub [(0, .slice PH s1.length PG), (1, .slice PE s2.length PM), (12, .int .i64 (s1.length : Int)), (13, .int .i64 k)]) _ (m0 kr ⟨_, _, rfl, BO.start _, r3, rfl, rfl, z4⟩) ?_
  rintro aw e1 _ _ ⟨tl, k, bg, ad, r6, rfl, rfl, bh⟩
  refine Az _ bh (AM (uv (A7 rfl rfl) ?_))
  refine Aa (Ar ?_)
  refine cQ (fun c9 => ?_) fun c9 => ?_
  ·obtain ⟨x, bp, rfl, ae, ax, af⟩ := BO.succ ad c9
   rw [Cb] at r6
   refine Al (Ar ?_)
   refine Aq ?_
   refine AM (um (ua ?_))
   refine dN ?_
   refine wm (wm ?_)
   obtain ⟨bq, br, JH, bj, ah, ai, ay, rfl, bk, aj⟩ := AL.at (Ad _) aa ([]) ax.1 ae
   refine wv (AA underlying74 sizeOf27 rfl ah rfl ax) (wv (Ao isAgg27 rfl ai (aj 0 (by decide))) ?_)
   refine wm (wm ?_)
   obtain ⟨x2, az, ak, ba⟩ := Bj r6
   obtain ⟨bu, bw, Mi, bl, ao, aq, bb, rfl, bm, ar⟩ := AL.at (Ad _) ab ([]) az.1 ak
   refine wv (AA underlying74 sizeOf27 rfl ao rfl az) (wv (Ao isAgg27 rfl aq (ar 0 (by decide))) (wv (Bo rfl rfl) (BD ?_)))
   refine cQ (fun au => ?_) fun au => ?_
   ·have bn := AO ba au
    refine AM (ua (Aa (Ap (AB (Ah (Ah (AB (Ah ?_))))))))
    refine B2 results77 ?_
    obtain rfl := AH bn
    exact rfl
   have bo := AP ba au
   refine Al (Av (id := 1) (Ak ?_))
   refine uv (A1 rfl rfl (BO.DZ ad c9 (AL.lt aa))) ?_
   refine um (Aa ?_)
   subst bg; exact le kr ⟨_, _, rfl, af, bo, rfl, rfl, z4⟩
  obtain rfl := BO.zero ad c9
  rw [Cb] at r6
  refine AR (Aj (Aj ?_))
  refine Ay ?_
  exact mi kr ⟨r6, rfl, rfl, (sn _)⟩
 rintro e1 _ _ ⟨bc, rfl, rfl, av⟩
 refine Az _ av ?_
 rw [DW] at bc
 refine AM (ua (Aa (Ap ?_)))
 refine B2 results77 ?_
 obtain rfl := AH bc
 exact rfl
theorem MA {a b : List Int} (aa : AL 1 (iE .i64) F Wg WV a) (ab : AL 1 (iE .i64) F Wu WS b) {r : Bool} (hr : IT a b = some r) :
    Bz Tryz.prog 41 #[.slice Wg a.length WV, .slice Wu b.length WS] F (.bool r) := by
 refine sp func41 ntmps41 fun K _ _ => ?_
 rw [IT] at hr
 refine AM (ua (BX (um (um ?_))))
 obtain ⟨ok, h1, r2⟩ := Aw hr
 refine cV call77 (IJ aa ab h1) ?_
 refine ua (Aa (Ap ?_))
 refine B2 results41 ?_
 obtain rfl := AH r2
 exact rfl
set_option maxHeartbeats 1000000 in
theorem E6 (aa : AL 1 (iE .i64) F Af Ae Ac) {r : Bool} (hr : Dj wide Ac AK AF stand BQ = some r) :
    Bz Tryz.prog 8 #[.agg #[.int .i64 wide, .slice Af Ac.length Ae], .agg #[.int .i64 AK, .int .i64 AF], .int .i64 stand, .int .i64 BQ] F (.bool r) := by
 refine sp func8 ntmps8 fun K _ _ => ?_
 rw [Dj] at hr
 refine AM ?_
 refine Bu rfl rfl ?_; intro b1 hb1
 refine Bu rfl rfl ?_; intro b2 hb2
 refine ua (Aa (Ar (AM ?_)))
 refine uv (As isAgg25 sizeOf25 rfl (Has.own 1 rfl) (Be rfl) rfl) ?_
 obtain ⟨ok, h3, r4⟩ := Aw hr
 refine cV call14 (FO aa h3) (Aa ?_)
 refine AU rfl (fun c5 => ?_) (fun c5 => ?_)
 ·have r6 := bt r4 c5
  refine AM ?_
  obtain ⟨ok2, h7, r8⟩ := Aw r6
  refine cV call13 (BR h7) ?_
  refine ua (Aa ?_)
  refine kW kn ?_
  refine Ap (Ah ?_)
  refine B2 results8 ?_
  obtain rfl := AH r8
  exact rfl
 have r9 := bf r4 c5
 refine Al (Ar ?_)
 refine CF [(.pre, 6), (.pre, 7), (.still, 0), (.still, 2), (.still, 4), (.still, 5), (.seq, 1), (.seq, 3), (.alloc (.cells (.agg #[.int .i64 0, .slice none 0 0] : Value).cells 25 (0, 0)) (fun b => .pointer (some ⟨b, 0, none⟩)) [], 6), (.alloc (.cells (.agg #[.int .i64 0, .slice none 0 0] : Value).cells 45 (0, 0)) (fun b => .pointer (some ⟨b, 0, none⟩)) [], 7), (.seq, 8), (.seq, 9), (.still, 10)] (by kernel_rfl) (by kernel_rfl) (⟨⟨_, _, rfl, rfl, rfl, rfl, rfl, Gb zeroValue25⟩, ⟨⟨_, _, rfl, rfl, rfl, rfl, rfl, Gb zeroValue45⟩, trivial⟩⟩) (by rfl) (by kernel_rfl) ?_
 refine ⟨⟨[], rfl, sn _, by kernel_rfl⟩, ?_⟩
 refine ⟨⟨[], rfl, sn _, by kernel_rfl⟩, ?_⟩
 refine mL [4] ([(b1, ce #[.int .i64 wide, .slice Af Ac.length Ae] 25)]) rfl (s0 (s1 (s2 sr))) (fun H F' L' j9 ja => As isAgg25 sizeOf25 rfl ((Has.own 0 rfl).ext j9 ja) (Be rfl) rfl) (mL [4] ([(b1, ce #[.int .i64 wide, .slice Af Ac.length Ae] 25)]) rfl (s0 (s1 (s2 sr))) (fun H F' L' j9 ja => As isAgg25 sizeOf25 rfl ((Has.own 0 rfl).ext j9 ja) (Be rfl) rfl) (mS [5] rfl (Am GX rfl) (mL [38] ([(b2, ce #[.int .i64 AK, .int .i64 AF] 29)]) rfl (s0 (s2 (s1 sr))) (fun H F' L' j9 ja => Ao isAgg27 rfl ((Has.own 0 rfl).ext j9 ja) rfl) ?_)))
 refine ⟨_, [(34, .agg #[.int .i64 wide, .slice Af Ac.length Ae])], rfl, rfl, z1, by kernel_rfl, ?_⟩; intro H
 obtain ⟨n, l, vd, ve⟩ := Bs r9
 refine c0 call15 (FJ aa vd) ?_; rintro _ F12 _ jb ou ⟨HU, ao, FG, ad, rfl, rfl, ae⟩
 replace aa := aa.mono (Ad _) jb
 replace ae := ae.new fun p hp => ou p (by simp [hp])
 refine AJ (lp (ln rfl)) (kO (kf (fS fO) (kf (fS fO) kr)) ?_)
 refine Aa ⟨_, rfl, jb, [5, 4, 2], by kernel_rfl, .inl (.inr (fun d h => by cases h; rfl)), (fc (s0 (s2 (s1 (s3 sr)))) (fc sm (fc (s0 (s1 (s2 (s3 sr)))) nm))), ?_⟩
 refine ⟨_, [(36, .agg #[.int .i64 wide, .slice Af Ac.length Ae])], rfl, rfl, z1, by kernel_rfl, ?_⟩; intro H
 obtain ⟨n2, l2, vf, vg⟩ := Bs ve
 refine c0 call16 (DK aa vf) ?_; rintro _ vh _ gj ow ⟨cp, jc, Jl, dd, rfl, rfl, ba⟩
 replace aa := aa.mono (Ad _) gj
 replace ae := ae.mono (Ad _) gj
 replace ba := ba.new fun p hp => ow p (by simp [hp])
 refine AJ (lp (ln rfl)) (kO (kf (fS fO) (kf (fS fO) kr)) ?_)
 refine Aa ⟨_, rfl, gj, [5, 4], by kernel_rfl, .inl (.inr (fun d h => by cases h; rfl)), (fc (s0 (s2 (s1 (s3 (s3 sr))))) (fc sm nm)), ?_⟩
 refine G9 rfl ?_; intro af vi
 refine JK (L' := (af, ce #[.int .i64 0, .slice none 0 0] 25) :: ((b2, ce #[.int .i64 AK, .int .i64 AF] 29) :: ((b1, ce #[.int .i64 wide, .slice Af Ac.length Ae] 25) :: (dd ++ (ad ++ []))))) rfl ?_
 refine G9 rfl ?_; intro ah vj
 refine JK (L' := (ah, ce #[.int .i64 0, .slice none 0 0] 45) :: ((af, ce #[.int .i64 0, .slice none 0 0] 25) :: ((b2, ce #[.int .i64 AK, .int .i64 AF] 29) :: ((b1, ce #[.int .i64 wide, .slice Af Ac.length Ae] 25) :: (dd ++ (ad ++ [])))))) rfl ?_
 refine ⟨_, [(9, .pointer (some ⟨af, 0, none⟩)), (35, .agg #[.int .i64 n, .slice HU ao FG])], rfl, rfl, z2, by kernel_rfl, ?_⟩; intro H
 refine Bg (i := 1) sizeOf25 rfl rfl rfl (by simp [Value.oneCell']) rfl (Be rfl) (AJ rfl ?_)
 refine Aa ⟨undef, rfl, AY.refl _, [5, 4], by kernel_rfl, .inl (.inr (fun d h => by cases h)), (fc (s0 (s1 (s1 (s2 (s1 (s3 (s3 sr))))))) (fc sm nm)), ?_⟩
 refine ⟨_, [(10, .pointer (some ⟨ah, 0, none⟩)), (37, .agg #[.int .i64 n2, .slice cp jc Jl])], rfl, rfl, z2, by kernel_rfl, ?_⟩; intro H
 refine Bg (i := 0) sizeOf45 rfl rfl rfl (by simp [Value.oneCell']) rfl (Be rfl) (AJ rfl ?_)
 refine Aa ⟨undef, rfl, AY.refl _, [5, 4], by kernel_rfl, .inl (.inr (fun d h => by cases h)), (fc (s0 (s1 (s1 (s2 (s1 (s3 (s3 sr))))))) (fc sm nm)), ?_⟩
 refine mS [39] rfl (Ej rfl) (DI (AM (uv (As isAgg45 sizeOf45 rfl (Has.own 0 rfl) (Be rfl) rfl) ?_)))
 obtain ⟨n3, vk, vl⟩ := Aw vg
 refine Bi (Lt := dd ++ []) (Lr := (ah, ce #[.int .i64 n2, .slice cp jc Jl] 45) :: ((af, ce #[.int .i64 n, .slice HU ao FG] 25) :: ((b2, ce #[.int .i64 AK, .int .i64 AF] 29) :: ((b1, ce #[.int .i64 wide, .slice Af Ac.length Ae] 25) :: (ad ++ []))))) rfl call17 rfl rfl rfl (pT ((fC (fC (fC (fC fP)))).trans (pA pR)) (lp (ln rfl))) (fun F2 h2 h3 => by rw [(AN.Bm ba).1]; exact D4 (ba.row (Ad _) h2 (fun p hp => h3 p (List.mem_append_left _ hp))) vk) ?_
 refine ua (Aa ?_)
 obtain ⟨w, uc, ud⟩ := Aw vl
 refine jE (((ah, ce #[.int .i64 n2, .slice cp jc Jl] 45) :: ((af, ce #[.int .i64 n, .slice HU ao FG] 25) :: ((b2, ce #[.int .i64 AK, .int .i64 AF] 29) :: ((b1, ce #[.int .i64 wide, .slice Af Ac.length Ae] 25) :: (ad ++ (dd ++ []))))))) [(2, .int .i64 stand), (3, .int .i64 BQ), (4, .pointer (some ⟨b1, 0, none⟩)), (5, .pointer (some ⟨b2, 0, none⟩)), (9, .pointer (some ⟨af, 0, none⟩)), (10, .pointer (some ⟨ah, 0, none⟩)), (11, .int .i64 AK), (12, .int .i64 w)] ?_ ?_
 ·clear ud
  refine AM (um ?_)
  refine uv (Bv rfl rfl) (Aa ?_)
  refine cQ (fun oy => ?_) fun oy => ?_
  ·have vm := AO uc oy
   refine Ak (um ?_)
   refine uv (Am GW rfl) (uv (Ao isAgg3 rfl (Has.own 2 rfl) rfl) ?_)
   obtain ⟨n4, vn, vo⟩ := Aw vm
   refine cV call19 (FZ vn) ?_
   refine ua (Aa ?_)
   obtain rfl := AH vo
   exact mi (kc (kc (kc (kc (kg (fS fP) kr))))) ⟨rfl, rfl, z8⟩
  have vp := AP uc oy
  refine Al ?_
  obtain rfl := AH vp
  exact mi (kc (kc (kc (kc (kg (fS fP) kr))))) ⟨rfl, rfl, z8⟩
 refine AM (ua (ua (ua (BX (um (um (ua (ua (Aa ?_)))))))))
 obtain ⟨ab, ue, uf, none_, u, v, ug, uh⟩ := Xc ud
 refine Qd (fun e1 F1 L1 => ∃ (cj : Option Addr) (cn : Nat) (oj : Option Addr) (oo : Nat) (oq : Nat) (ez : LH) (jd : Option Addr) (je : Nat) (jf : Nat) (du : LH) (jg : Option Addr) (jh : Nat) (ji : Nat) (bc : LH), AY vh F1 ∧ L1 = ((ah, ce #[.int .i64 n2, .slice cj ab.length cn] 45) :: ((af, ce #[.int .i64 n, .slice HU ao FG] 25) :: ((b2, ce #[.int .i64 AK, .int .i64 AF] 29) :: ((b1, ce #[.int .i64 wide, .slice Af Ac.length Ae] 25) :: (ad ++ (ez ++ (du ++ (bc ++ [])))))))) ∧ e1.sub [(2, .int .i64 stand), (3, .int .i64 BQ), (4, .pointer (some ⟨b1, 0, none⟩)), (5, .pointer (some ⟨b2, 0, none⟩)), (9, .pointer (some ⟨af, 0, none⟩)), (10, .pointer (some ⟨ah, 0, none⟩)), (12, .int .i64 w), (13, .slice oj oo oq), (14, .slice jd je jf), (15, .slice jg jh ji), (16, .int .i64 u), (17, .int .i64 v)] ∧ AL 1 (iE .i64) F1 cj cn ab ∧ AN K.w0.heap.size 3 1 (iE .i64) F1 oj oo oq ue ez ∧ AN K.w0.heap.size 3 1 (iE .i64) F1 jd je jf uf du ∧ AN K.w0.heap.size 3 1 (iE .i64) F1 jg jh ji none_ bc) ?_ ?_
 ·clear uh
  refine AM (um ?_)
  refine uv (Bv rfl rfl) (Aa ?_)
  refine cQ (fun oz => ?_) fun oz => ?_
  ·have vq := AO ug oz
   refine dW (wv (As isAgg45 sizeOf45 rfl (Has.own 0 rfl) (Be rfl) rfl) (wm ?_))
   obtain ⟨n5, vr, vt⟩ := Aw vq
   refine JD (Lt := dd ++ []) (Lr := (ah, ce #[.int .i64 n2, .slice cp jc Jl] 45) :: ((af, ce #[.int .i64 n, .slice HU ao FG] 25) :: ((b2, ce #[.int .i64 AK, .int .i64 AF] 29) :: ((b1, ce #[.int .i64 wide, .slice Af Ac.length Ae] 25) :: (ad ++ []))))) rfl call34 rfl rfl rfl (pT ((fC (fC (fC (fC (fS fP))))).trans (pA pR)) (lp (ln rfl))) (fun F2 h2 h3 => by rw [(AN.Bm ba).1]; exact Ey (ba.row (Ad _) h2 (fun p hp => h3 p (List.mem_append_left _ hp))) vr) ?_
   refine wv (As isAgg45 sizeOf45 rfl (Has.own 0 rfl) (Be rfl) rfl) (wm ?_)
   obtain ⟨n6, vu, vw⟩ := Aw vt
   refine JD (Lt := dd ++ []) (Lr := (ah, ce #[.int .i64 n2, .slice cp jc Jl] 45) :: ((af, ce #[.int .i64 n, .slice HU ao FG] 25) :: ((b2, ce #[.int .i64 AK, .int .i64 AF] 29) :: ((b1, ce #[.int .i64 wide, .slice Af Ac.length Ae] 25) :: (ad ++ []))))) rfl call34 rfl rfl rfl (pT ((fC (fC (fC (fC (fS fP))))).trans (pA pR)) (lp (ln rfl))) (fun F2 h2 h3 => by rw [(AN.Bm ba).1]; exact Ey (ba.row (Ad _) h2 (fun p hp => h3 p (List.mem_append_left _ hp))) vu) ?_
   refine wa (wa (XT ?_))
   refine uv (As isAgg45 sizeOf45 rfl (Has.own 0 rfl) (Be rfl) rfl) (um (uv (Am GW rfl) (uv (Ao isAgg3 rfl (Has.own 2 rfl) rfl) ?_)))
   obtain rfl := (AN.Bm ba).1
   refine FL (Nat.le_refl _) (Ad _) (fC (fC (fC (fC (fS fP))))) ba ?_; intro F78 p0 jj
   obtain ⟨l3, vx, vy⟩ := Aw vw
   refine c0 call35 (Gz jj vx) ?_; rintro _ jk _ jl vz ⟨jm, jn, rfl, rfl, ui⟩
   replace jj := jj.mono (Ad _) jl
   refine AJ (ln rfl) (uv (AX underlying70 rfl) ?_)
   refine um (Aa ?_)
   refine Aq ?_
   refine A9 (fun uj e1 F1 L1 => LA l3 uj fun tl k => ∃ (fa : List Int) (fb : List Int) (ca : List Int) (gk : Option Addr) (gl : Nat) (gm : Nat) (cb : LH) (gn : Option Addr) (cq : Nat) (gp : Nat) (cc : LH) (de : Option Addr) (df : Nat) (dg : Nat) (av : LH), DO stand BQ l2 n5 n6 tl k fa fb ca = some (ab, ue, uf, none_, u, v) ∧ jk = F1 ∧ L1 = ((ah, ce #[.int .i64 n2, .slice cp l2.length Jl] 45) :: ((af, ce #[.int .i64 n, .slice HU ao FG] 25) :: ((b2, ce #[.int .i64 AK, .int .i64 AF] 29) :: ((b1, ce #[.int .i64 wide, .slice Af Ac.length Ae] 25) :: (ad ++ (cb ++ (cc ++ (av ++ [])))))))) ∧ e1.sub [(2, .int .i64 stand), (3, .int .i64 BQ), (4, .pointer (some ⟨b1, 0, none⟩)), (5, .pointer (some ⟨b2, 0, none⟩)), (9, .pointer (some ⟨af, 0, none⟩)), (10, .pointer (some ⟨ah, 0, none⟩)), (12, .int .i64 w), (13, .slice gk gl gm), (14, .slice gn cq gp), (15, .slice de df dg), (16, .int .i64 n5), (17, .int .i64 n6), (62, .slice jm l3.length jn), (63, .int .i64 (l3.length : Int)), (64, .int .i64 k)] ∧ AN K.w0.heap.size 3 1 (iE .i64) F1 gk gl gm fa cb ∧ AN K.w0.heap.size 3 1 (iE .i64) F1 gn cq gp fb cc ∧ AN K.w0.heap.size 3 1 (iE .i64) F1 de df dg ca av) _ (m0 (kc (kc (kc (kc (ka (ke (ke (ke kr)))))))) ⟨_, _, rfl, BO.start _, [], [], [], none, 0, 0, [], none, 0, 0, [], none, 0, 0, [], vy, rfl, rfl, (sc rfl (sc rfl (sc rfl (sc rfl (sc rfl (sc rfl (sc rfl z8))))))), AN.nil _ _ _ _ _, AN.nil _ _ _ _ _, AN.nil _ _ _ _ _⟩) ?_
   rintro uj e1 _ _ ⟨tl, k, jo, dv, fa, fb, ca, gk, gl, gm, cb, gn, cq, gp, cc, de, df, dg, av, fe, rfl, rfl, jq, gq, gr, cu⟩
   refine Az _ jq (AM (uv (A7 rfl rfl) ?_))
   refine Aa (Ar ?_)
   refine cQ (fun ff => ?_) fun ff => ?_
   ·obtain ⟨x, tl2, rfl, jr, js, jt⟩ := BO.succ dv ff
    rw [DO] at fe
    refine Al ?_
    obtain ⟨gu, gv, cr, p7, ju⟩ := Lg fe
    refine AQ (fun e1 F1 L1 => ∃ (fg : Option Addr) (fh : Nat) (fi : Nat) (cv : LH) (fj : Option Addr) (fk : Nat) (fl : Nat) (cw : LH) (fm : Option Addr) (fo : Nat) (fp : Nat) (cx : LH), jk = F1 ∧ L1 = ((ah, ce #[.int .i64 n2, .slice cp l2.length Jl] 45) :: ((af, ce #[.int .i64 n, .slice HU ao FG] 25) :: ((b2, ce #[.int .i64 AK, .int .i64 AF] 29) :: ((b1, ce #[.int .i64 wide, .slice Af Ac.length Ae] 25) :: (ad ++ (cv ++ (cw ++ (cx ++ [])))))))) ∧ e1.sub [(2, .int .i64 stand), (3, .int .i64 BQ), (4, .pointer (some ⟨b1, 0, none⟩)), (5, .pointer (some ⟨b2, 0, none⟩)), (9, .pointer (some ⟨af, 0, none⟩)), (10, .pointer (some ⟨ah, 0, none⟩)), (12, .int .i64 w), (13, .slice fg fh fi), (14, .slice fj fk fl), (15, .slice fm fo fp), (16, .int .i64 n5), (17, .int .i64 n6), (62, .slice jm l3.length jn), (63, .int .i64 (l3.length : Int)), (64, .int .i64 k)] ∧ AN K.w0.heap.size 3 1 (iE .i64) F1 fg fh fi gu cv ∧ AN K.w0.heap.size 3 1 (iE .i64) F1 fj fk fl gv cw ∧ AN K.w0.heap.size 3 1 (iE .i64) F1 fm fo fp cr cx) ?_ ?_
    ·clear ju
     refine Aq ?_
     refine AM (um ?_)
     obtain ⟨w4, w7, w8, uk, jv, jw, p8, ⟨gw, gy, rfl, gz⟩, uo, jx⟩ := AL.at (CP (Ad _)) ui ((ah, ce #[.int .i64 n2, .slice cp l2.length Jl] 45) :: ((af, ce #[.int .i64 n, .slice HU ao FG] 25) :: ((b2, ce #[.int .i64 AK, .int .i64 AF] 29) :: ((b1, ce #[.int .i64 wide, .slice Af Ac.length Ae] 25) :: (ad ++ (cb ++ (cc ++ (av ++ [])))))))) js.1 jr
     refine uv (AA underlying70 sizeOf22 rfl jv rfl js) (uv (Ao isAgg22 rfl jw (jx 0 (by decide))) ?_)
     refine ua (ua (Aa (Ar (AM ?_))))
     refine uv (Am C0 rfl) (uv (Ao isAgg22 rfl (Has.own 0 rfl) rfl) (um ?_))
     obtain ⟨x2, jz, kb, kh⟩ := Bj p7
     obtain ⟨w9, wb, wc, uq, kj, kl, p9, rfl, ur, km⟩ := AL.at (Ad _) jj ((ah, ce #[.int .i64 n2, .slice cp l2.length Jl] 45) :: ((af, ce #[.int .i64 n, .slice HU ao FG] 25) :: ((b2, ce #[.int .i64 AK, .int .i64 AF] 29) :: ((b1, ce #[.int .i64 wide, .slice Af Ac.length Ae] 25) :: (ad ++ (cb ++ (cc ++ (av ++ [])))))))) jz.1 kb
     refine uv (AA underlying22 sizeOf3 rfl kj rfl jz) (uv (Ao isAgg3 rfl kl (km 0 (by decide))) (uv (Bo rfl rfl) (Aa ?_)))
     refine cQ (fun ia => ?_) fun ia => ?_
     ·have pa := AO kh ia
      refine AR (Aj ?_)
      refine Ay ?_
      obtain ⟨rfl, rfl, rfl⟩ := Me pa
      exact mi kr ⟨gk, gl, gm, cb, gn, cq, gp, cc, de, df, dg, av, rfl, rfl, (sc rfl (sc rfl (sc rfl (sc rfl (sc rfl (sc rfl (sc rfl z8))))))), gq, gr, cu⟩
     have pb := AP kh ia
     refine Al ?_
     obtain ⟨dw, ko, kt⟩ := Aw pb
     refine AQ (fun e1 F1 L1 => ∃ (dh : Option Addr) (di : Nat) (dk : Nat) (bg : LH), jk = F1 ∧ L1 = ((ah, ce #[.int .i64 n2, .slice cp l2.length Jl] 45) :: ((af, ce #[.int .i64 n, .slice HU ao FG] 25) :: ((b2, ce #[.int .i64 AK, .int .i64 AF] 29) :: ((b1, ce #[.int .i64 wide, .slice Af Ac.length Ae] 25) :: (ad ++ (cb ++ (cc ++ (bg ++ [])))))))) ∧ e1.sub [(2, .int .i64 stand), (3, .int .i64 BQ), (4, .pointer (some ⟨b1, 0, none⟩)), (5, .pointer (some ⟨b2, 0, none⟩)), (9, .pointer (some ⟨af, 0, none⟩)), (10, .pointer (some ⟨ah, 0, none⟩)), (12, .int .i64 w), (13, .slice gk gl gm), (14, .slice gn cq gp), (15, .slice dh di dk), (16, .int .i64 n5), (17, .int .i64 n6), (18, .int .i64 k), (19, .slice gw x.length gy), (62, .slice jm l3.length jn), (63, .int .i64 (l3.length : Int)), (64, .int .i64 k)] ∧ AN K.w0.heap.size 3 1 (iE .i64) F1 dh di dk dw bg) ?_ ?_
     ·clear kt
      refine AM (um ?_)
      refine uv (AX underlying22 rfl) (uv (Bv rfl rfl) (Aa ?_))
      refine cQ (fun ib => ?_) fun ib => ?_
      ·have pc := AO ko ib
       refine Ak (um (um ?_))
       refine bA (cs := #[.int .i64 k]) Br [.int .i64 k] ?_; intro we uu
       obtain ⟨ic, pd, pe, pf⟩ := E9 pc
       refine DB (xs := ca) (ys := [k]) (zs := ic) rfl Br rfl rfl (Nat.le_refl _) (fun _ => .c (.c (.c (.c (.c (.s (.s (.s .h)))))))) cu (GO.box (vss := [[.int .i64 k]]) (ys := [k]) 0 rfl (Ad _) (.cons rfl .nil) rfl rfl) pd pe (by decide) ?_; intro pg ph pj ku kv
       refine kO (kd kr) ?_
       refine ua (Aa ?_)
       obtain rfl := AH pf
       exact mi kr ⟨pg, ph, pj, ku, rfl, rfl, (sc rfl (sc rfl (sc rfl (sc rfl (sc rfl (sc rfl (sc rfl (sc rfl (sc rfl z8))))))))), kv⟩
      have pk := AP ko ib
      refine Al ?_
      obtain rfl := AH pk
      exact mi kr ⟨de, df, dg, av, rfl, rfl, (sc rfl (sc rfl (sc rfl (sc rfl (sc rfl (sc rfl (sc rfl (sc rfl (sc rfl z8))))))))), cu⟩
     rintro e1 _ _ ⟨dh, di, dk, bg, rfl, rfl, kz, l0⟩
     refine Az _ kz ?_
     refine AM (um ?_)
     refine uv (AX underlying22 rfl) ?_
     refine um (Aa ?_)
     refine Aq ?_
     refine A9 (fun uw e1 F1 L1 => LA x uw fun ux k2 => ∃ (fq : List Int) (dx : List Int) (dy : Option Addr) (dz : Nat) (eb : Nat) (bp : LH) (dm : Option Addr) (dn : Nat) (dp : Nat) (bh : LH), C5 stand BQ k dw ux fq dx = some (gu, gv, cr) ∧ jk = F1 ∧ L1 = ((ah, ce #[.int .i64 n2, .slice cp l2.length Jl] 45) :: ((af, ce #[.int .i64 n, .slice HU ao FG] 25) :: ((b2, ce #[.int .i64 AK, .int .i64 AF] 29) :: ((b1, ce #[.int .i64 wide, .slice Af Ac.length Ae] 25) :: (ad ++ (bp ++ (bh ++ (bg ++ [])))))))) ∧ e1.sub [(2, .int .i64 stand), (3, .int .i64 BQ), (4, .pointer (some ⟨b1, 0, none⟩)), (5, .pointer (some ⟨b2, 0, none⟩)), (9, .pointer (some ⟨af, 0, none⟩)), (10, .pointer (some ⟨ah, 0, none⟩)), (12, .int .i64 w), (13, .slice dy dz eb), (14, .slice dm dn dp), (15, .slice dh di dk), (16, .int .i64 n5), (17, .int .i64 n6), (18, .int .i64 k), (62, .slice jm l3.length jn), (63, .int .i64 (l3.length : Int)), (64, .int .i64 k), (82, .slice gw x.length gy), (83, .int .i64 (x.length : Int)), (84, .int .i64 k2)] ∧ AN K.w0.heap.size 3 1 (iE .i64) F1 dy dz eb fq bp ∧ AN K.w0.heap.size 3 1 (iE .i64) F1 dm dn dp dx bh) _ (m0 kr ⟨_, _, rfl, BO.start _, fa, fb, gk, gl, gm, cb, gn, cq, gp, cc, kt, rfl, rfl, (sc rfl (sc rfl (sc rfl (sc rfl (sc rfl (sc rfl (sc rfl (sc rfl (sc rfl (sc rfl (sc rfl z8))))))))))), gq, gr⟩) ?_
     rintro uw e1 _ _ ⟨ux, k2, fy, cy, fq, dx, dy, dz, eb, bp, dm, dn, dp, bh, fs, rfl, rfl, la, eg, eh⟩
     refine Az _ la (AM (uv (A7 rfl rfl) ?_))
     refine Aa (Ar ?_)
     refine cQ (fun ei => ?_) fun ei => ?_
     ·obtain ⟨x3, tl4, rfl, lg, lh, ga⟩ := BO.succ cy ei
      rw [C5] at fs
      refine Al (Ar ?_)
      refine Aq (AM ?_)
      obtain ⟨wg, wh, wi, uy, lj, lk, pn, rfl, uz, ll⟩ := AL.at (Ad _) gz ((ah, ce #[.int .i64 n2, .slice cp l2.length Jl] 45) :: ((af, ce #[.int .i64 n, .slice HU ao FG] 25) :: ((b2, ce #[.int .i64 AK, .int .i64 AF] 29) :: ((b1, ce #[.int .i64 wide, .slice Af Ac.length Ae] 25) :: (ad ++ (bp ++ (bh ++ (bg ++ [])))))))) lh.1 lg
      refine uv (AA underlying22 sizeOf3 rfl lj rfl lh) (uv (Ao isAgg3 rfl lk (ll 0 (by decide))) ?_)
      refine ua (Aa ?_)
      obtain ⟨ie, lq, ig⟩ := Aw fs
      refine AQ (fun e1 F1 L1 => ∃ (ej : Option Addr) (en : Nat) (eo : Nat) (cd : LH), jk = F1 ∧ L1 = ((ah, ce #[.int .i64 n2, .slice cp l2.length Jl] 45) :: ((af, ce #[.int .i64 n, .slice HU ao FG] 25) :: ((b2, ce #[.int .i64 AK, .int .i64 AF] 29) :: ((b1, ce #[.int .i64 wide, .slice Af Ac.length Ae] 25) :: (ad ++ (cd ++ (bh ++ (bg ++ [])))))))) ∧ e1.sub [(2, .int .i64 stand), (3, .int .i64 BQ), (4, .pointer (some ⟨b1, 0, none⟩)), (5, .pointer (some ⟨b2, 0, none⟩)), (9, .pointer (some ⟨af, 0, none⟩)), (10, .pointer (some ⟨ah, 0, none⟩)), (12, .int .i64 w), (13, .slice ej en eo), (14, .slice dm dn dp), (15, .slice dh di dk), (16, .int .i64 n5), (17, .int .i64 n6), (18, .int .i64 k), (21, .int .i64 x3), (62, .slice jm l3.length jn), (63, .int .i64 (l3.length : Int)), (64, .int .i64 k), (82, .slice gw x.length gy), (83, .int .i64 (x.length : Int)), (84, .int .i64 k2)] ∧ AN K.w0.heap.size 3 1 (iE .i64) F1 ej en eo ie cd) ?_ ?_
      ·clear ig
       refine AM (um (um ?_))
       refine uv (Bv rfl rfl) (Aa ?_)
       refine cQ (fun ij => ?_) fun ij => ?_
       ·have po := AO lq ij
        refine Ak (um (um ?_))
        refine bA (cs := #[.int .i64 k]) Br [.int .i64 k] ?_; intro wj va
        obtain ⟨pq, pr, pt, pv⟩ := E9 po
        refine DB (xs := fq) (ys := [k]) (zs := pq) rfl Br rfl rfl (Nat.le_refl _) (fun _ => .c (.c (.c (.c (.c (.s .h)))))) eg (GO.box (vss := [[.int .i64 k]]) (ys := [k]) 0 rfl (Ad _) (.cons rfl .nil) rfl rfl) pr pt (by decide) ?_; intro pw px py lr lu
        refine kO (kd kr) ?_
        refine ua (Aa ?_)
        obtain rfl := AH pv
        exact mi kr ⟨pw, px, py, lr, rfl, rfl, (sc rfl (sc rfl (sc rfl (sc rfl (sc rfl (sc rfl (sc rfl (sc rfl (sc rfl (sc rfl (sc rfl (sc rfl z8)))))))))))), lu⟩
       have pz := AP lq ij
       refine Al ?_
       obtain rfl := AH pz
       exact mi kr ⟨dy, dz, eb, bp, rfl, rfl, (sc rfl (sc rfl (sc rfl (sc rfl (sc rfl (sc rfl (sc rfl (sc rfl (sc rfl (sc rfl (sc rfl (sc rfl z8)))))))))))), eg⟩
      rintro e1 _ _ ⟨ej, en, eo, cd, rfl, rfl, lv, gb⟩
      refine Az _ lv ?_
      refine AM (um (um ?_))
      refine uv (Bv rfl rfl) (Aa ?_)
      refine cQ (fun ik => ?_) fun ik => ?_
      ·have q0 := AO ig ik
       refine Ak (um (um ?_))
       refine bA (cs := #[.int .i64 x3]) Br [.int .i64 x3] ?_; intro wo vb
       obtain ⟨lx, qb, qc, qd⟩ := E9 q0
       refine DB (xs := dx) (ys := [x3]) (zs := lx) rfl Br rfl rfl (Nat.le_refl _) (fun _ => .c (.c (.c (.c (.c (.s (.s .h))))))) eh (GO.box (vss := [[.int .i64 x3]]) (ys := [x3]) 0 rfl (Ad _) (.cons rfl .nil) rfl rfl) qb qc (by decide) ?_; intro qe qf qg ly lz
       refine kO (kd kr) ?_
       refine ua (Aa (Av (id := 3) (Ak ?_)))
       refine uv (A1 rfl rfl (BO.DZ cy ei (AL.lt gz))) ?_
       refine um (Aa ?_)
       subst fy; exact le kr ⟨_, _, rfl, ga, ie, lx, ej, en, eo, cd, qe, qf, qg, ly, qd, rfl, rfl, (sc rfl (sc rfl (sc rfl (sc rfl (sc rfl (sc rfl (sc rfl (sc rfl (sc rfl (sc rfl (sc rfl z8))))))))))), gb, lz⟩
      have qh := AP ig ik
      refine Al (Av (id := 3) (Ak ?_))
      refine uv (A1 rfl rfl (BO.DZ cy ei (AL.lt gz))) ?_
      refine um (Aa ?_)
      subst fy; exact le kr ⟨_, _, rfl, ga, ie, dx, ej, en, eo, cd, dm, dn, dp, bh, qh, rfl, rfl, (sc rfl (sc rfl (sc rfl (sc rfl (sc rfl (sc rfl (sc rfl (sc rfl (sc rfl (sc rfl (sc rfl z8))))))))))), gb, eh⟩
     obtain rfl := BO.zero cy ei
     rw [C5] at fs
     refine AR (Aj (Aj ?_))
     refine Ay (Av (id := 1) ?_)
     obtain ⟨rfl, rfl, rfl⟩ := Me fs
     exact mi kr ⟨dy, dz, eb, bp, dm, dn, dp, bh, dh, di, dk, bg, rfl, rfl, (sc rfl (sc rfl (sc rfl (sc rfl (sc rfl (sc rfl (sc rfl z8))))))), eg, eh, l0⟩
    rintro e1 _ _ ⟨fg, fh, fi, cv, fj, fk, fl, cw, fm, fo, fp, cx, rfl, rfl, ma, mb, mc, me⟩
    refine Az _ ma (Ak (uv (A1 rfl rfl (BO.DZ dv ff (AL.lt ui))) ?_))
    refine um (Aa ?_)
    subst jo; exact le kr ⟨_, _, rfl, jt, gu, gv, cr, fg, fh, fi, cv, fj, fk, fl, cw, fm, fo, fp, cx, ju, rfl, rfl, (sc rfl (sc rfl (sc rfl (sc rfl (sc rfl (sc rfl (sc rfl z8))))))), mb, mc, me⟩
   obtain rfl := BO.zero dv ff
   rw [DO] at fe
   refine AR (Aj (Aj ?_))
   refine Ay ?_
   obtain ⟨rfl, rfl, rfl, rfl, rfl, rfl⟩ := W9 fe
   exact mf kr ⟨cp, Jl, gk, gl, gm, cb, gn, cq, gp, cc, de, df, dg, av, (p0.trans jl), rfl, (sc rfl (sc rfl (sc rfl (sc rfl z8)))), jj, gq, gr, cu⟩
  have qi := AP ug oz
  refine Al ?_
  obtain rfl := (AN.Bm ba).1
  refine Ns (Nat.le_refl _) (Ad _) (fC (fC (fC (fC (fS fP))))) ba ?_; intro wq mg qj
  obtain ⟨rfl, rfl, rfl, rfl, rfl, rfl⟩ := W9 qi
  exact mf (kc (kc (kc (kc (ka (ke (ke (ke kr)))))))) ⟨cp, Jl, none, 0, 0, [], none, 0, 0, [], none, 0, 0, [], mg, rfl, (sc rfl (sc rfl (sc rfl (sc rfl z8)))), qj, AN.nil _ _ _ _ _, AN.nil _ _ _ _ _, AN.nil _ _ _ _ _⟩
 rintro e1 mh _ ⟨cj, cn, oj, oo, oq, ez, jd, je, jf, du, jg, jh, ji, bc, gg, rfl, mj, ey, qk, ql, cf⟩
 refine Az _ mj ?_
 replace aa := aa.mono (Ad _) gg
 replace ae := ae.mono (Ad _) gg
 obtain ⟨qn, ml, mn⟩ := Aw uh
 refine AQ (fun e1 F1 L1 => ∃ (ft : Option Addr) (fv : Nat) (fw : Nat) (aj : LH), mh = F1 ∧ L1 = ((ah, ce #[.int .i64 n2, .slice cj ab.length cn] 45) :: ((af, ce #[.int .i64 n, .slice HU ao FG] 25) :: ((b2, ce #[.int .i64 AK, .int .i64 AF] 29) :: ((b1, ce #[.int .i64 wide, .slice Af Ac.length Ae] 25) :: (ad ++ (aj ++ (du ++ (bc ++ [])))))))) ∧ e1.sub [(2, .int .i64 stand), (3, .int .i64 BQ), (4, .pointer (some ⟨b1, 0, none⟩)), (5, .pointer (some ⟨b2, 0, none⟩)), (9, .pointer (some ⟨af, 0, none⟩)), (10, .pointer (some ⟨ah, 0, none⟩)), (12, .int .i64 w), (13, .slice ft fv fw), (14, .slice jd je jf), (15, .slice jg jh ji), (16, .int .i64 u), (17, .int .i64 v)] ∧ AN K.w0.heap.size 3 1 (iE .i64) F1 ft fv fw qn aj) ?_ ?_
 ·clear mn
  refine AM (um ?_)
  refine uv (Bo rfl rfl) (Aa ?_)
  refine cQ (fun il => ?_) fun il => ?_
  ·have qo := AO ml il
   refine Ak (ua (Aa ?_))
   obtain rfl := AH qo
   exact mi (kc (kc (kc (kc (ka (ke (kx kr))))))) ⟨none, 0, 0, [], rfl, rfl, (sc rfl (sc rfl (sc rfl (sc rfl z8)))), AN.nil _ _ _ _ _⟩
  have qp := AP ml il
  refine Al ?_
  obtain rfl := AH qp
  exact mi kr ⟨oj, oo, oq, ez, rfl, rfl, (sc rfl (sc rfl (sc rfl (sc rfl z8)))), qk⟩
 rintro e1 _ _ ⟨ft, fv, fw, aj, rfl, rfl, mo, aw⟩
 refine Az _ mo ?_
 obtain ⟨qq, mq, mr⟩ := Aw mn
 refine AQ (fun e1 F1 L1 => ∃ (im : Option Addr) (iq : Nat) (ir : Nat) (aq : LH), mh = F1 ∧ L1 = ((ah, ce #[.int .i64 n2, .slice cj ab.length cn] 45) :: ((af, ce #[.int .i64 n, .slice HU ao FG] 25) :: ((b2, ce #[.int .i64 AK, .int .i64 AF] 29) :: ((b1, ce #[.int .i64 wide, .slice Af Ac.length Ae] 25) :: (ad ++ (aj ++ (aq ++ (bc ++ [])))))))) ∧ e1.sub [(2, .int .i64 stand), (3, .int .i64 BQ), (4, .pointer (some ⟨b1, 0, none⟩)), (5, .pointer (some ⟨b2, 0, none⟩)), (9, .pointer (some ⟨af, 0, none⟩)), (10, .pointer (some ⟨ah, 0, none⟩)), (12, .int .i64 w), (13, .slice ft fv fw), (14, .slice im iq ir), (15, .slice jg jh ji), (16, .int .i64 u), (17, .int .i64 v)] ∧ AN K.w0.heap.size 3 1 (iE .i64) F1 im iq ir qq aq) ?_ ?_
 ·clear mr
  refine AM (um ?_)
  refine uv (Bo rfl rfl) (Aa ?_)
  refine cQ (fun iu => ?_) fun iu => ?_
  ·have qs := AO mq iu
   refine Ak (ua (Aa ?_))
   obtain rfl := AH qs
   exact mi (kc (kc (kc (kc (ka (ka (ke (kx kr)))))))) ⟨none, 0, 0, [], rfl, rfl, (sc rfl (sc rfl (sc rfl (sc rfl z8)))), AN.nil _ _ _ _ _⟩
  have qt := AP mq iu
  refine Al ?_
  obtain rfl := AH qt
  exact mi kr ⟨jd, je, jf, du, rfl, rfl, (sc rfl (sc rfl (sc rfl (sc rfl z8)))), ql⟩
 rintro e1 _ _ ⟨im, iq, ir, aq, rfl, rfl, mv, ax⟩
 refine Az _ mv (AM (uv (As isAgg25 sizeOf25 rfl (Has.own 1 rfl) (Be rfl) rfl) (uv (As isAgg29 sizeOf29 rfl (Has.own 2 rfl) (Be rfl) rfl) (um ?_))))
 obtain ⟨l4, n7, qu, qw⟩ := Bs mr
 refine Dh (Lb := []) (Lt := ad ++ []) (Lr := (ah, ce #[.int .i64 n2, .slice cj ab.length cn] 45) :: ((af, ce #[.int .i64 n, .slice HU ao FG] 25) :: ((b2, ce #[.int .i64 AK, .int .i64 AF] 29) :: ((b1, ce #[.int .i64 wide, .slice Af Ac.length Ae] 25) :: (aj ++ (aq ++ (bc ++ []))))))) rfl call36 rfl rfl rfl (pT ((fC (fC (fC (fC fP)))).trans (pA pR)) (ln (lp (ln rfl)))) (fun F2 h2 h3 => by rw [(AN.Bm ae).1]; exact PF (ae.row (Ad _) h2 (fun p hp => h3 p (List.mem_append_left _ hp))) qu) (fun _ _ _ _ hq => by obtain ⟨qx, qy, qz, bq, rfl, rfl, ak⟩ := hq; exact ⟨_, _, _, _, rfl, rfl, ak.flat (fun _ _ h => h)⟩) ?_; rintro _ wu _ br mw mx ⟨qx, qy, qz, bq, rfl, rfl, ak⟩
 replace aa := aa.mono (Ad _) br
 replace ey := ey.mono (Ad _) br
 replace ae := ae.mono (Ad _) br
 replace aw := aw.mono (Ad _) br
 replace ax := ax.mono (Ad _) br
 replace cf := cf.mono (Ad _) br
 have my := J1 (Lb' := []) (by rfl) mw mx
 replace ak := ak.new fun p hp => my p (by simp [hp])
 refine AJ (lp (ln (lp (ln rfl)))) (kO (kf (fS (fS fO)) (kf (fS (fS fO)) (kf (fS (fS fO)) (kf (fS (fS fO)) kr)))) ?_)
 refine um (ox rfl rfl rfl (ox rfl rfl rfl (ua (ua (BX ?_)))))
 refine uv (As isAgg25 sizeOf25 rfl (Has.own 1 rfl) (Be rfl) rfl) (uv (As isAgg29 sizeOf29 rfl (Has.own 2 rfl) (Be rfl) rfl) (um ?_))
 obtain ⟨l5, n8, r0, re⟩ := Bs qw
 refine Dh (Lb := []) (Lt := ad ++ []) (Lr := (ah, ce #[.int .i64 n2, .slice cj ab.length cn] 45) :: ((af, ce #[.int .i64 n, .slice HU ao FG] 25) :: ((b2, ce #[.int .i64 AK, .int .i64 AF] 29) :: ((b1, ce #[.int .i64 wide, .slice Af Ac.length Ae] 25) :: (bq ++ (aj ++ (aq ++ (bc ++ [])))))))) rfl call37 rfl rfl rfl (pT ((fC (fC (fC (fC (fS fP))))).trans (pA pR)) (ln (lp (ln rfl)))) (fun F2 h2 h3 => by rw [(AN.Bm ae).1]; exact Px (ae.row (Ad _) h2 (fun p hp => h3 p (List.mem_append_left _ hp))) r0) (fun _ _ _ _ hq => by obtain ⟨rf, rh, ri, cg, rfl, rfl, ay⟩ := hq; exact ⟨_, _, _, _, rfl, rfl, ay.flat (fun _ _ h => h)⟩) ?_; rintro _ wx _ bj mz na ⟨rf, rh, ri, cg, rfl, rfl, ay⟩
 replace aa := aa.mono (Ad _) bj
 replace ey := ey.mono (Ad _) bj
 replace ae := ae.mono (Ad _) bj
 replace aw := aw.mono (Ad _) bj
 replace ax := ax.mono (Ad _) bj
 replace cf := cf.mono (Ad _) bj
 replace ak := ak.mono (Ad _) bj
 have nc := J1 (Lb' := []) (by rfl) mz na
 replace ay := ay.new fun p hp => nc p (by simp [hp])
 refine AJ (lp (ln (lp (ln rfl)))) (kO (kf (fS (fS fO)) (kf (fS (fS fO)) (kf (fS (fS fO)) (kf (fS (fS fO)) kr)))) ?_)
 refine um (ox rfl rfl rfl (ox rfl rfl rfl (ua (ua (BX ?_)))))
 refine uv (As isAgg25 sizeOf25 rfl (Has.own 1 rfl) (Be rfl) rfl) (uv (As isAgg29 sizeOf29 rfl (Has.own 2 rfl) (Be rfl) rfl) ?_)
 obtain ⟨l6, n9, rj, rk⟩ := Bs re
 refine Dh (Lb := []) (Lt := ad ++ []) (Lr := (ah, ce #[.int .i64 n2, .slice cj ab.length cn] 45) :: ((af, ce #[.int .i64 n, .slice HU ao FG] 25) :: ((b2, ce #[.int .i64 AK, .int .i64 AF] 29) :: ((b1, ce #[.int .i64 wide, .slice Af Ac.length Ae] 25) :: (cg ++ (bq ++ (aj ++ (aq ++ (bc ++ []))))))))) rfl call38 rfl rfl rfl (pT ((fC (fC (fC (fC (fS fP))))).trans (pA pR)) (ln (lp (ln rfl)))) (fun F2 h2 h3 => by rw [(AN.Bm ae).1]; exact Rq (ae.row (Ad _) h2 (fun p hp => h3 p (List.mem_append_left _ hp))) rj) (fun _ _ _ _ hq => by obtain ⟨rl, rm, rp, cz, rfl, rfl, bu⟩ := hq; exact ⟨_, _, _, _, rfl, rfl, bu.flat (fun _ _ h => h)⟩) ?_; rintro _ nf _ az ng nh ⟨rl, rm, rp, cz, rfl, rfl, bu⟩
 replace aa := aa.mono (Ad _) az
 replace ey := ey.mono (Ad _) az
 replace ae := ae.mono (Ad _) az
 replace aw := aw.mono (Ad _) az
 replace ax := ax.mono (Ad _) az
 replace cf := cf.mono (Ad _) az
 replace ak := ak.mono (Ad _) az
 replace ay := ay.mono (Ad _) az
 have ni := J1 (Lb' := []) (by rfl) ng nh
 replace bu := bu.new fun p hp => ni p (by simp [hp])
 refine AJ (lp (ln (lp (ln rfl)))) (kO (kf (fS (fS fO)) (kf (fS (fS fO)) (kf (fS (fS fO)) (kf (fS (fS fO)) kr)))) ?_)
 refine um (ox rfl rfl rfl (ox rfl rfl rfl (ua (ua (Aa (Ar ?_))))))
 obtain ⟨k3, nj, iv⟩ := Aw rk
 refine jE (((ah, ce #[.int .i64 n2, .slice cj ab.length cn] 45) :: ((af, ce #[.int .i64 n, .slice HU ao FG] 25) :: ((b2, ce #[.int .i64 AK, .int .i64 AF] 29) :: ((b1, ce #[.int .i64 wide, .slice Af Ac.length Ae] 25) :: (ad ++ [])))))) [(2, .int .i64 stand), (3, .int .i64 BQ), (4, .pointer (some ⟨b1, 0, none⟩)), (5, .pointer (some ⟨b2, 0, none⟩)), (9, .pointer (some ⟨af, 0, none⟩)), (10, .pointer (some ⟨ah, 0, none⟩)), (158, .bool k3)] ?_ ?_
 ·clear iv
  refine Ak (um (um ?_))
  refine uv (Bo rfl rfl) (um ?_)
  by_cases bm : n7 ≠ u
  ·have rq := AO nj bm
   refine fT bm (fT bm (fT bm ?_))
   refine uv (Au (A5 rfl bm) rfl) ?_
   refine um (Ai (b' := true) 136 rfl rfl rfl rfl (Ai (b' := true) 136 rfl rfl rfl rfl (Ai (b' := true) 136 rfl rfl rfl rfl ?_)))
   refine uv (Au rfl rfl) ?_
   refine um (Ai (b' := true) 141 rfl rfl rfl rfl (Ai (b' := true) 141 rfl rfl rfl rfl (Ai (b' := true) 141 rfl rfl rfl rfl (Ai (b' := true) 141 rfl rfl rfl rfl ?_))))
   refine uv (Au rfl rfl) ?_
   refine um (Ai (b' := true) 147 rfl rfl rfl rfl (Ai (b' := true) 147 rfl rfl rfl rfl (Ai (b' := true) 147 rfl rfl rfl rfl (Ai (b' := true) 147 rfl rfl rfl rfl ?_))))
   refine uv (Au rfl rfl) ?_
   refine um (Ai (b' := true) 153 rfl rfl rfl rfl (Ai (b' := true) 153 rfl rfl rfl rfl (Ai (b' := true) 153 rfl rfl rfl rfl (Ai (b' := true) 153 rfl rfl rfl rfl ?_))))
   refine uv (Au rfl rfl) (Aa ?_)
   obtain rfl := AH rq
   exact mi (kc (kc (kc (kc (kx (ka kn)))))) ⟨rfl, rfl, z7⟩
  have nk := AP nj bm
  refine nF bm (um (nF bm (um (nF bm ?_))))
  refine uv (Bo rfl rfl) (uv (At (AZ rfl bm) rfl) (um ?_))
  by_cases bn : n8 ≠ v
  ·have rr := AO nk bn
   refine fT bn (fT bn (fT bn ?_))
   refine uv (Au (A5 rfl bn) rfl) ?_
   refine um (Ai (b' := true) 141 rfl rfl rfl rfl (Ai (b' := true) 141 rfl rfl rfl rfl (Ai (b' := true) 141 rfl rfl rfl rfl (Ai (b' := true) 141 rfl rfl rfl rfl ?_))))
   refine uv (Au rfl rfl) ?_
   refine um (Ai (b' := true) 147 rfl rfl rfl rfl (Ai (b' := true) 147 rfl rfl rfl rfl (Ai (b' := true) 147 rfl rfl rfl rfl (Ai (b' := true) 147 rfl rfl rfl rfl ?_))))
   refine uv (Au rfl rfl) ?_
   refine um (Ai (b' := true) 153 rfl rfl rfl rfl (Ai (b' := true) 153 rfl rfl rfl rfl (Ai (b' := true) 153 rfl rfl rfl rfl (Ai (b' := true) 153 rfl rfl rfl rfl ?_))))
   refine uv (Au rfl rfl) (Aa ?_)
   obtain rfl := AH rr
   exact mi (kc (kc (kc (kc (kx (ka kn)))))) ⟨rfl, rfl, z7⟩
  have nn := AP nk bn
  refine nF bn (um (nF bn (um (nF bn ?_))))
  refine uv (Bo rfl rfl) (uv (At (AZ rfl bn) rfl) (um ?_))
  by_cases bb : n9 ≠ w
  ·have ru := AO nn bb
   refine fT bb (fT bb (fT bb (fT bb ?_)))
   refine uv (Au (A5 rfl bb) rfl) ?_
   refine um (Ai (b' := true) 147 rfl rfl rfl rfl (Ai (b' := true) 147 rfl rfl rfl rfl (Ai (b' := true) 147 rfl rfl rfl rfl (Ai (b' := true) 147 rfl rfl rfl rfl ?_))))
   refine uv (Au rfl rfl) ?_
   refine um (Ai (b' := true) 153 rfl rfl rfl rfl (Ai (b' := true) 153 rfl rfl rfl rfl (Ai (b' := true) 153 rfl rfl rfl rfl (Ai (b' := true) 153 rfl rfl rfl rfl ?_))))
   refine uv (Au rfl rfl) (Aa ?_)
   obtain rfl := AH ru
   exact mi (kc (kc (kc (kc (kx (ka kn)))))) ⟨rfl, rfl, z7⟩
  have ry := AP nn bb
  refine nF bb (um (nF bb (um (nF bb ?_))))
  obtain ⟨wy, rz, np⟩ := Aw ry
  refine Bi (Lt := bq ++ (aj ++ [])) (Lr := (ah, ce #[.int .i64 n2, .slice cj ab.length cn] 45) :: ((af, ce #[.int .i64 n, .slice HU ao FG] 25) :: ((b2, ce #[.int .i64 AK, .int .i64 AF] 29) :: ((b1, ce #[.int .i64 wide, .slice Af Ac.length Ae] 25) :: (cz ++ (ad ++ (cg ++ (aq ++ (bc ++ []))))))))) rfl call22 rfl rfl rfl (pT ((fC (fC (fC (fC (fS (fS (fS fP))))))).trans (pA ((fC (fC (fC (fC (fS (fS (fS fP))))))).trans (pA pR)))) (lp (lp (ln rfl)))) (fun F2 h2 h3 => by rw [(AN.Bm ak).1]; rw [(AN.Bm aw).1]; exact Bq (ak.row (Ad _) h2 (fun p hp => h3 p (List.mem_append_left _ hp))) (aw.row (Ad _) h2 (fun p hp => h3 p (List.mem_append_right _ (List.mem_append_left _ hp)))) rz) ?_
  refine nF bb (uv (Cf rfl) (uv (At (AZ rfl bb) rfl) (um ?_)))
  rcases Bf (!wy) with ar | ar
  ·have s5 := bt np ar
   refine fB ar (fB ar (fB ar (fB ar ?_)))
   refine uv (Au (Es rfl ar) rfl) ?_
   refine um (Ai (b' := true) 153 rfl rfl rfl rfl (Ai (b' := true) 153 rfl rfl rfl rfl (Ai (b' := true) 153 rfl rfl rfl rfl (Ai (b' := true) 153 rfl rfl rfl rfl ?_))))
   refine uv (Au rfl rfl) (Aa ?_)
   obtain rfl := AH s5
   exact mi (kc (kc (kc (kc (kx (ka kn)))))) ⟨rfl, rfl, z7⟩
  have s6 := bf np ar
  refine nB ar (um (nB ar (um (nB ar ?_))))
  obtain ⟨wz, s7, nq⟩ := Aw s6
  refine Bi (Lt := cg ++ (aq ++ [])) (Lr := (ah, ce #[.int .i64 n2, .slice cj ab.length cn] 45) :: ((af, ce #[.int .i64 n, .slice HU ao FG] 25) :: ((b2, ce #[.int .i64 AK, .int .i64 AF] 29) :: ((b1, ce #[.int .i64 wide, .slice Af Ac.length Ae] 25) :: (cz ++ (ad ++ (bq ++ (aj ++ (bc ++ []))))))))) rfl call22 rfl rfl rfl (pT ((fC (fC (fC (fC (fS (fS fP)))))).trans (pA ((fC (fC (fC (fC (fS (fS (fS (fS fP)))))))).trans (pA pR)))) (lp (lp (ln rfl)))) (fun F2 h2 h3 => by rw [(AN.Bm ay).1]; rw [(AN.Bm ax).1]; exact Bq (ay.row (Ad _) h2 (fun p hp => h3 p (List.mem_append_left _ hp))) (ax.row (Ad _) h2 (fun p hp => h3 p (List.mem_append_right _ (List.mem_append_left _ hp)))) s7) ?_
  refine nB ar (uv (Cf rfl) (uv (At (Es rfl ar) rfl) (um ?_)))
  rcases Bf (!wz) with au | au
  ·have s8 := bt nq au
   refine fB au (fB au (fB au (fB au ?_)))
   refine uv (Au (Es rfl au) rfl) (Aa ?_)
   obtain rfl := AH s8
   exact mi (kc (kc (kc (kc (kx (ka kn)))))) ⟨rfl, rfl, z7⟩
  have s9 := bf nq au
  refine nB au (um (nB au (um (nB au ?_))))
  obtain ⟨ok5, sa, sb⟩ := Aw s9
  refine Bi (Lt := cz ++ (bc ++ [])) (Lr := (ah, ce #[.int .i64 n2, .slice cj ab.length cn] 45) :: ((af, ce #[.int .i64 n, .slice HU ao FG] 25) :: ((b2, ce #[.int .i64 AK, .int .i64 AF] 29) :: ((b1, ce #[.int .i64 wide, .slice Af Ac.length Ae] 25) :: (ad ++ (cg ++ (bq ++ (aj ++ (aq ++ []))))))))) rfl call22 rfl rfl rfl (pT ((fC (fC (fC (fC fP)))).trans (pA ((fC (fC (fC (fC (fS (fS (fS (fS (fS fP))))))))).trans (pA pR)))) (lp (lp (ln rfl)))) (fun F2 h2 h3 => by rw [(AN.Bm bu).1]; rw [(AN.Bm cf).1]; exact Bq (bu.row (Ad _) h2 (fun p hp => h3 p (List.mem_append_left _ hp))) (cf.row (Ad _) h2 (fun p hp => h3 p (List.mem_append_right _ (List.mem_append_left _ hp)))) sa) ?_
  refine nB au (uv (Cf rfl) (uv (At (Es rfl au) rfl) (Aa ?_)))
  obtain rfl := AH sb
  exact mi (kc (kc (kc (kc (kx (ka kn)))))) ⟨rfl, rfl, z7⟩
 refine AU rfl (fun iw => ?_) (fun iw => ?_)
 ·have se := bt iv iw
  refine AM (ua (Aa ?_))
  refine kW kn ?_
  refine Ap (Ah ?_)
  refine B2 results8 ?_
  obtain rfl := AH se
  exact rfl
 have sf := bf iv iw
 refine Al ?_
 obtain ⟨w2, sg, nr⟩ := Aw sf
 refine jE (((ah, ce #[.int .i64 n2, .slice cj ab.length cn] 45) :: ((af, ce #[.int .i64 n, .slice HU ao FG] 25) :: ((b2, ce #[.int .i64 AK, .int .i64 AF] 29) :: ((b1, ce #[.int .i64 wide, .slice Af Ac.length Ae] 25) :: (ad ++ [])))))) [(2, .int .i64 stand), (3, .int .i64 BQ), (4, .pointer (some ⟨b1, 0, none⟩)), (5, .pointer (some ⟨b2, 0, none⟩)), (9, .pointer (some ⟨af, 0, none⟩)), (10, .pointer (some ⟨ah, 0, none⟩)), (12, .int .i64 w2)] ?_ ?_
 ·clear nr
  refine AM (uv (As isAgg45 sizeOf45 rfl (Has.own 0 rfl) (Be rfl) rfl) ?_)
  obtain ⟨n10, sh, ns⟩ := Aw sg
  refine cV call17 (D4 ey sh) ?_
  refine ua (BX (um ?_))
  refine uv (Bv rfl rfl) (Aa ?_)
  refine cQ (fun iy => ?_) fun iy => ?_
  ·have si := AO ns iy
   refine Ak (uv (Am GW rfl) (uv (Ao isAgg3 rfl (Has.own 2 rfl) rfl) ?_))
   obtain ⟨n11, sj, sk⟩ := Aw si
   refine cV call19 (FZ sj) ?_
   refine ua (Aa ?_)
   obtain rfl := AH sk
   exact mi kr ⟨rfl, rfl, z7⟩
  have ss := AP ns iy
  refine Al ?_
  obtain rfl := AH ss
  exact mi kr ⟨rfl, rfl, z7⟩
 obtain ⟨w3, nt, nu⟩ := Aw nr
 refine jE (((ah, ce #[.int .i64 n2, .slice cj ab.length cn] 45) :: ((af, ce #[.int .i64 n, .slice HU ao FG] 25) :: ((b2, ce #[.int .i64 AK, .int .i64 AF] 29) :: ((b1, ce #[.int .i64 wide, .slice Af Ac.length Ae] 25) :: (ad ++ [])))))) [(2, .int .i64 stand), (3, .int .i64 BQ), (4, .pointer (some ⟨b1, 0, none⟩)), (5, .pointer (some ⟨b2, 0, none⟩)), (9, .pointer (some ⟨af, 0, none⟩)), (10, .pointer (some ⟨ah, 0, none⟩)), (12, .int .i64 w3)] ?_ ?_
 ·clear nu
  refine AM (um ?_)
  refine uv (Bv rfl rfl) (Aa ?_)
  refine cQ (fun iz => ?_) fun iz => ?_
  ·have su := AO nt iz
   refine AM (uv (As isAgg45 sizeOf45 rfl (Has.own 0 rfl) (Be rfl) rfl) (um ?_))
   obtain ⟨n12, sv, nv⟩ := Aw su
   refine cV call34 (Ey ey sv) ?_
   refine ua (BX (um ?_))
   refine uv (Bv rfl rfl) (Aa ?_)
   refine cQ (fun j0 => ?_) fun j0 => ?_
   ·have sw := AO nv j0
    refine Ak (uv (As isAgg45 sizeOf45 rfl (Has.own 0 rfl) (Be rfl) rfl) (um ?_))
    obtain ⟨n13, sx, ta⟩ := Aw sw
    refine cV call34 (Ey ey sx) ?_
    refine ua (Aa ?_)
    obtain rfl := AH ta
    exact mi kr ⟨rfl, rfl, z7⟩
   have tc := AP nv j0
   refine Al ?_
   obtain rfl := AH tc
   exact mi kr ⟨rfl, rfl, z7⟩
  have td := AP nt iz
  refine Al ?_
  obtain rfl := AH td
  exact mi kr ⟨rfl, rfl, z7⟩
 refine AM (ua (Aa ?_))
 obtain ⟨gh, te, nw⟩ := Aw nu
 refine AQ (fun e1 F1 L1 => ∃ (j4 : Option Addr) (j5 : Nat) (j6 : Nat) (bw : LH), nf = F1 ∧ L1 = ((af, ce #[.int .i64 n, .slice HU ao FG] 25) :: ((b2, ce #[.int .i64 AK, .int .i64 AF] 29) :: ((b1, ce #[.int .i64 wide, .slice Af Ac.length Ae] 25) :: (ad ++ (bw ++ []))))) ∧ e1.sub [(2, .int .i64 stand), (3, .int .i64 BQ), (4, .pointer (some ⟨b1, 0, none⟩)), (5, .pointer (some ⟨b2, 0, none⟩)), (9, .pointer (some ⟨af, 0, none⟩)), (12, .int .i64 w3), (28, .slice j4 j5 j6)] ∧ AN K.w0.heap.size 27 1 (iE .i64) F1 j4 j5 j6 gh bw) ?_ ?_
 ·clear nw
  refine AM (um (Aa ?_))
  refine Aq ?_
  obtain ⟨ny, tf⟩ := AW te
  refine A9 (fun ot e1 F1 L1 => ∃ (k4 : Int), DD 0 5 k4 ot ∧ ∃ (bk : List Int) (dq : Option Addr) (dr : Nat) (dt : Nat) (bx : LH), C6 AF stand BQ n2 ab w3 ot k4 bk = some gh ∧ nf = F1 ∧ L1 = ((ah, ce #[.int .i64 n2, .slice cj ab.length cn] 45) :: ((af, ce #[.int .i64 n, .slice HU ao FG] 25) :: ((b2, ce #[.int .i64 AK, .int .i64 AF] 29) :: ((b1, ce #[.int .i64 wide, .slice Af Ac.length Ae] 25) :: (ad ++ (bx ++ [])))))) ∧ e1.sub [(2, .int .i64 stand), (3, .int .i64 BQ), (4, .pointer (some ⟨b1, 0, none⟩)), (5, .pointer (some ⟨b2, 0, none⟩)), (9, .pointer (some ⟨af, 0, none⟩)), (10, .pointer (some ⟨ah, 0, none⟩)), (12, .int .i64 w3), (28, .slice dq dr dt), (176, .int .i64 k4)] ∧ AN K.w0.heap.size 27 1 (iE .i64) F1 dq dr dt bk bx) _ (m0 (kc (kc (kc (kc (ka (ke kr)))))) ⟨_, DD.start _ _, [], none, 0, 0, [], tf, rfl, rfl, (sc rfl z8), AN.nil _ _ _ _ _⟩) ?_
  rintro ot e1 _ _ ⟨k4, da, bk, dq, dr, dt, bx, fx, rfl, rfl, nz, ep⟩
  refine Az _ nz (AM (uv (A7 rfl rfl) ?_))
  refine Aa (Ar ?_)
  refine cQ (fun er => ?_) fun er => ?_
  ·obtain ⟨ot, rfl, gi⟩ := DD.succ da er
   rw [C6] at fx
   refine Al (Ar ?_)
   refine Aq ?_
   refine AM (um (ua (Aa ?_)))
   obtain ⟨k5, o0, j7⟩ := Aw fx
   refine jE (((ah, ce #[.int .i64 n2, .slice cj ab.length cn] 45) :: ((af, ce #[.int .i64 n, .slice HU ao FG] 25) :: ((b2, ce #[.int .i64 AK, .int .i64 AF] 29) :: ((b1, ce #[.int .i64 wide, .slice Af Ac.length Ae] 25) :: (ad ++ (bx ++ []))))))) [(2, .int .i64 stand), (3, .int .i64 BQ), (4, .pointer (some ⟨b1, 0, none⟩)), (5, .pointer (some ⟨b2, 0, none⟩)), (9, .pointer (some ⟨af, 0, none⟩)), (10, .pointer (some ⟨ah, 0, none⟩)), (12, .int .i64 w3), (28, .slice dq dr dt), (29, .int .i64 k4), (176, .int .i64 k4), (189, .bool k5)] ?_ ?_
   ·clear j7
    refine Ak (um ?_)
    refine uv (Bv rfl rfl) (um ?_)
    by_cases ai : w3 = 0
    ·have tg := AO o0 ai
     refine nT ai (uv (As isAgg45 sizeOf45 rfl (Has.own 0 rfl) (Be rfl) rfl) ?_)
     refine nT ai (um (nT ai ?_))
     refine uv (Am GW rfl) (nT ai (uv (Ao isAgg3 rfl (Has.own 2 rfl) rfl) ?_))
     refine nT ai (um (nT ai (um (nT ai ?_))))
     obtain ⟨ok6, th, r400⟩ := Aw tg
     refine cV call39 (Nl ey th) (uv (Au (A5 rfl ai) rfl) (Aa ?_))
     obtain rfl := AH r400
     exact mi kr ⟨rfl, rfl, (sc rfl (sc rfl (sc rfl z8)))⟩
    have ti := AP o0 ai
    refine fF ai (fF ai (fF ai (fF ai (fF ai (fF ai (fF ai ?_))))))
    refine uv (At (AZ rfl ai) rfl) (Aa ?_)
    obtain rfl := AH ti
    exact mi kr ⟨rfl, rfl, (sc rfl (sc rfl (sc rfl z8)))⟩
   refine AU rfl (fun j8 => ?_) (fun j8 => ?_)
   ·have tj := bt j7 j8
    refine Ak (um (um ?_))
    refine bA (cs := #[.int .i64 k4]) QX [.int .i64 k4] ?_; intro xa vc
    obtain ⟨et, tk, tm, r408⟩ := E9 tj
    refine DB (xs := bk) (ys := [k4]) (zs := et) rfl QX rfl rfl (Nat.le_refl _) (fun _ => .c (.c (.c (.c (.c (.s .h)))))) ep (GO.box (vss := [[.int .i64 k4]]) (ys := [k4]) 0 rfl (Ad _) (.cons rfl .nil) rfl rfl) tk tm (by decide) ?_; intro tn tq tr o7 o8
    refine kO (kd kr) ?_
    refine ua (Aa (Av (id := 5) (Ak ?_)))
    refine uv (A1 rfl rfl (DD.DZ da er ny)) ?_
    refine um (Aa ?_)
    exact le kr ⟨_, gi, et, tn, tq, tr, o7, r408, rfl, rfl, (sc rfl z8), o8⟩
   have tt := bf j7 j8
   refine Al (Av (id := 5) (Ak ?_))
   refine uv (A1 rfl rfl (DD.DZ da er ny)) ?_
   refine um (Aa ?_)
   exact le kr ⟨_, gi, bk, dq, dr, dt, bx, tt, rfl, rfl, (sc rfl z8), ep⟩
  obtain rfl := DD.zero da er
  rw [C6] at fx
  refine AR (Aj (Aj ?_))
  refine Ay ?_
  obtain rfl := AH fx
  exact mi (kd kr) ⟨dq, dr, dt, bx, rfl, rfl, z7, ep⟩
 rintro e1 _ _ ⟨j4, j5, j6, bw, rfl, rfl, o9, db⟩
 refine Az _ o9 (AM (uv (As isAgg25 sizeOf25 rfl (Has.own 0 rfl) (Be rfl) rfl) (uv (Am GW rfl) (uv (Ao isAgg3 rfl (Has.own 1 rfl) rfl) ?_))))
 refine um (um ?_)
 obtain ⟨l7, n14, tu, oc⟩ := Bs nw
 refine Dh (Lb := []) (Lt := ad ++ []) (Lr := (af, ce #[.int .i64 n, .slice HU ao FG] 25) :: ((b2, ce #[.int .i64 AK, .int .i64 AF] 29) :: ((b1, ce #[.int .i64 wide, .slice Af Ac.length Ae] 25) :: (bw ++ [])))) rfl call40 rfl rfl rfl (pT ((fC (fC (fC fP))).trans (pA pR)) (ln (lp (ln rfl)))) (fun F2 h2 h3 => by rw [(AN.Bm ae).1]; exact QL (ae.row (Ad _) h2 (fun p hp => h3 p (List.mem_append_left _ hp))) tu) (fun _ _ _ _ hq => by obtain ⟨tv, tw, tx, eu, rfl, rfl, bz⟩ := hq; exact ⟨_, _, _, _, rfl, rfl, bz.flat (fun _ _ h => h)⟩) ?_; rintro _ F419 _ ew od oe ⟨tv, tw, tx, eu, rfl, rfl, bz⟩
 replace aa := aa.mono (Ad _) ew
 replace ae := ae.mono (Ad _) ew
 replace db := db.mono (Ad _) ew
 have og := J1 (Lb' := []) (by rfl) od oe
 replace bz := bz.new fun p hp => og p (by simp [hp])
 refine AJ (lp (ln (lp (ln rfl)))) (kO (kf (fS (fS fO)) (kf (fS (fS fO)) (kf (fS (fS fO)) kr))) ?_)
 refine um (ox rfl rfl rfl (ox rfl rfl rfl (ua (ua (BX (um (um ?_)))))))
 refine uv (Bv rfl rfl) (um ?_)
 by_cases bo : n14 = w3
 ·have r431 := AO oc bo
  refine nT bo (um (nT bo (um (nT bo ?_))))
  obtain ⟨ok7, tz, oh⟩ := Aw r431
  refine Bi (Lt := eu ++ (bw ++ [])) (Lr := (af, ce #[.int .i64 n, .slice HU ao FG] 25) :: ((b2, ce #[.int .i64 AK, .int .i64 AF] 29) :: ((b1, ce #[.int .i64 wide, .slice Af Ac.length Ae] 25) :: (ad ++ [])))) rfl call41 rfl rfl rfl (pT ((fC (fC (fC fP))).trans (pA ((fC (fC (fC (fS fP)))).trans (pA pR)))) (lp (lp (ln rfl)))) (fun F2 h2 h3 => by rw [(AN.Bm bz).1]; rw [(AN.Bm db).1]; exact MA (bz.row (Ad _) h2 (fun p hp => h3 p (List.mem_append_left _ hp))) (db.row (Ad _) h2 (fun p hp => h3 p (List.mem_append_right _ (List.mem_append_left _ hp)))) tz) ?_
  refine uv (Au (A5 rfl bo) rfl) (um ?_)
  rcases Bf ok7 with bl | bl
  ·have u0 := bt oh bl
   refine nB bl (uv (As isAgg25 sizeOf25 rfl (Has.own 0 rfl) (Be rfl) rfl) (nB bl (uv (As isAgg25 sizeOf25 rfl (Has.own 2 rfl) (Be rfl) rfl) (nB bl ?_))))
   obtain ⟨ok8, u3, oi⟩ := Aw u0
   refine Bi (Lt := ad ++ []) (Lr := (af, ce #[.int .i64 n, .slice HU ao FG] 25) :: ((b2, ce #[.int .i64 AK, .int .i64 AF] 29) :: ((b1, ce #[.int .i64 wide, .slice Af Ac.length Ae] 25) :: (eu ++ (bw ++ []))))) rfl call23 rfl rfl rfl (pT ((fC (fC (fC (fS fP)))).trans (pA pR)) (lp (ln rfl))) (fun F2 h2 h3 => by rw [(AN.Bm ae).1]; exact Fg (ae.row (Ad _) h2 (fun p hp => h3 p (List.mem_append_left _ hp))) (aa.mono (Ad _) h2) u3) ?_
   refine uv (Au (Es rfl bl) rfl) (um ?_)
   rcases Bf ok8 with ct | ct
   ·have u4 := bt oi ct
    refine nB ct ?_
    obtain ⟨ok9, u5, u6⟩ := Aw u4
    refine cV call13 (BR u5) (uv (Au (Es rfl ct) rfl) ?_)
    refine ua (Aa ?_)
    refine kW kn (Ap (B2 results8 ?_))
    obtain rfl := AH u6
    exact rfl
   have u7 := bf oi ct
   refine fB ct (uv (At (Es rfl ct) rfl) ?_)
   refine ua (Aa ?_)
   refine kW kn (Ap (B2 results8 ?_))
   obtain rfl := AH u7
   exact rfl
  have u9 := bf oh bl
  refine fB bl (fB bl (fB bl ?_))
  refine uv (At (Es rfl bl) rfl) ?_
  refine um (Ai (b' := false) 217 rfl rfl rfl rfl ?_)
  refine uv (At rfl rfl) ?_
  refine ua (Aa ?_)
  refine kW kn (Ap (B2 results8 ?_))
  obtain rfl := AH u9
  exact rfl
 have ub := AP oc bo
 refine fF bo (fF bo (fF bo ?_))
 refine uv (At (AZ rfl bo) rfl) ?_
 refine um (Ai (b' := false) 212 rfl rfl rfl rfl (Ai (b' := false) 212 rfl rfl rfl rfl (Ai (b' := false) 212 rfl rfl rfl rfl ?_)))
 refine uv (At rfl rfl) ?_
 refine um (Ai (b' := false) 217 rfl rfl rfl rfl ?_)
 refine uv (At rfl rfl) ?_
 refine ua (Aa ?_)
 refine kW kn (Ap (B2 results8 ?_))
 obtain rfl := AH ub
 exact rfl
set_option maxHeartbeats 1000000 in
theorem KR {most : Int} (aa : AL 1 (iE .i64) F Af Ae Ac) {r : Bool} (hr : Gv wide Ac most = some r) :
    Bz Tryz.prog 42 #[.agg #[.int .i64 wide, .slice Af Ac.length Ae], .int .i64 most] F (.bool r) := by
 refine sp func42 ntmps42 fun K _ _ => ?_
 rw [Gv] at hr
 refine AM ?_
 refine Bu rfl rfl ?_; intro b1 bm
 refine ua (BX (ua (Aa ?_)))
 obtain ⟨n, h2, r3⟩ := Aw hr
 refine jE ([(b1, ce #[.int .i64 wide, .slice Af Ac.length Ae] 25)]) [(1, .int .i64 most), (2, .pointer (some ⟨b1, 0, none⟩)), (5, .int .i64 n)] ?_ ?_
 ·clear r3
  refine AM (uv (Am BN rfl) (uv (Ao isAgg23 rfl (Has.own 0 rfl) rfl) (uv (AX underlying23 rfl) ?_)))
  refine um (Aa ?_)
  refine Aq ?_
  refine A9 (fun ao e1 F1 L1 => LA Ac ao fun tl k => ∃ (n2 : Int), B3 tl n2 = some n ∧ F = F1 ∧ L1 = [(b1, ce #[.int .i64 wide, .slice Af Ac.length Ae] 25)] ∧ e1.sub [(1, .int .i64 most), (2, .pointer (some ⟨b1, 0, none⟩)), (5, .int .i64 n2), (9, .slice Af Ac.length Ae), (10, .int .i64 (Ac.length : Int)), (11, .int .i64 k)]) _ (m0 kr ⟨_, _, rfl, BO.start _, 0, h2, rfl, rfl, z6⟩) ?_
  rintro ao e1 _ _ ⟨tl, k, aq, af, n2, r6, rfl, rfl, ax⟩
  refine Az _ ax (AM (uv (A7 rfl rfl) ?_))
  refine Aa (Ar ?_)
  refine cQ (fun c9 => ?_) fun c9 => ?_
  ·obtain ⟨x, bn, rfl, ah, ar, ae⟩ := BO.succ af c9
   rw [B3] at r6
   refine Al (Ar ?_)
   refine Aq (AM ?_)
   obtain ⟨bo, bp, JH, ay, ai, aj, au, rfl, az, ak⟩ := AL.at (Ad _) aa ([(b1, ce #[.int .i64 wide, .slice Af Ac.length Ae] 25)]) ar.1 ah
   refine uv (AA underlying23 sizeOf32 rfl ai rfl ar) (uv (Ao isAgg32 rfl aj (ak 0 (by decide))) ?_)
   refine ua (BX (um ?_))
   refine uv (Bv rfl rfl) (Aa ?_)
   refine cQ (fun I1 => ?_) fun I1 => ?_
   ·have ba := AO r6 I1
    refine Ak (um ?_)
    obtain ⟨bb, bc⟩ := AW ba
    refine uv (A1 rfl rfl bb) ?_
    refine ua (Aa (Av (id := 1) (Ak ?_)))
    refine uv (A1 rfl rfl (BO.DZ af c9 (AL.lt aa))) ?_
    refine um (Aa ?_)
    subst aq; exact le kr ⟨_, _, rfl, ae, n2 + 1, bc, rfl, rfl, z6⟩
   have bg := AP r6 I1
   refine Al (Av (id := 1) (Ak ?_))
   refine uv (A1 rfl rfl (BO.DZ af c9 (AL.lt aa))) ?_
   refine um (Aa ?_)
   subst aq; exact le kr ⟨_, _, rfl, ae, n2, bg, rfl, rfl, z6⟩
  obtain rfl := BO.zero af c9
  rw [B3] at r6
  refine AR (Aj (Aj ?_))
  refine Ay ?_
  obtain rfl := AH r6
  exact mi kr ⟨rfl, rfl, z3⟩
 refine AM (uv (As isAgg25 sizeOf25 rfl (Has.own 0 rfl) (Be rfl) rfl) ?_)
 obtain ⟨ok, bh, av⟩ := Aw r3
 refine cV call14 (FO aa bh) (um ?_)
 rcases Bf ok with ab | ab
 ·have bj := bt av ab
  refine fB ab (fB ab (fB ab (fB ab (fU (fU (fU (fU (fB ab ?_))))))))
  refine uv (Au (Es rfl ab) rfl) ?_
  refine ua (Aa ?_)
  refine kW kn (Ap (B2 results42 ?_))
  obtain rfl := AH bj
  exact rfl
 have aw := bf av ab
 refine nB ab (um (nB ab (um (nB ab ?_))))
 refine uv (Ex rfl rfl) ?_
 refine nB ab (um ?_)
 by_cases ad : most < n
 ·have bk := AO aw ad
  refine nT ad (uv (Am BN rfl) (nT ad (uv (Ao isAgg23 rfl (Has.own 0 rfl) rfl) (nT ad (uv (AX underlying23 rfl) (nT ad (uv (Kp rfl rfl) ?_)))))))
  refine nB ab (uv (Au (A5 rfl ad) rfl) (uv (At (Es rfl ab) rfl) ?_))
  refine ua (Aa ?_)
  refine kW kn (Ap (B2 results42 ?_))
  obtain rfl := AH bk
  exact rfl
 have bl := AP aw ad
 refine fF ad (fF ad (fF ad (fF ad (nB ab ?_))))
 refine uv (At (AZ rfl ad) rfl) (uv (At (Es rfl ab) rfl) ?_)
 refine ua (Aa ?_)
 refine kW kn (Ap (B2 results42 ?_))
 obtain rfl := AH bl
 exact rfl
theorem H3 (ah : AL 1 (iE .i64) F Mq Mm l) {r : Bool} (hr : Eu l n = some r) :
    Bz Tryz.prog 96 #[.slice Mq l.length Mm, .int .i64 n] F (.bool r) := by
 refine sp func96 ntmps96 fun K _ _ => ?_
 rw [Eu] at hr
 refine AM (ua (Aa ?_))
 refine AQ (fun e1 F1 L1 => Hu = some r ∧ F = F1 ∧ L1 = [] ∧ e1.sub []) ?_ ?_
 ·refine AM (ua (Aa ?_))
  refine Aq ?_
  refine A9 (fun ai e1 F1 L1 => LA l ai fun tl i => Em n tl = some r ∧ F = F1 ∧ L1 = [] ∧ e1.sub [(0, .slice Mq l.length Mm), (1, .int .i64 n), (5, .int .i64 i)]) _ (m0 kr ⟨_, _, rfl, BO.start _, hr, rfl, rfl, z3⟩) ?_
  rintro ai e1 _ _ ⟨tl, i, ao, aa, r3, rfl, rfl, aq⟩
  refine Az _ aq ?_
  refine Ar (AM (um (um ?_)))
  refine uv (AX underlying22 rfl) (uv (A7 rfl rfl) (Aa ?_))
  refine cQ (fun c6 => ?_) fun c6 => ?_
  ·obtain ⟨x, az, rfl, ar, g9, au⟩ := BO.succ aa c6
   rw [Em] at r3
   refine Al (Ar ?_)
   refine Aq ?_
   refine AM (um (um ?_))
   obtain ⟨LZ, ba, Lv, av, ab, ad, aj, rfl, aw, ae⟩ := AL.at (Ad _) ah ([]) g9.1 ar
   refine uv (AA underlying22 sizeOf3 rfl ab rfl g9) (uv (Ao isAgg3 rfl ad (ae 0 (by decide))) (um (uv (Bv rfl rfl) (Aa ?_))))
   refine cQ (fun J5 => ?_) fun J5 => ?_
   ·have ax := AO r3 J5
    refine AM (ua (Aa (Ap (AB (Ah (Ah (AB (Ah ?_))))))))
    refine B2 results96 ?_
    obtain rfl := AH ax
    exact rfl
   have ay := AP r3 J5
   refine Al (Av (id := 1) (Ak (um ?_)))
   refine uv (A1 rfl rfl (BO.DZ aa c6 (AL.lt ah))) ?_
   refine ua (Aa ?_)
   subst ao; exact le kr ⟨_, _, rfl, au, ay, rfl, rfl, z3⟩
  obtain rfl := BO.zero aa c6
  rw [Em] at r3
  refine AR (Aj (Aj ?_))
  refine Ay ?_
  exact mi kr ⟨r3, rfl, rfl, (sn _)⟩
 rintro e1 _ _ ⟨ak, rfl, rfl, af⟩
 refine Az _ af ?_
 rw [Hu] at ak
 refine AM (ua (Aa (Ap ?_)))
 refine B2 results96 ?_
 obtain rfl := AH ak
 exact rfl
set_option maxHeartbeats 1000000 in
theorem FN (ab : AL 1 (iE .i64) F Af Ae Ac) (aa : AL 1 (iE .i64) F A3 A4 AI) {r : Int} (hr : DG wide Ac AK AF AI = some r) :
    Bz Tryz.prog 51 #[.agg #[.int .i64 wide, .slice Af Ac.length Ae], .int .i64 AK, .int .i64 AF, .slice A3 AI.length A4] F (.int .i64 r) := by
 refine sp func51 ntmps51 fun K _ _ => ?_
 rw [DG] at hr
 refine AM ?_
 refine Bu rfl rfl ?_; intro b1 cn
 refine ua (Aa (Ar (AM ?_)))
 refine uv (As isAgg45 sizeOf45 rfl (Has.own 0 rfl) (Be rfl) rfl) ?_
 obtain ⟨n, h2, r3⟩ := Aw hr
 refine cV call17 (D4 ab h2) ?_
 refine ua (BX (um ?_))
 refine uv (Bo rfl rfl) (Aa ?_)
 refine cQ (fun c4 => ?_) fun c4 => ?_
 ·have r5 := AO r3 c4
  refine AM (um (ua (Aa ?_)))
  refine kW kn ?_
  refine Ap (Ah ?_)
  refine B2 results51 ?_
  obtain rfl := AH r5
  exact rfl
 have r6 := AP r3 c4
 refine Al (Ar (AM (um (um ?_))))
 obtain ⟨n2, h7, r8⟩ := Aw r6
 refine cV call19 (FZ h7) ?_
 refine ua (BX (um ?_))
 refine uv (Bo rfl rfl) (Aa ?_)
 refine cQ (fun c9 => ?_) fun c9 => ?_
 ·have bm := AO r8 c9
  refine AM (um (ua (Aa ?_)))
  refine kW kn ?_
  refine Ap (Ah ?_)
  refine B2 results51 ?_
  obtain rfl := AH bm
  exact rfl
 have bn := AP r8 c9
 refine Al ?_
 refine AQ (fun e1 F1 L1 => Ie = some r ∧ F = F1 ∧ L1 = [] ∧ e1.sub []) ?_ ?_
 ·refine AM (ua (Aa ?_))
  refine Aq ?_
  refine A9 (fun bc e1 F1 L1 => LA AI bc fun tl i => Db wide Ac AI tl i = some r ∧ F = F1 ∧ L1 = [(b1, ce #[.int .i64 wide, .slice Af Ac.length Ae] 45)] ∧ e1.sub [(3, .slice A3 AI.length A4), (4, .pointer (some ⟨b1, 0, none⟩)), (11, .int .i64 i)]) _ (m0 kr ⟨_, _, rfl, BO.start _, bn, rfl, rfl, z3⟩) ?_
  rintro bc e1 _ _ ⟨tl, i, ak, ae, ah, rfl, rfl, ao⟩
  refine Az _ ao ?_
  refine Ar (AM (um (um ?_)))
  refine uv (AX underlying22 rfl) (uv (A7 rfl rfl) (Aa ?_))
  refine cQ (fun FG => ?_) fun FG => ?_
  ·obtain ⟨x, cp, rfl, af, ai, aq⟩ := BO.succ ae FG
   rw [Db] at ah
   refine Al (Ar ?_)
   refine Aq (Ar (dW (wv (As isAgg45 sizeOf45 rfl (Has.own 0 rfl) (Be rfl) rfl) ?_)))
   refine wm (wm ?_)
   obtain ⟨cq, cr, I0, bo, ar, au, bg, rfl, bp, av⟩ := AL.at (Ad _) aa ([(b1, ce #[.int .i64 wide, .slice Af Ac.length Ae] 45)]) ai.1 af
   refine wv (AA underlying22 sizeOf3 rfl ar rfl ai) (wv (Ao isAgg3 rfl au (av 0 (by decide))) ?_)
   obtain ⟨n3, bq, bh⟩ := Aw ah
   refine Dx rfl call34 rfl rfl rfl (Ey ab bq) ?_
   refine wa (XT (um ?_))
   refine uv (Bo rfl rfl) (Aa ?_)
   refine cQ (fun aw => ?_) fun aw => ?_
   ·have br := AO bh aw
    refine AM (um (ua (Aa ?_)))
    refine kW kn ?_
    refine Ap (Ah (AB (Ah (Ah (AB (Ah ?_))))))
    refine B2 results51 ?_
    obtain rfl := AH br
    exact rfl
   have bu := AP bh aw
   refine Al (dW ?_)
   refine wm (wm ?_)
   obtain ⟨bw, bx⟩ := AW bu
   obtain ⟨aj, bz, ca⟩ := B8 bx
   obtain ⟨ct, cu, cb, ad⟩ := AL.slice (Ad _) aa bw bz
   refine wv ((IE (l := 0) (h := i) underlying22 sizeOf3 rfl (.inl ⟨rfl, rfl⟩) (.inr ⟨_, rfl, rfl⟩) ad.1).eq ad.2) ?_
   refine wm (wm ?_)
   obtain ⟨cv, cw, cx, cc, ax, ay, bj, rfl, cd, az⟩ := AL.at (Ad _) aa ([(b1, ce #[.int .i64 wide, .slice Af Ac.length Ae] 45)]) ai.1 af
   refine wv (AA underlying22 sizeOf3 rfl ax rfl ai) (wv (Ao isAgg3 rfl ay (az 0 (by decide))) ?_)
   obtain ⟨ok, cf, bk⟩ := Aw ca
   refine Dx rfl call96 rfl rfl rfl (H3 cb cf) (BD ?_)
   refine AU rfl (fun ba => ?_) (fun ba => ?_)
   ·have cg := bt bk ba
    refine AM (ua (Aa ?_))
    refine kW kn ?_
    refine Ap (AB (Ah (Ah (AB (Ah ?_)))))
    refine B2 results51 ?_
    obtain rfl := AH cg
    exact rfl
   have cj := bf bk ba
   refine Al (Av (id := 1) (Ak (um ?_)))
   refine uv (A1 rfl rfl (BO.DZ ae FG (AL.lt aa))) ?_
   refine ua (Aa ?_)
   subst ak; exact le kr ⟨_, _, rfl, aq, cj, rfl, rfl, z3⟩
  obtain rfl := BO.zero ae FG
  rw [Db] at ah
  refine AR (Aj (Aj ?_))
  refine Ay ?_
  exact mi kn ⟨ah, rfl, rfl, (sn _)⟩
 rintro e1 _ _ ⟨bl, rfl, rfl, bb⟩
 refine Az _ bb ?_
 rw [Ie] at bl
 refine AM (ua (Aa (Ap ?_)))
 refine B2 results51 ?_
 obtain rfl := AH bl
 exact rfl
set_option maxHeartbeats 1000000 in
theorem KE {Ce : Option Addr} {Cg : Nat} {Bl : List (List Int)} (ab : AL 1 (Ol 1 (iE .i64)) F Ce Cg Bl) (aa : AL 1 (iE .i64) F A3 A4 AI) {r : Bool} (hr : Gu Bl AI = some r) :
    Bz Tryz.prog 83 #[.slice Ce Bl.length Cg, .slice A3 AI.length A4] F (.bool r) := by
 refine sp func83 ntmps83 fun K _ _ => ?_
 rw [Gu] at hr
 refine AM (ua (Aa ?_))
 refine AQ (fun e1 F1 L1 => II = some r ∧ F = F1 ∧ L1 = [] ∧ e1.sub []) ?_ ?_
 ·refine AM (ua (Aa ?_))
  refine Aq ?_
  refine A9 (fun au e1 F1 L1 => LA AI au fun tl i => EG Bl tl = some r ∧ F = F1 ∧ L1 = [] ∧ e1.sub [(0, .slice Ce Bl.length Cg), (1, .slice A3 AI.length A4), (5, .int .i64 i)]) _ (m0 kr ⟨_, _, rfl, BO.start _, hr, rfl, rfl, z3⟩) ?_
  rintro au e1 _ _ ⟨tl, i, ba, ad, r3, rfl, rfl, bb⟩
  refine Az _ bb ?_
  refine Ar (AM (um (um ?_)))
  refine uv (AX underlying22 rfl) (uv (A7 rfl rfl) (Aa ?_))
  refine cQ (fun c6 => ?_) fun c6 => ?_
  ·obtain ⟨x, bo, rfl, bc, g9, bg⟩ := BO.succ ad c6
   rw [EG] at r3
   refine Al (Ar ?_)
   refine Aq ?_
   refine AM (um (um (um ?_)))
   obtain ⟨LZ, bp, Lv, bh, ae, af, av, rfl, bj, ah⟩ := AL.at (Ad _) aa ([]) g9.1 bc
   refine uv (AA underlying22 sizeOf3 rfl ae rfl g9) (uv (Ao isAgg3 rfl af (ah 0 (by decide))) ?_)
   obtain ⟨x2, aw, ai, ax⟩ := Bj r3
   obtain ⟨bq, br, VL, bk, aj, ak, ay, ⟨bu, bw, rfl, bx⟩, bl, ao⟩ := AL.at (CP (Ad _)) ab ([]) aw.1 ai
   refine uv (AA underlying70 sizeOf22 rfl aj rfl aw) (uv (Ao isAgg22 rfl ak (ao 0 (by decide))) (uv (AX underlying22 rfl) (uv (Bv rfl rfl) (Aa ?_))))
   refine cQ (fun aq => ?_) fun aq => ?_
   ·have bm := AO ax aq
    refine AM (ua (Aa (Ap (AB (Ah (Ah (AB (Ah ?_))))))))
    refine B2 results83 ?_
    obtain rfl := AH bm
    exact rfl
   have bn := AP ax aq
   refine Al (Av (id := 1) (Ak (um ?_)))
   refine uv (A1 rfl rfl (BO.DZ ad c6 (AL.lt aa))) ?_
   refine ua (Aa ?_)
   subst ba; exact le kr ⟨_, _, rfl, bg, bn, rfl, rfl, z3⟩
  obtain rfl := BO.zero ad c6
  rw [EG] at r3
  refine AR (Aj (Aj ?_))
  refine Ay ?_
  exact mi kr ⟨r3, rfl, rfl, (sn _)⟩
 rintro e1 _ _ ⟨az, rfl, rfl, ar⟩
 refine Az _ ar ?_
 rw [II] at az
 refine AM (ua (Aa (Ap ?_)))
 refine B2 results83 ?_
 obtain rfl := AH az
 exact rfl
set_option maxHeartbeats 1000000 in
theorem Mt {rec_ : (List Int) → Int → Option ((List (List Int)))} (cv : ∀ {ab : Option Addr} {ad : Nat} {ah : List Int} {many : Int} {F : FS} (_ : AL 1 (iE .i64) F ab ad ah) {r : List (List Int)} , rec_ ah many = some r → SH.Spec Tryz.prog 84 #[.slice ab ah.length ad, .int .i64 many] F [] fun F' L' v => ∃ (ra : Option Addr) (rn : Nat) (rc : Nat) (rL : LH), v = .slice ra rn rc ∧ L' = rL ++ [] ∧ AN 0 22 1 (Ol 1 (iE .i64)) F' ra rn rc r rL) {ab : Option Addr} {ad : Nat} {ah : List Int} {many : Int} (aa : AL 1 (iE .i64) F ab ad ah) {r : List (List Int)} (hr : Gk rec_ ah many = some r) :
    SH.Spec Tryz.prog 84 #[.slice ab ah.length ad, .int .i64 many] F [] fun F' L' v => ∃ (ra : Option Addr) (rn : Nat) (rc : Nat) (rL : LH), v = .slice ra rn rc ∧ L' = rL ++ [] ∧ AN 0 22 1 (Ol 1 (iE .i64)) F' ra rn rc r rL := by
 refine sp func84 ntmps84 fun K _ _ => ?_
 rw [Gk] at hr
 refine AM (ua (Aa (Ar (AM (um ?_)))))
 refine uv (Bv rfl rfl) (Aa ?_)
 refine cQ (fun c1 => ?_) fun c1 => ?_
 ·have r2 := AO hr c1
  refine AM ?_
  refine bA (cs := #[.slice none 0 0]) Q2 [.slice none 0 0] ?_; intro b3 ff
  have ej : AN K.w0.heap.size 22 1 (Ol 1 (iE .i64)) F (some ⟨b3, 0, none⟩) 1 1 [[]] [(b3, ce #[.slice none 0 0] 22)] := AN.BS (vss := [[.slice none 0 0]]) (CP (Ad _)) ff (.cons ⟨_, _, rfl, AL.nil _ _ _⟩ .nil) rfl rfl (by simp [maxLen])
  generalize bq : ([(b3, ce #[.slice none 0 0] 22)] : LH) = fg at ej
  refine AV (L' := fg ++ []) (by rw [← bq]; exact fO) ?_
  refine ua (Aa (Ap (Ah ?_)))
  refine B2 results84 ?_
  obtain rfl := AH r2
  exact ⟨_, _, _, _, rfl, rfl, ej.any⟩
 have r7 := AP hr c1
 refine Al (AM (ua (Aa ?_)))
 obtain ⟨out, fh, en⟩ := Aw r7
 refine AQ (fun e1 F1 L1 => ∃ (a8 : Option Addr) (cw : Nat) (c9 : Nat) (bk : LH), AY F F1 ∧ L1 = (bk ++ []) ∧ e1.sub [(5, .slice a8 cw c9)] ∧ AN K.w0.heap.size 22 1 (Ol 1 (iE .i64)) F1 a8 cw c9 out bk) ?_ ?_
 ·clear en
  refine AM (ua (Aa ?_))
  refine Aq ?_
  refine A9 (fun eo e1 F1 L1 => LA ah eo fun tl i => ∃ (ak : List (List Int)) (HU : Option Addr) (br : Nat) (FG : Nat) (ai : LH), CB ah many rec_ tl i ak = some out ∧ AY F F1 ∧ L1 = (ai ++ []) ∧ e1.sub [(0, .slice ab ah.length ad), (1, .int .i64 many), (5, .slice HU br FG), (6, .int .i64 i)] ∧ AN K.w0.heap.size 22 1 (Ol 1 (iE .i64)) F1 HU br FG ak ai) _ (m0 (ke kr) ⟨_, _, rfl, BO.start _, [], none, 0, 0, [], fh, AY.refl _, rfl, z4, AN.nil _ _ _ _ _⟩) ?_
  rintro eo e1 fi _ ⟨tl, i, cx, ao, ak, HU, br, FG, ai, cn, bl, rfl, cy, aq⟩
  refine Az _ cy ?_
  replace aa := aa.mono (Ad _) bl
  refine Ar (AM (um (um ?_)))
  refine uv (AX underlying22 rfl) (uv (A7 rfl rfl) (Aa ?_))
  refine cQ (fun Jl => ?_) fun Jl => ?_
  ·obtain ⟨x, gr, rfl, cz, ep, da⟩ := BO.succ ao Jl
   rw [CB] at cn
   refine Al ?_
   obtain ⟨bm, fj, er⟩ := Aw cn
   refine AQ (fun e1 F1 L1 => ∃ (cp : Option Addr) (cq : Nat) (cr : Nat) (ar : LH), AY fi F1 ∧ L1 = (ar ++ []) ∧ e1.sub [(0, .slice ab ah.length ad), (1, .int .i64 many), (5, .slice cp cq cr), (6, .int .i64 i)] ∧ AN K.w0.heap.size 22 1 (Ol 1 (iE .i64)) F1 cp cq cr bm ar) ?_ ?_
   ·clear er
    refine Aq ?_
    refine AM (um (um ?_))
    refine uv (A1 rfl rfl (BO.DZ ao Jl (AL.lt aa))) ?_
    obtain ⟨fk, fl⟩ := AW fj
    obtain ⟨fm, fo, fp⟩ := B8 fl
    obtain ⟨gu, gv, fq, bc⟩ := AL.slice (Ad _) aa fk fo
    refine uv ((IE (l := i + 1) (h := (ah.length : Int)) underlying22 sizeOf3 rfl (.inr ⟨_, rfl, rfl⟩) (.inl ⟨rfl, rfl⟩) bc.1).eq bc.2) (um ?_)
    obtain ⟨fs, ft⟩ := AW fp
    refine uv (FD rfl rfl fs) ?_
    obtain ⟨l, fv, fw⟩ := Aw ft
    refine c0 call84 (cv fq fv) ?_; rintro _ fx _ bn db ⟨fy, ga, gb, au, rfl, rfl, ae⟩
    replace aa := aa.mono (Ad _) bn
    replace aq := aq.mono (CP (Ad _)) bn
    replace ae := ae.new fun p hp => db p (by simp [hp])
    refine AJ (lp (ln rfl)) ?_
    refine ua (BX (ua (Aa ?_)))
    refine Aq ?_
    refine A9 (fun et e1 F1 L1 => LA l et fun eu k => ∃ (av : List (List Int)) (bu : Option Addr) (bw : Nat) (bx : Nat) (aj : LH), CU x eu av = some bm ∧ AY fx F1 ∧ L1 = (aj ++ (au ++ [])) ∧ e1.sub [(0, .slice ab ah.length ad), (1, .int .i64 many), (5, .slice bu bw bx), (6, .int .i64 i), (7, .slice fy ga gb), (8, .int .i64 k)] ∧ AN K.w0.heap.size 22 1 (Ol 1 (iE .i64)) F1 bu bw bx av aj) _ (m0 (kg (fS fP) kr) ⟨_, _, rfl, BO.start _, ak, HU, br, FG, ai, fw, AY.refl _, rfl, z6, aq⟩) ?_
    rintro et e1 gg _ ⟨eu, k, dd, bo, av, bu, bw, bx, aj, ct, aw, rfl, de, ax⟩
    refine Az _ de ?_
    replace aa := aa.mono (Ad _) aw
    replace ae := ae.mono (CP (Ad _)) aw
    refine Ar (AM (um (um ?_)))
    refine uv ((AX underlying70 rfl).i (AN.HH ae)) (uv (A7 rfl rfl) (Aa ?_))
    refine cQ (fun cu => ?_) fun cu => ?_
    ·obtain ⟨x2, gw, rfl, df, ew, dg⟩ := BO.succ bo cu
     rw [CU] at ct
     refine Al (Ar ?_)
     refine Aq (CF [(.still, 0), (.still, 1), (.still, 2), (.still, 3), (.still, 4), (.still, 6), (.still, 7), (.still, 8), (.still, 9), (.seq, 5), (.seq, 10), (.seq, 11), (.seq, 12), (.seq, 13)] (by kernel_rfl) (by kernel_rfl) (trivial) (by rfl) (by kernel_rfl) (mS [5] rfl (Bh rfl) (mS [0] rfl (Bh rfl) (mS [6] rfl (Bh rfl) ?_))))
     obtain ⟨gy, gz, ia, gh, dh, di, ey, rfl, gi, dk⟩ := AL.at (Ad _) aa ([]) ep.1 cz
     refine mS [32, 33] rfl (AA underlying22 sizeOf3 rfl dh rfl ep) (mL [34] ([]) rfl sm (fun H F' L' dm dn => Ao isAgg3 rfl (di.ext dm dn) (dk 0 (by decide))) (mS [7] rfl (Bh rfl) (mS [8] rfl (Bh rfl) ?_)))
     obtain ⟨ib, ic, ie, gj, dp, dq, ez, ⟨gk, gl, rfl, dr⟩, gm, dt⟩ := AN.at (CP (Ad _)) ae (L := au ++ []) fP ew.1 df
     refine mS [37, 38] rfl (AA underlying70 sizeOf22 rfl dp rfl (AN.idx ae ew)) (mL [39] (au ++ []) rfl (s0 (s3 (s4 sr))) (fun H F' L' dm dn => Ao isAgg22 rfl (dq.ext dm dn) (dt 0 (by decide))) ?_)
     refine ⟨_, [(35, .int .i64 x)], rfl, rfl, z1, by kernel_rfl, ?_⟩; intro H
     refine bA (cs := #[.int .i64 x]) Br [.int .i64 x] ?_; intro ay bz
     refine Aa ⟨_, rfl, AY.refl _, [9, 8, 7, 6, 0], by kernel_rfl, .inl (.inr (fun d h => by cases h; rfl)), (fc (s0 (s1 (s3 (s4 sr)))) (fc sm (fc sm (fc sm (fc sm nm))))), ?_⟩
     refine ⟨_, [(36, .slice (some ⟨ay, 0, none⟩) 1 1), (40, .slice gk x2.length gl)], rfl, rfl, z2, by kernel_rfl, ?_⟩; intro H
     have bg : AN K.w0.heap.size 3 1 (iE .i64) gg (some ⟨ay, 0, none⟩) 1 1 [x] [(ay, ce #[.int .i64 x] 3)] := AN.BS (vss := [[.int .i64 x]]) (Ad _) bz (.cons rfl .nil) rfl rfl (by simp [maxLen])
     generalize az : ([(ay, ce #[.int .i64 x] 3)] : LH) = Lb102 at bg
     refine AV (L' := Lb102 ++ (aj ++ (au ++ []))) (by rw [← az]; exact fO) ?_
     obtain ⟨l2, du, dv, dw⟩ := E9 ct
     refine DB (xs := [x]) (ys := x2) (zs := l2) rfl Br rfl rfl (Nat.le_refl _) (fun _ => .h) bg (AL.src dr) du dv (by decide) ?_; intro ba bp bb fa bh
     refine Aa ⟨_, rfl, AY.refl _, [0], by kernel_rfl, .inl (.inr (fun d h => by cases h; rfl)), (fc sm nm), ?_⟩
     refine ⟨_, [(41, .slice ba bp bb)], rfl, rfl, z1, by kernel_rfl, ?_⟩; intro H
     refine bA (cs := #[.slice ba bp bb]) Q2 [.slice ba bp bb] ?_; intro dx fb
     refine Aa ⟨_, rfl, AY.refl _, [0], by kernel_rfl, .inl (.inr (fun d h => by cases h; rfl)), (fc sm nm), ?_⟩
     refine ⟨_, [(31, .slice bu bw bx), (42, .slice (some ⟨dx, 0, none⟩) 1 1)], rfl, rfl, z2, by kernel_rfl, ?_⟩; intro H
     obtain rfl := (AN.Bm bh).1
     refine FL (Nat.le_refl _) (Ad _) (fC fP) bh ?_; intro gn af dy
     replace ae := ae.mono (CP (Ad _)) af
     replace ax := ax.mono (CP (Ad _)) af
     obtain ⟨l3, dz, eb, eg⟩ := E9 dw
     refine DB (xs := av) (ys := [l2]) (zs := l3) rfl Q2 rfl rfl (Nat.le_refl _) (fun _ => .c .h) ax (GO.box (vss := [[.slice ba l2.length bb]]) (ys := [l2]) 0 rfl (CP (Ad _)) (.cons ⟨_, _, rfl, dy⟩ .nil) rfl rfl) dz eb (by decide) ?_; intro ca cb cc cd cf
     refine kO (kd kr) ?_
     refine Aa ⟨_, rfl, af, [], by kernel_rfl, .inl (.inl rfl), nm, ?_⟩
     refine ⟨_, [(43, .slice ca cb cc)], rfl, rfl, z1, by kernel_rfl, ?_⟩; intro H
     refine ua ?_
     refine Aa ⟨_, rfl, AY.refl _, [], by kernel_rfl, .inl (.inl rfl), nm, ?_⟩
     refine DI ?_
     refine Av (id := 3) (Ak (um ?_))
     refine uv (A1 rfl rfl (BO.DZ bo cu (AN.R5 ae))) ?_
     refine ua (Aa ?_)
     subst dd; exact le kr ⟨_, _, rfl, dg, l3, ca, cb, cc, cd, eg, (aw.trans af), rfl, z6, cf⟩
    obtain rfl := BO.zero bo cu
    rw [CU] at ct
    refine AR (Aj (Aj ?_))
    refine Ay (Av (id := 1) ?_)
    obtain rfl := AH ct
    exact mi (ka kn) ⟨bu, bw, bx, aj, (bn.trans aw), rfl, z4, ax⟩
   rintro e1 gp _ ⟨cp, cq, cr, ar, bj, rfl, cg, eh⟩
   refine Az _ cg ?_
   replace aa := aa.mono (Ad _) bj
   refine Ak (um ?_)
   refine uv (A1 rfl rfl (BO.DZ ao Jl (AL.lt aa))) ?_
   refine ua (Aa ?_)
   subst cx; exact le kr ⟨_, _, rfl, da, bm, cp, cq, cr, ar, er, (bl.trans bj), rfl, z4, eh⟩
  obtain rfl := BO.zero ao Jl
  rw [CB] at cn
  refine AR (Aj (Aj ?_))
  refine Ay ?_
  obtain rfl := AH cn
  exact mi kr ⟨HU, br, FG, ai, bl, rfl, z1, aq⟩
 rintro e1 gq _ ⟨a8, cw, c9, bk, fe, rfl, cj, ei⟩
 refine Az _ cj ?_
 refine AM (um (ua (Aa (Ap ?_))))
 refine B2 results84 ?_
 obtain rfl := AH en
 exact ⟨_, _, _, _, rfl, rfl, ei.any⟩
end Go.Proofs.YtkfbbjiniapooaaGreat
