/- The walks that this claim needs, printed by a program of mine; part 3. -/
import Derived.Test.YtepdgjpkhkijcaaGreatZSNS2
namespace Go.Proofs.YtepdgjpkhkijcaaGreat
open Go.SH Go.PL
open Tryz 
variable {f : (List Int) → Option Bool} {NI NR K9 Lj : Array Value} {F : FS} {NK Ln : FuncId} {hour Bx : Int} {Af Ab s_ table : List (List Int)} {Bh : List Int} {Om Ai Jy Ad CD GY Bk : Nat} {O0 : Nat × Nat} {Aj JA Ac Cz GX Bl : Option Addr}
set_option maxHeartbeats 1000000 in
theorem El {AZ : Int} (a6 : Au 1 (Bm 1 (iE .i64)) F Ac Ad Ab) (aa : Au 1 (Bm 1 (iE .i64)) F Aj Ai Af) {r : Bool} (hr : C3 Ab Af hour AZ = some r) :
    Ba Tryz.prog 7 #[.agg #[.slice Ac Ab.length Ad, .slice Aj Af.length Ai], .int .i64 hour, .int .i64 AZ] F (.bool r) := by
 refine sp func7 ntmps7 fun K _ _ => ?_
 rw [C3] at hr
 refine AI ?_
 refine By rfl rfl ?_; intro b1 fl
 refine ua (Aa (At (AI ?_)))
 refine uv (AE isAgg26 sizeOf26 rfl (Has.own 0 rfl) (A5 rfl) rfl) ?_
 obtain ⟨ok, h2, r3⟩ := AB hr
 refine cV call17 (DZ a6 aa h2) (Aa ?_)
 refine AT rfl (fun c4 => ?_) (fun c4 => ?_)
 ·have r5 := bt r3 c4
  refine AI ?_
  obtain ⟨fm, h6, r7⟩ := AB r5
  refine cV call14 (BB h6) ?_
  refine ua (Aa ?_)
  refine kW kn ?_
  refine As (Al ?_)
  refine BD results7 ?_
  obtain rfl := AH r7
  exact rfl
 have r8 := bf r3 c4
 refine Aq (At ?_)
 refine Bd [(.pre, 4), (.pre, 5), (.still, 0), (.still, 2), (.seq, 1), (.seq, 3), (.alloc (.cells (.agg #[.slice none 0 0, .slice none 0 0] : Value).cells 26 (0, 0)) (fun b => .pointer (some ⟨b, 0, none⟩)) [], 4), (.alloc (.cells (.agg #[.slice none 0 0, .slice none 0 0] : Value).cells 51 (0, 0)) (fun b => .pointer (some ⟨b, 0, none⟩)) [], 5), (.seq, 6), (.seq, 7)] (by kernel_rfl) (by kernel_rfl) (⟨⟨_, _, rfl, rfl, rfl, rfl, rfl, EU zeroValue26⟩, ⟨⟨_, _, rfl, rfl, rfl, rfl, rfl, EU zeroValue51⟩, trivial⟩⟩) (by rfl) (by kernel_rfl) ?_
 refine ⟨⟨[], rfl, sn _, by kernel_rfl⟩, ?_⟩
 refine ⟨⟨[], rfl, sn _, by kernel_rfl⟩, ?_⟩
 refine mL [3] ([(b1, ce #[.slice Ac Ab.length Ad, .slice Aj Af.length Ai] 26)]) rfl (s0 sr) (fun H F' L' bx bz => AE isAgg26 sizeOf26 rfl ((Has.own 0 rfl).ext bx bz) (A5 rfl) rfl) (mL [3] ([(b1, ce #[.slice Ac Ab.length Ad, .slice Aj Af.length Ai] 26)]) rfl (s0 sr) (fun H F' L' bx bz => AE isAgg26 sizeOf26 rfl ((Has.own 0 rfl).ext bx bz) (A5 rfl) rfl) ?_)
 refine ⟨_, [(20, .agg #[.slice Ac Ab.length Ad, .slice Aj Af.length Ai])], rfl, rfl, z1, by kernel_rfl, ?_⟩; intro H
 obtain ⟨l, l2, h9, dq⟩ := A9 r8
 refine c0 call18 (D1 a6 aa h9) ?_; rintro _ fo _ bo bp ⟨av, aw, ax, ab, ay, az, ba, ad, rfl, rfl, ai, aj⟩
 replace a6 := a6.mono (Ak (Ae _)) bo
 replace aa := aa.mono (Ak (Ae _)) bo
 replace ai := ai.new fun p hp => bp p (by simp [hp])
 replace aj := aj.new fun p hp => bp p (by simp [hp])
 refine AD (lp (lp (ln rfl))) (kO (kf (fS (fS fO)) kr) ?_)
 refine Aa ⟨_, rfl, bo, [2], by kernel_rfl, .inl (.inr (fun d h => by cases h; rfl)), (fc (s0 (s2 (s3 (s3 sr)))) nm), ?_⟩
 refine ⟨_, [(22, .agg #[.slice Ac Ab.length Ad, .slice Aj Af.length Ai])], rfl, rfl, z1, by kernel_rfl, ?_⟩; intro H
 obtain ⟨l3, l4, dr, dt⟩ := A9 dq
 refine c0 call19 (C0 a6 aa dr) ?_; rintro _ fp _ bg ca ⟨bh, bj, bk, bl, bm, ae, rfl, rfl, bw, ak⟩
 replace a6 := a6.mono (Ak (Ae _)) bg
 replace aa := aa.mono (Ak (Ae _)) bg
 replace ai := ai.mono (Ae _) bg
 replace aj := aj.mono (Ae _) bg
 replace ak := ak.new fun p hp => ca p (by simp [hp])
 refine AD (lp (ln rfl)) (kO (kf (fS fO) kr) ?_)
 refine Aa ⟨_, rfl, bg, [], by kernel_rfl, .inl (.inl rfl), nm, ?_⟩
 refine GW rfl ?_; intro ah du
 refine Jp (L' := (ah, ce #[.slice none 0 0, .slice none 0 0] 26) :: ((b1, ce #[.slice Ac Ab.length Ad, .slice Aj Af.length Ai] 26) :: (ae ++ (ab ++ (ad ++ []))))) rfl ?_
 refine GW rfl ?_; intro ar dv
 refine Jp (L' := (ar, ce #[.slice none 0 0, .slice none 0 0] 51) :: ((ah, ce #[.slice none 0 0, .slice none 0 0] 26) :: ((b1, ce #[.slice Ac Ab.length Ad, .slice Aj Af.length Ai] 26) :: (ae ++ (ab ++ (ad ++ [])))))) rfl ?_
 refine ⟨_, [(7, .pointer (some ⟨ah, 0, none⟩)), (21, .agg #[.slice av aw ax, .slice ay az ba])], rfl, rfl, z2, by kernel_rfl, ?_⟩; intro H
 refine A6 (i := 1) sizeOf26 rfl rfl rfl (by simp [Value.oneCell']) rfl (A5 rfl) (AD rfl ?_)
 refine Aa ⟨undef, rfl, AN.refl _, [], by kernel_rfl, .inl (.inl rfl), nm, ?_⟩
 refine ⟨_, [(8, .pointer (some ⟨ar, 0, none⟩)), (23, .agg #[.slice bh l3.length bj, .slice bk bl bm])], rfl, rfl, z2, by kernel_rfl, ?_⟩; intro H
 refine A6 (i := 0) sizeOf51 rfl rfl rfl (by simp [Value.oneCell']) rfl (A5 rfl) (AD rfl ?_)
 refine Aa ⟨undef, rfl, AN.refl _, [], by kernel_rfl, .inl (.inl rfl), nm, ?_⟩
 refine BC (AI (uv (AE isAgg51 sizeOf51 rfl (Has.own 0 rfl) (A5 rfl) rfl) ?_))
 obtain ⟨n, dw, dx⟩ := AB dt
 refine Bi (Lt := ae ++ []) (Lr := (ar, ce #[.slice bh l3.length bj, .slice bk bl bm] 51) :: ((ah, ce #[.slice av aw ax, .slice ay az ba] 26) :: ((b1, ce #[.slice Ac Ab.length Ad, .slice Aj Af.length Ai] 26) :: (ab ++ (ad ++ []))))) rfl call20 rfl rfl rfl (pT ((fC (fC (fC fP))).trans (pA pR)) (lp (ln rfl))) (fun F2 h2 h3 => by rw [(AW.Be ak).1]; exact Dl (bw.mono (Ak (Ae _)) h2) (ak.row (Ak (Ae _)) h2 (fun p hp => h3 p (List.mem_append_left _ hp))) dw) ?_
 refine ua (BI (um (ua (ua (ua (Aa ?_))))))
 obtain ⟨e_, dy, cz⟩ := AB dx
 refine jE (((ar, ce #[.slice bh l3.length bj, .slice bk bl bm] 51) :: ((ah, ce #[.slice av aw ax, .slice ay az ba] 26) :: ((b1, ce #[.slice Ac Ab.length Ad, .slice Aj Af.length Ai] 26) :: (ab ++ (ad ++ (ae ++ []))))))) [(1, .int .i64 hour), (2, .int .i64 AZ), (3, .pointer (some ⟨b1, 0, none⟩)), (7, .pointer (some ⟨ah, 0, none⟩)), (8, .pointer (some ⟨ar, 0, none⟩)), (9, .int .i64 e_), (10, .int .i64 n), (11, .int .i64 0), (12, .bool false)] ?_ ?_
 ·clear cz
  obtain ⟨k, da, cb⟩ := AB dy
  refine jE (((ar, ce #[.slice bh l3.length bj, .slice bk bl bm] 51) :: ((ah, ce #[.slice av aw ax, .slice ay az ba] 26) :: ((b1, ce #[.slice Ac Ab.length Ad, .slice Aj Af.length Ai] 26) :: (ab ++ (ad ++ (ae ++ []))))))) [(1, .int .i64 hour), (2, .int .i64 AZ), (3, .pointer (some ⟨b1, 0, none⟩)), (7, .pointer (some ⟨ah, 0, none⟩)), (8, .pointer (some ⟨ar, 0, none⟩)), (9, .int .i64 n), (10, .int .i64 n), (11, .int .i64 0), (12, .bool false), (38, .bool k)] ?_ ?_
  ·clear cb
   refine An (um ?_)
   refine uv (Bb rfl rfl) (um ?_)
   by_cases bb : n = 0
   ·have db := AQ da bb
    refine nT bb (um (nT bb ?_))
    refine uv (AV rfl rfl) ?_
    refine nT bb (um ?_)
    by_cases bd : AZ < 0
    ·have dz := AQ db bd
     refine fT bd (fT bd (fT bd (fT bd (nT bb ?_))))
     refine uv (Aw (AS rfl bd) rfl) (uv (Aw (AS rfl bb) rfl) (Aa ?_))
     obtain rfl := AH dz
     exact mi (kc (kc (kc (kg (fS fP) (kg (fS fP) kr))))) ⟨rfl, rfl, (sc rfl (sc rfl z8))⟩
    have eb := AR db bd
    refine nF bd (um (nF bd ?_))
    refine uv (AE isAgg51 sizeOf51 rfl (Has.own 0 rfl) (A5 rfl) rfl) (nF bd ?_)
    obtain ⟨n2, ec, ef⟩ := AB eb
    refine Bi (Lt := ae ++ []) (Lr := (ar, ce #[.slice bh l3.length bj, .slice bk bl bm] 51) :: ((ah, ce #[.slice av aw ax, .slice ay az ba] 26) :: ((b1, ce #[.slice Ac Ab.length Ad, .slice Aj Af.length Ai] 26) :: (ab ++ (ad ++ []))))) rfl call23 rfl rfl rfl (pT ((fC (fC (fC fP))).trans (pA pR)) (lp (ln rfl))) (fun F2 h2 h3 => by rw [(AW.Be ak).1]; exact Ez (bw.mono (Ak (Ae _)) h2) (ak.row (Ak (Ae _)) h2 (fun p hp => h3 p (List.mem_append_left _ hp))) ec) ?_
    refine nF bd (uv (Hy rfl rfl) (nT bb (uv (Ar (AM rfl bd) rfl) (uv (Aw (AS rfl bb) rfl) (Aa ?_)))))
    obtain rfl := AH ef
    exact mi (kc (kc (kc (kg (fS fP) (kg (fS fP) kr))))) ⟨rfl, rfl, (sc rfl (sc rfl z8))⟩
   have eg := AR da bb
   refine fF bb (fF bb (fF bb (fU (fU (fU (fU (fF bb ?_)))))))
   refine uv (Ar (AM rfl bb) rfl) (Aa ?_)
   obtain rfl := AH eg
   exact mi (kc (kc (kc (kg (fS fP) (kg (fS fP) kr))))) ⟨rfl, rfl, (sc rfl (sc rfl z8))⟩
  refine AT rfl (fun cc => ?_) (fun cc => ?_)
  ·have eh := bt cb cc
   refine An (ua (Aa ?_))
   obtain rfl := AH eh
   exact mi kr ⟨rfl, rfl, (sc rfl z8)⟩
  have ei := bf cb cc
  refine Aq ?_
  obtain rfl := AH ei
  exact mi kr ⟨rfl, rfl, (sc rfl z8)⟩
 obtain ⟨n3, dd, CC⟩ := AB cz
 refine jE (((ar, ce #[.slice bh l3.length bj, .slice bk bl bm] 51) :: ((ah, ce #[.slice av aw ax, .slice ay az ba] 26) :: ((b1, ce #[.slice Ac Ab.length Ad, .slice Aj Af.length Ai] 26) :: (ab ++ (ad ++ (ae ++ []))))))) [(1, .int .i64 hour), (2, .int .i64 AZ), (3, .pointer (some ⟨b1, 0, none⟩)), (7, .pointer (some ⟨ah, 0, none⟩)), (8, .pointer (some ⟨ar, 0, none⟩)), (9, .int .i64 e_), (10, .int .i64 n), (11, .int .i64 n3), (12, .bool false)] ?_ ?_
 ·clear CC
  refine AI (um ?_)
  refine uv (Bb rfl rfl) (Aa ?_)
  refine cQ (fun cd => ?_) fun cd => ?_
  ·have ej := AQ dd cd
   refine An (uv (AE isAgg51 sizeOf51 rfl (Has.own 0 rfl) (A5 rfl) rfl) (um ?_))
   obtain ⟨n4, en, eo⟩ := AB ej
   refine Bi (Lt := ae ++ []) (Lr := (ar, ce #[.slice bh l3.length bj, .slice bk bl bm] 51) :: ((ah, ce #[.slice av aw ax, .slice ay az ba] 26) :: ((b1, ce #[.slice Ac Ab.length Ad, .slice Aj Af.length Ai] 26) :: (ab ++ (ad ++ []))))) rfl call24 rfl rfl rfl (pT ((fC (fC (fC (fS (fS fP))))).trans (pA pR)) (lp (ln rfl))) (fun F2 h2 h3 => by rw [(AW.Be ak).1]; exact Mq (bw.mono (Ak (Ae _)) h2) (ak.row (Ak (Ae _)) h2 (fun p hp => h3 p (List.mem_append_left _ hp))) en) ?_
   refine ua (Aa ?_)
   obtain rfl := AH eo
   exact mi kr ⟨rfl, rfl, (sc rfl z8)⟩
  have ep := AR dd cd
  refine Aq ?_
  obtain rfl := AH ep
  exact mi kr ⟨rfl, rfl, (sc rfl z8)⟩
 obtain ⟨v, de, df⟩ := AB CC
 refine jE (((ar, ce #[.slice bh l3.length bj, .slice bk bl bm] 51) :: ((ah, ce #[.slice av aw ax, .slice ay az ba] 26) :: ((b1, ce #[.slice Ac Ab.length Ad, .slice Aj Af.length Ai] 26) :: (ab ++ (ad ++ (ae ++ []))))))) [(1, .int .i64 hour), (2, .int .i64 AZ), (3, .pointer (some ⟨b1, 0, none⟩)), (7, .pointer (some ⟨ah, 0, none⟩)), (8, .pointer (some ⟨ar, 0, none⟩)), (9, .int .i64 e_), (10, .int .i64 v), (11, .int .i64 n3), (12, .bool false)] ?_ ?_
 ·clear df
  refine AI (um ?_)
  refine uv (Bb rfl rfl) (Aa ?_)
  refine cQ (fun cf => ?_) fun cf => ?_
  ·have er := AQ de cf
   refine AI (ua (Aa ?_))
   obtain ⟨k2, dg, cg⟩ := AB er
   refine jE (((ar, ce #[.slice bh l3.length bj, .slice bk bl bm] 51) :: ((ah, ce #[.slice av aw ax, .slice ay az ba] 26) :: ((b1, ce #[.slice Ac Ab.length Ad, .slice Aj Af.length Ai] 26) :: (ab ++ (ad ++ (ae ++ []))))))) [(1, .int .i64 hour), (2, .int .i64 AZ), (3, .pointer (some ⟨b1, 0, none⟩)), (7, .pointer (some ⟨ah, 0, none⟩)), (8, .pointer (some ⟨ar, 0, none⟩)), (9, .int .i64 e_), (10, .int .i64 1), (11, .int .i64 n3), (12, .bool false), (54, .bool k2)] ?_ ?_
   ·clear cg
    refine An (um ?_)
    refine uv (Hy rfl rfl) (um ?_)
    by_cases bc : 0 ≤ hour
    ·have et := AQ dg bc
     refine nT bc (um (nT bc ?_))
     refine uv (Av Bz rfl) (nT bc (uv (Ao isAgg24 rfl (Has.own 2 rfl) rfl) (nT bc (uv (AJ underlying24 rfl) (nT bc (uv (AV rfl rfl) (uv (Aw (AS rfl bc) rfl) ?_)))))))
     refine Aa ?_
     obtain rfl := AH et
     exact mi kr ⟨rfl, rfl, (sc rfl (sc rfl z8))⟩
    have eu := AR dg bc
    refine fF bc (fF bc (fF bc (fF bc (fF bc ?_))))
    refine uv (Ar (AM rfl bc) rfl) (Aa ?_)
    obtain rfl := AH eu
    exact mi kr ⟨rfl, rfl, (sc rfl (sc rfl z8))⟩
   refine AT rfl (fun cj => ?_) (fun cj => ?_)
   ·have ew := bt cg cj
    refine An (um (ua (Aa ?_)))
    obtain rfl := AH ew
    exact mi kr ⟨rfl, rfl, (sc rfl z8)⟩
   have ey := bf cg cj
   refine Aq ?_
   obtain rfl := AH ey
   exact mi kr ⟨rfl, rfl, (sc rfl z8)⟩
  have ez := AR de cf
  refine Aq ?_
  obtain rfl := AH ez
  exact mi kr ⟨rfl, rfl, (sc rfl z8)⟩
 obtain ⟨dh, di, dk⟩ := AB df
 refine jE (((ah, ce #[.slice av aw ax, .slice ay az ba] 26) :: ((b1, ce #[.slice Ac Ab.length Ad, .slice Aj Af.length Ai] 26) :: (ab ++ (ad ++ []))))) [(1, .int .i64 hour), (2, .int .i64 AZ), (3, .pointer (some ⟨b1, 0, none⟩)), (7, .pointer (some ⟨ah, 0, none⟩)), (9, .int .i64 e_), (10, .int .i64 v), (11, .int .i64 n3), (12, .bool dh)] ?_ ?_
 ·clear dk
  refine AI (um ?_)
  refine uv (Bb rfl rfl) (Aa ?_)
  refine cQ (fun ck => ?_) fun ck => ?_
  ·have fa := AQ di ck
   refine An (uv (AE isAgg51 sizeOf51 rfl (Has.own 0 rfl) (A5 rfl) rfl) ?_)
   refine um (um ?_)
   obtain ⟨fq, fb, fe⟩ := AB fa
   refine Bi (Lt := ae ++ []) (Lr := (ar, ce #[.slice bh l3.length bj, .slice bk bl bm] 51) :: ((ah, ce #[.slice av aw ax, .slice ay az ba] 26) :: ((b1, ce #[.slice Ac Ab.length Ad, .slice Aj Af.length Ai] 26) :: (ab ++ (ad ++ []))))) rfl call25 rfl rfl rfl (pT ((fC (fC (fC (fS (fS fP))))).trans (pA pR)) (lp (ln rfl))) (fun F2 h2 h3 => by rw [(AW.Be ak).1]; exact IT (bw.mono (Ak (Ae _)) h2) (ak.row (Ak (Ae _)) h2 (fun p hp => h3 p (List.mem_append_left _ hp))) fb) ?_
   refine ua (Aa ?_)
   obtain rfl := AH fe
   exact mi (kd (kc (kc (ka (ka kn))))) ⟨rfl, rfl, z8⟩
  have ff := AR di ck
  refine Aq ?_
  obtain rfl := AH ff
  exact mi (kd (kc (kc (ka (ka kn))))) ⟨rfl, rfl, z8⟩
 refine AI (uv (AE isAgg26 sizeOf26 rfl (Has.own 0 rfl) (A5 rfl) rfl) (um ?_))
 obtain ⟨n5, n6, fg, fh⟩ := A9 dk
 refine Bi (Lt := ab ++ (ad ++ [])) (Lr := [(ah, ce #[.slice av aw ax, .slice ay az ba] 26), (b1, ce #[.slice Ac Ab.length Ad, .slice Aj Af.length Ai] 26)]) rfl call26 rfl rfl rfl (pT ((fC (fC fP)).trans (pA ((fC (fC fP)).trans (pA pR)))) (lp (lp (ln rfl)))) (fun F2 h2 h3 => by rw [(BG.Be ai).1]; rw [(BG.Be aj).1]; exact LJ (ai.row (Ae _) h2 (fun p hp => h3 p (List.mem_append_left _ hp))) (aj.row (Ae _) h2 (fun p hp => h3 p (List.mem_append_right _ (List.mem_append_left _ hp)))) fg) ?_
 refine um (ox rfl rfl rfl (ox rfl rfl rfl (ua (ua (BI ?_)))))
 refine uv (AE isAgg26 sizeOf26 rfl (Has.own 0 rfl) (A5 rfl) rfl) ?_
 refine um (um ?_)
 obtain ⟨fi, n7, fj, dm⟩ := A9 fh
 refine Bi (Lt := ab ++ (ad ++ [])) (Lr := [(ah, ce #[.slice av aw ax, .slice ay az ba] 26), (b1, ce #[.slice Ac Ab.length Ad, .slice Aj Af.length Ai] 26)]) rfl call27 rfl rfl rfl (pT ((fC (fC fP)).trans (pA ((fC (fC fP)).trans (pA pR)))) (lp (lp (ln rfl)))) (fun F2 h2 h3 => by rw [(BG.Be ai).1]; rw [(BG.Be aj).1]; exact N5 (ai.row (Ae _) h2 (fun p hp => h3 p (List.mem_append_left _ hp))) (aj.row (Ae _) h2 (fun p hp => h3 p (List.mem_append_right _ (List.mem_append_left _ hp)))) fj) ?_
 refine um (ox rfl rfl rfl (ox rfl rfl rfl (ua (ua (BI (um (um ?_)))))))
 refine uv (Bb rfl rfl) (um ?_)
 by_cases bn : n6 = e_
 ·have dp := AQ dm bn
  refine nT bn (um (nT bn (um (nT bn ?_))))
  refine uv (Bb rfl rfl) (uv (Aw (AS rfl bn) rfl) (um ?_))
  by_cases al : n7 = v
  ·have bq := AQ dp al
   refine nT al (um (nT al (um (nT al ?_))))
   refine uv (Bb rfl rfl) (uv (Aw (AS rfl al) rfl) (um ?_))
   by_cases ao : n5 = n3
   ·have br := AQ bq ao
    refine nT ao (um (nT ao (um (nT ao ?_))))
    refine uv (QV underlying4 rfl rfl) (uv (Aw (AS rfl ao) rfl) (um ?_))
    by_cases aq : fi = dh
    ·have cn := AQ br aq
     refine nT aq (uv (AE isAgg26 sizeOf26 rfl (Has.own 0 rfl) (A5 rfl) rfl) (nT aq (uv (AE isAgg26 sizeOf26 rfl (Has.own 1 rfl) (A5 rfl) rfl) (nT aq ?_))))
     obtain ⟨fk, cp, bu⟩ := AB cn
     refine Bi (Lt := ab ++ (ad ++ [])) (Lr := [(ah, ce #[.slice av aw ax, .slice ay az ba] 26), (b1, ce #[.slice Ac Ab.length Ad, .slice Aj Af.length Ai] 26)]) rfl call22 rfl rfl rfl (pT ((fC (fC fP)).trans (pA ((fC (fC fP)).trans (pA pR)))) (lp (lp (ln rfl)))) (fun F2 h2 h3 => by rw [(BG.Be ai).1]; rw [(BG.Be aj).1]; exact DF (ai.row (Ae _) h2 (fun p hp => h3 p (List.mem_append_left _ hp))) (aj.row (Ae _) h2 (fun p hp => h3 p (List.mem_append_right _ (List.mem_append_left _ hp)))) (a6.mono (Ak (Ae _)) h2) (aa.mono (Ak (Ae _)) h2) cp) ?_
     refine uv (Aw (AS rfl aq) rfl) (um ?_)
     rcases Bf fk with au | au
     ·have cq := bt bu au
      refine nB au ?_
      obtain ⟨fs, cr, ct⟩ := AB cq
      refine cV call14 (BB cr) (uv (Aw (En rfl au) rfl) ?_)
      refine ua (Aa ?_)
      refine kW kn (As (BD results7 ?_))
      obtain rfl := AH ct
      exact rfl
     have cu := bf bu au
     refine fB au (uv (Ar (En rfl au) rfl) ?_)
     refine ua (Aa ?_)
     refine kW kn (As (BD results7 ?_))
     obtain rfl := AH cu
     exact rfl
    have cv := AR br aq
    refine fF aq (fF aq (fF aq ?_))
    refine uv (Ar (AM rfl aq) rfl) ?_
    refine um (Ah (b' := false) 98 rfl rfl rfl rfl ?_)
    refine uv (Ar rfl rfl) ?_
    refine ua (Aa ?_)
    refine kW kn (As (BD results7 ?_))
    obtain rfl := AH cv
    exact rfl
   have cw := AR bq ao
   refine fF ao (fF ao (fF ao ?_))
   refine uv (Ar (AM rfl ao) rfl) ?_
   refine um (Ah (b' := false) 93 rfl rfl rfl rfl (Ah (b' := false) 93 rfl rfl rfl rfl (Ah (b' := false) 93 rfl rfl rfl rfl ?_)))
   refine uv (Ar rfl rfl) ?_
   refine um (Ah (b' := false) 98 rfl rfl rfl rfl ?_)
   refine uv (Ar rfl rfl) ?_
   refine ua (Aa ?_)
   refine kW kn (As (BD results7 ?_))
   obtain rfl := AH cw
   exact rfl
  have cx := AR dp al
  refine fF al (fF al (fF al ?_))
  refine uv (Ar (AM rfl al) rfl) ?_
  refine um (Ah (b' := false) 88 rfl rfl rfl rfl (Ah (b' := false) 88 rfl rfl rfl rfl (Ah (b' := false) 88 rfl rfl rfl rfl ?_)))
  refine uv (Ar rfl rfl) ?_
  refine um (Ah (b' := false) 93 rfl rfl rfl rfl (Ah (b' := false) 93 rfl rfl rfl rfl (Ah (b' := false) 93 rfl rfl rfl rfl ?_)))
  refine uv (Ar rfl rfl) ?_
  refine um (Ah (b' := false) 98 rfl rfl rfl rfl ?_)
  refine uv (Ar rfl rfl) ?_
  refine ua (Aa ?_)
  refine kW kn (As (BD results7 ?_))
  obtain rfl := AH cx
  exact rfl
 have cy := AR dm bn
 refine fF bn (fF bn (fF bn ?_))
 refine uv (Ar (AM rfl bn) rfl) ?_
 refine um (Ah (b' := false) 83 rfl rfl rfl rfl (Ah (b' := false) 83 rfl rfl rfl rfl (Ah (b' := false) 83 rfl rfl rfl rfl ?_)))
 refine uv (Ar rfl rfl) ?_
 refine um (Ah (b' := false) 88 rfl rfl rfl rfl (Ah (b' := false) 88 rfl rfl rfl rfl (Ah (b' := false) 88 rfl rfl rfl rfl ?_)))
 refine uv (Ar rfl rfl) ?_
 refine um (Ah (b' := false) 93 rfl rfl rfl rfl (Ah (b' := false) 93 rfl rfl rfl rfl (Ah (b' := false) 93 rfl rfl rfl rfl ?_)))
 refine uv (Ar rfl rfl) ?_
 refine um (Ah (b' := false) 98 rfl rfl rfl rfl ?_)
 refine uv (Ar rfl rfl) ?_
 refine ua (Aa ?_)
 refine kW kn (As (BD results7 ?_))
 obtain rfl := AH cy
 exact rfl
set_option maxHeartbeats 1000000 in
theorem G8 (a6 : Au 1 (Bm 1 (iE .i64)) F Ac Ad Ab) (aa : Au 1 (Bm 1 (iE .i64)) F Aj Ai Af) {r : List Int} (hr : Gd Ab Af hour = some r) :
    SH.Spec Tryz.prog 84 #[.agg #[.slice Ac Ab.length Ad, .slice Aj Af.length Ai], .int .i64 hour] F [] fun F' L' v => ∃ (ra : Option Addr) (rn : Nat) (rc : Nat) (rL : LH), v = .slice ra rn rc ∧ L' = rL ++ [] ∧ AW 0 3 1 (iE .i64) F' ra rn rc r rL := by
 refine sp func84 ntmps84 fun K _ _ => ?_
 rw [Gd] at hr
 refine AI ?_
 refine By rfl rfl ?_; intro b1 ca
 refine ua (BI (ua (Aa ?_)))
 obtain ⟨out, h8, r9⟩ := AB hr
 refine AK (fun e1 F1 L1 => ∃ (a2 : Option Addr) (n6 : Nat) (c3 : Nat) (aq : LH), F = F1 ∧ L1 = (aq ++ []) ∧ e1.sub [(5, .slice a2 n6 c3)] ∧ AW K.w0.heap.size 3 1 (iE .i64) F1 a2 n6 c3 out aq) ?_ ?_
 ·clear r9
  refine AI (ua (Aa ?_))
  refine Ap ?_
  refine A2 (fun al e1 F1 L1 => ∃ (ab : List Int) (BO : Int) (ah : Option Addr) (ai : Nat) (aj : Nat) (ad : LH), ET Ab Af hour al ab BO = some out ∧ F = F1 ∧ L1 = ((b1, ce #[.slice Ac Ab.length Ad, .slice Aj Af.length Ai] 51) :: (ad ++ [])) ∧ e1.sub [(1, .int .i64 hour), (2, .pointer (some ⟨b1, 0, none⟩)), (5, .slice ah ai aj), (6, .int .i64 BO)] ∧ AW K.w0.heap.size 3 1 (iE .i64) F1 ah ai aj ab ad) FU (m0 (kc (ke kr)) ⟨[], 0, none, 0, 0, [], h8, rfl, rfl, z4, AW.nil _ _ _ _ _⟩) ?_
  rintro al e1 _ _ ⟨ab, BO, ah, ai, aj, ad, ao, rfl, rfl, ar, ae⟩
  refine Az _ ar ?_
  rcases al with _ | al
  ·rw [ET] at ao; cases ao
  rw [ET] at ao
  refine At (AI (um ?_))
  refine uv (AE isAgg51 sizeOf51 rfl (Has.own 0 rfl) (A5 rfl) rfl) ?_
  obtain ⟨n, bb, az⟩ := AB ao
  refine cV call23 (Ez a6 aa bb) (uv (AV rfl rfl) (Aa ?_))
  refine cQ (fun au => ?_) fun au => ?_
  ·have bc := AQ az au
   refine Aq (At ?_)
   refine Ap (AI (uv (AE isAgg51 sizeOf51 rfl (Has.own 0 rfl) (A5 rfl) rfl) ?_))
   refine um (um ?_)
   obtain ⟨ok, bd, ba⟩ := AB bc
   refine cV call25 (IT a6 aa bd) (Aa ?_)
   refine AT rfl (fun av => ?_) (fun av => ?_)
   ·have bg := bt ba av
    refine An (um (um ?_))
    refine bA (cs := #[.int .i64 BO]) BN [.int .i64 BO] ?_; intro cb bh
    obtain ⟨ak, bj, bk, bl⟩ := E0 bg
    refine Dm (xs := ab) (ys := [BO]) (zs := ak) rfl BN rfl rfl (Nat.le_refl _) (fun _ => .c (.c .h)) ae (GO.box (vss := [[.int .i64 BO]]) (ys := [BO]) 0 rfl (Ae _) (.cons rfl .nil) rfl rfl) bj bk (by decide) ?_; intro bm bn bo aw ax
    refine kO (kd kr) ?_
    refine ua (Aa (Ax (id := 1) (An (um ?_))))
    obtain ⟨bp, bq⟩ := AX bl
    refine uv (AY rfl rfl bp) ?_
    refine ua (Aa ?_)
    exact le kr ⟨ak, BO + 1, bm, bn, bo, aw, bq, rfl, rfl, z4, ax⟩
   have br := bf ba av
   refine Aq (Ax (id := 1) (An (um ?_)))
   obtain ⟨bu, bw⟩ := AX br
   refine uv (AY rfl rfl bu) ?_
   refine ua (Aa ?_)
   exact le kr ⟨ab, BO + 1, ah, ai, aj, ad, bw, rfl, rfl, z4, ae⟩
  have bx := AR az au
  refine AL (Am (Am ?_))
  refine AA ?_
  obtain rfl := AH bx
  exact mi (kd kr) ⟨ah, ai, aj, ad, rfl, rfl, z1, ae⟩
 rintro e1 _ _ ⟨a2, n6, c3, aq, rfl, rfl, ay, bz⟩
 refine Az _ ay ?_
 refine AI (um (ua (Aa (As ?_))))
 refine BD results84 ?_
 obtain rfl := AH r9
 exact ⟨_, _, _, _, rfl, rfl, bz.any⟩
set_option maxHeartbeats 1000000 in
theorem Ck (aa : Au 1 (Bm 1 (iE .i64)) F Ac Ad Ab) (a6 : Au 1 (Bm 1 (iE .i64)) F Aj Ai Af) {r : Int} (hr : Ca Ab Af = some r) :
    Ba Tryz.prog 34 #[.agg #[.slice Ac Ab.length Ad, .slice Aj Af.length Ai]] F (.int .i64 r) := by
 refine sp func34 ntmps34 fun K _ _ => ?_
 rw [Ca] at hr
 refine AI ?_
 refine By rfl rfl ?_; intro b1 ba
 refine ua (BI (ua (Aa ?_)))
 obtain ⟨n, h2, r3⟩ := AB hr
 refine jF ([]) [(3, .int .i64 n)] ?_ fun bb ao => ?_
 ·clear r3
  refine AI (ua (Aa ?_))
  refine Ap ?_
  refine A2 (fun al e1 F1 L1 => LA Af al fun tl h => ∃ (n2 : Int), EC Ab Af tl h n2 = some n ∧ AN F F1 ∧ L1 = [(b1, ce #[.slice Ac Ab.length Ad, .slice Aj Af.length Ai] 51)] ∧ e1.sub [(1, .pointer (some ⟨b1, 0, none⟩)), (3, .int .i64 n2), (4, .int .i64 h)]) _ (m0 kr ⟨_, _, rfl, A8.start _, 1, h2, AN.refl _, rfl, z3⟩) ?_
  rintro al e1 F8 _ ⟨tl, h, aq, ai, n2, r6, ae, rfl, ar⟩
  refine Az _ ar ?_
  replace aa := aa.mono (Ak (Ae _)) ae
  replace a6 := a6.mono (Ak (Ae _)) ae
  refine At (AI (um ?_))
  refine uv (Av DQ rfl) (uv (Ao isAgg23 rfl (Has.own 0 rfl) rfl) (uv (AJ underlying23 rfl) (uv (AV rfl rfl) (Aa ?_))))
  refine cQ (fun ah => ?_) fun ah => ?_
  ·obtain ⟨x, bc, rfl, au, bd, aj⟩ := A8.succ ai ah
   rw [EC] at r6
   refine Aq (At ?_)
   refine Ap ?_
   refine An (um ?_)
   refine uv (AE isAgg51 sizeOf51 rfl (Has.own 0 rfl) (A5 rfl) rfl) (um ?_)
   obtain ⟨l, av, aw⟩ := AB r6
   refine c0 call84 (G8 aa a6 av) ?_; rintro _ bg _ ad ak ⟨bh, bj, bk, ax, rfl, rfl, ab⟩
   replace a6 := a6.mono (Ak (Ae _)) ad
   replace ab := ab.new fun p hp => ak p (by simp [hp])
   refine AD (lp (ln rfl)) (kO (kf (fS fO) kr) (uv ((AJ underlying22 rfl).i (AW.GN ab)) ?_))
   obtain ⟨ay, az⟩ := AX aw
   refine uv (NU rfl rfl ay) ?_
   refine ua (Aa (Ax (id := 1) (An (um ?_))))
   refine uv (AY rfl rfl (A8.CC ai ah (Au.lt a6))) ?_
   refine ua (Aa ?_)
   subst aq; exact le (kc kn) ⟨_, _, rfl, aj, n2 * (l.length : Int), az, (ae.trans ad), rfl, z3⟩
  obtain rfl := A8.zero ai ah
  rw [EC] at r6
  refine AL (Am (Am ?_))
  refine AA ?_
  obtain rfl := AH r6
  exact mi kn ⟨ae, rfl, z1⟩
 refine AI (um (ua (Aa (As ?_))))
 refine BD results34 ?_
 obtain rfl := AH r3
 exact rfl
set_option maxHeartbeats 1000000 in
theorem IW {IL : Int} (a6 : Au 1 (Bm 1 (iE .i64)) F Ac Ad Ab) (ad : Au 1 (Bm 1 (iE .i64)) F Aj Ai Af) {r : Bool} (hr : G1 Ab Af IL = some r) :
    Ba Tryz.prog 28 #[.agg #[.slice Ac Ab.length Ad, .slice Aj Af.length Ai], .int .i64 IL] F (.bool r) := by
 refine sp func28 ntmps28 fun K _ _ => ?_
 rw [G1] at hr
 refine AI ?_
 refine By rfl rfl ?_; intro b1 az
 refine ua (BI ?_)
 refine uv (AE isAgg26 sizeOf26 rfl (Has.own 0 rfl) (A5 rfl) rfl) ?_
 obtain ⟨l, l2, h2, r3⟩ := A9 hr
 refine c0 call19 (C0 a6 ad h2) ?_; rintro _ F4 _ ba aq ⟨a8, c9, ah, ai, aj, ae, rfl, rfl, ak, aa⟩
 replace aa := aa.new fun p hp => aq p (by simp [hp])
 refine AD (lp (ln rfl)) (kO (kf (fS fO) kr) ?_)
 refine A1 rfl zeroValue51 ?_; intro al ar
 refine A6 (i := 0) sizeOf51 rfl rfl rfl (by simp [Value.oneCell']) rfl (A5 rfl) (AD rfl (BI (uv (AE isAgg51 sizeOf51 rfl (Has.own 0 rfl) (A5 rfl) rfl) ?_)))
 obtain ⟨n, au, ao⟩ := AB r3
 refine Bi (Lt := ae ++ []) (Lr := [(al, ce #[.slice a8 l.length c9, .slice ah ai aj] 51), (b1, ce #[.slice Ac Ab.length Ad, .slice Aj Af.length Ai] 26)]) rfl call20 rfl rfl rfl (pT ((fC (fC fP)).trans (pA pR)) (lp (ln rfl))) (fun F2 h2 h3 => by rw [(AW.Be aa).1]; exact Dl (ak.mono (Ak (Ae _)) h2) (aa.row (Ak (Ae _)) h2 (fun p hp => h3 p (List.mem_append_left _ hp))) au) ?_
 refine uv (Bb rfl rfl) (um ?_)
 by_cases ab : n = 0
 ·have av := AQ ao ab
  refine nT ab (uv (AE isAgg51 sizeOf51 rfl (Has.own 0 rfl) (A5 rfl) rfl) (nT ab ?_))
  obtain ⟨n2, aw, ax⟩ := AB av
  refine Bi (Lt := ae ++ []) (Lr := [(al, ce #[.slice a8 l.length c9, .slice ah ai aj] 51), (b1, ce #[.slice Ac Ab.length Ad, .slice Aj Af.length Ai] 26)]) rfl call34 rfl rfl rfl (pT ((fC (fC fP)).trans (pA pR)) (lp (ln rfl))) (fun F2 h2 h3 => by rw [(AW.Be aa).1]; exact Ck (ak.mono (Ak (Ae _)) h2) (aa.row (Ak (Ae _)) h2 (fun p hp => h3 p (List.mem_append_left _ hp))) aw) ?_
  refine nT ab (um (nT ab ?_))
  refine uv (Em rfl rfl) (uv (Aw (AS rfl ab) rfl) ?_)
  refine ua (Aa ?_)
  refine kW kn (As (BD results28 ?_))
  obtain rfl := AH ax
  exact rfl
 have ay := AR ao ab
 refine fF ab (fF ab (fF ab (fF ab ?_)))
 refine uv (Ar (AM rfl ab) rfl) ?_
 refine ua (Aa ?_)
 refine kW kn (As (BD results28 ?_))
 obtain rfl := AH ay
 exact rfl
set_option maxHeartbeats 1000000 in
theorem Iw (a6 : Au 1 (iE .i64) F Cz CD Bh) {r : Int} (hr : Hp Bh Bx = some r) :
    Ba Tryz.prog 95 #[.slice Cz Bh.length CD, .int .i64 Bx] F (.int .i64 r) := by
 refine sp func95 ntmps95 fun K _ _ => ?_
 rw [Hp] at hr
 refine AI (ua (BI (ua (Aa ?_))))
 obtain ⟨n, h1, r2⟩ := AB hr
 refine jE ([]) [(5, .int .i64 n)] ?_ ?_
 ·clear r2
  refine AI (ua (Aa ?_))
  refine Ap ?_
  refine A2 (fun av e1 F1 L1 => LA Bh av fun tl h => ∃ (n2 : Int), ER Bh Bx tl h n2 = some n ∧ F = F1 ∧ L1 = [] ∧ e1.sub [(0, .slice Cz Bh.length CD), (1, .int .i64 Bx), (5, .int .i64 n2), (6, .int .i64 h)]) _ (m0 kr ⟨_, _, rfl, A8.start _, 0, h1, rfl, rfl, z4⟩) ?_
  rintro av e1 _ _ ⟨tl, h, aw, ad, n2, r5, rfl, rfl, bg⟩
  refine Az _ bg ?_
  refine At (AI (um (um ?_)))
  refine uv (AJ underlying22 rfl) (uv (AV rfl rfl) (Aa ?_))
  refine cQ (fun c8 => ?_) fun c8 => ?_
  ·obtain ⟨x, cf, rfl, ae, ax, ay⟩ := A8.succ ad c8
   rw [ER] at r5
   refine Aq (At ?_)
   refine Ap ?_
   obtain ⟨k, bh, ah⟩ := AB r5
   refine jE ([]) [(0, .slice Cz Bh.length CD), (1, .int .i64 Bx), (5, .int .i64 n2), (6, .int .i64 h), (32, .bool k)] ?_ ?_
   ·clear ah
    refine An (um (um ?_))
    obtain ⟨cg, cj, ck, bj, ai, aj, az, rfl, bk, ak⟩ := Au.at (Ae _) a6 ([]) ax.1 ae
    refine uv (AF underlying22 sizeOf3 rfl ai rfl ax) (uv (Ao isAgg3 rfl aj (ak 0 (by decide))) (um ?_))
    obtain ⟨ok, bl, ba⟩ := AB bh
    refine cV call101 (Hh bl) (um ?_)
    rcases Bf ok with ab | ab
    ·have bb := bt ba ab
     refine nB ab (um (nB ab ?_))
     refine uv (Bb rfl rfl) ?_
     refine nB ab (um ?_)
     by_cases aa : h = 0
     ·have bm := AQ bb aa
      refine fT aa (fT aa (fT aa (fT aa (fT aa (fT aa (fT aa (fT aa (nB ab ?_))))))))
      refine uv (Aw (AS rfl aa) rfl) (uv (Aw (En rfl ab) rfl) (Aa ?_))
      obtain rfl := AH bm
      exact mi kr ⟨rfl, rfl, z5⟩
     have bn := AR bb aa
     refine nF aa (um (nF aa (um (nF aa ?_))))
     obtain ⟨bo, bp⟩ := AX bn
     refine uv (C7 rfl rfl bo) (nF aa ?_)
     obtain ⟨x2, bc, al, bq⟩ := A7 bp
     obtain ⟨cn, cp, cq, br, ao, aq, bd, rfl, bu, ar⟩ := Au.at (Ae _) a6 ([]) bc.1 al
     refine uv (AF underlying22 sizeOf3 rfl ao rfl bc) (nF aa (uv (Ao isAgg3 rfl aq (ar 0 (by decide))) ?_))
     refine nF aa (um (nF aa ?_))
     obtain ⟨cr, bw, bx⟩ := AB bq
     refine cV call101 (Hh bw) (nF aa (uv (BM rfl) (nB ab (uv (Ar (AM rfl aa) rfl) (uv (Aw (En rfl ab) rfl) (Aa ?_))))))
     obtain rfl := AH bx
     exact mi kr ⟨rfl, rfl, z5⟩
    have bz := bf ba ab
    refine fB ab (fB ab (fB ab (fU (fU (fU (fU (fU (fU (fU ?_)))))))))
    refine fU (fB ab ?_)
    refine uv (Ar (En rfl ab) rfl) (Aa ?_)
    obtain rfl := AH bz
    exact mi kr ⟨rfl, rfl, z5⟩
   refine AT rfl (fun au => ?_) (fun au => ?_)
   ·have ca := bt ah au
    refine An (um ?_)
    obtain ⟨cb, cc⟩ := AX ca
    refine uv (AY rfl rfl cb) ?_
    refine ua (Aa (Ax (id := 1) (An (um ?_))))
    refine uv (AY rfl rfl (A8.CC ad c8 (Au.lt a6))) ?_
    refine ua (Aa ?_)
    subst aw; exact le kr ⟨_, _, rfl, ay, n2 + 1, cc, rfl, rfl, z4⟩
   have cd := bf ah au
   refine Aq (Ax (id := 1) (An (um ?_)))
   refine uv (AY rfl rfl (A8.CC ad c8 (Au.lt a6))) ?_
   refine ua (Aa ?_)
   subst aw; exact le kr ⟨_, _, rfl, ay, n2, cd, rfl, rfl, z4⟩
  obtain rfl := A8.zero ad c8
  rw [ER] at r5
  refine AL (Am (Am ?_))
  refine AA ?_
  obtain rfl := AH r5
  exact mi kr ⟨rfl, rfl, z1⟩
 refine AI (um (ua (Aa (As ?_))))
 refine BD results95 ?_
 obtain rfl := AH r2
 exact rfl
theorem Da (a6 : Au 1 (Bm 1 (iE .i64)) F Ac Ad Ab) (_h_hours : Au 1 (Bm 1 (iE .i64)) F Aj Ai Af) (aa : Au 1 (iE .i64) F Cz CD Bh) {r : Int} (hr : CO Ab Af Bh = some r) :
    Ba Tryz.prog 40 #[.agg #[.slice Ac Ab.length Ad, .slice Aj Af.length Ai], .slice Cz Bh.length CD] F (.int .i64 r) := by
 refine sp func40 ntmps40 fun K _ _ => ?_
 rw [CO] at hr
 refine AI ?_
 refine By rfl rfl ?_; intro b1 ar
 refine ua (BI (ua (Aa ?_)))
 obtain ⟨n, h2, r3⟩ := AB hr
 refine jE ([]) [(5, .int .i64 n)] ?_ ?_
 ·clear r3
  refine AI (ua (Aa ?_))
  refine Ap ?_
  refine A2 (fun ae e1 F1 L1 => LA Ab ae fun tl i => ∃ (n2 : Int), Fb Bh tl i n2 = some n ∧ F = F1 ∧ L1 = [(b1, ce #[.slice Ac Ab.length Ad, .slice Aj Af.length Ai] 51)] ∧ e1.sub [(1, .slice Cz Bh.length CD), (2, .pointer (some ⟨b1, 0, none⟩)), (5, .int .i64 n2), (6, .int .i64 i)]) _ (m0 kr ⟨_, _, rfl, A8.start _, 0, h2, rfl, rfl, z4⟩) ?_
  rintro ae e1 _ _ ⟨tl, i, ah, ab, n2, r6, rfl, rfl, ai⟩
  refine Az _ ai ?_
  refine At (AI (um ?_))
  refine uv (Av Hs rfl) (uv (Ao isAgg23 rfl (Has.own 0 rfl) rfl) (uv (AJ underlying23 rfl) (uv (AV rfl rfl) (Aa ?_))))
  refine cQ (fun c9 => ?_) fun c9 => ?_
  ·obtain ⟨x, au, rfl, aj, av, ad⟩ := A8.succ ab c9
   rw [Fb] at r6
   refine Aq (At ?_)
   refine Ap ?_
   refine An (um (um (um ?_)))
   obtain ⟨n3, ak, al⟩ := AB r6
   refine cV call95 (Iw aa ak) ?_
   obtain ⟨ao, aq⟩ := AX al
   refine uv (AY rfl rfl ao) ?_
   refine ua (Aa (Ax (id := 1) (An (um ?_))))
   refine uv (AY rfl rfl (A8.CC ab c9 (Au.lt a6))) ?_
   refine ua (Aa ?_)
   subst ah; exact le kr ⟨_, _, rfl, ad, n2 + n3, aq, rfl, rfl, z4⟩
  obtain rfl := A8.zero ab c9
  rw [Fb] at r6
  refine AL (Am (Am ?_))
  refine AA ?_
  obtain rfl := AH r6
  exact mi kn ⟨rfl, rfl, z1⟩
 refine AI (um (ua (Aa (As ?_))))
 refine BD results40 ?_
 obtain rfl := AH r3
 exact rfl
set_option maxHeartbeats 1000000 in
theorem Mw (aa : Au 1 (Bm 1 (iE .i64)) F Ac Ad Ab) (ab : Au 1 (Bm 1 (iE .i64)) F Aj Ai Af) (a6 : Au 1 (iE .i64) F Cz CD Bh) {r r2 : Int} (hr : JJ Ab Af Bh = some (r, r2)) :
    Ba Tryz.prog 32 #[.agg #[.slice Ac Ab.length Ad, .slice Aj Af.length Ai], .slice Cz Bh.length CD] F (.tuple #[.int .i64 r, .int .i64 r2]) := by
 refine sp func32 ntmps32 fun K _ _ => ?_
 rw [JJ] at hr
 refine AI ?_
 refine By rfl rfl ?_; intro b1 cd
 refine ua (ua (Aa (At (AI (um ?_)))))
 refine uv (AJ underlying22 rfl) (uv (Av DQ rfl) (uv (Ao isAgg23 rfl (Has.own 0 rfl) rfl) (uv (AJ underlying23 rfl) (uv (BH rfl rfl) (Aa ?_)))))
 refine cQ (fun c2 => ?_) fun c2 => ?_
 ·have r3 := AQ hr c2
  refine AI (ua (ua (Aa ?_)))
  refine kW kn ?_
  refine As (Al ?_)
  refine Bu results32 (AP rfl) (AP rfl) (sr) ?_
  obtain ⟨rfl, rfl⟩ := BT r3
  exact rfl
 have r4 := AR hr c2
 refine Aq ?_
 refine AK (fun e1 F1 L1 => Iz Ab Af Bh = some (r, r2) ∧ F = F1 ∧ L1 = [(b1, ce #[.slice Ac Ab.length Ad, .slice Aj Af.length Ai] 51)] ∧ e1.sub [(1, .slice Cz Bh.length CD), (2, .pointer (some ⟨b1, 0, none⟩))]) ?_ ?_
 ·refine AI (ua (Aa ?_))
  refine Ap ?_
  refine A2 (fun ay e1 F1 L1 => LA Bh ay fun tl h => E9 Ab Af Bh tl h = some (r, r2) ∧ F = F1 ∧ L1 = [(b1, ce #[.slice Ac Ab.length Ad, .slice Aj Af.length Ai] 51)] ∧ e1.sub [(1, .slice Cz Bh.length CD), (2, .pointer (some ⟨b1, 0, none⟩)), (6, .int .i64 h)]) _ (m0 kr ⟨_, _, rfl, A8.start _, r4, rfl, rfl, z3⟩) ?_
  rintro ay e1 _ _ ⟨tl, h, bg, ai, r7, rfl, rfl, bh⟩
  refine Az _ bh ?_
  refine At (AI (um (um ?_)))
  refine uv (AJ underlying22 rfl) (uv (AV rfl rfl) (Aa ?_))
  refine cQ (fun ae => ?_) fun ae => ?_
  ·obtain ⟨x, cf, rfl, ad, ah, aj⟩ := A8.succ ai ae
   rw [E9] at r7
   refine Aq (At ?_)
   refine Ap (At (dW ?_))
   refine wm (wm ?_)
   obtain ⟨cg, cj, ck, bj, ak, al, az, rfl, bk, ao⟩ := Au.at (Ae _) a6 ([(b1, ce #[.slice Ac Ab.length Ad, .slice Aj Af.length Ai] 51)]) ah.1 ad
   refine wv (AF underlying22 sizeOf3 rfl ak rfl ah) (wv (Ao isAgg3 rfl al (ao 0 (by decide))) (wv (AE isAgg51 sizeOf51 rfl (Has.own 0 rfl) (A5 rfl) rfl) ?_))
   obtain ⟨n, bl, bm⟩ := AB r7
   refine DL rfl call23 rfl rfl rfl (Ez aa ab bl) ?_
   obtain ⟨bn, bo⟩ := AX bm
   refine wv (C7 rfl rfl bn) ?_
   obtain ⟨ok, bp, ba⟩ := AB bo
   refine DL rfl call76 rfl rfl rfl (ES bp) (BV ?_)
   refine AT rfl (fun aq => ?_) (fun aq => ?_)
   ·have bq := bt ba aq
    refine AI (ua (ua (Aa ?_)))
    refine kW kn ?_
    refine As (Al (Ay (Al (Al (Ay (Al ?_))))))
    refine Bu results32 (AP rfl) (AP rfl) (sr) ?_
    obtain ⟨rfl, rfl⟩ := BT bq
    exact rfl
   have br := bf ba aq
   refine Aq (dW (wv (AE isAgg51 sizeOf51 rfl (Has.own 0 rfl) (A5 rfl) rfl) ?_))
   refine wm (wm (wm ?_))
   obtain ⟨cn, cp, cq, bu, ar, au, bb, rfl, bw, av⟩ := Au.at (Ae _) a6 ([(b1, ce #[.slice Ac Ab.length Ad, .slice Aj Af.length Ai] 51)]) ah.1 ad
   refine wv (AF underlying22 sizeOf3 rfl ar rfl ah) (wv (Ao isAgg3 rfl au (av 0 (by decide))) ?_)
   obtain ⟨cr, bx, bc⟩ := AB br
   refine DL rfl call25 rfl rfl rfl (IT aa ab bx) (wv (BM rfl) (BV ?_))
   refine AT rfl (fun aw => ?_) (fun aw => ?_)
   ·have bz := bt bc aw
    refine AI (ua (ua (Aa ?_)))
    refine kW kn ?_
    refine As (Ay (Al (Al (Ay (Al ?_)))))
    refine Bu results32 (AP rfl) (AP rfl) (sr) ?_
    obtain ⟨rfl, rfl⟩ := BT bz
    exact rfl
   have ca := bf bc aw
   refine Aq (Ax (id := 1) (An (um ?_)))
   refine uv (AY rfl rfl (A8.CC ai ae (Au.lt a6))) ?_
   refine ua (Aa ?_)
   subst bg; exact le kr ⟨_, _, rfl, aj, ca, rfl, rfl, z3⟩
  obtain rfl := A8.zero ai ae
  rw [E9] at r7
  refine AL (Am (Am ?_))
  refine AA ?_
  exact mi kr ⟨r7, rfl, rfl, z2⟩
 rintro e1 _ _ ⟨bd, rfl, rfl, ax⟩
 refine Az _ ax ?_
 rw [Iz] at bd
 refine AI (uv (AE isAgg51 sizeOf51 rfl (Has.own 0 rfl) (A5 rfl) rfl) (um ?_))
 obtain ⟨n2, cb, cc⟩ := AB bd
 refine cV call40 (Da aa ab a6 cb) ?_
 refine ua (ua (Aa ?_))
 refine kW kn (As (Bu results32 (AP rfl) (AP rfl) (sr) ?_))
 obtain ⟨rfl, rfl⟩ := BT cc
 exact rfl
set_option maxHeartbeats 1000000 in
theorem Ot (aa : Au 1 (Bm 1 (iE .i64)) F Ac Ad Ab) (ad : Au 1 (Bm 1 (iE .i64)) F Aj Ai Af) (a6 : Au 1 (iE .i64) F Cz CD Bh) {r r2 : Int} (hr : LS Ab Af Bh = some (r, r2)) :
    Ba Tryz.prog 33 #[.agg #[.slice Ac Ab.length Ad, .slice Aj Af.length Ai], .slice Cz Bh.length CD] F (.tuple #[.int .i64 r, .int .i64 r2]) := by
 refine sp func33 ntmps33 fun K _ _ => ?_
 rw [LS] at hr
 refine AI ?_
 refine By rfl rfl ?_; intro b1 dg
 refine ua (ua (BI ?_))
 refine uv (AE isAgg26 sizeOf26 rfl (Has.own 0 rfl) (A5 rfl) rfl) ?_
 obtain ⟨d, n, h2, r3⟩ := A9 hr
 refine c0 call67 (Ct aa ad h2) ?_; rintro _ F4 _ bz dh ⟨v8, ca, rfl, rfl, cb⟩
 replace a6 := a6.mono (Ae _) bz
 refine AD (lp (ln rfl)) (kO (kf (fS fO) kr) ?_)
 refine um (ox rfl rfl rfl (ox rfl rfl rfl (ua (ua (Aa (At ?_))))))
 refine Ap ?_
 refine AI (um ?_)
 refine uv (BH rfl rfl) ?_
 refine ua (Aa ?_)
 refine cQ (fun aq => ?_) fun aq => ?_
 ·have cc := AQ r3 aq
  refine AI (um (ua (ua (Aa ?_))))
  refine kW kn ?_
  refine As (Ay (Al ?_))
  refine Bu results33 (AP rfl) (AP rfl) (sr) ?_
  obtain ⟨rfl, rfl⟩ := BT cc
  exact rfl
 have bk := AR r3 aq
 refine AI (um ?_)
 refine uv (AJ underlying22 rfl) (uv (Av Bz rfl) (uv (Ao isAgg24 rfl (Has.own 0 rfl) rfl) (uv (AJ underlying24 rfl) (uv (BH rfl rfl) ?_))))
 refine ua (Aa ?_)
 refine cQ (fun ar => ?_) fun ar => ?_
 ·have cd := AQ bk ar
  refine AI (ua (ua (Aa ?_)))
  refine kW kn ?_
  refine As (Ay (Al ?_))
  refine Bu results33 (AP rfl) (AP rfl) (sr) ?_
  obtain ⟨rfl, rfl⟩ := BT cd
  exact rfl
 have cf := AR bk ar
 refine Aq (Ax (id := 0) (AI (ua (ua (BI (um ?_))))))
 refine uv (D5 rfl rfl) ?_
 refine ua (Aa ?_)
 refine AK (fun e1 F1 L1 => ∃ (n2 : Int), Kt n2 = some (r, r2) ∧ F4 = F1 ∧ L1 = [] ∧ e1.sub [(8, .int .i64 n2)]) ?_ ?_
 ·refine AI (um ?_)
  refine uv (AJ underlying22 rfl) ?_
  refine um (Aa ?_)
  refine Ap ?_
  obtain ⟨ab, ae, BW, rows, cg, cj⟩ := GV cf
  have bl := cb; rw [cg] at bl; obtain ⟨bm, di, dk, dm, dp, dq, au, ah, ai, dr, dt, av, ak, bn, bo, ck, cn, aw⟩ := CM bl; subst av; subst aw
  refine Fu (L' := [(b1, ce #[.slice Ac Ab.length Ad, .slice Aj Af.length Ai] 26), (au, .map ah ai)]) rfl (kW (kd kr) ?_)
  refine A2 (fun bp e1 F1 L1 => LA Bh bp fun tl k => ∃ (n3 : Int) (before : Int), HJ ab ae rows tl k n3 before = some (r, r2) ∧ F4 = F1 ∧ L1 = [(au, .map ah ai)] ∧ e1.sub [(6, .pointer (some ⟨bm, 0, none⟩)), (8, .int .i64 n3), (9, .int .i64 before), (10, .func (.func 83) #[.pointer (some ⟨bm, 0, none⟩)] #[]), (31, .slice Cz Bh.length CD), (32, .int .i64 (Bh.length : Int)), (33, .int .i64 k)]) _ (m0 kr ⟨_, _, rfl, A8.start _, 0, 0, cj, rfl, rfl, z7⟩) ?_
  rintro bp e1 _ _ ⟨tl, k, ax, aj, n3, before, al, rfl, rfl, ay⟩
  refine Az _ ay (AI (uv (AV rfl rfl) ?_))
  refine Aa (At ?_)
  refine cQ (fun ao => ?_) fun ao => ?_
  ·obtain ⟨x, du, rfl, az, bq, ba⟩ := A8.succ aj ao
   rw [HJ] at al
   refine Aq (At ?_)
   refine Ap ?_
   refine AI (um ?_)
   obtain ⟨dv, dw, dx, cp, bb, bc, br, rfl, cq, bd⟩ := Au.at (Ae _) a6 ([(au, .map ah ai)]) bq.1 az
   refine uv (AF underlying22 sizeOf3 rfl bb rfl bq) (uv (Ao isAgg3 rfl bc (bd 0 (by decide))) ?_)
   refine ua (ua (Aa (At (AI (um (um ?_))))))
   obtain ⟨n4, cr, ct⟩ := AB al
   refine cV call69 (BY ak bn bo cr) ?_
   obtain ⟨cu, cv⟩ := AX ct
   refine uv (C7 rfl rfl cu) ?_
   obtain ⟨ok, cw, bu⟩ := AB cv
   refine cV call55 (D3 cw) (uv (BM rfl) (Aa ?_))
   refine AT rfl (fun bg => ?_) (fun bg => ?_)
   ·have cx := bt bu bg
    refine AI (ua (ua (Aa ?_)))
    refine kW kn ?_
    refine As (Al (Ay (Al (Al (Ay (Al ?_))))))
    refine Bu results33 (AP rfl) (AP rfl) (sr) ?_
    obtain ⟨rfl, rfl⟩ := BT cx
    exact rfl
   have CC := bf bu bg
   refine Aq (At (AI (um (um (um ?_)))))
   obtain ⟨dy, cy, bw⟩ := AB CC
   refine cV call83 (J9 ak bn bo cn cy) (uv (BM rfl) (Aa ?_))
   refine AT rfl (fun bh => ?_) (fun bh => ?_)
   ·have cz := bt bw bh
    refine AI (ua (ua (Aa ?_)))
    refine kW kn ?_
    refine As (Al (Ay (Al (Al (Ay (Al ?_))))))
    refine Bu results33 (AP rfl) (AP rfl) (sr) ?_
    obtain ⟨rfl, rfl⟩ := BT cz
    exact rfl
   have da := bf bw bh
   refine Aq (AI (um (um (um ?_))))
   obtain ⟨n5, db, dd⟩ := AB da
   refine cV call73 (DU db) ?_
   obtain ⟨de, df⟩ := AX dd
   refine uv (AY rfl rfl de) ?_
   refine ua (Aa (An (um (ua (Aa (Ax (id := 2) (An ?_)))))))
   refine uv (AY rfl rfl (A8.CC aj ao (Au.lt a6))) ?_
   refine um (Aa ?_)
   subst ax; exact le kr ⟨_, _, rfl, ba, n3 + n5, x, df, rfl, rfl, z7⟩
  obtain rfl := A8.zero aj ao
  rw [HJ] at al
  refine AL (Am (Am ?_))
  refine AA ?_
  exact mi kn ⟨n3, al, rfl, rfl, z1⟩
 rintro e1 _ _ ⟨n2, bx, rfl, rfl, bj⟩
 refine Az _ bj ?_
 rw [Kt] at bx
 refine AI (um (ua (ua (Aa (As ?_)))))
 refine Bu results33 (AP rfl) (AP rfl) (sr) ?_
 obtain ⟨rfl, rfl⟩ := BT bx
 exact rfl
set_option maxHeartbeats 1000000 in
theorem Ju (a6 : Au 1 (Bm 1 (iE .i64)) F GX GY s_) (aj : KE Tryz.prog F NK NI NR (Bm 1 (iE .i64)) Value.bool f) {r : Int} (hr : EM s_ f = some r) :
    Ba Tryz.prog 131 #[.slice GX s_.length GY, .func (.func NK) NI NR] F (.int .i64 r) := by
 refine sp func131 ntmps131 fun K _ _ => ?_
 rw [EM] at hr
 refine AI (ua (Aa ?_))
 refine AK (fun e1 F1 L1 => D4 = some r ∧ F = F1 ∧ L1 = [] ∧ e1.sub []) ?_ ?_
 ·refine AI (um ?_)
  refine uv (AJ underlying23 rfl) ?_
  refine um (Aa ?_)
  refine Ap ?_
  refine A2 (fun ak e1 F1 L1 => LA s_ ak fun tl k => B7 f tl k = some r ∧ F = F1 ∧ L1 = [] ∧ e1.sub [(0, .slice GX s_.length GY), (1, .func (.func NK) NI NR), (7, .int .i64 (s_.length : Int)), (8, .int .i64 k)]) _ (m0 kr ⟨_, _, rfl, A8.start _, hr, rfl, rfl, z4⟩) ?_
  rintro ak e1 _ _ ⟨tl, k, ar, aa, r3, rfl, rfl, au⟩
  refine Az _ au (AI (uv (AV rfl rfl) ?_))
  refine Aa (At ?_)
  refine cQ (fun c6 => ?_) fun c6 => ?_
  ·obtain ⟨x, bd, rfl, av, g9, aw⟩ := A8.succ aa c6
   rw [B7] at r3
   refine Aq (At ?_)
   refine Ap ?_
   refine AI (um (ua (BI (um (um (um ?_))))))
   obtain ⟨PK, bg, bh, ax, ab, ad, al, ⟨bj, bk, rfl, ay⟩, az, ae⟩ := Au.at (Ak (Ae _)) a6 ([]) g9.1 av
   refine uv (AF underlying23 sizeOf22 rfl ab rfl g9) (uv (Ao isAgg22 rfl ad (ae 0 (by decide))) ?_)
   obtain ⟨ok, ba, ao⟩ := AB r3
   refine Hn rfl aj.1 rfl rfl rfl (aj.2 _ (AN.refl _) _ _ _ ⟨_, _, rfl, ay⟩ ba) (Aa ?_)
   refine AT rfl (fun ah => ?_) (fun ah => ?_)
   ·have bb := bt ao ah
    refine AI (um (ua (Aa (As (Ay (Al (Al (Ay (Al ?_)))))))))
    refine BD results131 ?_
    obtain rfl := AH bb
    exact rfl
   have bc := bf ao ah
   refine Aq (Ax (id := 1) (An ?_))
   refine uv (AY rfl rfl (A8.CC aa c6 (Au.lt a6))) ?_
   refine um (Aa ?_)
   subst ar; exact le kr ⟨_, _, rfl, aw, bc, rfl, rfl, z4⟩
  obtain rfl := A8.zero aa c6
  rw [B7] at r3
  refine AL (Am (Am ?_))
  refine AA ?_
  exact mi kr ⟨r3, rfl, rfl, (sn _)⟩
 rintro e1 _ _ ⟨aq, rfl, rfl, ai⟩
 refine Az _ ai ?_
 rw [D4] at aq
 refine AI (ua (Aa (As ?_)))
 refine BD results131 ?_
 obtain rfl := AH aq
 exact rfl
theorem IX (a6 : Au 1 (Bm 1 (iE .i64)) F GX GY s_) (aa : KE Tryz.prog F NK NI NR (Bm 1 (iE .i64)) Value.bool f) {r : Bool} (hr : D2 s_ f = some r) :
    Ba Tryz.prog 123 #[.slice GX s_.length GY, .func (.func NK) NI NR] F (.bool r) := by
 refine sp func123 ntmps123 fun K _ _ => ?_
 rw [D2] at hr
 refine AI (ua (BI (um (um ?_))))
 obtain ⟨n, h1, r2⟩ := AB hr
 refine cV call131 (Ju a6 aa h1) (uv (Hy rfl rfl) ?_)
 refine ua (Aa (As ?_))
 refine BD results123 ?_
 obtain rfl := AH r2
 exact rfl
theorem LG {ab : Option Addr} {ad : Nat} {x : List Int} {so : (List Int) → Option Bool} (ae : Au 1 (iE .i64) F ab ad x) (a6 : F Om = some (.cells #[.func (.func Ln) K9 Lj] 135 O0)) (aa : KE Tryz.prog F Ln K9 Lj (Bm 1 (iE .i64)) Value.bool so) {r : Bool} (hr : GR x so = some r) :
    Ba Tryz.prog 124 #[.slice ab x.length ad, .pointer (some ⟨Om, 0, none⟩)] F (.bool r) := by
 refine sp func124 ntmps124 fun K _ _ => ?_
 rw [GR] at hr
 refine AI (ua (BI ?_))
 refine uv (Ao isAgg135 rfl (Has.frozen a6) rfl) (um ?_)
 obtain ⟨ok, h1, r2⟩ := AB hr
 refine Hn rfl aa.1 rfl rfl rfl (aa.2 _ (AN.refl _) _ _ _ ⟨_, _, rfl, ae⟩ h1) (uv (BM rfl) ?_)
 refine ua (Aa (As ?_))
 refine BD results124 ?_
 obtain rfl := AH r2
 exact rfl
theorem J8 {l : List (List Int)} {so : (List Int) → Option Bool} (aa : Au 1 (Bm 1 (iE .i64)) F JA Jy l) (a6 : KE Tryz.prog F Ln K9 Lj (Bm 1 (iE .i64)) Value.bool so) {r : Bool} (hr : HT l so = some r) :
    Ba Tryz.prog 87 #[.slice JA l.length Jy, .func (.func Ln) K9 Lj] F (.bool r) := by
 refine sp func87 ntmps87 fun K _ _ => ?_
 rw [HT] at hr
 refine AI ?_
 refine By rfl rfl ?_; intro b1 ae
 refine ua (BI (um ?_))
 refine uv (D5 rfl rfl) ?_
 refine AO 0 rfl ae ?_; intro F2 ab ah
 refine AD rfl ?_
 replace aa := aa.mono (Ak (Ae _)) ab
 replace a6 := a6.mono ab
 have ai : KE Tryz.prog F2 124 #[] #[.pointer (some ⟨b1, 0, none⟩)] (Bm 1 (iE .i64)) Value.bool (fun ad : (List Int) => GR ad so) := ⟨call124, fun F2 h2 vs ad r ha hr => by obtain ⟨a5, c6, rfl, h7⟩ := ha; exact LG h7 (h2 _ _ ah) (a6.mono h2) hr⟩
 obtain ⟨ok, h9, aj⟩ := AB hr
 refine cV call123 (IX aa ai h9) (uv (BM rfl) ?_)
 refine ua (Aa (As ?_))
 refine BD results87 ?_
 obtain rfl := AH aj
 exact rfl
theorem Lh {x : Int} {so : Int → Option Bool} (a6 : F Om = some (.cells #[.func (.func Ln) K9 Lj] 130 O0)) (aa : KE Tryz.prog F Ln K9 Lj (iE .i64) Value.bool so) {r : Bool} (hr : Gh x so = some r) :
    Ba Tryz.prog 125 #[.int .i64 x, .pointer (some ⟨Om, 0, none⟩)] F (.bool r) := by
 refine sp func125 ntmps125 fun K _ _ => ?_
 rw [Gh] at hr
 refine AI (ua (BI ?_))
 refine uv (Ao isAgg130 rfl (Has.frozen a6) rfl) (um ?_)
 obtain ⟨ok, h1, r2⟩ := AB hr
 refine Hn rfl aa.1 rfl rfl rfl (aa.2 _ (AN.refl _) _ _ _ rfl h1) (uv (BM rfl) ?_)
 refine ua (Aa (As ?_))
 refine BD results125 ?_
 obtain rfl := AH r2
 exact rfl
theorem L4 {l : List Int} {so : Int → Option Bool} (aa : Au 1 (iE .i64) F JA Jy l) (a6 : KE Tryz.prog F Ln K9 Lj (iE .i64) Value.bool so) {r : Bool} (hr : IQ l so = some r) :
    Ba Tryz.prog 90 #[.slice JA l.length Jy, .func (.func Ln) K9 Lj] F (.bool r) := by
 refine sp func90 ntmps90 fun K _ _ => ?_
 rw [IQ] at hr
 refine AI ?_
 refine By rfl rfl ?_; intro b1 ae
 refine ua (BI (um ?_))
 refine uv (D5 rfl rfl) ?_
 refine AO 0 rfl ae ?_; intro F2 ab ah
 refine AD rfl ?_
 replace aa := aa.mono (Ae _) ab
 replace a6 := a6.mono ab
 have ai : KE Tryz.prog F2 125 #[] #[.pointer (some ⟨b1, 0, none⟩)] (iE .i64) Value.bool (fun ad : Int => Gh ad so) := ⟨call125, fun F2 h2 vs ad r ha hr => by obtain rfl := ha; exact Lh (h2 _ _ ah) (a6.mono h2) hr⟩
 obtain ⟨ok, h6, r7⟩ := AB hr
 refine cV call119 (FX aa ai h6) (uv (BM rfl) ?_)
 refine ua (Aa (As ?_))
 refine BD results90 ?_
 obtain rfl := AH r7
 exact rfl
theorem Mp {n : Int} {r : Bool} (hr : HY n = some r) :
    Ba Tryz.prog 91 #[.int .i64 n] F (.bool r) := by
 refine sp func91 ntmps91 fun K _ _ => ?_
 rw [HY] at hr
 refine AI (ua (BI (um ?_)))
 obtain ⟨ok, h1, r2⟩ := AB hr
 refine cV call55 (D3 h1) ?_
 refine ua (Aa (As ?_))
 refine BD results91 ?_
 obtain rfl := AH r2
 exact rfl
theorem M6 {l : List Int} (aa : Au 1 (iE .i64) F JA Jy l) {r : Bool} (hr : I3 l = some r) :
    Ba Tryz.prog 89 #[.slice JA l.length Jy] F (.bool r) := by
 refine sp func89 ntmps89 fun K _ _ => ?_
 rw [I3] at hr
 refine AI (ua (BI (um ?_)))
 have ab : KE Tryz.prog F 91 #[] #[] (iE .i64) Value.bool (fun a6 : Int => HY a6) := ⟨call91, fun F2 h2 vs a6 r ha hr => by obtain rfl := ha; exact Mp hr⟩
 obtain ⟨ok, h2, r3⟩ := AB hr
 refine cV call90 (L4 aa ab h2) ?_
 refine ua (Aa (As ?_))
 refine BD results89 ?_
 obtain rfl := AH r3
 exact rfl
theorem M0 {l : List Int} {Hx MM : Nat} {v1 : Value} {Dc : Option Addr} {Dd : Nat} {rows : List (List Bool)} {MV KD : Nat × Nat} (_h_l : Au 1 (iE .i64) F JA Jy l) (ad : F Hx = some (.cells #[.pointer (some ⟨MM, 0, none⟩)] 45 KD)) (ab : F MM = some (.cells #[.slice Ac Ab.length Ad, .slice Aj Af.length Ai, v1, .slice Dc rows.length Dd] 113 MV)) (a6 : Au 1 (Bm 1 (iE .i64)) F Ac Ad Ab) (aa : Au 1 (Bm 1 (iE .i64)) F Aj Ai Af) (_h_rows : Au 64 (LP 64 cB) F Dc Dd rows) {r : Bool} (hr : IY l Ab Af rows = some r) :
    Ba Tryz.prog 88 #[.slice JA l.length Jy, .pointer (some ⟨Hx, 0, none⟩)] F (.bool r) := by
 refine sp func88 ntmps88 fun K _ _ => ?_
 rw [IY] at hr
 refine AI (ua (BI (um ?_)))
 refine uv (AJ underlying22 rfl) (uv (Ao isAgg45 rfl (Has.frozen ad) rfl) ?_)
 obtain ⟨n, h2, r3⟩ := AB hr
 refine cV call69 (BY ab a6 aa h2) (uv (Bb rfl rfl) ?_)
 refine ua (Aa (As ?_))
 refine BD results88 ?_
 obtain rfl := AH r3
 exact rfl
set_option maxHeartbeats 1000000 in
theorem NJ (bg : Au 1 (Bm 1 (iE .i64)) F Ac Ad Ab) (bw : Au 1 (Bm 1 (iE .i64)) F Aj Ai Af) (a6 : Au 1 (Bm 1 (iE .i64)) F Bl Bk table) {r r2 : Int} (hr : Lw Ab Af table = some (r, r2)) :
    Ba Tryz.prog 36 #[.agg #[.slice Ac Ab.length Ad, .slice Aj Af.length Ai], .slice Bl table.length Bk] F (.tuple #[.int .i64 r, .int .i64 r2]) := by
 refine sp func36 ntmps36 fun K _ _ => ?_
 rw [Lw] at hr
 refine AI ?_
 refine By rfl rfl ?_; intro b1 qc
 refine By rfl rfl ?_; intro b2 qd
 refine A1 rfl zeroValue3 ?_; intro b3 qe
 refine A1 rfl zeroValue30 ?_; intro b4 qf
 refine BI (uv (AE isAgg26 sizeOf26 rfl (Has.own 3 rfl) (A5 rfl) rfl) ?_)
 obtain ⟨d, n, h5, r6⟩ := A9 hr
 refine c0 call15 (Gb bg bw h5) ?_; rintro _ F7 _ nk qg ⟨v11, np, rfl, rfl, cx⟩
 replace a6 := a6.mono (Ak (Ae _)) nk
 refine AD (lp (ln rfl)) (kO (kf (fS fO) (kf (fS fO) (kf (fS fO) (kf (fS fO) kr)))) ?_)
 refine um (ox rfl rfl rfl (ox rfl rfl rfl ?_))
 refine A1 rfl zeroValue45 ?_; intro bp cy
 refine A0 (i := 0) sizeOf45 rfl rfl cx.one rfl (A5 rfl) (AD rfl ?_)
 refine ua (Aa (At ?_))
 refine Ap ?_
 refine AI (um ?_)
 refine uv (BH rfl rfl) ?_
 refine ua (Aa ?_)
 refine cQ (fun gb => ?_) fun gb => ?_
 ·have nq := AQ r6 gb
  refine AI (um ?_)
  refine A0 (i := 2) sizeOf3 rfl rfl rfl rfl (A5 rfl) (AD rfl (A0 (i := 1) sizeOf30 rfl rfl rfl rfl (A5 rfl) (AD rfl (Aa (kW (kd (kc (kc kn))) ?_)))))
  refine As (Ay (Al ?_))
  refine Bu results36 (HM isAgg3 rfl (Has.own 1 rfl) rfl) (HM isAgg30 rfl (Has.own 0 rfl) rfl) (s1 (s1 sr)) ?_
  obtain ⟨rfl, rfl⟩ := BT nq
  exact rfl
 have nr := AR r6 gb
 obtain ⟨aa, ad, BW, rows, ns, nt⟩ := GV nr
 have kl := cx; rw [ns] at kl; obtain ⟨km, qh, qi, qj, qk, ql, ar, ae, ah, qn, qo, gg, ai, az, ba, nu, bb, gh⟩ := CM kl; subst gg; subst gh
 refine Fu (L' := [(bp, ce #[.pointer (some ⟨km, 0, none⟩)] 45), (b4, ce #[.int .i64 0] 30), (b3, ce #[.int .i64 0] 3), (b2, ce #[.slice Bl table.length Bk] 23), (b1, ce #[.slice Ac Ab.length Ad, .slice Aj Af.length Ai] 26), (ar, .map ae ah)]) rfl ?_
 obtain ⟨k, ko, gi⟩ := AB nt
 refine MJ (fun e1 F1 L1 => AN F7 F1 ∧ L1 = [(b4, ce #[.int .i64 0] 30), (b3, ce #[.int .i64 0] 3), (b2, ce #[.slice Bl table.length Bk] 23), (ar, .map ae ah)] ∧ e1.sub [(3, .pointer (some ⟨b2, 0, none⟩)), (4, .pointer (some ⟨b3, 0, none⟩)), (5, .pointer (some ⟨b4, 0, none⟩)), (6, .pointer (some ⟨bp, 0, none⟩)), (23, .bool k)] ∧ F1 bp = some (ce #[.pointer (some ⟨km, 0, none⟩)] 45)) ?_ ?_
 ·clear gi
  refine An (uv (Ao isAgg23 rfl (Has.own 3 rfl) rfl) (uv (AJ underlying23 rfl) (uv (Av Bz rfl) (uv (Ao isAgg24 rfl (Has.own 4 rfl) rfl) (uv (AJ underlying24 rfl) (uv (BH rfl rfl) (um ?_)))))))
  by_cases bl : (table.length : Int) ≠ (Af.length : Int)
  ·have nv := AQ ko bl
   refine fT bl (fT bl (fT bl (fT bl ?_)))
   refine uv (Aw (AS rfl bl) rfl) ?_
   refine ua (Aa ?_)
   refine OK 0 rfl cy ?_; intro qp gj gk
   refine QY (L' := [(b4, ce #[.int .i64 0] 30), (b3, ce #[.int .i64 0] 3), (b2, ce #[.slice Bl table.length Bk] 23), (b1, ce #[.slice Ac Ab.length Ad, .slice Aj Af.length Ai] 26), (ar, .map ae ah)]) rfl ?_
   obtain rfl := AH nv
   exact mf (kc (kc (kc (kd kr)))) ⟨gj, rfl, z5, gk⟩
  have nw := AR ko bl
  refine nF bl (uv (Ao isAgg23 rfl (Has.own 3 rfl) rfl) (nF bl (uv (D5 rfl rfl) (nF bl ?_))))
  refine AO 0 rfl cy ?_; intro ny bh cz
  refine AD rfl ?_
  replace a6 := a6.mono (Ak (Ae _)) bh
  replace az := az.mono (Ak (Ae _)) bh
  replace ba := ba.mono (Ak (Ae _)) bh
  replace bb := bb.mono (Bg (n := 64) (sz := 1) BU) bh
  replace ai := bh _ _ ai
  have gl : KE Tryz.prog ny 88 #[] #[.pointer (some ⟨bp, 0, none⟩)] (Bm 1 (iE .i64)) Value.bool (fun da : (List Int) => IY da aa ad rows) := ⟨call88, fun F2 h2 vs da r ha hr => by obtain ⟨qq, qs, rfl, nz⟩ := ha; exact M0 nz (h2 _ _ cz) (h2 _ _ ai) (az.mono (Ak (Ae _)) h2) (ba.mono (Ak (Ae _)) h2) (bb.mono (Bg (n := 64) (sz := 1) BU) h2) hr⟩
  obtain ⟨ok, o0, o1⟩ := AB nw
  refine cV call87 (J8 a6 gl o0) (nF bl (uv (BM rfl) (uv (Ar (AM rfl bl) rfl) ?_)))
  refine ua (Aa ?_)
  obtain rfl := AH o1
  exact mf (kc (kc (kc (kd kr)))) ⟨bh, rfl, z5, cz⟩
 rintro e1 gm _ ⟨bm, rfl, gn, ak⟩
 refine Az _ gn ?_
 replace a6 := a6.mono (Ak (Ae _)) bm
 replace az := az.mono (Ak (Ae _)) bm
 replace ba := ba.mono (Ak (Ae _)) bm
 replace bb := bb.mono (Bg (n := 64) (sz := 1) BU) bm
 replace ai := bm _ _ ai
 refine AT rfl (fun gp => ?_) (fun gp => ?_)
 ·have CC := bt gi gp
  refine AI (A0 (i := 1) sizeOf3 rfl rfl rfl rfl (A5 rfl) (AD rfl (A0 (i := 0) sizeOf30 rfl rfl rfl rfl (A5 rfl) (AD rfl (Aa (kW (kc (kc kn)) ?_))))))
  refine As (Ay (Al ?_))
  refine Bu results36 (HM isAgg3 rfl (Has.own 1 rfl) rfl) (HM isAgg30 rfl (Has.own 0 rfl) rfl) (s1 (s1 sr)) ?_
  obtain ⟨rfl, rfl⟩ := BT CC
  exact rfl
 have o2 := bf gi gp
 refine AI (uv (Ao isAgg23 rfl (Has.own 2 rfl) rfl) ?_)
 have gq : KE Tryz.prog gm 89 #[] #[] (Bm 1 (iE .i64)) Value.bool (fun da : (List Int) => I3 da) := ⟨call89, fun F2 h2 vs da r ha hr => by obtain ⟨qt, qu, rfl, o3⟩ := ha; exact M6 o3 hr⟩
 obtain ⟨qw, o4, kt⟩ := AB o2
 refine cV call87 (J8 a6 gq o4) (uv (BM rfl) ?_)
 refine ua (Aa ?_)
 refine AT rfl (fun gr => ?_) (fun gr => ?_)
 ·have o5 := bt kt gr
  refine AI (A0 (i := 1) sizeOf3 rfl rfl rfl rfl (A5 rfl) (AD rfl (A0 (i := 0) sizeOf30 rfl rfl rfl rfl (A5 rfl) (AD rfl (Aa (kW (kc (kc kn)) ?_))))))
  refine As (Ay (Al ?_))
  refine Bu results36 (HM isAgg3 rfl (Has.own 1 rfl) rfl) (HM isAgg30 rfl (Has.own 0 rfl) rfl) (s1 (s1 sr)) ?_
  obtain ⟨rfl, rfl⟩ := BT o5
  exact rfl
 have o7 := bf kt gr
 refine Aq (Ax (id := 0) ?_)
 refine AK (fun e1 F1 L1 => JQ table aa ad rows = some (r, r2) ∧ AN gm F1 ∧ L1 = [(b4, ce #[.int .i64 0] 30), (b3, ce #[.int .i64 0] 3), (b2, ce #[.slice Bl table.length Bk] 23), (ar, .map ae ah)] ∧ e1.sub [(3, .pointer (some ⟨b2, 0, none⟩)), (4, .pointer (some ⟨b3, 0, none⟩)), (5, .pointer (some ⟨b4, 0, none⟩)), (6, .pointer (some ⟨bp, 0, none⟩))]) ?_ ?_
 ·refine AI (uv (Ao isAgg23 rfl (Has.own 2 rfl) rfl) (uv (AJ underlying23 rfl) ?_))
  refine um (Aa ?_)
  refine Ap ?_
  refine A2 (fun ku e1 F1 L1 => LA table ku fun tl k2 => DX table aa ad rows tl k2 = some (r, r2) ∧ AN gm F1 ∧ L1 = [(b4, ce #[.int .i64 0] 30), (b3, ce #[.int .i64 0] 3), (b2, ce #[.slice Bl table.length Bk] 23), (ar, .map ae ah)] ∧ e1.sub [(3, .pointer (some ⟨b2, 0, none⟩)), (4, .pointer (some ⟨b3, 0, none⟩)), (5, .pointer (some ⟨b4, 0, none⟩)), (6, .pointer (some ⟨bp, 0, none⟩)), (40, .slice Bl table.length Bk), (41, .int .i64 (table.length : Int)), (42, .int .i64 k2)]) _ (m0 kr ⟨_, _, rfl, A8.start _, o7, AN.refl _, rfl, z7⟩) ?_
  rintro ku e1 o8 _ ⟨tl, k2, gu, cf, g8, au, rfl, gv⟩
  refine Az _ gv ?_
  replace a6 := a6.mono (Ak (Ae _)) au
  replace az := az.mono (Ak (Ae _)) au
  replace ba := ba.mono (Ak (Ae _)) au
  replace bb := bb.mono (Bg (n := 64) (sz := 1) BU) au
  replace ai := au _ _ ai
  replace ak := au _ _ ak
  refine AI (uv (AV rfl rfl) ?_)
  refine Aa (At ?_)
  refine cQ (fun ga => ?_) fun ga => ?_
  ·obtain ⟨x, gw, rfl, gx, kv, gy⟩ := A8.succ cf ga
   rw [DX] at g8
   refine Aq ?_
   refine AK (fun e1 F1 L1 => JE k2 (DX table aa ad rows gw) = some (r, r2) ∧ AN o8 F1 ∧ L1 = [(b4, ce #[.int .i64 0] 30), (b3, ce #[.int .i64 0] 3), (b2, ce #[.slice Bl table.length Bk] 23), (ar, .map ae ah)] ∧ e1.sub [(3, .pointer (some ⟨b2, 0, none⟩)), (4, .pointer (some ⟨b3, 0, none⟩)), (5, .pointer (some ⟨b4, 0, none⟩)), (6, .pointer (some ⟨bp, 0, none⟩)), (40, .slice Bl table.length Bk), (41, .int .i64 (table.length : Int)), (42, .int .i64 k2)]) ?_ ?_
   ·refine Ap ?_
    refine AI (um ?_)
    obtain ⟨qx, qy, qz, o9, gz, ia, kz, ⟨bq, br, rfl, bu⟩, oc, ib⟩ := Au.at (Ak (Ae _)) a6 ([(b4, ce #[.int .i64 0] 30), (b3, ce #[.int .i64 0] 3), (b2, ce #[.slice Bl table.length Bk] 23), (ar, .map ae ah)]) kv.1 gx
    refine uv (AF underlying23 sizeOf22 rfl gz rfl kv) (uv (Ao isAgg22 rfl ia (ib 0 (by decide))) ?_)
    refine A1 rfl zeroValue3 ?_; intro bj od
    refine A1 rfl zeroValue22 ?_; intro bk oe
    refine A0 (i := 1) sizeOf3 rfl rfl rfl rfl (A5 rfl) (AD rfl (A0 (i := 0) sizeOf22 rfl rfl rfl rfl (A5 rfl) (AD rfl (BI (uv (Ao isAgg45 rfl (Has.frozen ak) rfl) (uv (Ao isAgg3 rfl (Has.own 1 rfl) rfl) ?_))))))
    obtain ⟨y, ic, ie⟩ := AB g8
    refine c0 call70 (Bt ai az ba bb ic) ?_; rintro _ og _ aj la ⟨ld, rfl, rfl, cg⟩
    replace a6 := a6.mono (Ak (Ae _)) aj
    replace az := az.mono (Ak (Ae _)) aj
    replace ba := ba.mono (Ak (Ae _)) aj
    replace bb := bb.mono (Bg (n := 64) (sz := 1) BU) aj
    replace bu := bu.mono (Ae _) aj
    replace ai := aj _ _ ai
    replace ak := aj _ _ ak
    refine AD (ln rfl) (Aa (Ap ?_))
    refine Cu (encs := (fun x : Int => #[.int .i64 x])) (xs := y) rfl call115 rfl (fun _ => rfl) cg (fun pre F1 L1 => ∃ (ct : List Int), y = pre ++ ct ∧ EH table aa ad rows k2 x (DX table aa ad rows gw) ct = some (r, r2) ∧ L1 = [(bk, ce #[.slice bq x.length br] 22), (bj, ce #[.int .i64 k2] 3), (b4, ce #[.int .i64 0] 30), (b3, ce #[.int .i64 0] 3), (b2, ce #[.slice Bl table.length Bk] 23), (ar, .map ae ah)]) (fun c F1 L1 => c = .ret ∧ It = some (r, r2) ∧ L1 = [(b4, ce #[.int .i64 8] 30), (b3, ce #[.int .i64 0] 3)]) ?_ ?_ ?_ ?_ ?_ ?_
    ·rintro pre F1 F2 L1 ⟨ct, av, ig, rfl⟩ hx; exact ⟨ct, av, ig, rfl⟩
    ·rintro c F1 F2 L1 ⟨rfl, hq, rfl⟩ hx; exact ⟨rfl, hq, rfl⟩
    ·exact ⟨_, rfl, ie, rfl⟩
    ·rintro oh lg lh lj lk ll ij db pre x2 oi bc oj _ al ⟨ct, av, dd, rfl⟩
     obtain rfl := Dr av bc
     rw [EH] at dd
     replace a6 := a6.mono (Ak (Ae _)) al
     replace az := az.mono (Ak (Ae _)) al
     replace ba := ba.mono (Ak (Ae _)) al
     replace bb := bb.mono (Bg (n := 64) (sz := 1) BU) al
     replace bu := bu.mono (Ae _) al
     replace ai := al _ _ ai
     replace ak := al _ _ ak
     refine Az [(3, .pointer (some ⟨b2, 0, none⟩)), (4, .pointer (some ⟨b3, 0, none⟩)), (5, .pointer (some ⟨b4, 0, none⟩)), (6, .pointer (some ⟨bp, 0, none⟩)), (8, .pointer (some ⟨bj, 0, none⟩)), (9, .pointer (some ⟨bk, 0, none⟩)), (40, .slice Bl table.length Bk), (41, .int .i64 (table.length : Int)), (42, .int .i64 k2), (50, .int .i64 x2)] (by exact (sc rfl (sc rfl z8))) (An ?_)
     refine A1 rfl zeroValue3 ?_; intro aq lq
     refine A0 (i := 0) sizeOf3 rfl rfl rfl rfl (A5 rfl) (AD rfl (Aa ?_))
     refine ⟨rfl, ?_⟩
     refine Ap (At ?_)
     obtain ⟨k3, de, cj⟩ := AB dd
     refine jE ([(aq, ce #[.int .i64 x2] 3), (bk, ce #[.slice bq x.length br] 22), (bj, ce #[.int .i64 k2] 3), (b4, ce #[.int .i64 0] 30), (b3, ce #[.int .i64 0] 3), (b2, ce #[.slice Bl table.length Bk] 23), (ar, .map ae ah)]) [(3, .pointer (some ⟨b2, 0, none⟩)), (4, .pointer (some ⟨b3, 0, none⟩)), (5, .pointer (some ⟨b4, 0, none⟩)), (6, .pointer (some ⟨bp, 0, none⟩)), (8, .pointer (some ⟨bj, 0, none⟩)), (9, .pointer (some ⟨bk, 0, none⟩)), (10, .pointer (some ⟨aq, 0, none⟩)), (40, .slice Bl table.length Bk), (41, .int .i64 (table.length : Int)), (42, .int .i64 k2), (50, .int .i64 x2), (61, .bool k3)] ?_ ?_
     ·clear cj
      refine Le (by kernel_rfl) (by kernel_rfl) (by kernel_rfl) (wv (Ao isAgg3 rfl (Has.own 2 rfl) rfl) (wv (Bb rfl rfl) (wm ?_)))
      by_cases ab : k2 = 0
      ·have ik := AQ de ab
       refine BP (b := true) 53 rfl (Env.M4 rfl ab) (wv (Ao isAgg22 rfl (Has.own 1 rfl) rfl) (BP (b := true) 53 rfl (Env.M4 rfl ab) (wv (Ao isAgg3 rfl (Has.own 0 rfl) rfl) (BP (b := true) 53 rfl (Env.M4 rfl ab) ?_))))
       obtain ⟨x3, df, dg, il⟩ := A7 ik
       obtain ⟨oo, oq, ot, lr, dh, di, im, rfl, lu, dk⟩ := Au.at (Ae _) bu ([(aq, ce #[.int .i64 x2] 3), (bk, ce #[.slice bq x.length br] 22), (bj, ce #[.int .i64 k2] 3), (b4, ce #[.int .i64 0] 30), (b3, ce #[.int .i64 0] 3), (b2, ce #[.slice Bl table.length Bk] 23), (ar, .map ae ah)]) df.1 dg
       refine wv (AF underlying22 sizeOf3 rfl dh rfl df) (BP (b := true) 53 rfl (Env.M4 rfl ab) (wv (Ao isAgg3 rfl di (dk 0 (by decide))) (BP (b := true) 53 rfl (Env.M4 rfl ab) (wv (Ao isAgg3 rfl (Has.own 0 rfl) rfl) (BP (b := true) 53 rfl (Env.M4 rfl ab) ?_)))))
       obtain ⟨n2, iq, ir⟩ := AB il
       refine DL rfl call71 rfl rfl rfl (KG iq) (BP (b := true) 53 rfl (Env.M4 rfl ab) (wv (Em rfl rfl) (wv (Aw (AS rfl ab) rfl) (BV ?_))))
       obtain rfl := AH ir
       exact mi kr ⟨rfl, rfl, (sc rfl (sc rfl (sc rfl (sc rfl z8))))⟩
      have iu := AR de ab
      refine AU (b' := false) 53 rfl (Env.M7 rfl ab) rfl rfl (AU (b' := false) 53 rfl (Env.M7 rfl ab) rfl rfl (AU (b' := false) 53 rfl (Env.M7 rfl ab) rfl rfl (AU (b' := false) 53 rfl (Env.M7 rfl ab) rfl rfl (AU (b' := false) 53 rfl (Env.M7 rfl ab) rfl rfl (AU (b' := false) 53 rfl (Env.M7 rfl ab) rfl rfl (AU (b' := false) 53 rfl (Env.M7 rfl ab) rfl rfl ?_))))))
      refine wv (Ar (AM rfl ab) rfl) (BV ?_)
      obtain rfl := AH iu
      exact mi kr ⟨rfl, rfl, (sc rfl (sc rfl (sc rfl (sc rfl z8))))⟩
     refine AT rfl (fun ck => ?_) (fun ck => ?_)
     ·have iv := bt cj ck
      refine AI (A0 (i := 4) sizeOf3 rfl rfl rfl rfl (A5 rfl) (AD rfl (A0 (i := 3) sizeOf30 rfl rfl rfl rfl (A5 rfl) (AD rfl ?_))))
      refine Aa (As (Al (Ay ?_)))
      refine ⟨[(b4, ce #[.int .i64 8] 30), (b3, ce #[.int .i64 0] 3)], ⟨_, .refl _, s1 (s1 (s1 (s2 (s2 (s1 (s1 sr))))))⟩, ?_⟩; exact ⟨rfl, iv, rfl⟩
     have dm := bf cj ck
     refine Aq (At (AI ?_))
     refine uv (Ao isAgg3 rfl (Has.own 2 rfl) rfl) (uv (Bb rfl rfl) (Aa ?_))
     refine cQ (fun cn => ?_) fun cn => ?_
     ·have iw := AQ dm cn
      refine AL (Am ?_)
      refine AA ?_
      refine ⟨[(bk, ce #[.slice bq x.length br] 22), (bj, ce #[.int .i64 k2] 3), (b4, ce #[.int .i64 0] 30), (b3, ce #[.int .i64 0] 3), (b2, ce #[.slice Bl table.length Bk] 23), (ar, .map ae ah)], ⟨_, .refl _, s1 (s2 (s2 (s2 (s2 (s2 (s2 sr))))))⟩, ?_⟩; exact ⟨_, (by rw [bc]; simp), iw, rfl⟩
     have iy := AR dm cn
     refine Aq (AI ?_)
     refine uv (Ao isAgg45 rfl (Has.frozen ak) rfl) (uv (Ao isAgg3 rfl (Has.own 2 rfl) rfl) ?_)
     obtain ⟨iz, j0⟩ := AX iy
     refine uv (C7 rfl rfl iz) ?_
     obtain ⟨y2, j1, j2⟩ := AB j0
     refine c0 call70 (Bt ai az ba bb j1) ?_; rintro _ ou _ ca lv ⟨dp, rfl, rfl, cp⟩
     replace a6 := a6.mono (Ak (Ae _)) ca
     replace bu := bu.mono (Ae _) ca
     refine AD (ln rfl) (Aa (Ap ?_))
     refine HV db (encs := (fun x : Int => #[.int .i64 x])) (xs := y2) rfl call115 rfl (fun _ => rfl) cp (fun pre F1 L1 => ∃ (cu : List Int), y2 = pre ++ cu ∧ G6 table k2 x x2 (EH table aa ad rows k2 x (DX table aa ad rows gw) oi) cu = some (r, r2) ∧ L1 = [(aq, ce #[.int .i64 x2] 3), (bk, ce #[.slice bq x.length br] 22), (bj, ce #[.int .i64 k2] 3), (b4, ce #[.int .i64 0] 30), (b3, ce #[.int .i64 0] 3), (b2, ce #[.slice Bl table.length Bk] 23), (ar, .map ae ah)]) (fun c F1 L1 => c = .ret ∧ J0 = some (r, r2) ∧ L1 = [(b4, ce #[.int .i64 8] 30), (b3, ce #[.int .i64 0] 3)]) ?_ ?_ ?_ ?_ ?_ ?_
     ·rintro pre F1 F2 L1 ⟨cu, aw, j3, rfl⟩ hx; exact ⟨cu, aw, j3, rfl⟩
     ·rintro c F1 F2 L1 ⟨rfl, hq, rfl⟩ hx; exact ⟨rfl, hq, rfl⟩
     ·exact ⟨_, rfl, j2, rfl⟩
     ·rintro ow lx ly lz ma mb j4 mc pre x4 rb bn oy _ cb ⟨cu, aw, dq, rfl⟩
      obtain rfl := Dr aw bn
      rw [G6] at dq
      replace a6 := a6.mono (Ak (Ae _)) cb
      replace bu := bu.mono (Ae _) cb
      refine Az [(3, .pointer (some ⟨b2, 0, none⟩)), (4, .pointer (some ⟨b3, 0, none⟩)), (5, .pointer (some ⟨b4, 0, none⟩)), (6, .pointer (some ⟨bp, 0, none⟩)), (8, .pointer (some ⟨bj, 0, none⟩)), (9, .pointer (some ⟨bk, 0, none⟩)), (10, .pointer (some ⟨aq, 0, none⟩)), (40, .slice Bl table.length Bk), (41, .int .i64 (table.length : Int)), (42, .int .i64 k2), (50, .int .i64 x2), (67, .func (.func 115) #[] dp), (68, .int .i64 x4)] (by exact (sc rfl (sc rfl (sc rfl (sc rfl (sc rfl z8)))))) ?_
      refine An (ua (Aa ?_))
      refine ⟨rfl, ?_⟩
      refine Ap (dW (wv (Ao isAgg22 rfl (Has.own 1 rfl) rfl) (wv (Ao isAgg3 rfl (Has.own 0 rfl) rfl) ?_)))
      obtain ⟨x5, dr, dt, j5⟩ := A7 dq
      obtain ⟨oz, p0, p3, me, du, dv, j6, rfl, mg, dw⟩ := Au.at (Ae _) bu ([(aq, ce #[.int .i64 x2] 3), (bk, ce #[.slice bq x.length br] 22), (bj, ce #[.int .i64 k2] 3), (b4, ce #[.int .i64 0] 30), (b3, ce #[.int .i64 0] 3), (b2, ce #[.slice Bl table.length Bk] 23), (ar, .map ae ah)]) dr.1 dt
      refine wv (AF underlying22 sizeOf3 rfl du rfl dr) (wv (Ao isAgg3 rfl dv (dw 0 (by decide))) (wv (Ao isAgg23 rfl (Has.own 5 rfl) rfl) (wv (Ao isAgg3 rfl (Has.own 2 rfl) rfl) ?_)))
      obtain ⟨j7, j8⟩ := AX j5
      refine wv (C7 rfl rfl j7) ?_
      obtain ⟨x6, dx, dy, j9⟩ := A7 j8
      obtain ⟨p4, p5, p6, mh, dz, eb, ja, ⟨p7, p8, rfl, jb⟩, mj, ec⟩ := Au.at (Ak (Ae _)) a6 ([(aq, ce #[.int .i64 x2] 3), (bk, ce #[.slice bq x.length br] 22), (bj, ce #[.int .i64 k2] 3), (b4, ce #[.int .i64 0] 30), (b3, ce #[.int .i64 0] 3), (b2, ce #[.slice Bl table.length Bk] 23), (ar, .map ae ah)]) dx.1 dy
      refine wv (AF underlying23 sizeOf22 rfl dz rfl dx) (wv (Ao isAgg22 rfl eb (ec 0 (by decide))) (wm ?_))
      obtain ⟨x7, ef, eg, jc⟩ := A7 j9
      obtain ⟨p9, pa, pb, ml, eh, ei, jd, rfl, mn, ej⟩ := Au.at (Ae _) jb ([(aq, ce #[.int .i64 x2] 3), (bk, ce #[.slice bq x.length br] 22), (bj, ce #[.int .i64 k2] 3), (b4, ce #[.int .i64 0] 30), (b3, ce #[.int .i64 0] 3), (b2, ce #[.slice Bl table.length Bk] 23), (ar, .map ae ah)]) ef.1 eg
      refine wv (AF underlying22 sizeOf3 rfl eh rfl ef) (wv (Ao isAgg3 rfl ei (ej 0 (by decide))) (wm (wv (Ao isAgg3 rfl (Has.own 0 rfl) rfl) ?_)))
      obtain ⟨n3, je, jf⟩ := AB jc
      refine DL rfl call73 rfl rfl rfl (DU je) ?_
      obtain ⟨jg, en⟩ := AX jf
      refine wv (AY rfl rfl jg) (wv (Em rfl rfl) (BV ?_))
      refine cQ (fun cq => ?_) fun cq => ?_
      ·have jh := AQ en cq
       refine AI (A0 (i := 4) sizeOf3 rfl rfl rfl rfl (A5 rfl) (AD rfl (A0 (i := 3) sizeOf30 rfl rfl rfl rfl (A5 rfl) (AD rfl ?_))))
       refine Aa (As (Ay ?_))
       refine ⟨[(b4, ce #[.int .i64 8] 30), (b3, ce #[.int .i64 0] 3)], ⟨_, .refl _, s1 (s1 (s1 (s2 (s2 (s1 (s1 sr))))))⟩, ?_⟩; exact ⟨rfl, jh, rfl⟩
      have ji := AR en cq
      refine Aq (Ax (id := 6) ?_)
      refine ⟨[(aq, ce #[.int .i64 x2] 3), (bk, ce #[.slice bq x.length br] 22), (bj, ce #[.int .i64 k2] 3), (b4, ce #[.int .i64 0] 30), (b3, ce #[.int .i64 0] 3), (b2, ce #[.slice Bl table.length Bk] 23), (ar, .map ae ah)], ⟨_, .refl _, sr⟩, ?_⟩; exact ⟨_, (by rw [bn]; simp), ji, rfl⟩
     ·rintro pd _ mo ⟨cu, aw, eo, rfl⟩
      obtain rfl := D8 aw; rw [G6] at eo
      refine Ax (id := 5) (Ax (id := 4) ?_)
      refine ⟨[(bk, ce #[.slice bq x.length br] 22), (bj, ce #[.int .i64 k2] 3), (b4, ce #[.int .i64 0] 30), (b3, ce #[.int .i64 0] 3), (b2, ce #[.slice Bl table.length Bk] 23), (ar, .map ae ah)], ⟨_, .refl _, s1 (s2 (s2 (s2 (s2 (s2 (s2 sr))))))⟩, ?_⟩; exact ⟨_, (by rw [bc]; simp), eo, rfl⟩
     rintro _ pe _ mq ⟨rfl, ep, rfl⟩
     rw [J0] at ep
     refine As (Ay (Ay ?_))
     refine ⟨[(b4, ce #[.int .i64 8] 30), (b3, ce #[.int .i64 0] 3)], ⟨_, .refl _, sr⟩, ?_⟩; exact ⟨rfl, ep, rfl⟩
    ·rintro pf _ er ⟨ct, av, et, rfl⟩
     obtain rfl := D8 av; rw [EH] at et
     refine Ax (id := 3) (Ax (id := 2) ?_)
     exact mi (kd (kd kr)) ⟨et, (aj.trans er), rfl, z7⟩
    rintro _ pg _ mr ⟨rfl, eu, rfl⟩
    rw [It] at eu
    refine As (Ay (Ay (Al (Al (Ay (Al ?_))))))
    refine Bu results36 (HM isAgg3 rfl (Has.own 1 rfl) rfl) (HM isAgg30 rfl (Has.own 0 rfl) rfl) (s1 (s1 sr)) ?_
    obtain ⟨rfl, rfl⟩ := BT eu
    exact rfl
   rintro e1 ph _ ⟨ew, cc, rfl, ey⟩
   refine Az _ ey ?_
   replace a6 := a6.mono (Ak (Ae _)) cc
   rw [JE] at ew
   refine An (uv (AY rfl rfl (A8.CC cf ga (Au.lt a6))) ?_)
   refine um (Aa ?_)
   subst gu; exact le kr ⟨_, _, rfl, gy, ew, (au.trans cc), rfl, z7⟩
  obtain rfl := A8.zero cf ga
  rw [DX] at g8
  refine AL (Am (Am ?_))
  refine AA ?_
  exact mi kr ⟨g8, au, rfl, z4⟩
 rintro e1 pj _ ⟨ez, ao, rfl, fa⟩
 refine Az _ fa ?_
 replace a6 := a6.mono (Ak (Ae _)) ao
 replace az := az.mono (Ak (Ae _)) ao
 replace ba := ba.mono (Ak (Ae _)) ao
 replace bb := bb.mono (Bg (n := 64) (sz := 1) BU) ao
 replace ai := ao _ _ ai
 replace ak := ao _ _ ak
 rw [JQ] at ez
 refine AI ?_
 refine A1 rfl zeroValue3 ?_; intro bd mu
 refine A0 (i := 0) sizeOf3 rfl rfl rfl rfl (A5 rfl) (AD rfl (Aa ?_))
 obtain ⟨out, jj, fb⟩ := AB ez
 refine jF ([(bd, ce #[.int .i64 out] 3), (b4, ce #[.int .i64 0] 30), (b3, ce #[.int .i64 0] 3)]) [(4, .pointer (some ⟨b3, 0, none⟩)), (5, .pointer (some ⟨b4, 0, none⟩)), (12, .pointer (some ⟨bd, 0, none⟩))] ?_ fun pk mv => ?_
 ·clear fb
  refine AI (uv (Ao isAgg45 rfl (Has.frozen ak) rfl) (uv (Ao isAgg23 rfl (Has.own 3 rfl) rfl) (uv (AJ underlying23 rfl) ?_)))
  obtain ⟨jk, jl⟩ := AX jj
  refine uv (C7 rfl rfl jk) ?_
  obtain ⟨y3, jm, jn⟩ := AB jl
  refine c0 call70 (Bt ai az ba bb jm) ?_; rintro _ pn _ cd mw ⟨fe, rfl, rfl, cr⟩
  replace a6 := a6.mono (Ak (Ae _)) cd
  refine AD (ln rfl) (Aa (Ap (kW (kc (kc (kc (kc kn)))) ?_)))
  refine Cu (encs := (fun x : Int => #[.int .i64 x])) (xs := y3) rfl call115 rfl (fun _ => rfl) cr (fun pre F1 L1 => ∃ (cv : List Int) (ax : Int), y3 = pre ++ cv ∧ G2 table cv ax = some out ∧ L1 = [(bd, ce #[.int .i64 ax] 3), (b4, ce #[.int .i64 0] 30), (b3, ce #[.int .i64 0] 3), (b2, ce #[.slice Bl table.length Bk] 23)]) (fun _ _ _ => False) ?_ ?_ ?_ ?_ ?_ ?_
  ·rintro pre F1 F2 L1 ⟨cv, ax, ay, jo, rfl⟩ hx; exact ⟨cv, ax, ay, jo, rfl⟩
  ·intro c F1 F2 L1 h hx; exact h
  ·exact ⟨_, 100, rfl, jn, rfl⟩
  ·rintro po mx my mz na nc jq nf pre x8 re bo pq _ ff ⟨cv, ax, ay, fg, rfl⟩
   obtain rfl := Dr ay bo
   rw [G2] at fg
   replace a6 := a6.mono (Ak (Ae _)) ff
   refine Az [(3, .pointer (some ⟨b2, 0, none⟩)), (4, .pointer (some ⟨b3, 0, none⟩)), (5, .pointer (some ⟨b4, 0, none⟩)), (12, .pointer (some ⟨bd, 0, none⟩)), (91, .func (.func 115) #[] fe), (92, .int .i64 x8)] (by exact z6) ?_
   refine An (ua (Aa ?_))
   refine ⟨rfl, ?_⟩
   refine Ap (Bd [(.still, 0), (.still, 1), (.still, 2), (.still, 3), (.still, 4), (.still, 5), (.still, 6), (.still, 7), (.still, 8), (.still, 9), (.seq, 10), (.seq, 11), (.seq, 12)] (by kernel_rfl) (by kernel_rfl) (trivial) (by rfl) (by kernel_rfl) (mL [12] ([(bd, ce #[.int .i64 ax] 3)]) rfl (s0 (s2 (s1 (s1 (s1 sr))))) (fun H F' L' bx bz => Ao isAgg3 rfl ((Has.own 0 rfl).ext bx bz) rfl) (mL [3] ([(b2, ce #[.slice Bl table.length Bk] 23)]) rfl (s0 (s1 (s1 (s1 (s2 sr))))) (fun H F' L' bx bz => Ao isAgg23 rfl ((Has.own 0 rfl).ext bx bz) rfl) (mL [3] ([(b2, ce #[.slice Bl table.length Bk] 23)]) rfl (s0 (s1 (s1 (s1 (s2 sr))))) (fun H F' L' bx bz => Ao isAgg23 rfl ((Has.own 0 rfl).ext bx bz) rfl) (mS [95] rfl (AJ underlying23 rfl) ?_)))))
   obtain ⟨jr, js⟩ := AX fg
   refine mS (v := .int .i64 ((table.length : Int) - 1)) [96] rfl (C7 rfl rfl jr) ?_
   obtain ⟨x9, fh, fi, jt⟩ := A7 js
   obtain ⟨pr, pt, pv, ng, fj, fk, ju, ⟨pw, px, rfl, jv⟩, nh, fl⟩ := Au.at (Ak (Ae _)) a6 ([]) fh.1 fi
   refine mS [94, 97] rfl (AF underlying23 sizeOf22 rfl fj rfl fh) (mL [98] ([]) rfl sm (fun H F' L' bx bz => Ao isAgg22 rfl (fk.ext bx bz) (fl 0 (by decide))) (mS [13] rfl (Bj rfl) ?_))
   obtain ⟨cw, fm, fo, jw⟩ := A7 jt
   obtain ⟨py, pz, q0, ni, fp, fq, jx, rfl, nj, fs⟩ := Au.at (Ae _) jv ([]) fm.1 fo
   refine mS [99, 100] rfl (AF underlying22 sizeOf3 rfl fp rfl fm) (mL [101] ([]) rfl sm (fun H F' L' bx bz => Ao isAgg3 rfl (fq.ext bx bz) (fs 0 (by decide))) ?_)
   refine ⟨_, [(102, .int .i64 cw)], rfl, rfl, z1, by kernel_rfl, ?_⟩; intro H
   refine bA (cs := #[.int .i64 cw]) BN [.int .i64 cw] ?_; intro ft fv
   refine Aa ⟨_, rfl, AN.refl _, [3, 2, 0], by kernel_rfl, .inl (.inr (fun d h => by cases h; rfl)), (fc sm (fc (s0 (s1 (s1 (s1 (s1 (s2 sr)))))) (fc (s0 (s1 (s2 (s1 (s1 (s1 sr)))))) nm))), ?_⟩
   refine ⟨_, [(93, .int .i64 ax), (103, .slice (some ⟨ft, 0, none⟩) 1 1)], rfl, rfl, z2, by kernel_rfl, ?_⟩; intro H
   refine AO 0 rfl fv ?_; intro jz fw fx
   refine AD rfl ?_
   have kb : Au 1 (iE .i64) jz (some ⟨ft, 0, none⟩) 1 [cw] := Au.AG (Ae _) (vss := [[.int .i64 cw]]) (xs := [cw]) fx (.cons rfl .nil) rfl (by simp [maxLen])
   obtain ⟨n4, kh, kj⟩ := AB jw
   refine cV call72 (GD kb kh) ?_
   refine Aa ⟨_, rfl, fw, [3, 2], by kernel_rfl, .inl (.inr (fun d h => by cases h; rfl)), (fc sm (fc (s0 (s1 (s1 (s1 (s2 sr))))) nm)), ?_⟩
   refine ⟨_, [(12, .pointer (some ⟨bd, 0, none⟩)), (104, .int .i64 n4)], rfl, rfl, z2, by kernel_rfl, ?_⟩; intro H
   refine A0 (i := 0) sizeOf3 rfl rfl rfl rfl (A5 rfl) (AD rfl ?_)
   refine Aa ⟨undef, rfl, AN.refl _, [], by kernel_rfl, .inl (.inl rfl), nm, ?_⟩
   refine BC (Ax (id := 8) ?_)
   refine ⟨[(bd, ce #[.int .i64 n4] 3), (b4, ce #[.int .i64 0] 30), (b3, ce #[.int .i64 0] 3), (b2, ce #[.slice Bl table.length Bk] 23)], ⟨_, .refl _, sr⟩, ?_⟩; exact ⟨_, n4, (by rw [bo]; simp), kj, rfl⟩
  ·rintro qb _ fy ⟨cv, ax, ay, g0, rfl⟩
   obtain rfl := D8 ay; rw [G2] at g0
   refine Ax (id := 7) ?_
   obtain rfl := AH g0
   exact mi (kc (kc (kc kn))) ⟨(cd.trans fy), rfl, z3⟩
  intro c F1 L1 hx h; exact h.elim
 refine AI (uv (Ao isAgg3 rfl (Has.own 0 rfl) rfl) (A0 (i := 2) sizeOf3 rfl rfl rfl rfl (A5 rfl) (AD rfl (A0 (i := 1) sizeOf30 rfl rfl rfl rfl (A5 rfl) (AD rfl (Aa (kW (kd kr) ?_)))))))
 refine As (Bu results36 (HM isAgg3 rfl (Has.own 1 rfl) rfl) (HM isAgg30 rfl (Has.own 0 rfl) rfl) (s1 (s1 sr)) ?_)
 obtain ⟨rfl, rfl⟩ := BT fb
 exact rfl
set_option maxHeartbeats 1000000 in
theorem MA {bl : (List (List Int)) → (List (List Int)) → Int → Option ((List (List Int)))} (cw : ∀ {Ac : Option Addr} {Ad : Nat} {Ab : List (List Int)} {Aj : Option Addr} {Ai : Nat} {Af : List (List Int)} {hour : Int} {F : FS} (_ : Au 1 (Bm 1 (iE .i64)) F Ac Ad Ab) (_ : Au 1 (Bm 1 (iE .i64)) F Aj Ai Af) {r : List (List Int)} , bl Ab Af hour = some r → SH.Spec Tryz.prog 94 #[.agg #[.slice Ac Ab.length Ad, .slice Aj Af.length Ai], .int .i64 hour] F [] fun F' L' v => ∃ (ra : Option Addr) (rn : Nat) (rc : Nat) (rL : LH), v = .slice ra rn rc ∧ L' = rL ++ [] ∧ AW 0 22 1 (Bm 1 (iE .i64)) F' ra rn rc r rL) (a6 : Au 1 (Bm 1 (iE .i64)) F Ac Ad Ab) (ad : Au 1 (Bm 1 (iE .i64)) F Aj Ai Af) {r : List (List Int)} (hr : JF bl Ab Af hour = some r) :
    SH.Spec Tryz.prog 94 #[.agg #[.slice Ac Ab.length Ad, .slice Aj Af.length Ai], .int .i64 hour] F [] fun F' L' v => ∃ (ra : Option Addr) (rn : Nat) (rc : Nat) (rL : LH), v = .slice ra rn rc ∧ L' = rL ++ [] ∧ AW 0 22 1 (Bm 1 (iE .i64)) F' ra rn rc r rL := by
 refine sp func94 ntmps94 fun K _ _ => ?_
 rw [JF] at hr
 refine AI ?_
 refine By rfl rfl ?_; intro b1 gp
 refine ua (Aa (At (AI (um ?_))))
 refine uv (Av DQ rfl) (uv (Ao isAgg23 rfl (Has.own 0 rfl) rfl) (uv (AJ underlying23 rfl) (uv (Bb rfl rfl) (Aa ?_))))
 refine cQ (fun c2 => ?_) fun c2 => ?_
 ·have r3 := AQ hr c2
  refine AI ?_
  refine bA (cs := #[.slice none 0 0]) FP [.slice none 0 0] ?_; intro b4 fw
  have fe : AW K.w0.heap.size 22 1 (Bm 1 (iE .i64)) F (some ⟨b4, 0, none⟩) 1 1 [[]] [(b4, ce #[.slice none 0 0] 22)] := AW.AG (vss := [[.slice none 0 0]]) (Ak (Ae _)) fw (.cons ⟨_, _, rfl, Au.nil _ _ _⟩ .nil) rfl rfl (by simp [maxLen])
  generalize bm : ([(b4, ce #[.slice none 0 0] 22)] : LH) = Lb5 at fe
  refine BK (L' := Lb5 ++ [(b1, ce #[.slice Ac Ab.length Ad, .slice Aj Af.length Ai] 51)]) (by rw [← bm]; exact fO) ?_
  refine BK (L' := (b1, ce #[.slice Ac Ab.length Ad, .slice Aj Af.length Ai] 51) :: (Lb5 ++ [])) (List.Perm.symm (fC fP)) ?_
  refine ua (Aa ?_)
  refine kW (kd kr) ?_
  refine As (Al ?_)
  refine BD results94 ?_
  obtain rfl := AH r3
  exact ⟨_, _, _, _, rfl, rfl, fe.any⟩
 have r8 := AR hr c2
 refine Aq (AI ?_)
 refine uv (AE isAgg51 sizeOf51 rfl (Has.own 0 rfl) (A5 rfl) rfl) (um ?_)
 obtain ⟨g9, fx⟩ := AX r8
 refine uv (AY rfl rfl g9) ?_
 obtain ⟨l, fy, g0⟩ := AB fx
 refine c0 call94 (cw a6 ad fy) ?_; rintro _ gq _ bn cx ⟨cy, cz, da, ah, rfl, rfl, aa⟩
 replace a6 := a6.mono (Ak (Ae _)) bn
 replace ad := ad.mono (Ak (Ae _)) bn
 replace aa := aa.new fun p hp => cx p (by simp [hp])
 refine AD (lp (ln rfl)) (kO (kf (fS fO) kr) ?_)
 refine ua (BI ?_)
 refine uv (AE isAgg51 sizeOf51 rfl (Has.own 0 rfl) (A5 rfl) rfl) (um ?_)
 obtain ⟨l2, g8, ga⟩ := AB g0
 refine c0 call84 (G8 a6 ad g8) ?_; rintro _ ff _ db dd ⟨de, df, dg, ai, rfl, rfl, ab⟩
 replace aa := aa.mono (Ak (Ae _)) db
 replace ab := ab.new fun p hp => dd p (by simp [hp])
 refine AD (lp (ln rfl)) (kO (kf (fS fO) kr) ?_)
 refine ua (BI (ua (Aa ?_)))
 obtain ⟨out, gb, fg⟩ := AB ga
 refine AK (fun e1 F1 L1 => ∃ (dh : Option Addr) (di : Nat) (dk : Nat) (bd : LH), AN ff F1 ∧ L1 = (bd ++ []) ∧ e1.sub [(7, .slice dh di dk)] ∧ AW K.w0.heap.size 22 1 (Bm 1 (iE .i64)) F1 dh di dk out bd) ?_ ?_
 ·clear fg
  refine AI (ua (Aa ?_))
  refine Ap (kW (kd kr) ?_)
  refine A2 (fun fh e1 F1 L1 => LA l2 fh fun tl i => ∃ (al : List (List Int)) (bo : Option Addr) (bp : Nat) (bq : Nat) (aj : LH), E4 l tl al = some out ∧ AN ff F1 ∧ L1 = (ah ++ (ai ++ (aj ++ []))) ∧ e1.sub [(5, .slice cy cz da), (6, .slice de df dg), (7, .slice bo bp bq), (8, .int .i64 i)] ∧ AW K.w0.heap.size 22 1 (Bm 1 (iE .i64)) F1 bo bp bq al aj) _ (m0 (kg (fS fP) (ka (ke kr))) ⟨_, _, rfl, A8.start _, [], none, 0, 0, [], gb, AN.refl _, rfl, z4, AW.nil _ _ _ _ _⟩) ?_
  rintro fh e1 fi _ ⟨tl, i, dm, bg, al, bo, bp, bq, aj, cn, ao, rfl, dp, br⟩
  refine Az _ dp ?_
  replace aa := aa.mono (Ak (Ae _)) ao
  replace ab := ab.mono (Ae _) ao
  refine At (AI (um (um ?_)))
  refine uv ((AJ underlying22 rfl).i (AW.GN ab)) (uv (AV rfl rfl) (Aa ?_))
  refine cQ (fun cp => ?_) fun cp => ?_
  ·obtain ⟨x, gr, rfl, dq, fj, dr⟩ := A8.succ bg cp
   rw [E4] at cn
   refine Aq ?_
   obtain ⟨bh, gg, fk⟩ := AB cn
   refine AK (fun e1 F1 L1 => ∃ (cq : Option Addr) (cr : Nat) (ct : Nat) (aq : LH), AN fi F1 ∧ L1 = (ah ++ (ai ++ (aq ++ []))) ∧ e1.sub [(5, .slice cy cz da), (6, .slice de df dg), (7, .slice cq cr ct), (8, .int .i64 i)] ∧ AW K.w0.heap.size 22 1 (Bm 1 (iE .i64)) F1 cq cr ct bh aq) ?_ ?_
   ·clear fk
    refine Ap ?_
    refine AI (ua (Aa ?_))
    refine Ap ?_
    refine A2 (fun fl e1 F1 L1 => LA l fl fun fm k => ∃ (ar : List (List Int)) (bu : Option Addr) (bw : Nat) (bx : Nat) (ak : LH), EX x fm ar = some bh ∧ AN fi F1 ∧ L1 = (ah ++ (ai ++ (ak ++ []))) ∧ e1.sub [(5, .slice cy cz da), (6, .slice de df dg), (7, .slice bu bw bx), (8, .int .i64 i), (9, .int .i64 k)] ∧ AW K.w0.heap.size 22 1 (Bm 1 (iE .i64)) F1 bu bw bx ar ak) _ (m0 kr ⟨_, _, rfl, A8.start _, al, bo, bp, bq, aj, gg, AN.refl _, rfl, z5, br⟩) ?_
    rintro fl e1 gh _ ⟨fm, k, dt, bj, ar, bu, bw, bx, ak, cu, au, rfl, du, av⟩
    refine Az _ du ?_
    replace aa := aa.mono (Ak (Ae _)) au
    replace ab := ab.mono (Ae _) au
    refine At (AI (um (um ?_)))
    refine uv ((AJ underlying23 rfl).i (AW.GN aa)) (uv (AV rfl rfl) (Aa ?_))
    refine cQ (fun cv => ?_) fun cv => ?_
    ·obtain ⟨x2, gu, rfl, dv, fo, dw⟩ := A8.succ bj cv
     rw [EX] at cu
     refine Aq (At ?_)
     refine Ap (Bd [(.still, 0), (.still, 1), (.still, 2), (.still, 3), (.still, 4), (.still, 6), (.still, 7), (.still, 8), (.still, 9), (.seq, 5), (.seq, 10), (.seq, 11), (.seq, 12), (.seq, 13)] (by kernel_rfl) (by kernel_rfl) (trivial) (by rfl) (by kernel_rfl) (mS [7] rfl (Bj rfl) (mS [6] rfl (Bj rfl) (mS [8] rfl (Bj rfl) ?_))))
     obtain ⟨gv, gw, gx, gi, dx, dy, fp, rfl, gj, dz⟩ := AW.at (Ae _) ab (L := ai ++ []) fP fj.1 dq
     refine mS [36, 37] rfl (AF underlying22 sizeOf3 rfl dx rfl (AW.idx ab fj)) (mL [38] (ai ++ []) rfl (s0 (s3 (s4 (s3 sr)))) (fun H F' L' eb ec => Ao isAgg3 rfl (dy.ext eb ec) (dz 0 (by decide))) (mS [5] rfl (Bj rfl) (mS [9] rfl (Bj rfl) ?_)))
     obtain ⟨gy, gz, ia, gk, ef, eg, eh, ⟨ei, ej, rfl, en⟩, fq, bz⟩ := AW.at (Ak (Ae _)) aa (L := ah ++ []) fP fo.1 dv
     refine mS [41, 42] rfl (AF underlying23 sizeOf22 rfl ef rfl (AW.idx aa fo)) (mL [43] (ah ++ []) rfl (s0 (s4 (s3 (s3 sr)))) (fun H F' L' eb ec => Ao isAgg22 rfl (eg.ext eb ec) (bz 0 (by decide))) ?_)
     refine ⟨_, [(39, .int .i64 x)], rfl, rfl, z1, by kernel_rfl, ?_⟩; intro H
     refine bA (cs := #[.int .i64 x]) BN [.int .i64 x] ?_; intro aw ca
     refine Aa ⟨_, rfl, AN.refl _, [9, 8, 7, 6, 0], by kernel_rfl, .inl (.inr (fun d h => by cases h; rfl)), (fc (s0 (s1 (s4 (s3 (s3 sr))))) (fc sm (fc sm (fc sm (fc sm nm))))), ?_⟩
     refine ⟨_, [(40, .slice (some ⟨aw, 0, none⟩) 1 1), (44, .slice ei x2.length ej)], rfl, rfl, z2, by kernel_rfl, ?_⟩; intro H
     have ba : AW K.w0.heap.size 3 1 (iE .i64) gh (some ⟨aw, 0, none⟩) 1 1 [x] [(aw, ce #[.int .i64 x] 3)] := AW.AG (vss := [[.int .i64 x]]) (Ae _) ca (.cons rfl .nil) rfl rfl (by simp [maxLen])
     generalize ax : ([(aw, ce #[.int .i64 x] 3)] : LH) = Lb107 at ba
     refine BK (L' := Lb107 ++ (ah ++ (ai ++ (ak ++ [])))) (by rw [← ax]; exact fO) ?_
     obtain ⟨l3, eo, ep, er⟩ := E0 cu
     refine Dm (xs := [x]) (ys := x2) (zs := l3) rfl BN rfl rfl (Nat.le_refl _) (fun _ => .h) ba (Au.src en) eo ep (by decide) ?_; intro ay bk az fs bb
     refine Aa ⟨_, rfl, AN.refl _, [0], by kernel_rfl, .inl (.inr (fun d h => by cases h; rfl)), (fc sm nm), ?_⟩
     refine ⟨_, [(45, .slice ay bk az)], rfl, rfl, z1, by kernel_rfl, ?_⟩; intro H
     refine bA (cs := #[.slice ay bk az]) FP [.slice ay bk az] ?_; intro et ft
     refine Aa ⟨_, rfl, AN.refl _, [0], by kernel_rfl, .inl (.inr (fun d h => by cases h; rfl)), (fc sm nm), ?_⟩
     refine ⟨_, [(35, .slice bu bw bx), (46, .slice (some ⟨et, 0, none⟩) 1 1)], rfl, rfl, z2, by kernel_rfl, ?_⟩; intro H
     obtain rfl := (AW.Be bb).1
     refine Fa (Nat.le_refl _) (Ae _) (fC fP) bb ?_; intro gl ae eu
     replace aa := aa.mono (Ak (Ae _)) ae
     replace av := av.mono (Ak (Ae _)) ae
     obtain ⟨l4, ew, ey, ez⟩ := E0 er
     refine Dm (xs := ar) (ys := [l3]) (zs := l4) rfl FP rfl rfl (Nat.le_refl _) (fun _ => .c (.s (.s .h))) av (GO.box (vss := [[.slice ay l3.length az]]) (ys := [l3]) 0 rfl (Ak (Ae _)) (.cons ⟨_, _, rfl, eu⟩ .nil) rfl rfl) ew ey (by decide) ?_; intro cb cc cd cf cg
     refine kO (kd kr) ?_
     refine Aa ⟨_, rfl, ae, [], by kernel_rfl, .inl (.inl rfl), nm, ?_⟩
     refine ⟨_, [(47, .slice cb cc cd)], rfl, rfl, z1, by kernel_rfl, ?_⟩; intro H
     refine ua ?_
     refine Aa ⟨_, rfl, AN.refl _, [], by kernel_rfl, .inl (.inl rfl), nm, ?_⟩
     refine BC ?_
     refine Ax (id := 3) (An (um ?_))
     refine uv (AY rfl rfl (A8.CC bj cv (AW.O6 aa))) ?_
     refine ua (Aa ?_)
     subst dt; exact le kr ⟨_, _, rfl, dw, l4, cb, cc, cd, cf, ez, (au.trans ae), rfl, z5, cg⟩
    obtain rfl := A8.zero bj cv
    rw [EX] at cu
    refine AL (Am (Am ?_))
    refine AA (Ax (id := 1) ?_)
    obtain rfl := AH cu
    exact mi kr ⟨bu, bw, bx, ak, au, rfl, z4, av⟩
   rintro e1 gm _ ⟨cq, cr, ct, aq, bc, rfl, cj, fa⟩
   refine Az _ cj ?_
   replace ab := ab.mono (Ae _) bc
   refine An (um ?_)
   refine uv (AY rfl rfl (A8.CC bg cp (AW.O6 ab))) ?_
   refine ua (Aa ?_)
   subst dm; exact le kr ⟨_, _, rfl, dr, bh, cq, cr, ct, aq, fk, (ao.trans bc), rfl, z4, fa⟩
  obtain rfl := A8.zero bg cp
  rw [E4] at cn
  refine AL (Am (Am ?_))
  refine AA ?_
  obtain rfl := AH cn
  exact mi (kx (kx kr)) ⟨bo, bp, bq, aj, ao, rfl, z1, br⟩
 rintro e1 gn _ ⟨dh, di, dk, bd, fv, rfl, ck, fb⟩
 refine Az _ ck ?_
 refine AI (um (ua (Aa (As ?_))))
 refine BD results94 ?_
 obtain rfl := AH fg
 exact ⟨_, _, _, _, rfl, rfl, fb.any⟩
theorem Jh : ∀ (fu : Nat) {Ac : Option Addr} {Ad : Nat} {Ab : List (List Int)} {Aj : Option Addr} {Ai : Nat} {Af : List (List Int)} {hour : Int} {F : FS} (_ : Au 1 (Bm 1 (iE .i64)) F Ac Ad Ab) (_ : Au 1 (Bm 1 (iE .i64)) F Aj Ai Af) {r : List (List Int)} , Fm fu Ab Af hour = some r → SH.Spec Tryz.prog 94 #[.agg #[.slice Ac Ab.length Ad, .slice Aj Af.length Ai], .int .i64 hour] F [] fun F' L' v => ∃ (ra : Option Addr) (rn : Nat) (rc : Nat) (rL : LH), v = .slice ra rn rc ∧ L' = rL ++ [] ∧ AW 0 22 1 (Bm 1 (iE .i64)) F' ra rn rc r rL := by
  intro fu
  induction fu with
  | zero => intros; rename_i hr; rw [Fm] at hr; cases hr
  | succ fu ih => intros; rename_i hr; rw [Fm] at hr; exact MA ih (by assumption) (by assumption) hr
set_option maxHeartbeats 1000000 in
theorem Ii (a6 : Au 1 (Bm 1 (iE .i64)) F Ac Ad Ab) (aa : Au 1 (Bm 1 (iE .i64)) F Aj Ai Af) {r : List (List Int)} (hr : FJ Ab Af = some r) :
    SH.Spec Tryz.prog 39 #[.agg #[.slice Ac Ab.length Ad, .slice Aj Af.length Ai]] F [] fun F' L' v => ∃ (ra : Option Addr) (rn : Nat) (rc : Nat) (rL : LH), v = .slice ra rn rc ∧ L' = rL ++ [] ∧ AW 0 22 1 (Bm 1 (iE .i64)) F' ra rn rc r rL := by
 refine sp func39 ntmps39 fun K _ _ => ?_
 rw [FJ] at hr
 refine AI ?_
 refine By rfl rfl ?_; intro b1 fk
 refine ua (BI ?_)
 refine uv (AE isAgg51 sizeOf51 rfl (Has.own 0 rfl) (A5 rfl) rfl) ?_
 obtain ⟨l, h2, r3⟩ := AB hr
 refine c0 call94 ((Jh FU) a6 aa h2) ?_; rintro _ F4 _ dh ec ⟨a8, br, c9, ah, rfl, rfl, ab⟩
 replace a6 := a6.mono (Ak (Ae _)) dh
 replace aa := aa.mono (Ak (Ae _)) dh
 replace ab := ab.new fun p hp => ec p (by simp [hp])
 refine AD (lp (ln rfl)) (kO (kf (fS fO) kr) (ua (dN (wv (AE isAgg51 sizeOf51 rfl (Has.own 0 rfl) (A5 rfl) rfl) (wm ?_)))))
 obtain ⟨x, di, bu, ef⟩ := A7 r3
 obtain ⟨fl, fm, fo, eg, bw, bx, dk, ⟨fp, fq, rfl, eh⟩, ei, bz⟩ := AW.at (Ak (Ae _)) ab (L := (b1, ce #[.slice Ac Ab.length Ad, .slice Aj Af.length Ai] 51) :: (ah ++ [])) (fC fP) di.1 bu
 refine wv (AF underlying23 sizeOf22 rfl bw rfl (AW.idx ab di)) (wv (Ao isAgg22 rfl bx (bz 0 (by decide))) ?_)
 obtain ⟨n, ej, en⟩ := AB ef
 refine DL rfl call40 rfl rfl rfl (Da a6 aa eh ej) ?_
 refine wa (BV ?_)
 obtain ⟨ad, eo, dm⟩ := AB en
 refine jE (((b1, ce #[.slice Ac Ab.length Ad, .slice Aj Af.length Ai] 51) :: (ah ++ []))) [(1, .pointer (some ⟨b1, 0, none⟩)), (3, .slice a8 br c9), (4, .int .i64 ad)] ?_ ?_
 ·clear dm
  refine AI (ua (Aa ?_))
  refine Ap ?_
  refine A2 (fun dp e1 F1 L1 => LA l dp fun tl i => ∃ (ae : Int), Eg Ab Af tl ae = some ad ∧ F4 = F1 ∧ L1 = ((b1, ce #[.slice Ac Ab.length Ad, .slice Aj Af.length Ai] 51) :: (ah ++ [])) ∧ e1.sub [(1, .pointer (some ⟨b1, 0, none⟩)), (3, .slice a8 br c9), (4, .int .i64 ae), (5, .int .i64 i)]) _ (m0 kr ⟨_, _, rfl, A8.start _, n, eo, rfl, rfl, z4⟩) ?_
  rintro dp e1 _ _ ⟨tl, i, ca, ao, ae, bn, rfl, rfl, cb⟩
  refine Az _ cb ?_
  refine At (AI (um (um ?_)))
  refine uv ((AJ underlying23 rfl).i (AW.GN ab)) (uv (AV rfl rfl) (Aa ?_))
  refine cQ (fun bo => ?_) fun bo => ?_
  ·obtain ⟨x2, fs, rfl, cc, dq, cd⟩ := A8.succ ao bo
   rw [Eg] at bn
   refine Aq (At ?_)
   refine Ap (Le (by kernel_rfl) (by kernel_rfl) (by kernel_rfl) (wm (wv (AE isAgg51 sizeOf51 rfl (Has.own 0 rfl) (A5 rfl) rfl) ?_)))
   refine wm (wm ?_)
   obtain ⟨ft, fv, fw, ep, cf, cg, dr, ⟨fx, fy, rfl, er⟩, et, cj⟩ := AW.at (Ak (Ae _)) ab (L := (b1, ce #[.slice Ac Ab.length Ad, .slice Aj Af.length Ai] 51) :: (ah ++ [])) (fC fP) dq.1 cc
   refine wv (AF underlying23 sizeOf22 rfl cf rfl (AW.idx ab dq)) (wv (Ao isAgg22 rfl cg (cj 0 (by decide))) ?_)
   obtain ⟨n2, eu, ew⟩ := AB bn
   refine DL rfl call40 rfl rfl rfl (Da a6 aa er eu) (wv (Od rfl rfl) ?_)
   obtain ⟨ak, ey, ez⟩ := BS ew
   refine wv ((EF rfl).i ey) ?_
   refine BV (Ax (id := 1) (An (um ?_)))
   refine uv (AY rfl rfl (A8.CC ao bo (AW.O6 ab))) ?_
   refine ua (Aa ?_)
   subst ca; exact le kr ⟨_, _, rfl, cd, ak, ez, rfl, rfl, z4⟩
  obtain rfl := A8.zero ao bo
  rw [Eg] at bn
  refine AL (Am (Am ?_))
  refine AA ?_
  obtain rfl := AH bn
  exact mi kr ⟨rfl, rfl, z3⟩
 refine AI (ua (Aa ?_))
 obtain ⟨out, fa, dt⟩ := AB dm
 refine AK (fun e1 F1 L1 => ∃ (ck : Option Addr) (cn : Nat) (cp : Nat) (aq : LH), F4 = F1 ∧ L1 = (aq ++ []) ∧ e1.sub [(6, .slice ck cn cp)] ∧ AW K.w0.heap.size 22 1 (Bm 1 (iE .i64)) F1 ck cn cp out aq) ?_ ?_
 ·clear dt
  refine AI (ua (Aa ?_))
  refine Ap ?_
  refine A2 (fun du e1 F1 L1 => LA l du fun dv i2 => ∃ (aj : List (List Int)) (aw : Option Addr) (ax : Nat) (ay : Nat) (ai : LH), Ds Ab Af ad dv aj = some out ∧ F4 = F1 ∧ L1 = ((b1, ce #[.slice Ac Ab.length Ad, .slice Aj Af.length Ai] 51) :: (ah ++ (ai ++ []))) ∧ e1.sub [(1, .pointer (some ⟨b1, 0, none⟩)), (3, .slice a8 br c9), (4, .int .i64 ad), (6, .slice aw ax ay), (7, .int .i64 i2)] ∧ AW K.w0.heap.size 22 1 (Bm 1 (iE .i64)) F1 aw ax ay aj ai) _ (m0 (kc (ka (ke kr))) ⟨_, _, rfl, A8.start _, [], none, 0, 0, [], fa, rfl, rfl, z5, AW.nil _ _ _ _ _⟩) ?_
  rintro du e1 _ _ ⟨dv, i2, az, al, aj, aw, ax, ay, ai, bp, rfl, rfl, cq, ar⟩
  refine Az _ cq ?_
  refine At (AI (um (um ?_)))
  refine uv ((AJ underlying23 rfl).i (AW.GN ab)) (uv (AV rfl rfl) (Aa ?_))
  refine cQ (fun ba => ?_) fun ba => ?_
  ·obtain ⟨x3, g0, rfl, bb, bq, bc⟩ := A8.succ al ba
   rw [Ds] at bp
   refine Aq (At ?_)
   refine Ap (dW (wv (AE isAgg51 sizeOf51 rfl (Has.own 0 rfl) (A5 rfl) rfl) ?_))
   refine wm (wm ?_)
   obtain ⟨g8, ga, gb, fb, cr, ct, dw, ⟨gg, gh, rfl, fe⟩, ff, cu⟩ := AW.at (Ak (Ae _)) ab (L := (b1, ce #[.slice Ac Ab.length Ad, .slice Aj Af.length Ai] 51) :: (ah ++ (ai ++ []))) (fC fP) bq.1 bb
   refine wv (AF underlying23 sizeOf22 rfl cr rfl (AW.idx ab bq)) (wv (Ao isAgg22 rfl ct (cu 0 (by decide))) ?_)
   obtain ⟨n3, fg, dx⟩ := AB bp
   refine DL rfl call40 rfl rfl rfl (Da a6 aa fe fg) (wm (wv (Bb rfl rfl) (BV ?_)))
   refine cQ (fun cv => ?_) fun cv => ?_
   ·have fh := AQ dx cv
    refine An (um (um (um ?_)))
    obtain ⟨gi, gj, fi, dy, bd, bg, cw, ⟨au, av, rfl, cx⟩, dz, bh⟩ := AW.at (Ak (Ae _)) ab (L := (b1, ce #[.slice Ac Ab.length Ad, .slice Aj Af.length Ai] 51) :: (ah ++ (ai ++ []))) (fC fP) bq.1 bb
    refine uv (AF underlying23 sizeOf22 rfl bd rfl (AW.idx ab bq)) (uv (Ao isAgg22 rfl bg (bh 0 (by decide))) ?_)
    refine bA (cs := #[.slice au x3.length av]) FP [.slice au x3.length av] ?_; intro fj eb
    obtain ⟨bj, cy, cz, da⟩ := E0 fh
    refine Dm (xs := aj) (ys := [x3]) (zs := bj) rfl FP rfl rfl (Nat.le_refl _) (fun _ => .c (.c (.s .h))) ar (GO.box (vss := [[.slice au x3.length av]]) (ys := [x3]) 0 rfl (Ak (Ae _)) (.cons ⟨_, _, rfl, cx⟩ .nil) rfl rfl) cy cz (by decide) ?_; intro db dd de bk bl
    refine kO (kd kr) ?_
    refine ua (Aa (Ax (id := 3) (An (um ?_))))
    refine uv (AY rfl rfl (A8.CC al ba (AW.O6 ab))) ?_
    refine ua (Aa ?_)
    subst az; exact le kr ⟨_, _, rfl, bc, bj, db, dd, de, bk, da, rfl, rfl, z5, bl⟩
   have df := AR dx cv
   refine Aq (Ax (id := 3) (An (um ?_)))
   refine uv (AY rfl rfl (A8.CC al ba (AW.O6 ab))) ?_
   refine ua (Aa ?_)
   subst az; exact le kr ⟨_, _, rfl, bc, aj, aw, ax, ay, ai, df, rfl, rfl, z5, ar⟩
  obtain rfl := A8.zero al ba
  rw [Ds] at bp
  refine AL (Am (Am ?_))
  refine AA ?_
  obtain rfl := AH bp
  exact mi (kd (kx kr)) ⟨aw, ax, ay, ai, rfl, rfl, z1, ar⟩
 rintro e1 _ _ ⟨ck, cn, cp, aq, rfl, rfl, bm, dg⟩
 refine Az _ bm ?_
 refine AI (um (ua (Aa (As ?_))))
 refine BD results39 ?_
 obtain rfl := AH dt
 exact ⟨_, _, _, _, rfl, rfl, dg.any⟩
set_option maxHeartbeats 1000000 in
theorem Kf (a6 : Au 1 (Bm 1 (iE .i64)) F Ac Ad Ab) (ab : Au 1 (Bm 1 (iE .i64)) F Aj Ai Af) (aa : Au 1 (Bm 1 (iE .i64)) F Bl Bk table) {r r2 : Int} (hr : HU Ab Af table = some (r, r2)) :
    Ba Tryz.prog 41 #[.agg #[.slice Ac Ab.length Ad, .slice Aj Af.length Ai], .slice Bl table.length Bk] F (.tuple #[.int .i64 r, .int .i64 r2]) := by
 refine sp func41 ntmps41 fun K _ _ => ?_
 rw [HU] at hr
 refine AI ?_
 refine By rfl rfl ?_; intro b1 qh
 refine ua (ua (Aa (At (AI (um ?_)))))
 refine uv (AJ underlying23 rfl) (uv (Av DQ rfl) (uv (Ao isAgg23 rfl (Has.own 0 rfl) rfl) (uv (AJ underlying23 rfl) (uv (BH rfl rfl) (Aa ?_)))))
 refine cQ (fun c2 => ?_) fun c2 => ?_
 ·have r3 := AQ hr c2
  refine AI (ua (ua (Aa ?_)))
  refine kW kn ?_
  refine As (Al ?_)
  refine Bu results41 (AP rfl) (AP rfl) (sr) ?_
  obtain ⟨rfl, rfl⟩ := BT r3
  exact rfl
 have r4 := AR hr c2
 refine Aq ?_
 refine AK (fun e1 F1 L1 => H4 Ab Af table = some (r, r2) ∧ F = F1 ∧ L1 = [(b1, ce #[.slice Ac Ab.length Ad, .slice Aj Af.length Ai] 51)] ∧ e1.sub [(1, .slice Bl table.length Bk), (2, .pointer (some ⟨b1, 0, none⟩))]) ?_ ?_
 ·refine AI (ua (Aa ?_))
  refine Ap ?_
  refine A2 (fun lr e1 F1 L1 => LA table lr fun tl h => EJ Ab Af table tl = some (r, r2) ∧ F = F1 ∧ L1 = [(b1, ce #[.slice Ac Ab.length Ad, .slice Aj Af.length Ai] 51)] ∧ e1.sub [(1, .slice Bl table.length Bk), (2, .pointer (some ⟨b1, 0, none⟩)), (6, .int .i64 h)]) _ (m0 kr ⟨_, _, rfl, A8.start _, r4, rfl, rfl, z3⟩) ?_
  rintro lr e1 _ _ ⟨tl, h, nw, gb, r7, rfl, rfl, ny⟩
  refine Az _ ny ?_
  refine At (AI (um (um ?_)))
  refine uv (AJ underlying23 rfl) (uv (AV rfl rfl) (Aa ?_))
  refine cQ (fun fs => ?_) fun fs => ?_
  ·obtain ⟨x, qi, rfl, gg, lu, gh⟩ := A8.succ gb fs
   rw [EJ] at r7
   refine Aq (At ?_)
   refine Ap (dW ?_)
   refine wm (wm ?_)
   obtain ⟨qj, qk, ql, nz, gi, gj, lv, ⟨qn, qo, rfl, qp⟩, o0, gk⟩ := Au.at (Ak (Ae _)) aa ([(b1, ce #[.slice Ac Ab.length Ad, .slice Aj Af.length Ai] 51)]) lu.1 gg
   refine wv (AF underlying23 sizeOf22 rfl gi rfl lu) (wv (Ao isAgg22 rfl gj (gk 0 (by decide))) (wv (AJ underlying22 rfl) (wv (AE isAgg51 sizeOf51 rfl (Has.own 0 rfl) (A5 rfl) rfl) ?_)))
   obtain ⟨n, o1, lx⟩ := AB r7
   refine DL rfl call23 rfl rfl rfl (Ez a6 ab o1) (wv (BH rfl rfl) (BV ?_))
   refine cQ (fun gl => ?_) fun gl => ?_
   ·have o2 := AQ lx gl
    refine AI (ua (ua (Aa ?_)))
    refine kW kn ?_
    refine As (Ay (Al (Al (Ay (Al ?_)))))
    refine Bu results41 (AP rfl) (AP rfl) (sr) ?_
    obtain ⟨rfl, rfl⟩ := BT o2
    exact rfl
   have o3 := AR lx gl
   refine Aq (Ax (id := 1) (An (um ?_)))
   refine uv (AY rfl rfl (A8.CC gb fs (Au.lt aa))) ?_
   refine ua (Aa ?_)
   subst nw; exact le kr ⟨_, _, rfl, gh, o3, rfl, rfl, z3⟩
  obtain rfl := A8.zero gb fs
  rw [EJ] at r7
  refine AL (Am (Am ?_))
  refine AA ?_
  exact mi kr ⟨r7, rfl, rfl, z2⟩
 rintro e1 _ _ ⟨ly, rfl, rfl, gm⟩
 refine Az _ gm ?_
 rw [H4] at ly
 refine AK (fun e1 F1 L1 => Ia Ab Af table = some (r, r2) ∧ F = F1 ∧ L1 = [(b1, ce #[.slice Ac Ab.length Ad, .slice Aj Af.length Ai] 51)] ∧ e1.sub [(1, .slice Bl table.length Bk), (2, .pointer (some ⟨b1, 0, none⟩))]) ?_ ?_
 ·refine AI (ua (Aa ?_))
  refine Ap ?_
  refine A2 (fun lz e1 F1 L1 => LA table lz fun ma h2 => CY Ab Af table ma = some (r, r2) ∧ F = F1 ∧ L1 = [(b1, ce #[.slice Ac Ab.length Ad, .slice Aj Af.length Ai] 51)] ∧ e1.sub [(1, .slice Bl table.length Bk), (2, .pointer (some ⟨b1, 0, none⟩)), (7, .int .i64 h2)]) _ (m0 kr ⟨_, _, rfl, A8.start _, ly, rfl, rfl, z3⟩) ?_
  rintro lz e1 _ _ ⟨ma, h2, gn, bz, ft, rfl, rfl, gp⟩
  refine Az _ gp ?_
  refine At (AI (um (um ?_)))
  refine uv (AJ underlying23 rfl) (uv (AV rfl rfl) (Aa ?_))
  refine cQ (fun fv => ?_) fun fv => ?_
  ·obtain ⟨x2, mb, rfl, cq, fw, gq⟩ := A8.succ bz fv
   rw [CY] at ft
   refine Aq ?_
   refine AK (fun e1 F1 L1 => Ig (CY Ab Af table mb) = some (r, r2) ∧ F = F1 ∧ L1 = [(b1, ce #[.slice Ac Ab.length Ad, .slice Aj Af.length Ai] 51)] ∧ e1.sub [(1, .slice Bl table.length Bk), (2, .pointer (some ⟨b1, 0, none⟩)), (7, .int .i64 h2)]) ?_ ?_
   ·refine Ap ?_
    refine AI (ua (Aa ?_))
    refine Ap ?_
    obtain ⟨o4, o5⟩ := AX ft
    refine A2 (fun fx e1 F1 L1 => ∃ (s_ : Int), CZ 0 (x2.length : Int) s_ fx ∧ EA x2 (CY Ab Af table mb) fx s_ = some (r, r2) ∧ F = F1 ∧ L1 = [(b1, ce #[.slice Ac Ab.length Ad, .slice Aj Af.length Ai] 51)] ∧ e1.sub [(1, .slice Bl table.length Bk), (2, .pointer (some ⟨b1, 0, none⟩)), (7, .int .i64 h2), (8, .int .i64 s_)]) _ (m0 kr ⟨_, CZ.start _ _, o5, rfl, rfl, z4⟩) ?_
    rintro fx e1 _ _ ⟨s_, ca, fy, rfl, rfl, gr⟩
    refine Az _ gr ?_
    refine At (AI (um (um (um ?_))))
    obtain ⟨qq, qs, qt, o7, gu, gv, mc, ⟨qu, qw, rfl, qx⟩, o8, gw⟩ := Au.at (Ak (Ae _)) aa ([(b1, ce #[.slice Ac Ab.length Ad, .slice Aj Af.length Ai] 51)]) fw.1 cq
    refine uv (AF underlying23 sizeOf22 rfl gu rfl fw) (uv (Ao isAgg22 rfl gv (gw 0 (by decide))) (uv (AJ underlying22 rfl) (uv (AV rfl rfl) (Aa ?_))))
    refine cQ (fun g0 => ?_) fun g0 => ?_
    ·obtain ⟨fx, rfl, gx⟩ := CZ.succ ca g0
     rw [EA] at fy
     refine Aq (At ?_)
     refine Ap ?_
     refine AI (um (um ?_))
     obtain ⟨qy, qz, rb, o9, gy, gz, me, ⟨re, rf, rfl, oc⟩, od, ia⟩ := Au.at (Ak (Ae _)) aa ([(b1, ce #[.slice Ac Ab.length Ad, .slice Aj Af.length Ai] 51)]) fw.1 cq
     refine uv (AF underlying23 sizeOf22 rfl gy rfl fw) (uv (Ao isAgg22 rfl gz (ia 0 (by decide))) (um ?_))
     obtain ⟨x3, mg, ib, oe⟩ := A7 fy
     obtain ⟨rh, ri, rj, og, ic, ie, mh, rfl, oh, ig⟩ := Au.at (Ae _) oc ([(b1, ce #[.slice Ac Ab.length Ad, .slice Aj Af.length Ai] 51)]) mg.1 ib
     refine uv (AF underlying22 sizeOf3 rfl ic rfl mg) (uv (Ao isAgg3 rfl ie (ig 0 (by decide))) ?_)
     obtain ⟨ok, oi, mj⟩ := AB oe
     refine cV call76 (ES oi) (Aa ?_)
     refine AT rfl (fun ij => ?_) (fun ij => ?_)
     ·have oj := bt mj ij
      refine AI (ua (ua (Aa ?_)))
      refine kW kn ?_
      refine As (Ay (Al (Al (Ay (Ay (Al (Al (Ay (Al ?_)))))))))
      refine Bu results41 (AP rfl) (AP rfl) (sr) ?_
      obtain ⟨rfl, rfl⟩ := BT oj
      exact rfl
     have oo := bf mj ij
     refine Aq (Ax (id := 5) (An (um ?_)))
     refine uv (AY rfl rfl (CZ.CC ca g0 o4)) ?_
     refine ua (Aa ?_)
     exact le kr ⟨_, gx, oo, rfl, rfl, z4⟩
    obtain rfl := CZ.zero ca g0
    rw [EA] at fy
    refine AL (Am (Am ?_))
    refine AA (Ax (id := 3) ?_)
    exact mi kr ⟨fy, rfl, rfl, z3⟩
   rintro e1 _ _ ⟨ml, rfl, rfl, ik⟩
   refine Az _ ik ?_
   rw [Ig] at ml
   refine An (um ?_)
   refine uv (AY rfl rfl (A8.CC bz fv (Au.lt aa))) ?_
   refine ua (Aa ?_)
   subst gn; exact le kr ⟨_, _, rfl, gq, ml, rfl, rfl, z3⟩
  obtain rfl := A8.zero bz fv
  rw [CY] at ft
  refine AL (Am (Am ?_))
  refine AA ?_
  exact mi kr ⟨ft, rfl, rfl, z2⟩
 rintro e1 _ _ ⟨mn, rfl, rfl, il⟩
 refine Az _ il ?_
 rw [Ia] at mn
 refine AI (ua (Aa ?_))
 refine AK (fun e1 F1 L1 => ∃ (out : Int), Ic out = some (r, r2) ∧ AN F F1 ∧ L1 = [] ∧ e1.sub [(9, .int .i64 out)]) ?_ ?_
 ·refine AI (ua (Aa ?_))
  refine Ap ?_
  refine A2 (fun mo e1 F1 L1 => LA table mo fun mq h3 => ∃ (ay : Int), B2 Ab Af table mq h3 ay = some (r, r2) ∧ AN F F1 ∧ L1 = [(b1, ce #[.slice Ac Ab.length Ad, .slice Aj Af.length Ai] 51)] ∧ e1.sub [(1, .slice Bl table.length Bk), (2, .pointer (some ⟨b1, 0, none⟩)), (9, .int .i64 ay), (10, .int .i64 h3)]) _ (m0 kr ⟨_, _, rfl, A8.start _, 99, mn, AN.refl _, rfl, z4⟩) ?_
  rintro mo e1 im _ ⟨mq, h3, iq, cb, ay, g8, ak, rfl, ir⟩
  refine Az _ ir ?_
  replace a6 := a6.mono (Ak (Ae _)) ak
  replace ab := ab.mono (Ak (Ae _)) ak
  replace aa := aa.mono (Ak (Ae _)) ak
  refine At (AI (um (um ?_)))
  refine uv (AJ underlying23 rfl) (uv (AV rfl rfl) (Aa ?_))
  refine cQ (fun bg => ?_) fun bg => ?_
  ·obtain ⟨x4, ga, rfl, cr, ct, cu⟩ := A8.succ cb bg
   rw [B2] at g8
   refine Aq ?_
   refine AK (fun e1 F1 L1 => ∃ (bh : Int), Ib h3 (B2 Ab Af table ga) bh = some (r, r2) ∧ AN im F1 ∧ L1 = [(b1, ce #[.slice Ac Ab.length Ad, .slice Aj Af.length Ai] 51)] ∧ e1.sub [(1, .slice Bl table.length Bk), (2, .pointer (some ⟨b1, 0, none⟩)), (9, .int .i64 bh), (10, .int .i64 h3)]) ?_ ?_
   ·refine Ap (AI (uv (AE isAgg51 sizeOf51 rfl (Has.own 0 rfl) (A5 rfl) rfl) (um ?_)))
    obtain ⟨l, iu, iv⟩ := AB g8
    refine c0 call84 (G8 a6 ab iu) ?_; rintro _ oq _ aq cv ⟨bj, ot, bk, mr, rfl, rfl, ar⟩
    replace a6 := a6.mono (Ak (Ae _)) aq
    replace ab := ab.mono (Ak (Ae _)) aq
    replace aa := aa.mono (Ak (Ae _)) aq
    replace ar := ar.new fun p hp => cv p (by simp [hp])
    refine AD (lp (ln rfl)) (kO (kf (fS fO) kr) ?_)
    refine ua (BI (ua (Aa ?_)))
    refine Ap ?_
    obtain rfl := (AW.Be ar).1
    refine Ke (Nat.le_refl _) (Ae _) (fC fP) ar ?_; intro iw au ad
    replace a6 := a6.mono (Ak (Ae _)) au
    replace ab := ab.mono (Ak (Ae _)) au
    replace aa := aa.mono (Ak (Ae _)) au
    refine Nf (fun cw e1 F1 L1 => LA l cw fun mu i => ∃ (bl : Int), Ce Ab Af table h3 x4 l (B2 Ab Af table ga) mu i bl = some (r, r2) ∧ AN iw F1 ∧ L1 = [(b1, ce #[.slice Ac Ab.length Ad, .slice Aj Af.length Ai] 51)] ∧ e1.sub [(1, .slice Bl table.length Bk), (2, .pointer (some ⟨b1, 0, none⟩)), (9, .int .i64 bl), (10, .int .i64 h3), (11, .slice bj l.length bk), (12, .int .i64 i)]) _ (m0 kr ⟨_, _, rfl, A8.start _, ay, iv, AN.refl _, rfl, z6⟩) ?_
    rintro cw e1 iy _ ⟨mu, i, cx, av, bl, bm, ai, rfl, cy⟩
    refine Az _ cy ?_
    replace a6 := a6.mono (Ak (Ae _)) ai
    replace ab := ab.mono (Ak (Ae _)) ai
    replace aa := aa.mono (Ak (Ae _)) ai
    replace ad := ad.mono (Ae _) ai
    refine At (AI (um (um ?_)))
    refine uv (AJ underlying22 rfl) (uv (AV rfl rfl) (Aa ?_))
    refine cQ (fun az => ?_) fun az => ?_
    ·obtain ⟨x5, mv, rfl, br, bn, cz⟩ := A8.succ av az
     rw [Ce] at bm
     refine Aq ?_
     refine AK (fun e1 F1 L1 => ∃ (bo : Int), Fv i (Ce Ab Af table h3 x4 l (B2 Ab Af table ga) mv) bo = some (r, r2) ∧ AN iy F1 ∧ L1 = [(b1, ce #[.slice Ac Ab.length Ad, .slice Aj Af.length Ai] 51)] ∧ e1.sub [(1, .slice Bl table.length Bk), (2, .pointer (some ⟨b1, 0, none⟩)), (9, .int .i64 bo), (10, .int .i64 h3), (11, .slice bj l.length bk), (12, .int .i64 i)]) ?_ ?_
     ·refine Ap (dW ?_)
      refine wm (wm ?_)
      obtain ⟨ou, ow, oy, mw, da, db, iz, ⟨oz, p0, rfl, j0⟩, mx, dd⟩ := Au.at (Ak (Ae _)) aa ([(b1, ce #[.slice Ac Ab.length Ad, .slice Aj Af.length Ai] 51)]) ct.1 cr
      refine wv (AF underlying23 sizeOf22 rfl da rfl ct) (wv (Ao isAgg22 rfl db (dd 0 (by decide))) ?_)
      refine wm (wm ?_)
      obtain ⟨p3, p4, p5, my, de, df, j1, rfl, mz, dg⟩ := Au.at (Ae _) ad ([(b1, ce #[.slice Ac Ab.length Ad, .slice Aj Af.length Ai] 51)]) bn.1 br
      refine wv (AF underlying22 sizeOf3 rfl de rfl bn) (wv (Ao isAgg3 rfl df (dg 0 (by decide))) ?_)
      obtain ⟨x6, dh, di, j2⟩ := A7 bm
      obtain ⟨p6, p7, p8, na, dk, dm, j3, rfl, nc, dp⟩ := Au.at (Ae _) j0 ([(b1, ce #[.slice Ac Ab.length Ad, .slice Aj Af.length Ai] 51)]) dh.1 di
      refine wv (AF underlying22 sizeOf3 rfl dk rfl dh) (wv (Ao isAgg3 rfl dm (dp 0 (by decide))) ?_)
      refine wa (BV ?_)
      obtain ⟨ba, j4, cc⟩ := AB j2
      refine jE ([(b1, ce #[.slice Ac Ab.length Ad, .slice Aj Af.length Ai] 51)]) [(1, .slice Bl table.length Bk), (2, .pointer (some ⟨b1, 0, none⟩)), (9, .int .i64 ba), (10, .int .i64 h3), (11, .slice bj l.length bk), (12, .int .i64 i), (13, .int .i64 x6)] ?_ ?_
      ·clear cc
       refine AI (um (um ?_))
       refine uv (AJ underlying23 rfl) ?_
       obtain ⟨j5, dq⟩ := AX j4
       refine uv (C7 rfl rfl j5) (uv (Bb rfl rfl) (Aa ?_))
       refine cQ (fun cd => ?_) fun cd => ?_
       ·have j6 := AQ dq cd
        refine An (um (um ?_))
        refine uv (Od rfl rfl) ?_
        obtain ⟨p9, j7, j8⟩ := BS j6
        refine uv ((EF rfl).i j7) (Aa ?_)
        obtain rfl := AH j8
        exact mi kr ⟨rfl, rfl, z7⟩
       have j9 := AR dq cd
       refine Aq ?_
       obtain rfl := AH j9
       exact mi kr ⟨rfl, rfl, z7⟩
      refine At (AI (um ?_))
      refine uv (Bb rfl rfl) (Aa ?_)
      refine cQ (fun cf => ?_) fun cf => ?_
      ·have ja := AQ cc cf
       refine At (dW (wm (wv (AE isAgg51 sizeOf51 rfl (Has.own 0 rfl) (A5 rfl) rfl) ?_)))
       refine wm (wm (wm ?_))
       refine wv (AY rfl rfl (A8.CC av az (Au.lt ad))) ?_
       obtain ⟨jb, jc⟩ := AX ja
       obtain ⟨l2, jd, je⟩ := BS jc
       obtain ⟨pa, pb, jf, bb⟩ := Au.slice (Ae _) ad jb jd
       refine wv ((Nc (l := i) (h := i + 1) underlying22 sizeOf3 rfl (.inr ⟨_, rfl, rfl⟩) (.inr ⟨_, rfl, rfl⟩) bb.1).eq bb.2) ?_
       obtain ⟨n2, jg, dr⟩ := AB je
       refine DL rfl call40 rfl rfl rfl (Da a6 ab jf jg) (wv (Em rfl rfl) (BV ?_))
       refine cQ (fun cg => ?_) fun cg => ?_
       ·have jh := AQ dr cg
        refine AI (ua (ua (Aa ?_)))
        refine kW kn ?_
        refine As (Al (Al (Ay (Al (Al (Ay (Ay (Al (Al ?_)))))))))
        refine Ay (Al ?_)
        refine Bu results41 (AP rfl) (AP rfl) (sr) ?_
        obtain ⟨rfl, rfl⟩ := BT jh
        exact rfl
       have ji := AR dr cg
       refine Aq (AL (Am ?_))
       refine AA ?_
       exact mi kr ⟨ba, ji, AN.refl _, rfl, z6⟩
      have jj := AR cc cf
      refine Aq (AI ?_)
      refine uv (AE isAgg51 sizeOf51 rfl (Has.own 0 rfl) (A5 rfl) rfl) (um ?_)
      obtain ⟨jk, jl⟩ := AX jj
      refine uv (C7 rfl rfl jk) ?_
      obtain ⟨l3, jm, jn⟩ := AB jl
      refine c0 call84 (G8 a6 ab jm) ?_; rintro _ pd _ al dt ⟨jo, pe, jq, nf, rfl, rfl, aw⟩
      replace a6 := a6.mono (Ak (Ae _)) al
      replace ab := ab.mono (Ak (Ae _)) al
      replace aa := aa.mono (Ak (Ae _)) al
      replace ad := ad.mono (Ae _) al
      replace aw := aw.new fun p hp => dt p (by simp [hp])
      refine AD (lp (ln rfl)) (kO (kf (fS fO) kr) ?_)
      refine ua (BI (ua (Aa ?_)))
      refine Ap ?_
      obtain rfl := (AW.Be aw).1
      refine Ke (Nat.le_refl _) (Ae _) (fC fP) aw ?_; intro jr ao aj
      replace a6 := a6.mono (Ak (Ae _)) ao
      replace ab := ab.mono (Ak (Ae _)) ao
      replace aa := aa.mono (Ak (Ae _)) ao
      replace ad := ad.mono (Ae _) ao
      refine Nf (fun du e1 F1 L1 => LA l3 du fun ng k => D6 Ab Af table h3 i x5 x6 ba l3 (Ce Ab Af table h3 x4 l (B2 Ab Af table ga) mv) ng k = some (r, r2) ∧ AN jr F1 ∧ L1 = [(b1, ce #[.slice Ac Ab.length Ad, .slice Aj Af.length Ai] 51)] ∧ e1.sub [(1, .slice Bl table.length Bk), (2, .pointer (some ⟨b1, 0, none⟩)), (9, .int .i64 ba), (10, .int .i64 h3), (11, .slice bj l.length bk), (12, .int .i64 i), (13, .int .i64 x6), (14, .slice jo l3.length jq), (15, .int .i64 k)]) _ (m0 kr ⟨_, _, rfl, A8.start _, jn, AN.refl _, rfl, (sc rfl z8)⟩) ?_
      rintro du e1 pf _ ⟨ng, k, dv, ax, bp, ae, rfl, dw⟩
      refine Az _ dw ?_
      replace a6 := a6.mono (Ak (Ae _)) ae
      replace ab := ab.mono (Ak (Ae _)) ae
      replace aa := aa.mono (Ak (Ae _)) ae
      replace ad := ad.mono (Ae _) ae
      replace aj := aj.mono (Ae _) ae
      refine At (AI (um (um ?_)))
      refine uv (AJ underlying22 rfl) (uv (AV rfl rfl) (Aa ?_))
      refine cQ (fun bc => ?_) fun bc => ?_
      ·obtain ⟨x7, pg, rfl, bu, bq, dx⟩ := A8.succ ax bc
       rw [D6] at bp
       refine Aq (At ?_)
       refine Ap (At (Bd [(.still, 0), (.still, 1), (.still, 2), (.still, 3), (.still, 4), (.still, 5), (.still, 6), (.still, 7), (.still, 8), (.still, 11), (.still, 12), (.still, 13), (.still, 14), (.still, 15), (.still, 16), (.seq, 9), (.seq, 10), (.seq, 17), (.still, 18), (.still, 19)] (by kernel_rfl) (by kernel_rfl) (trivial) (by rfl) (by kernel_rfl) (mL [2] ([(b1, ce #[.slice Ac Ab.length Ad, .slice Aj Af.length Ai] 51)]) rfl (s0 sr) (fun H F' L' cj ck => AE isAgg51 sizeOf51 rfl ((Has.own 0 rfl).ext cj ck) (A5 rfl) rfl) (mS [14] rfl (Bj rfl) (mS [15] rfl (Bj rfl) ?_)))))
       obtain ⟨ph, pj, pk, nh, dy, dz, js, rfl, ni, eb⟩ := Au.at (Ae _) aj ([]) bq.1 bu
       refine mS [115, 116] rfl (AF underlying22 sizeOf3 rfl dy rfl bq) (mL [117] ([]) rfl sm (fun H F' L' cj ck => Ao isAgg3 rfl (dz.ext cj ck) (eb 0 (by decide))) (mS [11] rfl (Bj rfl) (mS [12] rfl (Bj rfl) ?_)))
       obtain ⟨pn, po, pq, nj, ec, ef, jt, rfl, nk, eg⟩ := Au.at (Ae _) ad ([]) bn.1 br
       refine mS [119, 120] rfl (AF underlying22 sizeOf3 rfl ec rfl bn) (mL [121] ([]) rfl sm (fun H F' L' cj ck => Ao isAgg3 rfl (ef.ext cj ck) (eg 0 (by decide))) (mL [2] ([(b1, ce #[.slice Ac Ab.length Ad, .slice Aj Af.length Ai] 51)]) rfl (s0 sr) (fun H F' L' cj ck => AE isAgg51 sizeOf51 rfl ((Has.own 0 rfl).ext cj ck) (A5 rfl) rfl) (mS [14] rfl (Bj rfl) (mS [15] rfl (Bj rfl) (mS [15] rfl (Bj rfl) (mS (v := .int .i64 (k + 1)) [128] rfl (AY rfl rfl (A8.CC ax bc (Au.lt aj))) ?_))))))
       obtain ⟨ju, jv⟩ := AX bp
       obtain ⟨eh, jw, jx⟩ := BS jv
       obtain ⟨ei, ej, cn, bd⟩ := Au.slice (Ae _) aj ju jw
       refine mS (v := .slice ei eh.length ej) [126, 127, 129] rfl ((Nc (l := k) (h := k + 1) underlying22 sizeOf3 rfl (.inr ⟨_, rfl, rfl⟩) (.inr ⟨_, rfl, rfl⟩) bd.1).eq bd.2) ?_
       refine ⟨_, [(118, .int .i64 x7), (122, .int .i64 x5)], rfl, rfl, z2, by kernel_rfl, ?_⟩; intro H
       refine bA (cs := #[.int .i64 x7, .int .i64 x5]) BN [.int .i64 x7, .int .i64 x5] ?_; intro en eo
       refine Aa ⟨_, rfl, AN.refl _, [16, 15, 14, 13, 12, 11, 0], by kernel_rfl, .inl (.inr (fun d h => by cases h; rfl)), (fc sm (fc sm (fc sm (fc sm (fc sm (fc (s0 (s1 (s2 sr))) (fc (s0 (s1 (s2 sr))) nm))))))), ?_⟩
       refine ⟨_, [(114, .agg #[.slice Ac Ab.length Ad, .slice Aj Af.length Ai]), (123, .slice (some ⟨en, 0, none⟩) 2 2)], rfl, rfl, z2, by kernel_rfl, ?_⟩; intro H
       refine AO 0 rfl eo ?_; intro jz ah ep
       refine AD rfl ?_
       replace a6 := a6.mono (Ak (Ae _)) ah
       replace ab := ab.mono (Ak (Ae _)) ah
       replace aa := aa.mono (Ak (Ae _)) ah
       replace aj := aj.mono (Ae _) ah
       replace cn := cn.mono (Ae _) ah
       have kb : Au 1 (iE .i64) jz (some ⟨en, 0, none⟩) 2 [x7, x5] := Au.AG (Ae _) (vss := [[.int .i64 x7], [.int .i64 x5]]) (xs := [x7, x5]) ep (.cons rfl (.cons rfl .nil)) rfl (by simp [maxLen])
       obtain ⟨n3, kh, kj⟩ := AB jx
       refine cV call40 (Da a6 ab kb kh) ?_
       refine Aa ⟨_, rfl, ah, [16, 15, 14, 13, 12, 11], by kernel_rfl, .inl (.inr (fun d h => by cases h; rfl)), (fc sm (fc sm (fc sm (fc sm (fc sm (fc (s0 sr) nm)))))), ?_⟩
       refine ⟨_, [(125, .agg #[.slice Ac Ab.length Ad, .slice Aj Af.length Ai]), (130, .slice ei eh.length ej)], rfl, rfl, z2, by kernel_rfl, ?_⟩; intro H
       obtain ⟨n4, kl, km⟩ := AB kj
       refine cV call40 (Da a6 ab cn kl) ?_
       refine Aa ⟨_, rfl, AN.refl _, [], by kernel_rfl, .inl (.inl rfl), nm, ?_⟩
       obtain ⟨ko, kt⟩ := AX km
       refine mS (v := .int .i64 (n3 - n4)) [124, 131] rfl (C7 rfl rfl ko) (mS [132] rfl (EF rfl) (BC (dW ?_)))
       refine wm (wm (wm ?_))
       obtain ⟨ku, kv⟩ := AX kt
       refine wv (C7 rfl rfl ku) ?_
       obtain ⟨x8, er, et, kz⟩ := A7 kv
       obtain ⟨pr, pt, pv, np, eu, ew, la, ⟨pw, px, rfl, ld⟩, nq, ey⟩ := Au.at (Ak (Ae _)) aa ([(b1, ce #[.slice Ac Ab.length Ad, .slice Aj Af.length Ai] 51)]) er.1 et
       refine wv (AF underlying23 sizeOf22 rfl eu rfl er) (wv (Ao isAgg22 rfl ew (ey 0 (by decide))) ?_)
       refine wm (wm ?_)
       obtain ⟨py, pz, q0, nr, ez, fa, lg, rfl, ns, fb⟩ := Au.at (Ae _) aj ([(b1, ce #[.slice Ac Ab.length Ad, .slice Aj Af.length Ai] 51)]) bq.1 bu
       refine wv (AF underlying22 sizeOf3 rfl ez rfl bq) (wv (Ao isAgg3 rfl fa (fb 0 (by decide))) ?_)
       obtain ⟨x9, fe, ff, lh⟩ := A7 kz
       obtain ⟨qb, qc, qd, nt, fg, fh, lj, rfl, nu, fi⟩ := Au.at (Ae _) ld ([(b1, ce #[.slice Ac Ab.length Ad, .slice Aj Af.length Ai] 51)]) fe.1 ff
       refine wv (AF underlying22 sizeOf3 rfl fg rfl fe) (wv (Ao isAgg3 rfl fh (fi 0 (by decide))) (wm ?_))
       obtain ⟨lk, fj⟩ := AX lh
       refine wv (AY rfl rfl lk) (wv (Em rfl rfl) (BV ?_))
       refine cQ (fun cp => ?_) fun cp => ?_
       ·have ll := AQ fj cp
        refine AI (ua (ua (Aa ?_)))
        refine kW kn ?_
        refine As (Ay (Al (Al (Ay (Ay (Al (Al (Ay (Ay ?_)))))))))
        refine Al (Al (Ay (Al ?_)))
        refine Bu results41 (AP rfl) (AP rfl) (sr) ?_
        obtain ⟨rfl, rfl⟩ := BT ll
        exact rfl
       have lq := AR fj cp
       refine Aq (Ax (id := 11) (An (um ?_)))
       refine uv (AY rfl rfl (A8.CC ax bc (Au.lt aj))) ?_
       refine ua (Aa ?_)
       subst dv; refine lf ?_
       exact mf kr ⟨_, _, rfl, dx, lq, (ae.trans ah), rfl, (sc rfl z8)⟩
      obtain rfl := A8.zero ax bc
      rw [D6] at bp
      refine AL (Am (Am ?_))
      refine AA (Ax (id := 9) ?_)
      exact mi kr ⟨ba, bp, ((al.trans ao).trans ae), rfl, z6⟩
     rintro e1 qe _ ⟨bo, fk, bw, rfl, fl⟩
     refine Az _ fl ?_
     replace ad := ad.mono (Ae _) bw
     rw [Fv] at fk
     refine An (um ?_)
     refine uv (AY rfl rfl (A8.CC av az (Au.lt ad))) ?_
     refine ua (Aa ?_)
     subst cx; refine lf ?_
     exact mf kr ⟨_, _, rfl, cz, bo, fk, (ai.trans bw), rfl, z6⟩
    obtain rfl := A8.zero av az
    rw [Ce] at bm
    refine AL (Am (Am ?_))
    refine AA (Ax (id := 7) ?_)
    exact mi kr ⟨bl, bm, ((aq.trans au).trans ai), rfl, z4⟩
   rintro e1 qf _ ⟨bh, fm, bx, rfl, fo⟩
   refine Az _ fo ?_
   replace aa := aa.mono (Ak (Ae _)) bx
   rw [Ib] at fm
   refine An (um ?_)
   refine uv (AY rfl rfl (A8.CC cb bg (Au.lt aa))) ?_
   refine ua (Aa ?_)
   subst iq; exact le kr ⟨_, _, rfl, cu, bh, fm, (ak.trans bx), rfl, z4⟩
  obtain rfl := A8.zero cb bg
  rw [B2] at g8
  refine AL (Am (Am ?_))
  refine AA ?_
  exact mi kn ⟨ay, g8, ak, rfl, z1⟩
 rintro e1 qg _ ⟨out, fp, nv, rfl, fq⟩
 refine Az _ fq ?_
 rw [Ic] at fp
 refine AI (um (ua (ua (Aa (As ?_)))))
 refine Bu results41 (AP rfl) (AP rfl) (sr) ?_
 obtain ⟨rfl, rfl⟩ := BT fp
 exact rfl
set_option maxHeartbeats 1000000 in
theorem IM (a6 : Au 1 (Bm 1 (iE .i64)) F Ac Ad Ab) (ad : Au 1 (Bm 1 (iE .i64)) F Aj Ai Af) (ab : Au 1 (iE .i64) F Cz CD Bh) (aa : Au 1 (Bm 1 (iE .i64)) F Bl Bk table) {r : Bool} (hr : Fw Ab Af Bh table = some r) :
    Ba Tryz.prog 8 #[.agg #[.slice Ac Ab.length Ad, .slice Aj Af.length Ai], .slice Cz Bh.length CD, .slice Bl table.length Bk] F (.bool r) := by
 refine sp func8 ntmps8 fun K _ _ => ?_
 rw [Fw] at hr
 refine AI ?_
 refine By rfl rfl ?_; intro b1 nt
 refine ua (Aa (At ?_))
 obtain ⟨k, h2, r3⟩ := AB hr
 refine jE ([(b1, ce #[.slice Ac Ab.length Ad, .slice Aj Af.length Ai] 26)]) [(1, .slice Cz Bh.length CD), (2, .slice Bl table.length Bk), (3, .pointer (some ⟨b1, 0, none⟩)), (37, .bool k)] ?_ ?_
 ·clear r3
  refine An (uv (AE isAgg26 sizeOf26 rfl (Has.own 0 rfl) (A5 rfl) rfl) ?_)
  obtain ⟨ok, h4, r5⟩ := AB h2
  refine cV call17 (DZ a6 ad h4) (um ?_)
  rcases Bf ok with c6 | c6
  ·have r7 := bt r5 c6
   refine fB c6 (fB c6 ?_)
   refine uv (Aw (En rfl c6) rfl) ?_
   refine um (Ah (b' := true) 29 rfl rfl rfl rfl (Ah (b' := true) 29 rfl rfl rfl rfl (Ah (b' := true) 29 rfl rfl rfl rfl ?_)))
   refine uv (Aw rfl rfl) ?_
   refine um (Ah (b' := true) 34 rfl rfl rfl rfl (Ah (b' := true) 34 rfl rfl rfl rfl ?_))
   refine uv (Aw rfl rfl) (Aa ?_)
   obtain rfl := AH r7
   exact mi kr ⟨rfl, rfl, z4⟩
  have r8 := bf r5 c6
  refine nB c6 (uv (AE isAgg26 sizeOf26 rfl (Has.own 0 rfl) (A5 rfl) rfl) (nB c6 ?_))
  obtain ⟨kt, h9, jx⟩ := AB r8
  refine cV call28 (IW a6 ad h9) (uv (Ar (En rfl c6) rfl) (um ?_))
  rcases Bf kt with cx | cx
  ·have ku := bt jx cx
   refine fB cx (fB cx (fB cx ?_))
   refine uv (Aw (En rfl cx) rfl) ?_
   refine um (Ah (b' := true) 34 rfl rfl rfl rfl (Ah (b' := true) 34 rfl rfl rfl rfl ?_))
   refine uv (Aw rfl rfl) (Aa ?_)
   obtain rfl := AH ku
   exact mi kr ⟨rfl, rfl, z4⟩
  have jz := bf jx cx
  refine nB cx (um (nB cx ?_))
  refine uv (AJ underlying22 rfl) (nB cx (uv (Em rfl rfl) (uv (Ar (En rfl cx) rfl) (um ?_))))
  by_cases da : 12 < (Bh.length : Int)
  ·have kv := AQ jz da
   refine fT da (fT da ?_)
   refine uv (Aw (AS rfl da) rfl) (Aa ?_)
   obtain rfl := AH kv
   exact mi kr ⟨rfl, rfl, z4⟩
  have kz := AR jz da
  refine nF da (um (nF da ?_))
  obtain ⟨nu, la, ld⟩ := AB kz
  refine cV call29 (I7 aa la) (uv (Ar (AM rfl da) rfl) (Aa ?_))
  obtain rfl := AH ld
  exact mi kr ⟨rfl, rfl, z4⟩
 refine AT rfl (fun fy => ?_) (fun fy => ?_)
 ·have lg := bt r3 fy
  refine AI ?_
  obtain ⟨nv, lh, lj⟩ := AB lg
  refine cV call14 (BB lh) ?_
  refine ua (Aa ?_)
  refine kW kn ?_
  refine As (Al ?_)
  refine BD results8 ?_
  obtain rfl := AH lj
  exact rfl
 have lk := bf r3 fy
 refine Aq (At ?_)
 refine Bd [(.pre, 8), (.pre, 9), (.still, 0), (.still, 2), (.still, 4), (.still, 6), (.seq, 1), (.seq, 3), (.seq, 5), (.seq, 7), (.alloc (.cells (.agg #[.slice none 0 0, .slice none 0 0] : Value).cells 26 (0, 0)) (fun b => .pointer (some ⟨b, 0, none⟩)) [], 8), (.alloc (.cells (.agg #[.slice none 0 0, .slice none 0 0] : Value).cells 51 (0, 0)) (fun b => .pointer (some ⟨b, 0, none⟩)) [], 9), (.seq, 10), (.still, 11), (.still, 12), (.seq, 13)] (by kernel_rfl) (by kernel_rfl) (⟨⟨_, _, rfl, rfl, rfl, rfl, rfl, EU zeroValue26⟩, ⟨⟨_, _, rfl, rfl, rfl, rfl, rfl, EU zeroValue51⟩, trivial⟩⟩) (by rfl) (by kernel_rfl) ?_
 refine ⟨⟨[], rfl, sn _, by kernel_rfl⟩, ?_⟩
 refine ⟨⟨[], rfl, sn _, by kernel_rfl⟩, ?_⟩
 refine mL [3] ([(b1, ce #[.slice Ac Ab.length Ad, .slice Aj Af.length Ai] 26)]) rfl (s0 sr) (fun H F' L' g0 g8 => AE isAgg26 sizeOf26 rfl ((Has.own 0 rfl).ext g0 g8) (A5 rfl) rfl) (mS [1] rfl (Bj rfl) (mS [2] rfl (Bj rfl) (mL [3] ([(b1, ce #[.slice Ac Ab.length Ad, .slice Aj Af.length Ai] 26)]) rfl (s0 sr) (fun H F' L' g0 g8 => AE isAgg26 sizeOf26 rfl ((Has.own 0 rfl).ext g0 g8) (A5 rfl) rfl) ?_)))
 refine ⟨_, [(39, .agg #[.slice Ac Ab.length Ad, .slice Aj Af.length Ai])], rfl, rfl, z1, by kernel_rfl, ?_⟩; intro H
 obtain ⟨l, l2, ll, lq⟩ := A9 lk
 refine c0 call18 (D1 a6 ad ll) ?_; rintro _ nw _ cy dv ⟨cd, cf, cg, ao, cj, ck, cn, aq, rfl, rfl, ae, ah⟩
 replace a6 := a6.mono (Ak (Ae _)) cy
 replace ad := ad.mono (Ak (Ae _)) cy
 replace ab := ab.mono (Ae _) cy
 replace aa := aa.mono (Ak (Ae _)) cy
 replace ae := ae.new fun p hp => dv p (by simp [hp])
 replace ah := ah.new fun p hp => dv p (by simp [hp])
 refine AD (lp (lp (ln rfl))) (kO (kf (fS (fS fO)) kr) ?_)
 refine Aa ⟨_, rfl, cy, [6, 4, 2], by kernel_rfl, .inl (.inr (fun d h => by cases h; rfl)), (fc (s0 (s2 (s3 (s3 sr)))) (fc sm (fc sm nm))), ?_⟩
 refine ⟨_, [(41, .slice Cz Bh.length CD)], rfl, rfl, z1, by kernel_rfl, ?_⟩; intro H
 obtain ⟨l3, lr, lu⟩ := AB lq
 refine c0 call30 (JD ab lr) ?_; rintro _ ny _ cp ga ⟨fq, fs, ft, ar, rfl, rfl, ay⟩
 replace a6 := a6.mono (Ak (Ae _)) cp
 replace ad := ad.mono (Ak (Ae _)) cp
 replace ab := ab.mono (Ae _) cp
 replace aa := aa.mono (Ak (Ae _)) cp
 replace ae := ae.mono (Ae _) cp
 replace ah := ah.mono (Ae _) cp
 replace ay := ay.new fun p hp => ga p (by simp [hp])
 refine AD (lp (ln rfl)) (kO (kf (fS fO) kr) ?_)
 refine Aa ⟨_, rfl, cp, [6, 4], by kernel_rfl, .inl (.inr (fun d h => by cases h; rfl)), (fc (s0 (s2 (s3 (s3 (s3 sr))))) (fc sm nm)), ?_⟩
 refine ⟨_, [(43, .slice Bl table.length Bk)], rfl, rfl, z1, by kernel_rfl, ?_⟩; intro H
 obtain ⟨l4, lv, lx⟩ := AB lu
 refine c0 call31 (IB aa lv) ?_; rintro _ nz _ bx gb ⟨fv, fw, fx, au, rfl, rfl, bg⟩
 replace a6 := a6.mono (Ak (Ae _)) bx
 replace ad := ad.mono (Ak (Ae _)) bx
 replace ab := ab.mono (Ae _) bx
 replace aa := aa.mono (Ak (Ae _)) bx
 replace ae := ae.mono (Ae _) bx
 replace ah := ah.mono (Ae _) bx
 replace ay := ay.mono (Ae _) bx
 replace bg := bg.new fun p hp => gb p (by simp [hp])
 refine AD (lp (ln rfl)) (kO (kf (fS fO) kr) ?_)
 refine Aa ⟨_, rfl, bx, [6], by kernel_rfl, .inl (.inr (fun d h => by cases h; rfl)), (fc (s0 (s2 (s3 (s3 (s3 (s3 sr)))))) nm), ?_⟩
 refine ⟨_, [(45, .agg #[.slice Ac Ab.length Ad, .slice Aj Af.length Ai])], rfl, rfl, z1, by kernel_rfl, ?_⟩; intro H
 obtain ⟨l5, l6, ly, lz⟩ := A9 lx
 refine c0 call19 (C0 a6 ad ly) ?_; rintro _ o0 _ bw gg ⟨bk, bl, bm, cc, bn, aj, rfl, rfl, cq, az⟩
 replace a6 := a6.mono (Ak (Ae _)) bw
 replace ad := ad.mono (Ak (Ae _)) bw
 replace ab := ab.mono (Ae _) bw
 replace aa := aa.mono (Ak (Ae _)) bw
 replace ae := ae.mono (Ae _) bw
 replace ah := ah.mono (Ae _) bw
 replace ay := ay.mono (Ae _) bw
 replace bg := bg.mono (Ae _) bw
 replace az := az.new fun p hp => gg p (by simp [hp])
 refine AD (lp (ln rfl)) (kO (kf (fS fO) kr) ?_)
 refine Aa ⟨_, rfl, bw, [], by kernel_rfl, .inl (.inl rfl), nm, ?_⟩
 refine GW rfl ?_; intro bo ma
 refine Jp (L' := (bo, ce #[.slice none 0 0, .slice none 0 0] 26) :: ((b1, ce #[.slice Ac Ab.length Ad, .slice Aj Af.length Ai] 26) :: (aj ++ (au ++ (ar ++ (ao ++ (aq ++ []))))))) rfl ?_
 refine GW rfl ?_; intro ba mb
 refine Jp (L' := (ba, ce #[.slice none 0 0, .slice none 0 0] 51) :: ((bo, ce #[.slice none 0 0, .slice none 0 0] 26) :: ((b1, ce #[.slice Ac Ab.length Ad, .slice Aj Af.length Ai] 26) :: (aj ++ (au ++ (ar ++ (ao ++ (aq ++ [])))))))) rfl ?_
 refine ⟨_, [(7, .pointer (some ⟨bo, 0, none⟩)), (40, .agg #[.slice cd cf cg, .slice cj ck cn])], rfl, rfl, z2, by kernel_rfl, ?_⟩; intro H
 refine A6 (i := 1) sizeOf26 rfl rfl rfl (by simp [Value.oneCell']) rfl (A5 rfl) (AD rfl ?_)
 refine Aa ⟨undef, rfl, AN.refl _, [], by kernel_rfl, .inl (.inl rfl), nm, ?_⟩
 refine mS [42] rfl (EF rfl) (mS [44] rfl (EF rfl) ?_)
 refine ⟨_, [(10, .pointer (some ⟨ba, 0, none⟩)), (46, .agg #[.slice bk l5.length bl, .slice bm cc bn])], rfl, rfl, z2, by kernel_rfl, ?_⟩; intro H
 refine A6 (i := 0) sizeOf51 rfl rfl rfl (by simp [Value.oneCell']) rfl (A5 rfl) (AD rfl ?_)
 refine Aa ⟨undef, rfl, AN.refl _, [], by kernel_rfl, .inl (.inl rfl), nm, ?_⟩
 refine BC (AI (uv (AE isAgg51 sizeOf51 rfl (Has.own 0 rfl) (A5 rfl) rfl) ?_))
 obtain ⟨n, mc, me⟩ := AB lz
 refine Bi (Lt := aj ++ []) (Lr := (ba, ce #[.slice bk l5.length bl, .slice bm cc bn] 51) :: ((bo, ce #[.slice cd cf cg, .slice cj ck cn] 26) :: ((b1, ce #[.slice Ac Ab.length Ad, .slice Aj Af.length Ai] 26) :: (au ++ (ar ++ (ao ++ (aq ++ []))))))) rfl call20 rfl rfl rfl (pT ((fC (fC (fC fP))).trans (pA pR)) (lp (ln rfl))) (fun F2 h2 h3 => by rw [(AW.Be az).1]; exact Dl (cq.mono (Ak (Ae _)) h2) (az.row (Ak (Ae _)) h2 (fun p hp => h3 p (List.mem_append_left _ hp))) mc) ?_
 refine ua (BI (um (ua (ua (Aa ?_)))))
 obtain ⟨v, n2, kb, kh⟩ := A9 me
 refine jE (((ba, ce #[.slice bk l5.length bl, .slice bm cc bn] 51) :: ((bo, ce #[.slice cd cf cg, .slice cj ck cn] 26) :: ((b1, ce #[.slice Ac Ab.length Ad, .slice Aj Af.length Ai] 26) :: (ao ++ (aq ++ (ar ++ (au ++ (aj ++ []))))))))) [(1, .slice Cz Bh.length CD), (2, .slice Bl table.length Bk), (3, .pointer (some ⟨b1, 0, none⟩)), (7, .pointer (some ⟨bo, 0, none⟩)), (8, .slice fq fs ft), (9, .slice fv fw fx), (10, .pointer (some ⟨ba, 0, none⟩)), (11, .int .i64 n), (12, .int .i64 v), (13, .int .i64 n2)] ?_ ?_
 ·clear kh
  refine AI (um ?_)
  refine uv (Bb rfl rfl) (Aa ?_)
  refine cQ (fun gh => ?_) fun gh => ?_
  ·have mg := AQ kb gh
   refine An (uv (AE isAgg51 sizeOf51 rfl (Has.own 0 rfl) (A5 rfl) rfl) (um ?_))
   obtain ⟨n3, n4, mh, mj⟩ := A9 mg
   refine Bi (Lt := aj ++ []) (Lr := (ba, ce #[.slice bk l5.length bl, .slice bm cc bn] 51) :: ((bo, ce #[.slice cd cf cg, .slice cj ck cn] 26) :: ((b1, ce #[.slice Ac Ab.length Ad, .slice Aj Af.length Ai] 26) :: (au ++ (ar ++ (ao ++ (aq ++ []))))))) rfl call32 rfl rfl rfl (pT ((fC (fC (fC fP))).trans (pA pR)) (lp (ln rfl))) (fun F2 h2 h3 => by rw [(AW.Be az).1]; exact Mw (cq.mono (Ak (Ae _)) h2) (az.row (Ak (Ae _)) h2 (fun p hp => h3 p (List.mem_append_left _ hp))) (ab.mono (Ae _) h2) mh) ?_
   refine um (ox rfl rfl rfl (ox rfl rfl rfl (ua (ua (Aa ?_)))))
   obtain ⟨rfl, rfl⟩ := BT mj
   exact mi (kc (kc (kc (kg (fS (fS (fS fP))) (kg (fS (fS (fS fP))) (kg (fS (fS fP)) (kg (fS fP) kr))))))) ⟨rfl, rfl, (sc rfl (sc rfl z8))⟩
  have ml := AR kb gh
  refine Aq ?_
  obtain ⟨rfl, rfl⟩ := BT ml
  exact mi (kc (kc (kc (kg (fS (fS (fS fP))) (kg (fS (fS (fS fP))) (kg (fS (fS fP)) (kg (fS fP) kr))))))) ⟨rfl, rfl, (sc rfl (sc rfl z8))⟩
 refine AI (uv (AE isAgg26 sizeOf26 rfl (Has.own 1 rfl) (A5 rfl) rfl) (um ?_))
 obtain ⟨n5, n6, mn, mo⟩ := A9 kh
 refine Bi (Lt := ao ++ (aq ++ (ar ++ []))) (Lr := (ba, ce #[.slice bk l5.length bl, .slice bm cc bn] 51) :: ((bo, ce #[.slice cd cf cg, .slice cj ck cn] 26) :: ((b1, ce #[.slice Ac Ab.length Ad, .slice Aj Af.length Ai] 26) :: (au ++ (aj ++ []))))) rfl call33 rfl rfl rfl (pT ((fC (fC (fC fP))).trans (pA ((fC (fC (fC fP))).trans (pA ((fC (fC (fC fP))).trans (pA pR)))))) (lp (lp (lp (ln rfl))))) (fun F2 h2 h3 => by rw [(BG.Be ae).1]; rw [(BG.Be ah).1]; rw [(AW.Be ay).1]; exact Ot (ae.row (Ae _) h2 (fun p hp => h3 p (List.mem_append_left _ hp))) (ah.row (Ae _) h2 (fun p hp => h3 p (List.mem_append_right _ (List.mem_append_left _ hp)))) (ay.row (Ae _) h2 (fun p hp => h3 p (List.mem_append_right _ (List.mem_append_right _ (List.mem_append_left _ hp))))) mn) ?_
 refine um (ox rfl rfl rfl (ox rfl rfl rfl (ua (ua (Aa (At ?_))))))
 obtain ⟨k2, kj, gi⟩ := AB mo
 refine jE (((ba, ce #[.slice bk l5.length bl, .slice bm cc bn] 51) :: ((bo, ce #[.slice cd cf cg, .slice cj ck cn] 26) :: ((b1, ce #[.slice Ac Ab.length Ad, .slice Aj Af.length Ai] 26) :: (ao ++ (aq ++ (ar ++ (au ++ (aj ++ []))))))))) [(1, .slice Cz Bh.length CD), (2, .slice Bl table.length Bk), (3, .pointer (some ⟨b1, 0, none⟩)), (7, .pointer (some ⟨bo, 0, none⟩)), (8, .slice fq fs ft), (9, .slice fv fw fx), (10, .pointer (some ⟨ba, 0, none⟩)), (11, .int .i64 n), (71, .bool k2)] ?_ ?_
 ·clear gi
  refine An (um (um ?_))
  refine uv (BH rfl rfl) (um ?_)
  by_cases cz : n6 ≠ v
  ·have mq := AQ kj cz
   refine fT cz (fT cz (fT cz ?_))
   refine uv (Aw (AS rfl cz) rfl) (Aa ?_)
   obtain rfl := AH mq
   exact mi kr ⟨rfl, rfl, (sc rfl z8)⟩
  have gj := AR kj cz
  refine nF cz (um (nF cz (um (nF cz ?_))))
  refine uv (BH rfl rfl) (uv (Ar (AM rfl cz) rfl) (Aa ?_))
  obtain rfl := AH gj
  exact mi kr ⟨rfl, rfl, (sc rfl z8)⟩
 refine AT rfl (fun dd => ?_) (fun dd => ?_)
 ·have gk := bt gi dd
  refine AI (ua (Aa ?_))
  refine kW kn ?_
  refine As (Al ?_)
  refine BD results8 ?_
  obtain rfl := AH gk
  exact rfl
 have gl := bf gi dd
 refine Aq ?_
 obtain ⟨e_, gm, dw⟩ := AB gl
 refine jE (((ba, ce #[.slice bk l5.length bl, .slice bm cc bn] 51) :: ((bo, ce #[.slice cd cf cg, .slice cj ck cn] 26) :: ((b1, ce #[.slice Ac Ab.length Ad, .slice Aj Af.length Ai] 26) :: (ao ++ (aq ++ (ar ++ (au ++ (aj ++ []))))))))) [(1, .slice Cz Bh.length CD), (2, .slice Bl table.length Bk), (3, .pointer (some ⟨b1, 0, none⟩)), (7, .pointer (some ⟨bo, 0, none⟩)), (8, .slice fq fs ft), (9, .slice fv fw fx), (10, .pointer (some ⟨ba, 0, none⟩)), (11, .int .i64 e_)] ?_ ?_
 ·clear dw
  obtain ⟨k3, dx, de⟩ := AB gm
  refine jE (((ba, ce #[.slice bk l5.length bl, .slice bm cc bn] 51) :: ((bo, ce #[.slice cd cf cg, .slice cj ck cn] 26) :: ((b1, ce #[.slice Ac Ab.length Ad, .slice Aj Af.length Ai] 26) :: (ao ++ (aq ++ (ar ++ (au ++ (aj ++ []))))))))) [(1, .slice Cz Bh.length CD), (2, .slice Bl table.length Bk), (3, .pointer (some ⟨b1, 0, none⟩)), (7, .pointer (some ⟨bo, 0, none⟩)), (8, .slice fq fs ft), (9, .slice fv fw fx), (10, .pointer (some ⟨ba, 0, none⟩)), (11, .int .i64 n), (78, .bool k3)] ?_ ?_
  ·clear de
   refine An (um ?_)
   refine uv (Bb rfl rfl) (um ?_)
   by_cases bp : n = 0
   ·have gn := AQ dx bp
    refine nT bp (uv (AE isAgg51 sizeOf51 rfl (Has.own 0 rfl) (A5 rfl) rfl) (nT bp ?_))
    obtain ⟨n7, gp, gq⟩ := AB gn
    refine Bi (Lt := aj ++ []) (Lr := (ba, ce #[.slice bk l5.length bl, .slice bm cc bn] 51) :: ((bo, ce #[.slice cd cf cg, .slice cj ck cn] 26) :: ((b1, ce #[.slice Ac Ab.length Ad, .slice Aj Af.length Ai] 26) :: (ao ++ (aq ++ (ar ++ (au ++ []))))))) rfl call34 rfl rfl rfl (pT ((fC (fC (fC (fS (fS (fS (fS fP))))))).trans (pA pR)) (lp (ln rfl))) (fun F2 h2 h3 => by rw [(AW.Be az).1]; exact Ck (cq.mono (Ak (Ae _)) h2) (az.row (Ak (Ae _)) h2 (fun p hp => h3 p (List.mem_append_left _ hp))) gp) ?_
    refine nT bp (uv (Bb rfl rfl) (uv (Aw (AS rfl bp) rfl) (Aa ?_)))
    obtain rfl := AH gq
    exact mi kr ⟨rfl, rfl, (sc rfl z8)⟩
   have gr := AR dx bp
   refine fF bp (fF bp (fF bp ?_))
   refine uv (Ar (AM rfl bp) rfl) (Aa ?_)
   obtain rfl := AH gr
   exact mi kr ⟨rfl, rfl, (sc rfl z8)⟩
  refine AT rfl (fun df => ?_) (fun df => ?_)
  ·have gu := bt de df
   refine An (ua (Aa ?_))
   obtain rfl := AH gu
   exact mi kr ⟨rfl, rfl, z8⟩
  have gv := bf de df
  refine Aq ?_
  obtain rfl := AH gv
  exact mi kr ⟨rfl, rfl, z8⟩
 refine AI (uv (AE isAgg26 sizeOf26 rfl (Has.own 1 rfl) (A5 rfl) rfl) ?_)
 obtain ⟨l7, n8, n9, gw, gx⟩ := I6 dw
 refine Is (Lb := []) (Lt := ao ++ (aq ++ [])) (Lr := (ba, ce #[.slice bk l5.length bl, .slice bm cc bn] 51) :: ((bo, ce #[.slice cd cf cg, .slice cj ck cn] 26) :: ((b1, ce #[.slice Ac Ab.length Ad, .slice Aj Af.length Ai] 26) :: (ar ++ (au ++ (aj ++ [])))))) rfl call35 rfl rfl rfl (pT ((fC (fC (fC fP))).trans (pA ((fC (fC (fC fP))).trans (pA pR)))) (ln (lp (lp (ln rfl))))) (fun F2 h2 h3 => by rw [(BG.Be ae).1]; rw [(BG.Be ah).1]; exact JK (ae.row (Ae _) h2 (fun p hp => h3 p (List.mem_append_left _ hp))) (ah.row (Ae _) h2 (fun p hp => h3 p (List.mem_append_right _ (List.mem_append_left _ hp)))) gw) (fun _ _ _ _ hq => by obtain ⟨dy, dz, eb, bb, rfl, rfl, ai⟩ := hq; exact ⟨_, _, _, _, rfl, rfl, ai.flat (fun _ _ h => h)⟩) ?_; rintro _ mr _ aw ec ef ⟨dy, dz, eb, bb, rfl, rfl, ai⟩
 replace a6 := a6.mono (Ak (Ae _)) aw
 replace ad := ad.mono (Ak (Ae _)) aw
 replace ab := ab.mono (Ae _) aw
 replace aa := aa.mono (Ak (Ae _)) aw
 replace cq := cq.mono (Ak (Ae _)) aw
 replace ae := ae.mono (Ae _) aw
 replace ah := ah.mono (Ae _) aw
 replace ay := ay.mono (Ae _) aw
 replace bg := bg.mono (Ae _) aw
 replace az := az.mono (Ak (Ae _)) aw
 have eg := OR (Lb' := []) (by rfl) ec ef
 replace ai := ai.new fun p hp => eg p (by simp [hp])
 refine AD (lp (ln (lp (lp (ln rfl))))) (kO (kf (fS (fS (fS fO))) (kf (fS (fS (fS fO))) (kf (fS (fS (fS fO))) kr))) ?_)
 refine um (ox rfl rfl rfl (ox rfl rfl rfl (ox rfl rfl rfl (ua (ua (ua (BI ?_)))))))
 refine uv (AE isAgg26 sizeOf26 rfl (Has.own 1 rfl) (A5 rfl) rfl) ?_
 obtain ⟨l8, mu, gy, gz⟩ := A9 gx
 refine Is (Lb := []) (Lt := ao ++ (aq ++ [])) (Lr := (ba, ce #[.slice bk l5.length bl, .slice bm cc bn] 51) :: ((bo, ce #[.slice cd cf cg, .slice cj ck cn] 26) :: ((b1, ce #[.slice Ac Ab.length Ad, .slice Aj Af.length Ai] 26) :: (bb ++ (ar ++ (au ++ (aj ++ []))))))) rfl call5 rfl rfl rfl (pT ((fC (fC (fC (fS fP)))).trans (pA ((fC (fC (fC (fS fP)))).trans (pA pR)))) (ln (lp (lp (ln rfl))))) (fun F2 h2 h3 => by rw [(BG.Be ae).1]; rw [(BG.Be ah).1]; exact Kr (ae.row (Ae _) h2 (fun p hp => h3 p (List.mem_append_left _ hp))) (ah.row (Ae _) h2 (fun p hp => h3 p (List.mem_append_right _ (List.mem_append_left _ hp)))) gy) (fun _ _ _ _ hq => by obtain ⟨dg, dh, di, ax, rfl, rfl, ak⟩ := hq; exact ⟨_, _, _, _, rfl, rfl, BG.flat ak (fun _ _ h => h)⟩) ?_; rintro _ mv _ al eh ei ⟨dg, dh, di, ax, rfl, rfl, ak⟩
 replace a6 := a6.mono (Ak (Ae _)) al
 replace ad := ad.mono (Ak (Ae _)) al
 replace ab := ab.mono (Ae _) al
 replace aa := aa.mono (Ak (Ae _)) al
 replace cq := cq.mono (Ak (Ae _)) al
 replace ae := ae.mono (Ae _) al
 replace ah := ah.mono (Ae _) al
 replace ay := ay.mono (Ae _) al
 replace bg := bg.mono (Ae _) al
 replace az := az.mono (Ak (Ae _)) al
 replace ai := ai.mono (Ae _) al
 have ej := OR (Lb' := []) (by rfl) eh ei
 replace ak := ak.new fun p hp => ej p (by simp [hp])
 refine AD (lp (ln (lp (lp (ln rfl))))) (kO (kf (fS (fS (fS fO))) (kf (fS (fS (fS fO))) (kf (fS (fS (fS fO))) kr))) ?_)
 refine um (ox rfl rfl rfl (ox rfl rfl rfl (ua (ua (BI ?_)))))
 refine uv (AE isAgg26 sizeOf26 rfl (Has.own 1 rfl) (A5 rfl) rfl) (um ?_)
 obtain ⟨en, eo, ia, ib⟩ := A9 gz
 refine Bi (Lt := ao ++ (aq ++ (au ++ []))) (Lr := (ba, ce #[.slice bk l5.length bl, .slice bm cc bn] 51) :: ((bo, ce #[.slice cd cf cg, .slice cj ck cn] 26) :: ((b1, ce #[.slice Ac Ab.length Ad, .slice Aj Af.length Ai] 26) :: (ax ++ (bb ++ (ar ++ (aj ++ []))))))) rfl call36 rfl rfl rfl (pT ((fC (fC (fC (fS fP)))).trans (pA ((fC (fC (fC (fS fP)))).trans (pA ((fC (fC (fC (fS (fS (fS fP)))))).trans (pA pR)))))) (lp (lp (lp (ln rfl))))) (fun F2 h2 h3 => by rw [(BG.Be ae).1]; rw [(BG.Be ah).1]; rw [(BG.Be bg).1]; exact NJ (ae.row (Ae _) h2 (fun p hp => h3 p (List.mem_append_left _ hp))) (ah.row (Ae _) h2 (fun p hp => h3 p (List.mem_append_right _ (List.mem_append_left _ hp)))) (bg.row (Ae _) h2 (fun p hp => h3 p (List.mem_append_right _ (List.mem_append_right _ (List.mem_append_left _ hp))))) ia) ?_
 refine um (ox rfl rfl rfl (ox rfl rfl rfl (ua (ua (Aa (At ?_))))))
 obtain ⟨k4, ep, dk⟩ := AB ib
 refine jE (((ba, ce #[.slice bk l5.length bl, .slice bm cc bn] 51) :: (aj ++ (bb ++ (ax ++ []))))) [(2, .slice Bl table.length Bk), (10, .pointer (some ⟨ba, 0, none⟩)), (11, .int .i64 e_), (14, .int .i64 n8), (16, .slice dy dz eb), (17, .slice dg dh di), (19, .int .i64 en), (20, .int .i64 eo), (121, .bool k4)] ?_ ?_
 ·clear dk
  refine An (um (um ?_))
  refine uv (BH rfl rfl) (um ?_)
  by_cases bq : n9 ≠ e_
  ·have ic := AQ ep bq
   refine fT bq (fT bq (fT bq ?_))
   refine uv (Aw (AS rfl bq) rfl) ?_
   refine um (Ah (b' := true) 104 rfl rfl rfl rfl (Ah (b' := true) 104 rfl rfl rfl rfl (Ah (b' := true) 104 rfl rfl rfl rfl (Ah (b' := true) 104 rfl rfl rfl rfl ?_))))
   refine uv (Aw rfl rfl) ?_
   refine um (Ah (b' := true) 110 rfl rfl rfl rfl (Ah (b' := true) 110 rfl rfl rfl rfl (Ah (b' := true) 110 rfl rfl rfl rfl (Ah (b' := true) 110 rfl rfl rfl rfl ?_))))
   refine uv (Aw rfl rfl) ?_
   refine um (Ah (b' := true) 116 rfl rfl rfl rfl (Ah (b' := true) 116 rfl rfl rfl rfl (Ah (b' := true) 116 rfl rfl rfl rfl (Ah (b' := true) 116 rfl rfl rfl rfl ?_))))
   refine uv (Aw rfl rfl) (Aa ?_)
   obtain rfl := AH ic
   exact mi (kc (kd (kd (kg (fS (fS (fS (fS (fS (fS fP)))))) (kg (fS (fS (fS fP))) (ka kn)))))) ⟨rfl, rfl, (sc rfl z8)⟩
  have er := AR ep bq
  refine nF bq (um (nF bq (um (nF bq ?_))))
  refine uv (BH rfl rfl) (uv (Ar (AM rfl bq) rfl) (um ?_))
  by_cases bh : mu ≠ e_
  ·have ie := AQ er bh
   refine fT bh (fT bh (fT bh (fT bh ?_)))
   refine uv (Aw (AS rfl bh) rfl) ?_
   refine um (Ah (b' := true) 110 rfl rfl rfl rfl (Ah (b' := true) 110 rfl rfl rfl rfl (Ah (b' := true) 110 rfl rfl rfl rfl (Ah (b' := true) 110 rfl rfl rfl rfl ?_))))
   refine uv (Aw rfl rfl) ?_
   refine um (Ah (b' := true) 116 rfl rfl rfl rfl (Ah (b' := true) 116 rfl rfl rfl rfl (Ah (b' := true) 116 rfl rfl rfl rfl (Ah (b' := true) 116 rfl rfl rfl rfl ?_))))
   refine uv (Aw rfl rfl) (Aa ?_)
   obtain rfl := AH ie
   exact mi (kc (kd (kd (kg (fS (fS (fS (fS (fS (fS fP)))))) (kg (fS (fS (fS fP))) (ka kn)))))) ⟨rfl, rfl, (sc rfl z8)⟩
  have ig := AR er bh
  refine nF bh (uv (AE isAgg26 sizeOf26 rfl (Has.own 1 rfl) (A5 rfl) rfl) (nF bh (uv (AE isAgg26 sizeOf26 rfl (Has.own 2 rfl) (A5 rfl) rfl) (nF bh ?_))))
  obtain ⟨mw, ij, et⟩ := AB ig
  refine Bi (Lt := ao ++ (aq ++ [])) (Lr := (ba, ce #[.slice bk l5.length bl, .slice bm cc bn] 51) :: ((bo, ce #[.slice cd cf cg, .slice cj ck cn] 26) :: ((b1, ce #[.slice Ac Ab.length Ad, .slice Aj Af.length Ai] 26) :: (ax ++ (bb ++ (ar ++ (au ++ (aj ++ [])))))))) rfl call22 rfl rfl rfl (pT ((fC (fC (fC (fS fP)))).trans (pA ((fC (fC (fC (fS fP)))).trans (pA pR)))) (lp (lp (ln rfl)))) (fun F2 h2 h3 => by rw [(BG.Be ae).1]; rw [(BG.Be ah).1]; exact DF (ae.row (Ae _) h2 (fun p hp => h3 p (List.mem_append_left _ hp))) (ah.row (Ae _) h2 (fun p hp => h3 p (List.mem_append_right _ (List.mem_append_left _ hp)))) (a6.mono (Ak (Ae _)) h2) (ad.mono (Ak (Ae _)) h2) ij) ?_
  refine nF bh (uv (BM rfl) (uv (Ar (AM rfl bh) rfl) (um ?_)))
  rcases Bf (!mw) with bc | bc
  ·have ik := bt et bc
   refine fB bc (fB bc (fB bc (fB bc ?_)))
   refine uv (Aw (En rfl bc) rfl) ?_
   refine um (Ah (b' := true) 116 rfl rfl rfl rfl (Ah (b' := true) 116 rfl rfl rfl rfl (Ah (b' := true) 116 rfl rfl rfl rfl (Ah (b' := true) 116 rfl rfl rfl rfl ?_))))
   refine uv (Aw rfl rfl) (Aa ?_)
   obtain rfl := AH ik
   exact mi (kc (kd (kd (kg (fS (fS (fS (fS (fS (fS fP)))))) (kg (fS (fS (fS fP))) (ka kn)))))) ⟨rfl, rfl, (sc rfl z8)⟩
  have il := bf et bc
  refine nB bc (um (nB bc (um (nB bc ?_))))
  obtain ⟨mx, im, eu⟩ := AB il
  refine Bi (Lt := ar ++ []) (Lr := (ba, ce #[.slice bk l5.length bl, .slice bm cc bn] 51) :: ((bo, ce #[.slice cd cf cg, .slice cj ck cn] 26) :: ((b1, ce #[.slice Ac Ab.length Ad, .slice Aj Af.length Ai] 26) :: (ax ++ (ao ++ (aq ++ (bb ++ (au ++ (aj ++ []))))))))) rfl call37 rfl rfl rfl (pT ((fC (fC (fC (fS (fS (fS (fS fP))))))).trans (pA pR)) (lp (ln rfl))) (fun F2 h2 h3 => by rw [(AW.Be ay).1]; exact DI (ay.row (Ae _) h2 (fun p hp => h3 p (List.mem_append_left _ hp))) (ab.mono (Ae _) h2) im) ?_
  refine nB bc (uv (BM rfl) (uv (Ar (En rfl bc) rfl) (um ?_)))
  rcases Bf (!mx) with bd | bd
  ·have iq := bt eu bd
   refine fB bd (fB bd (fB bd (fB bd ?_)))
   refine uv (Aw (En rfl bd) rfl) (Aa ?_)
   obtain rfl := AH iq
   exact mi (kc (kd (kd (kg (fS (fS (fS (fS (fS (fS fP)))))) (kg (fS (fS (fS fP))) (ka kn)))))) ⟨rfl, rfl, (sc rfl z8)⟩
  have ir := bf eu bd
  refine nB bd (um (nB bd (um (nB bd ?_))))
  obtain ⟨o1, iu, iv⟩ := AB ir
  refine Bi (Lt := au ++ []) (Lr := (ba, ce #[.slice bk l5.length bl, .slice bm cc bn] 51) :: ((bo, ce #[.slice cd cf cg, .slice cj ck cn] 26) :: ((b1, ce #[.slice Ac Ab.length Ad, .slice Aj Af.length Ai] 26) :: (ax ++ (ao ++ (aq ++ (bb ++ (ar ++ (aj ++ []))))))))) rfl call38 rfl rfl rfl (pT ((fC (fC (fC (fS (fS (fS (fS (fS fP)))))))).trans (pA pR)) (lp (ln rfl))) (fun F2 h2 h3 => by rw [(BG.Be bg).1]; exact IH (bg.row (Ae _) h2 (fun p hp => h3 p (List.mem_append_left _ hp))) (aa.mono (Ak (Ae _)) h2) iu) ?_
  refine nB bd (uv (BM rfl) (uv (Ar (En rfl bd) rfl) (Aa ?_)))
  obtain rfl := AH iv
  exact mi (kc (kd (kd (kg (fS (fS (fS (fS (fS (fS fP)))))) (kg (fS (fS (fS fP))) (ka kn)))))) ⟨rfl, rfl, (sc rfl z8)⟩
 refine AT rfl (fun dm => ?_) (fun dm => ?_)
 ·have iw := bt dk dm
  refine AI (ua (Aa ?_))
  refine kW kn ?_
  refine As (Al ?_)
  refine BD results8 ?_
  obtain rfl := AH iw
  exact rfl
 have ew := bf dk dm
 refine Aq (At (AI (um ?_)))
 refine uv (BH rfl rfl) (Aa ?_)
 refine cQ (fun dp => ?_) fun dp => ?_
 ·have ey := AQ ew dp
  refine AI (um (um ?_))
  refine uv (Bb rfl rfl) (um ?_)
  by_cases av : eo = e_
  ·have iy := AQ ey av
   refine nT av (um (nT av ?_))
   refine uv ((AJ underlying22 rfl).i (AW.GN ai)) ?_
   refine nT av (um (nT av ?_))
   refine uv ((AJ underlying23 rfl).i (BG.GN ak)) (nT av ?_)
   obtain ⟨iz, ez⟩ := AX iy
   refine uv (AY rfl rfl iz) (nT av (uv (Bb rfl rfl) (uv (Aw (AS rfl av) rfl) (um ?_))))
   by_cases bz : ((l7.length : Int) + (l8.length : Int)) = 0
   ·have fa := AQ ez bz
    refine nT bz (um (nT bz ?_))
    refine uv (Bb rfl rfl) (uv (Aw (AS rfl bz) rfl) (um ?_))
    by_cases ca : n8 = 0
    ·have fb := AQ fa ca
     refine nT ca (um (nT ca ?_))
     refine uv (Bb rfl rfl) (uv (Aw (AS rfl ca) rfl) (um ?_))
     by_cases cu : en = 0
     ·have j0 := AQ fb cu
      refine nT cu ?_
      obtain ⟨o2, j1, j2⟩ := AB j0
      refine cV call14 (BB j1) (uv (Aw (AS rfl cu) rfl) ?_)
      refine ua (Aa ?_)
      refine kW kn ?_
      refine As (Al ?_)
      refine BD results8 ?_
      obtain rfl := AH j2
      exact rfl
     have j3 := AR fb cu
     refine fF cu (uv (Ar (AM rfl cu) rfl) ?_)
     refine ua (Aa ?_)
     refine kW kn ?_
     refine As (Al ?_)
     refine BD results8 ?_
     obtain rfl := AH j3
     exact rfl
    have j4 := AR fa ca
    refine fF ca (fF ca ?_)
    refine uv (Ar (AM rfl ca) rfl) ?_
    refine um (Ah (b' := false) 143 rfl rfl rfl rfl ?_)
    refine uv (Ar rfl rfl) ?_
    refine ua (Aa ?_)
    refine kW kn ?_
    refine As (Al ?_)
    refine BD results8 ?_
    obtain rfl := AH j4
    exact rfl
   have j5 := AR ez bz
   refine fF bz (fF bz ?_)
   refine uv (Ar (AM rfl bz) rfl) ?_
   refine um (Ah (b' := false) 139 rfl rfl rfl rfl (Ah (b' := false) 139 rfl rfl rfl rfl ?_))
   refine uv (Ar rfl rfl) ?_
   refine um (Ah (b' := false) 143 rfl rfl rfl rfl ?_)
   refine uv (Ar rfl rfl) ?_
   refine ua (Aa ?_)
   refine kW kn ?_
   refine As (Al ?_)
   refine BD results8 ?_
   obtain rfl := AH j5
   exact rfl
  have j6 := AR ey av
  refine fF av (fF av (fF av (fF av (fF av (fF av ?_)))))
  refine uv (Ar (AM rfl av) rfl) ?_
  refine um (Ah (b' := false) 135 rfl rfl rfl rfl (Ah (b' := false) 135 rfl rfl rfl rfl ?_))
  refine uv (Ar rfl rfl) ?_
  refine um (Ah (b' := false) 139 rfl rfl rfl rfl (Ah (b' := false) 139 rfl rfl rfl rfl ?_))
  refine uv (Ar rfl rfl) ?_
  refine um (Ah (b' := false) 143 rfl rfl rfl rfl ?_)
  refine uv (Ar rfl rfl) ?_
  refine ua (Aa ?_)
  refine kW kn ?_
  refine As (Al ?_)
  refine BD results8 ?_
  obtain rfl := AH j6
  exact rfl
 have j7 := AR ew dp
 refine Aq (AI ?_)
 refine uv (AE isAgg51 sizeOf51 rfl (Has.own 0 rfl) (A5 rfl) rfl) ?_
 obtain rfl := (AW.Be az).1
 refine Fa (Nat.le_refl _) (Ak (Ae _)) (fC fP) az ?_; intro my cr cv
 replace aa := aa.mono (Ak (Ae _)) cr
 replace cq := cq.mono (Ak (Ae _)) cr
 replace ai := ai.mono (Ae _) cr
 replace ak := ak.mono (Ae _) cr
 obtain ⟨l9, j8, j9⟩ := AB j7
 refine c0 call39 (Ii cq cv j8) ?_; rintro _ mz _ cb fe ⟨na, nc, nf, db, rfl, rfl, ct⟩
 replace aa := aa.mono (Ak (Ae _)) cb
 replace cq := cq.mono (Ak (Ae _)) cb
 replace cv := cv.mono (Ak (Ae _)) cb
 replace ai := ai.mono (Ae _) cb
 replace ak := ak.mono (Ae _) cb
 replace ct := ct.new fun p hp => fe p (by simp [hp])
 refine AD (lp (ln rfl)) (kO (kf (fS fO) kr) ?_)
 obtain ⟨x, ff, fg, ja⟩ := A7 j9
 obtain ⟨ng, nh, ni, kl, fh, fi, jb, ⟨nj, nk, rfl, fj⟩, km, fk⟩ := AW.at (Ak (Ae _)) ct (L := (ba, ce #[.slice bk l5.length bl, .slice bm l6.length bn] 51) :: (db ++ (bb ++ (ax ++ [])))) (fC fP) ff.1 fg
 refine uv (AF underlying23 sizeOf22 rfl fh rfl (AW.idx ct ff)) (uv (Ao isAgg22 rfl fi (fk 0 (by decide))) ?_)
 refine ua (Aa (At (AI ?_)))
 refine uv (AE isAgg51 sizeOf51 rfl (Has.own 0 rfl) (A5 rfl) rfl) (um ?_)
 obtain ⟨ko, jc, jd⟩ := AB ja
 refine cV call40 (Da cq cv fj jc) ?_
 refine ua (Aa ?_)
 obtain ⟨k5, fl, dq⟩ := AB jd
 refine jE (((ba, ce #[.slice bk l5.length bl, .slice bm l6.length bn] 51) :: (ax ++ []))) [(2, .slice Bl table.length Bk), (10, .pointer (some ⟨ba, 0, none⟩)), (13, .int .i64 ko), (17, .slice dg dh di), (19, .int .i64 en), (20, .int .i64 eo), (161, .bool k5)] ?_ ?_
 ·clear dq
  refine An (um (um ?_))
  refine uv (BH rfl rfl) (um ?_)
  by_cases bj : n8 ≠ ko
  ·have je := AQ fl bj
   refine fT bj (fT bj (fT bj (fT bj ?_)))
   refine uv (Aw (AS rfl bj) rfl) (Aa ?_)
   obtain rfl := AH je
   exact mi (kc (kx (kx kr))) ⟨rfl, rfl, z7⟩
  have jf := AR fl bj
  refine nF bj (um (nF bj (um (nF bj ?_))))
  obtain ⟨o3, jg, jh⟩ := AB jf
  refine Bi (Lt := bb ++ []) (Lr := (ba, ce #[.slice bk l5.length bl, .slice bm l6.length bn] 51) :: (db ++ (ax ++ []))) rfl call37 rfl rfl rfl (pT ((fC (fS fP)).trans (pA pR)) (lp (ln rfl))) (fun F2 h2 h3 => by rw [(AW.Be ai).1]; exact DI (ai.row (Ae _) h2 (fun p hp => h3 p (List.mem_append_left _ hp))) (fj.mono (Ae _) h2) jg) ?_
  refine nF bj (uv (BM rfl) (uv (Ar (AM rfl bj) rfl) (Aa ?_)))
  obtain rfl := AH jh
  exact mi (kc (kx (kx kr))) ⟨rfl, rfl, z7⟩
 refine AT rfl (fun dr => ?_) (fun dr => ?_)
 ·have ji := bt dq dr
  refine AI (ua (Aa ?_))
  refine kW kn ?_
  refine As (Al ?_)
  refine BD results8 ?_
  obtain rfl := AH ji
  exact rfl
 have jj := bf dq dr
 refine Aq (AI ?_)
 refine uv (AE isAgg51 sizeOf51 rfl (Has.own 0 rfl) (A5 rfl) rfl) (um ?_)
 obtain ⟨o4, np, jk, jl⟩ := A9 jj
 refine Bi (Lt := ax ++ []) (Lr := [(ba, ce #[.slice bk l5.length bl, .slice bm l6.length bn] 51)]) rfl call41 rfl rfl rfl (pT ((fC fP).trans (pA pR)) (lp (ln rfl))) (fun F2 h2 h3 => by rw [(BG.Be ak).1]; exact Kf (cq.mono (Ak (Ae _)) h2) (cv.mono (Ak (Ae _)) h2) (ak.row (Ae _) h2 (fun p hp => h3 p (List.mem_append_left _ hp))) jk) ?_
 refine um (ox rfl rfl rfl (ox rfl rfl rfl (ua (ua (Aa (At ?_))))))
 obtain ⟨k6, fm, dt⟩ := AB jl
 refine jE ([(ba, ce #[.slice bk l5.length bl, .slice bm l6.length bn] 51)]) [(2, .slice Bl table.length Bk), (10, .pointer (some ⟨ba, 0, none⟩)), (19, .int .i64 en), (20, .int .i64 eo), (174, .bool k6)] ?_ ?_
 ·clear dt
  refine An (um ?_)
  refine uv (BH rfl rfl) (um ?_)
  by_cases br : np ≠ 0
  ·have jm := AQ fm br
   refine fT br (fT br (fT br ?_))
   refine uv (Aw (AS rfl br) rfl) (Aa ?_)
   obtain rfl := AH jm
   exact mi (kc kn) ⟨rfl, rfl, z5⟩
  have jn := AR fm br
  refine nF br (um (nF br (um (nF br ?_))))
  refine uv (BH rfl rfl) (uv (Ar (AM rfl br) rfl) (Aa ?_))
  obtain rfl := AH jn
  exact mi (kc kn) ⟨rfl, rfl, z5⟩
 refine AT rfl (fun du => ?_) (fun du => ?_)
 ·have jo := bt dt du
  refine AI (ua (Aa ?_))
  refine kW kn ?_
  refine As (Al ?_)
  refine BD results8 ?_
  obtain rfl := AH jo
  exact rfl
 have jq := bf dt du
 refine Aq (AI ?_)
 refine uv (AE isAgg51 sizeOf51 rfl (Has.own 0 rfl) (A5 rfl) rfl) (um ?_)
 obtain ⟨nq, nr, jr, fo⟩ := A9 jq
 refine cV call41 (Kf cq cv aa jr) ?_
 refine um (ox rfl rfl rfl (ox rfl rfl rfl (ua (ua (BI (um (um ?_)))))))
 refine uv (Bb rfl rfl) (um ?_)
 by_cases bu : en = nq
 ·have fp := AQ fo bu
  refine nT bu (um (nT bu (um (nT bu ?_))))
  refine uv (Bb rfl rfl) (uv (Aw (AS rfl bu) rfl) (um ?_))
  by_cases cw : eo = nr
  ·have js := AQ fp cw
   refine nT cw ?_
   obtain ⟨ns, jt, ju⟩ := AB js
   refine cV call14 (BB jt) (uv (Aw (AS rfl cw) rfl) ?_)
   refine ua (Aa ?_)
   refine kW kn (As (BD results8 ?_))
   obtain rfl := AH ju
   exact rfl
  have jv := AR fp cw
  refine fF cw (uv (Ar (AM rfl cw) rfl) ?_)
  refine ua (Aa ?_)
  refine kW kn (As (BD results8 ?_))
  obtain rfl := AH jv
  exact rfl
 have jw := AR fo bu
 refine fF bu (fF bu (fF bu ?_))
 refine uv (Ar (AM rfl bu) rfl) ?_
 refine um (Ah (b' := false) 189 rfl rfl rfl rfl ?_)
 refine uv (Ar rfl rfl) ?_
 refine ua (Aa ?_)
 refine kW kn (As (BD results8 ?_))
 obtain rfl := AH jw
 exact rfl
set_option maxHeartbeats 1000000 in
theorem MD (a6 : Au 1 (Bm 1 (iE .i64)) F Ac Ad Ab) (ah : Au 1 (Bm 1 (iE .i64)) F Aj Ai Af) {r : List Int} (hr : JX Ab Af = some r) :
    SH.Spec Tryz.prog 42 #[.agg #[.slice Ac Ab.length Ad, .slice Aj Af.length Ai]] F [] fun F' L' v => ∃ (ra : Option Addr) (rn : Nat) (rc : Nat) (rL : LH), v = .slice ra rn rc ∧ L' = rL ++ [] ∧ AW 0 3 1 (iE .i64) F' ra rn rc r rL := by
 refine sp func42 ntmps42 fun K _ _ => ?_
 rw [JX] at hr
 refine AI ?_
 refine By rfl rfl ?_; intro b1 eb
 refine ua (BI ?_)
 refine uv (AE isAgg51 sizeOf51 rfl (Has.own 0 rfl) (A5 rfl) rfl) ?_
 obtain ⟨l, h2, r3⟩ := AB hr
 refine c0 call94 ((Jh FU) a6 ah h2) ?_; rintro _ F4 _ cy cz ⟨a8, bc, c9, ae, rfl, rfl, ad⟩
 replace a6 := a6.mono (Ak (Ae _)) cy
 replace ad := ad.new fun p hp => cz p (by simp [hp])
 refine AD (lp (ln rfl)) (kO (kf (fS fO) kr) ?_)
 refine ua (BI (ua (Aa ?_)))
 obtain ⟨out, da, cp⟩ := AB r3
 refine AK (fun e1 F1 L1 => ∃ (bl : Option Addr) (bm : Nat) (bn : Nat) (ao : LH), F4 = F1 ∧ L1 = (ao ++ []) ∧ e1.sub [(4, .slice bl bm bn)] ∧ AW K.w0.heap.size 3 1 (iE .i64) F1 bl bm bn out ao) ?_ ?_
 ·clear cp
  refine AI (ua (Aa ?_))
  refine Ap ?_
  refine A2 (fun cq e1 F1 L1 => LA Ab cq fun tl i => ∃ (ai : List Int) (aq : Option Addr) (ar : Nat) (au : Nat) (ab : LH), E5 l tl i ai = some out ∧ F4 = F1 ∧ L1 = ((b1, ce #[.slice Ac Ab.length Ad, .slice Aj Af.length Ai] 51) :: (ae ++ (ab ++ []))) ∧ e1.sub [(1, .pointer (some ⟨b1, 0, none⟩)), (3, .slice a8 bc c9), (4, .slice aq ar au), (5, .int .i64 i)] ∧ AW K.w0.heap.size 3 1 (iE .i64) F1 aq ar au ai ab) _ (m0 (kc (ka (ke kr))) ⟨_, _, rfl, A8.start _, [], none, 0, 0, [], da, rfl, rfl, z4, AW.nil _ _ _ _ _⟩) ?_
  rintro cq e1 _ _ ⟨tl, i, bo, av, ai, aq, ar, au, ab, bd, rfl, rfl, bp, aw⟩
  refine Az _ bp ?_
  refine At (AI (um ?_))
  refine uv (Av Hs rfl) (uv (Ao isAgg23 rfl (Has.own 0 rfl) rfl) (uv (AJ underlying23 rfl) (uv (AV rfl rfl) (Aa ?_))))
  refine cQ (fun bg => ?_) fun bg => ?_
  ·obtain ⟨x, ec, rfl, db, ef, bq⟩ := A8.succ av bg
   rw [E5] at bd
   refine Aq ?_
   obtain ⟨ax, dd, cr⟩ := AB bd
   refine AK (fun e1 F1 L1 => ∃ (bh : Option Addr) (bj : Nat) (bk : Nat) (aj : LH), F4 = F1 ∧ L1 = ((b1, ce #[.slice Ac Ab.length Ad, .slice Aj Af.length Ai] 51) :: (ae ++ (aj ++ []))) ∧ e1.sub [(1, .pointer (some ⟨b1, 0, none⟩)), (3, .slice a8 bc c9), (4, .slice bh bj bk), (5, .int .i64 i)] ∧ AW K.w0.heap.size 3 1 (iE .i64) F1 bh bj bk ax aj) ?_ ?_
   ·clear cr
    refine Ap ?_
    refine AI (ua (Aa ?_))
    obtain ⟨ct, de, br⟩ := AB dd
    refine jE (((b1, ce #[.slice Ac Ab.length Ad, .slice Aj Af.length Ai] 51) :: (ae ++ (ab ++ [])))) [(1, .pointer (some ⟨b1, 0, none⟩)), (3, .slice a8 bc c9), (4, .slice aq ar au), (5, .int .i64 i), (6, .bool ct)] ?_ ?_
    ·clear br
     refine AI (ua (Aa ?_))
     refine Ap ?_
     refine A2 (fun cu e1 F1 L1 => LA l cu fun cv k => ∃ (ak : Bool), D0 i cv ak = some ct ∧ F4 = F1 ∧ L1 = ((b1, ce #[.slice Ac Ab.length Ad, .slice Aj Af.length Ai] 51) :: (ae ++ (ab ++ []))) ∧ e1.sub [(1, .pointer (some ⟨b1, 0, none⟩)), (3, .slice a8 bc c9), (4, .slice aq ar au), (5, .int .i64 i), (6, .bool ak), (7, .int .i64 k)]) _ (m0 kr ⟨_, _, rfl, A8.start _, true, de, rfl, rfl, z6⟩) ?_
     rintro cu e1 _ _ ⟨cv, k, ay, al, ak, az, rfl, rfl, bu⟩
     refine Az _ bu ?_
     refine At (AI (um (um ?_)))
     refine uv ((AJ underlying23 rfl).i (AW.GN ad)) (uv (AV rfl rfl) (Aa ?_))
     refine cQ (fun ba => ?_) fun ba => ?_
     ·obtain ⟨x2, eg, rfl, bw, cw, bb⟩ := A8.succ al ba
      rw [D0] at az
      refine Aq (At ?_)
      refine Ap ?_
      refine An (um (um ?_))
      rcases Bf ak with aa | aa
      ·have df := bt az aa
       refine nB aa (um (nB aa (um (nB aa ?_))))
       obtain ⟨eh, ei, ej, dg, bx, bz, cx, ⟨en, eo, rfl, dh⟩, di, ca⟩ := AW.at (Ak (Ae _)) ad (L := (b1, ce #[.slice Ac Ab.length Ad, .slice Aj Af.length Ai] 51) :: (ae ++ (ab ++ []))) (fC fP) cw.1 bw
       refine uv (AF underlying23 sizeOf22 rfl bx rfl (AW.idx ad cw)) (nB aa (uv (Ao isAgg22 rfl bz (ca 0 (by decide))) ?_))
       refine nB aa (um (nB aa ?_))
       obtain ⟨n, dk, dm⟩ := AB df
       refine cV call95 (Iw dh dk) (nB aa (uv (Em rfl rfl) (uv (Aw (En rfl aa) rfl) ?_)))
       refine ua (Aa (Ax (id := 3) (An (um ?_))))
       refine uv (AY rfl rfl (A8.CC al ba (AW.O6 ad))) ?_
       refine ua (Aa ?_)
       subst ay; exact le kr ⟨_, _, rfl, bb, decide (0 < n), dm, rfl, rfl, z6⟩
      have dp := bf az aa
      refine fB aa (fB aa (fB aa (fB aa (fB aa (fB aa (fB aa ?_))))))
      refine uv (Ar (En rfl aa) rfl) ?_
      refine ua (Aa (Ax (id := 3) (An (um ?_))))
      refine uv (AY rfl rfl (A8.CC al ba (AW.O6 ad))) ?_
      refine ua (Aa ?_)
      subst ay; exact le kr ⟨_, _, rfl, bb, false, dp, rfl, rfl, z6⟩
     obtain rfl := A8.zero al ba
     rw [D0] at az
     refine AL (Am (Am ?_))
     refine AA ?_
     obtain rfl := AH az
     exact mi kr ⟨rfl, rfl, z5⟩
    refine AI (um (Aa ?_))
    refine AT rfl (fun cb => ?_) (fun cb => ?_)
    ·have dq := bt br cb
     refine An (um (um ?_))
     refine bA (cs := #[.int .i64 i]) BN [.int .i64 i] ?_; intro ep dr
     obtain ⟨cc, dt, du, dv⟩ := E0 dq
     refine Dm (xs := ai) (ys := [i]) (zs := cc) rfl BN rfl rfl (Nat.le_refl _) (fun _ => .c (.c (.s .h))) aw (GO.box (vss := [[.int .i64 i]]) (ys := [i]) 0 rfl (Ae _) (.cons rfl .nil) rfl rfl) dt du (by decide) ?_; intro dw dx dy cd cf
     refine kO (kd kr) ?_
     refine ua (Aa (Ax (id := 1) ?_))
     obtain rfl := AH dv
     exact mi kr ⟨dw, dx, dy, cd, rfl, rfl, z4, cf⟩
    have dz := bf br cb
    refine Aq (Ax (id := 1) ?_)
    obtain rfl := AH dz
    exact mi kr ⟨aq, ar, au, ab, rfl, rfl, z4, aw⟩
   rintro e1 _ _ ⟨bh, bj, bk, aj, rfl, rfl, cg, cj⟩
   refine Az _ cg ?_
   refine An (um ?_)
   refine uv (AY rfl rfl (A8.CC av bg (Au.lt a6))) ?_
   refine ua (Aa ?_)
   subst bo; exact le kr ⟨_, _, rfl, bq, ax, bh, bj, bk, aj, cr, rfl, rfl, z4, cj⟩
  obtain rfl := A8.zero av bg
  rw [E5] at bd
  refine AL (Am (Am ?_))
  refine AA ?_
  obtain rfl := AH bd
  exact mi (kd (kx kr)) ⟨aq, ar, au, ab, rfl, rfl, z1, aw⟩
 rintro e1 _ _ ⟨bl, bm, bn, ao, rfl, rfl, ck, cn⟩
 refine Az _ ck ?_
 refine AI (um (ua (Aa (As ?_))))
 refine BD results42 ?_
 obtain rfl := AH cp
 exact ⟨_, _, _, _, rfl, rfl, cn.any⟩
set_option maxHeartbeats 1000000 in
theorem JU {Pb : Option Addr} {O8 : Nat} {a : List Int} {O5 : Option Addr} {Pa : Nat} {b : List Int} (ae : Au 1 (iE .i64) F Pb O8 a) (bc : Au 1 (iE .i64) F O5 Pa b) {r : Bool} (hr : Ht a b = some r) :
    Ba Tryz.prog 96 #[.slice Pb a.length O8, .slice O5 b.length Pa] F (.bool r) := by
 refine sp func96 ntmps96 fun K _ _ => ?_
 rw [Ht] at hr
 refine AI (ua (Aa (At (AI (um ?_)))))
 refine uv (AJ underlying22 rfl) (um (uv (AJ underlying22 rfl) (uv (BH rfl rfl) (Aa ?_))))
 refine cQ (fun c1 => ?_) fun c1 => ?_
 ·have r2 := AQ hr c1
  refine AI (um ?_)
  refine uv (AJ underlying22 rfl) (um (uv (AJ underlying22 rfl) (uv (AV rfl rfl) ?_)))
  refine ua (Aa (As (Al ?_)))
  refine BD results96 ?_
  obtain rfl := AH r2
  exact rfl
 have r3 := AR hr c1
 refine Aq ?_
 refine AK (fun e1 F1 L1 => HA = some r ∧ F = F1 ∧ L1 = [] ∧ e1.sub []) ?_ ?_
 ·refine AI (ua (Aa ?_))
  refine Ap ?_
  refine A2 (fun bd e1 F1 L1 => LA a bd fun tl i => D9 b tl i = some r ∧ F = F1 ∧ L1 = [] ∧ e1.sub [(0, .slice Pb a.length O8), (1, .slice O5 b.length Pa), (5, .int .i64 i)]) _ (m0 kr ⟨_, _, rfl, A8.start _, r3, rfl, rfl, z3⟩) ?_
  rintro bd e1 _ _ ⟨tl, i, bn, ah, r6, rfl, rfl, bo⟩
  refine Az _ bo ?_
  refine At (AI (um (um ?_)))
  refine uv (AJ underlying22 rfl) (uv (AV rfl rfl) (Aa ?_))
  refine cQ (fun c9 => ?_) fun c9 => ?_
  ·obtain ⟨x, cd, rfl, a6, ab, ai⟩ := A8.succ ah c9
   rw [D9] at r6
   refine Aq (At ?_)
   refine Ap (dW ?_)
   refine wm (wm ?_)
   obtain ⟨cf, cg, cj, bp, aj, ak, bg, rfl, bq, al⟩ := Au.at (Ae _) ae ([]) ab.1 a6
   refine wv (AF underlying22 sizeOf3 rfl aj rfl ab) (wv (Ao isAgg3 rfl ak (al 0 (by decide))) ?_)
   refine wm (wm ?_)
   obtain ⟨x2, ad, aa, bh⟩ := A7 r6
   obtain ⟨ck, cn, cp, br, ao, aq, bj, rfl, bu, ar⟩ := Au.at (Ae _) bc ([]) ad.1 aa
   refine wv (AF underlying22 sizeOf3 rfl ao rfl ad) (wv (Ao isAgg3 rfl aq (ar 0 (by decide))) (wv (BH rfl rfl) (BV ?_)))
   refine cQ (fun au => ?_) fun au => ?_
   ·have bw := AQ bh au
    refine dW ?_
    refine wm (wm ?_)
    obtain ⟨cq, cr, ct, bx, av, aw, bk, rfl, bz, ax⟩ := Au.at (Ae _) ae ([]) ab.1 a6
    refine wv (AF underlying22 sizeOf3 rfl av rfl ab) (wv (Ao isAgg3 rfl aw (ax 0 (by decide))) ?_)
    refine wm (wm ?_)
    obtain ⟨cu, cv, cw, ca, ay, az, bl, rfl, cb, ba⟩ := Au.at (Ae _) bc ([]) ad.1 aa
    refine wv (AF underlying22 sizeOf3 rfl ay rfl ad) (wv (Ao isAgg3 rfl az (ba 0 (by decide))) (wv (AV rfl rfl) ?_))
    refine wa (BV (As (Ay (Al (Al (Ay (Al ?_)))))))
    refine BD results96 ?_
    obtain rfl := AH bw
    exact rfl
   have cc := AR bh au
   refine Aq (Ax (id := 1) (An (um ?_)))
   refine uv (AY rfl rfl (A8.CC ah c9 (Au.lt ae))) ?_
   refine ua (Aa ?_)
   subst bn; exact le kr ⟨_, _, rfl, ai, cc, rfl, rfl, z3⟩
  obtain rfl := A8.zero ah c9
  rw [D9] at r6
  refine AL (Am (Am ?_))
  refine AA ?_
  exact mi kr ⟨r6, rfl, rfl, (sn _)⟩
 rintro e1 _ _ ⟨bm, rfl, rfl, bb⟩
 refine Az _ bb ?_
 rw [HA] at bm
 refine AI (ua (Aa (As ?_)))
 refine BD results96 ?_
 obtain rfl := AH bm
 exact rfl
set_option maxHeartbeats 1000000 in
theorem M1 (a6 : Au 1 (Bm 1 (iE .i64)) F Ac Ad Ab) (ak : Au 1 (Bm 1 (iE .i64)) F Aj Ai Af) {r : List Int} (hr : Ko Ab Af = some r) :
    SH.Spec Tryz.prog 43 #[.agg #[.slice Ac Ab.length Ad, .slice Aj Af.length Ai]] F [] fun F' L' v => ∃ (ra : Option Addr) (rn : Nat) (rc : Nat) (rL : LH), v = .slice ra rn rc ∧ L' = rL ++ [] ∧ AW 0 3 1 (iE .i64) F' ra rn rc r rL := by
 refine sp func43 ntmps43 fun K _ _ => ?_
 rw [Ko] at hr
 refine AI ?_
 refine By rfl rfl ?_; intro b1 fa
 refine ua (BI ?_)
 refine uv (AE isAgg51 sizeOf51 rfl (Has.own 0 rfl) (A5 rfl) rfl) ?_
 obtain ⟨l, h2, r3⟩ := AB hr
 refine c0 call94 ((Jh FU) a6 ak h2) ?_; rintro _ F4 _ dw dx ⟨a8, bc, c9, ab, rfl, rfl, ad⟩
 replace a6 := a6.mono (Ak (Ae _)) dw
 replace ad := ad.new fun p hp => dx p (by simp [hp])
 refine AD (lp (ln rfl)) (kO (kf (fS fO) kr) ?_)
 refine ua (BI (ua (Aa ?_)))
 obtain ⟨bd, dy, dh⟩ := AB r3
 refine AK (fun e1 F1 L1 => ∃ (cc : Option Addr) (cd : Nat) (cf : Nat) (ax : LH), F4 = F1 ∧ L1 = (ax ++ []) ∧ e1.sub [(4, .slice cc cd cf)] ∧ AW K.w0.heap.size 3 1 (iE .i64) F1 cc cd cf bd ax) ?_ ?_
 ·clear dh
  refine AI (ua (Aa ?_))
  refine Ap ?_
  refine A2 (fun di e1 F1 L1 => LA l di fun tl k => ∃ (ai : List Int) (ar : Option Addr) (au : Nat) (av : Nat) (aa : LH), FE Ab tl k ai = some bd ∧ F4 = F1 ∧ L1 = ((b1, ce #[.slice Ac Ab.length Ad, .slice Aj Af.length Ai] 51) :: (ab ++ (aa ++ []))) ∧ e1.sub [(1, .pointer (some ⟨b1, 0, none⟩)), (3, .slice a8 bc c9), (4, .slice ar au av), (5, .int .i64 k)] ∧ AW K.w0.heap.size 3 1 (iE .i64) F1 ar au av ai aa) _ (m0 (kc (ka (ke kr))) ⟨_, _, rfl, A8.start _, [], none, 0, 0, [], dy, rfl, rfl, z4, AW.nil _ _ _ _ _⟩) ?_
  rintro di e1 _ _ ⟨tl, k, cg, ay, ai, ar, au, av, aa, bu, rfl, rfl, cj, al⟩
  refine Az _ cj ?_
  refine At (AI (um (um ?_)))
  refine uv ((AJ underlying23 rfl).i (AW.GN ad)) (uv (AV rfl rfl) (Aa ?_))
  refine cQ (fun bw => ?_) fun bw => ?_
  ·obtain ⟨x, fb, rfl, ck, dk, cn⟩ := A8.succ ay bw
   rw [FE] at bu
   refine Aq ?_
   obtain ⟨aw, dz, dm⟩ := AB bu
   refine AK (fun e1 F1 L1 => ∃ (bx : Option Addr) (bz : Nat) (ca : Nat) (ao : LH), F4 = F1 ∧ L1 = ((b1, ce #[.slice Ac Ab.length Ad, .slice Aj Af.length Ai] 51) :: (ab ++ (ao ++ []))) ∧ e1.sub [(1, .pointer (some ⟨b1, 0, none⟩)), (3, .slice a8 bc c9), (4, .slice bx bz ca), (5, .int .i64 k)] ∧ AW K.w0.heap.size 3 1 (iE .i64) F1 bx bz ca aw ao) ?_ ?_
   ·clear dm
    refine Ap ?_
    refine AI (ua (Aa ?_))
    obtain ⟨l2, eb, dp⟩ := AB dz
    refine AK (fun e1 F1 L1 => ∃ (bg : Option Addr) (bh : Nat) (bj : Nat) (ae : LH), F4 = F1 ∧ L1 = ((b1, ce #[.slice Ac Ab.length Ad, .slice Aj Af.length Ai] 51) :: (ab ++ (aa ++ (ae ++ [])))) ∧ e1.sub [(1, .pointer (some ⟨b1, 0, none⟩)), (3, .slice a8 bc c9), (4, .slice ar au av), (5, .int .i64 k), (6, .slice bg bh bj)] ∧ AW K.w0.heap.size 3 1 (iE .i64) F1 bg bh bj l2 ae) ?_ ?_
    ·clear dp
     refine AI (ua (Aa ?_))
     refine Ap ?_
     refine A2 (fun dq e1 F1 L1 => LA Ab dq fun dr i => ∃ (l3 : List Int) (bk : Option Addr) (bl : Nat) (bm : Nat) (ah : LH), Ey x dr i l3 = some l2 ∧ F4 = F1 ∧ L1 = ((b1, ce #[.slice Ac Ab.length Ad, .slice Aj Af.length Ai] 51) :: (ab ++ (aa ++ (ah ++ [])))) ∧ e1.sub [(1, .pointer (some ⟨b1, 0, none⟩)), (3, .slice a8 bc c9), (4, .slice ar au av), (5, .int .i64 k), (6, .slice bk bl bm), (7, .int .i64 i)] ∧ AW K.w0.heap.size 3 1 (iE .i64) F1 bk bl bm l3 ah) _ (m0 (kc (ka (ka (ke kr)))) ⟨_, _, rfl, A8.start _, [], none, 0, 0, [], eb, rfl, rfl, z6, AW.nil _ _ _ _ _⟩) ?_
     rintro dq e1 _ _ ⟨dr, i, bn, aq, l3, bk, bl, bm, ah, cb, rfl, rfl, cp, az⟩
     refine Az _ cp ?_
     refine At (AI (um ?_))
     refine uv (Av Hs rfl) (uv (Ao isAgg23 rfl (Has.own 0 rfl) rfl) (uv (AJ underlying23 rfl) (uv (AV rfl rfl) (Aa ?_))))
     refine cQ (fun bo => ?_) fun bo => ?_
     ·obtain ⟨x2, fe, rfl, ec, ff, bp⟩ := A8.succ aq bo
      rw [Ey] at cb
      refine Aq (At ?_)
      refine Ap ?_
      refine AI (um (um ?_))
      obtain ⟨fg, fh, fi, ef, cq, cr, dt, ⟨fj, fk, rfl, eg⟩, eh, ct⟩ := AW.at (Ak (Ae _)) ad (L := (b1, ce #[.slice Ac Ab.length Ad, .slice Aj Af.length Ai] 51) :: (ab ++ (aa ++ (ah ++ [])))) (fC fP) dk.1 ck
      refine uv (AF underlying23 sizeOf22 rfl cq rfl (AW.idx ad dk)) (uv (Ao isAgg22 rfl cr (ct 0 (by decide))) (um ?_))
      obtain ⟨n, ei, du⟩ := AB cb
      refine cV call95 (Iw eg ei) (uv (Em rfl rfl) (Aa ?_))
      refine cQ (fun cu => ?_) fun cu => ?_
      ·have ej := AQ du cu
       refine An (um (um ?_))
       refine bA (cs := #[.int .i64 i]) BN [.int .i64 i] ?_; intro fl en
       obtain ⟨l4, eo, ep, er⟩ := E0 ej
       refine Dm (xs := l3) (ys := [i]) (zs := l4) rfl BN rfl rfl (Nat.le_refl _) (fun _ => .c (.c (.s (.s .h)))) az (GO.box (vss := [[.int .i64 i]]) (ys := [i]) 0 rfl (Ae _) (.cons rfl .nil) rfl rfl) eo ep (by decide) ?_; intro et eu ew cv cw
       refine kO (kd kr) ?_
       refine ua (Aa (Ax (id := 3) (An (um ?_))))
       refine uv (AY rfl rfl (A8.CC aq bo (Au.lt a6))) ?_
       refine ua (Aa ?_)
       subst bn; exact le kr ⟨_, _, rfl, bp, l4, et, eu, ew, cv, er, rfl, rfl, z6, cw⟩
      have ey := AR du cu
      refine Aq (Ax (id := 3) (An (um ?_)))
      refine uv (AY rfl rfl (A8.CC aq bo (Au.lt a6))) ?_
      refine ua (Aa ?_)
      subst bn; exact le kr ⟨_, _, rfl, bp, l3, bk, bl, bm, ah, ey, rfl, rfl, z6, az⟩
     obtain rfl := A8.zero aq bo
     rw [Ey] at cb
     refine AL (Am (Am ?_))
     refine AA ?_
     obtain rfl := AH cb
     exact mi kr ⟨bk, bl, bm, ah, rfl, rfl, z5, az⟩
    rintro e1 _ _ ⟨bg, bh, bj, ae, rfl, rfl, cx, ba⟩
    refine Az _ cx ?_
    obtain ⟨k2, dv, cy⟩ := AB dp
    refine jE (((b1, ce #[.slice Ac Ab.length Ad, .slice Aj Af.length Ai] 51) :: (ab ++ (aa ++ (ae ++ []))))) [(1, .pointer (some ⟨b1, 0, none⟩)), (3, .slice a8 bc c9), (4, .slice ar au av), (5, .int .i64 k), (6, .slice bg bh bj), (40, .bool k2)] ?_ ?_
    ·clear cy
     refine An (um ?_)
     refine uv (Bb rfl rfl) (um ?_)
     by_cases aj : k = 0
     ·have ez := AQ dv aj
      refine fT aj (fT aj (fT aj ?_))
      refine uv (Aw (AS rfl aj) rfl) (Aa ?_)
      obtain rfl := AH ez
      exact mi kr ⟨rfl, rfl, z6⟩
     have cz := AR dv aj
     refine nF aj (um (nF aj (um (nF aj ?_))))
     obtain ⟨ok, da, db⟩ := AB cz
     refine Bi (Lt := ae ++ (aa ++ [])) (Lr := (b1, ce #[.slice Ac Ab.length Ad, .slice Aj Af.length Ai] 51) :: (ab ++ [])) rfl call96 rfl rfl rfl (pT ((fC (fS (fS fP))).trans (pA ((fC (fS fP)).trans (pA pR)))) (lp (lp (ln rfl)))) (fun F2 h2 h3 => by rw [(AW.Be ba).1]; rw [(AW.Be al).1]; exact JU (ba.row (Ae _) h2 (fun p hp => h3 p (List.mem_append_left _ hp))) (al.row (Ae _) h2 (fun p hp => h3 p (List.mem_append_right _ (List.mem_append_left _ hp)))) da) ?_
     refine uv (Ar (AM rfl aj) rfl) (Aa ?_)
     obtain rfl := AH db
     exact mi kr ⟨rfl, rfl, z6⟩
    refine AT rfl (fun bb => ?_) (fun bb => ?_)
    ·have dd := bt cy bb
     refine An (um (ua (Aa (Ax (id := 1) ?_))))
     obtain rfl := AH dd
     exact mi (kc (ka (kx kr))) ⟨bg, bh, bj, ae, rfl, rfl, z4, ba⟩
    have de := bf cy bb
    refine Aq (Ax (id := 1) ?_)
    obtain rfl := AH de
    exact mi (kc (ka (ka kn))) ⟨ar, au, av, aa, rfl, rfl, z4, al⟩
   rintro e1 _ _ ⟨bx, bz, ca, ao, rfl, rfl, bq, df⟩
   refine Az _ bq ?_
   refine An (um ?_)
   refine uv (AY rfl rfl (A8.CC ay bw (AW.O6 ad))) ?_
   refine ua (Aa ?_)
   subst cg; exact le kr ⟨_, _, rfl, cn, aw, bx, bz, ca, ao, dm, rfl, rfl, z4, df⟩
  obtain rfl := A8.zero ay bw
  rw [FE] at bu
  refine AL (Am (Am ?_))
  refine AA ?_
  obtain rfl := AH bu
  exact mi (kd (kx kr)) ⟨ar, au, av, aa, rfl, rfl, z1, al⟩
 rintro e1 _ _ ⟨cc, cd, cf, ax, rfl, rfl, br, dg⟩
 refine Az _ br ?_
 refine AI (um (ua (Aa (As ?_))))
 refine BD results43 ?_
 obtain rfl := AH dh
 exact ⟨_, _, _, _, rfl, rfl, dg.any⟩
set_option maxHeartbeats 1000000 in
theorem Mx (ai : Au 1 (Bm 1 (iE .i64)) F Ac Ad Ab) (ak : Au 1 (Bm 1 (iE .i64)) F Aj Ai Af) {r r2 : Int} (hr : JV Ab Af Bx = some (r, r2)) :
    Ba Tryz.prog 44 #[.agg #[.slice Ac Ab.length Ad, .slice Aj Af.length Ai], .int .i64 Bx] F (.agg #[.int .i64 r, .int .i64 r2]) := by
 refine sp func44 ntmps44 fun K _ _ => ?_
 rw [JV] at hr
 refine AI ?_
 refine By rfl rfl ?_; intro b1 cc
 refine A1 rfl zeroValue78 ?_; intro b2 cd
 refine BI (uv (AE isAgg51 sizeOf51 rfl (Has.own 1 rfl) (A5 rfl) rfl) ?_)
 obtain ⟨l, h3, r4⟩ := AB hr
 refine c0 call39 (Ii ai ak h3) ?_; rintro _ F5 _ cf bo ⟨a9, bd, bg, al, rfl, rfl, aj⟩
 replace aj := aj.new fun p hp => bo p (by simp [hp])
 refine AD (lp (ln rfl)) (kO (kf (fS fO) (kf (fS fO) kr)) ?_)
 refine ua (BI ?_)
 refine A1 rfl zeroValue78 ?_; intro ao bp
 refine Aa ?_
 obtain ⟨ae, ah, bq, bh⟩ := A9 r4
 refine jE ([(ao, ce #[.int .i64 ae, .int .i64 ah] 78), (b2, ce #[.int .i64 0, .int .i64 0] 78)]) [(4, .pointer (some ⟨b2, 0, none⟩)), (6, .pointer (some ⟨ao, 0, none⟩))] ?_ ?_
 ·clear bh
  refine AI (ua (Aa ?_))
  refine Ap (kW (kc (kc (kd kr))) ?_)
  refine A2 (fun bj e1 F1 L1 => LA l bj fun tl k => ∃ (a6 : Int) (aa : Int), EW Bx tl k a6 aa = some (ae, ah) ∧ F5 = F1 ∧ L1 = ((ao, ce #[.int .i64 a6, .int .i64 aa] 78) :: ((b2, ce #[.int .i64 0, .int .i64 0] 78) :: (al ++ []))) ∧ e1.sub [(1, .int .i64 Bx), (4, .pointer (some ⟨b2, 0, none⟩)), (5, .slice a9 bd bg), (6, .pointer (some ⟨ao, 0, none⟩)), (7, .int .i64 k)]) _ (m0 kr ⟨_, _, rfl, A8.start _, 0, 0, bq, rfl, rfl, z5⟩) ?_
  rintro bj e1 _ _ ⟨tl, k, av, aq, a6, aa, ar, rfl, rfl, aw⟩
  refine Az _ aw ?_
  refine At (AI (um (um ?_)))
  refine uv ((AJ underlying23 rfl).i (AW.GN aj)) (uv (AV rfl rfl) (Aa ?_))
  refine cQ (fun au => ?_) fun au => ?_
  ·obtain ⟨x, cg, rfl, ax, bk, ay⟩ := A8.succ aq au
   rw [EW] at ar
   refine Aq (At ?_)
   refine Ap ?_
   refine AI (um (um ?_))
   obtain ⟨cj, ck, cn, br, az, ba, bl, ⟨cp, cq, rfl, bu⟩, bw, bb⟩ := AW.at (Ak (Ae _)) aj (L := (ao, ce #[.int .i64 a6, .int .i64 aa] 78) :: ((b2, ce #[.int .i64 0, .int .i64 0] 78) :: (al ++ []))) (fC (fC fP)) bk.1 ax
   refine uv (AF underlying23 sizeOf22 rfl az rfl (AW.idx aj bk)) (uv (Ao isAgg22 rfl ba (bb 0 (by decide))) (um ?_))
   obtain ⟨n, bx, bz⟩ := AB ar
   refine cV call95 (Iw bu bx) ?_
   refine ua (Aa ?_)
   obtain ⟨ab, ad, bm, bn⟩ := A9 bz
   refine jE (((ao, ce #[.int .i64 ab, .int .i64 ad] 78) :: ((b2, ce #[.int .i64 0, .int .i64 0] 78) :: (al ++ [])))) [(1, .int .i64 Bx), (4, .pointer (some ⟨b2, 0, none⟩)), (5, .slice a9 bd bg), (6, .pointer (some ⟨ao, 0, none⟩)), (7, .int .i64 k), (8, .int .i64 n)] ?_ ?_
   ·clear bn
    refine AI (um ?_)
    refine uv (Bb rfl rfl) (Aa ?_)
    refine cQ (fun bc => ?_) fun bc => ?_
    ·have ca := AQ bm bc
     refine An (um (um ?_))
     refine uv (BL (v := .agg #[.int .i64 n, .int .i64 n]) rfl (by intro w; kernel_rfl)) ?_
     refine A6 (i := 0) sizeOf78 rfl rfl rfl (by simp [Value.oneCell']) rfl (A5 rfl) (AD rfl (Aa ?_))
     obtain ⟨rfl, rfl⟩ := BT ca
     exact mi kr ⟨rfl, rfl, z6⟩
    have cb := AR bm bc
    refine Aq ?_
    obtain ⟨rfl, rfl⟩ := BT cb
    exact mi kr ⟨rfl, rfl, z6⟩
   refine An (uv (Av Ox rfl) (uv (Ao isAgg3 rfl (Has.own 0 rfl) rfl) (um (uv (Od rfl rfl) (uv (Av OA rfl) (uv (Ao isAgg3 rfl (Has.own 0 rfl) rfl) (um ?_)))))))
   refine uv (Nk rfl rfl) (uv (Av Ox rfl) (A0 (i := 0) sizeOf3 rfl rfl rfl rfl (A5 rfl) (AD rfl (uv (Av OA rfl) (A0 (i := 0) sizeOf3 rfl rfl rfl rfl (A5 rfl) (AD rfl ?_))))))
   refine Aa (Ax (id := 1) (An (um ?_)))
   refine uv (AY rfl rfl (A8.CC aq au (AW.O6 aj))) ?_
   refine ua (Aa ?_)
   subst av; exact le kr ⟨_, _, rfl, ay, if n < ab then n else ab, if n > ad then n else ad, bn, rfl, rfl, z5⟩
  obtain rfl := A8.zero aq au
  rw [EW] at ar
  refine AL (Am (Am ?_))
  refine AA ?_
  obtain ⟨rfl, rfl⟩ := BT ar
  exact mi (kc (kc kn)) ⟨rfl, rfl, z2⟩
 refine AI (uv (AE isAgg78 sizeOf78 rfl (Has.own 0 rfl) (A5 rfl) rfl) (A6 (i := 1) sizeOf78 rfl rfl rfl (by simp [Value.oneCell']) rfl (A5 rfl) (AD rfl (Aa (kW (kd kr) (As (Lm results44 (CK (cs := #[.int .i64 ae, .int .i64 ah]) isAgg78 sizeOf78 rfl (Has.own 0 rfl) (A5 rfl) rfl) (s1 sr) ?_)))))))
 obtain ⟨rfl, rfl⟩ := BT bh
 exact rfl
theorem NB {BO : Int} {ab : Nat} {i : Int} {a6 : Nat × Nat} (aa : F ab = some (.cells #[.int .i64 i] 3 a6)) {r : Bool} (hr : Jv BO i = some r) :
    Ba Tryz.prog 97 #[.int .i64 BO, .pointer (some ⟨ab, 0, none⟩)] F (.bool r) := by
 refine sp func97 ntmps97 fun K _ _ => ?_
 rw [Jv] at hr
 refine AI (ua (BI (um ?_)))
 refine uv (Ao isAgg3 rfl (Has.frozen aa) rfl) ?_
 obtain ⟨g1, r2⟩ := AX hr
 refine uv (K0 rfl rfl g1) (uv (KA rfl rfl) (uv (Bb rfl rfl) ?_))
 refine ua (Aa (As ?_))
 refine BD results97 ?_
 obtain rfl := AH r2
 exact rfl
set_option maxHeartbeats 1000000 in
theorem Oh (ad : Au 1 (Bm 1 (iE .i64)) F Ac Ad Ab) (ak : Au 1 (Bm 1 (iE .i64)) F Aj Ai Af) {r : List Int} {r2 : Int} (hr : LW Ab Af = some (r, r2)) :
    SH.Spec Tryz.prog 45 #[.agg #[.slice Ac Ab.length Ad, .slice Aj Af.length Ai]] F [] fun F' L' v => ∃ (ra : Option Addr) (rn : Nat) (rc : Nat) (rL : LH), v = .tuple #[.slice ra rn rc, .int .i64 r2] ∧ L' = rL ++ [] ∧ AW 0 3 1 (iE .i64) F' ra rn rc r rL := by
 refine sp func45 ntmps45 fun K _ _ => ?_
 rw [LW] at hr
 refine AI ?_
 refine By rfl rfl ?_; intro b1 dy
 refine ua (ua (BI ?_))
 refine uv (AE isAgg26 sizeOf26 rfl (Has.own 0 rfl) (A5 rfl) rfl) ?_
 obtain ⟨d, n, h2, r3⟩ := A9 hr
 refine c0 call15 (Gb ad ak h2) ?_; rintro _ F4 _ dz eb ⟨v8, cr, rfl, rfl, ct⟩
 refine AD (lp (ln rfl)) (kO (kf (fS fO) kr) ?_)
 refine um (ox rfl rfl rfl (ox rfl rfl rfl (ua (ua (Aa (At (AI (um ?_))))))))
 refine uv (BH rfl rfl) (Aa ?_)
 refine cQ (fun bl => ?_) fun bl => ?_
 ·have cu := AQ r3 bl
  refine AI (um (ua (ua (Aa ?_))))
  refine kW kn ?_
  refine As (Al ?_)
  refine Bu results45 (AP rfl) (AP rfl) (sr) ?_
  obtain ⟨rfl, rfl⟩ := BT cu
  exact ⟨_, _, _, [], rfl, rfl, AW.nil _ _ _ _ _⟩
 have cv := AR r3 bl
 refine Aq (AI (ua (Aa ?_)))
 obtain ⟨out, cw, cf⟩ := AB cv
 refine AK (fun e1 F1 L1 => ∃ (bm : Option Addr) (bn : Nat) (bo : Nat) (ar : LH), AN F4 F1 ∧ L1 = (ar ++ []) ∧ e1.sub [(6, .slice bm bn bo)] ∧ AW K.w0.heap.size 3 1 (iE .i64) F1 bm bn bo out ar) ?_ ?_
 ·clear cf
  refine AI (uv (Av Cy rfl) (uv (Ao isAgg23 rfl (Has.own 0 rfl) rfl) (uv (AJ underlying23 rfl) ?_)))
  refine um (Aa ?_)
  refine Ap ?_
  obtain ⟨ae, au, BW, rows, cx, cy⟩ := GV cw
  have cg := ct; rw [cx] at cg; obtain ⟨cz, ec, ef, eg, eh, ei, cj, av, aw, ej, en, bp, ah, ax, ay, da, az, bq⟩ := CM cg; subst bp; subst bq
  refine Fu (L' := [(b1, ce #[.slice Ac Ab.length Ad, .slice Aj Af.length Ai] 26), (cj, .map av aw)]) rfl (kW (kd kr) ?_)
  obtain ⟨ck, db⟩ := AX cy
  refine A2 (fun bj e1 F1 L1 => ∃ (k : Int), CZ 0 (Ab.length : Int) k bj ∧ ∃ (ai : List Int) (ba : Option Addr) (bb : Nat) (bc : Nat) (aj : LH), GA ae au rows bj k ai = some out ∧ AN F4 F1 ∧ L1 = ((cj, .map av aw) :: (aj ++ [])) ∧ e1.sub [(4, .pointer (some ⟨cz, 0, none⟩)), (6, .slice ba bb bc), (21, .int .i64 (Ab.length : Int)), (22, .int .i64 k)] ∧ AW K.w0.heap.size 3 1 (iE .i64) F1 ba bb bc ai aj) _ (m0 (kc (ke kr)) ⟨_, CZ.start _ _, [], none, 0, 0, [], db, AN.refl _, rfl, z4, AW.nil _ _ _ _ _⟩) ?_
  rintro bj e1 eo _ ⟨k, al, ai, ba, bb, bc, aj, bk, a6, rfl, br, aa⟩
  refine Az _ br ?_
  replace ax := ax.mono (Ak (Ae _)) a6
  replace ay := ay.mono (Ak (Ae _)) a6
  replace az := az.mono (Bg (n := 64) (sz := 1) BU) a6
  replace ah := a6 _ _ ah
  refine AI (uv (AV rfl rfl) ?_)
  refine Aa (At ?_)
  refine cQ (fun bd => ?_) fun bd => ?_
  ·obtain ⟨bj, rfl, bg⟩ := CZ.succ al bd
   rw [GA] at bk
   refine Aq (At ?_)
   refine Ap ?_
   refine AI (um ?_)
   refine A1 rfl zeroValue3 ?_; intro cn bu
   refine A0 (i := 0) sizeOf3 rfl rfl rfl rfl (A5 rfl) (AD rfl (BI (uv (D5 rfl rfl) ?_)))
   refine uv (BL (v := .agg (#[.func (.func 97) #[] #[.pointer (some ⟨cn, 0, none⟩)]])) rfl (by intro w; kernel_rfl)) ?_
   refine A1 rfl zeroValue132 ?_; intro ep dd
   refine A6 (i := 0) sizeOf132 rfl rfl rfl (by simp [Value.oneCell']) rfl (A5 rfl) (AD rfl ?_)
   refine BI (um ?_)
   refine uv (AE isAgg132 sizeOf132 rfl (Has.own 0 rfl) (A5 rfl) rfl) ?_
   refine AO 1 rfl bu ?_; intro de ab ao
   refine AD rfl ?_
   replace ax := ax.mono (Ak (Ae _)) ab
   replace ay := ay.mono (Ak (Ae _)) ab
   replace az := az.mono (Bg (n := 64) (sz := 1) BU) ab
   replace aa := aa.mono (Ae _) ab
   replace ah := ab _ _ ah
   have bw : KE Tryz.prog de 97 #[] #[.pointer (some ⟨cn, 0, none⟩)] (iE .i64) Value.bool (fun cp : Int => Jv cp k) := ⟨call97, fun F2 h2 vs cp r ha hr => by obtain rfl := ha; exact NB (h2 _ _ ao) hr⟩
   obtain ⟨l, n2, df, cq⟩ := A9 bk
   refine c0 call85 (Gs ah ax ay az bw df) ?_; rintro _ er _ aq dg ⟨et, eu, ew, dh, rfl, rfl, di, bx⟩
   replace aa := aa.mono (Ae _) aq
   replace ao := aq _ _ ao
   refine AD (lp (ln rfl)) (kO (kf (fS fO) (kf (fS fO) kr)) ?_)
   refine um (ox rfl rfl rfl (ox rfl rfl rfl (ua (ua (BI (um ?_))))))
   refine uv ((Mh underlying22 rfl).b (OE bx)) (Aa ?_)
   refine cQ (fun bz => ?_) fun bz => ?_
   ·have dk := AQ cq bz
    refine An (um ?_)
    refine uv (Ao isAgg3 rfl (Has.frozen ao) rfl) ?_
    refine bA (cs := #[.int .i64 k]) BN [.int .i64 k] ?_; intro ey dm
    obtain ⟨bh, dp, dq, dr⟩ := E0 dk
    refine Dm (xs := ai) (ys := [k]) (zs := bh) rfl BN rfl rfl (Nat.le_refl _) (fun _ => .c (.c (.c (.s .h)))) aa (GO.box (vss := [[.int .i64 k]]) (ys := [k]) 0 rfl (Ae _) (.cons rfl .nil) rfl rfl) dp dq (by decide) ?_; intro dt du dv ca cb
    refine kO (kd kr) ?_
    refine ua (Aa (Ax (id := 1) (An ?_)))
    refine uv (AY rfl rfl (CZ.CC al bd ck)) ?_
    refine um (Aa ?_)
    exact le (kd (kc (kx kr))) ⟨_, bg, bh, dt, du, dv, ca, dr, ((a6.trans ab).trans aq), rfl, z4, cb⟩
   have dw := AR cq bz
   refine Aq (Ax (id := 1) (An ?_))
   refine uv (AY rfl rfl (CZ.CC al bd ck)) ?_
   refine um (Aa ?_)
   exact le (kd (kc (kx kr))) ⟨_, bg, ai, ba, bb, bc, aj, dw, ((a6.trans ab).trans aq), rfl, z4, aa⟩
  obtain rfl := CZ.zero al bd
  rw [GA] at bk
  refine AL (Am (Am ?_))
  refine AA ?_
  obtain rfl := AH bk
  exact mi (kd kr) ⟨ba, bb, bc, aj, a6, rfl, z1, aa⟩
 rintro e1 ez _ ⟨bm, bn, bo, ar, dx, rfl, cc, cd⟩
 refine Az _ cc ?_
 refine AI (um (ua (ua (Aa (As ?_)))))
 refine Bu results45 (AP rfl) (AP rfl) (sr) ?_
 obtain ⟨rfl, rfl⟩ := BT cf
 exact ⟨_, _, _, _, rfl, rfl, cd.any⟩
set_option maxHeartbeats 1000000 in
theorem Jb (a6 : Au 1 (Bm 1 (iE .i64)) F Ac Ad Ab) (aa : Au 1 (Bm 1 (iE .i64)) F Aj Ai Af) {r : Bool} (hr : Gi Ab Af Bx = some r) :
    Ba Tryz.prog 9 #[.agg #[.slice Ac Ab.length Ad, .slice Aj Af.length Ai], .int .i64 Bx] F (.bool r) := by
 refine sp func9 ntmps9 fun K _ _ => ?_
 rw [Gi] at hr
 refine AI ?_
 refine By rfl rfl ?_; intro b1 ju
 refine ua (Aa (At ?_))
 obtain ⟨k, h2, r3⟩ := AB hr
 refine jE ([(b1, ce #[.slice Ac Ab.length Ad, .slice Aj Af.length Ai] 26)]) [(1, .int .i64 Bx), (2, .pointer (some ⟨b1, 0, none⟩)), (23, .bool k)] ?_ ?_
 ·clear r3
  refine An (uv (AE isAgg26 sizeOf26 rfl (Has.own 0 rfl) (A5 rfl) rfl) ?_)
  obtain ⟨ok, h4, r5⟩ := AB h2
  refine cV call17 (DZ a6 aa h4) (um ?_)
  rcases Bf ok with c6 | c6
  ·have r7 := bt r5 c6
   refine fB c6 (fB c6 ?_)
   refine uv (Aw (En rfl c6) rfl) (Aa ?_)
   obtain rfl := AH r7
   exact mi kr ⟨rfl, rfl, z3⟩
  have r8 := bf r5 c6
  refine nB c6 (uv (AE isAgg26 sizeOf26 rfl (Has.own 0 rfl) (A5 rfl) rfl) (nB c6 ?_))
  obtain ⟨jv, h9, ij⟩ := AB r8
  refine cV call28 (IW a6 aa h9) (uv (Ar (En rfl c6) rfl) (Aa ?_))
  obtain rfl := AH ij
  exact mi kr ⟨rfl, rfl, z3⟩
 refine AT rfl (fun eu => ?_) (fun eu => ?_)
 ·have ik := bt r3 eu
  refine AI ?_
  obtain ⟨jw, il, im⟩ := AB ik
  refine cV call14 (BB il) ?_
  refine ua (Aa ?_)
  refine kW kn ?_
  refine As (Al ?_)
  refine BD results9 ?_
  obtain rfl := AH im
  exact rfl
 have iq := bf r3 eu
 refine Aq (At ?_)
 refine Bd [(.pre, 4), (.pre, 5), (.still, 0), (.still, 2), (.seq, 1), (.seq, 3), (.alloc (.cells (.agg #[.slice none 0 0, .slice none 0 0] : Value).cells 26 (0, 0)) (fun b => .pointer (some ⟨b, 0, none⟩)) [], 4), (.alloc (.cells (.agg #[.slice none 0 0, .slice none 0 0] : Value).cells 51 (0, 0)) (fun b => .pointer (some ⟨b, 0, none⟩)) [], 5), (.seq, 6), (.seq, 7)] (by kernel_rfl) (by kernel_rfl) (⟨⟨_, _, rfl, rfl, rfl, rfl, rfl, EU zeroValue26⟩, ⟨⟨_, _, rfl, rfl, rfl, rfl, rfl, EU zeroValue51⟩, trivial⟩⟩) (by rfl) (by kernel_rfl) ?_
 refine ⟨⟨[], rfl, sn _, by kernel_rfl⟩, ?_⟩
 refine ⟨⟨[], rfl, sn _, by kernel_rfl⟩, ?_⟩
 refine mL [2] ([(b1, ce #[.slice Ac Ab.length Ad, .slice Aj Af.length Ai] 26)]) rfl (s0 sr) (fun H F' L' cx cy => AE isAgg26 sizeOf26 rfl ((Has.own 0 rfl).ext cx cy) (A5 rfl) rfl) (mL [2] ([(b1, ce #[.slice Ac Ab.length Ad, .slice Aj Af.length Ai] 26)]) rfl (s0 sr) (fun H F' L' cx cy => AE isAgg26 sizeOf26 rfl ((Has.own 0 rfl).ext cx cy) (A5 rfl) rfl) ?_)
 refine ⟨_, [(25, .agg #[.slice Ac Ab.length Ad, .slice Aj Af.length Ai])], rfl, rfl, z1, by kernel_rfl, ?_⟩; intro H
 obtain ⟨l, l2, ir, iu⟩ := A9 iq
 refine c0 call18 (D1 a6 aa ir) ?_; rintro _ jx _ cz di ⟨bu, cg, bw, aj, bx, cj, bz, ak, rfl, rfl, al, ae⟩
 replace a6 := a6.mono (Ak (Ae _)) cz
 replace aa := aa.mono (Ak (Ae _)) cz
 replace al := al.new fun p hp => di p (by simp [hp])
 replace ae := ae.new fun p hp => di p (by simp [hp])
 refine AD (lp (lp (ln rfl))) (kO (kf (fS (fS fO)) kr) ?_)
 refine Aa ⟨_, rfl, cz, [2], by kernel_rfl, .inl (.inr (fun d h => by cases h; rfl)), (fc (s0 (s2 (s3 (s3 sr)))) nm), ?_⟩
 refine ⟨_, [(27, .agg #[.slice Ac Ab.length Ad, .slice Aj Af.length Ai])], rfl, rfl, z1, by kernel_rfl, ?_⟩; intro H
 obtain ⟨l3, l4, iv, iw⟩ := A9 iu
 refine c0 call19 (C0 a6 aa iv) ?_; rintro _ iy _ ck ew ⟨ca, cb, cc, cd, cf, av, rfl, rfl, cu, ad⟩
 replace a6 := a6.mono (Ak (Ae _)) ck
 replace aa := aa.mono (Ak (Ae _)) ck
 replace al := al.mono (Ae _) ck
 replace ae := ae.mono (Ae _) ck
 replace ad := ad.new fun p hp => ew p (by simp [hp])
 refine AD (lp (ln rfl)) (kO (kf (fS fO) kr) ?_)
 refine Aa ⟨_, rfl, ck, [], by kernel_rfl, .inl (.inl rfl), nm, ?_⟩
 refine GW rfl ?_; intro bj iz
 refine Jp (L' := (bj, ce #[.slice none 0 0, .slice none 0 0] 26) :: ((b1, ce #[.slice Ac Ab.length Ad, .slice Aj Af.length Ai] 26) :: (av ++ (aj ++ (ak ++ []))))) rfl ?_
 refine GW rfl ?_; intro bn j0
 refine Jp (L' := (bn, ce #[.slice none 0 0, .slice none 0 0] 51) :: ((bj, ce #[.slice none 0 0, .slice none 0 0] 26) :: ((b1, ce #[.slice Ac Ab.length Ad, .slice Aj Af.length Ai] 26) :: (av ++ (aj ++ (ak ++ [])))))) rfl ?_
 refine ⟨_, [(5, .pointer (some ⟨bj, 0, none⟩)), (26, .agg #[.slice bu cg bw, .slice bx cj bz])], rfl, rfl, z2, by kernel_rfl, ?_⟩; intro H
 refine A6 (i := 1) sizeOf26 rfl rfl rfl (by simp [Value.oneCell']) rfl (A5 rfl) (AD rfl ?_)
 refine Aa ⟨undef, rfl, AN.refl _, [], by kernel_rfl, .inl (.inl rfl), nm, ?_⟩
 refine ⟨_, [(6, .pointer (some ⟨bn, 0, none⟩)), (28, .agg #[.slice ca l3.length cb, .slice cc cd cf])], rfl, rfl, z2, by kernel_rfl, ?_⟩; intro H
 refine A6 (i := 0) sizeOf51 rfl rfl rfl (by simp [Value.oneCell']) rfl (A5 rfl) (AD rfl ?_)
 refine Aa ⟨undef, rfl, AN.refl _, [], by kernel_rfl, .inl (.inl rfl), nm, ?_⟩
 refine BC (AI (uv (AE isAgg51 sizeOf51 rfl (Has.own 0 rfl) (A5 rfl) rfl) ?_))
 obtain ⟨n, j1, j2⟩ := AB iw
 refine Bi (Lt := av ++ []) (Lr := (bn, ce #[.slice ca l3.length cb, .slice cc cd cf] 51) :: ((bj, ce #[.slice bu cg bw, .slice bx cj bz] 26) :: ((b1, ce #[.slice Ac Ab.length Ad, .slice Aj Af.length Ai] 26) :: (aj ++ (ak ++ []))))) rfl call20 rfl rfl rfl (pT ((fC (fC (fC fP))).trans (pA pR)) (lp (ln rfl))) (fun F2 h2 h3 => by rw [(AW.Be ad).1]; exact Dl (cu.mono (Ak (Ae _)) h2) (ad.row (Ak (Ae _)) h2 (fun p hp => h3 p (List.mem_append_left _ hp))) j1) ?_
 refine ua (BI (um (ua (Aa ?_))))
 obtain ⟨v, j3, gw⟩ := AB j2
 refine jE (((bn, ce #[.slice ca l3.length cb, .slice cc cd cf] 51) :: ((bj, ce #[.slice bu cg bw, .slice bx cj bz] 26) :: ((b1, ce #[.slice Ac Ab.length Ad, .slice Aj Af.length Ai] 26) :: (aj ++ (ak ++ (av ++ []))))))) [(1, .int .i64 Bx), (2, .pointer (some ⟨b1, 0, none⟩)), (5, .pointer (some ⟨bj, 0, none⟩)), (6, .pointer (some ⟨bn, 0, none⟩)), (7, .int .i64 n), (8, .int .i64 v)] ?_ ?_
 ·clear gw
  obtain ⟨k2, gx, ey⟩ := AB j3
  refine jE (((bn, ce #[.slice ca l3.length cb, .slice cc cd cf] 51) :: ((bj, ce #[.slice bu cg bw, .slice bx cj bz] 26) :: ((b1, ce #[.slice Ac Ab.length Ad, .slice Aj Af.length Ai] 26) :: (aj ++ (ak ++ (av ++ []))))))) [(1, .int .i64 Bx), (2, .pointer (some ⟨b1, 0, none⟩)), (5, .pointer (some ⟨bj, 0, none⟩)), (6, .pointer (some ⟨bn, 0, none⟩)), (7, .int .i64 n), (8, .int .i64 n), (44, .bool k2)] ?_ ?_
  ·clear ey
   refine An (um ?_)
   refine uv (Bb rfl rfl) (um ?_)
   by_cases bq : n = 0
   ·have gy := AQ gx bq
    refine nT bq (um (nT bq ?_))
    refine uv (AV rfl rfl) ?_
    refine nT bq (um ?_)
    by_cases br : Bx < 0
    ·have j4 := AQ gy br
     refine fT br (fT br (fT br (fT br (fT br (nT bq ?_)))))
     refine uv (Aw (AS rfl br) rfl) (uv (Aw (AS rfl bq) rfl) (Aa ?_))
     obtain rfl := AH j4
     exact mi (kc (kc (kc (kg (fS fP) (kg (fS fP) kr))))) ⟨rfl, rfl, z7⟩
    have j5 := AR gy br
    refine nF br (um (nF br ?_))
    refine uv (Av Cy rfl) (nF br (uv (Ao isAgg23 rfl (Has.own 2 rfl) rfl) (nF br (uv (AJ underlying23 rfl) (nF br (uv (Hy rfl rfl) (nT bq ?_)))))))
    refine uv (Ar (AM rfl br) rfl) (uv (Aw (AS rfl bq) rfl) (Aa ?_))
    obtain rfl := AH j5
    exact mi (kc (kc (kc (kg (fS fP) (kg (fS fP) kr))))) ⟨rfl, rfl, z7⟩
   have j6 := AR gx bq
   refine fF bq (fF bq (fF bq (fU (fU (fU (fU (fU (fF bq ?_))))))))
   refine uv (Ar (AM rfl bq) rfl) (Aa ?_)
   obtain rfl := AH j6
   exact mi (kc (kc (kc (kg (fS fP) (kg (fS fP) kr))))) ⟨rfl, rfl, z7⟩
  refine AT rfl (fun ez => ?_) (fun ez => ?_)
  ·have j7 := bt ey ez
   refine An (ua (Aa ?_))
   obtain rfl := AH j7
   exact mi kr ⟨rfl, rfl, z6⟩
  have j8 := bf ey ez
  refine Aq ?_
  obtain rfl := AH j8
  exact mi kr ⟨rfl, rfl, z6⟩
 refine AI (ua (ua (BI ?_)))
 refine A1 rfl zeroValue78 ?_; intro cn j9
 refine Aa ?_
 obtain ⟨e_, v2, sure, ja, gz, ia⟩ := GV gw
 refine AK (fun e1 F1 L1 => ∃ (ej : Option Addr) (en : Nat) (eo : Nat) (bk : LH) (ep : Option Addr) (er : Nat) (et : Nat) (bl : LH), AN iy F1 ∧ L1 = ((cn, ce #[.int .i64 0, .int .i64 0] 78) :: ((bn, ce #[.slice ca l3.length cb, .slice cc cd cf] 51) :: ((bj, ce #[.slice bu cg bw, .slice bx cj bz] 26) :: ((b1, ce #[.slice Ac Ab.length Ad, .slice Aj Af.length Ai] 26) :: (aj ++ (ak ++ (av ++ (bk ++ (bl ++ []))))))))) ∧ e1.sub [(1, .int .i64 Bx), (2, .pointer (some ⟨b1, 0, none⟩)), (5, .pointer (some ⟨bj, 0, none⟩)), (6, .pointer (some ⟨bn, 0, none⟩)), (7, .int .i64 e_), (8, .int .i64 v2), (9, .slice ej en eo), (10, .slice ep er et), (11, .pointer (some ⟨cn, 0, none⟩))] ∧ AW K.w0.heap.size 3 1 (iE .i64) F1 ej en eo sure bk ∧ AW K.w0.heap.size 3 1 (iE .i64) F1 ep er et ja bl) ?_ ?_
 ·clear ia
  refine AI (um ?_)
  refine uv (Bb rfl rfl) (Aa ?_)
  refine cQ (fun fa => ?_) fun fa => ?_
  ·have jb := AQ gz fa
   refine AI (uv (AE isAgg51 sizeOf51 rfl (Has.own 1 rfl) (A5 rfl) rfl) ?_)
   obtain ⟨n2, jc, ib⟩ := AB jb
   refine Bi (Lt := av ++ []) (Lr := (cn, ce #[.int .i64 0, .int .i64 0] 78) :: ((bn, ce #[.slice ca l3.length cb, .slice cc cd cf] 51) :: ((bj, ce #[.slice bu cg bw, .slice bx cj bz] 26) :: ((b1, ce #[.slice Ac Ab.length Ad, .slice Aj Af.length Ai] 26) :: (aj ++ (ak ++ [])))))) rfl call34 rfl rfl rfl (pT ((fC (fC (fC (fC (fS (fS fP)))))).trans (pA pR)) (lp (ln rfl))) (fun F2 h2 h3 => by rw [(AW.Be ad).1]; exact Ck (cu.mono (Ak (Ae _)) h2) (ad.row (Ak (Ae _)) h2 (fun p hp => h3 p (List.mem_append_left _ hp))) jc) ?_
   refine uv (Bb rfl rfl) (Aa ?_)
   refine cQ (fun fb => ?_) fun fb => ?_
   ·have ic := AQ ib fb
    refine AI (ua (BI (um ?_)))
    refine uv (Bb rfl rfl) (Aa ?_)
    refine cQ (fun fe => ?_) fun fe => ?_
    ·have jd := AQ ic fe
     refine An (um (ua (Aa ?_)))
     obtain ⟨rfl, rfl, rfl, rfl⟩ := Lg jd
     exact mi (kc (kc (kc (kc (ka (ka (ka (ke (ke kr))))))))) ⟨none, 0, 0, [], none, 0, 0, [], AN.refl _, rfl, (sc rfl z8), AW.nil _ _ _ _ _, AW.nil _ _ _ _ _⟩
    have je := AR ic fe
    refine Aq ?_
    obtain ⟨rfl, rfl, rfl, rfl⟩ := Lg je
    exact mi (kc (kc (kc (kc (ka (ka (ka (ke (ke kr))))))))) ⟨none, 0, 0, [], none, 0, 0, [], AN.refl _, rfl, (sc rfl z8), AW.nil _ _ _ _ _, AW.nil _ _ _ _ _⟩
   have jf := AR ib fb
   refine Bd [(.still, 0), (.still, 2), (.seq, 1), (.seq, 3), (.seq, 4), (.seq, 5)] (by kernel_rfl) (by kernel_rfl) (trivial) (by rfl) (by kernel_rfl) (mL [6] ([(bn, ce #[.slice ca l3.length cb, .slice cc cd cf] 51)]) rfl (s0 (s1 (s2 (s1 (s1 (s3 (s3 (s3 sr)))))))) (fun H F' L' cx cy => AE isAgg51 sizeOf51 rfl ((Has.own 0 rfl).ext cx cy) (A5 rfl) rfl) (mL [6] ([(bn, ce #[.slice ca l3.length cb, .slice cc cd cf] 51)]) rfl (s0 (s1 (s2 (s1 (s1 (s3 (s3 (s3 sr)))))))) (fun H F' L' cx cy => AE isAgg51 sizeOf51 rfl ((Has.own 0 rfl).ext cx cy) (A5 rfl) rfl) ?_))
   refine ⟨_, [(53, .agg #[.slice ca l3.length cb, .slice cc cd cf])], rfl, rfl, z1, by kernel_rfl, ?_⟩; intro H
   obtain ⟨l5, jg, jh⟩ := AB jf
   refine Is (Lb := []) (Lt := av ++ []) (Lr := (cn, ce #[.int .i64 0, .int .i64 0] 78) :: ((bn, ce #[.slice ca l3.length cb, .slice cc cd cf] 51) :: ((bj, ce #[.slice bu cg bw, .slice bx cj bz] 26) :: ((b1, ce #[.slice Ac Ab.length Ad, .slice Aj Af.length Ai] 26) :: (aj ++ (ak ++ [])))))) rfl call42 rfl rfl rfl (pT ((fC (fC (fC (fC (fS (fS fP)))))).trans (pA pR)) (ln (lp (ln rfl)))) (fun F2 h2 h3 => by rw [(AW.Be ad).1]; exact MD (cu.mono (Ak (Ae _)) h2) (ad.row (Ak (Ae _)) h2 (fun p hp => h3 p (List.mem_append_left _ hp))) jg) (fun _ _ _ _ hq => by obtain ⟨da, db, dd, cp, rfl, rfl, ao⟩ := hq; exact ⟨_, _, _, _, rfl, rfl, ao.flat (fun _ _ h => h)⟩) ?_; rintro _ jz _ cv ff fg ⟨da, db, dd, cp, rfl, rfl, ao⟩
   replace cu := cu.mono (Ak (Ae _)) cv
   replace ad := ad.mono (Ak (Ae _)) cv
   have dk := OR (Lb' := []) (by rfl) ff fg
   replace ao := ao.new fun p hp => dk p (by simp [hp])
   refine AD (lp (ln (lp (ln rfl)))) (kO (kf (fS (fS fO)) (kf (fS (fS fO)) (kf (fS (fS fO)) (kf (fS (fS fO)) kr)))) ?_)
   refine Aa ⟨_, rfl, cv, [2], by kernel_rfl, .inl (.inr (fun d h => by cases h; rfl)), (fc (s0 (s1 (s2 (s1 (s1 (s3 (s3 (s3 (s3 sr))))))))) nm), ?_⟩
   refine ⟨_, [(55, .agg #[.slice ca l3.length cb, .slice cc cd cf])], rfl, rfl, z1, by kernel_rfl, ?_⟩; intro H
   obtain ⟨l6, fh, fi⟩ := AB jh
   refine Is (Lb := []) (Lt := av ++ []) (Lr := (cn, ce #[.int .i64 0, .int .i64 0] 78) :: ((bn, ce #[.slice ca l3.length cb, .slice cc cd cf] 51) :: ((bj, ce #[.slice bu cg bw, .slice bx cj bz] 26) :: ((b1, ce #[.slice Ac Ab.length Ad, .slice Aj Af.length Ai] 26) :: (cp ++ (aj ++ (ak ++ []))))))) rfl call43 rfl rfl rfl (pT ((fC (fC (fC (fC (fS fP))))).trans (pA pR)) (ln (lp (ln rfl)))) (fun F2 h2 h3 => by rw [(AW.Be ad).1]; exact M1 (cu.mono (Ak (Ae _)) h2) (ad.row (Ak (Ae _)) h2 (fun p hp => h3 p (List.mem_append_left _ hp))) fh) (fun _ _ _ _ hq => by obtain ⟨de, df, dg, cw, rfl, rfl, bm⟩ := hq; exact ⟨_, _, _, _, rfl, rfl, bm.flat (fun _ _ h => h)⟩) ?_; rintro _ ji _ cq dm dp ⟨de, df, dg, cw, rfl, rfl, bm⟩
   replace ao := ao.mono (Ae _) cq
   have dq := OR (Lb' := []) (by rfl) dm dp
   replace bm := bm.new fun p hp => dq p (by simp [hp])
   refine AD (lp (ln (lp (ln rfl)))) (kO (kf (fS (fS fO)) (kf (fS (fS fO)) (kf (fS (fS fO)) (kf (fS (fS fO)) kr)))) ?_)
   refine Aa ⟨_, rfl, cq, [], by kernel_rfl, .inl (.inl rfl), nm, ?_⟩
   refine ⟨_, [(54, .slice da db dd)], rfl, rfl, z1, by kernel_rfl, ?_⟩; intro H
   refine ua ?_
   refine Aa ⟨_, rfl, AN.refl _, [], by kernel_rfl, .inl (.inl rfl), nm, ?_⟩
   refine ⟨_, [(56, .slice de df dg)], rfl, rfl, z1, by kernel_rfl, ?_⟩; intro H
   refine ua ?_
   refine Aa ⟨_, rfl, AN.refl _, [], by kernel_rfl, .inl (.inl rfl), nm, ?_⟩
   refine BC ?_
   obtain ⟨rfl, rfl, rfl, rfl⟩ := Lg fi
   exact mi (kc (kc (kc (kc (kg (fS (fS (fS fP))) (kg (fS (fS (fS fP))) (kg (fS fP) (kg (fS fP) kr)))))))) ⟨da, db, dd, cp, de, df, dg, cw, (cv.trans cq), rfl, (sc rfl z8), ao, bm⟩
  have fj := AR gz fa
  refine Aq ?_
  obtain ⟨rfl, rfl, rfl, rfl⟩ := Lg fj
  exact mi (kc (kc (kc (kc (ka (ka (ka (ke (ke kr))))))))) ⟨none, 0, 0, [], none, 0, 0, [], AN.refl _, rfl, (sc rfl z8), AW.nil _ _ _ _ _, AW.nil _ _ _ _ _⟩
 rintro e1 jj _ ⟨ej, en, eo, bk, ep, er, et, bl, bc, rfl, dr, aw, ax⟩
 refine Az _ dr ?_
 replace a6 := a6.mono (Ak (Ae _)) bc
 replace aa := aa.mono (Ak (Ae _)) bc
 replace cu := cu.mono (Ak (Ae _)) bc
 replace al := al.mono (Ae _) bc
 replace ae := ae.mono (Ae _) bc
 replace ad := ad.mono (Ak (Ae _)) bc
 obtain ⟨ah, ai, dt, du⟩ := A9 ia
 refine jE (((cn, ce #[.int .i64 ah, .int .i64 ai] 78) :: ((bj, ce #[.slice bu cg bw, .slice bx cj bz] 26) :: ((b1, ce #[.slice Ac Ab.length Ad, .slice Aj Af.length Ai] 26) :: (aj ++ (ak ++ (bk ++ (bl ++ [])))))))) [(1, .int .i64 Bx), (2, .pointer (some ⟨b1, 0, none⟩)), (5, .pointer (some ⟨bj, 0, none⟩)), (7, .int .i64 e_), (8, .int .i64 v2), (9, .slice ej en eo), (10, .slice ep er et), (11, .pointer (some ⟨cn, 0, none⟩))] ?_ ?_
 ·clear du
  refine AI (um ?_)
  refine uv (Bb rfl rfl) (Aa ?_)
  refine cQ (fun dh => ?_) fun dh => ?_
  ·have fk := AQ dt dh
   refine An (uv (AE isAgg51 sizeOf51 rfl (Has.own 1 rfl) (A5 rfl) rfl) (um ?_))
   obtain ⟨n3, n4, fl, fm⟩ := A9 fk
   refine Bi (Lt := av ++ []) (Lr := (cn, ce #[.int .i64 0, .int .i64 0] 78) :: ((bn, ce #[.slice ca l3.length cb, .slice cc cd cf] 51) :: ((bj, ce #[.slice bu cg bw, .slice bx cj bz] 26) :: ((b1, ce #[.slice Ac Ab.length Ad, .slice Aj Af.length Ai] 26) :: (aj ++ (ak ++ (bk ++ (bl ++ [])))))))) rfl call44 rfl rfl rfl (pT ((fC (fC (fC (fC (fS (fS fP)))))).trans (pA pR)) (lp (ln rfl))) (fun F2 h2 h3 => by rw [(AW.Be ad).1]; exact Mx (cu.mono (Ak (Ae _)) h2) (ad.row (Ak (Ae _)) h2 (fun p hp => h3 p (List.mem_append_left _ hp))) fl) ?_
   refine A6 (i := 0) sizeOf78 rfl rfl rfl (by simp [Value.oneCell']) rfl (A5 rfl) (AD rfl (Aa ?_))
   obtain ⟨rfl, rfl⟩ := BT fm
   exact mi (kc (kd (kc (kc (ka (ka (kx kr))))))) ⟨rfl, rfl, z8⟩
  have fo := AR dt dh
  refine Aq ?_
  obtain ⟨rfl, rfl⟩ := BT fo
  exact mi (kc (kd (kc (kc (ka (ka (kx kr))))))) ⟨rfl, rfl, z8⟩
 refine AI (uv (AE isAgg26 sizeOf26 rfl (Has.own 1 rfl) (A5 rfl) rfl) ?_)
 obtain ⟨l7, n5, fp, fq⟩ := A9 du
 refine Is (Lb := []) (Lt := aj ++ (ak ++ [])) (Lr := (cn, ce #[.int .i64 ah, .int .i64 ai] 78) :: ((bj, ce #[.slice bu cg bw, .slice bx cj bz] 26) :: ((b1, ce #[.slice Ac Ab.length Ad, .slice Aj Af.length Ai] 26) :: (bk ++ (bl ++ []))))) rfl call45 rfl rfl rfl (pT ((fC (fC (fC fP))).trans (pA ((fC (fC (fC fP))).trans (pA pR)))) (ln (lp (lp (ln rfl))))) (fun F2 h2 h3 => by rw [(BG.Be al).1]; rw [(BG.Be ae).1]; exact Oh (al.row (Ae _) h2 (fun p hp => h3 p (List.mem_append_left _ hp))) (ae.row (Ae _) h2 (fun p hp => h3 p (List.mem_append_right _ (List.mem_append_left _ hp)))) fp) (fun _ _ _ _ hq => by obtain ⟨fs, ft, fv, cr, rfl, rfl, ab⟩ := hq; exact ⟨_, _, _, _, rfl, rfl, ab.flat (fun _ _ h => h)⟩) ?_; rintro _ jk _ bd dv dw ⟨fs, ft, fv, cr, rfl, rfl, ab⟩
 replace a6 := a6.mono (Ak (Ae _)) bd
 replace aa := aa.mono (Ak (Ae _)) bd
 replace al := al.mono (Ae _) bd
 replace ae := ae.mono (Ae _) bd
 replace aw := aw.mono (Ae _) bd
 replace ax := ax.mono (Ae _) bd
 have dx := OR (Lb' := []) (by rfl) dv dw
 replace ab := ab.new fun p hp => dx p (by simp [hp])
 refine AD (lp (ln (lp (lp (ln rfl))))) (kO (kf (fS (fS (fS fO))) (kf (fS (fS (fS fO))) (kf (fS (fS (fS fO))) kr))) ?_)
 refine um (ox rfl rfl rfl (ox rfl rfl rfl (ua (ua (BI ?_)))))
 refine uv (AE isAgg26 sizeOf26 rfl (Has.own 1 rfl) (A5 rfl) rfl) ?_
 obtain rfl := (BG.Be al).1
 refine Ew (Nat.le_refl _) (Ae _) (fC (fC (fC (fS fP)))) al ?_; intro jl bg bo
 replace a6 := a6.mono (Ak (Ae _)) bg
 replace aa := aa.mono (Ak (Ae _)) bg
 replace ae := ae.mono (Ae _) bg
 replace aw := aw.mono (Ae _) bg
 replace ax := ax.mono (Ae _) bg
 replace ab := ab.mono (Ae _) bg
 obtain rfl := (BG.Be ae).1
 refine Ew (Nat.le_refl _) (Ae _) (fC (fC (fC (fS fP)))) ae ?_; intro jm bh ct
 replace a6 := a6.mono (Ak (Ae _)) bh
 replace aa := aa.mono (Ak (Ae _)) bh
 replace bo := bo.mono (Ak (Ae _)) bh
 replace aw := aw.mono (Ae _) bh
 replace ax := ax.mono (Ae _) bh
 replace ab := ab.mono (Ae _) bh
 obtain ⟨l8, n6, fw, fx⟩ := A9 fq
 refine c0 call46 (MQ bo ct fw) ?_; rintro _ jn _ aq ie ⟨jo, jq, rfl, rfl, fy⟩
 replace a6 := a6.mono (Ak (Ae _)) aq
 replace aa := aa.mono (Ak (Ae _)) aq
 replace bo := bo.mono (Ak (Ae _)) aq
 replace ct := ct.mono (Ak (Ae _)) aq
 replace aw := aw.mono (Ae _) aq
 replace ax := ax.mono (Ae _) aq
 replace ab := ab.mono (Ae _) aq
 refine AD (ln rfl) ?_
 refine um (ox rfl rfl rfl (ox rfl rfl rfl (ua (ua (BI ?_)))))
 refine uv (AE isAgg26 sizeOf26 rfl (Has.own 1 rfl) (A5 rfl) rfl) (um ?_)
 obtain ⟨n7, n8, n9, g0, dy⟩ := I6 fx
 refine cV call47 (Mn bo ct g0) ?_
 refine um (ox rfl rfl rfl (ox rfl rfl rfl ?_))
 refine A1 rfl zeroValue78 ?_; intro dz ig
 refine A6 (i := 0) sizeOf78 rfl rfl rfl (by simp [Value.oneCell']) rfl (A5 rfl) (AD rfl ?_)
 refine ua (BI (um (um ?_)))
 refine uv (Bb rfl rfl) (um ?_)
 by_cases ay : n5 = e_
 ·have eb := AQ dy ay
  refine nT ay (um (nT ay (um (nT ay ?_))))
  refine uv (Bb rfl rfl) (uv (Aw (AS rfl ay) rfl) (um ?_))
  by_cases az : n6 = e_
  ·have ec := AQ eb az
   refine nT az (um (nT az (um (nT az ?_))))
   refine uv (Bb rfl rfl) (uv (Aw (AS rfl az) rfl) (um ?_))
   by_cases ba : n9 = v2
   ·have ef := AQ ec ba
    refine nT ba (uv (AE isAgg78 sizeOf78 rfl (Has.own 0 rfl) (A5 rfl) rfl) (nT ba (uv (AE isAgg78 sizeOf78 rfl (Has.own 1 rfl) (A5 rfl) rfl) (nT ba (uv (Nh (P2 _ _ _ _) (QM _ _ _ _) rfl rfl) (uv (Aw (AS rfl ba) rfl) (um ?_)))))))
    by_cases bb : n7 = ah ∧ n8 = ai
    ·have g8 := AQ ef bb
     refine nT bb (um (nT bb (um (nT bb ?_))))
     obtain ⟨jr, ga, eg⟩ := AB g8
     refine Bi (Lt := cr ++ (bk ++ [])) (Lr := (dz, ce #[.int .i64 n7, .int .i64 n8] 78) :: ((cn, ce #[.int .i64 ah, .int .i64 ai] 78) :: ((bj, ce #[.slice bu l.length bw, .slice bx l2.length bz] 26) :: ((b1, ce #[.slice Ac Ab.length Ad, .slice Aj Af.length Ai] 26) :: (bl ++ []))))) rfl call37 rfl rfl rfl (pT ((fC (fC (fC (fC fP)))).trans (pA ((fC (fC (fC (fC fP)))).trans (pA pR)))) (lp (lp (ln rfl)))) (fun F2 h2 h3 => by rw [(AW.Be ab).1]; rw [(AW.Be aw).1]; exact DI (ab.row (Ae _) h2 (fun p hp => h3 p (List.mem_append_left _ hp))) (aw.row (Ae _) h2 (fun p hp => h3 p (List.mem_append_right _ (List.mem_append_left _ hp)))) ga) ?_
     refine uv (Aw (AS rfl bb) rfl) (um ?_)
     rcases Bf jr with ar | ar
     ·have gb := bt eg ar
      refine nB ar (um (nB ar (um (nB ar ?_))))
      obtain ⟨js, gg, eh⟩ := AB gb
      refine Bi (Lt := bl ++ []) (Lr := (dz, ce #[.int .i64 n7, .int .i64 n8] 78) :: ((cn, ce #[.int .i64 ah, .int .i64 ai] 78) :: ((bj, ce #[.slice bu l.length bw, .slice bx l2.length bz] 26) :: ((b1, ce #[.slice Ac Ab.length Ad, .slice Aj Af.length Ai] 26) :: (cr ++ (bk ++ [])))))) rfl call37 rfl rfl rfl (pT ((fC (fC (fC (fC (fS (fS fP)))))).trans (pA pR)) (lp (ln rfl))) (fun F2 h2 h3 => by rw [(AW.Be ax).1]; exact DI (fy.mono (Ae _) h2) (ax.row (Ae _) h2 (fun p hp => h3 p (List.mem_append_left _ hp))) gg) ?_
      refine uv (Aw (En rfl ar) rfl) (um ?_)
      rcases Bf js with au | au
      ·have gh := bt eh au
       refine nB au (uv (AE isAgg26 sizeOf26 rfl (Has.own 2 rfl) (A5 rfl) rfl) (nB au (uv (AE isAgg26 sizeOf26 rfl (Has.own 3 rfl) (A5 rfl) rfl) (nB au ?_))))
       obtain ⟨jt, gi, ei⟩ := AB gh
       refine cV call22 (DF bo ct a6 aa gi) (uv (Aw (En rfl au) rfl) (um ?_))
       rcases Bf jt with bp | bp
       ·have gj := bt ei bp
        refine nB bp ?_
        obtain ⟨kb, gk, gl⟩ := AB gj
        refine cV call14 (BB gk) (uv (Aw (En rfl bp) rfl) ?_)
        refine ua (Aa ?_)
        refine kW kn (As (BD results9 ?_))
        obtain rfl := AH gl
        exact rfl
       have gm := bf ei bp
       refine fB bp (uv (Ar (En rfl bp) rfl) ?_)
       refine ua (Aa ?_)
       refine kW kn (As (BD results9 ?_))
       obtain rfl := AH gm
       exact rfl
      have gn := bf eh au
      refine fB au (fB au (fB au ?_))
      refine uv (Ar (En rfl au) rfl) ?_
      refine um (Ah (b' := false) 111 rfl rfl rfl rfl ?_)
      refine uv (Ar rfl rfl) ?_
      refine ua (Aa ?_)
      refine kW kn (As (BD results9 ?_))
      obtain rfl := AH gn
      exact rfl
     have gp := bf eg ar
     refine fB ar (fB ar (fB ar ?_))
     refine uv (Ar (En rfl ar) rfl) ?_
     refine um (Ah (b' := false) 106 rfl rfl rfl rfl (Ah (b' := false) 106 rfl rfl rfl rfl (Ah (b' := false) 106 rfl rfl rfl rfl ?_)))
     refine uv (Ar rfl rfl) ?_
     refine um (Ah (b' := false) 111 rfl rfl rfl rfl ?_)
     refine uv (Ar rfl rfl) ?_
     refine ua (Aa ?_)
     refine kW kn (As (BD results9 ?_))
     obtain rfl := AH gp
     exact rfl
    have gq := AR ef bb
    refine fF bb (fF bb (fF bb ?_))
    refine uv (Ar (AM rfl bb) rfl) ?_
    refine um (Ah (b' := false) 101 rfl rfl rfl rfl (Ah (b' := false) 101 rfl rfl rfl rfl (Ah (b' := false) 101 rfl rfl rfl rfl ?_)))
    refine uv (Ar rfl rfl) ?_
    refine um (Ah (b' := false) 106 rfl rfl rfl rfl (Ah (b' := false) 106 rfl rfl rfl rfl (Ah (b' := false) 106 rfl rfl rfl rfl ?_)))
    refine uv (Ar rfl rfl) ?_
    refine um (Ah (b' := false) 111 rfl rfl rfl rfl ?_)
    refine uv (Ar rfl rfl) ?_
    refine ua (Aa ?_)
    refine kW kn (As (BD results9 ?_))
    obtain rfl := AH gq
    exact rfl
   have gr := AR ec ba
   refine fF ba (fF ba (fF ba ?_))
   refine uv (Ar (AM rfl ba) rfl) ?_
   refine um (Ah (b' := false) 96 rfl rfl rfl rfl (Ah (b' := false) 96 rfl rfl rfl rfl (Ah (b' := false) 96 rfl rfl rfl rfl ?_)))
   refine uv (Ar rfl rfl) ?_
   refine um (Ah (b' := false) 101 rfl rfl rfl rfl (Ah (b' := false) 101 rfl rfl rfl rfl (Ah (b' := false) 101 rfl rfl rfl rfl ?_)))
   refine uv (Ar rfl rfl) ?_
   refine um (Ah (b' := false) 106 rfl rfl rfl rfl (Ah (b' := false) 106 rfl rfl rfl rfl (Ah (b' := false) 106 rfl rfl rfl rfl ?_)))
   refine uv (Ar rfl rfl) ?_
   refine um (Ah (b' := false) 111 rfl rfl rfl rfl ?_)
   refine uv (Ar rfl rfl) ?_
   refine ua (Aa ?_)
   refine kW kn (As (BD results9 ?_))
   obtain rfl := AH gr
   exact rfl
  have gu := AR eb az
  refine fF az (fF az (fF az ?_))
  refine uv (Ar (AM rfl az) rfl) ?_
  refine um (Ah (b' := false) 91 rfl rfl rfl rfl (Ah (b' := false) 91 rfl rfl rfl rfl (Ah (b' := false) 91 rfl rfl rfl rfl ?_)))
  refine uv (Ar rfl rfl) ?_
  refine um (Ah (b' := false) 96 rfl rfl rfl rfl (Ah (b' := false) 96 rfl rfl rfl rfl (Ah (b' := false) 96 rfl rfl rfl rfl ?_)))
  refine uv (Ar rfl rfl) ?_
  refine um (Ah (b' := false) 101 rfl rfl rfl rfl (Ah (b' := false) 101 rfl rfl rfl rfl (Ah (b' := false) 101 rfl rfl rfl rfl ?_)))
  refine uv (Ar rfl rfl) ?_
  refine um (Ah (b' := false) 106 rfl rfl rfl rfl (Ah (b' := false) 106 rfl rfl rfl rfl (Ah (b' := false) 106 rfl rfl rfl rfl ?_)))
  refine uv (Ar rfl rfl) ?_
  refine um (Ah (b' := false) 111 rfl rfl rfl rfl ?_)
  refine uv (Ar rfl rfl) ?_
  refine ua (Aa ?_)
  refine kW kn (As (BD results9 ?_))
  obtain rfl := AH gu
  exact rfl
 have gv := AR dy ay
 refine fF ay (fF ay (fF ay ?_))
 refine uv (Ar (AM rfl ay) rfl) ?_
 refine um (Ah (b' := false) 86 rfl rfl rfl rfl (Ah (b' := false) 86 rfl rfl rfl rfl (Ah (b' := false) 86 rfl rfl rfl rfl ?_)))
 refine uv (Ar rfl rfl) ?_
 refine um (Ah (b' := false) 91 rfl rfl rfl rfl (Ah (b' := false) 91 rfl rfl rfl rfl (Ah (b' := false) 91 rfl rfl rfl rfl ?_)))
 refine uv (Ar rfl rfl) ?_
 refine um (Ah (b' := false) 96 rfl rfl rfl rfl (Ah (b' := false) 96 rfl rfl rfl rfl (Ah (b' := false) 96 rfl rfl rfl rfl ?_)))
 refine uv (Ar rfl rfl) ?_
 refine um (Ah (b' := false) 101 rfl rfl rfl rfl (Ah (b' := false) 101 rfl rfl rfl rfl (Ah (b' := false) 101 rfl rfl rfl rfl ?_)))
 refine uv (Ar rfl rfl) ?_
 refine um (Ah (b' := false) 106 rfl rfl rfl rfl (Ah (b' := false) 106 rfl rfl rfl rfl (Ah (b' := false) 106 rfl rfl rfl rfl ?_)))
 refine uv (Ar rfl rfl) ?_
 refine um (Ah (b' := false) 111 rfl rfl rfl rfl ?_)
 refine uv (Ar rfl rfl) ?_
 refine ua (Aa ?_)
 refine kW kn (As (BD results9 ?_))
 obtain rfl := AH gv
 exact rfl
set_option maxHeartbeats 1000000 in
theorem Hu {mark : Int} (aa : Au 1 (Bm 1 (iE .i64)) F Ac Ad Ab) (ad : Au 1 (Bm 1 (iE .i64)) F Aj Ai Af) {r r2 : List (List Int)} (hr : Fy Ab Af hour Bx mark = some (r, r2)) :
    SH.Spec Tryz.prog 48 #[.agg #[.slice Ac Ab.length Ad, .slice Aj Af.length Ai], .int .i64 hour, .int .i64 Bx, .int .i64 mark] F [] fun F' L' v => ∃ (ra : Option Addr) (rc : Nat) (di : Option Addr) (dk : Nat), v = .agg #[.slice ra r.length rc, .slice di r2.length dk] ∧ L' = [] ∧ Au 1 (Bm 1 (iE .i64)) F' ra rc r ∧ Au 1 (Bm 1 (iE .i64)) F' di dk r2 := by
 refine sp func48 ntmps48 fun K _ _ => ?_
 rw [Fy] at hr
 refine AI ?_
 refine By rfl rfl ?_; intro b1 fo
 refine A1 rfl zeroValue51 ?_; intro b2 fp
 refine BI (uv (Av Hs rfl) (uv (Ao isAgg23 rfl (Has.own 1 rfl) rfl) ?_))
 refine uv (BL (v := .agg #[.slice Ac Ab.length Ad, .slice none 0 0]) rfl (by intro w; kernel_rfl)) ?_
 refine A1 rfl zeroValue51 ?_; intro b3 fq
 refine A6 (i := 0) sizeOf51 rfl rfl rfl (by simp [Value.oneCell']) rfl (A5 rfl) (AD rfl (Aa ?_))
 obtain ⟨ab, eg, dm⟩ := AB hr
 refine AK (fun e1 F1 L1 => ∃ (a4 : Option Addr) (n8 : Nat) (c5 : Nat) (bq : LH), F = F1 ∧ L1 = ((b3, ce #[.slice Ac Ab.length Ad, .slice a4 n8 c5] 51) :: ((b2, ce #[.slice none 0 0, .slice none 0 0] 51) :: (bq ++ []))) ∧ e1.sub [(1, .int .i64 hour), (2, .int .i64 Bx), (3, .int .i64 mark), (8, .pointer (some ⟨b2, 0, none⟩)), (9, .pointer (some ⟨b3, 0, none⟩))] ∧ BG K.w0.heap.size 22 3 1 (iE .i64) F1 a4 n8 c5 ab bq) ?_ ?_
 ·clear dm
  refine AI (ua (Aa ?_))
  refine Ap ?_
  refine A2 (fun dp e1 F1 L1 => LA Af dp fun tl h => ∃ (a6 : List (List Int)) (ah : Option Addr) (ai : Nat) (aj : Nat) (ae : LH), EY tl a6 = some ab ∧ F = F1 ∧ L1 = ((b3, ce #[.slice Ac Ab.length Ad, .slice ah ai aj] 51) :: ((b2, ce #[.slice none 0 0, .slice none 0 0] 51) :: ((b1, ce #[.slice Ac Ab.length Ad, .slice Aj Af.length Ai] 51) :: (ae ++ [])))) ∧ e1.sub [(1, .int .i64 hour), (2, .int .i64 Bx), (3, .int .i64 mark), (4, .pointer (some ⟨b1, 0, none⟩)), (8, .pointer (some ⟨b2, 0, none⟩)), (9, .pointer (some ⟨b3, 0, none⟩)), (10, .int .i64 h)] ∧ BG K.w0.heap.size 22 3 1 (iE .i64) F1 ah ai aj a6 ae) _ (m0 (kc (kc (kc (ke kr)))) ⟨_, _, rfl, A8.start _, [], none, 0, 0, [], eg, rfl, rfl, z7, BG.nil _ _ _ _ _ _⟩) ?_
  rintro dp e1 _ _ ⟨tl, h, br, ao, a6, ah, ai, aj, ae, bn, rfl, rfl, bu, ax⟩
  refine Az _ bu ?_
  refine At (AI (um ?_))
  refine uv (Av DQ rfl) (uv (Ao isAgg23 rfl (Has.own 2 rfl) rfl) (uv (AJ underlying23 rfl) (uv (AV rfl rfl) (Aa ?_))))
  refine cQ (fun bo => ?_) fun bo => ?_
  ·obtain ⟨x, fs, rfl, bw, dq, bx⟩ := A8.succ ao bo
   rw [EY] at bn
   refine Aq (At ?_)
   refine Ap (Bd [(.still, 0), (.still, 1), (.still, 3), (.still, 4), (.still, 5), (.still, 6), (.still, 7), (.seq, 2), (.seq, 8), (.seq, 9), (.seq, 10), (.still, 11), (.seq, 12)] (by kernel_rfl) (by kernel_rfl) (trivial) (by rfl) (by kernel_rfl) (mS [9] rfl (Av DQ rfl) (mL [21] ([(b3, ce #[.slice Ac Ab.length Ad, .slice ah ai aj] 51)]) rfl (s0 (s2 (s1 (s1 (s3 sr))))) (fun H F' L' ay az => Ao isAgg23 rfl ((Has.own 0 rfl).ext ay az) rfl) (mS [4] rfl (Av DQ rfl) (mL [24] ([(b1, ce #[.slice Ac Ab.length Ad, .slice Aj Af.length Ai] 51)]) rfl (s0 (s1 (s1 (s2 (s3 sr))))) (fun H F' L' ay az => Ao isAgg23 rfl ((Has.own 0 rfl).ext ay az) rfl) (mS [10] rfl (Bj rfl) ?_))))))
   obtain ⟨ft, fv, fw, eh, bz, ca, dr, ⟨ei, ej, rfl, en⟩, eo, cb⟩ := Au.at (Ak (Ae _)) ad ([]) dq.1 bw
   refine mS [25, 26] rfl (AF underlying23 sizeOf22 rfl bz rfl dq) (mL [27] ([]) rfl sm (fun H F' L' ay az => Ao isAgg22 rfl (ca.ext ay az) (cb 0 (by decide))) ?_)
   refine ⟨_, [], rfl, rfl, (sn _), by kernel_rfl, ?_⟩; intro H
   refine Gn (cs := #[]) rfl rfl (HX BN) ?_; intro bp cc
   refine Aa ⟨_, rfl, AN.refl _, [7, 6, 5, 4, 3, 1, 0], by kernel_rfl, .inl (.inr (fun d h => by cases h; rfl)), (fc sm (fc sm (fc sm (fc (s0 (s1 (s1 (s1 (s2 (s3 sr)))))) (fc sm (fc (s0 (s1 (s2 (s1 (s1 (s3 sr)))))) (fc sm nm))))))), ?_⟩
   refine ⟨_, [(23, .slice (some ⟨bp, 0, none⟩) 0 0), (28, .slice ei x.length ej)], rfl, rfl, z2, by kernel_rfl, ?_⟩; intro H
   have ba : AW K.w0.heap.size 3 1 (iE .i64) F (some ⟨bp, 0, none⟩) 0 0 ([] : List Int) [(bp, ce #[] 3)] := AW.AG (vss := []) (Ae _) cc .nil rfl rfl (by simp [maxLen])
   generalize aq : ([(bp, ce #[] 3)] : LH) = Lb40 at ba
   refine BK (L' := Lb40 ++ ((b3, ce #[.slice Ac Ab.length Ad, .slice ah ai aj] 51) :: ((b2, ce #[.slice none 0 0, .slice none 0 0] 51) :: ((b1, ce #[.slice Ac Ab.length Ad, .slice Aj Af.length Ai] 51) :: (ae ++ []))))) (by rw [← aq]; exact fO) ?_
   refine BK (L' := (b3, ce #[.slice Ac Ab.length Ad, .slice ah ai aj] 51) :: ((b2, ce #[.slice none 0 0, .slice none 0 0] 51) :: ((b1, ce #[.slice Ac Ab.length Ad, .slice Aj Af.length Ai] 51) :: (Lb40 ++ (ae ++ []))))) (List.Perm.symm (fC (fC (fC fP)))) ?_
   obtain ⟨l, ep, er, et⟩ := E0 bn
   refine Dm (xs := ([] : List Int)) (ys := x) (zs := l) rfl BN rfl rfl (Nat.le_refl _) (fun _ => .c (.c (.c .h))) ba (Au.src en) ep er (by decide) ?_; intro ar au av eu cd
   refine Aa ⟨_, rfl, AN.refl _, [1, 0], by kernel_rfl, .inl (.inr (fun d h => by cases h; rfl)), (fc (s0 (s2 (s1 (s1 (s3 (s3 sr)))))) (fc sm nm)), ?_⟩
   refine ⟨_, [(29, .slice ar au av)], rfl, rfl, z1, by kernel_rfl, ?_⟩; intro H
   refine bA (cs := #[.slice ar au av]) FP [.slice ar au av] ?_; intro ew ey
   refine Aa ⟨_, rfl, AN.refl _, [1, 0], by kernel_rfl, .inl (.inr (fun d h => by cases h; rfl)), (fc (s0 (s1 (s2 (s1 (s1 (s3 (s3 sr))))))) (fc sm nm)), ?_⟩
   refine ⟨_, [(22, .slice ah ai aj), (30, .slice (some ⟨ew, 0, none⟩) 1 1)], rfl, rfl, z2, by kernel_rfl, ?_⟩; intro H
   obtain ⟨l2, dt, ez, fa⟩ := E0 et
   refine MF (fC (fC (fC (fC (fS fP))))) ax ?_; intro bb fb fe cf bc
   refine kO (kf (fS (fS fO)) (kf (fS (fS fO)) (kf (fS (fS fO)) (kf (fS (fS fO)) kr)))) ?_
   refine Dm (xs := bb) (ys := [(ar, au, av)]) (zs := bb ++ [(ar, au, av)]) rfl FP rfl rfl (Nat.le_refl _) (fun _ => .c (.c (.c (.c .h)))) cf (GO.box (vss := [[.slice ar au av]]) (ys := [(ar, au, av)]) 0 rfl Cm (.cons rfl .nil) rfl rfl) rfl (QZ bc dt ez) (by decide) ?_; intro cg cj ck ff cn
   refine kO (kd kr) ?_
   refine Bp (p := fun X => BG K.w0.heap.size 22 3 1 (iE .i64) F cg cj ck l2 X) (K3.push bc rfl cn cd dt) (pT ((fC (fC (fC fP))).trans (pA ((fC (fC (fC (fS fP)))).trans (pA ((fC (fC (fC fP))).trans (pA pR)))))) (lp (lp (lp (ln rfl))))) ?_; intro cp cq
   refine kO (kf (fS fO) (kf (fS fO) (kf (fS fO) kr))) ?_
   refine Aa ⟨_, rfl, AN.refl _, [], by kernel_rfl, .inl (.inl rfl), nm, ?_⟩
   refine mS [9] rfl (Av DQ rfl) ?_
   refine ⟨_, [(31, .slice cg cj ck), (32, .pointer (some ⟨b3, 1, none⟩))], rfl, rfl, z2, by kernel_rfl, ?_⟩; intro H
   refine A0 (i := 0) sizeOf23 rfl rfl rfl rfl (A5 rfl) (AD rfl ?_)
   refine Aa ⟨undef, rfl, AN.refl _, [], by kernel_rfl, .inl (.inl rfl), nm, ?_⟩
   refine BC ?_
   refine Ax (id := 1) (An (um ?_))
   refine uv (AY rfl rfl (A8.CC ao bo (Au.lt ad))) ?_
   refine ua (Aa ?_)
   subst br; exact le kr ⟨_, _, rfl, bx, l2, cg, cj, ck, cp, fa, rfl, rfl, z7, cq⟩
  obtain rfl := A8.zero ao bo
  rw [EY] at bn
  refine AL (Am (Am ?_))
  refine AA ?_
  obtain rfl := AH bn
  exact mi (kc (kc (kd kr))) ⟨ah, ai, aj, ae, rfl, rfl, z5, ax⟩
 rintro e1 _ _ ⟨a4, n8, c5, bq, rfl, rfl, cr, du⟩
 refine Az _ cr (AI (uv (Av DQ rfl) (uv (Ao isAgg23 rfl (Has.own 0 rfl) rfl) (um ?_))))
 obtain ⟨x2, dv, ct, fg⟩ := A7 dm
 have cu := (BG.Be du).1
 refine Iu (fC (fC fP)) du ct ?_; intro fh bd bg fx fy g0 bh bj bk aw cv
 refine kO (kf (fS (fS (fS fO))) (kf (fS (fS (fS fO))) kr)) ?_
 obtain ⟨g8, ga, gb, fi, cw, cx, dw, rfl, fj, cy⟩ := AW.at Cm bk (L := (b3, ce #[.slice Ac Ab.length Ad, .slice a4 n8 c5] 51) :: ((b2, ce #[.slice none 0 0, .slice none 0 0] 51) :: (bd ++ (bh ++ (bg ++ []))))) (fC (fC fP)) dv.1 bj
 refine uv (AF underlying23 sizeOf22 rfl cw rfl (K2 cu dv)) (uv (Ao isAgg22 rfl cx (cy 0 (by decide))) ?_)
 refine um (um ?_)
 obtain ⟨x3, cz, da, fk⟩ := A7 fg
 obtain ⟨gg, gh, fl, dx, ak, dy, db, rfl, dz, eb⟩ := AW.at (Ae _) aw (L := (b3, ce #[.slice Ac Ab.length Ad, .slice a4 n8 c5] 51) :: ((b2, ce #[.slice none 0 0, .slice none 0 0] 51) :: (bd ++ (bh ++ (bg ++ []))))) (fC (fC (fS fP))) cz.1 da
 refine uv (AF underlying22 sizeOf3 rfl ak rfl (AW.idx aw cz)) ?_
 obtain ⟨l3, dd, de⟩ := BS fk
 refine CQ (u := mark) sizeOf3 (Ae _) rfl ak rfl rfl (fun _ => .c (.c (.s .h))) aw dd cz ?_; intro ec bl
 obtain ⟨out, df, dg⟩ := BS de
 refine Bp (p := fun X => BG K.w0.heap.size 22 3 1 (iE .i64) F a4 n8 c5 out X) (K5.Lv cv bk bj bl df) (pT ((fC (fC fP)).trans (pA ((fC (fC fP)).trans (pA ((fC (fC fP)).trans (pA pR)))))) (lp (lp (lp (ln rfl))))) ?_; intro ef al
 refine kO (kf (fS fO) (kf (fS fO) kr)) (BI (uv (AE isAgg51 sizeOf51 rfl (Has.own 0 rfl) (A5 rfl) rfl) (A6 (i := 1) sizeOf51 rfl rfl rfl (by simp [Value.oneCell']) rfl (A5 rfl) (AD rfl (Aa ?_)))))
 obtain rfl := (BG.Be al).1
 refine OP (Nat.le_refl _) (Ae _) (fC (fC fP)) al ?_; intro fm bm dh
 replace aa := aa.mono (Ak (Ae _)) bm
 refine kW (kd kr) (As (Lm results48 (CK (cs := #[.slice Ac Ab.length Ad, .slice a4 out.length c5]) isAgg51 sizeOf51 rfl (Has.own 0 rfl) (A5 rfl) rfl) (s1 sr) ?_))
 obtain ⟨rfl, rfl⟩ := BT dg
 exact ⟨_, _, _, _, rfl, rfl, aa, dh⟩
set_option maxHeartbeats 1000000 in
theorem M9 (a6 : Au 1 (Bm 1 (iE .i64)) F Ac Ad Ab) (aa : Au 1 (Bm 1 (iE .i64)) F Aj Ai Af) {r r2 r3 : Int} (hr : Ks Ab Af = some (r, r2, r3)) :
    Ba Tryz.prog 49 #[.agg #[.slice Ac Ab.length Ad, .slice Aj Af.length Ai]] F (.tuple #[.int .i64 r, .int .i64 r2, .int .i64 r3]) := by
 refine sp func49 ntmps49 fun K _ _ => ?_
 rw [Ks] at hr
 refine AI ?_
 refine By rfl rfl ?_; intro b1 er
 refine ua (ua (ua (BI (ua (ua (Aa ?_))))))
 obtain ⟨hour, Bx, IL, h2, r4⟩ := I6 hr
 refine jF ([]) [(2, .int .i64 hour), (3, .int .i64 Bx), (4, .int .i64 IL)] ?_ fun et cr => ?_
 ·clear r4
  refine AI (ua (Aa ?_))
  refine Ap ?_
  refine A2 (fun cb e1 F1 L1 => LA Af cb fun tl h => ∃ (ae : Int) (au : Int) (ah : Int), FI Ab Af tl h ae au ah = some (hour, Bx, IL) ∧ AN F F1 ∧ L1 = [(b1, ce #[.slice Ac Ab.length Ad, .slice Aj Af.length Ai] 51)] ∧ e1.sub [(1, .pointer (some ⟨b1, 0, none⟩)), (2, .int .i64 ae), (3, .int .i64 au), (4, .int .i64 ah), (5, .int .i64 h)]) _ (m0 kr ⟨_, _, rfl, A8.start _, -1, -1, 0, h2, AN.refl _, rfl, z5⟩) ?_
  rintro cb e1 F9 _ ⟨tl, h, ct, bg, ae, au, ah, r7, av, rfl, cu⟩
  refine Az _ cu ?_
  replace a6 := a6.mono (Ak (Ae _)) av
  replace aa := aa.mono (Ak (Ae _)) av
  refine At (AI (um ?_))
  refine uv (Av DQ rfl) (uv (Ao isAgg23 rfl (Has.own 0 rfl) rfl) (uv (AJ underlying23 rfl) (uv (AV rfl rfl) (Aa ?_))))
  refine cQ (fun bc => ?_) fun bc => ?_
  ·obtain ⟨x, eu, rfl, bh, cc, bj⟩ := A8.succ bg bc
   rw [FI] at r7
   refine Aq ?_
   obtain ⟨ak, ax, al, cv, cd⟩ := I6 r7
   refine jF ([(b1, ce #[.slice Ac Ab.length Ad, .slice Aj Af.length Ai] 51)]) [(1, .pointer (some ⟨b1, 0, none⟩)), (2, .int .i64 ak), (3, .int .i64 ax), (4, .int .i64 al), (5, .int .i64 h)] ?_ fun ew bb => ?_
   ·clear cd
    refine Ap ?_
    refine AI (ua (Aa ?_))
    refine Ap ?_
    refine A2 (fun cf e1 F1 L1 => LA Ab cf fun cg i => ∃ (ab : Int) (ai : Int) (ad : Int), DN Ab Af h x cg i ab ai ad = some (ak, ax, al) ∧ AN F9 F1 ∧ L1 = [(b1, ce #[.slice Ac Ab.length Ad, .slice Aj Af.length Ai] 51)] ∧ e1.sub [(1, .pointer (some ⟨b1, 0, none⟩)), (2, .int .i64 ab), (3, .int .i64 ai), (4, .int .i64 ad), (5, .int .i64 h), (6, .int .i64 i)]) _ (m0 kr ⟨_, _, rfl, A8.start _, ae, au, ah, cv, AN.refl _, rfl, z6⟩) ?_
    rintro cf e1 ey _ ⟨cg, i, ay, ao, ab, ai, ad, bd, aj, rfl, bk⟩
    refine Az _ bk ?_
    replace a6 := a6.mono (Ak (Ae _)) aj
    replace aa := aa.mono (Ak (Ae _)) aj
    refine At (AI (um ?_))
    refine uv (Av Hs rfl) (uv (Ao isAgg23 rfl (Has.own 0 rfl) rfl) (uv (AJ underlying23 rfl) (uv (AV rfl rfl) (Aa ?_))))
    refine cQ (fun ba => ?_) fun ba => ?_
    ·obtain ⟨x2, ez, rfl, cw, fa, az⟩ := A8.succ ao ba
     rw [DN] at bd
     refine Aq (At ?_)
     refine Ap ?_
     refine At (AI ?_)
     refine uv (Av DQ rfl) (uv (Ao isAgg23 rfl (Has.own 0 rfl) rfl) (um ?_))
     obtain ⟨fb, fe, ff, cx, bl, bm, cj, ⟨fg, fh, rfl, cy⟩, cz, bn⟩ := Au.at (Ak (Ae _)) aa ([(b1, ce #[.slice Ac Ab.length Ad, .slice Aj Af.length Ai] 51)]) cc.1 bh
     refine uv (AF underlying23 sizeOf22 rfl bl rfl cc) (uv (Ao isAgg22 rfl bm (bn 0 (by decide))) (um ?_))
     obtain ⟨x3, ck, bo, cn⟩ := A7 bd
     obtain ⟨fi, fj, fk, da, bp, bq, cp, rfl, db, br⟩ := Au.at (Ae _) cy ([(b1, ce #[.slice Ac Ab.length Ad, .slice Aj Af.length Ai] 51)]) ck.1 bo
     refine uv (AF underlying22 sizeOf3 rfl bp rfl ck) (uv (Ao isAgg3 rfl bq (br 0 (by decide))) (uv (BH rfl rfl) (Aa ?_)))
     refine cQ (fun bu => ?_) fun bu => ?_
     ·have dd := AQ cn bu
      refine AL (Am ?_)
      refine AA ?_
      refine An (um ?_)
      refine uv (AY rfl rfl (A8.CC ao ba (Au.lt a6))) ?_
      refine ua (Aa ?_)
      subst ay; exact le kr ⟨_, _, rfl, az, ab, ai, ad, dd, aj, rfl, z6⟩
     have de := AR cn bu
     refine Aq (At ?_)
     refine Bd [(.still, 0), (.still, 1), (.still, 2), (.still, 5), (.still, 6), (.still, 7), (.seq, 3), (.seq, 4), (.seq, 8), (.seq, 9), (.still, 10), (.still, 11)] (by kernel_rfl) (by kernel_rfl) (trivial) (by rfl) (by kernel_rfl) (mL [1] ([(b1, ce #[.slice Ac Ab.length Ad, .slice Aj Af.length Ai] 51)]) rfl (s0 sr) (fun H F' L' bw bx => AE isAgg51 sizeOf51 rfl ((Has.own 0 rfl).ext bw bx) (A5 rfl) rfl) (mS [5] rfl (Bj rfl) (mS [6] rfl (Bj rfl) (mL [1] ([(b1, ce #[.slice Ac Ab.length Ad, .slice Aj Af.length Ai] 51)]) rfl (s0 sr) (fun H F' L' bw bx => AE isAgg51 sizeOf51 rfl ((Has.own 0 rfl).ext bw bx) (A5 rfl) rfl) (mS [5] rfl (Bj rfl) (mS [6] rfl (Bj rfl) ?_))))))
     refine ⟨_, [(31, .agg #[.slice Ac Ab.length Ad, .slice Aj Af.length Ai]), (32, .int .i64 h), (33, .int .i64 i)], rfl, rfl, z3, by kernel_rfl, ?_⟩; intro H
     obtain ⟨l, l2, df, dg⟩ := A9 de
     refine c0 call48 (Hu a6 aa df) ?_; rintro _ fl _ aq dh ⟨di, dk, dm, dp, rfl, rfl, dq, dr⟩
     replace a6 := a6.mono (Ak (Ae _)) aq
     replace aa := aa.mono (Ak (Ae _)) aq
     refine AD (ln rfl) ?_
     refine Aa ⟨_, rfl, aq, [7, 6, 5], by kernel_rfl, .inl (.inr (fun d h => by cases h; rfl)), (fc sm (fc sm (fc (s0 sr) nm))), ?_⟩
     refine ⟨_, [(34, .agg #[.slice di l.length dk, .slice dm l2.length dp])], rfl, rfl, z1, by kernel_rfl, ?_⟩; intro H
     obtain ⟨n, dt, du⟩ := AB dg
     refine cV call34 (Ck dq dr dt) ?_
     refine Aa ⟨_, rfl, AN.refl _, [7, 6, 5], by kernel_rfl, .inl (.inr (fun d h => by cases h; rfl)), (fc sm (fc sm (fc (s0 sr) nm))), ?_⟩
     refine ⟨_, [(36, .agg #[.slice Ac Ab.length Ad, .slice Aj Af.length Ai]), (37, .int .i64 h), (38, .int .i64 i)], rfl, rfl, z3, by kernel_rfl, ?_⟩; intro H
     obtain ⟨l3, l4, dv, dw⟩ := A9 du
     refine c0 call48 (Hu a6 aa dv) ?_; rintro _ fm _ aw dx ⟨dy, dz, eb, ec, rfl, rfl, ef, eg⟩
     replace a6 := a6.mono (Ak (Ae _)) aw
     refine AD (ln rfl) ?_
     refine Aa ⟨_, rfl, aw, [], by kernel_rfl, .inl (.inl rfl), nm, ?_⟩
     refine ⟨_, [(39, .agg #[.slice dy l3.length dz, .slice eb l4.length ec])], rfl, rfl, z1, by kernel_rfl, ?_⟩; intro H
     obtain ⟨n2, eh, ei⟩ := AB dw
     refine cV call34 (Ck ef eg eh) ?_
     refine Aa ⟨_, rfl, AN.refl _, [], by kernel_rfl, .inl (.inl rfl), nm, ?_⟩
     refine mS (v := .int .i64 (if n2 > n then n2 else n)) [35, 40] rfl (Nk rfl rfl) (mS [41] rfl (EF rfl) (BC ?_))
     obtain ⟨k, cq, bz⟩ := AB ei
     refine jE ([(b1, ce #[.slice Ac Ab.length Ad, .slice Aj Af.length Ai] 51)]) [(1, .pointer (some ⟨b1, 0, none⟩)), (2, .int .i64 ab), (3, .int .i64 ai), (4, .int .i64 ad), (5, .int .i64 h), (6, .int .i64 i), (7, .int .i64 (if n2 > n then n2 else n)), (48, .bool k)] ?_ ?_
     ·clear bz
      refine An (um ?_)
      refine uv (AV rfl rfl) (um ?_)
      by_cases ar : ab < 0
      ·have ej := AQ cq ar
       refine fT ar (fT ar (fT ar ?_))
       refine uv (Aw (AS rfl ar) rfl) (Aa ?_)
       obtain rfl := AH ej
       exact mi kr ⟨rfl, rfl, z8⟩
      have en := AR cq ar
      refine nF ar (um (nF ar (um (nF ar ?_))))
      refine uv (AV rfl rfl) (uv (Ar (AM rfl ar) rfl) (Aa ?_))
      obtain rfl := AH en
      exact mi kr ⟨rfl, rfl, z8⟩
     refine AT rfl (fun ca => ?_) (fun ca => ?_)
     ·have eo := bt bz ca
      refine An (um (um (um (ua (ua (ua (Aa (Ax (id := 3) (An ?_)))))))))
      refine um (uv (AY rfl rfl (A8.CC ao ba (Au.lt a6))) ?_)
      refine ua (Aa ?_)
      subst ay; exact le kr ⟨_, _, rfl, az, h, i, if n2 > n then n2 else n, eo, ((aj.trans aq).trans aw), rfl, z6⟩
     have ep := bf bz ca
     refine Aq (Ax (id := 3) (An (um ?_)))
     refine uv (AY rfl rfl (A8.CC ao ba (Au.lt a6))) ?_
     refine ua (Aa ?_)
     subst ay; exact le kr ⟨_, _, rfl, az, ab, ai, ad, ep, ((aj.trans aq).trans aw), rfl, z6⟩
    obtain rfl := A8.zero ao ba
    rw [DN] at bd
    refine AL (Am (Am ?_))
    refine AA (Ax (id := 1) ?_)
    obtain ⟨rfl, rfl, rfl⟩ := IK bd
    exact mi kr ⟨aj, rfl, z5⟩
   replace aa := aa.mono (Ak (Ae _)) bb
   refine An (um ?_)
   refine uv (AY rfl rfl (A8.CC bg bc (Au.lt aa))) ?_
   refine ua (Aa ?_)
   subst ct; exact le kr ⟨_, _, rfl, bj, ak, ax, al, cd, (av.trans bb), rfl, z5⟩
  obtain rfl := A8.zero bg bc
  rw [FI] at r7
  refine AL (Am (Am ?_))
  refine AA ?_
  obtain ⟨rfl, rfl, rfl⟩ := IK r7
  exact mi kn ⟨av, rfl, z3⟩
 refine AI (um (um (um (ua (ua (ua (Aa (As ?_))))))))
 refine Kk results49 (AP rfl) (AP rfl) (AP rfl) (sr) ?_
 obtain ⟨rfl, rfl, rfl⟩ := IK r4
 exact rfl
end Go.Proofs.YtepdgjpkhkijcaaGreat
