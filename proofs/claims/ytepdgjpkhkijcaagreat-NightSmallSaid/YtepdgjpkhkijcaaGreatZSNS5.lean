/- The walks that this claim needs, printed by a program of mine; part 5. -/
import Derived.Test.YtepdgjpkhkijcaaGreatZSNS4
namespace Go.Proofs.YtepdgjpkhkijcaaGreat
open Go.SH Go.PL
open Tryz 
set_option maxHeartbeats 1000000 in
theorem KQ {F : FS} {r : Bool} (hr : EZ = some r) :
    Ba Tryz.prog 3 #[] F (.bool r) := by
 refine sp func3 ntmps3 fun K _ _ => ?_
 rw [EZ] at hr
 refine AI (ua (Aa ?_))
 refine AK (fun e1 F1 L1 => FC = some r ∧ AN F F1 ∧ L1 = [] ∧ e1.sub []) ?_ ?_
 ·refine AI ?_
  refine bA (cs := #[.int .i64 (-2), .int .i64 (-1), .int .i64 0, .int .i64 1, .int .i64 2, .int .i64 3, .int .i64 4, .int .i64 5, .int .i64 6, .int .i64 7, .int .i64 8, .int .i64 15, .int .i64 16, .int .i64 63, .int .i64 64, .int .i64 99, .int .i64 100, .int .i64 9223372036854775807, .int .i64 (-9223372036854775808)]) BN [.int .i64 (-2), .int .i64 (-1), .int .i64 0, .int .i64 1, .int .i64 2, .int .i64 3, .int .i64 4, .int .i64 5, .int .i64 6, .int .i64 7, .int .i64 8, .int .i64 15, .int .i64 16, .int .i64 63, .int .i64 64, .int .i64 99, .int .i64 100, .int .i64 9223372036854775807, .int .i64 (-9223372036854775808)] ?_; intro b1 hb1
  refine uv (AJ underlying22 rfl) ?_
  refine um (Aa ?_)
  refine Ap ?_
  refine Ge 0 rfl hb1 ?_; intro F2 hF3 hz4
  refine Fu (L' := []) rfl ?_
  have h5 : Au 1 (iE .i64) F2 (some ⟨b1, 0, none⟩) 19 [-2, -1, 0, 1, 2, 3, 4, 5, 6, 7, 8, 15, 16, 63, 64, 99, 100, 9223372036854775807, -9223372036854775808] := Au.AG (Ae _) (vss := [[.int .i64 (-2)], [.int .i64 (-1)], [.int .i64 0], [.int .i64 1], [.int .i64 2], [.int .i64 3], [.int .i64 4], [.int .i64 5], [.int .i64 6], [.int .i64 7], [.int .i64 8], [.int .i64 15], [.int .i64 16], [.int .i64 63], [.int .i64 64], [.int .i64 99], [.int .i64 100], [.int .i64 9223372036854775807], [.int .i64 (-9223372036854775808)]]) (xs := [-2, -1, 0, 1, 2, 3, 4, 5, 6, 7, 8, 15, 16, 63, 64, 99, 100, 9223372036854775807, -9223372036854775808]) hz4 (.cons rfl (.cons rfl (.cons rfl (.cons rfl (.cons rfl (.cons rfl (.cons rfl (.cons rfl (.cons rfl (.cons rfl (.cons rfl (.cons rfl (.cons rfl (.cons rfl (.cons rfl (.cons rfl (.cons rfl (.cons rfl (.cons rfl .nil))))))))))))))))))) rfl (by simp [maxLen])
  obtain ⟨g6, r7⟩ := AX hr
  refine A2 (fun og e1 F1 L1 => ∃ (k : Int), CZ 0 19 k og ∧ A4 og k = some r ∧ AN F2 F1 ∧ L1 = [] ∧ e1.sub [(23, .slice (some ⟨b1, 0, none⟩) [-2, -1, 0, 1, 2, 3, 4, 5, 6, 7, 8, 15, 16, 63, 64, 99, 100, 9223372036854775807, -9223372036854775808].length 19), (24, .int .i64 19), (25, .int .i64 k)]) _ (m0 kr ⟨_, CZ.start _ _, r7, AN.refl _, rfl, z3⟩) ?_
  rintro og e1 F12 _ ⟨k, hk8, r10, mo, rfl, he11⟩
  refine Az _ he11 ?_
  replace h5 := h5.mono (Ae _) mo
  refine AI (uv (AV rfl rfl) ?_)
  refine Aa (At ?_)
  refine cQ (fun c15 => ?_) fun c15 => ?_
  ·obtain ⟨og, rfl, hk16⟩ := CZ.succ hk8 c15
   rw [A4] at r10
   refine Aq ?_
   refine AK (fun e1 F1 L1 => FL k (A4 og) = some r ∧ AN F12 F1 ∧ L1 = [] ∧ e1.sub [(23, .slice (some ⟨b1, 0, none⟩) [-2, -1, 0, 1, 2, 3, 4, 5, 6, 7, 8, 15, 16, 63, 64, 99, 100, 9223372036854775807, -9223372036854775808].length 19), (24, .int .i64 19), (25, .int .i64 k)]) ?_ ?_
   ·refine Ap (AI ?_)
    obtain ⟨x, g17, hx18, r19⟩ := A7 r10
    obtain ⟨b20, o21, c22, vs23, ha24, hs25, hle26, rfl, hl27, hc28⟩ := Au.at (Ae _) h5 ([]) g17.1 hx18
    refine uv (AF underlying22 sizeOf3 rfl ha24 rfl g17) (uv (Ao isAgg3 rfl hs25 (hc28 0 (by decide))) ?_)
    refine ua (BI (um (Aa ?_)))
    refine Ap ?_
    obtain ⟨g29, r30⟩ := AX r19
    refine A2 (fun fu4 e1 F1 L1 => ∃ (k2 : Int), CZ 0 11 k2 fu4 ∧ C8 k x (A4 og) fu4 k2 = some r ∧ AN F12 F1 ∧ L1 = [] ∧ e1.sub [(2, .int .i64 x), (23, .slice (some ⟨b1, 0, none⟩) [-2, -1, 0, 1, 2, 3, 4, 5, 6, 7, 8, 15, 16, 63, 64, 99, 100, 9223372036854775807, -9223372036854775808].length 19), (24, .int .i64 19), (25, .int .i64 k), (29, .int .i64 k2)]) _ (m0 kr ⟨_, CZ.start _ _, r30, AN.refl _, rfl, z5⟩) ?_
    rintro fu4 e1 F35 _ ⟨k2, mq, r33, oi, rfl, he34⟩
    refine Az _ he34 (AI (uv (AV rfl rfl) ?_))
    refine Aa (At ?_)
    refine cQ (fun c38 => ?_) fun c38 => ?_
    ·obtain ⟨fu4, rfl, hk39⟩ := CZ.succ mq c38
     rw [C8] at r33
     refine Aq (At ?_)
     refine Ap ?_
     refine AI (um (ua (BI ?_)))
     obtain ⟨y, y2, h40, r41⟩ := A9 r33
     refine c0 call4 (Cd h40) ?_; rintro _ _ _ hF43 hn44 ⟨ba, ae, ai, ah, bl, ao, aq, rfl, rfl, rfl⟩
     refine AD (lb (lb (lb (lb (lb (lb (lb (ln rfl)))))))) ?_
     refine bA (cs := #[.int .i64 2, .int .i64 6]) BN [.int .i64 2, .int .i64 6] ?_; intro oh hb53
     refine uv (BL (v := .agg #[.int .i64 1, .int .i64 3]) rfl (by intro w; kernel_rfl)) ?_
     refine A1 rfl zeroValue26 ?_; intro eu hb54
     refine A1 rfl zeroValue3 ?_; intro eh hb55
     refine A1 rfl zeroValue3 ?_; intro ei hb56
     refine A1 rfl zeroValue29 ?_; intro du hb57
     refine A1 rfl zeroValue3 ?_; intro ej hb58
     refine A6 (i := 4) sizeOf26 rfl rfl rfl (by simp [Value.oneCell']) rfl (A5 rfl) (AD rfl (A0 (i := 3) sizeOf3 rfl rfl rfl rfl (A5 rfl) (AD rfl (A0 (i := 2) sizeOf3 rfl rfl rfl rfl (A5 rfl) (AD rfl ?_)))))
     have az : AW K.w0.heap.size 3 1 (iE .i64) F35 (some ⟨oh, 0, none⟩) 2 2 [2, 6] [(oh, ce #[.int .i64 2, .int .i64 6] 3)] := AW.AG (vss := [[.int .i64 2], [.int .i64 6]]) (Ae _) hb53 (.cons rfl (.cons rfl .nil)) rfl rfl (by simp [maxLen])
     generalize mr : ([(oh, ce #[.int .i64 2, .int .i64 6] 3)] : LH) = bb at az
     refine BK (L' := bb ++ [(ej, ce #[.int .i64 0] 3), (du, ce #[.int .i64 0, .int .i64 0] 29), (ei, ce #[.int .i64 5] 3), (eh, ce #[.int .i64 1] 3), (eu, ce #[.slice (some ⟨ba, 0, none⟩) 4 4, .slice (some ⟨bl, 0, none⟩) 2 2] 26), (ba, ce #[.slice none 0 0, .slice (some ⟨ae, 0, none⟩) 1 1, .slice (some ⟨ai, 0, none⟩) 1 1, .slice (some ⟨ah, 0, none⟩) 2 2] 22), (ae, ce #[.int .i64 0] 3), (ai, ce #[.int .i64 1] 3), (ah, ce #[.int .i64 0, .int .i64 2] 3), (bl, ce #[.slice (some ⟨ao, 0, none⟩) 4 4, .slice (some ⟨aq, 0, none⟩) 4 4] 36), (ao, ce #[.int .i64 0, .int .i64 0, .int .i64 2, .int .i64 1] 35), (aq, ce #[.int .i64 0, .int .i64 0, .int .i64 2, .int .i64 0] 35)]) (by rw [← mr]; exact (fC (fC (fC (fC (fC fO)))))) ?_
     refine BK (L' := (ej, ce #[.int .i64 0] 3) :: ((du, ce #[.int .i64 0, .int .i64 0] 29) :: ((ei, ce #[.int .i64 5] 3) :: ((eh, ce #[.int .i64 1] 3) :: ((eu, ce #[.slice (some ⟨ba, 0, none⟩) 4 4, .slice (some ⟨bl, 0, none⟩) 2 2] 26) :: ((ba, ce #[.slice none 0 0, .slice (some ⟨ae, 0, none⟩) 1 1, .slice (some ⟨ai, 0, none⟩) 1 1, .slice (some ⟨ah, 0, none⟩) 2 2] 22) :: ((ae, ce #[.int .i64 0] 3) :: ((ai, ce #[.int .i64 1] 3) :: ((ah, ce #[.int .i64 0, .int .i64 2] 3) :: ((bl, ce #[.slice (some ⟨ao, 0, none⟩) 4 4, .slice (some ⟨aq, 0, none⟩) 4 4] 36) :: ((ao, ce #[.int .i64 0, .int .i64 0, .int .i64 2, .int .i64 1] 35) :: ((aq, ce #[.int .i64 0, .int .i64 0, .int .i64 2, .int .i64 0] 35) :: (bb ++ []))))))))))))) (List.Perm.symm (fC (fC (fC (fC (fC (fC (fC (fC (fC (fC (fC (fC fP))))))))))))) (ua (A6 (i := 1) sizeOf29 rfl rfl rfl (by simp [Value.oneCell']) rfl (A5 rfl) (AD rfl (A0 (i := 0) sizeOf3 rfl rfl rfl rfl (A5 rfl) (AD rfl (BI (uv (AE isAgg26 sizeOf26 rfl (Has.own 4 rfl) (A5 rfl) rfl) ?_)))))))
     obtain ⟨l, n, h62, r63⟩ := A9 r41
     refine Is (Lb := []) (Lt := [(ba, ce #[.slice none 0 0, .slice (some ⟨ae, 0, none⟩) 1 1, .slice (some ⟨ai, 0, none⟩) 1 1, .slice (some ⟨ah, 0, none⟩) 2 2] 22), (ae, ce #[.int .i64 0] 3), (ai, ce #[.int .i64 1] 3), (ah, ce #[.int .i64 0, .int .i64 2] 3), (bl, ce #[.slice (some ⟨ao, 0, none⟩) 4 4, .slice (some ⟨aq, 0, none⟩) 4 4] 36), (ao, ce #[.int .i64 0, .int .i64 0, .int .i64 2, .int .i64 1] 35), (aq, ce #[.int .i64 0, .int .i64 0, .int .i64 2, .int .i64 0] 35)]) (Lr := (ej, ce #[.int .i64 1] 3) :: ((du, ce #[.int .i64 1, .int .i64 3] 29) :: ((ei, ce #[.int .i64 5] 3) :: ((eh, ce #[.int .i64 1] 3) :: ((eu, ce #[.slice (some ⟨ba, 0, none⟩) 4 4, .slice (some ⟨bl, 0, none⟩) 2 2] 26) :: (bb ++ [])))))) rfl call5 rfl rfl rfl (pT ((fC (fC (fC (fC (fC fO))))).trans (pC ((fC (fC (fC (fC (fC fO))))).trans (pC ((fC (fC (fC (fC (fC fO))))).trans (pC ((fC (fC (fC (fC (fC fO))))).trans (pC ((fC (fC (fC (fC (fC fO))))).trans (pC ((fC (fC (fC (fC (fC fO))))).trans (pC ((fC (fC (fC (fC (fC fO))))).trans (pC pR)))))))))))))) (ln (lb (lb (lb (lb (lb (lb (lb (ln rfl)))))))))) (fun F2 h2 h3 => by exact Kr (Au.AG (Ak (Ae _)) (vss := [[.slice none 0 0], [.slice (some ⟨ae, 0, none⟩) 1 1], [.slice (some ⟨ai, 0, none⟩) 1 1], [.slice (some ⟨ah, 0, none⟩) 2 2]]) (xs := ([[], [0], [1], [0, 2]] : List (List Int))) (h3 (ba, ce #[.slice none 0 0, .slice (some ⟨ae, 0, none⟩) 1 1, .slice (some ⟨ai, 0, none⟩) 1 1, .slice (some ⟨ah, 0, none⟩) 2 2] 22) (List.mem_cons_self ..)) (.cons ⟨_, _, rfl, Au.nil _ _ _⟩ (.cons ⟨_, _, rfl, (Au.AG (Ae _) (vss := [[.int .i64 0]]) (xs := ([0] : List Int)) (h3 (ae, ce #[.int .i64 0] 3) (List.mem_cons_of_mem _ (List.mem_cons_self ..))) (.cons rfl .nil) rfl (by simp [maxLen]))⟩ (.cons ⟨_, _, rfl, (Au.AG (Ae _) (vss := [[.int .i64 1]]) (xs := ([1] : List Int)) (h3 (ai, ce #[.int .i64 1] 3) (List.mem_cons_of_mem _ (List.mem_cons_of_mem _ (List.mem_cons_self ..)))) (.cons rfl .nil) rfl (by simp [maxLen]))⟩ (.cons ⟨_, _, rfl, (Au.AG (Ae _) (vss := [[.int .i64 0], [.int .i64 2]]) (xs := ([0, 2] : List Int)) (h3 (ah, ce #[.int .i64 0, .int .i64 2] 3) (List.mem_cons_of_mem _ (List.mem_cons_of_mem _ (List.mem_cons_of_mem _ (List.mem_cons_self ..))))) (.cons rfl (.cons rfl .nil)) rfl (by simp [maxLen]))⟩ .nil)))) rfl (by simp [maxLen])) (Au.AG (Ak (Ae _)) (vss := [[.slice (some ⟨ao, 0, none⟩) 4 4], [.slice (some ⟨aq, 0, none⟩) 4 4]]) (xs := ([[0, 0, 2, 1], [0, 0, 2, 0]] : List (List Int))) (h3 (bl, ce #[.slice (some ⟨ao, 0, none⟩) 4 4, .slice (some ⟨aq, 0, none⟩) 4 4] 36) (List.mem_cons_of_mem _ (List.mem_cons_of_mem _ (List.mem_cons_of_mem _ (List.mem_cons_of_mem _ (List.mem_cons_self ..)))))) (.cons ⟨_, _, rfl, (Au.AG (Ae _) (vss := [[.int .i64 0], [.int .i64 0], [.int .i64 2], [.int .i64 1]]) (xs := ([0, 0, 2, 1] : List Int)) (h3 (ao, ce #[.int .i64 0, .int .i64 0, .int .i64 2, .int .i64 1] 35) (List.mem_cons_of_mem _ (List.mem_cons_of_mem _ (List.mem_cons_of_mem _ (List.mem_cons_of_mem _ (List.mem_cons_of_mem _ (List.mem_cons_self ..))))))) (.cons rfl (.cons rfl (.cons rfl (.cons rfl .nil)))) rfl (by simp [maxLen]))⟩ (.cons ⟨_, _, rfl, (Au.AG (Ae _) (vss := [[.int .i64 0], [.int .i64 0], [.int .i64 2], [.int .i64 0]]) (xs := ([0, 0, 2, 0] : List Int)) (h3 (aq, ce #[.int .i64 0, .int .i64 0, .int .i64 2, .int .i64 0] 35) (List.mem_cons_of_mem _ (List.mem_cons_of_mem _ (List.mem_cons_of_mem _ (List.mem_cons_of_mem _ (List.mem_cons_of_mem _ (List.mem_cons_of_mem _ (List.mem_cons_self ..)))))))) (.cons rfl (.cons rfl (.cons rfl (.cons rfl .nil)))) rfl (by simp [maxLen]))⟩ .nil)) rfl (by simp [maxLen])) h62) (fun _ _ _ _ hq => by obtain ⟨bm, bn, bo, oj, rfl, rfl, en⟩ := hq; exact ⟨_, _, _, _, rfl, rfl, BG.flat en (fun _ _ h => h)⟩) ?_; rintro _ bz _ oo hd67 hn66 ⟨bm, bn, bo, oj, rfl, rfl, en⟩
     replace az := az.mono (Ae _) oo
     have hn74 := OR (Lb' := []) (by rfl) hd67 hn66
     replace en := en.new fun p hp => hn74 p (by simp [hp])
     refine AD (lp (ln (lb (lb (lb (lb (lb (lb (lb (ln rfl)))))))))) (kO (kf (fS fO) (kf (fS fO) (kf (fS fO) (kf (fS fO) (kf (fS fO) (kf (fS fO) (kf (fS fO) (kf (fS fO) (kf (fS fO) (kf (fS fO) (kf (fS fO) (kf (fS fO) kr)))))))))))) ?_)
     refine um (ox rfl rfl rfl (ox rfl rfl rfl (ua (ua (Aa (At ?_))))))
     obtain ⟨table, k3, h77, r78⟩ := A9 r63
     refine AK (fun e1 F1 L1 => ∃ (mu : LH), bz = F1 ∧ L1 = ((ba, ce #[.slice none 0 0, .slice (some ⟨ae, 0, none⟩) 1 1, .slice (some ⟨ai, 0, none⟩) 1 1, .slice (some ⟨ah, 0, none⟩) 2 2] 22) :: ((ae, ce #[.int .i64 0] 3) :: ((ai, ce #[.int .i64 1] 3) :: ((ah, ce #[.int .i64 0, .int .i64 2] 3) :: ((bl, ce #[.slice (some ⟨ao, 0, none⟩) 4 4, .slice (some ⟨aq, 0, none⟩) 4 4] 36) :: ((ao, ce #[.int .i64 0, .int .i64 0, .int .i64 2, .int .i64 1] 35) :: ((aq, ce #[.int .i64 0, .int .i64 0, .int .i64 2, .int .i64 0] 35) :: ((ej, ce #[.int .i64 1] 3) :: ((du, ce #[.int .i64 1, .int .i64 3] 29) :: ((ei, ce #[.int .i64 5] 3) :: ((eh, ce #[.int .i64 1] 3) :: ((eu, ce #[.slice (some ⟨ba, 0, none⟩) 4 4, .slice (some ⟨bl, 0, none⟩) 2 2] 26) :: (bb ++ (mu ++ [])))))))))))))) ∧ e1.sub [(2, .int .i64 x), (3, .int .i64 k2), (4, .pointer (some ⟨eu, 0, none⟩)), (5, .pointer (some ⟨eh, 0, none⟩)), (6, .pointer (some ⟨ei, 0, none⟩)), (7, .slice (some ⟨oh, 0, none⟩) 2 2), (8, .pointer (some ⟨du, 0, none⟩)), (9, .pointer (some ⟨ej, 0, none⟩)), (10, .slice bm bn bo), (23, .slice (some ⟨b1, 0, none⟩) [-2, -1, 0, 1, 2, 3, 4, 5, 6, 7, 8, 15, 16, 63, 64, 99, 100, 9223372036854775807, -9223372036854775808].length 19), (24, .int .i64 19), (25, .int .i64 k), (29, .int .i64 k2), (56, .bool k3)] ∧ BG K.w0.heap.size 22 3 1 (iE .i64) F1 bm bn bo table mu) ?_ ?_
     ·clear r78
      refine An (um ?_)
      refine uv ((AJ underlying23 rfl).i (BG.GN en)) (uv (BH rfl rfl) (um ?_))
      by_cases fg : (l.length : Int) ≠ 2
      ·have r80 := AQ h77 fg
       refine fT fg (fT fg (fT fg (fT fg (fT fg ?_))))
       refine uv (Aw (AS rfl fg) rfl) ?_
       refine um (Ah (b' := true) 50 rfl rfl rfl rfl (Ah (b' := true) 50 rfl rfl rfl rfl (Ah (b' := true) 50 rfl rfl rfl rfl (Ah (b' := true) 50 rfl rfl rfl rfl (Ah (b' := true) 50 rfl rfl rfl rfl ?_)))))
       refine uv (Aw rfl rfl) (Aa ?_)
       obtain ⟨rfl, rfl⟩ := BT r80
       exact mi (kc (kc (kc (kc (kc (kc (kc (kc (kc (kc (kc (kc (kg (fS fP) kr))))))))))))) ⟨oj, rfl, rfl, (sc rfl (sc rfl (sc rfl (sc rfl (sc rfl (sc rfl z8)))))), en⟩
      have r81 := AR h77 fg
      refine nF fg (um (nF fg ?_))
      obtain ⟨x2, g82, mv, r84⟩ := A7 r81
      have hn96 := (BG.Be en).1
      refine Iu (fC (fC (fC (fC (fC (fC (fC (fC (fC (fC (fC (fC fP)))))))))))) en mv ?_; intro hs85 Lo86 Lc87 a88 n89 c90 oq mw mx my ot
      refine kO (kf (fS (fS (fS fO))) (kf (fS (fS (fS fO))) (kf (fS (fS (fS fO))) (kf (fS (fS (fS fO))) (kf (fS (fS (fS fO))) (kf (fS (fS (fS fO))) (kf (fS (fS (fS fO))) (kf (fS (fS (fS fO))) (kf (fS (fS (fS fO))) (kf (fS (fS (fS fO))) (kf (fS (fS (fS fO))) (kf (fS (fS (fS fO))) kr)))))))))))) ?_
      obtain ⟨b98, o99, c100, vs101, ou, ow, hle104, rfl, hl105, oy⟩ := AW.at Cm mx (L := (ba, ce #[.slice none 0 0, .slice (some ⟨ae, 0, none⟩) 1 1, .slice (some ⟨ai, 0, none⟩) 1 1, .slice (some ⟨ah, 0, none⟩) 2 2] 22) :: ((ae, ce #[.int .i64 0] 3) :: ((ai, ce #[.int .i64 1] 3) :: ((ah, ce #[.int .i64 0, .int .i64 2] 3) :: ((bl, ce #[.slice (some ⟨ao, 0, none⟩) 4 4, .slice (some ⟨aq, 0, none⟩) 4 4] 36) :: ((ao, ce #[.int .i64 0, .int .i64 0, .int .i64 2, .int .i64 1] 35) :: ((aq, ce #[.int .i64 0, .int .i64 0, .int .i64 2, .int .i64 0] 35) :: ((ej, ce #[.int .i64 1] 3) :: ((du, ce #[.int .i64 1, .int .i64 3] 29) :: ((ei, ce #[.int .i64 5] 3) :: ((eh, ce #[.int .i64 1] 3) :: ((eu, ce #[.slice (some ⟨ba, 0, none⟩) 4 4, .slice (some ⟨bl, 0, none⟩) 2 2] 26) :: (Lo86 ++ (oq ++ (Lc87 ++ (bb ++ [])))))))))))))))) (fC (fC (fC (fC (fC (fC (fC (fC (fC (fC (fC (fC fP)))))))))))) g82.1 mw
      refine uv (AF underlying23 sizeOf22 rfl ou rfl (K2 hn96 g82)) (nF fg (uv (Ao isAgg22 rfl ow (oy 0 (by decide))) (nF fg (uv ((AJ underlying22 rfl).i (AW.GN my)) (nF fg (uv (BH rfl rfl) (uv (Ar (AM rfl fg) rfl) ?_)))))))
      refine um ?_
      by_cases ca : (x2.length : Int) ≠ 16
      ·have r108 := AQ r84 ca
       refine fT ca (fT ca (fT ca (fT ca (fT ca ?_))))
       refine uv (Aw (AS rfl ca) rfl) ?_
       refine Bp (p := fun X => BG K.w0.heap.size 22 3 1 (iE .i64) bz bm bn bo l X) (K5.Kj ot mx mw my mv) (pT ((fC (fC (fC (fC (fC (fC (fC (fC (fC (fC (fC (fC fP)))))))))))).trans (pA ((fC (fC (fC (fC (fC (fC (fC (fC (fC (fC (fC (fC fP)))))))))))).trans (pA ((fC (fC (fC (fC (fC (fC (fC (fC (fC (fC (fC (fC fP)))))))))))).trans (pA pR)))))) (lp (lp (lp (ln rfl))))) ?_; intro oz p0
       refine kO (kf (fS fO) (kf (fS fO) (kf (fS fO) (kf (fS fO) (kf (fS fO) (kf (fS fO) (kf (fS fO) (kf (fS fO) (kf (fS fO) (kf (fS fO) (kf (fS fO) (kf (fS fO) kr)))))))))))) (Aa ?_)
       obtain ⟨rfl, rfl⟩ := BT r108
       exact mi (kc (kc (kc (kc (kc (kc (kc (kc (kc (kc (kc (kc (kg (fS fP) kr))))))))))))) ⟨oz, rfl, rfl, (sc rfl (sc rfl (sc rfl (sc rfl (sc rfl (sc rfl z8)))))), p0⟩
      have r111 := AR r84 ca
      refine nF ca (um (nF ca ?_))
      refine Bp (p := fun X => Jn (0 : Int).toNat (a88, n89, c90) x2 K.w0.heap.size 22 3 1 (iE .i64) bz bm bn bo l X) (K5.take ot mx mw mv) (pT ((fC (fC (fC (fC (fC (fC (fC (fC (fC (fC (fC (fC fP)))))))))))).trans (pA ((fC (fC (fC (fC (fC (fC (fC (fC (fC (fC (fC (fC (fS fP))))))))))))).trans (pA pR)))) (lp (lp (ln rfl)))) ?_; intro Lb112 jm
      refine kO (kf (fS fO) (kf (fS fO) (kf (fS fO) (kf (fS fO) (kf (fS fO) (kf (fS fO) (kf (fS fO) (kf (fS fO) (kf (fS fO) (kf (fS fO) (kf (fS fO) (kf (fS fO) kr)))))))))))) ?_
      obtain ⟨x3, mz, jn, r116⟩ := A7 r111
      obtain ⟨g117, r118⟩ := AX r116
      have p3 := QL mz g82 g117
      have p4 := (Jn.Be jm).1
      refine PG (fC (fC (fC (fC (fC (fC (fC (fC (fC (fC (fC (fC fP)))))))))))) jm p3 jn ?_; intro hs120 p5 p6 a123 n124 c125 p7 jo jq jr p8
      refine kO (kf (fS (fS (fS fO))) (kf (fS (fS (fS fO))) (kf (fS (fS (fS fO))) (kf (fS (fS (fS fO))) (kf (fS (fS (fS fO))) (kf (fS (fS (fS fO))) (kf (fS (fS (fS fO))) (kf (fS (fS (fS fO))) (kf (fS (fS (fS fO))) (kf (fS (fS (fS fO))) (kf (fS (fS (fS fO))) (kf (fS (fS (fS fO))) kr)))))))))))) ?_
      obtain ⟨b133, o134, c135, vs136, p9, pa, hle139, rfl, hl140, pb⟩ := AW.at Cm jq (L := (ba, ce #[.slice none 0 0, .slice (some ⟨ae, 0, none⟩) 1 1, .slice (some ⟨ai, 0, none⟩) 1 1, .slice (some ⟨ah, 0, none⟩) 2 2] 22) :: ((ae, ce #[.int .i64 0] 3) :: ((ai, ce #[.int .i64 1] 3) :: ((ah, ce #[.int .i64 0, .int .i64 2] 3) :: ((bl, ce #[.slice (some ⟨ao, 0, none⟩) 4 4, .slice (some ⟨aq, 0, none⟩) 4 4] 36) :: ((ao, ce #[.int .i64 0, .int .i64 0, .int .i64 2, .int .i64 1] 35) :: ((aq, ce #[.int .i64 0, .int .i64 0, .int .i64 2, .int .i64 0] 35) :: ((ej, ce #[.int .i64 1] 3) :: ((du, ce #[.int .i64 1, .int .i64 3] 29) :: ((ei, ce #[.int .i64 5] 3) :: ((eh, ce #[.int .i64 1] 3) :: ((eu, ce #[.slice (some ⟨ba, 0, none⟩) 4 4, .slice (some ⟨bl, 0, none⟩) 2 2] 26) :: (p5 ++ (p7 ++ (p6 ++ (oq ++ (bb ++ []))))))))))))))))) (fC (fC (fC (fC (fC (fC (fC (fC (fC (fC (fC (fC fP)))))))))))) mz.1 jo
      refine uv (AF underlying23 sizeOf22 rfl p9 rfl (K2 p4 mz)) (nF ca (uv (Ao isAgg22 rfl pa (pb 0 (by decide))) (nF ca (uv ((AJ underlying22 rfl).i (AW.GN jr)) (nF ca (uv (BH rfl rfl) (uv (Ar (AM rfl ca) rfl) ?_)))))))
      refine Bp (p := fun X => Jn (0 : Int).toNat (a88, n89, c90) x2 K.w0.heap.size 22 3 1 (iE .i64) bz bm bn bo l X) (MW.Kj p8 jq jo jr jn) (pT ((fC (fC (fC (fC (fC (fC (fC (fC (fC (fC (fC (fC fP)))))))))))).trans (pA ((fC (fC (fC (fC (fC (fC (fC (fC (fC (fC (fC (fC fP)))))))))))).trans (pA ((fC (fC (fC (fC (fC (fC (fC (fC (fC (fC (fC (fC fP)))))))))))).trans (pA pR)))))) (lp (lp (lp (ln rfl))))) ?_; intro Lb142 pd
      refine kO (kf (fS fO) (kf (fS fO) (kf (fS fO) (kf (fS fO) (kf (fS fO) (kf (fS fO) (kf (fS fO) (kf (fS fO) (kf (fS fO) (kf (fS fO) (kf (fS fO) (kf (fS fO) kr)))))))))))) ?_
      refine Bp (p := fun X => BG K.w0.heap.size 22 3 1 (iE .i64) bz bm bn bo l X) (Jn.Nl pd my) (pT ((fC (fC (fC (fC (fC (fC (fC (fC (fC (fC (fC (fC fP)))))))))))).trans (pA ((fC (fC (fC (fC (fC (fC (fC (fC (fC (fC (fC (fC fP)))))))))))).trans (pA pR)))) (lp (lp (ln rfl)))) ?_; intro pe pf
      refine kO (kf (fS fO) (kf (fS fO) (kf (fS fO) (kf (fS fO) (kf (fS fO) (kf (fS fO) (kf (fS fO) (kf (fS fO) (kf (fS fO) (kf (fS fO) (kf (fS fO) (kf (fS fO) kr)))))))))))) (Aa ?_)
      obtain ⟨rfl, rfl⟩ := BT r118
      exact mi (kc (kc (kc (kc (kc (kc (kc (kc (kc (kc (kc (kc (kg (fS fP) kr))))))))))))) ⟨pe, rfl, rfl, (sc rfl (sc rfl (sc rfl (sc rfl (sc rfl (sc rfl z8)))))), pf⟩
     rintro e1 _ _ ⟨mu, rfl, rfl, pg, hz76⟩
     refine Az _ pg ?_
     refine AT rfl (fun na => ?_) (fun na => ?_)
     ·have r148 := bt r78 na
      refine AI (ua (Aa ?_))
      refine kW kn ?_
      refine As (Al (Ay (Al (Al (Ay (Ay (Al (Al (Ay ?_)))))))))
      refine Al (BD results3 ?_)
      obtain rfl := AH r148
      exact rfl
     have r149 := bf r78 na
     refine Aq (At ?_)
     obtain ⟨x4, nc, js, r152⟩ := A7 r149
     refine Kw (fC (fC (fC (fC (fC (fC (fC (fC (fC (fC (fC (fC (fS fP))))))))))))) hz76 js ?_; intro hs153 Lo154 Lc155 dd de df ph pj pk ar pn
     refine kW (kf (fS (fS (fS fO))) (kf (fS (fS (fS fO))) (kf (fS (fS (fS fO))) (kf (fS (fS (fS fO))) (kf (fS (fS (fS fO))) (kf (fS (fS (fS fO))) (kf (fS (fS (fS fO))) (kf (fS (fS (fS fO))) (kf (fS (fS (fS fO))) (kf (fS (fS (fS fO))) (kf (fS (fS (fS fO))) (kf (fS (fS (fS fO))) kr)))))))))))) ?_
     refine P7 (p := fun X => Jn (0 : Int).toNat (dd, de, df) x4 K.w0.heap.size 22 3 1 (iE .i64) bz bm bn bo table X) (K5.take pn pk pj js) (pT ((fC (fC (fC (fC (fC (fC (fC (fC (fC (fC (fC (fC fP)))))))))))).trans (pA ((fC (fC (fC (fC (fC (fC (fC (fC (fC (fC (fC (fC (fS fP))))))))))))).trans (pA pR)))) (lp (lp (ln rfl)))) ?_; intro Lb166 jt
     refine kW (kf (fS fO) (kf (fS fO) (kf (fS fO) (kf (fS fO) (kf (fS fO) (kf (fS fO) (kf (fS fO) (kf (fS fO) (kf (fS fO) (kf (fS fO) (kf (fS fO) (kf (fS fO) kr)))))))))))) ?_
     obtain ⟨x5, nf, bc, r170⟩ := A7 r152
     obtain ⟨g171, r172⟩ := AX r170
     have po := QL nf nc g171
     have ju := (Jn.Be jt).1
     refine PX (fC (fC (fC (fC (fC (fC (fC (fC (fC (fC (fC (fC fP)))))))))))) jt po bc ?_; intro hs174 fh Lc176 a177 n178 c179 pq ax au av ay
     refine kW (kf (fS (fS (fS fO))) (kf (fS (fS (fS fO))) (kf (fS (fS (fS fO))) (kf (fS (fS (fS fO))) (kf (fS (fS (fS fO))) (kf (fS (fS (fS fO))) (kf (fS (fS (fS fO))) (kf (fS (fS (fS fO))) (kf (fS (fS (fS fO))) (kf (fS (fS (fS fO))) (kf (fS (fS (fS fO))) (kf (fS (fS (fS fO))) kr)))))))))))) (Bd [(.still, 0), (.still, 1), (.still, 2), (.still, 3), (.still, 4), (.still, 5), (.still, 6), (.still, 7), (.still, 8), (.still, 9), (.still, 10), (.still, 11), (.still, 12), (.still, 13), (.still, 14), (.still, 15), (.still, 16), (.still, 17), (.still, 18), (.still, 19), (.still, 20), (.still, 21), (.still, 22), (.still, 23), (.seq, 24), (.still, 25)] (by kernel_rfl) (by kernel_rfl) (trivial) (by rfl) (by kernel_rfl) (mS [4] rfl (Av Cy rfl) (mL [57] ([(eu, ce #[.slice (some ⟨ba, 0, none⟩) 4 4, .slice (some ⟨bl, 0, none⟩) 2 2] 26)]) rfl (s0 (s1 (s1 (s1 (s1 (s1 (s1 (s1 (s1 (s1 (s1 (s1 (s2 (s3 (s3 (s3 (s3 (s3 sr)))))))))))))))))) (fun H F' L' gj gk => Ao isAgg23 rfl ((Has.own 0 rfl).ext gj gk) rfl) (mS (v := .pointer (some ⟨ba, 1, none⟩)) [58] rfl (FM.eq (CU (i := 1) underlying23 sizeOf22 rfl rfl (by decide)) rfl) (mL [59] ([(ba, ce #[.slice none 0 0, .slice (some ⟨ae, 0, none⟩) 1 1, .slice (some ⟨ai, 0, none⟩) 1 1, .slice (some ⟨ah, 0, none⟩) 2 2] 22)]) rfl (s0 (s2 (s1 (s1 (s1 (s1 (s1 (s1 (s1 (s1 (s1 (s1 (s1 (s3 (s3 (s3 (s3 (s3 sr)))))))))))))))))) (fun H F' L' gj gk => Ao isAgg22 rfl ((Has.own 0 rfl).ext gj gk) rfl) (mS (v := .pointer (some ⟨ae, 0, none⟩)) [60] rfl (FM.eq (CU (i := 0) underlying22 sizeOf3 rfl rfl (by decide)) rfl) (mS [4] rfl (Av Cy rfl) ?_)))))))
     refine mL [62] ([(eu, ce #[.slice (some ⟨ba, 0, none⟩) 4 4, .slice (some ⟨bl, 0, none⟩) 2 2] 26)]) rfl (s0 (s1 (s1 (s1 (s1 (s1 (s1 (s1 (s1 (s1 (s1 (s1 (s2 (s3 (s3 (s3 (s3 (s3 sr)))))))))))))))))) (fun H F' L' gj gk => Ao isAgg23 rfl ((Has.own 0 rfl).ext gj gk) rfl) (mS (v := .pointer (some ⟨ba, 3, none⟩)) [63] rfl (FM.eq (CU (i := 3) underlying23 sizeOf22 rfl rfl (by decide)) rfl) (mL [64] ([(ba, ce #[.slice none 0 0, .slice (some ⟨ae, 0, none⟩) 1 1, .slice (some ⟨ai, 0, none⟩) 1 1, .slice (some ⟨ah, 0, none⟩) 2 2] 22)]) rfl (s0 (s2 (s1 (s1 (s1 (s1 (s1 (s1 (s1 (s1 (s1 (s1 (s1 (s3 (s3 (s3 (s3 (s3 sr)))))))))))))))))) (fun H F' L' gj gk => Ao isAgg22 rfl ((Has.own 0 rfl).ext gj gk) rfl) (mS (v := .pointer (some ⟨ah, 1, none⟩)) [65] rfl (FM.eq (CU (i := 1) underlying22 sizeOf3 rfl rfl (by decide)) rfl) (mS [7] rfl (Bj rfl) ?_))))
     obtain ⟨x6, ng, pr, r189⟩ := A7 r172
     obtain ⟨nh, ni, c192, vs193, jv, hs195, hle196, rfl, hl197, hc198⟩ := AW.at (Ae _) az (L := bb ++ []) fP ng.1 pr
     refine mS [67] rfl (AF underlying22 sizeOf3 rfl jv rfl (AW.idx az ng)) (mS [7] rfl (Bj rfl) ?_)
     obtain ⟨x7, nj, pt, r201⟩ := A7 r189
     obtain ⟨nk, np, c204, vs205, jw, hs207, hle208, rfl, hl209, hc210⟩ := AW.at (Ae _) az (L := bb ++ []) fP nj.1 pt
     refine mS [69] rfl (AF underlying22 sizeOf3 rfl jw rfl (AW.idx az nj)) (mS [8] rfl (Av GU rfl) (mS [8] rfl (Av Hm rfl) (mS [10] rfl (Bj rfl) ?_)))
     obtain ⟨b211, o212, c213, vs214, pv, pw, hle217, rfl, hl218, px⟩ := AW.at Cm au (L := fh ++ []) fP nc.1 ay.2.1
     refine mS [73] rfl (AF underlying23 sizeOf22 rfl pv rfl (K2 ju nc)) (mL [74] (fh ++ []) rfl (s0 (s1 (s1 (s1 (s1 (s1 (s1 (s1 (s1 (s1 (s1 (s1 (s1 (s4 (s3 (s3 (s3 (s3 sr)))))))))))))))))) (fun H F' L' gj gk => Ao isAgg22 rfl (pw.ext gj gk) (px 0 (by decide))) ?_)
     obtain ⟨x8, nq, py, r222⟩ := A7 r201
     obtain ⟨nr, ns, c225, vs226, jx, hs228, hle229, rfl, hl230, hc231⟩ := AW.at (Ae _) ar (L := ph ++ []) fP nq.1 py
     refine mS [75] rfl (AF underlying22 sizeOf3 rfl jx rfl (AW.idx ar nq)) (mS [10] rfl (Bj rfl) ?_)
     obtain ⟨b232, o233, c234, vs235, pz, q0, hle238, rfl, hl239, qb⟩ := AW.at Cm au (L := fh ++ []) fP nf.1 ax
     refine mS [77] rfl (AF underlying23 sizeOf22 rfl pz rfl (K2 ju nf)) (mL [78] (fh ++ []) rfl (s0 (s1 (s1 (s1 (s1 (s1 (s1 (s1 (s1 (s1 (s1 (s1 (s1 (s4 (s3 (s3 (s3 (s3 sr)))))))))))))))))) (fun H F' L' gj gk => Ao isAgg22 rfl (q0.ext gj gk) (qb 0 (by decide))) ?_)
     obtain ⟨x9, nt, qc, r243⟩ := A7 r222
     obtain ⟨nu, nv, c246, vs247, jz, hs249, hle250, rfl, hl251, hc252⟩ := AW.at (Ae _) av (L := pq ++ []) fP nt.1 qc
     refine mS [79] rfl (AF underlying22 sizeOf3 rfl jz rfl (AW.idx av nt)) ?_
     refine ⟨_, [(5, .pointer (some ⟨eh, 0, none⟩)), (6, .pointer (some ⟨ei, 0, none⟩)), (9, .pointer (some ⟨ej, 0, none⟩)), (61, .pointer (some ⟨ae, 0, none⟩)), (66, .pointer (some ⟨ah, 1, none⟩)), (68, .pointer (some ⟨nh, ni + (0 : Int).toNat * 1, none⟩)), (70, .pointer (some ⟨nk, np + (1 : Int).toNat * 1, none⟩)), (71, .pointer (some ⟨du, 0, none⟩)), (72, .pointer (some ⟨du, 1, none⟩)), (76, .pointer (some ⟨nr, ns + (2 : Int).toNat * 1, none⟩)), (80, .pointer (some ⟨nu, nv + (8 : Int).toNat * 1, none⟩))], rfl, rfl, (sc rfl (sc rfl (sc rfl z8))), by kernel_rfl, ?_⟩; intro H
     refine bA (cs := #[.pointer (some ⟨ae, 0, none⟩), .pointer (some ⟨ah, 1, none⟩), .pointer (some ⟨eh, 0, none⟩), .pointer (some ⟨ei, 0, none⟩), .pointer (some ⟨nh, ni + (0 : Int).toNat * 1, none⟩), .pointer (some ⟨nk, np + (1 : Int).toNat * 1, none⟩), .pointer (some ⟨du, 0, none⟩), .pointer (some ⟨du, 1, none⟩), .pointer (some ⟨ej, 0, none⟩), .pointer (some ⟨nr, ns + (2 : Int).toNat * 1, none⟩), .pointer (some ⟨nu, nv + (8 : Int).toNat * 1, none⟩)]) QW [.pointer (some ⟨ae, 0, none⟩), .pointer (some ⟨ah, 1, none⟩), .pointer (some ⟨eh, 0, none⟩), .pointer (some ⟨ei, 0, none⟩), .pointer (some ⟨nh, ni + (0 : Int).toNat * 1, none⟩), .pointer (some ⟨nk, np + (1 : Int).toNat * 1, none⟩), .pointer (some ⟨du, 0, none⟩), .pointer (some ⟨du, 1, none⟩), .pointer (some ⟨ej, 0, none⟩), .pointer (some ⟨nr, ns + (2 : Int).toNat * 1, none⟩), .pointer (some ⟨nu, nv + (8 : Int).toNat * 1, none⟩)] ?_; intro dg hb253
     refine Aa ⟨_, rfl, AN.refl _, [], by kernel_rfl, .inl (.inl rfl), nm, ?_⟩
     refine mS [81] rfl (EF rfl) (BC ?_)
     obtain ⟨ab, cx, hour, BO, Bh, cq, dv, Bx, nw, qd, qe⟩ := Rf r243
     refine AK (fun e1 F1 L1 => ∃ (cy : LH) (cz : LH), bz = F1 ∧ L1 = ((ba, ce #[.slice none 0 0, .slice (some ⟨ae, 0, none⟩) 1 1, .slice (some ⟨ai, 0, none⟩) 1 1, .slice (some ⟨ah, 0, none⟩) 2 2] 22) :: ((ae, ce #[.int .i64 ab] 3) :: ((ai, ce #[.int .i64 1] 3) :: ((ah, ce #[.int .i64 0, .int .i64 cx] 3) :: ((bl, ce #[.slice (some ⟨ao, 0, none⟩) 4 4, .slice (some ⟨aq, 0, none⟩) 4 4] 36) :: ((ao, ce #[.int .i64 0, .int .i64 ab, .int .i64 2, .int .i64 1] 35) :: ((aq, ce #[.int .i64 0, .int .i64 0, .int .i64 2, .int .i64 0] 35) :: ((ej, ce #[.int .i64 Bx] 3) :: ((du, ce #[.int .i64 cq, .int .i64 dv] 29) :: ((ei, ce #[.int .i64 BO] 3) :: ((eh, ce #[.int .i64 hour] 3) :: ((eu, ce #[.slice (some ⟨ba, 0, none⟩) 4 4, .slice (some ⟨bl, 0, none⟩) 2 2] 26) :: (cy ++ (cz ++ [])))))))))))))) ∧ e1.sub [(2, .int .i64 x), (4, .pointer (some ⟨eu, 0, none⟩)), (5, .pointer (some ⟨eh, 0, none⟩)), (6, .pointer (some ⟨ei, 0, none⟩)), (7, .slice (some ⟨oh, 0, none⟩) 2 2), (8, .pointer (some ⟨du, 0, none⟩)), (9, .pointer (some ⟨ej, 0, none⟩)), (10, .slice bm bn bo), (23, .slice (some ⟨b1, 0, none⟩) [-2, -1, 0, 1, 2, 3, 4, 5, 6, 7, 8, 15, 16, 63, 64, 99, 100, 9223372036854775807, -9223372036854775808].length 19), (24, .int .i64 19), (25, .int .i64 k), (29, .int .i64 k2)] ∧ AW K.w0.heap.size 3 1 (iE .i64) F1 (some ⟨oh, 0, none⟩) 2 2 Bh cy ∧ BG K.w0.heap.size 22 3 1 (iE .i64) F1 bm bn bo nw cz) ?_ ?_
     ·clear qe
      refine AI (um (um ?_))
      by_cases bp : k2 = 0
      ·have r261 := AQ qd bp
       refine uv (FM.eq (v' := .pointer (some ⟨dg, 0, none⟩)) (CU (i := k2) underlying34 sizeOf33 rfl rfl (by have := bp; omega)) (by rw [bp]; rfl)) ?_
       refine uv (Ao isAgg33 rfl (Has.own 0 rfl) rfl) (um (uv (Bo rfl) (A0 (i := 2) sizeOf3 rfl rfl rfl rfl (A5 rfl) (AD rfl ?_))))
       refine Bp (p := fun X => Jn (0 : Int).toNat (dd, de, df) x4 K.w0.heap.size 22 3 1 (iE .i64) bz bm bn bo table X) (MW.Kj ay au ax av bc) (pT ((fC (fC (fC (fC (fC (fC (fC (fC (fC (fC (fC (fC (fC fP))))))))))))).trans (pA ((fC (fC (fC (fC (fC (fC (fC (fC (fC (fC (fC (fC (fC fP))))))))))))).trans (pA ((fC (fC (fC (fC (fC (fC (fC (fC (fC (fC (fC (fC (fC fP))))))))))))).trans (pA pR)))))) (lp (lp (lp (ln rfl))))) ?_; intro Lb262 qf
       refine kO (kf (fS fO) (kf (fS fO) (kf (fS fO) (kf (fS fO) (kf (fS fO) (kf (fS fO) (kf (fS fO) (kf (fS fO) (kf (fS fO) (kf (fS fO) (kf (fS fO) (kf (fS fO) (kf (fS fO) kr))))))))))))) ?_
       refine Bp (p := fun X => BG K.w0.heap.size 22 3 1 (iE .i64) bz bm bn bo table X) (Jn.Nl qf ar) (pT ((fC (fC (fC (fC (fC (fC (fC (fC (fC (fC (fC (fC (fC fP))))))))))))).trans (pA ((fC (fC (fC (fC (fC (fC (fC (fC (fC (fC (fC (fC (fC fP))))))))))))).trans (pA pR)))) (lp (lp (ln rfl)))) ?_; intro qg qh
       refine kO (kf (fS fO) (kf (fS fO) (kf (fS fO) (kf (fS fO) (kf (fS fO) (kf (fS fO) (kf (fS fO) (kf (fS fO) (kf (fS fO) (kf (fS fO) (kf (fS fO) (kf (fS fO) (kf (fS fO) kr))))))))))))) ?_
       refine BI (um ?_)
       refine uv (Bb rfl rfl) (Aa ?_)
       refine EP rfl (fun qi => ?_) (fun qi => absurd bp qi)
       refine An (uv (Av Bz rfl) (uv (Ao isAgg24 rfl (Has.own 12 rfl) rfl) (uv (FM.eq (CU (i := 0) underlying24 sizeOf36 rfl rfl (by decide)) rfl) (uv (Ao isAgg36 rfl (Has.own 5 rfl) rfl) (um (uv (FM.eq (CU (i := 1) underlying36 sizeOf35 rfl rfl (by decide)) rfl) (A0 (i := 6) sizeOf35 rfl rfl rfl rfl (A5 rfl) ?_)))))))
       refine AD rfl (Aa ?_)
       obtain ⟨rfl, rfl, rfl, rfl, rfl, rfl, rfl, rfl, rfl⟩ := Nx r261
       exact mi (kd (kc (kc (kc (kc (kc (kc (kc (kc (kc (kc (kc (kc (kg (fS fP) kr)))))))))))))) ⟨bb, qg, rfl, rfl, (sc rfl (sc rfl (sc rfl (sc rfl z8)))), az, qh⟩
      have qj := AR qd bp
      by_cases ik : k2 = 1
      ·have r269 := AQ qj ik
       refine uv (FM.eq (v' := .pointer (some ⟨dg, 1, none⟩)) (CU (i := k2) underlying34 sizeOf33 rfl rfl (by have := ik; omega)) (by rw [ik]; rfl)) ?_
       refine uv (Ao isAgg33 rfl (Has.own 0 rfl) rfl) (um (uv (Bo rfl) (A0 (i := 4) sizeOf3 rfl rfl rfl rfl (A5 rfl) (AD rfl ?_))))
       refine Bp (p := fun X => Jn (0 : Int).toNat (dd, de, df) x4 K.w0.heap.size 22 3 1 (iE .i64) bz bm bn bo table X) (MW.Kj ay au ax av bc) (pT ((fC (fC (fC (fC (fC (fC (fC (fC (fC (fC (fC (fC (fC fP))))))))))))).trans (pA ((fC (fC (fC (fC (fC (fC (fC (fC (fC (fC (fC (fC (fC fP))))))))))))).trans (pA ((fC (fC (fC (fC (fC (fC (fC (fC (fC (fC (fC (fC (fC fP))))))))))))).trans (pA pR)))))) (lp (lp (lp (ln rfl))))) ?_; intro Lb270 qk
       refine kO (kf (fS fO) (kf (fS fO) (kf (fS fO) (kf (fS fO) (kf (fS fO) (kf (fS fO) (kf (fS fO) (kf (fS fO) (kf (fS fO) (kf (fS fO) (kf (fS fO) (kf (fS fO) (kf (fS fO) kr))))))))))))) ?_
       refine Bp (p := fun X => BG K.w0.heap.size 22 3 1 (iE .i64) bz bm bn bo table X) (Jn.Nl qk ar) (pT ((fC (fC (fC (fC (fC (fC (fC (fC (fC (fC (fC (fC (fC fP))))))))))))).trans (pA ((fC (fC (fC (fC (fC (fC (fC (fC (fC (fC (fC (fC (fC fP))))))))))))).trans (pA pR)))) (lp (lp (ln rfl)))) ?_; intro ql qn
       refine kO (kf (fS fO) (kf (fS fO) (kf (fS fO) (kf (fS fO) (kf (fS fO) (kf (fS fO) (kf (fS fO) (kf (fS fO) (kf (fS fO) (kf (fS fO) (kf (fS fO) (kf (fS fO) (kf (fS fO) kr))))))))))))) ?_
       refine BI (um ?_)
       refine uv (Bb rfl rfl) (Aa ?_)
       refine EP rfl (fun qo => absurd qo bp) (fun qo => ?_)
       refine Aq ?_
       obtain ⟨rfl, rfl, rfl, rfl, rfl, rfl, rfl, rfl, rfl⟩ := Nx r269
       exact mi (kd (kc (kc (kc (kc (kc (kc (kc (kc (kc (kc (kc (kc (kg (fS fP) kr)))))))))))))) ⟨bb, ql, rfl, rfl, (sc rfl (sc rfl (sc rfl (sc rfl z8)))), az, qn⟩
      have qp := AR qj ik
      by_cases il : k2 = 2
      ·have r277 := AQ qp il
       refine uv (FM.eq (v' := .pointer (some ⟨dg, 2, none⟩)) (CU (i := k2) underlying34 sizeOf33 rfl rfl (by have := il; omega)) (by rw [il]; rfl)) ?_
       refine uv (Ao isAgg33 rfl (Has.own 0 rfl) rfl) (um (uv (Bo rfl) (A0 (i := 11) sizeOf3 rfl rfl rfl rfl (A5 rfl) (AD rfl ?_))))
       refine Bp (p := fun X => Jn (0 : Int).toNat (dd, de, df) x4 K.w0.heap.size 22 3 1 (iE .i64) bz bm bn bo table X) (MW.Kj ay au ax av bc) (pT ((fC (fC (fC (fC (fC (fC (fC (fC (fC (fC (fC (fC (fC fP))))))))))))).trans (pA ((fC (fC (fC (fC (fC (fC (fC (fC (fC (fC (fC (fC (fC fP))))))))))))).trans (pA ((fC (fC (fC (fC (fC (fC (fC (fC (fC (fC (fC (fC (fC fP))))))))))))).trans (pA pR)))))) (lp (lp (lp (ln rfl))))) ?_; intro Lb278 qq
       refine kO (kf (fS fO) (kf (fS fO) (kf (fS fO) (kf (fS fO) (kf (fS fO) (kf (fS fO) (kf (fS fO) (kf (fS fO) (kf (fS fO) (kf (fS fO) (kf (fS fO) (kf (fS fO) (kf (fS fO) kr))))))))))))) ?_
       refine Bp (p := fun X => BG K.w0.heap.size 22 3 1 (iE .i64) bz bm bn bo table X) (Jn.Nl qq ar) (pT ((fC (fC (fC (fC (fC (fC (fC (fC (fC (fC (fC (fC (fC fP))))))))))))).trans (pA ((fC (fC (fC (fC (fC (fC (fC (fC (fC (fC (fC (fC (fC fP))))))))))))).trans (pA pR)))) (lp (lp (ln rfl)))) ?_; intro qs qt
       refine kO (kf (fS fO) (kf (fS fO) (kf (fS fO) (kf (fS fO) (kf (fS fO) (kf (fS fO) (kf (fS fO) (kf (fS fO) (kf (fS fO) (kf (fS fO) (kf (fS fO) (kf (fS fO) (kf (fS fO) kr))))))))))))) ?_
       refine BI (um ?_)
       refine uv (Bb rfl rfl) (Aa ?_)
       refine EP rfl (fun qu => absurd qu bp) (fun qu => ?_)
       refine Aq ?_
       obtain ⟨rfl, rfl, rfl, rfl, rfl, rfl, rfl, rfl, rfl⟩ := Nx r277
       exact mi (kd (kc (kc (kc (kc (kc (kc (kc (kc (kc (kc (kc (kc (kg (fS fP) kr)))))))))))))) ⟨bb, qs, rfl, rfl, (sc rfl (sc rfl (sc rfl (sc rfl z8)))), az, qt⟩
      have qw := AR qp il
      by_cases im : k2 = 3
      ·have r285 := AQ qw im
       refine uv (FM.eq (v' := .pointer (some ⟨dg, 3, none⟩)) (CU (i := k2) underlying34 sizeOf33 rfl rfl (by have := im; omega)) (by rw [im]; rfl)) ?_
       refine uv (Ao isAgg33 rfl (Has.own 0 rfl) rfl) (um (uv (Bo rfl) (A0 (i := 10) sizeOf3 rfl rfl rfl rfl (A5 rfl) (AD rfl ?_))))
       refine Bp (p := fun X => Jn (0 : Int).toNat (dd, de, df) x4 K.w0.heap.size 22 3 1 (iE .i64) bz bm bn bo table X) (MW.Kj ay au ax av bc) (pT ((fC (fC (fC (fC (fC (fC (fC (fC (fC (fC (fC (fC (fC fP))))))))))))).trans (pA ((fC (fC (fC (fC (fC (fC (fC (fC (fC (fC (fC (fC (fC fP))))))))))))).trans (pA ((fC (fC (fC (fC (fC (fC (fC (fC (fC (fC (fC (fC (fC fP))))))))))))).trans (pA pR)))))) (lp (lp (lp (ln rfl))))) ?_; intro Lb286 qx
       refine kO (kf (fS fO) (kf (fS fO) (kf (fS fO) (kf (fS fO) (kf (fS fO) (kf (fS fO) (kf (fS fO) (kf (fS fO) (kf (fS fO) (kf (fS fO) (kf (fS fO) (kf (fS fO) (kf (fS fO) kr))))))))))))) ?_
       refine Bp (p := fun X => BG K.w0.heap.size 22 3 1 (iE .i64) bz bm bn bo table X) (Jn.Nl qx ar) (pT ((fC (fC (fC (fC (fC (fC (fC (fC (fC (fC (fC (fC (fC fP))))))))))))).trans (pA ((fC (fC (fC (fC (fC (fC (fC (fC (fC (fC (fC (fC (fC fP))))))))))))).trans (pA pR)))) (lp (lp (ln rfl)))) ?_; intro qy qz
       refine kO (kf (fS fO) (kf (fS fO) (kf (fS fO) (kf (fS fO) (kf (fS fO) (kf (fS fO) (kf (fS fO) (kf (fS fO) (kf (fS fO) (kf (fS fO) (kf (fS fO) (kf (fS fO) (kf (fS fO) kr))))))))))))) ?_
       refine BI (um ?_)
       refine uv (Bb rfl rfl) (Aa ?_)
       refine EP rfl (fun rb => absurd rb bp) (fun rb => ?_)
       refine Aq ?_
       obtain ⟨rfl, rfl, rfl, rfl, rfl, rfl, rfl, rfl, rfl⟩ := Nx r285
       exact mi (kd (kc (kc (kc (kc (kc (kc (kc (kc (kc (kc (kc (kc (kg (fS fP) kr)))))))))))))) ⟨bb, qy, rfl, rfl, (sc rfl (sc rfl (sc rfl (sc rfl z8)))), az, qz⟩
      have re := AR qw im
      by_cases iq : k2 = 4
      ·have r293 := AQ re iq
       refine uv (FM.eq (v' := .pointer (some ⟨dg, 4, none⟩)) (CU (i := k2) underlying34 sizeOf33 rfl rfl (by have := iq; omega)) (by rw [iq]; rfl)) ?_
       refine uv (Ao isAgg33 rfl (Has.own 0 rfl) rfl) (um (uv (Bo rfl) ?_))
       obtain ⟨nights2, h294, r295⟩ := BS r293
       refine CQ (u := x) sizeOf3 (Ae _) rfl jv rfl rfl (fun _ => .c (.c (.c (.c (.c (.c (.c (.c (.c (.c (.c (.c (.c (.s (.s (.s (.s .h))))))))))))))))) az h294 ng ?_; intro rf rh
       refine Bp (p := fun X => Jn (0 : Int).toNat (dd, de, df) x4 K.w0.heap.size 22 3 1 (iE .i64) bz bm bn bo table X) (MW.Kj ay au ax av bc) (pT ((fC (fC (fC (fC (fC (fC (fC (fC (fC (fC (fC (fC (fC fP))))))))))))).trans (pA ((fC (fC (fC (fC (fC (fC (fC (fC (fC (fC (fC (fC (fC fP))))))))))))).trans (pA ((fC (fC (fC (fC (fC (fC (fC (fC (fC (fC (fC (fC (fC fP))))))))))))).trans (pA pR)))))) (lp (lp (lp (ln rfl))))) ?_; intro Lb298 ri
       refine kO (kf (fS fO) (kf (fS fO) (kf (fS fO) (kf (fS fO) (kf (fS fO) (kf (fS fO) (kf (fS fO) (kf (fS fO) (kf (fS fO) (kf (fS fO) (kf (fS fO) (kf (fS fO) (kf (fS fO) kr))))))))))))) ?_
       refine Bp (p := fun X => BG K.w0.heap.size 22 3 1 (iE .i64) bz bm bn bo table X) (Jn.Nl ri ar) (pT ((fC (fC (fC (fC (fC (fC (fC (fC (fC (fC (fC (fC (fC fP))))))))))))).trans (pA ((fC (fC (fC (fC (fC (fC (fC (fC (fC (fC (fC (fC (fC fP))))))))))))).trans (pA pR)))) (lp (lp (ln rfl)))) ?_; intro rj rk
       refine kO (kf (fS fO) (kf (fS fO) (kf (fS fO) (kf (fS fO) (kf (fS fO) (kf (fS fO) (kf (fS fO) (kf (fS fO) (kf (fS fO) (kf (fS fO) (kf (fS fO) (kf (fS fO) (kf (fS fO) kr))))))))))))) ?_
       refine BI (um ?_)
       refine uv (Bb rfl rfl) (Aa ?_)
       refine EP rfl (fun rl => absurd rl bp) (fun rl => ?_)
       refine Aq ?_
       obtain ⟨rfl, rfl, rfl, rfl, rfl, rfl, rfl, rfl, rfl⟩ := Nx r295
       exact mi (kd (kc (kc (kc (kc (kc (kc (kc (kc (kc (kc (kc (kc (kg (fS fP) kr)))))))))))))) ⟨rf, rj, rfl, rfl, (sc rfl (sc rfl (sc rfl (sc rfl z8)))), rh, rk⟩
      have rm := AR re iq
      by_cases ir : k2 = 5
      ·have r305 := AQ rm ir
       refine uv (FM.eq (v' := .pointer (some ⟨dg, 5, none⟩)) (CU (i := k2) underlying34 sizeOf33 rfl rfl (by have := ir; omega)) (by rw [ir]; rfl)) ?_
       refine uv (Ao isAgg33 rfl (Has.own 0 rfl) rfl) (um (uv (Bo rfl) ?_))
       obtain ⟨nights3, h306, r307⟩ := BS r305
       refine CQ (u := x) sizeOf3 (Ae _) rfl jw rfl rfl (fun _ => .c (.c (.c (.c (.c (.c (.c (.c (.c (.c (.c (.c (.c (.s (.s (.s (.s .h))))))))))))))))) az h306 nj ?_; intro rp rq
       refine Bp (p := fun X => Jn (0 : Int).toNat (dd, de, df) x4 K.w0.heap.size 22 3 1 (iE .i64) bz bm bn bo table X) (MW.Kj ay au ax av bc) (pT ((fC (fC (fC (fC (fC (fC (fC (fC (fC (fC (fC (fC (fC fP))))))))))))).trans (pA ((fC (fC (fC (fC (fC (fC (fC (fC (fC (fC (fC (fC (fC fP))))))))))))).trans (pA ((fC (fC (fC (fC (fC (fC (fC (fC (fC (fC (fC (fC (fC fP))))))))))))).trans (pA pR)))))) (lp (lp (lp (ln rfl))))) ?_; intro Lb310 rr
       refine kO (kf (fS fO) (kf (fS fO) (kf (fS fO) (kf (fS fO) (kf (fS fO) (kf (fS fO) (kf (fS fO) (kf (fS fO) (kf (fS fO) (kf (fS fO) (kf (fS fO) (kf (fS fO) (kf (fS fO) kr))))))))))))) ?_
       refine Bp (p := fun X => BG K.w0.heap.size 22 3 1 (iE .i64) bz bm bn bo table X) (Jn.Nl rr ar) (pT ((fC (fC (fC (fC (fC (fC (fC (fC (fC (fC (fC (fC (fC fP))))))))))))).trans (pA ((fC (fC (fC (fC (fC (fC (fC (fC (fC (fC (fC (fC (fC fP))))))))))))).trans (pA pR)))) (lp (lp (ln rfl)))) ?_; intro ru ry
       refine kO (kf (fS fO) (kf (fS fO) (kf (fS fO) (kf (fS fO) (kf (fS fO) (kf (fS fO) (kf (fS fO) (kf (fS fO) (kf (fS fO) (kf (fS fO) (kf (fS fO) (kf (fS fO) (kf (fS fO) kr))))))))))))) ?_
       refine BI (um ?_)
       refine uv (Bb rfl rfl) (Aa ?_)
       refine EP rfl (fun rz => absurd rz bp) (fun rz => ?_)
       refine Aq ?_
       obtain ⟨rfl, rfl, rfl, rfl, rfl, rfl, rfl, rfl, rfl⟩ := Nx r307
       exact mi (kd (kc (kc (kc (kc (kc (kc (kc (kc (kc (kc (kc (kc (kg (fS fP) kr)))))))))))))) ⟨rp, ru, rfl, rfl, (sc rfl (sc rfl (sc rfl (sc rfl z8)))), rq, ry⟩
      have s5 := AR rm ir
      by_cases iu : k2 = 6
      ·have r317 := AQ s5 iu
       refine uv (FM.eq (v' := .pointer (some ⟨dg, 6, none⟩)) (CU (i := k2) underlying34 sizeOf33 rfl rfl (by have := iu; omega)) (by rw [iu]; rfl)) ?_
       refine uv (Ao isAgg33 rfl (Has.own 0 rfl) rfl) (um (uv (Bo rfl) (A0 (i := 9) sizeOf3 rfl rfl rfl rfl (A5 rfl) (AD rfl ?_))))
       refine Bp (p := fun X => Jn (0 : Int).toNat (dd, de, df) x4 K.w0.heap.size 22 3 1 (iE .i64) bz bm bn bo table X) (MW.Kj ay au ax av bc) (pT ((fC (fC (fC (fC (fC (fC (fC (fC (fC (fC (fC (fC (fC fP))))))))))))).trans (pA ((fC (fC (fC (fC (fC (fC (fC (fC (fC (fC (fC (fC (fC fP))))))))))))).trans (pA ((fC (fC (fC (fC (fC (fC (fC (fC (fC (fC (fC (fC (fC fP))))))))))))).trans (pA pR)))))) (lp (lp (lp (ln rfl))))) ?_; intro Lb318 s6
       refine kO (kf (fS fO) (kf (fS fO) (kf (fS fO) (kf (fS fO) (kf (fS fO) (kf (fS fO) (kf (fS fO) (kf (fS fO) (kf (fS fO) (kf (fS fO) (kf (fS fO) (kf (fS fO) (kf (fS fO) kr))))))))))))) ?_
       refine Bp (p := fun X => BG K.w0.heap.size 22 3 1 (iE .i64) bz bm bn bo table X) (Jn.Nl s6 ar) (pT ((fC (fC (fC (fC (fC (fC (fC (fC (fC (fC (fC (fC (fC fP))))))))))))).trans (pA ((fC (fC (fC (fC (fC (fC (fC (fC (fC (fC (fC (fC (fC fP))))))))))))).trans (pA pR)))) (lp (lp (ln rfl)))) ?_; intro s7 s8
       refine kO (kf (fS fO) (kf (fS fO) (kf (fS fO) (kf (fS fO) (kf (fS fO) (kf (fS fO) (kf (fS fO) (kf (fS fO) (kf (fS fO) (kf (fS fO) (kf (fS fO) (kf (fS fO) (kf (fS fO) kr))))))))))))) ?_
       refine BI (um ?_)
       refine uv (Bb rfl rfl) (Aa ?_)
       refine EP rfl (fun s9 => absurd s9 bp) (fun s9 => ?_)
       refine Aq ?_
       obtain ⟨rfl, rfl, rfl, rfl, rfl, rfl, rfl, rfl, rfl⟩ := Nx r317
       exact mi (kd (kc (kc (kc (kc (kc (kc (kc (kc (kc (kc (kc (kc (kg (fS fP) kr)))))))))))))) ⟨bb, s7, rfl, rfl, (sc rfl (sc rfl (sc rfl (sc rfl z8)))), az, s8⟩
      have sa := AR s5 iu
      by_cases iv : k2 = 7
      ·have r325 := AQ sa iv
       refine uv (FM.eq (v' := .pointer (some ⟨dg, 7, none⟩)) (CU (i := k2) underlying34 sizeOf33 rfl rfl (by have := iv; omega)) (by rw [iv]; rfl)) ?_
       refine uv (Ao isAgg33 rfl (Has.own 0 rfl) rfl) (um (uv (Bo rfl) (A0 (i := 9) sizeOf3 rfl rfl rfl rfl (A5 rfl) (AD rfl ?_))))
       refine Bp (p := fun X => Jn (0 : Int).toNat (dd, de, df) x4 K.w0.heap.size 22 3 1 (iE .i64) bz bm bn bo table X) (MW.Kj ay au ax av bc) (pT ((fC (fC (fC (fC (fC (fC (fC (fC (fC (fC (fC (fC (fC fP))))))))))))).trans (pA ((fC (fC (fC (fC (fC (fC (fC (fC (fC (fC (fC (fC (fC fP))))))))))))).trans (pA ((fC (fC (fC (fC (fC (fC (fC (fC (fC (fC (fC (fC (fC fP))))))))))))).trans (pA pR)))))) (lp (lp (lp (ln rfl))))) ?_; intro Lb326 sb
       refine kO (kf (fS fO) (kf (fS fO) (kf (fS fO) (kf (fS fO) (kf (fS fO) (kf (fS fO) (kf (fS fO) (kf (fS fO) (kf (fS fO) (kf (fS fO) (kf (fS fO) (kf (fS fO) (kf (fS fO) kr))))))))))))) ?_
       refine Bp (p := fun X => BG K.w0.heap.size 22 3 1 (iE .i64) bz bm bn bo table X) (Jn.Nl sb ar) (pT ((fC (fC (fC (fC (fC (fC (fC (fC (fC (fC (fC (fC (fC fP))))))))))))).trans (pA ((fC (fC (fC (fC (fC (fC (fC (fC (fC (fC (fC (fC (fC fP))))))))))))).trans (pA pR)))) (lp (lp (ln rfl)))) ?_; intro sd se
       refine kO (kf (fS fO) (kf (fS fO) (kf (fS fO) (kf (fS fO) (kf (fS fO) (kf (fS fO) (kf (fS fO) (kf (fS fO) (kf (fS fO) (kf (fS fO) (kf (fS fO) (kf (fS fO) (kf (fS fO) kr))))))))))))) ?_
       refine BI (um ?_)
       refine uv (Bb rfl rfl) (Aa ?_)
       refine EP rfl (fun sf => absurd sf bp) (fun sf => ?_)
       refine Aq ?_
       obtain ⟨rfl, rfl, rfl, rfl, rfl, rfl, rfl, rfl, rfl⟩ := Nx r325
       exact mi (kd (kc (kc (kc (kc (kc (kc (kc (kc (kc (kc (kc (kc (kg (fS fP) kr)))))))))))))) ⟨bb, sd, rfl, rfl, (sc rfl (sc rfl (sc rfl (sc rfl z8)))), az, se⟩
      have sg := AR sa iv
      by_cases iw : k2 = 8
      ·have r333 := AQ sg iw
       refine uv (FM.eq (v' := .pointer (some ⟨dg, 8, none⟩)) (CU (i := k2) underlying34 sizeOf33 rfl rfl (by have := iw; omega)) (by rw [iw]; rfl)) ?_
       refine uv (Ao isAgg33 rfl (Has.own 0 rfl) rfl) (um (uv (Bo rfl) (A0 (i := 8) sizeOf3 rfl rfl rfl rfl (A5 rfl) (AD rfl ?_))))
       refine Bp (p := fun X => Jn (0 : Int).toNat (dd, de, df) x4 K.w0.heap.size 22 3 1 (iE .i64) bz bm bn bo table X) (MW.Kj ay au ax av bc) (pT ((fC (fC (fC (fC (fC (fC (fC (fC (fC (fC (fC (fC (fC fP))))))))))))).trans (pA ((fC (fC (fC (fC (fC (fC (fC (fC (fC (fC (fC (fC (fC fP))))))))))))).trans (pA ((fC (fC (fC (fC (fC (fC (fC (fC (fC (fC (fC (fC (fC fP))))))))))))).trans (pA pR)))))) (lp (lp (lp (ln rfl))))) ?_; intro Lb334 sh
       refine kO (kf (fS fO) (kf (fS fO) (kf (fS fO) (kf (fS fO) (kf (fS fO) (kf (fS fO) (kf (fS fO) (kf (fS fO) (kf (fS fO) (kf (fS fO) (kf (fS fO) (kf (fS fO) (kf (fS fO) kr))))))))))))) ?_
       refine Bp (p := fun X => BG K.w0.heap.size 22 3 1 (iE .i64) bz bm bn bo table X) (Jn.Nl sh ar) (pT ((fC (fC (fC (fC (fC (fC (fC (fC (fC (fC (fC (fC (fC fP))))))))))))).trans (pA ((fC (fC (fC (fC (fC (fC (fC (fC (fC (fC (fC (fC (fC fP))))))))))))).trans (pA pR)))) (lp (lp (ln rfl)))) ?_; intro si sj
       refine kO (kf (fS fO) (kf (fS fO) (kf (fS fO) (kf (fS fO) (kf (fS fO) (kf (fS fO) (kf (fS fO) (kf (fS fO) (kf (fS fO) (kf (fS fO) (kf (fS fO) (kf (fS fO) (kf (fS fO) kr))))))))))))) ?_
       refine BI (um ?_)
       refine uv (Bb rfl rfl) (Aa ?_)
       refine EP rfl (fun sk => absurd sk bp) (fun sk => ?_)
       refine Aq ?_
       obtain ⟨rfl, rfl, rfl, rfl, rfl, rfl, rfl, rfl, rfl⟩ := Nx r333
       exact mi (kd (kc (kc (kc (kc (kc (kc (kc (kc (kc (kc (kc (kc (kg (fS fP) kr)))))))))))))) ⟨bb, si, rfl, rfl, (sc rfl (sc rfl (sc rfl (sc rfl z8)))), az, sj⟩
      have sq := AR sg iw
      by_cases iy : k2 = 9
      ·have r341 := AQ sq iy
       refine uv (FM.eq (v' := .pointer (some ⟨dg, 9, none⟩)) (CU (i := k2) underlying34 sizeOf33 rfl rfl (by have := iy; omega)) (by rw [iy]; rfl)) ?_
       refine uv (Ao isAgg33 rfl (Has.own 0 rfl) rfl) (um (uv (Bo rfl) ?_))
       obtain ⟨l2, h342, r343⟩ := BS r341
       refine CQ (u := x) sizeOf3 (Ae _) rfl jx rfl rfl (fun _ => .c (.c (.c (.c (.c (.c (.c (.c (.c (.c (.c (.c (.c (.s (.s (.s .h)))))))))))))))) ar h342 nq ?_; intro Lb344 ss
       refine Bp (p := fun X => Jn (0 : Int).toNat (dd, de, df) x4 K.w0.heap.size 22 3 1 (iE .i64) bz bm bn bo table X) (MW.Kj ay au ax av bc) (pT ((fC (fC (fC (fC (fC (fC (fC (fC (fC (fC (fC (fC (fC fP))))))))))))).trans (pA ((fC (fC (fC (fC (fC (fC (fC (fC (fC (fC (fC (fC (fC fP))))))))))))).trans (pA ((fC (fC (fC (fC (fC (fC (fC (fC (fC (fC (fC (fC (fC fP))))))))))))).trans (pA pR)))))) (lp (lp (lp (ln rfl))))) ?_; intro Lb346 su
       refine kO (kf (fS fO) (kf (fS fO) (kf (fS fO) (kf (fS fO) (kf (fS fO) (kf (fS fO) (kf (fS fO) (kf (fS fO) (kf (fS fO) (kf (fS fO) (kf (fS fO) (kf (fS fO) (kf (fS fO) kr))))))))))))) ?_
       obtain ⟨ny, h348, r349⟩ := BS r343
       refine Bp (p := fun X => BG K.w0.heap.size 22 3 1 (iE .i64) bz bm bn bo ny X) (Jn.Rc su ss h348) (pT ((fC (fC (fC (fC (fC (fC (fC (fC (fC (fC (fC (fC (fC fP))))))))))))).trans (pA ((fC (fC (fC (fC (fC (fC (fC (fC (fC (fC (fC (fC (fC fP))))))))))))).trans (pA pR)))) (lp (lp (ln rfl)))) ?_; intro sv sw
       refine kO (kf (fS fO) (kf (fS fO) (kf (fS fO) (kf (fS fO) (kf (fS fO) (kf (fS fO) (kf (fS fO) (kf (fS fO) (kf (fS fO) (kf (fS fO) (kf (fS fO) (kf (fS fO) (kf (fS fO) kr))))))))))))) ?_
       refine BI (um ?_)
       refine uv (Bb rfl rfl) (Aa ?_)
       refine EP rfl (fun sx => absurd sx bp) (fun sx => ?_)
       refine Aq ?_
       obtain ⟨rfl, rfl, rfl, rfl, rfl, rfl, rfl, rfl, rfl⟩ := Nx r349
       exact mi (kd (kc (kc (kc (kc (kc (kc (kc (kc (kc (kc (kc (kc (kg (fS fP) kr)))))))))))))) ⟨bb, sv, rfl, rfl, (sc rfl (sc rfl (sc rfl (sc rfl z8)))), az, sw⟩
      have r353 := AR sq iy
      obtain ⟨sy, r355⟩ := AX r353
      refine uv (FM.eq (v' := .pointer (some ⟨dg, 10, none⟩)) (CU (i := k2) underlying34 sizeOf33 rfl rfl (by have := sy; omega)) (by rw [sy]; rfl)) ?_
      refine uv (Ao isAgg33 rfl (Has.own 0 rfl) rfl) (um (uv (Bo rfl) ?_))
      obtain ⟨l3, h356, r357⟩ := BS r355
      refine CQ (u := x) sizeOf3 (Ae _) rfl jz rfl rfl (fun _ => .c (.c (.c (.c (.c (.c (.c (.c (.c (.c (.c (.c (.c (.s .h)))))))))))))) av h356 nt ?_; intro Lb358 ta
      obtain ⟨gl, h360, r361⟩ := BS r357
      refine Bp (p := fun X => Jn (0 : Int).toNat (dd, de, df) x4 K.w0.heap.size 22 3 1 (iE .i64) bz bm bn bo gl X) (MW.Lv ay au ax ta h360) (pT ((fC (fC (fC (fC (fC (fC (fC (fC (fC (fC (fC (fC (fC fP))))))))))))).trans (pA ((fC (fC (fC (fC (fC (fC (fC (fC (fC (fC (fC (fC (fC fP))))))))))))).trans (pA ((fC (fC (fC (fC (fC (fC (fC (fC (fC (fC (fC (fC (fC fP))))))))))))).trans (pA pR)))))) (lp (lp (lp (ln rfl))))) ?_; intro Lb362 tc
      refine kO (kf (fS fO) (kf (fS fO) (kf (fS fO) (kf (fS fO) (kf (fS fO) (kf (fS fO) (kf (fS fO) (kf (fS fO) (kf (fS fO) (kf (fS fO) (kf (fS fO) (kf (fS fO) (kf (fS fO) kr))))))))))))) ?_
      refine Bp (p := fun X => BG K.w0.heap.size 22 3 1 (iE .i64) bz bm bn bo gl X) (Jn.Nl tc ar) (pT ((fC (fC (fC (fC (fC (fC (fC (fC (fC (fC (fC (fC (fC fP))))))))))))).trans (pA ((fC (fC (fC (fC (fC (fC (fC (fC (fC (fC (fC (fC (fC fP))))))))))))).trans (pA pR)))) (lp (lp (ln rfl)))) ?_; intro td te
      refine kO (kf (fS fO) (kf (fS fO) (kf (fS fO) (kf (fS fO) (kf (fS fO) (kf (fS fO) (kf (fS fO) (kf (fS fO) (kf (fS fO) (kf (fS fO) (kf (fS fO) (kf (fS fO) (kf (fS fO) kr))))))))))))) ?_
      refine BI (um ?_)
      refine uv (Bb rfl rfl) (Aa ?_)
      refine EP rfl (fun tf => absurd tf bp) (fun tf => ?_)
      refine Aq ?_
      obtain ⟨rfl, rfl, rfl, rfl, rfl, rfl, rfl, rfl, rfl⟩ := Nx r361
      exact mi (kd (kc (kc (kc (kc (kc (kc (kc (kc (kc (kc (kc (kc (kg (fS fP) kr)))))))))))))) ⟨bb, td, rfl, rfl, (sc rfl (sc rfl (sc rfl (sc rfl z8)))), az, te⟩
     rintro e1 _ _ ⟨cy, cz, rfl, rfl, tg, kb, kh⟩
     refine Az _ tg ?_
     obtain ⟨k4, h368, nz⟩ := AB qe
     refine jE ([]) [(2, .int .i64 x), (23, .slice (some ⟨b1, 0, none⟩) [-2, -1, 0, 1, 2, 3, 4, 5, 6, 7, 8, 15, 16, 63, 64, 99, 100, 9223372036854775807, -9223372036854775808].length 19), (24, .int .i64 19), (25, .int .i64 k), (29, .int .i64 k2), (126, .bool k4)] ?_ ?_
     ·clear nz
      refine An (uv (AE isAgg26 sizeOf26 rfl (Has.own 11 rfl) (A5 rfl) rfl) (uv (AE isAgg29 sizeOf29 rfl (Has.own 8 rfl) (A5 rfl) rfl) (um ?_)))
      obtain ⟨ok, h370, th⟩ := AB h368
      refine Bi (Lt := [(ba, ce #[.slice none 0 0, .slice (some ⟨ae, 0, none⟩) 1 1, .slice (some ⟨ai, 0, none⟩) 1 1, .slice (some ⟨ah, 0, none⟩) 2 2] 22), (ae, ce #[.int .i64 ab] 3), (ai, ce #[.int .i64 1] 3), (ah, ce #[.int .i64 0, .int .i64 cx] 3), (bl, ce #[.slice (some ⟨ao, 0, none⟩) 4 4, .slice (some ⟨aq, 0, none⟩) 4 4] 36), (ao, ce #[.int .i64 0, .int .i64 ab, .int .i64 2, .int .i64 1] 35), (aq, ce #[.int .i64 0, .int .i64 0, .int .i64 2, .int .i64 0] 35)]) (Lr := (ej, ce #[.int .i64 Bx] 3) :: ((du, ce #[.int .i64 cq, .int .i64 dv] 29) :: ((ei, ce #[.int .i64 BO] 3) :: ((eh, ce #[.int .i64 hour] 3) :: ((eu, ce #[.slice (some ⟨ba, 0, none⟩) 4 4, .slice (some ⟨bl, 0, none⟩) 2 2] 26) :: (cy ++ (cz ++ []))))))) rfl call6 rfl rfl rfl (pR) (fun F2 h2 h3 => by exact CR (Au.AG (Ak (Ae _)) (vss := [[.slice none 0 0], [.slice (some ⟨ae, 0, none⟩) 1 1], [.slice (some ⟨ai, 0, none⟩) 1 1], [.slice (some ⟨ah, 0, none⟩) 2 2]]) (xs := ([[], [ab], [1], [0, cx]] : List (List Int))) (h3 (ba, ce #[.slice none 0 0, .slice (some ⟨ae, 0, none⟩) 1 1, .slice (some ⟨ai, 0, none⟩) 1 1, .slice (some ⟨ah, 0, none⟩) 2 2] 22) (List.mem_cons_self ..)) (.cons ⟨_, _, rfl, Au.nil _ _ _⟩ (.cons ⟨_, _, rfl, (Au.AG (Ae _) (vss := [[.int .i64 ab]]) (xs := ([ab] : List Int)) (h3 (ae, ce #[.int .i64 ab] 3) (List.mem_cons_of_mem _ (List.mem_cons_self ..))) (.cons rfl .nil) rfl (by simp [maxLen]))⟩ (.cons ⟨_, _, rfl, (Au.AG (Ae _) (vss := [[.int .i64 1]]) (xs := ([1] : List Int)) (h3 (ai, ce #[.int .i64 1] 3) (List.mem_cons_of_mem _ (List.mem_cons_of_mem _ (List.mem_cons_self ..)))) (.cons rfl .nil) rfl (by simp [maxLen]))⟩ (.cons ⟨_, _, rfl, (Au.AG (Ae _) (vss := [[.int .i64 0], [.int .i64 cx]]) (xs := ([0, cx] : List Int)) (h3 (ah, ce #[.int .i64 0, .int .i64 cx] 3) (List.mem_cons_of_mem _ (List.mem_cons_of_mem _ (List.mem_cons_of_mem _ (List.mem_cons_self ..))))) (.cons rfl (.cons rfl .nil)) rfl (by simp [maxLen]))⟩ .nil)))) rfl (by simp [maxLen])) (Au.AG (Ak (Ae _)) (vss := [[.slice (some ⟨ao, 0, none⟩) 4 4], [.slice (some ⟨aq, 0, none⟩) 4 4]]) (xs := ([[0, ab, 2, 1], [0, 0, 2, 0]] : List (List Int))) (h3 (bl, ce #[.slice (some ⟨ao, 0, none⟩) 4 4, .slice (some ⟨aq, 0, none⟩) 4 4] 36) (List.mem_cons_of_mem _ (List.mem_cons_of_mem _ (List.mem_cons_of_mem _ (List.mem_cons_of_mem _ (List.mem_cons_self ..)))))) (.cons ⟨_, _, rfl, (Au.AG (Ae _) (vss := [[.int .i64 0], [.int .i64 ab], [.int .i64 2], [.int .i64 1]]) (xs := ([0, ab, 2, 1] : List Int)) (h3 (ao, ce #[.int .i64 0, .int .i64 ab, .int .i64 2, .int .i64 1] 35) (List.mem_cons_of_mem _ (List.mem_cons_of_mem _ (List.mem_cons_of_mem _ (List.mem_cons_of_mem _ (List.mem_cons_of_mem _ (List.mem_cons_self ..))))))) (.cons rfl (.cons rfl (.cons rfl (.cons rfl .nil)))) rfl (by simp [maxLen]))⟩ (.cons ⟨_, _, rfl, (Au.AG (Ae _) (vss := [[.int .i64 0], [.int .i64 0], [.int .i64 2], [.int .i64 0]]) (xs := ([0, 0, 2, 0] : List Int)) (h3 (aq, ce #[.int .i64 0, .int .i64 0, .int .i64 2, .int .i64 0] 35) (List.mem_cons_of_mem _ (List.mem_cons_of_mem _ (List.mem_cons_of_mem _ (List.mem_cons_of_mem _ (List.mem_cons_of_mem _ (List.mem_cons_of_mem _ (List.mem_cons_self ..)))))))) (.cons rfl (.cons rfl (.cons rfl (.cons rfl .nil)))) rfl (by simp [maxLen]))⟩ .nil)) rfl (by simp [maxLen])) h370) (uv (BM rfl) (um ?_))
      rcases Bf (!ok) with bq | bq
      ·have r373 := bt th bq
       refine fB bq (fB bq (fB bq (fB bq (fB bq ?_))))
       refine uv (Aw (En rfl bq) rfl) ?_
       refine um (Ah (b' := true) 108 rfl rfl rfl rfl (Ah (b' := true) 108 rfl rfl rfl rfl (Ah (b' := true) 108 rfl rfl rfl rfl (Ah (b' := true) 108 rfl rfl rfl rfl (Ah (b' := true) 108 rfl rfl rfl rfl ?_)))))
       refine uv (Aw rfl rfl) ?_
       refine um (Ah (b' := true) 115 rfl rfl rfl rfl (Ah (b' := true) 115 rfl rfl rfl rfl (Ah (b' := true) 115 rfl rfl rfl rfl (Ah (b' := true) 115 rfl rfl rfl rfl ?_))))
       refine uv (Aw rfl rfl) ?_
       refine um (Ah (b' := true) 121 rfl rfl rfl rfl (Ah (b' := true) 121 rfl rfl rfl rfl (Ah (b' := true) 121 rfl rfl rfl rfl (Ah (b' := true) 121 rfl rfl rfl rfl ?_))))
       refine uv (Aw rfl rfl) (Aa ?_)
       obtain rfl := AH r373
       exact mi kn ⟨rfl, rfl, z6⟩
      have r374 := bf th bq
      refine nB bq (uv (AE isAgg26 sizeOf26 rfl (Has.own 11 rfl) (A5 rfl) rfl) (nB bq (uv (Ao isAgg3 rfl (Has.own 10 rfl) rfl) (nB bq (uv (Ao isAgg3 rfl (Has.own 9 rfl) rfl) (nB bq ?_))))))
      obtain ⟨ok2, h375, ti⟩ := AB r374
      refine Bi (Lt := [(ba, ce #[.slice none 0 0, .slice (some ⟨ae, 0, none⟩) 1 1, .slice (some ⟨ai, 0, none⟩) 1 1, .slice (some ⟨ah, 0, none⟩) 2 2] 22), (ae, ce #[.int .i64 ab] 3), (ai, ce #[.int .i64 1] 3), (ah, ce #[.int .i64 0, .int .i64 cx] 3), (bl, ce #[.slice (some ⟨ao, 0, none⟩) 4 4, .slice (some ⟨aq, 0, none⟩) 4 4] 36), (ao, ce #[.int .i64 0, .int .i64 ab, .int .i64 2, .int .i64 1] 35), (aq, ce #[.int .i64 0, .int .i64 0, .int .i64 2, .int .i64 0] 35)]) (Lr := (ej, ce #[.int .i64 Bx] 3) :: ((du, ce #[.int .i64 cq, .int .i64 dv] 29) :: ((ei, ce #[.int .i64 BO] 3) :: ((eh, ce #[.int .i64 hour] 3) :: ((eu, ce #[.slice (some ⟨ba, 0, none⟩) 4 4, .slice (some ⟨bl, 0, none⟩) 2 2] 26) :: (cy ++ (cz ++ []))))))) rfl call7 rfl rfl rfl (pR) (fun F2 h2 h3 => by exact El (Au.AG (Ak (Ae _)) (vss := [[.slice none 0 0], [.slice (some ⟨ae, 0, none⟩) 1 1], [.slice (some ⟨ai, 0, none⟩) 1 1], [.slice (some ⟨ah, 0, none⟩) 2 2]]) (xs := ([[], [ab], [1], [0, cx]] : List (List Int))) (h3 (ba, ce #[.slice none 0 0, .slice (some ⟨ae, 0, none⟩) 1 1, .slice (some ⟨ai, 0, none⟩) 1 1, .slice (some ⟨ah, 0, none⟩) 2 2] 22) (List.mem_cons_self ..)) (.cons ⟨_, _, rfl, Au.nil _ _ _⟩ (.cons ⟨_, _, rfl, (Au.AG (Ae _) (vss := [[.int .i64 ab]]) (xs := ([ab] : List Int)) (h3 (ae, ce #[.int .i64 ab] 3) (List.mem_cons_of_mem _ (List.mem_cons_self ..))) (.cons rfl .nil) rfl (by simp [maxLen]))⟩ (.cons ⟨_, _, rfl, (Au.AG (Ae _) (vss := [[.int .i64 1]]) (xs := ([1] : List Int)) (h3 (ai, ce #[.int .i64 1] 3) (List.mem_cons_of_mem _ (List.mem_cons_of_mem _ (List.mem_cons_self ..)))) (.cons rfl .nil) rfl (by simp [maxLen]))⟩ (.cons ⟨_, _, rfl, (Au.AG (Ae _) (vss := [[.int .i64 0], [.int .i64 cx]]) (xs := ([0, cx] : List Int)) (h3 (ah, ce #[.int .i64 0, .int .i64 cx] 3) (List.mem_cons_of_mem _ (List.mem_cons_of_mem _ (List.mem_cons_of_mem _ (List.mem_cons_self ..))))) (.cons rfl (.cons rfl .nil)) rfl (by simp [maxLen]))⟩ .nil)))) rfl (by simp [maxLen])) (Au.AG (Ak (Ae _)) (vss := [[.slice (some ⟨ao, 0, none⟩) 4 4], [.slice (some ⟨aq, 0, none⟩) 4 4]]) (xs := ([[0, ab, 2, 1], [0, 0, 2, 0]] : List (List Int))) (h3 (bl, ce #[.slice (some ⟨ao, 0, none⟩) 4 4, .slice (some ⟨aq, 0, none⟩) 4 4] 36) (List.mem_cons_of_mem _ (List.mem_cons_of_mem _ (List.mem_cons_of_mem _ (List.mem_cons_of_mem _ (List.mem_cons_self ..)))))) (.cons ⟨_, _, rfl, (Au.AG (Ae _) (vss := [[.int .i64 0], [.int .i64 ab], [.int .i64 2], [.int .i64 1]]) (xs := ([0, ab, 2, 1] : List Int)) (h3 (ao, ce #[.int .i64 0, .int .i64 ab, .int .i64 2, .int .i64 1] 35) (List.mem_cons_of_mem _ (List.mem_cons_of_mem _ (List.mem_cons_of_mem _ (List.mem_cons_of_mem _ (List.mem_cons_of_mem _ (List.mem_cons_self ..))))))) (.cons rfl (.cons rfl (.cons rfl (.cons rfl .nil)))) rfl (by simp [maxLen]))⟩ (.cons ⟨_, _, rfl, (Au.AG (Ae _) (vss := [[.int .i64 0], [.int .i64 0], [.int .i64 2], [.int .i64 0]]) (xs := ([0, 0, 2, 0] : List Int)) (h3 (aq, ce #[.int .i64 0, .int .i64 0, .int .i64 2, .int .i64 0] 35) (List.mem_cons_of_mem _ (List.mem_cons_of_mem _ (List.mem_cons_of_mem _ (List.mem_cons_of_mem _ (List.mem_cons_of_mem _ (List.mem_cons_of_mem _ (List.mem_cons_self ..)))))))) (.cons rfl (.cons rfl (.cons rfl (.cons rfl .nil)))) rfl (by simp [maxLen]))⟩ .nil)) rfl (by simp [maxLen])) h375) (nB bq (uv (BM rfl) (uv (Ar (En rfl bq) rfl) (um ?_))))
      rcases Bf (!ok2) with br | br
      ·have r378 := bt ti br
       refine fB br (fB br (fB br (fB br (fB br ?_))))
       refine uv (Aw (En rfl br) rfl) ?_
       refine um (Ah (b' := true) 115 rfl rfl rfl rfl (Ah (b' := true) 115 rfl rfl rfl rfl (Ah (b' := true) 115 rfl rfl rfl rfl (Ah (b' := true) 115 rfl rfl rfl rfl ?_))))
       refine uv (Aw rfl rfl) ?_
       refine um (Ah (b' := true) 121 rfl rfl rfl rfl (Ah (b' := true) 121 rfl rfl rfl rfl (Ah (b' := true) 121 rfl rfl rfl rfl (Ah (b' := true) 121 rfl rfl rfl rfl ?_))))
       refine uv (Aw rfl rfl) (Aa ?_)
       obtain rfl := AH r378
       exact mi kn ⟨rfl, rfl, z6⟩
      have r379 := bf ti br
      refine nB br (uv (AE isAgg26 sizeOf26 rfl (Has.own 11 rfl) (A5 rfl) rfl) ?_)
      refine nB br (um (nB br (um (nB br ?_))))
      obtain ⟨ok3, h380, tj⟩ := AB r379
      refine Bi (Lt := (ba, ce #[.slice none 0 0, .slice (some ⟨ae, 0, none⟩) 1 1, .slice (some ⟨ai, 0, none⟩) 1 1, .slice (some ⟨ah, 0, none⟩) 2 2] 22) :: ((ae, ce #[.int .i64 ab] 3) :: ((ai, ce #[.int .i64 1] 3) :: ((ah, ce #[.int .i64 0, .int .i64 cx] 3) :: ((bl, ce #[.slice (some ⟨ao, 0, none⟩) 4 4, .slice (some ⟨aq, 0, none⟩) 4 4] 36) :: ((ao, ce #[.int .i64 0, .int .i64 ab, .int .i64 2, .int .i64 1] 35) :: ((aq, ce #[.int .i64 0, .int .i64 0, .int .i64 2, .int .i64 0] 35) :: (cy ++ (cz ++ []))))))))) (Lr := [(ej, ce #[.int .i64 Bx] 3), (du, ce #[.int .i64 cq, .int .i64 dv] 29), (ei, ce #[.int .i64 BO] 3), (eh, ce #[.int .i64 hour] 3), (eu, ce #[.slice (some ⟨ba, 0, none⟩) 4 4, .slice (some ⟨bl, 0, none⟩) 2 2] 26)]) rfl call8 rfl rfl rfl (pT (pC (pC (pC (pC (pC (pC (pC ((fC (fC (fC (fC (fC fP))))).trans (pA ((fC (fC (fC (fC (fC fP))))).trans (pA pR))))))))))) (lb (lb (lb (lb (lb (lb (lb (lp (lp (ln rfl))))))))))) (fun F2 h2 h3 => by have h0 := IM (Au.AG (Ak (Ae _)) (vss := [[.slice none 0 0], [.slice (some ⟨ae, 0, none⟩) 1 1], [.slice (some ⟨ai, 0, none⟩) 1 1], [.slice (some ⟨ah, 0, none⟩) 2 2]]) (xs := ([[], [ab], [1], [0, cx]] : List (List Int))) (h3 (ba, ce #[.slice none 0 0, .slice (some ⟨ae, 0, none⟩) 1 1, .slice (some ⟨ai, 0, none⟩) 1 1, .slice (some ⟨ah, 0, none⟩) 2 2] 22) (List.mem_cons_self ..)) (.cons ⟨_, _, rfl, Au.nil _ _ _⟩ (.cons ⟨_, _, rfl, (Au.AG (Ae _) (vss := [[.int .i64 ab]]) (xs := ([ab] : List Int)) (h3 (ae, ce #[.int .i64 ab] 3) (List.mem_cons_of_mem _ (List.mem_cons_self ..))) (.cons rfl .nil) rfl (by simp [maxLen]))⟩ (.cons ⟨_, _, rfl, (Au.AG (Ae _) (vss := [[.int .i64 1]]) (xs := ([1] : List Int)) (h3 (ai, ce #[.int .i64 1] 3) (List.mem_cons_of_mem _ (List.mem_cons_of_mem _ (List.mem_cons_self ..)))) (.cons rfl .nil) rfl (by simp [maxLen]))⟩ (.cons ⟨_, _, rfl, (Au.AG (Ae _) (vss := [[.int .i64 0], [.int .i64 cx]]) (xs := ([0, cx] : List Int)) (h3 (ah, ce #[.int .i64 0, .int .i64 cx] 3) (List.mem_cons_of_mem _ (List.mem_cons_of_mem _ (List.mem_cons_of_mem _ (List.mem_cons_self ..))))) (.cons rfl (.cons rfl .nil)) rfl (by simp [maxLen]))⟩ .nil)))) rfl (by simp [maxLen])) (Au.AG (Ak (Ae _)) (vss := [[.slice (some ⟨ao, 0, none⟩) 4 4], [.slice (some ⟨aq, 0, none⟩) 4 4]]) (xs := ([[0, ab, 2, 1], [0, 0, 2, 0]] : List (List Int))) (h3 (bl, ce #[.slice (some ⟨ao, 0, none⟩) 4 4, .slice (some ⟨aq, 0, none⟩) 4 4] 36) (List.mem_cons_of_mem _ (List.mem_cons_of_mem _ (List.mem_cons_of_mem _ (List.mem_cons_of_mem _ (List.mem_cons_self ..)))))) (.cons ⟨_, _, rfl, (Au.AG (Ae _) (vss := [[.int .i64 0], [.int .i64 ab], [.int .i64 2], [.int .i64 1]]) (xs := ([0, ab, 2, 1] : List Int)) (h3 (ao, ce #[.int .i64 0, .int .i64 ab, .int .i64 2, .int .i64 1] 35) (List.mem_cons_of_mem _ (List.mem_cons_of_mem _ (List.mem_cons_of_mem _ (List.mem_cons_of_mem _ (List.mem_cons_of_mem _ (List.mem_cons_self ..))))))) (.cons rfl (.cons rfl (.cons rfl (.cons rfl .nil)))) rfl (by simp [maxLen]))⟩ (.cons ⟨_, _, rfl, (Au.AG (Ae _) (vss := [[.int .i64 0], [.int .i64 0], [.int .i64 2], [.int .i64 0]]) (xs := ([0, 0, 2, 0] : List Int)) (h3 (aq, ce #[.int .i64 0, .int .i64 0, .int .i64 2, .int .i64 0] 35) (List.mem_cons_of_mem _ (List.mem_cons_of_mem _ (List.mem_cons_of_mem _ (List.mem_cons_of_mem _ (List.mem_cons_of_mem _ (List.mem_cons_of_mem _ (List.mem_cons_self ..)))))))) (.cons rfl (.cons rfl (.cons rfl (.cons rfl .nil)))) rfl (by simp [maxLen]))⟩ .nil)) rfl (by simp [maxLen])) (kb.row (Ae _) h2 (fun p hp => h3 p (List.mem_cons_of_mem _ (List.mem_cons_of_mem _ (List.mem_cons_of_mem _ (List.mem_cons_of_mem _ (List.mem_cons_of_mem _ (List.mem_cons_of_mem _ (List.mem_cons_of_mem _ (List.mem_append_left _ hp)))))))))) (kh.row (Ae _) h2 (fun p hp => h3 p (List.mem_cons_of_mem _ (List.mem_cons_of_mem _ (List.mem_cons_of_mem _ (List.mem_cons_of_mem _ (List.mem_cons_of_mem _ (List.mem_cons_of_mem _ (List.mem_cons_of_mem _ (List.mem_append_right _ (List.mem_append_left _ hp))))))))))) h380; rw [← (AW.Be kb).1] at h0; rw [← (BG.Be kh).1] at h0; exact h0) ?_
      refine nB br (uv (BM rfl) (uv (Ar (En rfl br) rfl) (um ?_)))
      rcases Bf (!ok3) with cr | cr
      ·have r383 := bt tj cr
       refine fB cr (fB cr (fB cr (fB cr ?_)))
       refine uv (Aw (En rfl cr) rfl) ?_
       refine um (Ah (b' := true) 121 rfl rfl rfl rfl (Ah (b' := true) 121 rfl rfl rfl rfl (Ah (b' := true) 121 rfl rfl rfl rfl (Ah (b' := true) 121 rfl rfl rfl rfl ?_))))
       refine uv (Aw rfl rfl) (Aa ?_)
       obtain rfl := AH r383
       exact mi kn ⟨rfl, rfl, z6⟩
      have r384 := bf tj cr
      refine nB cr (uv (AE isAgg26 sizeOf26 rfl (Has.own 11 rfl) (A5 rfl) rfl) (nB cr (uv (Ao isAgg3 rfl (Has.own 7 rfl) rfl) (nB cr ?_))))
      obtain ⟨ok4, h385, tk⟩ := AB r384
      refine Bi (Lt := [(ba, ce #[.slice none 0 0, .slice (some ⟨ae, 0, none⟩) 1 1, .slice (some ⟨ai, 0, none⟩) 1 1, .slice (some ⟨ah, 0, none⟩) 2 2] 22), (ae, ce #[.int .i64 ab] 3), (ai, ce #[.int .i64 1] 3), (ah, ce #[.int .i64 0, .int .i64 cx] 3), (bl, ce #[.slice (some ⟨ao, 0, none⟩) 4 4, .slice (some ⟨aq, 0, none⟩) 4 4] 36), (ao, ce #[.int .i64 0, .int .i64 ab, .int .i64 2, .int .i64 1] 35), (aq, ce #[.int .i64 0, .int .i64 0, .int .i64 2, .int .i64 0] 35)]) (Lr := (ej, ce #[.int .i64 Bx] 3) :: ((du, ce #[.int .i64 cq, .int .i64 dv] 29) :: ((ei, ce #[.int .i64 BO] 3) :: ((eh, ce #[.int .i64 hour] 3) :: ((eu, ce #[.slice (some ⟨ba, 0, none⟩) 4 4, .slice (some ⟨bl, 0, none⟩) 2 2] 26) :: (cy ++ (cz ++ []))))))) rfl call9 rfl rfl rfl (pR) (fun F2 h2 h3 => by exact Jb (Au.AG (Ak (Ae _)) (vss := [[.slice none 0 0], [.slice (some ⟨ae, 0, none⟩) 1 1], [.slice (some ⟨ai, 0, none⟩) 1 1], [.slice (some ⟨ah, 0, none⟩) 2 2]]) (xs := ([[], [ab], [1], [0, cx]] : List (List Int))) (h3 (ba, ce #[.slice none 0 0, .slice (some ⟨ae, 0, none⟩) 1 1, .slice (some ⟨ai, 0, none⟩) 1 1, .slice (some ⟨ah, 0, none⟩) 2 2] 22) (List.mem_cons_self ..)) (.cons ⟨_, _, rfl, Au.nil _ _ _⟩ (.cons ⟨_, _, rfl, (Au.AG (Ae _) (vss := [[.int .i64 ab]]) (xs := ([ab] : List Int)) (h3 (ae, ce #[.int .i64 ab] 3) (List.mem_cons_of_mem _ (List.mem_cons_self ..))) (.cons rfl .nil) rfl (by simp [maxLen]))⟩ (.cons ⟨_, _, rfl, (Au.AG (Ae _) (vss := [[.int .i64 1]]) (xs := ([1] : List Int)) (h3 (ai, ce #[.int .i64 1] 3) (List.mem_cons_of_mem _ (List.mem_cons_of_mem _ (List.mem_cons_self ..)))) (.cons rfl .nil) rfl (by simp [maxLen]))⟩ (.cons ⟨_, _, rfl, (Au.AG (Ae _) (vss := [[.int .i64 0], [.int .i64 cx]]) (xs := ([0, cx] : List Int)) (h3 (ah, ce #[.int .i64 0, .int .i64 cx] 3) (List.mem_cons_of_mem _ (List.mem_cons_of_mem _ (List.mem_cons_of_mem _ (List.mem_cons_self ..))))) (.cons rfl (.cons rfl .nil)) rfl (by simp [maxLen]))⟩ .nil)))) rfl (by simp [maxLen])) (Au.AG (Ak (Ae _)) (vss := [[.slice (some ⟨ao, 0, none⟩) 4 4], [.slice (some ⟨aq, 0, none⟩) 4 4]]) (xs := ([[0, ab, 2, 1], [0, 0, 2, 0]] : List (List Int))) (h3 (bl, ce #[.slice (some ⟨ao, 0, none⟩) 4 4, .slice (some ⟨aq, 0, none⟩) 4 4] 36) (List.mem_cons_of_mem _ (List.mem_cons_of_mem _ (List.mem_cons_of_mem _ (List.mem_cons_of_mem _ (List.mem_cons_self ..)))))) (.cons ⟨_, _, rfl, (Au.AG (Ae _) (vss := [[.int .i64 0], [.int .i64 ab], [.int .i64 2], [.int .i64 1]]) (xs := ([0, ab, 2, 1] : List Int)) (h3 (ao, ce #[.int .i64 0, .int .i64 ab, .int .i64 2, .int .i64 1] 35) (List.mem_cons_of_mem _ (List.mem_cons_of_mem _ (List.mem_cons_of_mem _ (List.mem_cons_of_mem _ (List.mem_cons_of_mem _ (List.mem_cons_self ..))))))) (.cons rfl (.cons rfl (.cons rfl (.cons rfl .nil)))) rfl (by simp [maxLen]))⟩ (.cons ⟨_, _, rfl, (Au.AG (Ae _) (vss := [[.int .i64 0], [.int .i64 0], [.int .i64 2], [.int .i64 0]]) (xs := ([0, 0, 2, 0] : List Int)) (h3 (aq, ce #[.int .i64 0, .int .i64 0, .int .i64 2, .int .i64 0] 35) (List.mem_cons_of_mem _ (List.mem_cons_of_mem _ (List.mem_cons_of_mem _ (List.mem_cons_of_mem _ (List.mem_cons_of_mem _ (List.mem_cons_of_mem _ (List.mem_cons_self ..)))))))) (.cons rfl (.cons rfl (.cons rfl (.cons rfl .nil)))) rfl (by simp [maxLen]))⟩ .nil)) rfl (by simp [maxLen])) h385) (nB cr (uv (BM rfl) (uv (Ar (En rfl cr) rfl) (um ?_))))
      rcases Bf (!ok4) with ct | ct
      ·have r388 := bt tk ct
       refine fB ct (fB ct (fB ct (fB ct ?_)))
       refine uv (Aw (En rfl ct) rfl) (Aa ?_)
       obtain rfl := AH r388
       exact mi kn ⟨rfl, rfl, z6⟩
      have r389 := bf tk ct
      refine nB ct (uv (AE isAgg26 sizeOf26 rfl (Has.own 11 rfl) (A5 rfl) rfl) (nB ct (uv (AE isAgg29 sizeOf29 rfl (Has.own 8 rfl) (A5 rfl) rfl) (nB ct ?_))))
      obtain ⟨ok5, h390, r391⟩ := AB r389
      refine Bi (Lt := [(ba, ce #[.slice none 0 0, .slice (some ⟨ae, 0, none⟩) 1 1, .slice (some ⟨ai, 0, none⟩) 1 1, .slice (some ⟨ah, 0, none⟩) 2 2] 22), (ae, ce #[.int .i64 ab] 3), (ai, ce #[.int .i64 1] 3), (ah, ce #[.int .i64 0, .int .i64 cx] 3), (bl, ce #[.slice (some ⟨ao, 0, none⟩) 4 4, .slice (some ⟨aq, 0, none⟩) 4 4] 36), (ao, ce #[.int .i64 0, .int .i64 ab, .int .i64 2, .int .i64 1] 35), (aq, ce #[.int .i64 0, .int .i64 0, .int .i64 2, .int .i64 0] 35)]) (Lr := (ej, ce #[.int .i64 Bx] 3) :: ((du, ce #[.int .i64 cq, .int .i64 dv] 29) :: ((ei, ce #[.int .i64 BO] 3) :: ((eh, ce #[.int .i64 hour] 3) :: ((eu, ce #[.slice (some ⟨ba, 0, none⟩) 4 4, .slice (some ⟨bl, 0, none⟩) 2 2] 26) :: (cy ++ (cz ++ []))))))) rfl call10 rfl rfl rfl (pR) (fun F2 h2 h3 => by exact E7 (Au.AG (Ak (Ae _)) (vss := [[.slice none 0 0], [.slice (some ⟨ae, 0, none⟩) 1 1], [.slice (some ⟨ai, 0, none⟩) 1 1], [.slice (some ⟨ah, 0, none⟩) 2 2]]) (xs := ([[], [ab], [1], [0, cx]] : List (List Int))) (h3 (ba, ce #[.slice none 0 0, .slice (some ⟨ae, 0, none⟩) 1 1, .slice (some ⟨ai, 0, none⟩) 1 1, .slice (some ⟨ah, 0, none⟩) 2 2] 22) (List.mem_cons_self ..)) (.cons ⟨_, _, rfl, Au.nil _ _ _⟩ (.cons ⟨_, _, rfl, (Au.AG (Ae _) (vss := [[.int .i64 ab]]) (xs := ([ab] : List Int)) (h3 (ae, ce #[.int .i64 ab] 3) (List.mem_cons_of_mem _ (List.mem_cons_self ..))) (.cons rfl .nil) rfl (by simp [maxLen]))⟩ (.cons ⟨_, _, rfl, (Au.AG (Ae _) (vss := [[.int .i64 1]]) (xs := ([1] : List Int)) (h3 (ai, ce #[.int .i64 1] 3) (List.mem_cons_of_mem _ (List.mem_cons_of_mem _ (List.mem_cons_self ..)))) (.cons rfl .nil) rfl (by simp [maxLen]))⟩ (.cons ⟨_, _, rfl, (Au.AG (Ae _) (vss := [[.int .i64 0], [.int .i64 cx]]) (xs := ([0, cx] : List Int)) (h3 (ah, ce #[.int .i64 0, .int .i64 cx] 3) (List.mem_cons_of_mem _ (List.mem_cons_of_mem _ (List.mem_cons_of_mem _ (List.mem_cons_self ..))))) (.cons rfl (.cons rfl .nil)) rfl (by simp [maxLen]))⟩ .nil)))) rfl (by simp [maxLen])) (Au.AG (Ak (Ae _)) (vss := [[.slice (some ⟨ao, 0, none⟩) 4 4], [.slice (some ⟨aq, 0, none⟩) 4 4]]) (xs := ([[0, ab, 2, 1], [0, 0, 2, 0]] : List (List Int))) (h3 (bl, ce #[.slice (some ⟨ao, 0, none⟩) 4 4, .slice (some ⟨aq, 0, none⟩) 4 4] 36) (List.mem_cons_of_mem _ (List.mem_cons_of_mem _ (List.mem_cons_of_mem _ (List.mem_cons_of_mem _ (List.mem_cons_self ..)))))) (.cons ⟨_, _, rfl, (Au.AG (Ae _) (vss := [[.int .i64 0], [.int .i64 ab], [.int .i64 2], [.int .i64 1]]) (xs := ([0, ab, 2, 1] : List Int)) (h3 (ao, ce #[.int .i64 0, .int .i64 ab, .int .i64 2, .int .i64 1] 35) (List.mem_cons_of_mem _ (List.mem_cons_of_mem _ (List.mem_cons_of_mem _ (List.mem_cons_of_mem _ (List.mem_cons_of_mem _ (List.mem_cons_self ..))))))) (.cons rfl (.cons rfl (.cons rfl (.cons rfl .nil)))) rfl (by simp [maxLen]))⟩ (.cons ⟨_, _, rfl, (Au.AG (Ae _) (vss := [[.int .i64 0], [.int .i64 0], [.int .i64 2], [.int .i64 0]]) (xs := ([0, 0, 2, 0] : List Int)) (h3 (aq, ce #[.int .i64 0, .int .i64 0, .int .i64 2, .int .i64 0] 35) (List.mem_cons_of_mem _ (List.mem_cons_of_mem _ (List.mem_cons_of_mem _ (List.mem_cons_of_mem _ (List.mem_cons_of_mem _ (List.mem_cons_of_mem _ (List.mem_cons_self ..)))))))) (.cons rfl (.cons rfl (.cons rfl (.cons rfl .nil)))) rfl (by simp [maxLen]))⟩ .nil)) rfl (by simp [maxLen])) h390) (nB ct (uv (BM rfl) (uv (Ar (En rfl ct) rfl) (Aa ?_))))
      obtain rfl := AH r391
      exact mi kn ⟨rfl, rfl, z6⟩
     refine AT rfl (fun o0 => ?_) (fun o0 => ?_)
     ·have r394 := bt nz o0
      refine AI (ua (Aa (As (Ay (Al (Al (Ay (Ay (Al ?_)))))))))
      refine Al (Ay (Al ?_))
      refine BD results3 ?_
      obtain rfl := AH r394
      exact rfl
     have r395 := bf nz o0
     refine Aq (Ax (id := 3) (An ?_))
     refine uv (AY rfl rfl (CZ.CC mq c38 g29)) ?_
     refine um (Aa ?_)
     exact le kr ⟨_, hk39, r395, (oi.trans oo), rfl, z5⟩
    obtain rfl := CZ.zero mq c38
    rw [C8] at r33
    refine AL (Am (Am ?_))
    refine AA (Ax (id := 1) ?_)
    exact mi kr ⟨r33, oi, rfl, z3⟩
   rintro e1 F398 _ ⟨tm, tn, rfl, tp⟩
   refine Az _ tp ?_
   rw [FL] at tm
   refine An (uv (AY rfl rfl (CZ.CC hk8 c15 g6)) ?_)
   refine um (Aa ?_)
   exact le kr ⟨_, hk16, tm, (mo.trans tn), rfl, z3⟩
  obtain rfl := CZ.zero hk8 c15
  rw [A4] at r10
  refine AL (Am (Am ?_))
  refine AA ?_
  exact mi kr ⟨r10, (hF3.trans mo), rfl, (sn _)⟩
 rintro e1 tq _ ⟨r400, hF403, rfl, tr⟩
 refine Az _ tr ?_
 rw [FC] at r400
 refine AK (fun e1 F1 L1 => FQ = some r ∧ AN tq F1 ∧ L1 = [] ∧ e1.sub []) ?_ ?_
 ·refine AI (um (Aa ?_))
  refine Ap ?_
  obtain ⟨g404, r405⟩ := AX r400
  refine A2 (fun tt e1 F1 L1 => ∃ (k5 : Int), CZ 0 54 k5 tt ∧ Cp tt k5 = some r ∧ AN tq F1 ∧ L1 = [] ∧ e1.sub [(129, .int .i64 k5)]) _ (m0 kr ⟨_, CZ.start _ _, r405, AN.refl _, rfl, z1⟩) ?_
  rintro tt e1 F410 _ ⟨k5, gm, r408, kj, rfl, tu⟩
  refine Az _ tu (AI (uv (AV rfl rfl) ?_))
  refine Aa (At ?_)
  refine cQ (fun iz => ?_) fun iz => ?_
  ·obtain ⟨tt, rfl, tv⟩ := CZ.succ gm iz
   rw [Cp] at r408
   refine Aq ?_
   refine AK (fun e1 F1 L1 => FO k5 (Cp tt) = some r ∧ AN F410 F1 ∧ L1 = [] ∧ e1.sub [(129, .int .i64 k5)]) ?_ ?_
   ·refine Ap ?_
    refine AI (um (ua (Aa (At ?_))))
    obtain ⟨g415, r416⟩ := AX r408
    obtain ⟨kl, tw, tx, r419⟩ := A7 r416
    obtain ⟨km, tz, u0, r422⟩ := A7 r419
    refine Az [(129, .int .i64 k5), (130, .bool (decide (k5 < 54))), (131, .int .i64 k5), (13, .int .i64 k5)] z4 ?_
    refine NW [⟨[], 132, fun β => .slice (some ⟨(β 0 0), 0, none⟩) 1 1, fun β => [((β 0 0), ce #[.int .i64 0] 3)]⟩, ⟨[0], 133, fun β => .slice (some ⟨(β 1 0), 0, none⟩) 2 2, fun β => [((β 1 0), ce #[.slice none 0 0, .slice (some ⟨(β 0 0), 0, none⟩) 1 1] 22)]⟩, ⟨[], 134, fun _ => .int .i64 k5, fun _ => []⟩, ⟨[2], 135, fun _ => .int .i64 (Int.tmod k5 2), fun _ => []⟩, ⟨[0, 1, 2, 3], 136, fun β => .pointer (some ⟨(β 1 0), 0 + Int.toNat (Int.tmod k5 2) * 1, none⟩), fun _ => []⟩, ⟨[0, 1, 2, 3, 4], 137, fun β => Lk [(none, 0, 0), (some ⟨(β 0 0), 0, none⟩, 1, 1)] (Int.tmod k5 2), fun _ => []⟩, ⟨[], 138, fun β => .slice (some ⟨(β 6 0), 0, none⟩) 1 1, fun β => [((β 6 0), ce #[.int .i64 0] 3)]⟩, ⟨[], 139, fun β => .slice (some ⟨(β 7 0), 0, none⟩) 1 1, fun β => [((β 7 0), ce #[.int .i64 1] 3)]⟩, ⟨[], 140, fun β => .slice (some ⟨(β 8 0), 0, none⟩) 2 2, fun β => [((β 8 0), ce #[.int .i64 1, .int .i64 0] 3)]⟩, ⟨[6, 7, 8], 141, fun β => .slice (some ⟨(β 9 0), 0, none⟩) 4 4, fun β => [((β 9 0), ce #[.slice none 0 0, .slice (some ⟨(β 6 0), 0, none⟩) 1 1, .slice (some ⟨(β 7 0), 0, none⟩) 1 1, .slice (some ⟨(β 8 0), 0, none⟩) 2 2] 22)]⟩, ⟨[], 142, fun _ => .int .i64 k5, fun _ => []⟩, ⟨[10], 143, fun _ => .int .i64 (Int.tdiv k5 2), fun _ => []⟩, ⟨[10, 11], 144, fun _ => .int .i64 (Int.tmod (Int.tdiv k5 2) 4), fun _ => []⟩, ⟨[6, 7, 8, 9, 10, 11, 12], 145, fun β => .pointer (some ⟨(β 9 0), 0 + Int.toNat (Int.tmod (Int.tdiv k5 2) 4) * 1, none⟩), fun _ => []⟩, ⟨[6, 7, 8, 9, 10, 11, 12, 13], 146, fun β => Lk [(none, 0, 0), (some ⟨(β 6 0), 0, none⟩, 1, 1), (some ⟨(β 7 0), 0, none⟩, 1, 1), (some ⟨(β 8 0), 0, none⟩, 2, 2)] (Int.tmod (Int.tdiv k5 2) 4), fun _ => []⟩, ⟨[0, 1, 2, 3, 4, 5, 6, 7, 8, 9, 10, 11, 12, 13, 14], 147, fun β => .slice (some ⟨(β 15 0), 0, none⟩) 3 3, fun β => [((β 15 0), ce (#[.slice none 0 0, Lk [(none, 0, 0), (some ⟨(β 0 0), 0, none⟩, 1, 1)] (Int.tmod k5 2), Lk [(none, 0, 0), (some ⟨(β 6 0), 0, none⟩, 1, 1), (some ⟨(β 7 0), 0, none⟩, 1, 1), (some ⟨(β 8 0), 0, none⟩, 2, 2)] (Int.tmod (Int.tdiv k5 2) 4)]) 22)]⟩, ⟨[0, 1, 2, 3, 4, 5, 6, 7, 8, 9, 10, 11, 12, 13, 14, 15], 148, fun β => .agg #[.slice (some ⟨(β 15 0), 0, none⟩) 3 3, .slice none 0 0], fun _ => []⟩, ⟨[], 14, fun β => .pointer (some ⟨(β 17 0), 0, none⟩), fun β => [((β 17 0), ce #[.slice none 0 0, .slice none 0 0] 26)]⟩] (by kernel_rfl) (by kernel_rfl) (.cons ?_ (.cons ?_ (.cons ?_ (.cons ?_ (.cons ?_ (.cons ?_ (.cons ?_ (.cons ?_ (.cons ?_ (.cons ?_ (.cons ?_ (.cons ?_ (.cons ?_ (.cons ?_ (.cons ?_ (.cons ?_ (.cons ?_ (.cons ?_ .nil)))))))))))))))))) ?_
    ·refine ⟨fun β da h => by simp (disch := simp) only [h, and_self], _, rfl, fun β Lr Q hk => ?_⟩
     refine bA (cs := #[.int .i64 0]) BN [.int .i64 0] ?_; intro b431 u1
     refine Aa ⟨rfl, _, rfl, hk (fun _ => b431) fun _ => u1⟩
    ·refine ⟨fun β da h => by simp (disch := simp) only [h, and_self], _, rfl, fun β Lr Q hk => ?_⟩
     refine bA (cs := #[.slice none 0 0, .slice (some ⟨(β 0 0), 0, none⟩) 1 1]) FP [.slice none 0 0, .slice (some ⟨(β 0 0), 0, none⟩) 1 1] ?_; intro b432 u4
     refine Aa ⟨rfl, _, rfl, hk (fun _ => b432) fun _ => u4⟩
    ·refine ⟨fun β da h => by simp (disch := simp) only [and_self], _, rfl, fun β Lr Q hk => ?_⟩
     refine um ?_
     refine Aa ⟨rfl, _, rfl, hk (fun _ => K.w0.heap.size) fun _ => Nat.le_refl _⟩
    ·refine ⟨fun β da h => by simp (disch := simp) only [and_self], _, rfl, fun β Lr Q hk => ?_⟩
     refine uv (Fp rfl rfl (by decide)) ?_
     refine Aa ⟨rfl, _, rfl, hk (fun _ => K.w0.heap.size) fun _ => Nat.le_refl _⟩
    ·refine ⟨fun β da h => by simp (disch := simp) only [h, and_self], _, rfl, fun β Lr Q hk => ?_⟩
     refine uv (CU (i := Int.tmod k5 2) underlying23 sizeOf22 rfl rfl tw) ?_
     refine Aa ⟨rfl, _, rfl, hk (fun _ => K.w0.heap.size) fun _ => Nat.le_refl _⟩
    ·refine ⟨fun β da h => by simp (disch := simp) only [h, and_self], _, rfl, fun β Lr Q hk => ?_⟩
     refine uv (Ao isAgg22 rfl (Has.own 1 rfl) (Ps (hs := [(none, 0, 0), (some ⟨(β 0 0), 0, none⟩, 1, 1)]) rfl tw rfl)) ?_
     refine Aa ⟨rfl, _, rfl, hk (fun _ => K.w0.heap.size) fun _ => Nat.le_refl _⟩
    ·refine ⟨fun β da h => by simp (disch := simp) only [h, and_self], _, rfl, fun β Lr Q hk => ?_⟩
     refine bA (cs := #[.int .i64 0]) BN [.int .i64 0] ?_; intro b433 u5
     refine Aa ⟨rfl, _, rfl, hk (fun _ => b433) fun _ => u5⟩
    ·refine ⟨fun β da h => by simp (disch := simp) only [h, and_self], _, rfl, fun β Lr Q hk => ?_⟩
     refine bA (cs := #[.int .i64 1]) BN [.int .i64 1] ?_; intro b434 u6
     refine Aa ⟨rfl, _, rfl, hk (fun _ => b434) fun _ => u6⟩
    ·refine ⟨fun β da h => by simp (disch := simp) only [h, and_self], _, rfl, fun β Lr Q hk => ?_⟩
     refine bA (cs := #[.int .i64 1, .int .i64 0]) BN [.int .i64 1, .int .i64 0] ?_; intro b435 u7
     refine Aa ⟨rfl, _, rfl, hk (fun _ => b435) fun _ => u7⟩
    ·refine ⟨fun β da h => by simp (disch := simp) only [h, and_self], _, rfl, fun β Lr Q hk => ?_⟩
     refine bA (cs := #[.slice none 0 0, .slice (some ⟨(β 6 0), 0, none⟩) 1 1, .slice (some ⟨(β 7 0), 0, none⟩) 1 1, .slice (some ⟨(β 8 0), 0, none⟩) 2 2]) FP [.slice none 0 0, .slice (some ⟨(β 6 0), 0, none⟩) 1 1, .slice (some ⟨(β 7 0), 0, none⟩) 1 1, .slice (some ⟨(β 8 0), 0, none⟩) 2 2] ?_; intro b436 u9
     refine Aa ⟨rfl, _, rfl, hk (fun _ => b436) fun _ => u9⟩
    ·refine ⟨fun β da h => by simp (disch := simp) only [and_self], _, rfl, fun β Lr Q hk => ?_⟩
     refine um ?_
     refine Aa ⟨rfl, _, rfl, hk (fun _ => K.w0.heap.size) fun _ => Nat.le_refl _⟩
    ·refine ⟨fun β da h => by simp (disch := simp) only [and_self], _, rfl, fun β Lr Q hk => ?_⟩
     refine uv (N3 rfl rfl g415) ?_
     refine Aa ⟨rfl, _, rfl, hk (fun _ => K.w0.heap.size) fun _ => Nat.le_refl _⟩
    ·refine ⟨fun β da h => by simp (disch := simp) only [and_self], _, rfl, fun β Lr Q hk => ?_⟩
     refine uv (Fp rfl rfl (by decide)) ?_
     refine Aa ⟨rfl, _, rfl, hk (fun _ => K.w0.heap.size) fun _ => Nat.le_refl _⟩
    ·refine ⟨fun β da h => by simp (disch := simp) only [h, and_self], _, rfl, fun β Lr Q hk => ?_⟩
     refine uv (CU (i := Int.tmod (Int.tdiv k5 2) 4) underlying23 sizeOf22 rfl rfl tz) ?_
     refine Aa ⟨rfl, _, rfl, hk (fun _ => K.w0.heap.size) fun _ => Nat.le_refl _⟩
    ·refine ⟨fun β da h => by simp (disch := simp) only [h, and_self], _, rfl, fun β Lr Q hk => ?_⟩
     refine uv (Ao isAgg22 rfl (Has.own 3 rfl) (Ps (hs := [(none, 0, 0), (some ⟨(β 6 0), 0, none⟩, 1, 1), (some ⟨(β 7 0), 0, none⟩, 1, 1), (some ⟨(β 8 0), 0, none⟩, 2, 2)]) rfl tz rfl)) ?_
     refine Aa ⟨rfl, _, rfl, hk (fun _ => K.w0.heap.size) fun _ => Nat.le_refl _⟩
    ·refine ⟨fun β da h => by simp (disch := simp) only [h, and_self], _, rfl, fun β Lr Q hk => ?_⟩
     refine Gn (cs := #[.slice none 0 0, Lk [(none, 0, 0), (some ⟨(β 0 0), 0, none⟩, 1, 1)] (Int.tmod k5 2), Lk [(none, 0, 0), (some ⟨(β 6 0), 0, none⟩, 1, 1), (some ⟨(β 7 0), 0, none⟩, 1, 1), (some ⟨(β 8 0), 0, none⟩, 2, 2)] (Int.tmod (Int.tdiv k5 2) 4)]) rfl rfl (IE FP [.slice none 0 0, Lk [(none, 0, 0), (some ⟨(β 0 0), 0, none⟩, 1, 1)] (Int.tmod k5 2), Lk [(none, 0, 0), (some ⟨(β 6 0), 0, none⟩, 1, 1), (some ⟨(β 7 0), 0, none⟩, 1, 1), (some ⟨(β 8 0), 0, none⟩, 2, 2)] (Int.tmod (Int.tdiv k5 2) 4)] rfl (by decide) (by simp [Value.cells, Lk]) (by decide)) ?_; intro b437 ub
     refine Aa ⟨rfl, _, rfl, hk (fun _ => b437) fun _ => ub⟩
    ·refine ⟨fun β da h => by simp (disch := simp) only [h, and_self], _, rfl, fun β Lr Q hk => ?_⟩
     refine uv (BL (v := .agg #[.slice (some ⟨(β 15 0), 0, none⟩) 3 3, .slice none 0 0]) rfl (by intro w; kernel_rfl)) ?_
     refine Aa ⟨rfl, _, rfl, hk (fun _ => K.w0.heap.size) fun _ => Nat.le_refl _⟩
    ·refine ⟨fun β da h => by simp (disch := simp) only [h, and_self], _, rfl, fun β Lr Q hk => ?_⟩
     refine A1 rfl zeroValue26 ?_; intro b438 uc
     refine Aa ⟨rfl, _, rfl, hk (fun _ => b438) fun _ => uc⟩
    intro β e9 L9 dh cu cv
    replace cu : e9.sub [(129, .int .i64 k5), (130, .bool (decide (k5 < 54))), (131, .int .i64 k5), (13, .int .i64 k5), (132, .slice (some ⟨(β 0 0), 0, none⟩) 1 1), (133, .slice (some ⟨(β 1 0), 0, none⟩) 2 2), (134, .int .i64 k5), (135, .int .i64 (Int.tmod k5 2)), (136, .pointer (some ⟨(β 1 0), 0 + Int.toNat (Int.tmod k5 2) * 1, none⟩)), (137, Lk [(none, 0, 0), (some ⟨(β 0 0), 0, none⟩, 1, 1)] (Int.tmod k5 2)), (138, .slice (some ⟨(β 6 0), 0, none⟩) 1 1), (139, .slice (some ⟨(β 7 0), 0, none⟩) 1 1), (140, .slice (some ⟨(β 8 0), 0, none⟩) 2 2), (141, .slice (some ⟨(β 9 0), 0, none⟩) 4 4), (142, .int .i64 k5), (143, .int .i64 (Int.tdiv k5 2)), (144, .int .i64 (Int.tmod (Int.tdiv k5 2) 4)), (145, .pointer (some ⟨(β 9 0), 0 + Int.toNat (Int.tmod (Int.tdiv k5 2) 4) * 1, none⟩)), (146, Lk [(none, 0, 0), (some ⟨(β 6 0), 0, none⟩, 1, 1), (some ⟨(β 7 0), 0, none⟩, 1, 1), (some ⟨(β 8 0), 0, none⟩, 2, 2)] (Int.tmod (Int.tdiv k5 2) 4)), (147, .slice (some ⟨(β 15 0), 0, none⟩) 3 3), (148, .agg #[.slice (some ⟨(β 15 0), 0, none⟩) 3 3, .slice none 0 0]), (14, .pointer (some ⟨(β 17 0), 0, none⟩))] := cu
    replace cv : L9.Perm ([((β 0 0), ce #[.int .i64 0] 3), ((β 1 0), ce #[.slice none 0 0, .slice (some ⟨(β 0 0), 0, none⟩) 1 1] 22), ((β 6 0), ce #[.int .i64 0] 3), ((β 7 0), ce #[.int .i64 1] 3), ((β 8 0), ce #[.int .i64 1, .int .i64 0] 3), ((β 9 0), ce #[.slice none 0 0, .slice (some ⟨(β 6 0), 0, none⟩) 1 1, .slice (some ⟨(β 7 0), 0, none⟩) 1 1, .slice (some ⟨(β 8 0), 0, none⟩) 2 2] 22), ((β 15 0), ce (#[.slice none 0 0, Lk [(none, 0, 0), (some ⟨(β 0 0), 0, none⟩, 1, 1)] (Int.tmod k5 2), Lk [(none, 0, 0), (some ⟨(β 6 0), 0, none⟩, 1, 1), (some ⟨(β 7 0), 0, none⟩, 1, 1), (some ⟨(β 8 0), 0, none⟩, 2, 2)] (Int.tmod (Int.tdiv k5 2) 4)]) 22), ((β 17 0), ce #[.slice none 0 0, .slice none 0 0] 26)]) := cv
    have ko := dh 0 0; generalize β 0 0 = b439 at cu cv ko
    have ud := dh 1 0; generalize β 1 0 = b440 at cu cv ud
    have kt := dh 6 0; generalize β 6 0 = b441 at cu cv kt
    have ku := dh 7 0; generalize β 7 0 = b442 at cu cv ku
    have kv := dh 8 0; generalize β 8 0 = b443 at cu cv kv
    have ue := dh 9 0; generalize β 9 0 = b444 at cu cv ue
    have uf := dh 15 0; generalize β 15 0 = b445 at cu cv uf
    have ug := dh 17 0; generalize β 17 0 = ew at cu cv ug
    clear dh; refine Na _ cu ?_; refine BK cv ?_
    refine A6 (i := 7) sizeOf26 rfl rfl rfl (by simp [Value.oneCell']) rfl (A5 rfl) (AD rfl ?_)
    refine AO 0 rfl ko ?_; intro uh ui uj
    refine AD rfl ?_
    have h450 : Au 1 (iE .i64) uh (some ⟨b439, 0, none⟩) 1 [0] := Au.AG (Ae _) (vss := [[.int .i64 0]]) (xs := [0]) uj (.cons rfl .nil) rfl (by simp [maxLen])
    obtain ⟨ey, ez, uk, fa⟩ := Pt (R := (iE .i64)) (F := uh) (hs := [(none, 0, 0), (some ⟨b439, 0, none⟩, 1, 1)]) (sz := 1) (.cons ⟨rfl, Au.nil _ _ _⟩ (.cons ⟨rfl, h450⟩ .nil)) tx
    rw [uk]
    refine AO 1 rfl kt ?_; intro F455 kz uo
    refine AD rfl ?_
    replace fa := fa.mono (Ae _) kz
    have gn : Au 1 (iE .i64) F455 (some ⟨b441, 0, none⟩) 1 [0] := Au.AG (Ae _) (vss := [[.int .i64 0]]) (xs := [0]) uo (.cons rfl .nil) rfl (by simp [maxLen])
    refine AO 1 rfl ku ?_; intro F459 gp uq
    refine AD rfl ?_
    replace fa := fa.mono (Ae _) gp
    replace gn := gn.mono (Ae _) gp
    have o1 : Au 1 (iE .i64) F459 (some ⟨b442, 0, none⟩) 1 [1] := Au.AG (Ae _) (vss := [[.int .i64 1]]) (xs := [1]) uq (.cons rfl .nil) rfl (by simp [maxLen])
    refine AO 1 rfl kv ?_; intro g0 fi ur
    refine AD rfl ?_
    replace fa := fa.mono (Ae _) fi
    replace gn := gn.mono (Ae _) fi
    replace o1 := o1.mono (Ae _) fi
    have h466 : Au 1 (iE .i64) g0 (some ⟨b443, 0, none⟩) 2 [1, 0] := Au.AG (Ae _) (vss := [[.int .i64 1], [.int .i64 0]]) (xs := [1, 0]) ur (.cons rfl (.cons rfl .nil)) rfl (by simp [maxLen])
    obtain ⟨fb, fe, uu, h468⟩ := Pt (R := (iE .i64)) (F := g0) (hs := [(none, 0, 0), (some ⟨b441, 0, none⟩, 1, 1), (some ⟨b442, 0, none⟩, 1, 1), (some ⟨b443, 0, none⟩, 2, 2)]) (sz := 1) (.cons ⟨rfl, Au.nil _ _ _⟩ (.cons ⟨rfl, gn⟩ (.cons ⟨rfl, o1⟩ (.cons ⟨rfl, h466⟩ .nil)))) u0
    rw [uu]
    refine Aa ?_
    obtain ⟨fj, h477, uw⟩ := AB r422
    refine AK (fun e1 F1 L1 => ∃ (j0 : Option Addr) (j1 : Nat) (j2 : Nat) (fk : LH), g0 = F1 ∧ L1 = ((b445, ce #[.slice none 0 0, .slice ey kl.length ez, .slice fb km.length fe] 22) :: ((ew, ce #[.slice (some ⟨b445, 0, none⟩) 3 3, .slice j0 j1 j2] 26) :: (fk ++ []))) ∧ e1.sub [(13, .int .i64 k5), (14, .pointer (some ⟨ew, 0, none⟩)), (129, .int .i64 k5)] ∧ BG K.w0.heap.size 36 35 1 (iE .i64) F1 j0 j1 j2 fj fk) ?_ ?_
    ·clear uw
     refine AI (um ?_)
     refine uv (Fp rfl rfl (by decide)) ?_
     obtain ⟨g479, r480⟩ := AX h477
     refine uv (AY rfl rfl g479) ?_
     refine um (Aa ?_)
     refine Ap (kW (kd (kd kr)) ?_)
     obtain ⟨g487, r488⟩ := AX r480
     refine A2 (fun fu8 e1 F1 L1 => ∃ (k6 : Int), CZ 0 (1 + (Int.tmod k5 2)) k6 fu8 ∧ ∃ (di : List (List Int)) (g8 : Option Addr) (ga : Nat) (gb : Nat) (dw : LH), C6 k5 fu8 k6 di = some fj ∧ g0 = F1 ∧ L1 = ((b445, ce #[.slice none 0 0, .slice ey kl.length ez, .slice fb km.length fe] 22) :: ((ew, ce #[.slice (some ⟨b445, 0, none⟩) 3 3, .slice g8 ga gb] 26) :: (dw ++ []))) ∧ e1.sub [(13, .int .i64 k5), (14, .pointer (some ⟨ew, 0, none⟩)), (129, .int .i64 k5), (151, .int .i64 (1 + (Int.tmod k5 2))), (152, .int .i64 k6)] ∧ BG K.w0.heap.size 36 35 1 (iE .i64) F1 g8 ga gb di dw) _ (m0 (kc (kc (ke kr))) ⟨_, CZ.start _ _, [], none, 0, 0, [], r488, rfl, rfl, z5, BG.nil _ _ _ _ _ _⟩) ?_
     rintro fu8 e1 _ _ ⟨k6, gq, di, g8, ga, gb, dw, j3, rfl, rfl, ux, la⟩
     refine Az _ ux (AI (uv (AV rfl rfl) ?_))
     refine Aa (At ?_)
     refine cQ (fun j4 => ?_) fun j4 => ?_
     ·obtain ⟨fu8, rfl, uy⟩ := CZ.succ gq j4
      rw [C6] at j3
      refine Aq (At ?_)
      refine Ap ?_
      refine AI (um (ua (BI (um (um ?_)))))
      obtain ⟨g496, r497⟩ := AX j3
      refine uv (NU rfl rfl g496) ?_
      obtain ⟨g498, r499⟩ := AX r497
      refine uv (AY rfl rfl g498) ?_
      refine ua (Aa (An ?_))
      refine uv (Av Bz rfl) (uv (Ao isAgg24 rfl (Has.own 1 rfl) rfl) (um (uv (Fp rfl rfl (by decide)) (um ?_))))
      obtain ⟨g500, r501⟩ := AX r499
      refine uv (N3 rfl rfl g500) (uv (Fp rfl rfl (by decide)) (um ?_))
      obtain ⟨g502, r503⟩ := AX r501
      refine uv (N3 rfl rfl g502) (uv (Fp rfl rfl (by decide)) ?_)
      refine bA (cs := #[.int .i64 (Int.tmod (k5 + (7 * k6)) 3), .int .i64 (Int.tmod (Int.tdiv (k5 + (7 * k6)) 3) 3), .int .i64 (Int.tmod (Int.tdiv (k5 + (7 * k6)) 9) 3)]) Kp [.int .i64 (Int.tmod (k5 + (7 * k6)) 3), .int .i64 (Int.tmod (Int.tdiv (k5 + (7 * k6)) 3) 3), .int .i64 (Int.tmod (Int.tdiv (k5 + (7 * k6)) 9) 3)] ?_; intro dk uz
      refine bA (cs := #[.slice (some ⟨dk, 0, none⟩) 3 3]) KX [.slice (some ⟨dk, 0, none⟩) 3 3] ?_; intro va hb505
      have ld : AW K.w0.heap.size 35 1 (iE .i64) g0 (some ⟨dk, 0, none⟩) 3 3 [Int.tmod (k5 + (7 * k6)) 3, Int.tmod (Int.tdiv (k5 + (7 * k6)) 3) 3, Int.tmod (Int.tdiv (k5 + (7 * k6)) 9) 3] [(dk, ce #[.int .i64 (Int.tmod (k5 + (7 * k6)) 3), .int .i64 (Int.tmod (Int.tdiv (k5 + (7 * k6)) 3) 3), .int .i64 (Int.tmod (Int.tdiv (k5 + (7 * k6)) 9) 3)] 35)] := AW.AG (vss := [[.int .i64 (Int.tmod (k5 + (7 * k6)) 3)], [.int .i64 (Int.tmod (Int.tdiv (k5 + (7 * k6)) 3) 3)], [.int .i64 (Int.tmod (Int.tdiv (k5 + (7 * k6)) 9) 3)]]) (Ae _) uz (.cons rfl (.cons rfl (.cons rfl .nil))) rfl rfl (by simp [maxLen])
      generalize j5 : ([(dk, ce #[.int .i64 (Int.tmod (k5 + (7 * k6)) 3), .int .i64 (Int.tmod (Int.tdiv (k5 + (7 * k6)) 3) 3), .int .i64 (Int.tmod (Int.tdiv (k5 + (7 * k6)) 9) 3)] 35)] : LH) = Lb506 at ld
      refine BK (L' := Lb506 ++ ((va, ce #[.slice (some ⟨dk, 0, none⟩) 3 3] 36) :: ((b445, ce #[.slice none 0 0, .slice ey kl.length ez, .slice fb km.length fe] 22) :: ((ew, ce #[.slice (some ⟨b445, 0, none⟩) 3 3, .slice g8 ga gb] 26) :: (dw ++ []))))) (by rw [← j5]; exact (fC fO)) ?_
      refine BK (L' := (va, ce #[.slice (some ⟨dk, 0, none⟩) 3 3] 36) :: ((b445, ce #[.slice none 0 0, .slice ey kl.length ez, .slice fb km.length fe] 22) :: ((ew, ce #[.slice (some ⟨b445, 0, none⟩) 3 3, .slice g8 ga gb] 26) :: (Lb506 ++ (dw ++ []))))) (List.Perm.symm (fC (fC (fC fP)))) ?_
      obtain ⟨w, vb, g510, r511⟩ := E0 r503
      refine MF (fC (fC (fC (fS fP)))) la ?_; intro lg Lo515 Lc516 vc lh
      refine kO (kf (fS (fS fO)) (kf (fS (fS fO)) (kf (fS (fS fO)) kr))) ?_
      refine Dm (xs := lg) (ys := [(((some ⟨dk, 0, none⟩), 3, 3) : Hd)]) (zs := lg ++ [(((some ⟨dk, 0, none⟩), 3, 3) : Hd)]) rfl KX rfl rfl (Nat.le_refl _) (fun _ => .c (.c (.c .h))) vc (GO.box (vss := [[.slice (some ⟨dk, 0, none⟩) 3 3]]) (ys := [(((some ⟨dk, 0, none⟩), 3, 3) : Hd)]) 0 rfl Cm (.cons rfl .nil) rfl rfl) rfl (QZ lh vb g510) (by decide) ?_; intro vd ve vf Lo520 vg
      refine kO (kd kr) ?_
      refine Bp (p := fun X => BG K.w0.heap.size 36 35 1 (iE .i64) g0 vd ve vf w X) (K3.push lh rfl vg ld vb) (pT ((fC (fC fP)).trans (pA ((fC (fC (fS fP))).trans (pA ((fC (fC fP)).trans (pA pR)))))) (lp (lp (lp (ln rfl))))) ?_; intro vh vi
      refine kO (kf (fS fO) (kf (fS fO) kr)) (uv (Av Bz rfl) (A0 (i := 1) sizeOf24 rfl rfl rfl rfl (A5 rfl) (AD rfl ?_)))
      refine Aa (Ax (id := 7) (An ?_))
      refine uv (AY rfl rfl (CZ.CC gq j4 g487)) ?_
      refine um (Aa ?_)
      exact le kr ⟨_, uy, w, vd, ve, vf, vh, r511, rfl, rfl, z5, vi⟩
     obtain rfl := CZ.zero gq j4
     rw [C6] at j3
     refine AL (Am (Am ?_))
     refine AA ?_
     obtain rfl := AH j3
     exact mi kr ⟨g8, ga, gb, dw, rfl, rfl, z3, la⟩
    rintro e1 _ _ ⟨j0, j1, j2, fk, rfl, rfl, vj, lj⟩
    refine Az _ vj (AI (uv (AE isAgg26 sizeOf26 rfl (Has.own 1 rfl) (A5 rfl) rfl) (um ?_)))
    obtain ⟨ok6, h526, vk⟩ := AB uw
    refine Bi (Lt := (b445, ce #[.slice none 0 0, .slice ey kl.length ez, .slice fb km.length fe] 22) :: (fk ++ [])) (Lr := [(ew, ce #[.slice (some ⟨b445, 0, none⟩) 3 3, .slice j0 j1 j2] 26)]) rfl call11 rfl rfl rfl (pT (pC ((fC fP).trans (pA pR))) (lb (lp (ln rfl)))) (fun F2 h2 h3 => by rw [(BG.Be lj).1]; exact MC (Au.AG (Ak (Ae _)) (vss := [[.slice none 0 0], [.slice ey kl.length ez], [.slice fb km.length fe]]) (xs := ([[], kl, km] : List (List Int))) (h3 (b445, ce #[.slice none 0 0, .slice ey kl.length ez, .slice fb km.length fe] 22) (List.mem_cons_self ..)) (.cons ⟨_, _, rfl, Au.nil _ _ _⟩ (.cons ⟨_, _, rfl, (fa.mono (Ae _) h2)⟩ (.cons ⟨_, _, rfl, (h468.mono (Ae _) h2)⟩ .nil))) rfl (by simp [maxLen])) (lj.row (Ae _) h2 (fun p hp => h3 p (List.mem_cons_of_mem _ (List.mem_append_left _ hp)))) h526) ?_
    refine uv (BM rfl) (Aa ?_)
    refine AT rfl (fun o2 => ?_) (fun o2 => ?_)
    ·have r529 := bt vk o2
     refine AI (ua (Aa ?_))
     refine kW kn ?_
     refine As (Ay (Al (Al (Ay (Al ?_)))))
     refine BD results3 ?_
     obtain rfl := AH r529
     exact rfl
    have r530 := bf vk o2
    refine Aq (Ax (id := 5) ?_)
    exact mi kn ⟨r530, (((ui.trans kz).trans gp).trans fi), rfl, z1⟩
   rintro e1 F533 _ ⟨vl, vm, rfl, vn⟩
   refine Az _ vn ?_
   rw [FO] at vl
   refine An (uv (AY rfl rfl (CZ.CC gm iz g404)) ?_)
   refine um (Aa ?_)
   exact le kr ⟨_, tv, vl, (kj.trans vm), rfl, z1⟩
  obtain rfl := CZ.zero gm iz
  rw [Cp] at r408
  refine AL (Am (Am ?_))
  refine AA ?_
  exact mi kr ⟨r408, kj, rfl, (sn _)⟩
 rintro e1 vo _ ⟨vp, hF538, rfl, vq⟩
 refine Az _ vq ?_
 rw [FQ] at vp
 refine AK (fun e1 F1 L1 => FB = some r ∧ AN vo F1 ∧ L1 = [] ∧ e1.sub []) ?_ ?_
 ·refine AI (um (Aa ?_))
  refine Ap ?_
  obtain ⟨g539, r540⟩ := AX vp
  refine A2 (fun gr e1 F1 L1 => ∃ (k7 : Int), CZ 0 10 k7 gr ∧ Cc gr k7 = some r ∧ AN vo F1 ∧ L1 = [] ∧ e1.sub [(179, .int .i64 k7)]) _ (m0 kr ⟨_, CZ.start _ _, r540, AN.refl _, rfl, z1⟩) ?_
  rintro gr e1 gu _ ⟨k7, gv, j6, lk, rfl, vr⟩
  refine Az _ vr (AI (uv (AV rfl rfl) ?_))
  refine Aa (At ?_)
  refine cQ (fun j7 => ?_) fun j7 => ?_
  ·obtain ⟨gr, rfl, vt⟩ := CZ.succ gv j7
   rw [Cc] at j6
   refine Aq ?_
   refine AK (fun e1 F1 L1 => Fs k7 (Cc gr) = some r ∧ AN gu F1 ∧ L1 = [] ∧ e1.sub [(179, .int .i64 k7)]) ?_ ?_
   ·refine Ap ?_
    refine AI (um (ua (Aa (At ?_))))
    obtain ⟨vu, r551⟩ := AX j6
    obtain ⟨g552, r553⟩ := AX r551
    obtain ⟨y3, y4, h554, r555⟩ := A9 r553
    refine Az [(179, .int .i64 k7), (180, .bool (decide (k7 < 10))), (181, .int .i64 k7), (17, .int .i64 k7)] z4 ?_
    refine NW [⟨[], 182, fun _ => .int .i64 k7, fun _ => []⟩, ⟨[0], 183, fun β => .slice (some ⟨(β 1 0), 0, none⟩) (Int.toNat k7) (Int.toNat k7), fun β => [((β 1 0), ce (madeCells (.slice none 0 0 : Value).cells ((Int.toNat k7) * 1)) 22)]⟩, ⟨[], 184, fun _ => .int .i64 k7, fun _ => []⟩, ⟨[2], 185, fun β => .slice (some ⟨(β 3 0), 0, none⟩) (Int.toNat k7) (Int.toNat k7), fun β => [((β 3 0), ce (madeCells (.int .i64 0 : Value).cells ((Int.toNat k7) * 1)) 35)]⟩, ⟨[2, 3], 186, fun β => .slice (some ⟨(β 4 0), 0, none⟩) 1 1, fun β => [((β 4 0), ce #[.slice (some ⟨(β 3 0), 0, none⟩) (Int.toNat k7) (Int.toNat k7)] 36)]⟩, ⟨[0, 1, 2, 3, 4], 187, fun β => .agg #[.slice (some ⟨(β 1 0), 0, none⟩) (Int.toNat k7) (Int.toNat k7), .slice (some ⟨(β 4 0), 0, none⟩) 1 1], fun _ => []⟩, ⟨[], 188, fun β => .agg #[.slice (some ⟨(β 6 0), 0, none⟩) 4 4, .slice (some ⟨(β 6 4), 0, none⟩) 2 2], fun β => [((β 6 0), ce #[.slice none 0 0, .slice (some ⟨(β 6 1), 0, none⟩) 1 1, .slice (some ⟨(β 6 2), 0, none⟩) 1 1, .slice (some ⟨(β 6 3), 0, none⟩) 2 2] 22), ((β 6 1), ce #[.int .i64 0] 3), ((β 6 2), ce #[.int .i64 1] 3), ((β 6 3), ce #[.int .i64 0, .int .i64 2] 3), ((β 6 4), ce #[.slice (some ⟨(β 6 5), 0, none⟩) 4 4, .slice (some ⟨(β 6 6), 0, none⟩) 4 4] 36), ((β 6 5), ce #[.int .i64 0, .int .i64 0, .int .i64 2, .int .i64 1] 35), ((β 6 6), ce #[.int .i64 0, .int .i64 0, .int .i64 2, .int .i64 0] 35)]⟩, ⟨[], 18, fun β => .pointer (some ⟨(β 7 0), 0, none⟩), fun β => [((β 7 0), ce #[.slice none 0 0, .slice none 0 0] 26)]⟩, ⟨[], 19, fun β => .pointer (some ⟨(β 8 0), 0, none⟩), fun β => [((β 8 0), ce #[.slice none 0 0, .slice none 0 0] 26)]⟩] (by kernel_rfl) (by kernel_rfl) (.cons ?_ (.cons ?_ (.cons ?_ (.cons ?_ (.cons ?_ (.cons ?_ (.cons ?_ (.cons ?_ (.cons ?_ .nil))))))))) ?_
    ·refine ⟨fun β da h => by simp (disch := simp) only [and_self], _, rfl, fun β Lr Q hk => ?_⟩
     refine um ?_
     refine Aa ⟨rfl, _, rfl, hk (fun _ => K.w0.heap.size) fun _ => Nat.le_refl _⟩
    ·refine ⟨fun β da h => by simp (disch := simp) only [h, and_self], _, rfl, fun β Lr Q hk => ?_⟩
     refine QS rfl (Ou FP (by decide) rfl vu) ?_; intro b572 hb572
     refine AD rfl ?_
     refine Aa ⟨rfl, _, rfl, hk (fun _ => b572) fun _ => hb572⟩
    ·refine ⟨fun β da h => by simp (disch := simp) only [and_self], _, rfl, fun β Lr Q hk => ?_⟩
     refine um ?_
     refine Aa ⟨rfl, _, rfl, hk (fun _ => K.w0.heap.size) fun _ => Nat.le_refl _⟩
    ·refine ⟨fun β da h => by simp (disch := simp) only [h, and_self], _, rfl, fun β Lr Q hk => ?_⟩
     refine QS rfl (Ou Kp (by decide) rfl g552) ?_; intro b573 hb573
     refine AD rfl ?_
     refine Aa ⟨rfl, _, rfl, hk (fun _ => b573) fun _ => hb573⟩
    ·refine ⟨fun β da h => by simp (disch := simp) only [h, and_self], _, rfl, fun β Lr Q hk => ?_⟩
     refine bA (cs := #[.slice (some ⟨(β 3 0), 0, none⟩) (Int.toNat k7) (Int.toNat k7)]) KX [.slice (some ⟨(β 3 0), 0, none⟩) (Int.toNat k7) (Int.toNat k7)] ?_; intro b574 hb574
     refine Aa ⟨rfl, _, rfl, hk (fun _ => b574) fun _ => hb574⟩
    ·refine ⟨fun β da h => by simp (disch := simp) only [h, and_self], _, rfl, fun β Lr Q hk => ?_⟩
     refine uv (BL (v := .agg #[.slice (some ⟨(β 1 0), 0, none⟩) (Int.toNat k7) (Int.toNat k7), .slice (some ⟨(β 4 0), 0, none⟩) 1 1]) rfl (by intro w; kernel_rfl)) ?_
     refine Aa ⟨rfl, _, rfl, hk (fun _ => K.w0.heap.size) fun _ => Nat.le_refl _⟩
    ·refine ⟨fun β da h => by simp (disch := simp) only [h, and_self], _, rfl, fun β Lr Q hk => ?_⟩
     refine c0 call4 (Cd h554) ?_; rintro _ _ _ hF576 dm ⟨b579, b580, b581, b582, b583, b584, b585, rfl, rfl, rfl⟩
     have hb579 := dm _ (List.mem_cons_self ..)
     have hb580 := dm _ (List.mem_cons_of_mem _ (List.mem_cons_self ..))
     have hb581 := dm _ (List.mem_cons_of_mem _ (List.mem_cons_of_mem _ (List.mem_cons_self ..)))
     have hb582 := dm _ (List.mem_cons_of_mem _ (List.mem_cons_of_mem _ (List.mem_cons_of_mem _ (List.mem_cons_self ..))))
     have hb583 := dm _ (List.mem_cons_of_mem _ (List.mem_cons_of_mem _ (List.mem_cons_of_mem _ (List.mem_cons_of_mem _ (List.mem_cons_self ..)))))
     have hb584 := dm _ (List.mem_cons_of_mem _ (List.mem_cons_of_mem _ (List.mem_cons_of_mem _ (List.mem_cons_of_mem _ (List.mem_cons_of_mem _ (List.mem_cons_self ..))))))
     have hb585 := dm _ (List.mem_cons_of_mem _ (List.mem_cons_of_mem _ (List.mem_cons_of_mem _ (List.mem_cons_of_mem _ (List.mem_cons_of_mem _ (List.mem_cons_of_mem _ (List.mem_cons_self ..)))))))
     refine AD (lb (lb (lb (lb (lb (lb (lb (ln rfl)))))))) ?_
     refine Aa ⟨rfl, _, rfl, hk (fun k => [b579, b580, b581, b582, b583, b584, b585].getD k K.w0.heap.size) (RP (fc hb579 (fc hb580 (fc hb581 (fc hb582 (fc hb583 (fc hb584 (fc hb585 (fun _ h => nomatch h)))))))))⟩
    ·refine ⟨fun β da h => by simp (disch := simp) only [h, and_self], _, rfl, fun β Lr Q hk => ?_⟩
     refine A1 rfl zeroValue26 ?_; intro b586 hb586
     refine Aa ⟨rfl, _, rfl, hk (fun _ => b586) fun _ => hb586⟩
    ·refine ⟨fun β da h => by simp (disch := simp) only [h, and_self], _, rfl, fun β Lr Q hk => ?_⟩
     refine A1 rfl zeroValue26 ?_; intro b587 hb587
     refine Aa ⟨rfl, _, rfl, hk (fun _ => b587) fun _ => hb587⟩
    intro β e9 L9 dh cu cv
    replace cu : e9.sub [(179, .int .i64 k7), (180, .bool (decide (k7 < 10))), (181, .int .i64 k7), (17, .int .i64 k7), (182, .int .i64 k7), (183, .slice (some ⟨(β 1 0), 0, none⟩) (Int.toNat k7) (Int.toNat k7)), (184, .int .i64 k7), (185, .slice (some ⟨(β 3 0), 0, none⟩) (Int.toNat k7) (Int.toNat k7)), (186, .slice (some ⟨(β 4 0), 0, none⟩) 1 1), (187, .agg #[.slice (some ⟨(β 1 0), 0, none⟩) (Int.toNat k7) (Int.toNat k7), .slice (some ⟨(β 4 0), 0, none⟩) 1 1]), (188, .agg #[.slice (some ⟨(β 6 0), 0, none⟩) 4 4, .slice (some ⟨(β 6 4), 0, none⟩) 2 2]), (18, .pointer (some ⟨(β 7 0), 0, none⟩)), (19, .pointer (some ⟨(β 8 0), 0, none⟩))] := cu
    replace cv : L9.Perm ([((β 1 0), ce (madeCells (.slice none 0 0 : Value).cells ((Int.toNat k7) * 1)) 22), ((β 3 0), ce (madeCells (.int .i64 0 : Value).cells ((Int.toNat k7) * 1)) 35), ((β 4 0), ce #[.slice (some ⟨(β 3 0), 0, none⟩) (Int.toNat k7) (Int.toNat k7)] 36), ((β 6 0), ce #[.slice none 0 0, .slice (some ⟨(β 6 1), 0, none⟩) 1 1, .slice (some ⟨(β 6 2), 0, none⟩) 1 1, .slice (some ⟨(β 6 3), 0, none⟩) 2 2] 22), ((β 6 1), ce #[.int .i64 0] 3), ((β 6 2), ce #[.int .i64 1] 3), ((β 6 3), ce #[.int .i64 0, .int .i64 2] 3), ((β 6 4), ce #[.slice (some ⟨(β 6 5), 0, none⟩) 4 4, .slice (some ⟨(β 6 6), 0, none⟩) 4 4] 36), ((β 6 5), ce #[.int .i64 0, .int .i64 0, .int .i64 2, .int .i64 1] 35), ((β 6 6), ce #[.int .i64 0, .int .i64 0, .int .i64 2, .int .i64 0] 35), ((β 7 0), ce #[.slice none 0 0, .slice none 0 0] 26), ((β 8 0), ce #[.slice none 0 0, .slice none 0 0] 26)]) := cv
    have ll := dh 1 0; generalize β 1 0 = b588 at cu cv ll
    have lq := dh 3 0; generalize β 3 0 = b589 at cu cv lq
    have lr := dh 4 0; generalize β 4 0 = b590 at cu cv lr
    have hb591 := dh 6 0; generalize β 6 0 = b591 at cu cv hb591
    have hb592 := dh 6 1; generalize β 6 1 = b592 at cu cv hb592
    have hb593 := dh 6 2; generalize β 6 2 = b593 at cu cv hb593
    have hb594 := dh 6 3; generalize β 6 3 = b594 at cu cv hb594
    have lu := dh 6 4; generalize β 6 4 = b595 at cu cv lu
    have lv := dh 6 5; generalize β 6 5 = b596 at cu cv lv
    have lx := dh 6 6; generalize β 6 6 = b597 at cu cv lx
    have hb598 := dh 7 0; generalize β 7 0 = b598 at cu cv hb598
    have hb599 := dh 8 0; generalize β 8 0 = b599 at cu cv hb599
    clear dh; refine Na _ cu ?_; refine BK cv ?_
    refine A6 (i := 10) sizeOf26 rfl rfl rfl (by simp [Value.oneCell']) rfl (A5 rfl) (AD rfl (A6 (i := 11) sizeOf26 rfl rfl rfl (by simp [Value.oneCell']) rfl (A5 rfl) (AD rfl ?_)))
    obtain ⟨l4, h600, r601⟩ := BS r555
    have dp : AW K.w0.heap.size 35 1 (iE .i64) gu (some ⟨b589, 0, none⟩) (Int.toNat k7) (Int.toNat k7) l4 [(b589, ce (madeCells (.int .i64 0 : Value).cells ((Int.toNat k7) * 1)) 35)] := by rw [h600]; exact AW.made (Ae _) (by decide) (fun _ => rfl) lq (Pl g552)
    generalize j8 : ([(b589, ce (madeCells (.int .i64 0 : Value).cells ((Int.toNat k7) * 1)) 35)] : LH) = Lb602 at dp
    refine BK (L' := Lb602 ++ [(b588, ce (madeCells (.slice none 0 0 : Value).cells ((Int.toNat k7) * 1)) 22), (b590, ce #[.slice (some ⟨b589, 0, none⟩) (Int.toNat k7) (Int.toNat k7)] 36), (b591, ce #[.slice none 0 0, .slice (some ⟨b592, 0, none⟩) 1 1, .slice (some ⟨b593, 0, none⟩) 1 1, .slice (some ⟨b594, 0, none⟩) 2 2] 22), (b592, ce #[.int .i64 0] 3), (b593, ce #[.int .i64 1] 3), (b594, ce #[.int .i64 0, .int .i64 2] 3), (b595, ce #[.slice (some ⟨b596, 0, none⟩) 4 4, .slice (some ⟨b597, 0, none⟩) 4 4] 36), (b596, ce #[.int .i64 0, .int .i64 0, .int .i64 2, .int .i64 1] 35), (b597, ce #[.int .i64 0, .int .i64 0, .int .i64 2, .int .i64 0] 35), (b598, ce #[.slice (some ⟨b588, 0, none⟩) (Int.toNat k7) (Int.toNat k7), .slice (some ⟨b590, 0, none⟩) 1 1] 26), (b599, ce #[.slice (some ⟨b591, 0, none⟩) 4 4, .slice (some ⟨b595, 0, none⟩) 2 2] 26)]) (by rw [← j8]; exact (fC fO)) ?_
    refine BK (L' := (b588, ce (madeCells (.slice none 0 0 : Value).cells ((Int.toNat k7) * 1)) 22) :: ((b590, ce #[.slice (some ⟨b589, 0, none⟩) (Int.toNat k7) (Int.toNat k7)] 36) :: ((b591, ce #[.slice none 0 0, .slice (some ⟨b592, 0, none⟩) 1 1, .slice (some ⟨b593, 0, none⟩) 1 1, .slice (some ⟨b594, 0, none⟩) 2 2] 22) :: ((b592, ce #[.int .i64 0] 3) :: ((b593, ce #[.int .i64 1] 3) :: ((b594, ce #[.int .i64 0, .int .i64 2] 3) :: ((b595, ce #[.slice (some ⟨b596, 0, none⟩) 4 4, .slice (some ⟨b597, 0, none⟩) 4 4] 36) :: ((b596, ce #[.int .i64 0, .int .i64 0, .int .i64 2, .int .i64 1] 35) :: ((b597, ce #[.int .i64 0, .int .i64 0, .int .i64 2, .int .i64 0] 35) :: ((b598, ce #[.slice (some ⟨b588, 0, none⟩) (Int.toNat k7) (Int.toNat k7), .slice (some ⟨b590, 0, none⟩) 1 1] 26) :: ((b599, ce #[.slice (some ⟨b591, 0, none⟩) 4 4, .slice (some ⟨b595, 0, none⟩) 2 2] 26) :: (Lb602 ++ [])))))))))))) (List.Perm.symm (fC (fC (fC (fC (fC (fC (fC (fC (fC (fC (fC fP)))))))))))) ?_
    obtain ⟨aa, gw⟩ : ∃ n_ : Nat, n_ = (Int.toNat k7) := ⟨_, rfl⟩; rw [← gw] at dp
    refine Na [(179, .int .i64 k7), (180, .bool (decide (k7 < 10))), (181, .int .i64 k7), (17, .int .i64 k7), (182, .int .i64 k7), (183, .slice (some ⟨b588, 0, none⟩) (Int.toNat k7) (Int.toNat k7)), (184, .int .i64 k7), (185, .slice (some ⟨b589, 0, none⟩) aa aa), (186, .slice (some ⟨b590, 0, none⟩) 1 1), (187, .agg #[.slice (some ⟨b588, 0, none⟩) (Int.toNat k7) (Int.toNat k7), .slice (some ⟨b590, 0, none⟩) 1 1]), (188, .agg #[.slice (some ⟨b591, 0, none⟩) 4 4, .slice (some ⟨b595, 0, none⟩) 2 2]), (18, .pointer (some ⟨b598, 0, none⟩)), (19, .pointer (some ⟨b599, 0, none⟩))] (by subst gw; exact (sc rfl (sc rfl (sc rfl (sc rfl (sc rfl z8)))))) ?_
    refine AD (L' := (b588, ce (madeCells (.slice none 0 0 : Value).cells ((Int.toNat k7) * 1)) 22) :: ((b590, ce #[.slice (some ⟨b589, 0, none⟩) aa aa] 36) :: ((b591, ce #[.slice none 0 0, .slice (some ⟨b592, 0, none⟩) 1 1, .slice (some ⟨b593, 0, none⟩) 1 1, .slice (some ⟨b594, 0, none⟩) 2 2] 22) :: ((b592, ce #[.int .i64 0] 3) :: ((b593, ce #[.int .i64 1] 3) :: ((b594, ce #[.int .i64 0, .int .i64 2] 3) :: ((b595, ce #[.slice (some ⟨b596, 0, none⟩) 4 4, .slice (some ⟨b597, 0, none⟩) 4 4] 36) :: ((b596, ce #[.int .i64 0, .int .i64 0, .int .i64 2, .int .i64 1] 35) :: ((b597, ce #[.int .i64 0, .int .i64 0, .int .i64 2, .int .i64 0] 35) :: ((b598, ce #[.slice (some ⟨b588, 0, none⟩) (Int.toNat k7) (Int.toNat k7), .slice (some ⟨b590, 0, none⟩) 1 1] 26) :: ((b599, ce #[.slice (some ⟨b591, 0, none⟩) 4 4, .slice (some ⟨b595, 0, none⟩) 2 2] 26) :: (Lb602 ++ [])))))))))))) (by subst gw; rfl) ?_
    obtain ⟨l5, h607, r608⟩ := BS r601
    have hO611 := AW.made (nb := K.w0.heap.size) (E := 22) (n := (Int.toNat k7)) (F := gu) (z := ((none, 0, 0) : Hd)) Cm (by decide) (fun _ => rfl) ll (Pl vu)
    have dq : BG K.w0.heap.size 22 3 1 (iE .i64) gu (some ⟨b588, 0, none⟩) (Int.toNat k7) (Int.toNat k7) l5 [(b588, ce (madeCells (.slice none 0 0 : Value).cells ((Int.toNat k7) * 1)) 22)] := BG.made hO611 h607
    generalize j9 : ([(b588, ce (madeCells (.slice none 0 0 : Value).cells ((Int.toNat k7) * 1)) 22)] : LH) = Lb609 at dq
    refine BK (L' := Lb609 ++ ((b590, ce #[.slice (some ⟨b589, 0, none⟩) aa aa] 36) :: ((b591, ce #[.slice none 0 0, .slice (some ⟨b592, 0, none⟩) 1 1, .slice (some ⟨b593, 0, none⟩) 1 1, .slice (some ⟨b594, 0, none⟩) 2 2] 22) :: ((b592, ce #[.int .i64 0] 3) :: ((b593, ce #[.int .i64 1] 3) :: ((b594, ce #[.int .i64 0, .int .i64 2] 3) :: ((b595, ce #[.slice (some ⟨b596, 0, none⟩) 4 4, .slice (some ⟨b597, 0, none⟩) 4 4] 36) :: ((b596, ce #[.int .i64 0, .int .i64 0, .int .i64 2, .int .i64 1] 35) :: ((b597, ce #[.int .i64 0, .int .i64 0, .int .i64 2, .int .i64 0] 35) :: ((b598, ce #[.slice (some ⟨b588, 0, none⟩) (Int.toNat k7) (Int.toNat k7), .slice (some ⟨b590, 0, none⟩) 1 1] 26) :: ((b599, ce #[.slice (some ⟨b591, 0, none⟩) 4 4, .slice (some ⟨b595, 0, none⟩) 2 2] 26) :: (Lb602 ++ [])))))))))))) (by rw [← j9]; exact fO) ?_
    refine BK (L' := (b590, ce #[.slice (some ⟨b589, 0, none⟩) aa aa] 36) :: ((b591, ce #[.slice none 0 0, .slice (some ⟨b592, 0, none⟩) 1 1, .slice (some ⟨b593, 0, none⟩) 1 1, .slice (some ⟨b594, 0, none⟩) 2 2] 22) :: ((b592, ce #[.int .i64 0] 3) :: ((b593, ce #[.int .i64 1] 3) :: ((b594, ce #[.int .i64 0, .int .i64 2] 3) :: ((b595, ce #[.slice (some ⟨b596, 0, none⟩) 4 4, .slice (some ⟨b597, 0, none⟩) 4 4] 36) :: ((b596, ce #[.int .i64 0, .int .i64 0, .int .i64 2, .int .i64 1] 35) :: ((b597, ce #[.int .i64 0, .int .i64 0, .int .i64 2, .int .i64 0] 35) :: ((b598, ce #[.slice (some ⟨b588, 0, none⟩) (Int.toNat k7) (Int.toNat k7), .slice (some ⟨b590, 0, none⟩) 1 1] 26) :: ((b599, ce #[.slice (some ⟨b591, 0, none⟩) 4 4, .slice (some ⟨b595, 0, none⟩) 2 2] 26) :: (Lb609 ++ (Lb602 ++ [])))))))))))) (List.Perm.symm (fC (fC (fC (fC (fC (fC (fC (fC (fC (fC fP))))))))))) ?_
    obtain ⟨a6, gx⟩ : ∃ n_ : Nat, n_ = (Int.toNat k7) := ⟨_, rfl⟩; rw [← gx] at dq
    refine Na [(179, .int .i64 k7), (180, .bool (decide (k7 < 10))), (181, .int .i64 k7), (17, .int .i64 k7), (182, .int .i64 k7), (183, .slice (some ⟨b588, 0, none⟩) a6 a6), (184, .int .i64 k7), (185, .slice (some ⟨b589, 0, none⟩) aa aa), (186, .slice (some ⟨b590, 0, none⟩) 1 1), (187, .agg #[.slice (some ⟨b588, 0, none⟩) a6 a6, .slice (some ⟨b590, 0, none⟩) 1 1]), (188, .agg #[.slice (some ⟨b591, 0, none⟩) 4 4, .slice (some ⟨b595, 0, none⟩) 2 2]), (18, .pointer (some ⟨b598, 0, none⟩)), (19, .pointer (some ⟨b599, 0, none⟩))] (by subst gx; exact (sc rfl (sc rfl (sc rfl (sc rfl (sc rfl z8)))))) ?_
    refine AD (L' := (b590, ce #[.slice (some ⟨b589, 0, none⟩) aa aa] 36) :: ((b591, ce #[.slice none 0 0, .slice (some ⟨b592, 0, none⟩) 1 1, .slice (some ⟨b593, 0, none⟩) 1 1, .slice (some ⟨b594, 0, none⟩) 2 2] 22) :: ((b592, ce #[.int .i64 0] 3) :: ((b593, ce #[.int .i64 1] 3) :: ((b594, ce #[.int .i64 0, .int .i64 2] 3) :: ((b595, ce #[.slice (some ⟨b596, 0, none⟩) 4 4, .slice (some ⟨b597, 0, none⟩) 4 4] 36) :: ((b596, ce #[.int .i64 0, .int .i64 0, .int .i64 2, .int .i64 1] 35) :: ((b597, ce #[.int .i64 0, .int .i64 0, .int .i64 2, .int .i64 0] 35) :: ((b598, ce #[.slice (some ⟨b588, 0, none⟩) a6 a6, .slice (some ⟨b590, 0, none⟩) 1 1] 26) :: ((b599, ce #[.slice (some ⟨b591, 0, none⟩) 4 4, .slice (some ⟨b595, 0, none⟩) 2 2] 26) :: (Lb609 ++ (Lb602 ++ [])))))))))))) (by subst gx; rfl) ?_
    refine Aa ?_
    obtain ⟨dx, gi, fl, h625, r626⟩ := I6 r608
    refine AK (fun e1 F1 L1 => ∃ (aj : LH) (gy : LH) (cb : Option Addr) (cc : Nat) (cd : Nat) (ak : LH), AN gu F1 ∧ L1 = ((b590, ce #[.slice (some ⟨b589, 0, none⟩) aa aa] 36) :: ((b591, ce #[.slice none 0 0, .slice (some ⟨b592, 0, none⟩) 1 1, .slice (some ⟨b593, 0, none⟩) 1 1, .slice (some ⟨b594, 0, none⟩) 2 2] 22) :: ((b592, ce #[.int .i64 0] 3) :: ((b593, ce #[.int .i64 1] 3) :: ((b594, ce #[.int .i64 0, .int .i64 2] 3) :: ((b598, ce #[.slice (some ⟨b588, 0, none⟩) a6 a6, .slice (some ⟨b590, 0, none⟩) 1 1] 26) :: ((b599, ce #[.slice (some ⟨b591, 0, none⟩) 4 4, .slice cb cc cd] 26) :: (aj ++ (gy ++ (ak ++ [])))))))))) ∧ e1.sub [(17, .int .i64 k7), (18, .pointer (some ⟨b598, 0, none⟩)), (19, .pointer (some ⟨b599, 0, none⟩)), (179, .int .i64 k7)] ∧ BG K.w0.heap.size 22 3 1 (iE .i64) F1 (some ⟨b588, 0, none⟩) a6 a6 dx aj ∧ AW K.w0.heap.size 35 1 (iE .i64) F1 (some ⟨b589, 0, none⟩) aa aa gi gy ∧ AW K.w0.heap.size 36 1 (Bm 1 (iE .i64)) F1 cb cc cd fl ak) ?_ ?_
    ·clear r626
     refine AI (um (um (Aa ?_)))
     refine Ap ?_
     refine Ge 6 rfl lv ?_; intro F627 gz hz629
     refine Fu (L' := (b590, ce #[.slice (some ⟨b589, 0, none⟩) aa aa] 36) :: ((b591, ce #[.slice none 0 0, .slice (some ⟨b592, 0, none⟩) 1 1, .slice (some ⟨b593, 0, none⟩) 1 1, .slice (some ⟨b594, 0, none⟩) 2 2] 22) :: ((b592, ce #[.int .i64 0] 3) :: ((b593, ce #[.int .i64 1] 3) :: ((b594, ce #[.int .i64 0, .int .i64 2] 3) :: ((b595, ce #[.slice (some ⟨b596, 0, none⟩) 4 4, .slice (some ⟨b597, 0, none⟩) 4 4] 36) :: ((b597, ce #[.int .i64 0, .int .i64 0, .int .i64 2, .int .i64 0] 35) :: ((b598, ce #[.slice (some ⟨b588, 0, none⟩) a6 a6, .slice (some ⟨b590, 0, none⟩) 1 1] 26) :: ((b599, ce #[.slice (some ⟨b591, 0, none⟩) 4 4, .slice (some ⟨b595, 0, none⟩) 2 2] 26) :: (Lb609 ++ (Lb602 ++ []))))))))))) rfl ?_
     replace dp := dp.mono (Ae _) gz
     replace dq := dq.mono (Ae _) gz
     have o3 : Au 1 (iE .i64) F627 (some ⟨b596, 0, none⟩) 4 [0, 0, 2, 1] := Au.AG (Ae _) (vss := [[.int .i64 0], [.int .i64 0], [.int .i64 2], [.int .i64 1]]) (xs := [0, 0, 2, 1]) hz629 (.cons rfl (.cons rfl (.cons rfl (.cons rfl .nil)))) rfl (by simp [maxLen])
     refine Ge 6 rfl lx ?_; intro o4 fm hz633
     refine Fu (L' := (b590, ce #[.slice (some ⟨b589, 0, none⟩) aa aa] 36) :: ((b591, ce #[.slice none 0 0, .slice (some ⟨b592, 0, none⟩) 1 1, .slice (some ⟨b593, 0, none⟩) 1 1, .slice (some ⟨b594, 0, none⟩) 2 2] 22) :: ((b592, ce #[.int .i64 0] 3) :: ((b593, ce #[.int .i64 1] 3) :: ((b594, ce #[.int .i64 0, .int .i64 2] 3) :: ((b595, ce (#[.slice (some ⟨b596, 0, none⟩) [0, 0, 2, 1].length 4, .slice (some ⟨b597, 0, none⟩) 4 4]) 36) :: ((b598, ce #[.slice (some ⟨b588, 0, none⟩) a6 a6, .slice (some ⟨b590, 0, none⟩) 1 1] 26) :: ((b599, ce #[.slice (some ⟨b591, 0, none⟩) 4 4, .slice (some ⟨b595, 0, none⟩) 2 2] 26) :: (Lb609 ++ (Lb602 ++ [])))))))))) rfl ?_
     replace o3 := o3.mono (Ae _) fm
     replace dp := dp.mono (Ae _) fm
     replace dq := dq.mono (Ae _) fm
     have h634 : Au 1 (iE .i64) o4 (some ⟨b597, 0, none⟩) 4 [0, 0, 2, 0] := Au.AG (Ae _) (vss := [[.int .i64 0], [.int .i64 0], [.int .i64 2], [.int .i64 0]]) (xs := [0, 0, 2, 0]) hz633 (.cons rfl (.cons rfl (.cons rfl (.cons rfl .nil)))) rfl (by simp [maxLen])
     have ly : AW K.w0.heap.size 36 1 (Bm 1 (iE .i64)) o4 (some ⟨b595, 0, none⟩) 2 2 [[0, 0, 2, 1], [0, 0, 2, 0]] [(b595, ce (#[.slice (some ⟨b596, 0, none⟩) [0, 0, 2, 1].length 4, .slice (some ⟨b597, 0, none⟩) [0, 0, 2, 0].length 4]) 36)] := AW.AG (vss := [[.slice (some ⟨b596, 0, none⟩) [0, 0, 2, 1].length 4], [.slice (some ⟨b597, 0, none⟩) [0, 0, 2, 0].length 4]]) (Ak (Ae _)) lu (.cons ⟨_, _, rfl, o3⟩ (.cons ⟨_, _, rfl, h634⟩ .nil)) rfl rfl (by simp [maxLen])
     generalize ja : ([(b595, ce (#[.slice (some ⟨b596, 0, none⟩) [0, 0, 2, 1].length 4, .slice (some ⟨b597, 0, none⟩) [0, 0, 2, 0].length 4]) 36)] : LH) = Lb635 at ly
     refine JL (L' := Lb635 ++ ((b590, ce #[.slice (some ⟨b589, 0, none⟩) aa aa] 36) :: ((b591, ce #[.slice none 0 0, .slice (some ⟨b592, 0, none⟩) 1 1, .slice (some ⟨b593, 0, none⟩) 1 1, .slice (some ⟨b594, 0, none⟩) 2 2] 22) :: ((b592, ce #[.int .i64 0] 3) :: ((b593, ce #[.int .i64 1] 3) :: ((b594, ce #[.int .i64 0, .int .i64 2] 3) :: ((b598, ce #[.slice (some ⟨b588, 0, none⟩) a6 a6, .slice (some ⟨b590, 0, none⟩) 1 1] 26) :: ((b599, ce #[.slice (some ⟨b591, 0, none⟩) 4 4, .slice (some ⟨b595, 0, none⟩) 2 2] 26) :: (Lb609 ++ (Lb602 ++ [])))))))))) (by rw [← ja]; exact (fC (fC (fC (fC (fC fO)))))) ?_
     refine JL (L' := (b590, ce #[.slice (some ⟨b589, 0, none⟩) aa aa] 36) :: ((b591, ce #[.slice none 0 0, .slice (some ⟨b592, 0, none⟩) 1 1, .slice (some ⟨b593, 0, none⟩) 1 1, .slice (some ⟨b594, 0, none⟩) 2 2] 22) :: ((b592, ce #[.int .i64 0] 3) :: ((b593, ce #[.int .i64 1] 3) :: ((b594, ce #[.int .i64 0, .int .i64 2] 3) :: ((b598, ce #[.slice (some ⟨b588, 0, none⟩) a6 a6, .slice (some ⟨b590, 0, none⟩) 1 1] 26) :: ((b599, ce #[.slice (some ⟨b591, 0, none⟩) 4 4, .slice (some ⟨b595, 0, none⟩) 2 2] 26) :: (Lb635 ++ (Lb609 ++ (Lb602 ++ [])))))))))) (List.Perm.symm (fC (fC (fC (fC (fC (fC (fC fP)))))))) ?_
     obtain ⟨g648, r649⟩ := AX h625
     refine Nf (fun jb e1 F1 L1 => ∃ (k8 : Int), CZ 0 k7 k8 jb ∧ ∃ (aw : List (List Int)) (x14 : List Int) (cf : List (List Int)) (eo : LH) (cg : LH) (dz : Option Addr) (eb : Nat) (ec : Nat) (cj : LH), CW jb k8 aw x14 cf = some (dx, gi, fl) ∧ AN o4 F1 ∧ L1 = ((b590, ce #[.slice (some ⟨b589, 0, none⟩) aa aa] 36) :: ((b591, ce #[.slice none 0 0, .slice (some ⟨b592, 0, none⟩) 1 1, .slice (some ⟨b593, 0, none⟩) 1 1, .slice (some ⟨b594, 0, none⟩) 2 2] 22) :: ((b592, ce #[.int .i64 0] 3) :: ((b593, ce #[.int .i64 1] 3) :: ((b594, ce #[.int .i64 0, .int .i64 2] 3) :: ((b598, ce #[.slice (some ⟨b588, 0, none⟩) a6 a6, .slice (some ⟨b590, 0, none⟩) 1 1] 26) :: ((b599, ce #[.slice (some ⟨b591, 0, none⟩) 4 4, .slice dz eb ec] 26) :: (eo ++ (cg ++ (cj ++ [])))))))))) ∧ e1.sub [(17, .int .i64 k7), (18, .pointer (some ⟨b598, 0, none⟩)), (19, .pointer (some ⟨b599, 0, none⟩)), (179, .int .i64 k7), (189, .int .i64 k7), (190, .int .i64 k8)] ∧ BG K.w0.heap.size 22 3 1 (iE .i64) F1 (some ⟨b588, 0, none⟩) a6 a6 aw eo ∧ AW K.w0.heap.size 35 1 (iE .i64) F1 (some ⟨b589, 0, none⟩) aa aa x14 cg ∧ AW K.w0.heap.size 36 1 (Bm 1 (iE .i64)) F1 dz eb ec cf cj) _ (m0 (kc (kc (kc (kc (kc (kc (kc (kg (fS fP) (kg (fS fP) kr))))))))) ⟨_, CZ.start _ _, l5, l4, [[0, 0, 2, 1], [0, 0, 2, 0]], Lb609, Lb602, (some ⟨b595, 0, none⟩), 2, 2, Lb635, r649, AN.refl _, rfl, z6, dq, dp, ly⟩) ?_
     rintro jb e1 jc _ ⟨k8, ia, aw, x14, cf, eo, cg, dz, eb, ec, cj, jd, lz, rfl, he653, ma, fo, fp⟩
     refine Az _ he653 (AI (uv (AV rfl rfl) ?_))
     refine Aa (At ?_)
     refine cQ (fun je => ?_) fun je => ?_
     ·obtain ⟨jb, rfl, hk658⟩ := CZ.succ ia je
      rw [CW] at jd
      refine Aq ?_
      obtain ⟨dr, x15, ep, h669, r670⟩ := I6 jd
      refine AK (fun e1 F1 L1 => ∃ (fq : LH) (fs : LH) (jf : Option Addr) (jg : Nat) (jh : Nat) (ft : LH), AN jc F1 ∧ L1 = ((b590, ce #[.slice (some ⟨b589, 0, none⟩) aa aa] 36) :: ((b591, ce #[.slice none 0 0, .slice (some ⟨b592, 0, none⟩) 1 1, .slice (some ⟨b593, 0, none⟩) 1 1, .slice (some ⟨b594, 0, none⟩) 2 2] 22) :: ((b592, ce #[.int .i64 0] 3) :: ((b593, ce #[.int .i64 1] 3) :: ((b594, ce #[.int .i64 0, .int .i64 2] 3) :: ((b598, ce #[.slice (some ⟨b588, 0, none⟩) a6 a6, .slice (some ⟨b590, 0, none⟩) 1 1] 26) :: ((b599, ce #[.slice (some ⟨b591, 0, none⟩) 4 4, .slice jf jg jh] 26) :: (fq ++ (fs ++ (ft ++ [])))))))))) ∧ e1.sub [(17, .int .i64 k7), (18, .pointer (some ⟨b598, 0, none⟩)), (19, .pointer (some ⟨b599, 0, none⟩)), (179, .int .i64 k7), (189, .int .i64 k7), (190, .int .i64 k8)] ∧ BG K.w0.heap.size 22 3 1 (iE .i64) F1 (some ⟨b588, 0, none⟩) a6 a6 dr fq ∧ AW K.w0.heap.size 35 1 (iE .i64) F1 (some ⟨b589, 0, none⟩) aa aa x15 fs ∧ AW K.w0.heap.size 36 1 (Bm 1 (iE .i64)) F1 jf jg jh ep ft) ?_ ?_
      ·clear r670
       refine Ap ?_
       refine AI (um (ua (Aa ?_)))
       obtain ⟨dt, h673, r674⟩ := AB h669
       refine AK (fun e1 F1 L1 => ∃ (dy : LH), jc = F1 ∧ L1 = ((b590, ce #[.slice (some ⟨b589, 0, none⟩) aa aa] 36) :: ((b591, ce #[.slice none 0 0, .slice (some ⟨b592, 0, none⟩) 1 1, .slice (some ⟨b593, 0, none⟩) 1 1, .slice (some ⟨b594, 0, none⟩) 2 2] 22) :: ((b592, ce #[.int .i64 0] 3) :: ((b593, ce #[.int .i64 1] 3) :: ((b594, ce #[.int .i64 0, .int .i64 2] 3) :: ((b598, ce #[.slice (some ⟨b588, 0, none⟩) a6 a6, .slice (some ⟨b590, 0, none⟩) 1 1] 26) :: ((b599, ce #[.slice (some ⟨b591, 0, none⟩) 4 4, .slice dz eb ec] 26) :: (dy ++ (cg ++ (cj ++ [])))))))))) ∧ e1.sub [(17, .int .i64 k7), (18, .pointer (some ⟨b598, 0, none⟩)), (19, .pointer (some ⟨b599, 0, none⟩)), (20, .int .i64 k8), (179, .int .i64 k7), (189, .int .i64 k7), (190, .int .i64 k8)] ∧ BG K.w0.heap.size 22 3 1 (iE .i64) F1 (some ⟨b588, 0, none⟩) a6 a6 dt dy) ?_ ?_
       ·clear r674
        refine AI (um (um (Aa ?_)))
        refine Ap ?_
        obtain ⟨g677, r678⟩ := AX h673
        refine A2 (fun ji e1 F1 L1 => ∃ (k9 : Int), CZ 0 k8 k9 ji ∧ ∃ (bu : List (List Int)) (fv : LH), CP k8 ji k9 bu = some dt ∧ jc = F1 ∧ L1 = ((b590, ce #[.slice (some ⟨b589, 0, none⟩) aa aa] 36) :: ((b591, ce #[.slice none 0 0, .slice (some ⟨b592, 0, none⟩) 1 1, .slice (some ⟨b593, 0, none⟩) 1 1, .slice (some ⟨b594, 0, none⟩) 2 2] 22) :: ((b592, ce #[.int .i64 0] 3) :: ((b593, ce #[.int .i64 1] 3) :: ((b594, ce #[.int .i64 0, .int .i64 2] 3) :: ((b598, ce #[.slice (some ⟨b588, 0, none⟩) a6 a6, .slice (some ⟨b590, 0, none⟩) 1 1] 26) :: ((b599, ce #[.slice (some ⟨b591, 0, none⟩) 4 4, .slice dz eb ec] 26) :: (fv ++ (cg ++ (cj ++ [])))))))))) ∧ e1.sub [(17, .int .i64 k7), (18, .pointer (some ⟨b598, 0, none⟩)), (19, .pointer (some ⟨b599, 0, none⟩)), (20, .int .i64 k8), (179, .int .i64 k7), (189, .int .i64 k7), (190, .int .i64 k8), (193, .int .i64 k8), (194, .int .i64 k9)] ∧ BG K.w0.heap.size 22 3 1 (iE .i64) F1 (some ⟨b588, 0, none⟩) a6 a6 bu fv) _ (m0 kr ⟨_, CZ.start _ _, aw, eo, r678, rfl, rfl, (sc rfl z8), ma⟩) ?_
        rintro ji e1 _ _ ⟨k9, ib, bu, fv, jj, rfl, rfl, he682, ic⟩
        refine Az _ he682 (AI (uv (AV rfl rfl) ?_))
        refine Aa (At ?_)
        refine cQ (fun jk => ?_) fun jk => ?_
        ·obtain ⟨ji, rfl, hk685⟩ := CZ.succ ib jk
         rw [CP] at jj
         refine Aq (At ?_)
         refine Ap ?_
         refine AI (um (ua (BI ?_)))
         refine uv (Av Cy rfl) (uv (Ao isAgg23 rfl (Has.own 5 rfl) rfl) (um ?_))
         obtain ⟨x16, ie, hx687, r688⟩ := A7 jj
         have ig := (BG.Be ic).1
         refine Iu (fC (fC (fC (fC (fC (fC (fC fP))))))) ic hx687 ?_; intro hs689 mb mc a692 n693 c694 Lb695 me fw hz698 hI699
         refine kO (kf (fS (fS (fS fO))) (kf (fS (fS (fS fO))) (kf (fS (fS (fS fO))) (kf (fS (fS (fS fO))) (kf (fS (fS (fS fO))) (kf (fS (fS (fS fO))) (kf (fS (fS (fS fO))) kr))))))) ?_
         obtain ⟨b702, o703, c704, vs705, ha706, hs707, hle708, rfl, hl709, hc710⟩ := AW.at Cm fw (L := (b590, ce #[.slice (some ⟨b589, 0, none⟩) aa aa] 36) :: ((b591, ce #[.slice none 0 0, .slice (some ⟨b592, 0, none⟩) 1 1, .slice (some ⟨b593, 0, none⟩) 1 1, .slice (some ⟨b594, 0, none⟩) 2 2] 22) :: ((b592, ce #[.int .i64 0] 3) :: ((b593, ce #[.int .i64 1] 3) :: ((b594, ce #[.int .i64 0, .int .i64 2] 3) :: ((b598, ce #[.slice (some ⟨b588, 0, none⟩) a6 a6, .slice (some ⟨b590, 0, none⟩) 1 1] 26) :: ((b599, ce #[.slice (some ⟨b591, 0, none⟩) 4 4, .slice dz eb ec] 26) :: (mb ++ (Lb695 ++ (mc ++ (cg ++ (cj ++ [])))))))))))) (fC (fC (fC (fC (fC (fC (fC fP))))))) ie.1 me
         refine uv (AF underlying23 sizeOf22 rfl ha706 rfl (K2 ig ie)) (uv (Ao isAgg22 rfl hs707 (hc710 0 (by decide))) (um ?_))
         refine bA (cs := #[.int .i64 k9]) BN [.int .i64 k9] ?_; intro b711 hb711
         obtain ⟨l6, h712, g713, r714⟩ := E0 r688
         refine Dm (xs := x16) (ys := [k9]) (zs := l6) rfl BN rfl rfl (Nat.le_refl _) (fun _ => .c (.c (.c (.c (.c (.c (.c (.c (.s .h))))))))) hz698 (GO.box (vss := [[.int .i64 k9]]) (ys := [k9]) 0 rfl (Ae _) (.cons rfl .nil) rfl rfl) h712 g713 (by decide) ?_; intro a715 n719 c716 Lb717 hz718
         refine kO (kd kr) ?_
         refine ua (Aa (An ?_))
         refine uv (Av Cy rfl) (uv (Ao isAgg23 rfl (Has.own 5 rfl) rfl) ?_)
         refine um (um ?_)
         obtain ⟨b721, o722, c723, vs724, mg, hs726, hle727, rfl, hl728, hc729⟩ := AW.at Cm fw (L := (b590, ce #[.slice (some ⟨b589, 0, none⟩) aa aa] 36) :: ((b591, ce #[.slice none 0 0, .slice (some ⟨b592, 0, none⟩) 1 1, .slice (some ⟨b593, 0, none⟩) 1 1, .slice (some ⟨b594, 0, none⟩) 2 2] 22) :: ((b592, ce #[.int .i64 0] 3) :: ((b593, ce #[.int .i64 1] 3) :: ((b594, ce #[.int .i64 0, .int .i64 2] 3) :: ((b598, ce #[.slice (some ⟨b588, 0, none⟩) a6 a6, .slice (some ⟨b590, 0, none⟩) 1 1] 26) :: ((b599, ce #[.slice (some ⟨b591, 0, none⟩) 4 4, .slice dz eb ec] 26) :: (mb ++ (Lb717 ++ (mc ++ (cg ++ (cj ++ [])))))))))))) (fC (fC (fC (fC (fC (fC (fC fP))))))) ie.1 me
         refine uv (AF underlying23 sizeOf22 rfl mg rfl (K2 ig ie)) ?_
         refine CQ (zs := hs689.set (k8 : Int).toNat (a715, n719, c716)) (u := (a715, n719, c716)) sizeOf22 Cm rfl mg rfl rfl (fun _ => .c (.c (.c (.c (.c (.c (.c .h))))))) fw rfl (Qf ig fw ie) ?_; intro Lo730 hO731
         obtain ⟨w2, h732, r733⟩ := BS r714
         refine Bp (p := fun X => BG K.w0.heap.size 22 3 1 (iE .i64) jc (some ⟨b588, 0, none⟩) a6 a6 w2 X) (K5.back hI699 hO731 hz718 h732) (pT ((fC (fC (fC (fC (fC (fC (fC fP))))))).trans (pA ((fC (fC (fC (fC (fC (fC (fC fP))))))).trans (pA ((fC (fC (fC (fC (fC (fC (fC fP))))))).trans (pA pR)))))) (lp (lp (lp (ln rfl))))) ?_; intro Lb734 hz735
         refine kO (kf (fS fO) (kf (fS fO) (kf (fS fO) (kf (fS fO) (kf (fS fO) (kf (fS fO) (kf (fS fO) kr))))))) ?_
         refine Aa (Ax (id := 13) (An ?_))
         refine uv (AY rfl rfl (CZ.CC ib jk g677)) ?_
         refine um (Aa ?_)
         exact le kr ⟨_, hk685, w2, Lb734, r733, rfl, rfl, (sc rfl z8), hz735⟩
        obtain rfl := CZ.zero ib jk
        rw [CP] at jj
        refine AL (Am (Am ?_))
        refine AA ?_
        obtain rfl := AH jj
        exact mi kr ⟨fv, rfl, rfl, z7, ic⟩
       rintro e1 _ _ ⟨dy, rfl, rfl, he736, fx⟩
       refine Az _ he736 (AI (uv (Av Bz rfl) (uv (Ao isAgg24 rfl (Has.own 5 rfl) rfl) (uv (FM.eq (CU (i := 0) underlying24 sizeOf36 rfl rfl (by decide)) rfl) (uv (Ao isAgg36 rfl (Has.own 0 rfl) rfl) (um ?_))))))
       obtain ⟨x17, o5, hx738, r739⟩ := A7 r674
       obtain ⟨b740, o741, c742, vs743, mh, hs745, hle746, rfl, hl747, hc748⟩ := AW.at (Ae _) fo (L := (b590, ce #[.slice (some ⟨b589, 0, none⟩) aa aa] 36) :: ((b591, ce #[.slice none 0 0, .slice (some ⟨b592, 0, none⟩) 1 1, .slice (some ⟨b593, 0, none⟩) 1 1, .slice (some ⟨b594, 0, none⟩) 2 2] 22) :: ((b592, ce #[.int .i64 0] 3) :: ((b593, ce #[.int .i64 1] 3) :: ((b594, ce #[.int .i64 0, .int .i64 2] 3) :: ((b598, ce #[.slice (some ⟨b588, 0, none⟩) a6 a6, .slice (some ⟨b590, 0, none⟩) 1 1] 26) :: ((b599, ce #[.slice (some ⟨b591, 0, none⟩) 4 4, .slice dz eb ec] 26) :: (dy ++ (cg ++ (cj ++ [])))))))))) (fC (fC (fC (fC (fC (fC (fC (fS fP)))))))) o5.1 hx738
       refine uv (AF underlying36 sizeOf35 rfl mh rfl (AW.idx fo o5)) ?_
       obtain ⟨l7, h749, r750⟩ := BS r739
       refine CQ (u := 1) sizeOf35 (Ae _) rfl mh rfl rfl (fun _ => .c (.c (.c (.c (.c (.c (.c (.s .h)))))))) fo h749 o5 ?_; intro mj fy
       refine BI (uv (Av Bz rfl) (uv (Ao isAgg24 rfl (Has.own 6 rfl) rfl) (um (uv (Fp rfl rfl (by decide)) ?_))))
       refine bA (cs := #[.int .i64 1, .int .i64 1, .int .i64 2, .int .i64 (Int.tmod k8 2)]) Kp [.int .i64 1, .int .i64 1, .int .i64 2, .int .i64 (Int.tmod k8 2)] ?_; intro jl hb753
       refine bA (cs := #[.slice (some ⟨jl, 0, none⟩) 4 4]) KX [.slice (some ⟨jl, 0, none⟩) 4 4] ?_; intro b754 hb754
       refine AO 1 rfl hb753 ?_; intro F755 er hz757
       refine AD rfl ?_
       replace fx := fx.mono (Ae _) er
       replace fy := fy.mono (Ae _) er
       replace fp := fp.mono (Ak (Ae _)) er
       have h758 : Au 1 (iE .i64) F755 (some ⟨jl, 0, none⟩) 4 [1, 1, 2, Int.tmod k8 2] := Au.AG (Ae _) (vss := [[.int .i64 1], [.int .i64 1], [.int .i64 2], [.int .i64 (Int.tmod k8 2)]]) (xs := [1, 1, 2, Int.tmod k8 2]) hz757 (.cons rfl (.cons rfl (.cons rfl (.cons rfl .nil)))) rfl (by simp [maxLen])
       obtain ⟨u, h759, g760, r761⟩ := E0 r750
       refine Dm (xs := cf) (ys := [[1, 1, 2, Int.tmod k8 2]]) (zs := u) rfl KX rfl rfl (Nat.le_refl _) (fun _ => .c (.c (.c (.c (.c (.c (.c (.c (.s (.s .h)))))))))) fp (GO.box (vss := [[.slice (some ⟨jl, 0, none⟩) [1, 1, 2, Int.tmod k8 2].length 4]]) (ys := [[1, 1, 2, Int.tmod k8 2]]) 0 rfl (Ak (Ae _)) (.cons ⟨_, _, rfl, h758⟩ .nil) rfl rfl) h759 g760 (by decide) ?_; intro a762 n766 c763 Lb764 ml
       refine kO (kd kr) (uv (Av Bz rfl) (A0 (i := 6) sizeOf24 rfl rfl rfl rfl (A5 rfl) (AD rfl ?_)))
       refine BI (um ?_)
       refine uv (AV rfl rfl) (Aa ?_)
       refine cQ (fun o7 => ?_) fun o7 => ?_
       ·have r769 := AQ r761 o7
        refine An (uv (Av Bz rfl) (uv (Ao isAgg24 rfl (Has.own 6 rfl) rfl) ?_))
        obtain ⟨g770, r771⟩ := AX r769
        obtain ⟨u2, h772, r773⟩ := BS r771
        refine P1 (l := 1) (h := (u.length : Int)) (zs := u2) rfl KX (Ak (Ae _)) rfl (.inr ⟨_, rfl, rfl⟩) (.inl ⟨rfl, rfl⟩) (fun _ => .c (.c (.c (.c (.c (.c (.c (.s (.s .h))))))))) ml g770 h772 ?_; intro a774 n777 c775 Lb778 h776
        refine uv (Av Bz rfl) (A0 (i := 6) sizeOf24 rfl rfl rfl rfl (A5 rfl) (AD rfl ?_))
        refine Aa (Ax (id := 11) ?_)
        obtain ⟨rfl, rfl, rfl⟩ := IK r773
        exact mi kr ⟨dy, mj, a774, n777, c775, Lb778, er, rfl, z6, fx, fy, h776⟩
       have r780 := AR r761 o7
       refine Aq (Ax (id := 11) ?_)
       obtain ⟨rfl, rfl, rfl⟩ := IK r780
       exact mi kr ⟨dy, mj, a762, n766, c763, Lb764, er, rfl, z6, fx, fy, ml⟩
      rintro e1 F782 _ ⟨fq, fs, jf, jg, jh, ft, hF783, rfl, he781, hz660, hz662, hz666⟩
      refine Az _ he781 (An (uv (AY rfl rfl (CZ.CC ia je g648)) ?_))
      refine um (Aa ?_)
      refine lf ?_
      exact mf kr ⟨_, hk658, dr, x15, ep, fq, fs, jf, jg, jh, ft, r670, (lz.trans hF783), rfl, z6, hz660, hz662, hz666⟩
     obtain rfl := CZ.zero ia je
     rw [CW] at jd
     refine AL (Am (Am ?_))
     refine AA ?_
     obtain ⟨rfl, rfl, rfl⟩ := IK jd
     exact mi kr ⟨eo, cg, dz, eb, ec, cj, ((gz.trans fm).trans lz), rfl, z4, ma, fo, fp⟩
    rintro e1 F785 _ ⟨aj, gy, cb, cc, cd, ak, hF786, rfl, he784, al, mn, ad⟩
    refine Az _ he784 (At ?_)
    obtain ⟨bd, k10, h790, o8⟩ := A9 r626
    refine AK (fun e1 F1 L1 => ∃ (gg : Option Addr) (gh : Nat), AN F785 F1 ∧ L1 = ((b591, ce #[.slice none 0 0, .slice (some ⟨b592, 0, none⟩) 1 1, .slice (some ⟨b593, 0, none⟩) 1 1, .slice (some ⟨b594, 0, none⟩) 2 2] 22) :: ((b592, ce #[.int .i64 0] 3) :: ((b593, ce #[.int .i64 1] 3) :: ((b594, ce #[.int .i64 0, .int .i64 2] 3) :: ((b598, ce #[.slice (some ⟨b588, 0, none⟩) a6 a6, .slice gg bd.length gh] 26) :: ((b599, ce #[.slice (some ⟨b591, 0, none⟩) 4 4, .slice cb cc cd] 26) :: (aj ++ (ak ++ [])))))))) ∧ e1.sub [(17, .int .i64 k7), (18, .pointer (some ⟨b598, 0, none⟩)), (19, .pointer (some ⟨b599, 0, none⟩)), (179, .int .i64 k7), (273, .bool k10)] ∧ Au 1 (Bm 1 (iE .i64)) F1 gg gh bd) ?_ ?_
    ·clear o8
     obtain rfl := (AW.Be mn).1
     refine Ke (Nat.le_refl _) (Ae _) (fC (fC (fC (fC (fC (fC (fC (fS fP)))))))) mn ?_; intro F792 db o9
     replace ad := ad.mono (Ak (Ae _)) db
     replace al := al.mono (Ae _) db
     refine Ge 0 rfl lr ?_; intro F795 ck hz797
     refine Fu (L' := (b591, ce #[.slice none 0 0, .slice (some ⟨b592, 0, none⟩) 1 1, .slice (some ⟨b593, 0, none⟩) 1 1, .slice (some ⟨b594, 0, none⟩) 2 2] 22) :: ((b592, ce #[.int .i64 0] 3) :: ((b593, ce #[.int .i64 1] 3) :: ((b594, ce #[.int .i64 0, .int .i64 2] 3) :: ((b598, ce #[.slice (some ⟨b588, 0, none⟩) a6 a6, .slice (some ⟨b590, 0, none⟩) 1 1] 26) :: ((b599, ce #[.slice (some ⟨b591, 0, none⟩) 4 4, .slice cb cc cd] 26) :: (aj ++ (ak ++ [])))))))) rfl ?_
     replace o9 := o9.mono (Ae _) ck
     replace ad := ad.mono (Ak (Ae _)) ck
     replace al := al.mono (Ae _) ck
     have ef : Au 1 (Bm 1 (iE .i64)) F795 (some ⟨b590, 0, none⟩) 1 [gi] := Au.AG (Ak (Ae _)) (vss := [[.slice (some ⟨b589, 0, none⟩) gi.length gi.length]]) (xs := [gi]) hz797 (.cons ⟨_, _, rfl, o9⟩ .nil) rfl (by simp [maxLen])
     refine Le (by kernel_rfl) (by kernel_rfl) (by kernel_rfl) (wv (AE isAgg26 sizeOf26 rfl (Has.own 4 rfl) (A5 rfl) rfl) (wm ?_))
     obtain ⟨g799, r800⟩ := AX h790
     refine wv (C7 rfl rfl g799) ?_
     refine wv (BL (v := .agg #[.int .i64 0, .int .i64 (k7 - 1)]) rfl (by intro w; kernel_rfl)) ?_
     obtain ⟨ok7, h801, r802⟩ := AB r800
     refine Jz (Lt := aj ++ []) (Lr := (b591, ce #[.slice none 0 0, .slice (some ⟨b592, 0, none⟩) 1 1, .slice (some ⟨b593, 0, none⟩) 1 1, .slice (some ⟨b594, 0, none⟩) 2 2] 22) :: ((b592, ce #[.int .i64 0] 3) :: ((b593, ce #[.int .i64 1] 3) :: ((b594, ce #[.int .i64 0, .int .i64 2] 3) :: ((b598, ce (#[.slice (some ⟨b588, 0, none⟩) a6 a6, .slice (some ⟨b590, 0, none⟩) [gi].length 1]) 26) :: ((b599, ce #[.slice (some ⟨b591, 0, none⟩) 4 4, .slice cb cc cd] 26) :: (ak ++ []))))))) rfl call6 rfl rfl rfl (pT ((fC (fC (fC (fC (fC (fC fP)))))).trans (pA pR)) (lp (ln rfl))) (fun F2 h2 h3 => by have h0 := CR (al.row (Ae _) h2 (fun p hp => h3 p (List.mem_append_left _ hp))) (ef.mono (Ak (Ae _)) h2) h801; rw [← (BG.Be al).1] at h0; exact h0) ?_
     refine wv (BM rfl) (wm ?_)
     rcases Bf (!ok7) with bg | bg
     ·have r804 := bt r802 bg
      refine AU (b' := true) 238 rfl (Df rfl bg) rfl rfl (AU (b' := true) 238 rfl (Df rfl bg) rfl rfl (AU (b' := true) 238 rfl (Df rfl bg) rfl rfl (AU (b' := true) 238 rfl (Df rfl bg) rfl rfl (AU (b' := true) 238 rfl (Df rfl bg) rfl rfl (AU (b' := true) 238 rfl (Df rfl bg) rfl rfl ?_)))))
      refine wv (Aw (En rfl bg) rfl) ?_
      refine wm (AU (b' := true) 246 rfl rfl rfl rfl (AU (b' := true) 246 rfl rfl rfl rfl (AU (b' := true) 246 rfl rfl rfl rfl (AU (b' := true) 246 rfl rfl rfl rfl ?_))))
      refine wv (Aw rfl rfl) ?_
      refine wm (AU (b' := true) 252 rfl rfl rfl rfl (AU (b' := true) 252 rfl rfl rfl rfl (AU (b' := true) 252 rfl rfl rfl rfl (AU (b' := true) 252 rfl rfl rfl rfl (AU (b' := true) 252 rfl rfl rfl rfl ?_)))))
      refine wv (Aw rfl rfl) ?_
      refine wm (AU (b' := true) 259 rfl rfl rfl rfl (AU (b' := true) 259 rfl rfl rfl rfl (AU (b' := true) 259 rfl rfl rfl rfl (AU (b' := true) 259 rfl rfl rfl rfl (AU (b' := true) 259 rfl rfl rfl rfl ?_)))))
      refine wv (Aw rfl rfl) ?_
      refine wm (AU (b' := true) 266 rfl rfl rfl rfl (AU (b' := true) 266 rfl rfl rfl rfl (AU (b' := true) 266 rfl rfl rfl rfl (AU (b' := true) 266 rfl rfl rfl rfl (AU (b' := true) 266 rfl rfl rfl rfl (AU (b' := true) 266 rfl rfl rfl rfl ?_))))))
      refine wv (Aw rfl rfl) (BV ?_)
      obtain ⟨rfl, rfl⟩ := BT r804
      exact mi kr ⟨(some ⟨b590, 0, none⟩), 1, (db.trans ck), rfl, z5, ef⟩
     have r805 := bf r802 bg
     refine BP (b := false) 238 rfl (Df rfl bg) (wv (AE isAgg26 sizeOf26 rfl (Has.own 4 rfl) (A5 rfl) rfl) ?_)
     refine BP (b := false) 238 rfl (Df rfl bg) (wm (BP (b := false) 238 rfl (Df rfl bg) ?_))
     obtain ⟨g806, r807⟩ := AX r805
     refine wv (OM rfl rfl g806) (BP (b := false) 238 rfl (Df rfl bg) ?_)
     obtain ⟨g808, r809⟩ := AX r807
     refine wv (C7 rfl rfl g808) (BP (b := false) 238 rfl (Df rfl bg) ?_)
     obtain ⟨ok8, h810, r811⟩ := AB r809
     refine Jz (Lt := aj ++ []) (Lr := (b591, ce #[.slice none 0 0, .slice (some ⟨b592, 0, none⟩) 1 1, .slice (some ⟨b593, 0, none⟩) 1 1, .slice (some ⟨b594, 0, none⟩) 2 2] 22) :: ((b592, ce #[.int .i64 0] 3) :: ((b593, ce #[.int .i64 1] 3) :: ((b594, ce #[.int .i64 0, .int .i64 2] 3) :: ((b598, ce (#[.slice (some ⟨b588, 0, none⟩) a6 a6, .slice (some ⟨b590, 0, none⟩) [gi].length 1]) 26) :: ((b599, ce #[.slice (some ⟨b591, 0, none⟩) 4 4, .slice cb cc cd] 26) :: (ak ++ []))))))) rfl call7 rfl rfl rfl (pT ((fC (fC (fC (fC (fC (fC fP)))))).trans (pA pR)) (lp (ln rfl))) (fun F2 h2 h3 => by have h0 := El (al.row (Ae _) h2 (fun p hp => h3 p (List.mem_append_left _ hp))) (ef.mono (Ak (Ae _)) h2) h810; rw [← (BG.Be al).1] at h0; exact h0) ?_
     refine BP (b := false) 238 rfl (Df rfl bg) (wv (BM rfl) (wv (Ar (En rfl bg) rfl) (wm ?_)))
     rcases Bf (!ok8) with cw | cw
     ·have r813 := bt r811 cw
      refine AU (b' := true) 246 rfl (Df rfl cw) rfl rfl (AU (b' := true) 246 rfl (Df rfl cw) rfl rfl (AU (b' := true) 246 rfl (Df rfl cw) rfl rfl (AU (b' := true) 246 rfl (Df rfl cw) rfl rfl ?_)))
      refine wv (Aw (En rfl cw) rfl) ?_
      refine wm (AU (b' := true) 252 rfl rfl rfl rfl (AU (b' := true) 252 rfl rfl rfl rfl (AU (b' := true) 252 rfl rfl rfl rfl (AU (b' := true) 252 rfl rfl rfl rfl (AU (b' := true) 252 rfl rfl rfl rfl ?_)))))
      refine wv (Aw rfl rfl) ?_
      refine wm (AU (b' := true) 259 rfl rfl rfl rfl (AU (b' := true) 259 rfl rfl rfl rfl (AU (b' := true) 259 rfl rfl rfl rfl (AU (b' := true) 259 rfl rfl rfl rfl (AU (b' := true) 259 rfl rfl rfl rfl ?_)))))
      refine wv (Aw rfl rfl) ?_
      refine wm (AU (b' := true) 266 rfl rfl rfl rfl (AU (b' := true) 266 rfl rfl rfl rfl (AU (b' := true) 266 rfl rfl rfl rfl (AU (b' := true) 266 rfl rfl rfl rfl (AU (b' := true) 266 rfl rfl rfl rfl (AU (b' := true) 266 rfl rfl rfl rfl ?_))))))
      refine wv (Aw rfl rfl) (BV ?_)
      obtain ⟨rfl, rfl⟩ := BT r813
      exact mi kr ⟨(some ⟨b590, 0, none⟩), 1, (db.trans ck), rfl, z5, ef⟩
     have r814 := bf r811 cw
     refine BP (b := false) 246 rfl (Df rfl cw) (wv (AE isAgg26 sizeOf26 rfl (Has.own 4 rfl) (A5 rfl) rfl) (BP (b := false) 246 rfl (Df rfl cw) ?_))
     refine wv (BL (v := .agg #[.int .i64 0, .int .i64 0]) rfl (by intro w; kernel_rfl)) ?_
     refine BP (b := false) 246 rfl (Df rfl cw) ?_
     obtain ⟨ok9, h815, r816⟩ := AB r814
     refine Jz (Lt := aj ++ []) (Lr := (b591, ce #[.slice none 0 0, .slice (some ⟨b592, 0, none⟩) 1 1, .slice (some ⟨b593, 0, none⟩) 1 1, .slice (some ⟨b594, 0, none⟩) 2 2] 22) :: ((b592, ce #[.int .i64 0] 3) :: ((b593, ce #[.int .i64 1] 3) :: ((b594, ce #[.int .i64 0, .int .i64 2] 3) :: ((b598, ce (#[.slice (some ⟨b588, 0, none⟩) a6 a6, .slice (some ⟨b590, 0, none⟩) [gi].length 1]) 26) :: ((b599, ce #[.slice (some ⟨b591, 0, none⟩) 4 4, .slice cb cc cd] 26) :: (ak ++ []))))))) rfl call10 rfl rfl rfl (pT ((fC (fC (fC (fC (fC (fC fP)))))).trans (pA pR)) (lp (ln rfl))) (fun F2 h2 h3 => by have h0 := E7 (al.row (Ae _) h2 (fun p hp => h3 p (List.mem_append_left _ hp))) (ef.mono (Ak (Ae _)) h2) h815; rw [← (BG.Be al).1] at h0; exact h0) ?_
     refine BP (b := false) 246 rfl (Df rfl cw) (wv (BM rfl) (wv (Ar (En rfl cw) rfl) (wm ?_)))
     rcases Bf (!ok9) with bw | bw
     ·have r818 := bt r816 bw
      refine AU (b' := true) 252 rfl (Df rfl bw) rfl rfl (AU (b' := true) 252 rfl (Df rfl bw) rfl rfl (AU (b' := true) 252 rfl (Df rfl bw) rfl rfl (AU (b' := true) 252 rfl (Df rfl bw) rfl rfl (AU (b' := true) 252 rfl (Df rfl bw) rfl rfl ?_))))
      refine wv (Aw (En rfl bw) rfl) ?_
      refine wm (AU (b' := true) 259 rfl rfl rfl rfl (AU (b' := true) 259 rfl rfl rfl rfl (AU (b' := true) 259 rfl rfl rfl rfl (AU (b' := true) 259 rfl rfl rfl rfl (AU (b' := true) 259 rfl rfl rfl rfl ?_)))))
      refine wv (Aw rfl rfl) ?_
      refine wm (AU (b' := true) 266 rfl rfl rfl rfl (AU (b' := true) 266 rfl rfl rfl rfl (AU (b' := true) 266 rfl rfl rfl rfl (AU (b' := true) 266 rfl rfl rfl rfl (AU (b' := true) 266 rfl rfl rfl rfl (AU (b' := true) 266 rfl rfl rfl rfl ?_))))))
      refine wv (Aw rfl rfl) (BV ?_)
      obtain ⟨rfl, rfl⟩ := BT r818
      exact mi kr ⟨(some ⟨b590, 0, none⟩), 1, (db.trans ck), rfl, z5, ef⟩
     have r819 := bf r816 bw
     refine BP (b := false) 252 rfl (Df rfl bw) (wv (AE isAgg26 sizeOf26 rfl (Has.own 5 rfl) (A5 rfl) rfl) ?_)
     refine BP (b := false) 252 rfl (Df rfl bw) (wm (BP (b := false) 252 rfl (Df rfl bw) ?_))
     refine wv (BL (v := .agg #[.int .i64 k7, .int .i64 0]) rfl (by intro w; kernel_rfl)) ?_
     refine BP (b := false) 252 rfl (Df rfl bw) ?_
     obtain ⟨ok10, h820, r821⟩ := AB r819
     refine Jz (Lt := (b591, ce #[.slice none 0 0, .slice (some ⟨b592, 0, none⟩) 1 1, .slice (some ⟨b593, 0, none⟩) 1 1, .slice (some ⟨b594, 0, none⟩) 2 2] 22) :: ((b592, ce #[.int .i64 0] 3) :: ((b593, ce #[.int .i64 1] 3) :: ((b594, ce #[.int .i64 0, .int .i64 2] 3) :: (ak ++ []))))) (Lr := (b598, ce (#[.slice (some ⟨b588, 0, none⟩) a6 a6, .slice (some ⟨b590, 0, none⟩) [gi].length 1]) 26) :: ((b599, ce #[.slice (some ⟨b591, 0, none⟩) 4 4, .slice cb cc cd] 26) :: (aj ++ []))) rfl call6 rfl rfl rfl (pT (pC (pC (pC (pC ((fC (fC (fS fP))).trans (pA pR)))))) (lb (lb (lb (lb (lp (ln rfl))))))) (fun F2 h2 h3 => by rw [(AW.Be ad).1]; exact CR (Au.AG (Ak (Ae _)) (vss := [[.slice none 0 0], [.slice (some ⟨b592, 0, none⟩) 1 1], [.slice (some ⟨b593, 0, none⟩) 1 1], [.slice (some ⟨b594, 0, none⟩) 2 2]]) (xs := ([[], [0], [1], [0, 2]] : List (List Int))) (h3 (b591, ce #[.slice none 0 0, .slice (some ⟨b592, 0, none⟩) 1 1, .slice (some ⟨b593, 0, none⟩) 1 1, .slice (some ⟨b594, 0, none⟩) 2 2] 22) (List.mem_cons_self ..)) (.cons ⟨_, _, rfl, Au.nil _ _ _⟩ (.cons ⟨_, _, rfl, (Au.AG (Ae _) (vss := [[.int .i64 0]]) (xs := ([0] : List Int)) (h3 (b592, ce #[.int .i64 0] 3) (List.mem_cons_of_mem _ (List.mem_cons_self ..))) (.cons rfl .nil) rfl (by simp [maxLen]))⟩ (.cons ⟨_, _, rfl, (Au.AG (Ae _) (vss := [[.int .i64 1]]) (xs := ([1] : List Int)) (h3 (b593, ce #[.int .i64 1] 3) (List.mem_cons_of_mem _ (List.mem_cons_of_mem _ (List.mem_cons_self ..)))) (.cons rfl .nil) rfl (by simp [maxLen]))⟩ (.cons ⟨_, _, rfl, (Au.AG (Ae _) (vss := [[.int .i64 0], [.int .i64 2]]) (xs := ([0, 2] : List Int)) (h3 (b594, ce #[.int .i64 0, .int .i64 2] 3) (List.mem_cons_of_mem _ (List.mem_cons_of_mem _ (List.mem_cons_of_mem _ (List.mem_cons_self ..))))) (.cons rfl (.cons rfl .nil)) rfl (by simp [maxLen]))⟩ .nil)))) rfl (by simp [maxLen])) (ad.row (Ak (Ae _)) h2 (fun p hp => h3 p (List.mem_cons_of_mem _ (List.mem_cons_of_mem _ (List.mem_cons_of_mem _ (List.mem_cons_of_mem _ (List.mem_append_left _ hp))))))) h820) ?_
     refine BP (b := false) 252 rfl (Df rfl bw) (wv (BM rfl) (wv (Ar (En rfl bw) rfl) (wm ?_)))
     rcases Bf (!ok10) with bx | bx
     ·have r823 := bt r821 bx
      refine AU (b' := true) 259 rfl (Df rfl bx) rfl rfl (AU (b' := true) 259 rfl (Df rfl bx) rfl rfl (AU (b' := true) 259 rfl (Df rfl bx) rfl rfl (AU (b' := true) 259 rfl (Df rfl bx) rfl rfl (AU (b' := true) 259 rfl (Df rfl bx) rfl rfl ?_))))
      refine wv (Aw (En rfl bx) rfl) ?_
      refine wm (AU (b' := true) 266 rfl rfl rfl rfl (AU (b' := true) 266 rfl rfl rfl rfl (AU (b' := true) 266 rfl rfl rfl rfl (AU (b' := true) 266 rfl rfl rfl rfl (AU (b' := true) 266 rfl rfl rfl rfl (AU (b' := true) 266 rfl rfl rfl rfl ?_))))))
      refine wv (Aw rfl rfl) (BV ?_)
      obtain ⟨rfl, rfl⟩ := BT r823
      exact mi kr ⟨(some ⟨b590, 0, none⟩), 1, (db.trans ck), rfl, z5, ef⟩
     have r824 := bf r821 bx
     refine BP (b := false) 259 rfl (Df rfl bx) (wv (AE isAgg26 sizeOf26 rfl (Has.own 5 rfl) (A5 rfl) rfl) ?_)
     refine BP (b := false) 259 rfl (Df rfl bx) (wm (BP (b := false) 259 rfl (Df rfl bx) ?_))
     obtain ⟨g825, r826⟩ := AX r824
     refine wv (C7 rfl rfl g825) (BP (b := false) 259 rfl (Df rfl bx) ?_)
     obtain ⟨ok11, h827, r828⟩ := AB r826
     refine Jz (Lt := (b591, ce #[.slice none 0 0, .slice (some ⟨b592, 0, none⟩) 1 1, .slice (some ⟨b593, 0, none⟩) 1 1, .slice (some ⟨b594, 0, none⟩) 2 2] 22) :: ((b592, ce #[.int .i64 0] 3) :: ((b593, ce #[.int .i64 1] 3) :: ((b594, ce #[.int .i64 0, .int .i64 2] 3) :: (ak ++ []))))) (Lr := (b598, ce (#[.slice (some ⟨b588, 0, none⟩) a6 a6, .slice (some ⟨b590, 0, none⟩) [gi].length 1]) 26) :: ((b599, ce #[.slice (some ⟨b591, 0, none⟩) 4 4, .slice cb cc cd] 26) :: (aj ++ []))) rfl call7 rfl rfl rfl (pT (pC (pC (pC (pC ((fC (fC (fS fP))).trans (pA pR)))))) (lb (lb (lb (lb (lp (ln rfl))))))) (fun F2 h2 h3 => by rw [(AW.Be ad).1]; exact El (Au.AG (Ak (Ae _)) (vss := [[.slice none 0 0], [.slice (some ⟨b592, 0, none⟩) 1 1], [.slice (some ⟨b593, 0, none⟩) 1 1], [.slice (some ⟨b594, 0, none⟩) 2 2]]) (xs := ([[], [0], [1], [0, 2]] : List (List Int))) (h3 (b591, ce #[.slice none 0 0, .slice (some ⟨b592, 0, none⟩) 1 1, .slice (some ⟨b593, 0, none⟩) 1 1, .slice (some ⟨b594, 0, none⟩) 2 2] 22) (List.mem_cons_self ..)) (.cons ⟨_, _, rfl, Au.nil _ _ _⟩ (.cons ⟨_, _, rfl, (Au.AG (Ae _) (vss := [[.int .i64 0]]) (xs := ([0] : List Int)) (h3 (b592, ce #[.int .i64 0] 3) (List.mem_cons_of_mem _ (List.mem_cons_self ..))) (.cons rfl .nil) rfl (by simp [maxLen]))⟩ (.cons ⟨_, _, rfl, (Au.AG (Ae _) (vss := [[.int .i64 1]]) (xs := ([1] : List Int)) (h3 (b593, ce #[.int .i64 1] 3) (List.mem_cons_of_mem _ (List.mem_cons_of_mem _ (List.mem_cons_self ..)))) (.cons rfl .nil) rfl (by simp [maxLen]))⟩ (.cons ⟨_, _, rfl, (Au.AG (Ae _) (vss := [[.int .i64 0], [.int .i64 2]]) (xs := ([0, 2] : List Int)) (h3 (b594, ce #[.int .i64 0, .int .i64 2] 3) (List.mem_cons_of_mem _ (List.mem_cons_of_mem _ (List.mem_cons_of_mem _ (List.mem_cons_self ..))))) (.cons rfl (.cons rfl .nil)) rfl (by simp [maxLen]))⟩ .nil)))) rfl (by simp [maxLen])) (ad.row (Ak (Ae _)) h2 (fun p hp => h3 p (List.mem_cons_of_mem _ (List.mem_cons_of_mem _ (List.mem_cons_of_mem _ (List.mem_cons_of_mem _ (List.mem_append_left _ hp))))))) h827) ?_
     refine BP (b := false) 259 rfl (Df rfl bx) (wv (BM rfl) (wv (Ar (En rfl bx) rfl) (wm ?_)))
     rcases Bf (!ok11) with bh | bh
     ·have r830 := bt r828 bh
      refine AU (b' := true) 266 rfl (Df rfl bh) rfl rfl (AU (b' := true) 266 rfl (Df rfl bh) rfl rfl (AU (b' := true) 266 rfl (Df rfl bh) rfl rfl (AU (b' := true) 266 rfl (Df rfl bh) rfl rfl (AU (b' := true) 266 rfl (Df rfl bh) rfl rfl (AU (b' := true) 266 rfl (Df rfl bh) rfl rfl ?_)))))
      refine wv (Aw (En rfl bh) rfl) (BV ?_)
      obtain ⟨rfl, rfl⟩ := BT r830
      exact mi kr ⟨(some ⟨b590, 0, none⟩), 1, (db.trans ck), rfl, z5, ef⟩
     have r831 := bf r828 bh
     refine BP (b := false) 266 rfl (Df rfl bh) (wv (AE isAgg26 sizeOf26 rfl (Has.own 5 rfl) (A5 rfl) rfl) ?_)
     refine BP (b := false) 266 rfl (Df rfl bh) (wm (BP (b := false) 266 rfl (Df rfl bh) ?_))
     obtain ⟨g832, r833⟩ := AX r831
     refine wv (C7 rfl rfl g832) (BP (b := false) 266 rfl (Df rfl bh) ?_)
     refine wv (BL (v := .agg #[.int .i64 (k7 - 1), .int .i64 3]) rfl (by intro w; kernel_rfl)) ?_
     refine BP (b := false) 266 rfl (Df rfl bh) ?_
     obtain ⟨ok12, h834, r835⟩ := AB r833
     refine Jz (Lt := (b591, ce #[.slice none 0 0, .slice (some ⟨b592, 0, none⟩) 1 1, .slice (some ⟨b593, 0, none⟩) 1 1, .slice (some ⟨b594, 0, none⟩) 2 2] 22) :: ((b592, ce #[.int .i64 0] 3) :: ((b593, ce #[.int .i64 1] 3) :: ((b594, ce #[.int .i64 0, .int .i64 2] 3) :: (ak ++ []))))) (Lr := (b598, ce (#[.slice (some ⟨b588, 0, none⟩) a6 a6, .slice (some ⟨b590, 0, none⟩) [gi].length 1]) 26) :: ((b599, ce #[.slice (some ⟨b591, 0, none⟩) 4 4, .slice cb cc cd] 26) :: (aj ++ []))) rfl call10 rfl rfl rfl (pT (pC (pC (pC (pC ((fC (fC (fS fP))).trans (pA pR)))))) (lb (lb (lb (lb (lp (ln rfl))))))) (fun F2 h2 h3 => by rw [(AW.Be ad).1]; exact E7 (Au.AG (Ak (Ae _)) (vss := [[.slice none 0 0], [.slice (some ⟨b592, 0, none⟩) 1 1], [.slice (some ⟨b593, 0, none⟩) 1 1], [.slice (some ⟨b594, 0, none⟩) 2 2]]) (xs := ([[], [0], [1], [0, 2]] : List (List Int))) (h3 (b591, ce #[.slice none 0 0, .slice (some ⟨b592, 0, none⟩) 1 1, .slice (some ⟨b593, 0, none⟩) 1 1, .slice (some ⟨b594, 0, none⟩) 2 2] 22) (List.mem_cons_self ..)) (.cons ⟨_, _, rfl, Au.nil _ _ _⟩ (.cons ⟨_, _, rfl, (Au.AG (Ae _) (vss := [[.int .i64 0]]) (xs := ([0] : List Int)) (h3 (b592, ce #[.int .i64 0] 3) (List.mem_cons_of_mem _ (List.mem_cons_self ..))) (.cons rfl .nil) rfl (by simp [maxLen]))⟩ (.cons ⟨_, _, rfl, (Au.AG (Ae _) (vss := [[.int .i64 1]]) (xs := ([1] : List Int)) (h3 (b593, ce #[.int .i64 1] 3) (List.mem_cons_of_mem _ (List.mem_cons_of_mem _ (List.mem_cons_self ..)))) (.cons rfl .nil) rfl (by simp [maxLen]))⟩ (.cons ⟨_, _, rfl, (Au.AG (Ae _) (vss := [[.int .i64 0], [.int .i64 2]]) (xs := ([0, 2] : List Int)) (h3 (b594, ce #[.int .i64 0, .int .i64 2] 3) (List.mem_cons_of_mem _ (List.mem_cons_of_mem _ (List.mem_cons_of_mem _ (List.mem_cons_self ..))))) (.cons rfl (.cons rfl .nil)) rfl (by simp [maxLen]))⟩ .nil)))) rfl (by simp [maxLen])) (ad.row (Ak (Ae _)) h2 (fun p hp => h3 p (List.mem_cons_of_mem _ (List.mem_cons_of_mem _ (List.mem_cons_of_mem _ (List.mem_cons_of_mem _ (List.mem_append_left _ hp))))))) h834) ?_
     refine BP (b := false) 266 rfl (Df rfl bh) (wv (BM rfl) (wv (Ar (En rfl bh) rfl) (BV ?_)))
     obtain ⟨rfl, rfl⟩ := BT r835
     exact mi kr ⟨(some ⟨b590, 0, none⟩), 1, (db.trans ck), rfl, z5, ef⟩
    rintro e1 F837 _ ⟨gg, gh, ij, rfl, he836, h789⟩
    refine Az _ he836 ?_
    replace al := al.mono (Ae _) ij
    replace ad := ad.mono (Ak (Ae _)) ij
    refine AT rfl (fun oc => ?_) (fun oc => ?_)
    ·have r840 := bt o8 oc
     refine AI (ua (Aa ?_))
     refine kW kn ?_
     refine As (Al (Ay (Al (Al (Ay (Al ?_))))))
     refine BD results3 ?_
     obtain rfl := AH r840
     exact rfl
    have r841 := bf o8 oc
    refine Aq ?_
    obtain ⟨k11, h842, od⟩ := AB r841
    refine jE ([]) [(179, .int .i64 k7), (295, .bool k11)] ?_ ?_
    ·clear od
     refine An (uv (AE isAgg26 sizeOf26 rfl (Has.own 4 rfl) (A5 rfl) rfl) ?_)
     obtain ⟨n2, h844, r845⟩ := AB h842
     refine Bi (Lt := aj ++ []) (Lr := (b591, ce #[.slice none 0 0, .slice (some ⟨b592, 0, none⟩) 1 1, .slice (some ⟨b593, 0, none⟩) 1 1, .slice (some ⟨b594, 0, none⟩) 2 2] 22) :: ((b592, ce #[.int .i64 0] 3) :: ((b593, ce #[.int .i64 1] 3) :: ((b594, ce #[.int .i64 0, .int .i64 2] 3) :: ((b598, ce #[.slice (some ⟨b588, 0, none⟩) a6 a6, .slice gg bd.length gh] 26) :: ((b599, ce #[.slice (some ⟨b591, 0, none⟩) 4 4, .slice cb cc cd] 26) :: (ak ++ []))))))) rfl call12 rfl rfl rfl (pT ((fC (fC (fC (fC (fC (fC fP)))))).trans (pA pR)) (lp (ln rfl))) (fun F2 h2 h3 => by have h0 := GC (al.row (Ae _) h2 (fun p hp => h3 p (List.mem_append_left _ hp))) (h789.mono (Ak (Ae _)) h2) h844; rw [← (BG.Be al).1] at h0; exact h0) ?_
     refine uv (Bb rfl rfl) (um (uv (Em rfl rfl) (um ?_)))
     by_cases et : 0 < k7
     ·have r847 := AQ r845 et
      refine nT et (um (nT et ?_))
      refine uv (AV rfl rfl) (uv (Aw (AS rfl et) rfl) (uv (Of underlying4 rfl rfl) (um ?_)))
      by_cases cn : (decide (n2 = 0)) ≠ (decide (k7 < 7))
      ·have r849 := AQ r847 cn
       refine fT cn (fT cn (fT cn (fU (fU (fU (fU (fU (fU (fT cn ?_)))))))))
       refine uv (Aw (AS rfl cn) rfl) (Aa ?_)
       obtain rfl := AH r849
       exact mi kn ⟨rfl, rfl, z2⟩
      have r850 := AR r847 cn
      refine nF cn (um (nF cn ?_))
      refine uv (Em rfl rfl) ?_
      refine nF cn (um ?_)
      by_cases bj : 1 < k7
      ·have r852 := AQ r850 bj
       refine nT bj (uv (AE isAgg26 sizeOf26 rfl (Has.own 5 rfl) (A5 rfl) rfl) (nT bj ?_))
       obtain ⟨n3, h853, r854⟩ := AB r852
       refine Bi (Lt := (b591, ce #[.slice none 0 0, .slice (some ⟨b592, 0, none⟩) 1 1, .slice (some ⟨b593, 0, none⟩) 1 1, .slice (some ⟨b594, 0, none⟩) 2 2] 22) :: ((b592, ce #[.int .i64 0] 3) :: ((b593, ce #[.int .i64 1] 3) :: ((b594, ce #[.int .i64 0, .int .i64 2] 3) :: (ak ++ []))))) (Lr := (b598, ce #[.slice (some ⟨b588, 0, none⟩) a6 a6, .slice gg bd.length gh] 26) :: ((b599, ce #[.slice (some ⟨b591, 0, none⟩) 4 4, .slice cb cc cd] 26) :: (aj ++ []))) rfl call12 rfl rfl rfl (pT (pC (pC (pC (pC ((fC (fC (fS fP))).trans (pA pR)))))) (lb (lb (lb (lb (lp (ln rfl))))))) (fun F2 h2 h3 => by rw [(AW.Be ad).1]; exact GC (Au.AG (Ak (Ae _)) (vss := [[.slice none 0 0], [.slice (some ⟨b592, 0, none⟩) 1 1], [.slice (some ⟨b593, 0, none⟩) 1 1], [.slice (some ⟨b594, 0, none⟩) 2 2]]) (xs := ([[], [0], [1], [0, 2]] : List (List Int))) (h3 (b591, ce #[.slice none 0 0, .slice (some ⟨b592, 0, none⟩) 1 1, .slice (some ⟨b593, 0, none⟩) 1 1, .slice (some ⟨b594, 0, none⟩) 2 2] 22) (List.mem_cons_self ..)) (.cons ⟨_, _, rfl, Au.nil _ _ _⟩ (.cons ⟨_, _, rfl, (Au.AG (Ae _) (vss := [[.int .i64 0]]) (xs := ([0] : List Int)) (h3 (b592, ce #[.int .i64 0] 3) (List.mem_cons_of_mem _ (List.mem_cons_self ..))) (.cons rfl .nil) rfl (by simp [maxLen]))⟩ (.cons ⟨_, _, rfl, (Au.AG (Ae _) (vss := [[.int .i64 1]]) (xs := ([1] : List Int)) (h3 (b593, ce #[.int .i64 1] 3) (List.mem_cons_of_mem _ (List.mem_cons_of_mem _ (List.mem_cons_self ..)))) (.cons rfl .nil) rfl (by simp [maxLen]))⟩ (.cons ⟨_, _, rfl, (Au.AG (Ae _) (vss := [[.int .i64 0], [.int .i64 2]]) (xs := ([0, 2] : List Int)) (h3 (b594, ce #[.int .i64 0, .int .i64 2] 3) (List.mem_cons_of_mem _ (List.mem_cons_of_mem _ (List.mem_cons_of_mem _ (List.mem_cons_self ..))))) (.cons rfl (.cons rfl .nil)) rfl (by simp [maxLen]))⟩ .nil)))) rfl (by simp [maxLen])) (ad.row (Ak (Ae _)) h2 (fun p hp => h3 p (List.mem_cons_of_mem _ (List.mem_cons_of_mem _ (List.mem_cons_of_mem _ (List.mem_cons_of_mem _ (List.mem_append_left _ hp))))))) h853) ?_
       refine nT bj (uv (Bb rfl rfl) ?_)
       refine nT bj (um (nT bj ?_))
       refine uv (AV rfl rfl) (nT bj (uv (Of underlying4 rfl rfl) (nF cn (uv (Aw (AS rfl bj) rfl) (uv (Ar (AM rfl cn) rfl) (Aa ?_))))))
       obtain rfl := AH r854
       exact mi kn ⟨rfl, rfl, z2⟩
      have r855 := AR r850 bj
      refine fF bj (fF bj (fF bj (fF bj (fF bj (fF bj (nF cn ?_))))))
      refine uv (Ar (AM rfl bj) rfl) (uv (Ar (AM rfl cn) rfl) (Aa ?_))
      obtain rfl := AH r855
      exact mi kn ⟨rfl, rfl, z2⟩
     have r856 := AR r845 et
     refine fF et (fF et ?_)
     refine uv (Ar (AM rfl et) rfl) (uv (Of underlying4 rfl rfl) (um ?_))
     by_cases cp : (decide (n2 = 0)) ≠ false
     ·have r858 := AQ r856 cp
      refine fT cp (fT cp (fT cp (fU (fU (fU (fU (fU (fU (fT cp ?_)))))))))
      refine uv (Aw (AS rfl cp) rfl) (Aa ?_)
      obtain rfl := AH r858
      exact mi kn ⟨rfl, rfl, z2⟩
     have r859 := AR r856 cp
     refine nF cp (um (nF cp ?_))
     refine uv (Em rfl rfl) ?_
     refine nF cp (um ?_)
     by_cases bk : 1 < k7
     ·have r861 := AQ r859 bk
      refine nT bk (uv (AE isAgg26 sizeOf26 rfl (Has.own 5 rfl) (A5 rfl) rfl) (nT bk ?_))
      obtain ⟨n4, h862, r863⟩ := AB r861
      refine Bi (Lt := (b591, ce #[.slice none 0 0, .slice (some ⟨b592, 0, none⟩) 1 1, .slice (some ⟨b593, 0, none⟩) 1 1, .slice (some ⟨b594, 0, none⟩) 2 2] 22) :: ((b592, ce #[.int .i64 0] 3) :: ((b593, ce #[.int .i64 1] 3) :: ((b594, ce #[.int .i64 0, .int .i64 2] 3) :: (ak ++ []))))) (Lr := (b598, ce #[.slice (some ⟨b588, 0, none⟩) a6 a6, .slice gg bd.length gh] 26) :: ((b599, ce #[.slice (some ⟨b591, 0, none⟩) 4 4, .slice cb cc cd] 26) :: (aj ++ []))) rfl call12 rfl rfl rfl (pT (pC (pC (pC (pC ((fC (fC (fS fP))).trans (pA pR)))))) (lb (lb (lb (lb (lp (ln rfl))))))) (fun F2 h2 h3 => by rw [(AW.Be ad).1]; exact GC (Au.AG (Ak (Ae _)) (vss := [[.slice none 0 0], [.slice (some ⟨b592, 0, none⟩) 1 1], [.slice (some ⟨b593, 0, none⟩) 1 1], [.slice (some ⟨b594, 0, none⟩) 2 2]]) (xs := ([[], [0], [1], [0, 2]] : List (List Int))) (h3 (b591, ce #[.slice none 0 0, .slice (some ⟨b592, 0, none⟩) 1 1, .slice (some ⟨b593, 0, none⟩) 1 1, .slice (some ⟨b594, 0, none⟩) 2 2] 22) (List.mem_cons_self ..)) (.cons ⟨_, _, rfl, Au.nil _ _ _⟩ (.cons ⟨_, _, rfl, (Au.AG (Ae _) (vss := [[.int .i64 0]]) (xs := ([0] : List Int)) (h3 (b592, ce #[.int .i64 0] 3) (List.mem_cons_of_mem _ (List.mem_cons_self ..))) (.cons rfl .nil) rfl (by simp [maxLen]))⟩ (.cons ⟨_, _, rfl, (Au.AG (Ae _) (vss := [[.int .i64 1]]) (xs := ([1] : List Int)) (h3 (b593, ce #[.int .i64 1] 3) (List.mem_cons_of_mem _ (List.mem_cons_of_mem _ (List.mem_cons_self ..)))) (.cons rfl .nil) rfl (by simp [maxLen]))⟩ (.cons ⟨_, _, rfl, (Au.AG (Ae _) (vss := [[.int .i64 0], [.int .i64 2]]) (xs := ([0, 2] : List Int)) (h3 (b594, ce #[.int .i64 0, .int .i64 2] 3) (List.mem_cons_of_mem _ (List.mem_cons_of_mem _ (List.mem_cons_of_mem _ (List.mem_cons_self ..))))) (.cons rfl (.cons rfl .nil)) rfl (by simp [maxLen]))⟩ .nil)))) rfl (by simp [maxLen])) (ad.row (Ak (Ae _)) h2 (fun p hp => h3 p (List.mem_cons_of_mem _ (List.mem_cons_of_mem _ (List.mem_cons_of_mem _ (List.mem_cons_of_mem _ (List.mem_append_left _ hp))))))) h862) ?_
      refine nT bk (uv (Bb rfl rfl) ?_)
      refine nT bk (um (nT bk ?_))
      refine uv (AV rfl rfl) (nT bk (uv (Of underlying4 rfl rfl) (nF cp (uv (Aw (AS rfl bk) rfl) (uv (Ar (AM rfl cp) rfl) (Aa ?_))))))
      obtain rfl := AH r863
      exact mi kn ⟨rfl, rfl, z2⟩
     have r864 := AR r859 bk
     refine fF bk (fF bk (fF bk (fF bk (fF bk (fF bk (nF cp ?_))))))
     refine uv (Ar (AM rfl bk) rfl) (uv (Ar (AM rfl cp) rfl) (Aa ?_))
     obtain rfl := AH r864
     exact mi kn ⟨rfl, rfl, z2⟩
    refine AT rfl (fun oe => ?_) (fun oe => ?_)
    ·have r867 := bt od oe
     refine AI (ua (Aa (As (Ay (Al (Al (Ay (Al ?_))))))))
     refine BD results3 ?_
     obtain rfl := AH r867
     exact rfl
    have r868 := bf od oe
    refine Aq (Ax (id := 9) ?_)
    exact mi kr ⟨r868, (hF786.trans ij), rfl, z1⟩
   rintro e1 F871 _ ⟨r869, hF872, rfl, he870⟩
   refine Az _ he870 ?_
   rw [Fs] at r869
   refine An (uv (AY rfl rfl (CZ.CC gv j7 g539)) ?_)
   refine um (Aa ?_)
   exact le kr ⟨_, vt, r869, (lk.trans hF872), rfl, z1⟩
  obtain rfl := CZ.zero gv j7
  rw [Cc] at j6
  refine AL (Am (Am ?_))
  refine AA ?_
  exact mi kr ⟨j6, lk, rfl, (sn _)⟩
 rintro e1 F875 _ ⟨r873, hF876, rfl, he874⟩
 refine Az _ he874 ?_
 rw [FB] at r873
 refine AI ?_
 refine uv (BL (v := .agg #[.slice none 0 0, .slice none 0 0]) rfl (by intro w; kernel_rfl)) ?_
 refine uv (BL (v := .agg #[.int .i64 0, .int .i64 0]) rfl (by intro w; kernel_rfl)) ?_
 obtain ⟨ok13, h877, r878⟩ := AB r873
 refine cV call6 (CR (Au.nil _ _ _) (Au.nil _ _ _) h877) (um ?_)
 rcases Bf ok13 with eg | eg
 ·have r880 := bt r878 eg
  refine nB eg ?_
  refine uv (BL (v := .agg #[.slice none 0 0, .slice none 0 0]) rfl (by intro w; kernel_rfl)) ?_
  refine nB eg ?_
  obtain ⟨ok14, h881, r882⟩ := AB r880
  refine cV call13 (I9 (Au.nil _ _ _) (Au.nil _ _ _) h881) (uv (Aw (En rfl eg) rfl) (um ?_))
  rcases Bf ok14 with ff | ff
  ·have r884 := bt r882 ff
   refine nB ff ?_
   obtain ⟨ok15, h885, r886⟩ := AB r884
   refine cV call14 (BB h885) (uv (Aw (En rfl ff) rfl) ?_)
   refine ua (Aa (As ?_))
   refine BD results3 ?_
   obtain rfl := AH r886
   exact rfl
  have r887 := bf r882 ff
  refine fB ff (uv (Ar (En rfl ff) rfl) ?_)
  refine ua (Aa (As ?_))
  refine BD results3 ?_
  obtain rfl := AH r887
  exact rfl
 have r888 := bf r878 eg
 refine fB eg (fB eg ?_)
 refine uv (Ar (En rfl eg) rfl) ?_
 refine um (Ah (b' := false) 304 rfl rfl rfl rfl ?_)
 refine uv (Ar rfl rfl) ?_
 refine ua (Aa (As ?_))
 refine BD results3 ?_
 obtain rfl := AH r888
 exact rfl
end Go.Proofs.YtepdgjpkhkijcaaGreat
