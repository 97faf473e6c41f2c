/- The walks that this claim needs, printed by a program of mine; part 5. -/
import Derived.Test.YtdhookifhfkcpaaGreatZBNB4
namespace Go.Proofs.YtdhookifhfkcpaaGreat
open Go.SH Go.PL
open Tryz 
set_option maxHeartbeats 8000000 in
theorem Lm {F : FS} {r : Bool} (hr : Er = some r) :
    Bp Tryz.prog 3 #[] F (.bool r) := by
 refine sp func3 ntmps3 fun K _ _ => ?_
 rw [Er] at hr
 refine AG (ua (Aa ?_))
 obtain ⟨h1, r2⟩ := IK hr
 refine jF ([]) [] ?_ fun F299 hF300 => ?_
 ·clear r2
  refine AG ?_
  refine bA (cs := #[vI (-2), vI (-1), vI 0, vI 1, vI 2, vI 3, vI 4, vI 5, vI 6, vI 7, vI 8, vI 9, vI 9223372036854775807, vI (-9223372036854775808)]) Bm [vI (-2), vI (-1), vI 0, vI 1, vI 2, vI 3, vI 4, vI 5, vI 6, vI 7, vI 8, vI 9, vI 9223372036854775807, vI (-9223372036854775808)] ?_; intro b3 hb3
  refine uv (AJ underlying22 rfl) ?_
  refine um (Aa ?_)
  refine As ?_
  refine BN 0 rfl hb3 ?_; intro F4 hF5 hz6
  refine E5 (L' := []) rfl ?_
  have h7 : At 1 eI F4 (aD b3) 14 [-2, -1, 0, 1, 2, 3, 4, 5, 6, 7, 8, 9, 9223372036854775807, -9223372036854775808] := At.oI hz6
  obtain ⟨g8, r9⟩ := AF h1
  refine A6 (fun fu1 e1 F1 L1 => ∃ (k : Int), B0 0 14 k fu1 ∧ Bg fu1 k = some () ∧ AQ F4 F1 ∧ L1 = [] ∧ e1.sub [(22, sL (aD b3) [-2, -1, 0, 1, 2, 3, 4, 5, 6, 7, 8, 9, 9223372036854775807, -9223372036854775808].length 14), (23, vI 14), (24, vI k)]) _ (m0 kr ⟨_, B0.start _ _, r9, AQ.refl _, rfl, z3⟩) ?_
  rintro fu1 e1 F14 _ ⟨k, ql, r12, qn, rfl, he13⟩
  refine AA _ he13 ?_
  replace h7 := h7.m1 qn
  refine AG (uv (AY rfl rfl) ?_)
  refine Aa (Au ?_)
  refine cQ (fun c17 => ?_) fun c17 => ?_
  ·obtain ⟨fu1, rfl, hk18⟩ := B0.succ ql c17
   rw [Bg] at r12
   refine Ar ?_
   obtain ⟨h19, r20⟩ := IK r12
   refine jF ([]) [(22, sL (aD b3) [-2, -1, 0, 1, 2, 3, 4, 5, 6, 7, 8, 9, 9223372036854775807, -9223372036854775808].length 14), (23, vI 14), (24, vI k)] ?_ fun F296 tt => ?_
   ·clear r20
    refine As (AG ?_)
    obtain ⟨x, g21, hx22, r23⟩ := BG h19
    obtain ⟨b24, o25, c26, vs27, ha28, hs29, hle30, rfl, hl31, hc32⟩ := At.ta kI h7 g21.1 hx22
    refine uv (C0 underlying22 sizeOf3 ha28 g21) (uv (AS isAgg3 rfl (hs29 _) (hc32 0 (by decide))) ?_)
    refine ua (BR (um (Aa ?_)))
    refine As ?_
    obtain ⟨g33, r34⟩ := AF r23
    refine A6 (fun fu2 e1 F1 L1 => ∃ (k2 : Int), B0 0 14 k2 fu2 ∧ Dk x fu2 k2 = some () ∧ AQ F14 F1 ∧ L1 = [] ∧ e1.sub [(2, vI x), (22, sL (aD b3) [-2, -1, 0, 1, 2, 3, 4, 5, 6, 7, 8, 9, 9223372036854775807, -9223372036854775808].length 14), (23, vI 14), (24, vI k), (28, vI k2)]) _ (m0 kr ⟨_, B0.start _ _, r34, AQ.refl _, rfl, z5⟩) ?_
    rintro fu2 e1 tu _ ⟨k2, qo, r37, tv, rfl, he38⟩
    refine AA _ he38 (AG (uv (AY rfl rfl) ?_))
    refine Aa (Au ?_)
    refine cQ (fun c42 => ?_) fun c42 => ?_
    ·obtain ⟨fu2, rfl, hk43⟩ := B0.succ qo c42
     rw [Dk] at r37
     refine Ar (Au ?_)
     refine As ?_
     refine AG (um (ua (BR ?_)))
     obtain ⟨n, n2, y, y2, y3, h44, r45⟩ := Ez r37
     refine c0 call4 (D7 h44) ?_; rintro _ _ _ hF47 gq ⟨dr, dm, fa, dt, eo, en, gr, j1, rfl, rfl, rfl⟩
     have hb50 := gq _ mz
     have hb51 := gq _ (my mz)
     have hb52 := gq _ (my (my mz))
     have hb53 := gq _ (my (my (my mz)))
     have hb54 := gq _ (my (my (my (my mz))))
     have hb55 := gq _ (my (my (my (my (my mz)))))
     have hb56 := gq _ (my (my (my (my (my (my mz))))))
     have hb57 := gq _ (my (my (my (my (my (my (my mz)))))))
     refine AB (lb (lb (lb (lb (lb (lb (lb (lb (ln rfl))))))))) ?_
     refine bA (cs := #[vI 1, vI 2, vI 3]) Bm [vI 1, vI 2, vI 3] ?_; intro qp hb58
     refine uv (BX (v := .agg #[vI 0, vI 0, .bool true]) rfl (by intro w; kernel_rfl)) ?_
     refine uv (BX (v := .agg #[vI 1, vI 0, .bool false]) rfl (by intro w; kernel_rfl)) ?_
     refine bA (cs := #[vI 0, vI 0, .bool true, vI 1, vI 0, .bool false]) K8 [.agg #[vI 0, vI 0, .bool true], .agg #[vI 1, vI 0, .bool false]] ?_; intro fv hb59
     refine bA (cs := #[vI 1, vI 0]) Bm [vI 1, vI 0] ?_; intro nr hb60
     refine Bu rfl zeroValue26 ?_; intro ft hb61
     refine Bu rfl zeroValue3 ?_; intro gk hb62
     refine Bu rfl zeroValue3 ?_; intro gl hb63
     refine Bu rfl zeroValue3 ?_; intro gm hb64
     have cp : AI K.w0.heap.size 3 1 eI tu (aD gr) 3 3 [1, -1, 4] [(gr, ce #[vI 1, vI (-1), vI 4] 3)] := AI.Bd (vss := [[vI 1], [vI (-1)], [vI 4]]) kI hb56 (.cons rfl (.cons rfl (.cons rfl .nil))) rfl rfl (by simp [maxLen])
     generalize qq : ([(gr, ce #[vI 1, vI (-1), vI 4] 3)] : LH) = cc at cp
     refine Bc (L' := cc ++ [(gm, ce #[vI 0] 3), (gl, ce #[vI 0] 3), (gk, ce #[vI 0] 3), (ft, ce #[vI 0, vI 0, sL none 0 0, sL none 0 0, sL none 0 0] 26), (nr, ce #[vI 1, vI 0] 3), (fv, ce #[vI 0, vI 0, .bool true, vI 1, vI 0, .bool false] 29), (qp, ce #[vI 1, vI 2, vI 3] 3), (dr, ce #[sL (aD dm) 8 8] 34), (dm, ce #[sL (aD fa) 1 1, sL (aD dt) 2 2, sL (aD eo) 1 1, sL (aD en) 1 1, sL none 0 0, sL none 0 0, sL none 0 0, sL none 0 0] 22), (fa, ce #[vI 0] 3), (dt, ce #[vI 0, vI 1] 3), (eo, ce #[vI 1] 3), (en, ce #[vI 1] 3), (j1, ce #[vI 0, vI 0, vI 0, vI 2, vI 0, vI 0] 32)]) (by rw [← qq]; exact (fC (fC (fC (fC (fC (fC (fC (fC (fC (fC (fC (fC (fC fO)))))))))))))) ?_
     refine Bc (L' := (gm, ce #[vI 0] 3) :: ((gl, ce #[vI 0] 3) :: ((gk, ce #[vI 0] 3) :: ((ft, ce #[vI 0, vI 0, sL none 0 0, sL none 0 0, sL none 0 0] 26) :: ((nr, ce #[vI 1, vI 0] 3) :: ((fv, ce #[vI 0, vI 0, .bool true, vI 1, vI 0, .bool false] 29) :: ((qp, ce #[vI 1, vI 2, vI 3] 3) :: ((dr, ce #[sL (aD dm) 8 8] 34) :: ((dm, ce #[sL (aD fa) 1 1, sL (aD dt) 2 2, sL (aD eo) 1 1, sL (aD en) 1 1, sL none 0 0, sL none 0 0, sL none 0 0, sL none 0 0] 22) :: ((fa, ce #[vI 0] 3) :: ((dt, ce #[vI 0, vI 1] 3) :: ((eo, ce #[vI 1] 3) :: ((en, ce #[vI 1] 3) :: ((j1, ce #[vI 0, vI 0, vI 0, vI 2, vI 0, vI 0] 32) :: (cc ++ []))))))))))))))) (List.Perm.symm (fC (fC (fC (fC (fC (fC (fC (fC (fC (fC (fC (fC (fC (fC fP))))))))))))))) (BD (i := 3) sizeOf26 rfl rfl rfl (by simp [Value.oneCell']) rfl (DD rfl) (AB rfl (BL (i := 2) sizeOf3 rfl rfl rfl rfl (DD rfl) (AB rfl (BL (i := 1) sizeOf3 rfl rfl rfl rfl (DD rfl) (AB rfl ?_))))))
     have cv : AI K.w0.heap.size 3 1 eI tu (aD qp) 3 3 [1, 2, 3] [(qp, ce #[vI 1, vI 2, vI 3] 3)] := AI.Bd (vss := [[vI 1], [vI 2], [vI 3]]) kI hb58 (.cons rfl (.cons rfl (.cons rfl .nil))) rfl rfl (by simp [maxLen])
     generalize qs : ([(qp, ce #[vI 1, vI 2, vI 3] 3)] : LH) = Lb68 at cv
     refine Bc (L' := Lb68 ++ ((gm, ce #[vI 0] 3) :: ((gl, ce #[vI 3] 3) :: ((gk, ce #[vI 1] 3) :: ((ft, ce #[vI n, vI n2, sL (aD dr) 1 1, sL (aD gr) 3 3, sL (aD j1) 2 2] 26) :: ((nr, ce #[vI 1, vI 0] 3) :: ((fv, ce #[vI 0, vI 0, .bool true, vI 1, vI 0, .bool false] 29) :: ((dr, ce #[sL (aD dm) 8 8] 34) :: ((dm, ce #[sL (aD fa) 1 1, sL (aD dt) 2 2, sL (aD eo) 1 1, sL (aD en) 1 1, sL none 0 0, sL none 0 0, sL none 0 0, sL none 0 0] 22) :: ((fa, ce #[vI 0] 3) :: ((dt, ce #[vI 0, vI 1] 3) :: ((eo, ce #[vI 1] 3) :: ((en, ce #[vI 1] 3) :: ((j1, ce #[vI 0, vI 0, vI 0, vI 2, vI 0, vI 0] 32) :: (cc ++ []))))))))))))))) (by rw [← qs]; exact (fC (fC (fC (fC (fC (fC fO))))))) ?_
     refine Bc (L' := (gm, ce #[vI 0] 3) :: ((gl, ce #[vI 3] 3) :: ((gk, ce #[vI 1] 3) :: ((ft, ce #[vI n, vI n2, sL (aD dr) 1 1, sL (aD gr) 3 3, sL (aD j1) 2 2] 26) :: ((nr, ce #[vI 1, vI 0] 3) :: ((fv, ce #[vI 0, vI 0, .bool true, vI 1, vI 0, .bool false] 29) :: ((dr, ce #[sL (aD dm) 8 8] 34) :: ((dm, ce #[sL (aD fa) 1 1, sL (aD dt) 2 2, sL (aD eo) 1 1, sL (aD en) 1 1, sL none 0 0, sL none 0 0, sL none 0 0, sL none 0 0] 22) :: ((fa, ce #[vI 0] 3) :: ((dt, ce #[vI 0, vI 1] 3) :: ((eo, ce #[vI 1] 3) :: ((en, ce #[vI 1] 3) :: ((j1, ce #[vI 0, vI 0, vI 0, vI 2, vI 0, vI 0] 32) :: (Lb68 ++ (cc ++ []))))))))))))))) (List.Perm.symm (fC (fC (fC (fC (fC (fC (fC (fC (fC (fC (fC (fC (fC fP)))))))))))))) ?_
     refine ua (ua ?_)
     refine BL (i := 0) sizeOf3 rfl rfl rfl rfl (DD rfl) (AB rfl ?_)
     have cw : AI K.w0.heap.size 3 1 eI tu (aD nr) 2 2 [1, 0] [(nr, ce #[vI 1, vI 0] 3)] := AI.Bd (vss := [[vI 1], [vI 0]]) kI hb60 (.cons rfl (.cons rfl .nil)) rfl rfl (by simp [maxLen])
     generalize qt : ([(nr, ce #[vI 1, vI 0] 3)] : LH) = ct at cw
     refine Bc (L' := ct ++ ((gm, ce #[vI 0] 3) :: ((gl, ce #[vI 3] 3) :: ((gk, ce #[vI 1] 3) :: ((ft, ce #[vI n, vI n2, sL (aD dr) 1 1, sL (aD gr) 3 3, sL (aD j1) 2 2] 26) :: ((fv, ce #[vI 0, vI 0, .bool true, vI 1, vI 0, .bool false] 29) :: ((dr, ce #[sL (aD dm) 8 8] 34) :: ((dm, ce #[sL (aD fa) 1 1, sL (aD dt) 2 2, sL (aD eo) 1 1, sL (aD en) 1 1, sL none 0 0, sL none 0 0, sL none 0 0, sL none 0 0] 22) :: ((fa, ce #[vI 0] 3) :: ((dt, ce #[vI 0, vI 1] 3) :: ((eo, ce #[vI 1] 3) :: ((en, ce #[vI 1] 3) :: ((j1, ce #[vI 0, vI 0, vI 0, vI 2, vI 0, vI 0] 32) :: (Lb68 ++ (cc ++ []))))))))))))))) (by rw [← qt]; exact (fC (fC (fC (fC fO))))) ?_
     refine Bc (L' := (gm, ce #[vI 0] 3) :: ((gl, ce #[vI 3] 3) :: ((gk, ce #[vI 1] 3) :: ((ft, ce #[vI n, vI n2, sL (aD dr) 1 1, sL (aD gr) 3 3, sL (aD j1) 2 2] 26) :: ((fv, ce #[vI 0, vI 0, .bool true, vI 1, vI 0, .bool false] 29) :: ((dr, ce #[sL (aD dm) 8 8] 34) :: ((dm, ce #[sL (aD fa) 1 1, sL (aD dt) 2 2, sL (aD eo) 1 1, sL (aD en) 1 1, sL none 0 0, sL none 0 0, sL none 0 0, sL none 0 0] 22) :: ((fa, ce #[vI 0] 3) :: ((dt, ce #[vI 0, vI 1] 3) :: ((eo, ce #[vI 1] 3) :: ((en, ce #[vI 1] 3) :: ((j1, ce #[vI 0, vI 0, vI 0, vI 2, vI 0, vI 0] 32) :: (ct ++ (Lb68 ++ (cc ++ []))))))))))))))) (List.Perm.symm (fC (fC (fC (fC (fC (fC (fC (fC (fC (fC (fC (fC fP))))))))))))) ?_
     refine ua (BR ?_)
     refine uv (Ap Dv rfl) (uv (Co isAgg24 3) ?_)
     refine uv (BX (v := .agg #[vI 1, vI 0, vI 0]) rfl (by intro w; kernel_rfl)) ?_
     refine bA (cs := #[vI 1, vI 0, vI 0]) H7 [.agg #[vI 1, vI 0, vI 0]] ?_; intro b74 hb74
     have tw : AI K.w0.heap.size 32 3 (Br eI eP) tu (aD j1) 2 2 [(0, 0, 0), (2, 0, 0)] [(j1, ce #[vI 0, vI 0, vI 0, vI 2, vI 0, vI 0] 32)] := AI.Bd (vss := [[vI 0, vI 0, vI 0], [vI 2, vI 0, vI 0]]) (Ai kI kP) hb57 (.cons ⟨_, _, rfl, rfl, ⟨_, _, rfl, rfl, rfl⟩⟩ (.cons ⟨_, _, rfl, rfl, ⟨_, _, rfl, rfl, rfl⟩⟩ .nil)) rfl rfl (by simp [maxLen])
     generalize qu : ([(j1, ce #[vI 0, vI 0, vI 0, vI 2, vI 0, vI 0] 32)] : LH) = tx at tw
     refine Bc (L' := tx ++ ((b74, ce #[vI 1, vI 0, vI 0] 32) :: ((gm, ce #[vI 0] 3) :: ((gl, ce #[vI 3] 3) :: ((gk, ce #[vI 1] 3) :: ((ft, ce #[vI n, vI n2, sL (aD dr) 1 1, sL (aD gr) 3 3, sL (aD j1) 2 2] 26) :: ((fv, ce #[vI 0, vI 0, .bool true, vI 1, vI 0, .bool false] 29) :: ((dr, ce #[sL (aD dm) 8 8] 34) :: ((dm, ce #[sL (aD fa) 1 1, sL (aD dt) 2 2, sL (aD eo) 1 1, sL (aD en) 1 1, sL none 0 0, sL none 0 0, sL none 0 0, sL none 0 0] 22) :: ((fa, ce #[vI 0] 3) :: ((dt, ce #[vI 0, vI 1] 3) :: ((eo, ce #[vI 1] 3) :: ((en, ce #[vI 1] 3) :: (ct ++ (Lb68 ++ (cc ++ [])))))))))))))))) (by rw [← qu]; exact (fC (fC (fC (fC (fC (fC (fC (fC (fC (fC (fC (fC fO))))))))))))) ?_
     refine Bc (L' := (b74, ce #[vI 1, vI 0, vI 0] 32) :: ((gm, ce #[vI 0] 3) :: ((gl, ce #[vI 3] 3) :: ((gk, ce #[vI 1] 3) :: ((ft, ce #[vI n, vI n2, sL (aD dr) 1 1, sL (aD gr) 3 3, sL (aD j1) 2 2] 26) :: ((fv, ce #[vI 0, vI 0, .bool true, vI 1, vI 0, .bool false] 29) :: ((dr, ce #[sL (aD dm) 8 8] 34) :: ((dm, ce #[sL (aD fa) 1 1, sL (aD dt) 2 2, sL (aD eo) 1 1, sL (aD en) 1 1, sL none 0 0, sL none 0 0, sL none 0 0, sL none 0 0] 22) :: ((fa, ce #[vI 0] 3) :: ((dt, ce #[vI 0, vI 1] 3) :: ((eo, ce #[vI 1] 3) :: ((en, ce #[vI 1] 3) :: (tx ++ (ct ++ (Lb68 ++ (cc ++ [])))))))))))))))) (List.Perm.symm (fC (fC (fC (fC (fC (fC (fC (fC (fC (fC (fC (fC fP))))))))))))) ?_
     obtain ⟨b, h78, g79, r80⟩ := Ea r45
     refine CJ (xs := [(0, 0, 0), (2, 0, 0)]) (ys := [(1, 0, 0)]) (zs := b) rfl H7 rfl rfl (Nat.le_refl _) (fun _ => .c (.c (.c (.c (.c (.c (.c (.c (.c (.c (.c (.c .h)))))))))))) tw (FL.box (vss := [[vI 1, vI 0, vI 0]]) (ys := [(1, 0, 0)]) 0 rfl (Ai kI kP) (.cons ⟨_, _, rfl, rfl, ⟨_, _, rfl, rfl, rfl⟩⟩ .nil) rfl rfl) h78 g79 (by decide) ?_; intro p8 p9 pa du ck
     refine kO (kd kr) (uv (Ap Dv rfl) (BL (i := 3) sizeOf24 rfl rfl rfl rfl (DD rfl) (AB rfl ?_)))
     refine Aa (Au ?_)
     refine BK [(.still, 0), (.still, 1), (.still, 2), (.still, 3), (.still, 4), (.still, 5), (.still, 6), (.still, 7), (.still, 8), (.still, 9), (.still, 10), (.still, 11), (.still, 12), (.still, 13), (.still, 14), (.still, 15), (.still, 16), (.still, 17), (.still, 18), (.still, 19), (.still, 20), (.still, 21), (.still, 22), (.still, 23), (.still, 24), (.still, 25), (.still, 26), (.still, 27), (.still, 28), (.still, 29), (.still, 30), (.still, 31), (.still, 32), (.still, 33), (.seq, 34), (.still, 35)] (by kernel_rfl) (by kernel_rfl) (Oy (by kernel_rfl)) (by rfl) (by kernel_rfl) (mS [4] rfl (Ap Js rfl) (mS [4] rfl (Ap Iy rfl) (mS [4] rfl (Ap CC rfl) (mK [45] isAgg23 3 rfl rfl rfl rfl (mS (v := pO dr) [46] rfl (Fb.eq (GG (i := 0) underlying23 sizeOf34 rfl rfl (by decide)) rfl) (mK [47] isAgg34 5 rfl rfl rfl rfl (mS (v := .pointer (some ⟨dm, 1, none⟩)) [48] rfl (Fb.eq (GG (i := 1) underlying34 sizeOf22 rfl rfl (by decide)) rfl) ?_)))))))
     refine mK [49] isAgg22 6 rfl rfl rfl rfl (mS (v := .pointer (some ⟨dt, 1, none⟩)) [50] rfl (Fb.eq (GG (i := 1) underlying22 sizeOf3 rfl rfl (by decide)) rfl) (mS [4] rfl (Ap CB rfl) (mK [52] isAgg22 3 rfl rfl rfl rfl ?_)))
     obtain ⟨x2, g87, hx88, r89⟩ := BG r80
     obtain ⟨b90, o91, c92, vs93, tz, hs95, hle96, rfl, hl97, hc98⟩ := AI.at kI cp (L := cc ++ []) fP g87.1 hx88
     refine mS [53] rfl (BZ underlying22 sizeOf3 rfl tz rfl (AI.idx cp g87)) (mS [4] rfl (Ap CB rfl) (mK [55] isAgg22 3 rfl rfl rfl rfl ?_))
     obtain ⟨x3, g99, u0, r101⟩ := BG r89
     obtain ⟨qw, qx, c104, vs105, pb, hs107, hle108, rfl, hl109, hc110⟩ := AI.at kI cp (L := cc ++ []) fP g99.1 u0
     refine mS [56] rfl (BZ underlying22 sizeOf3 rfl pb rfl (AI.idx cp g99)) (mS [4] rfl (Ap Dv rfl) (mK [58] isAgg24 3 rfl rfl rfl rfl ?_))
     obtain ⟨x4, km, jh, r113⟩ := BG r101
     obtain ⟨ns, nt, c116, vs117, pd, hs119, hle120, ⟨_, _, rfl, rfl, ⟨_, _, rfl, rfl, rfl⟩⟩, hl121, hc122⟩ := AI.at (Ai kI kP) ck (L := du ++ []) fP km.1 jh
     refine mS [59] rfl (BZ underlying24 sizeOf32 rfl pd rfl (AI.idx ck km)) (mS (v := .pointer (some ⟨ns, nt + (1 : Int).toNat * 3, none⟩)) [60] rfl (Fb.eq (Ap O6 rfl) rfl) (mS [4] rfl (Ap Dv rfl) (mK [62] isAgg24 3 rfl rfl rfl rfl ?_)))
     obtain ⟨qy, qz, c125, vs126, pe, hs128, hle129, ⟨_, _, rfl, rfl, ⟨_, _, rfl, rfl, rfl⟩⟩, hl130, hc131⟩ := AI.at (Ai kI kP) ck (L := du ++ []) fP km.1 jh
     refine mS [63] rfl (BZ underlying24 sizeOf32 rfl pe rfl (AI.idx ck km)) (mS [64] rfl (Ap OH rfl) (mS [4] rfl (Ap Dv rfl) (mK [66] isAgg24 3 rfl rfl rfl rfl ?_)))
     obtain ⟨x5, r0, pf, r134⟩ := BG r113
     obtain ⟨rb, re, c137, vs138, pg, hs140, hle141, ⟨_, _, rfl, rfl, ⟨_, _, rfl, rfl, rfl⟩⟩, hl142, hc143⟩ := AI.at (Ai kI kP) ck (L := du ++ []) fP r0.1 pf
     refine mS [67] rfl (BZ underlying24 sizeOf32 rfl pg rfl (AI.idx ck r0)) (mS [68] rfl (Ap OI rfl) (mS [7] rfl (A9 rfl) ?_))
     obtain ⟨x6, rf, u1, r146⟩ := BG r134
     obtain ⟨rh, ri, c149, vs150, ph, hs152, hle153, rfl, hl154, hc155⟩ := AI.at kI cv (L := Lb68 ++ []) fP rf.1 u1
     refine mS [70] rfl (BZ underlying22 sizeOf3 rfl ph rfl (AI.idx cv rf)) (mS [8] rfl (A9 rfl) (mS (v := .pointer (some ⟨fv, 3, none⟩)) [72] rfl (Fb.eq (GG (i := 1) underlying30 sizeOf29 rfl rfl (by decide)) rfl) (mS [73] rfl (Ap O2 rfl) (mS [10] rfl (A9 rfl) ?_))))
     obtain ⟨x7, rj, u5, r158⟩ := BG r146
     obtain ⟨rk, rl, c161, vs162, pj, hs164, hle165, rfl, hl166, hc167⟩ := AI.at kI cw (L := ct ++ []) fP rj.1 u5
     refine mS [75] rfl (BZ underlying22 sizeOf3 rfl pj rfl (AI.idx cw rj)) ?_
     refine ⟨_, [(5, pO gk), (6, pO gl), (9, pO gm), (43, pO ft), (44, .pointer (some ⟨ft, 1, none⟩)), (51, .pointer (some ⟨dt, 1, none⟩)), (54, .pointer (some ⟨b90, o91 + (0 : Int).toNat * 1, none⟩)), (57, .pointer (some ⟨qw, qx + (1 : Int).toNat * 1, none⟩)), (61, .pointer (some ⟨ns, nt + (1 : Int).toNat * 3, none⟩)), (65, .pointer (some ⟨qy, qz + (1 : Int).toNat * 3 + 1, none⟩)), (69, .pointer (some ⟨rb, re + (2 : Int).toNat * 3 + 2, none⟩)), (71, .pointer (some ⟨rh, ri + (1 : Int).toNat * 1, none⟩)), (74, .pointer (some ⟨fv, 3, none⟩)), (76, .pointer (some ⟨rk, rl + (1 : Int).toNat * 1, none⟩))], rfl, rfl, (sc rfl (sc rfl (sc rfl (sc rfl (sc rfl (sc rfl z8)))))), by kernel_rfl, ?_⟩; intro H
     refine bA (cs := #[pO ft, .pointer (some ⟨ft, 1, none⟩), .pointer (some ⟨dt, 1, none⟩), .pointer (some ⟨b90, o91 + (0 : Int).toNat * 1, none⟩), .pointer (some ⟨qw, qx + (1 : Int).toNat * 1, none⟩), .pointer (some ⟨ns, nt + (1 : Int).toNat * 3, none⟩), .pointer (some ⟨qy, qz + (1 : Int).toNat * 3 + 1, none⟩), .pointer (some ⟨rb, re + (2 : Int).toNat * 3 + 2, none⟩), pO gk, pO gl, .pointer (some ⟨rh, ri + (1 : Int).toNat * 1, none⟩), .pointer (some ⟨fv, 3, none⟩), pO gm, .pointer (some ⟨rk, rl + (1 : Int).toNat * 1, none⟩)]) Sa [pO ft, .pointer (some ⟨ft, 1, none⟩), .pointer (some ⟨dt, 1, none⟩), .pointer (some ⟨b90, o91 + (0 : Int).toNat * 1, none⟩), .pointer (some ⟨qw, qx + (1 : Int).toNat * 1, none⟩), .pointer (some ⟨ns, nt + (1 : Int).toNat * 3, none⟩), .pointer (some ⟨qy, qz + (1 : Int).toNat * 3 + 1, none⟩), .pointer (some ⟨rb, re + (2 : Int).toNat * 3 + 2, none⟩), pO gk, pO gl, .pointer (some ⟨rh, ri + (1 : Int).toNat * 1, none⟩), .pointer (some ⟨fv, 3, none⟩), pO gm, .pointer (some ⟨rk, rl + (1 : Int).toNat * 1, none⟩)] ?_; intro b168 hb168
     refine Aa ⟨_, rfl, AQ.refl _, [3, 2], by kernel_rfl, .inl (.inr (fun d h => by cases h; rfl)), (fc (s0 (s1 (s1 (s1 (s1 (s2 (s1 (s1 (s1 (s1 (s1 (s1 (s1 (s3 (s3 (s3 (s3 sr))))))))))))))))) (fc sm nm)), ?_⟩
     refine mS [77] rfl (Da rfl) (Ce ?_)
     obtain ⟨cb, bq, lq, j2, nu, hour, ED, AW, nq, AP, Af, u6, u7⟩ := Si r158
     refine AO (fun e1 F1 L1 => ∃ (dv : LH) (dw : LH) (dx : LH) (dy : LH), tu = F1 ∧ L1 = ((gm, ce #[vI AP] 3) :: ((gl, ce #[vI ED] 3) :: ((gk, ce #[vI hour] 3) :: ((ft, ce #[vI cb, vI bq, sL (aD dr) 1 1, sL (aD gr) 3 3, sL p8 p9 pa] 26) :: ((fv, ce #[vI 0, vI 0, .bool true, vI nq, vI 0, .bool false] 29) :: ((dr, ce #[sL (aD dm) 8 8] 34) :: ((dm, ce #[sL (aD fa) 1 1, sL (aD dt) 2 2, sL (aD eo) 1 1, sL (aD en) 1 1, sL none 0 0, sL none 0 0, sL none 0 0, sL none 0 0] 22) :: ((fa, ce #[vI 0] 3) :: ((dt, ce #[vI 0, vI lq] 3) :: ((eo, ce #[vI 1] 3) :: ((en, ce #[vI 1] 3) :: (dv ++ (dw ++ (dx ++ (dy ++ []))))))))))))))) ∧ e1.sub [(2, vI x), (4, pO ft), (5, pO gk), (6, pO gl), (7, sL (aD qp) 3 3), (8, sL (aD fv) 2 2), (9, pO gm), (10, sL (aD nr) 2 2), (22, sL (aD b3) [-2, -1, 0, 1, 2, 3, 4, 5, 6, 7, 8, 9, 9223372036854775807, -9223372036854775808].length 14), (23, vI 14), (24, vI k), (28, vI k2)] ∧ AI K.w0.heap.size 3 1 eI F1 (aD gr) 3 3 j2 dv ∧ AI K.w0.heap.size 32 3 (Br eI eP) F1 p8 p9 pa nu dw ∧ AI K.w0.heap.size 3 1 eI F1 (aD qp) 3 3 AW dx ∧ AI K.w0.heap.size 3 1 eI F1 (aD nr) 2 2 Af dy) ?_ ?_
     ·clear u7
      refine Aq (um (um ?_))
      by_cases nv : k2 = 0
      ·have r180 := A2 u6 nv
       refine uv (Fb.eq (v' := pO b168) (GG (i := k2) underlying35 sizeOf33 rfl rfl (by have := nv; omega)) (by rw [nv]; rfl)) ?_
       refine uv (Co isAgg33 0) (um (uv (BQ rfl) (BL (i := 4) sizeOf3 rfl rfl rfl rfl (DD rfl) (AB rfl (Aa ?_)))))
       obtain ⟨rfl, rfl, rfl, rfl, rfl, rfl, rfl, rfl, rfl, rfl, rfl⟩ := Kg r180
       exact mi (kd (kc (kc (kc (kc (kc (kc (kc (kc (kc (kc (kc (kg (fS (fS (fS fP))) (ka (kg (fS fP) kr))))))))))))))) ⟨cc, du, Lb68, ct, rfl, rfl, (sc rfl (sc rfl (sc rfl (sc rfl z8)))), cp, ck, cv, cw⟩
      have u9 := A3 u6 nv
      by_cases rm : k2 = 1
      ·have r183 := A2 u9 rm
       refine uv (QM rm underlying35 sizeOf33) (uv (Co isAgg33 0) (um (uv (BQ rfl) (BL (i := 4) sizeOf3 rfl rfl rfl rfl (DD rfl) (AB rfl (Aa ?_))))))
       obtain ⟨rfl, rfl, rfl, rfl, rfl, rfl, rfl, rfl, rfl, rfl, rfl⟩ := Kg r183
       exact mi (kd (kc (kc (kc (kc (kc (kc (kc (kc (kc (kc (kc (kg (fS (fS (fS fP))) (ka (kg (fS fP) kr))))))))))))))) ⟨cc, du, Lb68, ct, rfl, rfl, (sc rfl (sc rfl (sc rfl (sc rfl z8)))), cp, ck, cv, cw⟩
      have ub := A3 u9 rm
      by_cases rp : k2 = 2
      ·have r186 := A2 ub rp
       refine uv (QM rp underlying35 sizeOf33) (uv (Co isAgg33 0) (um (uv (BQ rfl) (BL (i := 9) sizeOf3 rfl rfl rfl rfl (DD rfl) (AB rfl (Aa ?_))))))
       obtain ⟨rfl, rfl, rfl, rfl, rfl, rfl, rfl, rfl, rfl, rfl, rfl⟩ := Kg r186
       exact mi (kd (kc (kc (kc (kc (kc (kc (kc (kc (kc (kc (kc (kg (fS (fS (fS fP))) (ka (kg (fS fP) kr))))))))))))))) ⟨cc, du, Lb68, ct, rfl, rfl, (sc rfl (sc rfl (sc rfl (sc rfl z8)))), cp, ck, cv, cw⟩
      have uc := A3 ub rp
      by_cases rq : k2 = 3
      ·have r189 := A2 uc rq
       refine uv (QM rq underlying35 sizeOf33) (uv (Co isAgg33 0) (um (uv (BQ rfl) ?_)))
       obtain ⟨b_2, h190, r191⟩ := BI r189
       refine Dq (u := x) sizeOf3 kI rfl tz rfl rfl (fun _ => .c (.c (.c (.c (.c (.c (.c (.c (.c (.c (.c (.c (.s (.s (.s .h))))))))))))))) cp h190 g87 ?_; intro ud ue
       refine Aa ?_
       obtain ⟨rfl, rfl, rfl, rfl, rfl, rfl, rfl, rfl, rfl, rfl, rfl⟩ := Kg r191
       exact mi (kd (kc (kc (kc (kc (kc (kc (kc (kc (kc (kc (kc (kg (fS (fS (fS fP))) (ka (kg (fS fP) kr))))))))))))))) ⟨ud, du, Lb68, ct, rfl, rfl, (sc rfl (sc rfl (sc rfl (sc rfl z8)))), ue, ck, cv, cw⟩
      have uf := A3 uc rq
      by_cases rr : k2 = 4
      ·have r196 := A2 uf rr
       refine uv (QM rr underlying35 sizeOf33) (uv (Co isAgg33 0) (um (uv (BQ rfl) ?_)))
       obtain ⟨b_3, h197, r198⟩ := BI r196
       refine Dq (u := x) sizeOf3 kI rfl pb rfl rfl (fun _ => .c (.c (.c (.c (.c (.c (.c (.c (.c (.c (.c (.c (.s (.s (.s .h))))))))))))))) cp h197 g99 ?_; intro ug uh
       refine Aa ?_
       obtain ⟨rfl, rfl, rfl, rfl, rfl, rfl, rfl, rfl, rfl, rfl, rfl⟩ := Kg r198
       exact mi (kd (kc (kc (kc (kc (kc (kc (kc (kc (kc (kc (kc (kg (fS (fS (fS fP))) (ka (kg (fS fP) kr))))))))))))))) ⟨ug, du, Lb68, ct, rfl, rfl, (sc rfl (sc rfl (sc rfl (sc rfl z8)))), uh, ck, cv, cw⟩
      have ui := A3 uf rr
      by_cases ru : k2 = 5
      ·have r203 := A2 ui ru
       refine uv (QM ru underlying35 sizeOf33) (uv (Co isAgg33 0) (um (uv (BQ rfl) ?_)))
       obtain ⟨b_4, h204, r205⟩ := BI r203
       refine JC (zs := b_4) (off := 0) (x0 := x4) (u := (x, x4.2.1, x4.2.2)) sizeOf3 (Ai kI kP) rfl pd rfl rfl (by decide) jh (fun vs h => by obtain ⟨_, _, rfl, rfl, ⟨_, _, rfl, rfl, rfl⟩⟩ := h; exact ⟨_, _, rfl, rfl, ⟨_, _, rfl, rfl, rfl⟩⟩) (fun _ => .c (.c (.c (.c (.c (.c (.c (.c (.c (.c (.c (.c .h)))))))))))) ck h204 km ?_; intro uj uk
       refine Aa ?_
       obtain ⟨rfl, rfl, rfl, rfl, rfl, rfl, rfl, rfl, rfl, rfl, rfl⟩ := Kg r205
       exact mi (kd (kc (kc (kc (kc (kc (kc (kc (kc (kc (kc (kc (kg (fS (fS (fS fP))) (ka (kg (fS fP) kr))))))))))))))) ⟨cc, uj, Lb68, ct, rfl, rfl, (sc rfl (sc rfl (sc rfl (sc rfl z8)))), cp, uk, cv, cw⟩
      have uo := A3 ui ru
      by_cases ry : k2 = 6
      ·have r210 := A2 uo ry
       refine uv (QM ry underlying35 sizeOf33) (uv (Co isAgg33 0) (um (uv (BQ rfl) ?_)))
       obtain ⟨b_5, h211, r212⟩ := BI r210
       refine JC (zs := b_5) (off := 1) (x0 := x4) (u := (x4.1, x, x4.2.2)) sizeOf3 (Ai kI kP) rfl pe rfl rfl (by decide) jh (fun vs h => by obtain ⟨_, _, rfl, rfl, ⟨_, _, rfl, rfl, rfl⟩⟩ := h; exact ⟨_, _, rfl, rfl, ⟨_, _, rfl, rfl, rfl⟩⟩) (fun _ => .c (.c (.c (.c (.c (.c (.c (.c (.c (.c (.c (.c .h)))))))))))) ck h211 km ?_; intro uq ur
       refine Aa ?_
       obtain ⟨rfl, rfl, rfl, rfl, rfl, rfl, rfl, rfl, rfl, rfl, rfl⟩ := Kg r212
       exact mi (kd (kc (kc (kc (kc (kc (kc (kc (kc (kc (kc (kc (kg (fS (fS (fS fP))) (ka (kg (fS fP) kr))))))))))))))) ⟨cc, uq, Lb68, ct, rfl, rfl, (sc rfl (sc rfl (sc rfl (sc rfl z8)))), cp, ur, cv, cw⟩
      have uu := A3 uo ry
      by_cases rz : k2 = 7
      ·have r217 := A2 uu rz
       refine uv (QM rz underlying35 sizeOf33) (uv (Co isAgg33 0) (um (uv (BQ rfl) ?_)))
       obtain ⟨b_6, h218, r219⟩ := BI r217
       refine JC (zs := b_6) (off := 2) (x0 := x5) (u := (x5.1, x5.2.1, x)) sizeOf3 (Ai kI kP) rfl pg rfl rfl (by decide) pf (fun vs h => by obtain ⟨_, _, rfl, rfl, ⟨_, _, rfl, rfl, rfl⟩⟩ := h; exact ⟨_, _, rfl, rfl, ⟨_, _, rfl, rfl, rfl⟩⟩) (fun _ => .c (.c (.c (.c (.c (.c (.c (.c (.c (.c (.c (.c .h)))))))))))) ck h218 r0 ?_; intro uw ux
       refine Aa ?_
       obtain ⟨rfl, rfl, rfl, rfl, rfl, rfl, rfl, rfl, rfl, rfl, rfl⟩ := Kg r219
       exact mi (kd (kc (kc (kc (kc (kc (kc (kc (kc (kc (kc (kc (kg (fS (fS (fS fP))) (ka (kg (fS fP) kr))))))))))))))) ⟨cc, uw, Lb68, ct, rfl, rfl, (sc rfl (sc rfl (sc rfl (sc rfl z8)))), cp, ux, cv, cw⟩
      have uy := A3 uu rz
      by_cases s5 : k2 = 8
      ·have r224 := A2 uy s5
       refine uv (QM s5 underlying35 sizeOf33) (uv (Co isAgg33 0) (um (uv (BQ rfl) (BL (i := 3) sizeOf3 rfl rfl rfl rfl (DD rfl) (AB rfl (Aa ?_))))))
       obtain ⟨rfl, rfl, rfl, rfl, rfl, rfl, rfl, rfl, rfl, rfl, rfl⟩ := Kg r224
       exact mi (kd (kc (kc (kc (kc (kc (kc (kc (kc (kc (kc (kc (kg (fS (fS (fS fP))) (ka (kg (fS fP) kr))))))))))))))) ⟨cc, du, Lb68, ct, rfl, rfl, (sc rfl (sc rfl (sc rfl (sc rfl z8)))), cp, ck, cv, cw⟩
      have uz := A3 uy s5
      by_cases s6 : k2 = 9
      ·have r227 := A2 uz s6
       refine uv (QM s6 underlying35 sizeOf33) (uv (Co isAgg33 0) (um (uv (BQ rfl) (BL (i := 2) sizeOf3 rfl rfl rfl rfl (DD rfl) (AB rfl (Aa ?_))))))
       obtain ⟨rfl, rfl, rfl, rfl, rfl, rfl, rfl, rfl, rfl, rfl, rfl⟩ := Kg r227
       exact mi (kd (kc (kc (kc (kc (kc (kc (kc (kc (kc (kc (kc (kg (fS (fS (fS fP))) (ka (kg (fS fP) kr))))))))))))))) ⟨cc, du, Lb68, ct, rfl, rfl, (sc rfl (sc rfl (sc rfl (sc rfl z8)))), cp, ck, cv, cw⟩
      have va := A3 uz s6
      by_cases s7 : k2 = 10
      ·have r230 := A2 va s7
       refine uv (QM s7 underlying35 sizeOf33) (uv (Co isAgg33 0) (um (uv (BQ rfl) ?_)))
       obtain ⟨course2, h231, r232⟩ := BI r230
       refine Dq (u := x) sizeOf3 kI rfl ph rfl rfl (fun _ => .c (.c (.c (.c (.c (.c (.c (.c (.c (.c (.c (.c (.s (.s .h)))))))))))))) cv h231 rf ?_; intro vb vc
       refine Aa ?_
       obtain ⟨rfl, rfl, rfl, rfl, rfl, rfl, rfl, rfl, rfl, rfl, rfl⟩ := Kg r232
       exact mi (kd (kc (kc (kc (kc (kc (kc (kc (kc (kc (kc (kc (kg (fS (fS (fS fP))) (ka (kg (fS fP) kr))))))))))))))) ⟨cc, du, vb, ct, rfl, rfl, (sc rfl (sc rfl (sc rfl (sc rfl z8)))), cp, ck, vc, cw⟩
      have vd := A3 va s7
      by_cases s8 : k2 = 11
      ·have r237 := A2 vd s8
       refine uv (QM s8 underlying35 sizeOf33) (uv (Co isAgg33 0) (um (uv (BQ rfl) (BL (i := 5) sizeOf3 rfl rfl rfl rfl (DD rfl) (AB rfl (Aa ?_))))))
       obtain ⟨rfl, rfl, rfl, rfl, rfl, rfl, rfl, rfl, rfl, rfl, rfl⟩ := Kg r237
       exact mi (kd (kc (kc (kc (kc (kc (kc (kc (kc (kc (kc (kc (kg (fS (fS (fS fP))) (ka (kg (fS fP) kr))))))))))))))) ⟨cc, du, Lb68, ct, rfl, rfl, (sc rfl (sc rfl (sc rfl (sc rfl z8)))), cp, ck, cv, cw⟩
      have ve := A3 vd s8
      by_cases s9 : k2 = 12
      ·have r240 := A2 ve s9
       refine uv (QM s9 underlying35 sizeOf33) (uv (Co isAgg33 0) (um (uv (BQ rfl) (BL (i := 1) sizeOf3 rfl rfl rfl rfl (DD rfl) (AB rfl (Aa ?_))))))
       obtain ⟨rfl, rfl, rfl, rfl, rfl, rfl, rfl, rfl, rfl, rfl, rfl⟩ := Kg r240
       exact mi (kd (kc (kc (kc (kc (kc (kc (kc (kc (kc (kc (kc (kg (fS (fS (fS fP))) (ka (kg (fS fP) kr))))))))))))))) ⟨cc, du, Lb68, ct, rfl, rfl, (sc rfl (sc rfl (sc rfl (sc rfl z8)))), cp, ck, cv, cw⟩
      have r241 := A3 ve s9
      obtain ⟨g242, r243⟩ := AF r241
      refine uv (QM g242 underlying35 sizeOf33) (uv (Co isAgg33 0) (um (uv (BQ rfl) ?_)))
      obtain ⟨AU, h244, r245⟩ := BI r243
      refine Dq (u := x) sizeOf3 kI rfl pj rfl rfl (fun _ => .c (.c (.c (.c (.c (.c (.c (.c (.c (.c (.c (.c (.s .h))))))))))))) cw h244 rj ?_; intro vf vg
      refine Aa ?_
      obtain ⟨rfl, rfl, rfl, rfl, rfl, rfl, rfl, rfl, rfl, rfl, rfl⟩ := Kg r245
      exact mi (kd (kc (kc (kc (kc (kc (kc (kc (kc (kc (kc (kc (kg (fS (fS (fS fP))) (ka (kg (fS fP) kr))))))))))))))) ⟨cc, du, Lb68, vf, rfl, rfl, (sc rfl (sc rfl (sc rfl (sc rfl z8)))), cp, ck, cv, vg⟩
     rintro e1 _ _ ⟨dv, dw, dx, dy, rfl, rfl, vh, az, ba, bp, cg⟩
     refine AA _ vh (Au ?_)
     refine BN 7 rfl hb52 ?_; intro F249 gu vi
     refine E5 (L' := (gm, ce #[vI AP] 3) :: ((gl, ce #[vI ED] 3) :: ((gk, ce #[vI hour] 3) :: ((ft, ce #[vI cb, vI bq, sL (aD dr) 1 1, sL (aD gr) 3 3, sL p8 p9 pa] 26) :: ((fv, ce #[vI 0, vI 0, .bool true, vI nq, vI 0, .bool false] 29) :: ((dr, ce #[sL (aD dm) 8 8] 34) :: ((dm, ce #[sL (aD fa) 1 1, sL (aD dt) 2 2, sL (aD eo) 1 1, sL (aD en) 1 1, sL none 0 0, sL none 0 0, sL none 0 0, sL none 0 0] 22) :: ((dt, ce #[vI 0, vI lq] 3) :: ((eo, ce #[vI 1] 3) :: ((en, ce #[vI 1] 3) :: (dv ++ (dw ++ (dx ++ (dy ++ [])))))))))))))) rfl ?_
     replace az := az.m1 gu
     replace ba := ba.mono (Ai kI kP) gu
     replace bp := bp.m1 gu
     replace cg := cg.m1 gu
     have gn : At 1 eI F249 (aD fa) 1 [0] := At.oI vi
     refine BN 7 rfl hb53 ?_; intro F253 ga vj
     refine E5 (L' := (gm, ce #[vI AP] 3) :: ((gl, ce #[vI ED] 3) :: ((gk, ce #[vI hour] 3) :: ((ft, ce #[vI cb, vI bq, sL (aD dr) 1 1, sL (aD gr) 3 3, sL p8 p9 pa] 26) :: ((fv, ce #[vI 0, vI 0, .bool true, vI nq, vI 0, .bool false] 29) :: ((dr, ce #[sL (aD dm) 8 8] 34) :: ((dm, ce (#[sL (aD fa) [0].length 1, sL (aD dt) 2 2, sL (aD eo) 1 1, sL (aD en) 1 1, sL none 0 0, sL none 0 0, sL none 0 0, sL none 0 0]) 22) :: ((eo, ce #[vI 1] 3) :: ((en, ce #[vI 1] 3) :: (dv ++ (dw ++ (dx ++ (dy ++ []))))))))))))) rfl ?_
     replace gn := gn.m1 ga
     replace az := az.m1 ga
     replace ba := ba.mono (Ai kI kP) ga
     replace bp := bp.m1 ga
     replace cg := cg.m1 ga
     have j3 : At 1 eI F253 (aD dt) 2 [0, lq] := At.oI vj
     refine BN 7 rfl hb54 ?_; intro F257 fb vk
     refine E5 (L' := (gm, ce #[vI AP] 3) :: ((gl, ce #[vI ED] 3) :: ((gk, ce #[vI hour] 3) :: ((ft, ce #[vI cb, vI bq, sL (aD dr) 1 1, sL (aD gr) 3 3, sL p8 p9 pa] 26) :: ((fv, ce #[vI 0, vI 0, .bool true, vI nq, vI 0, .bool false] 29) :: ((dr, ce #[sL (aD dm) 8 8] 34) :: ((dm, ce (#[sL (aD fa) [0].length 1, sL (aD dt) [0, lq].length 2, sL (aD eo) 1 1, sL (aD en) 1 1, sL none 0 0, sL none 0 0, sL none 0 0, sL none 0 0]) 22) :: ((en, ce #[vI 1] 3) :: (dv ++ (dw ++ (dx ++ (dy ++ [])))))))))))) rfl ?_
     replace gn := gn.m1 fb
     replace j3 := j3.m1 fb
     replace az := az.m1 fb
     replace ba := ba.mono (Ai kI kP) fb
     replace bp := bp.m1 fb
     replace cg := cg.m1 fb
     have lr : At 1 eI F257 (aD eo) 1 [1] := At.oI vk
     refine BN 7 rfl hb55 ?_; intro F261 ep vl
     refine E5 (L' := (gm, ce #[vI AP] 3) :: ((gl, ce #[vI ED] 3) :: ((gk, ce #[vI hour] 3) :: ((ft, ce #[vI cb, vI bq, sL (aD dr) 1 1, sL (aD gr) 3 3, sL p8 p9 pa] 26) :: ((fv, ce #[vI 0, vI 0, .bool true, vI nq, vI 0, .bool false] 29) :: ((dr, ce #[sL (aD dm) 8 8] 34) :: ((dm, ce (#[sL (aD fa) [0].length 1, sL (aD dt) [0, lq].length 2, sL (aD eo) [1].length 1, sL (aD en) 1 1, sL none 0 0, sL none 0 0, sL none 0 0, sL none 0 0]) 22) :: (dv ++ (dw ++ (dx ++ (dy ++ []))))))))))) rfl ?_
     replace gn := gn.m1 ep
     replace j3 := j3.m1 ep
     replace lr := lr.m1 ep
     replace az := az.m1 ep
     replace ba := ba.mono (Ai kI kP) ep
     replace bp := bp.m1 ep
     replace cg := cg.m1 ep
     have sa : At 1 eI F261 (aD en) 1 [1] := At.oI vl
     refine BN 6 rfl hb51 ?_; intro F265 dz vm
     refine E5 (L' := (gm, ce #[vI AP] 3) :: ((gl, ce #[vI ED] 3) :: ((gk, ce #[vI hour] 3) :: ((ft, ce #[vI cb, vI bq, sL (aD dr) 1 1, sL (aD gr) 3 3, sL p8 p9 pa] 26) :: ((fv, ce #[vI 0, vI 0, .bool true, vI nq, vI 0, .bool false] 29) :: ((dr, ce #[sL (aD dm) 8 8] 34) :: (dv ++ (dw ++ (dx ++ (dy ++ [])))))))))) rfl ?_
     replace gn := gn.m1 dz
     replace j3 := j3.m1 dz
     replace lr := lr.m1 dz
     replace sa := sa.m1 dz
     replace az := az.m1 dz
     replace ba := ba.mono (Ai kI kP) dz
     replace bp := bp.m1 dz
     replace cg := cg.m1 dz
     have sb : At 1 eJ F265 (aD dm) 8 [[0], [0, lq], [1], [1], [], [], [], []] := At.Bd kJ (vss := [[sL (aD fa) [0].length 1], [sL (aD dt) [0, lq].length 2], [sL (aD eo) [1].length 1], [sL (aD en) [1].length 1], [sL none 0 0], [sL none 0 0], [sL none 0 0], [sL none 0 0]]) (xs := [[0], [0, lq], [1], [1], [], [], [], []]) vm (.cons ⟨_, _, rfl, gn⟩ (.cons ⟨_, _, rfl, j3⟩ (.cons ⟨_, _, rfl, lr⟩ (.cons ⟨_, _, rfl, sa⟩ (.cons ⟨_, _, rfl, At.nil _ _ _⟩ (.cons ⟨_, _, rfl, At.nil _ _ _⟩ (.cons ⟨_, _, rfl, At.nil _ _ _⟩ (.cons ⟨_, _, rfl, At.nil _ _ _⟩ .nil)))))))) rfl (by simp [maxLen])
     refine BN 5 rfl hb50 ?_; intro F269 gb vn
     refine E5 (L' := (gm, ce #[vI AP] 3) :: ((gl, ce #[vI ED] 3) :: ((gk, ce #[vI hour] 3) :: ((ft, ce #[vI cb, vI bq, sL (aD dr) 1 1, sL (aD gr) 3 3, sL p8 p9 pa] 26) :: ((fv, ce #[vI 0, vI 0, .bool true, vI nq, vI 0, .bool false] 29) :: (dv ++ (dw ++ (dx ++ (dy ++ []))))))))) rfl ?_
     replace sb := sb.m2 gb
     replace az := az.m1 gb
     replace ba := ba.mono (Ai kI kP) gb
     replace bp := bp.m1 gb
     replace cg := cg.m1 gb
     have lu : At 1 (CM 1 eJ) F269 (aD dr) 1 [[[0], [0, lq], [1], [1], [], [], [], []]] := At.Bd (Ay kJ) (vss := [[sL (aD dm) [[0], [0, lq], [1], [1], [], [], [], []].length 8]]) (xs := [[[0], [0, lq], [1], [1], [], [], [], []]]) vn (.cons ⟨_, _, rfl, sb⟩ .nil) rfl (by simp [maxLen])
     refine Aq (uv (Cv isAgg26 sizeOf26 3) (uv (Co isAgg3 2) (uv (Co isAgg3 1) ?_)))
     obtain ⟨ok, h273, r274⟩ := Az u7
     refine Bh rfl call5 rfl rfl rfl (pT ((fC (fC (fC (fC (fC fP))))).trans (pA ((fC (fC (fC (fC (fC fP))))).trans (pA pR)))) (lp (lp (ln rfl)))) (fun F2 h2 h3 => by have h0 := BW (lu.mono (Ay kJ) h2) (az.row kI h2 (aL h3)) (ba.row (Ai kI kP) h2 (aL (aR h3))) h273; rw [← (AI.A1 az).1] at h0; rw [← (AI.A1 ba).1] at h0; exact h0) ?_
     refine uv (Bo rfl) (um ?_)
     obtain ⟨ko, r276⟩ := AF r274
     refine nB ko (uv (Cv isAgg26 sizeOf26 3) ?_)
     refine nB ko (um (nB ko ?_))
     refine uv (Co isAgg3 2) (nB ko ?_)
     obtain ⟨ok2, h277, r278⟩ := Az r276
     refine Bh rfl call6 rfl rfl rfl (pT ((fC (fC (fC (fC (fC fP))))).trans (pA ((fC (fC (fC (fC (fC fP))))).trans (pA ((fC (fC (fC (fC (fC fP))))).trans (pA pR)))))) (lp (lp (lp (ln rfl))))) (fun F2 h2 h3 => by have h0 := Eb (lu.mono (Ay kJ) h2) (az.row kI h2 (aL h3)) (ba.row (Ai kI kP) h2 (aL (aR h3))) (bp.row kI h2 (aL (aR (aR h3)))) h277; rw [← (AI.A1 az).1] at h0; rw [← (AI.A1 ba).1] at h0; rw [← (AI.A1 bp).1] at h0; exact h0) ?_
     refine nB ko (uv (Bo rfl) (uv (AE (FK rfl ko) rfl) (um ?_)))
     obtain ⟨lv, r280⟩ := AF r278
     refine nB lv (uv (Cv isAgg26 sizeOf26 3) ?_)
     refine nB lv (um (nB lv ?_))
     obtain ⟨ok3, h281, r282⟩ := Az r280
     refine Bh rfl call7 rfl rfl rfl (pT ((fC (fC (fC (fC (fC fP))))).trans (pA ((fC (fC (fC (fC (fC fP))))).trans (pA ((fC (fC (fC (fC (fC fP))))).trans (pA pR)))))) (lp (lp (lp (ln rfl))))) (fun F2 h2 h3 => by have h0 := II (lu.mono (Ay kJ) h2) (az.row kI h2 (aL h3)) (ba.row (Ai kI kP) h2 (aL (aR h3))) (bp.row kI h2 (aL (aR (aR h3)))) h281; rw [← (AI.A1 az).1] at h0; rw [← (AI.A1 ba).1] at h0; rw [← (AI.A1 bp).1] at h0; exact h0) ?_
     refine nB lv (uv (Bo rfl) (uv (AE (FK rfl lv) rfl) (um ?_)))
     obtain ⟨kt, r284⟩ := AF r282
     refine nB kt (uv (Cv isAgg26 sizeOf26 3) ?_)
     refine nB kt (um (nB kt (um (nB kt ?_))))
     obtain ⟨ok4, h285, r286⟩ := Az r284
     refine Bh rfl call8 rfl rfl rfl (pT ((fC (fC (fC (fC (fC fP))))).trans (pA ((fC (fC (fC (fC (fC fP))))).trans (pA ((fC (fC (fC (fC fO)))).trans (pC ((fC (fC (fC (fC fP)))).trans (pA pR)))))))) (lp (lp (lb (lp (ln rfl)))))) (fun F2 h2 h3 => by have h0 := DJ (lu.mono (Ay kJ) h2) (az.row kI h2 (aL h3)) (ba.row (Ai kI kP) h2 (aL (aR h3))) (At.Bd (Ai kI (Ai kI Be)) (vss := [[vI 0, vI 0, .bool true], [vI nq, vI 0, .bool false]]) (xs := ([(0, 0, true), (nq, 0, false)] : List (Int × Int × Bool))) (h3 (fv, ce #[vI 0, vI 0, .bool true, vI nq, vI 0, .bool false] 29) (List.mem_append_right _ (List.mem_append_right _ mz))) (.cons ⟨_, _, rfl, rfl, ⟨_, _, rfl, rfl, rfl⟩⟩ (.cons ⟨_, _, rfl, rfl, ⟨_, _, rfl, rfl, rfl⟩⟩ .nil)) rfl (by simp [maxLen])) (bp.row kI h2 (fun p hp => h3 p (List.mem_append_right _ (List.mem_append_right _ (my (List.mem_append_left _ hp)))))) h285; rw [← (AI.A1 az).1] at h0; rw [← (AI.A1 ba).1] at h0; rw [← (AI.A1 bp).1] at h0; exact h0) ?_
     refine nB kt (uv (Bo rfl) (uv (AE (FK rfl kt) rfl) (um ?_)))
     obtain ⟨j4, r288⟩ := AF r286
     refine nB j4 (uv (Cv isAgg26 sizeOf26 3) (nB j4 (uv (Co isAgg3 0) (nB j4 (uv (Co isAgg3 2) ?_)))))
     refine nB j4 (um (nB j4 ?_))
     obtain ⟨ok5, h289, r290⟩ := Az r288
     refine Bh rfl call9 rfl rfl rfl (pT ((fC (fC (fC (fC (fC fP))))).trans (pA ((fC (fC (fC (fC (fC fP))))).trans (pA ((fC (fC (fC (fC (fC (fS fP)))))).trans (pA pR)))))) (lp (lp (lp (ln rfl))))) (fun F2 h2 h3 => by have h0 := GP (lu.mono (Ay kJ) h2) (az.row kI h2 (aL h3)) (ba.row (Ai kI kP) h2 (aL (aR h3))) (cg.row kI h2 (aL (aR (aR h3)))) h289; rw [← (AI.A1 az).1] at h0; rw [← (AI.A1 ba).1] at h0; rw [← (AI.A1 cg).1] at h0; exact h0) ?_
     refine nB j4 (uv (Bo rfl) (uv (AE (FK rfl j4) rfl) (Aa ?_)))
     obtain ⟨g292, r293⟩ := AF r290
     refine AV rfl (fun vo => absurd (g292.symm.trans vo) (by decide)) (fun vo => ?_)
     refine Ar (AD (id := 3) (Aq ?_))
     refine uv (A4 rfl rfl (B0.CE qo c42 g33)) ?_
     refine um (Aa ?_)
     exact le kn ⟨_, hk43, r293, ((((((tv.trans gu).trans ga).trans fb).trans ep).trans dz).trans gb), rfl, z5⟩
    obtain rfl := B0.zero qo c42
    rw [Dk] at r37
    refine AM (Aj (Aj ?_))
    refine Ax (AD (id := 1) ?_)
    clear r37
    exact mi kr ⟨tv, rfl, z3⟩
   refine Aq (uv (A4 rfl rfl (B0.CE ql c17 g8)) ?_)
   refine um (Aa ?_)
   exact le kr ⟨_, hk18, r20, (qn.trans tt), rfl, z3⟩
  obtain rfl := B0.zero ql c17
  rw [Bg] at r12
  refine AM (Aj (Aj ?_))
  refine Ax ?_
  clear r12
  exact mi kr ⟨(hF5.trans qn), rfl, (sn _)⟩
 obtain ⟨h301, vp⟩ := IK r2
 refine jF ([]) [] ?_ fun F521 hF522 => ?_
 ·clear vp
  refine AG (um (Aa ?_))
  refine As ?_
  obtain ⟨g303, r304⟩ := AF h301
  refine A6 (fun fu3 e1 F1 L1 => ∃ (k3 : Int), B0 0 81 k3 fu3 ∧ Bb fu3 k3 = some () ∧ AQ F299 F1 ∧ L1 = [] ∧ e1.sub [(119, vI k3)]) _ (m0 kr ⟨_, B0.start _ _, r304, AQ.refl _, rfl, z1⟩) ?_
  rintro fu3 e1 sd _ ⟨k3, lx, nw, pk, rfl, vq⟩
  refine AA _ vq (AG (uv (AY rfl rfl) ?_))
  refine Aa (Au ?_)
  refine cQ (fun ny => ?_) fun ny => ?_
  ·obtain ⟨fu3, rfl, vr⟩ := B0.succ lx ny
   rw [Bb] at nw
   refine Ar ?_
   obtain ⟨h314, vt⟩ := IK nw
   refine jF ([]) [(119, vI k3)] ?_ fun F518 vu => ?_
   ·clear vt
    refine As ?_
    refine AG (um (ua (BR (um ?_))))
    refine uv (Dh rfl rfl (by decide)) ?_
    obtain ⟨g316, r317⟩ := AF h314
    refine uv (A4 rfl rfl g316) (um (uv (Dh rfl rfl (by decide)) ?_))
    obtain ⟨g318, r319⟩ := AF r317
    refine uv (EU rfl rfl g318) (um ?_)
    obtain ⟨g320, r321⟩ := AF r319
    refine uv (Mf rfl rfl g320) ?_
    obtain ⟨g322, r323⟩ := AF r321
    refine uv (EU rfl rfl g322) ?_
    refine bA (cs := #[vI ((Int.tmod k3 9) - 1), vI ((Int.tdiv k3 9) - 1)]) Bm [vI ((Int.tmod k3 9) - 1), vI ((Int.tdiv k3 9) - 1)] ?_; intro fe vv
    refine bA (cs := #[sL none 0 0, sL none 0 0]) LI [sL none 0 0, sL none 0 0] ?_; intro bz vw
    refine uv (BX (v := .agg #[vI 2, vI (1 + (Int.tmod k3 2)), sL (aD bz) 2 2, sL (aD fe) 2 2, sL none 0 0]) rfl (by intro w; kernel_rfl)) ?_
    refine Bu rfl zeroValue26 ?_; intro eb hb326
    have cx : AI K.w0.heap.size 3 1 eI sd (aD fe) 2 2 [(Int.tmod k3 9) - 1, (Int.tdiv k3 9) - 1] [(fe, ce #[vI ((Int.tmod k3 9) - 1), vI ((Int.tdiv k3 9) - 1)] 3)] := AI.Bd (vss := [[vI ((Int.tmod k3 9) - 1)], [vI ((Int.tdiv k3 9) - 1)]]) kI vv (.cons rfl (.cons rfl .nil)) rfl rfl (by simp [maxLen])
    generalize nz : ([(fe, ce #[vI ((Int.tmod k3 9) - 1), vI ((Int.tdiv k3 9) - 1)] 3)] : LH) = Lb327 at cx
    refine Bc (L' := Lb327 ++ [(eb, ce #[vI 0, vI 0, sL none 0 0, sL none 0 0, sL none 0 0] 26), (bz, ce #[sL none 0 0, sL none 0 0] 34)]) (by rw [← nz]; exact (fC (fC fO))) ?_
    refine Bc (L' := (eb, ce #[vI 0, vI 0, sL none 0 0, sL none 0 0, sL none 0 0] 26) :: ((bz, ce #[sL none 0 0, sL none 0 0] 34) :: (Lb327 ++ []))) (List.Perm.symm (fC (fC fP))) (BD (i := 0) sizeOf26 rfl rfl rfl (by simp [Value.oneCell']) rfl (DD rfl) (AB rfl (Aa ?_)))
    obtain ⟨vx, gv, h342, vy⟩ := Ca r323
    refine AO (fun e1 F1 L1 => ∃ (ku : Option Addr) (ly : Nat) (kv : Nat) (gw : LH) (kz : Option Addr) (ma : Nat) (l0 : Nat) (gz : LH), AQ sd F1 ∧ L1 = ((eb, ce #[vI 2, vI (1 + (Int.tmod k3 2)), sL (aD bz) 2 2, sL (aD fe) 2 2, sL none 0 0] 26) :: ((bz, ce #[sL ku ly kv, sL kz ma l0] 34) :: (gw ++ (gz ++ (Lb327 ++ []))))) ∧ e1.sub [(12, vI k3), (13, pO eb), (119, vI k3)] ∧ AI K.w0.heap.size 22 1 eJ F1 ku ly kv vx gw ∧ AI K.w0.heap.size 22 1 eJ F1 kz ma l0 gv gz) ?_ ?_
    ·clear vy
     refine AG (um (Aa ?_))
     refine As ?_
     obtain ⟨g356, r357⟩ := AF h342
     refine A6 (fun fu4 e1 F1 L1 => ∃ (k4 : Int), B0 0 8 k4 fu4 ∧ ∃ (ji : List (List Int)) (jj : List (List Int)) (j5 : Option Addr) (j6 : Nat) (j7 : Nat) (gg : LH) (ia : Option Addr) (ib : Nat) (ic : Nat) (ff : LH), Dt k3 fu4 k4 ji jj = some (vx, gv) ∧ AQ sd F1 ∧ L1 = ((eb, ce #[vI 2, vI (1 + (Int.tmod k3 2)), sL (aD bz) 2 2, sL (aD fe) 2 2, sL none 0 0] 26) :: ((bz, ce #[sL j5 j6 j7, sL ia ib ic] 34) :: (gg ++ (ff ++ (Lb327 ++ []))))) ∧ e1.sub [(12, vI k3), (13, pO eb), (119, vI k3), (134, vI k4)] ∧ AI K.w0.heap.size 22 1 eJ F1 j5 j6 j7 ji gg ∧ AI K.w0.heap.size 22 1 eJ F1 ia ib ic jj ff) _ (m0 (kc (kc (ke (ke kr)))) ⟨_, B0.start _ _, [], [], none, 0, 0, [], none, 0, 0, [], r357, AQ.refl _, rfl, z4, AI.nil _ _ _ _ _, AI.nil _ _ _ _ _⟩) ?_
     rintro fu4 e1 F362 _ ⟨k4, mb, ji, jj, j5, j6, j7, gg, ia, ib, ic, ff, o0, pn, rfl, vz, dd, bx⟩
     refine AA _ vz (AG (uv (AY rfl rfl) ?_))
     refine Aa (Au ?_)
     refine cQ (fun o1 => ?_) fun o1 => ?_
     ·obtain ⟨fu4, rfl, w4⟩ := B0.succ mb o1
      rw [Dt] at o0
      refine Ar (Au ?_)
      refine As ?_
      refine AG (um (ua (Aa (Au ?_))))
      refine BK [(.pre, 6), (.pre, 7), (.still, 0), (.still, 1), (.still, 2), (.still, 3), (.still, 4), (.still, 5), (.still, 10), (.still, 11), (.still, 12), (.still, 13), (.seq, 8), (.alloc (ce #[vI 0] 3) (fun b => sL (aD b) 1 1) [], 6), (.alloc (ce #[vI 1, vI 0] 3) (fun b => sL (aD b) 2 2) [], 7), (.seq, 9), (.seq, 14), (.still, 15), (.seq, 16), (.seq, 17), (.still, 18), (.seq, 19)] (by kernel_rfl) (by kernel_rfl) (⟨⟨_, _, rfl, rfl, rfl, rfl, rfl, JL rfl (DZ Bm [vI 0] rfl (by decide) (by simp [Value.cells]) (by decide))⟩, ⟨⟨_, _, rfl, rfl, rfl, rfl, rfl, JL rfl (DZ Bm [vI 1, vI 0] rfl (by decide) (by simp [Value.cells]) (by decide))⟩, trivial⟩⟩) (by rfl) (by kernel_rfl) ?_
      refine ⟨⟨_, rfl, (sn _), by kernel_rfl⟩, ?_⟩
      refine ⟨⟨_, rfl, (sn _), by kernel_rfl⟩, ?_⟩
      refine mS [13] rfl (Ap CC rfl) (mK [137] isAgg23 0 rfl rfl rfl rfl (mS [13] rfl (Ap CC rfl) (mK [139] isAgg23 0 rfl rfl rfl rfl (mS (v := pO bz) [140] rfl (Fb.eq (GG (i := 0) underlying23 sizeOf34 rfl rfl (by decide)) rfl) (mK [141] isAgg34 1 rfl rfl rfl rfl (mS [14] rfl (A9 rfl) (mS [12] rfl (A9 rfl) ?_)))))))
      obtain ⟨g367, r368⟩ := AF o0
      refine mS (v := vI (k4 + k3)) [147, 148] rfl (A4 rfl rfl g367) (mS (v := vI (Int.tmod (k4 + k3) 4)) [149] rfl (Dh rfl rfl (by decide)) ?_)
      refine ⟨_, [], rfl, rfl, (sn _), by kernel_rfl, ?_⟩; intro H
      refine bA (cs := #[vI 1]) Bm [vI 1] ?_; intro j8 w7
      refine Aa ⟨_, rfl, AQ.refl _, [13, 12, 11, 10, 5, 4, 3, 2, 1, 0], by kernel_rfl, .inl (.inr (fun d h => by cases h; rfl)), (fc sm (fc sm (fc sm (fc sm (fc (s0 (s1 (s1 (s2 (s3 (s3 (s3 sr))))))) (fc sm (fc (s0 (s1 (s2 (s1 (s3 (s3 (s3 sr))))))) (fc sm (fc (s0 (s1 (s2 (s1 (s3 (s3 (s3 sr))))))) (fc sm nm)))))))))), ?_⟩
      refine K7 rfl ?_; intro j9 w8
      refine HK (L' := (j9, ce #[vI 0] 3) :: ((j8, ce #[vI 1] 3) :: ((eb, ce #[vI 2, vI (1 + (Int.tmod k3 2)), sL (aD bz) 2 2, sL (aD fe) 2 2, sL none 0 0] 26) :: ((bz, ce #[sL j5 j6 j7, sL ia ib ic] 34) :: (gg ++ (ff ++ (Lb327 ++ []))))))) rfl ?_
      refine K7 rfl ?_; intro ld w9
      refine HK (L' := (ld, ce #[vI 1, vI 0] 3) :: ((j9, ce #[vI 0] 3) :: ((j8, ce #[vI 1] 3) :: ((eb, ce #[vI 2, vI (1 + (Int.tmod k3 2)), sL (aD bz) 2 2, sL (aD fe) 2 2, sL none 0 0] 26) :: ((bz, ce #[sL j5 j6 j7, sL ia ib ic] 34) :: (gg ++ (ff ++ (Lb327 ++ [])))))))) rfl ?_
      refine ⟨_, [(143, sL (aD j9) 1 1), (144, sL (aD ld) 2 2), (145, sL (aD j8) 1 1)], rfl, rfl, z3, by kernel_rfl, ?_⟩; intro H
      refine bA (cs := #[sL (aD j9) 1 1, sL none 0 0, sL (aD ld) 2 2, sL (aD j8) 1 1]) FI [sL (aD j9) 1 1, sL none 0 0, sL (aD ld) 2 2, sL (aD j8) 1 1] ?_; intro wb wc
      refine Aa ⟨_, rfl, AQ.refl _, [13, 12, 11, 10, 5, 4, 3, 2, 1, 0], by kernel_rfl, .inl (.inr (fun d h => by cases h; rfl)), (fc sm (fc sm (fc sm (fc sm (fc (s0 (s1 (s1 (s1 (s1 (s1 (s2 (s3 (s3 (s3 sr)))))))))) (fc sm (fc (s0 (s1 (s1 (s1 (s1 (s2 (s1 (s3 (s3 (s3 sr)))))))))) (fc sm (fc (s0 (s1 (s1 (s1 (s1 (s2 (s1 (s3 (s3 (s3 sr)))))))))) (fc sm nm)))))))))), ?_⟩
      refine ⟨_, [(146, sL (aD wb) 4 4), (150, vI (Int.tmod (k4 + k3) 4))], rfl, rfl, z2, by kernel_rfl, ?_⟩; intro H
      refine Bj 2 rfl w8 ?_; intro F373 jk we
      refine AB rfl ?_
      replace dd := dd.m2 jk
      replace bx := bx.m2 jk
      have ja : At 1 eI F373 (aD j9) 1 [0] := At.oI we
      refine Bj 1 rfl w9 ?_; intro F377 ie wg
      refine AB rfl ?_
      replace ja := ja.m1 ie
      replace dd := dd.m2 ie
      replace bx := bx.m2 ie
      have mc : At 1 eI F377 (aD ld) 2 [1, 0] := At.oI wg
      refine Bj 1 rfl w7 ?_; intro F381 gh hz383
      refine AB rfl ?_
      replace ja := ja.m1 gh
      replace mc := mc.m1 gh
      replace dd := dd.m2 gh
      replace bx := bx.m2 gh
      have se : At 1 eI F381 (aD j8) 1 [1] := At.oI hz383
      refine Bj 0 rfl wc ?_; intro F385 fg hz387
      refine AB rfl ?_
      replace ja := ja.m1 fg
      replace mc := mc.m1 fg
      replace se := se.m1 fg
      replace dd := dd.m2 fg
      replace bx := bx.m2 fg
      have h388 : At 1 eJ F385 (aD wb) 4 [[0], [], [1, 0], [1]] := At.Bd kJ (vss := [[sL (aD j9) [0].length 1], [sL none 0 0], [sL (aD ld) [1, 0].length 2], [sL (aD j8) [1].length 1]]) (xs := [[0], [], [1, 0], [1]]) hz387 (.cons ⟨_, _, rfl, ja⟩ (.cons ⟨_, _, rfl, At.nil _ _ _⟩ (.cons ⟨_, _, rfl, mc⟩ (.cons ⟨_, _, rfl, se⟩ .nil)))) rfl (by simp [maxLen])
      obtain ⟨x8, g389, hx390, r391⟩ := BG r368
      obtain ⟨b392, o393, c394, vs395, ha396, hs397, hle398, ⟨o2, o3, rfl, h403⟩, hl399, hc400⟩ := At.ta kJ h388 g389.1 hx390
      refine uv (C0 underlying34 sizeOf22 ha396 g389) ?_
      refine Aa ⟨_, rfl, (((jk.trans ie).trans gh).trans fg), [5, 4, 3, 2, 1, 0], by kernel_rfl, .inl (.inr (fun d h => by cases h; rfl)), (fc (s0 (s1 (s2 (s3 (s3 (s3 sr)))))) (fc sm (fc (s0 (s2 (s1 (s3 (s3 (s3 sr)))))) (fc sm (fc (s0 (s2 (s1 (s3 (s3 (s3 sr)))))) (fc sm nm)))))), ?_⟩
      refine mL [151] ([]) rfl sm (fun H F' L' hF' hL' => AS isAgg22 rfl ((hs397 _).ext hF' hL') (hc400 0 (by decide))) ?_
      refine ⟨_, [(152, sL o2 x8.length o3)], rfl, rfl, z1, by kernel_rfl, ?_⟩; intro H
      refine bA (cs := #[sL o2 x8.length o3]) FI [sL o2 x8.length o3] ?_; intro b404 hb404
      refine Aa ⟨_, rfl, AQ.refl _, [5, 4, 3, 2, 1, 0], by kernel_rfl, .inl (.inr (fun d h => by cases h; rfl)), (fc (s0 (s1 (s1 (s2 (s3 (s3 (s3 sr))))))) (fc sm (fc (s0 (s1 (s2 (s1 (s3 (s3 (s3 sr))))))) (fc sm (fc (s0 (s1 (s2 (s1 (s3 (s3 (s3 sr))))))) (fc sm nm)))))), ?_⟩
      refine ⟨_, [(142, sL j5 j6 j7), (153, sL (aD b404) 1 1)], rfl, rfl, z2, by kernel_rfl, ?_⟩; intro H
      obtain ⟨l, h405, g406, r407⟩ := Ea r391
      refine CJ (xs := ji) (ys := [x8]) (zs := l) rfl FI rfl rfl (Nat.le_refl _) (fun _ => .c (.c (.c .h))) dd (FL.box (vss := [[sL o2 x8.length o3]]) (ys := [x8]) 0 rfl kJ (.cons ⟨_, _, rfl, h403⟩ .nil) rfl rfl) h405 g406 (by decide) ?_; intro sf sg sh po fh
      refine kO (kd kr) ?_
      refine Aa ⟨_, rfl, AQ.refl _, [1, 0], by kernel_rfl, .inl (.inr (fun d h => by cases h; rfl)), (fc (s0 (s2 (s1 (s3 (s3 (s3 sr)))))) (fc sm nm)), ?_⟩
      refine mS (v := pO bz) [138] rfl (Fb.eq (GG (i := 0) underlying23 sizeOf34 rfl rfl (by decide)) rfl) ?_
      refine ⟨_, [(154, sL sf sg sh), (155, pO bz)], rfl, rfl, z2, by kernel_rfl, ?_⟩; intro H
      refine BL (i := 1) sizeOf34 rfl rfl rfl rfl (DD rfl) (AB rfl ?_)
      refine Aa ⟨undef, rfl, AQ.refl _, [], by kernel_rfl, .inl (.inl rfl), nm, ?_⟩
      refine Ce (BK [(.pre, 6), (.still, 0), (.still, 1), (.still, 2), (.still, 3), (.still, 4), (.still, 5), (.still, 9), (.still, 10), (.still, 11), (.still, 12), (.still, 13), (.seq, 7), (.alloc (ce #[vI 1] 3) (fun b => sL (aD b) 1 1) [], 6), (.seq, 8), (.seq, 14), (.still, 15), (.seq, 16), (.seq, 17), (.still, 18), (.seq, 19)] (by kernel_rfl) (by kernel_rfl) (⟨⟨_, _, rfl, rfl, rfl, rfl, rfl, JL rfl (DZ Bm [vI 1] rfl (by decide) (by simp [Value.cells]) (by decide))⟩, trivial⟩) (by rfl) (by kernel_rfl) ?_)
      refine ⟨⟨_, rfl, (sn _), by kernel_rfl⟩, ?_⟩
      refine mS [13] rfl (Ap CC rfl) (mK [156] isAgg23 0 rfl rfl rfl rfl (mS [13] rfl (Ap CC rfl) (mK [158] isAgg23 0 rfl rfl rfl rfl (mS (v := .pointer (some ⟨bz, 1, none⟩)) [159] rfl (Fb.eq (GG (i := 1) underlying23 sizeOf34 rfl rfl (by decide)) rfl) (mK [160] isAgg34 1 rfl rfl rfl rfl (mS [14] rfl (A9 rfl) (mS [12] rfl (A9 rfl) ?_)))))))
      obtain ⟨g414, r415⟩ := AF r407
      refine mS (v := vI (Int.tdiv k3 2)) [166] rfl (Mf rfl rfl g414) ?_
      obtain ⟨g416, r417⟩ := AF r415
      refine mS (v := vI (k4 + (Int.tdiv k3 2))) [165, 167] rfl (A4 rfl rfl g416) (mS (v := vI (Int.tmod (k4 + (Int.tdiv k3 2)) 3)) [168] rfl (Dh rfl rfl (by decide)) ?_)
      refine ⟨_, [], rfl, rfl, (sn _), by kernel_rfl, ?_⟩; intro H
      refine bA (cs := #[vI 0, vI 1]) Bm [vI 0, vI 1] ?_; intro lg hb418
      refine Aa ⟨_, rfl, AQ.refl _, [13, 12, 11, 10, 9, 5, 4, 3, 2, 1, 0], by kernel_rfl, .inl (.inr (fun d h => by cases h; rfl)), (fc sm (fc sm (fc sm (fc sm (fc sm (fc (s0 (s1 (s1 (s2 (s3 (s3 (s3 sr))))))) (fc sm (fc (s0 (s1 (s2 (s1 (s3 (s3 (s3 sr))))))) (fc sm (fc (s0 (s1 (s2 (s1 (s3 (s3 (s3 sr))))))) (fc sm nm))))))))))), ?_⟩
      refine K7 rfl ?_; intro lh hb419
      refine HK (L' := (lh, ce #[vI 1] 3) :: ((lg, ce #[vI 0, vI 1] 3) :: ((eb, ce #[vI 2, vI (1 + (Int.tmod k3 2)), sL (aD bz) 2 2, sL (aD fe) 2 2, sL none 0 0] 26) :: ((bz, ce #[sL sf sg sh, sL ia ib ic] 34) :: (po ++ (ff ++ (Lb327 ++ []))))))) rfl ?_
      refine ⟨_, [(162, sL (aD lh) 1 1), (163, sL (aD lg) 2 2)], rfl, rfl, z2, by kernel_rfl, ?_⟩; intro H
      refine bA (cs := #[sL (aD lh) 1 1, sL (aD lg) 2 2, sL none 0 0]) FI [sL (aD lh) 1 1, sL (aD lg) 2 2, sL none 0 0] ?_; intro b420 hb420
      refine Aa ⟨_, rfl, AQ.refl _, [13, 12, 11, 10, 9, 5, 4, 3, 2, 1, 0], by kernel_rfl, .inl (.inr (fun d h => by cases h; rfl)), (fc sm (fc sm (fc sm (fc sm (fc sm (fc (s0 (s1 (s1 (s1 (s1 (s2 (s3 (s3 (s3 sr))))))))) (fc sm (fc (s0 (s1 (s1 (s1 (s2 (s1 (s3 (s3 (s3 sr))))))))) (fc sm (fc (s0 (s1 (s1 (s1 (s2 (s1 (s3 (s3 (s3 sr))))))))) (fc sm nm))))))))))), ?_⟩
      refine ⟨_, [(164, sL (aD b420) 3 3), (169, vI (Int.tmod (k4 + (Int.tdiv k3 2)) 3))], rfl, rfl, z2, by kernel_rfl, ?_⟩; intro H
      refine Bj 1 rfl hb419 ?_; intro F421 jl hz423
      refine AB rfl ?_
      replace bx := bx.m2 jl
      replace fh := fh.m2 jl
      have me : At 1 eI F421 (aD lh) 1 [1] := At.oI hz423
      refine Bj 1 rfl hb418 ?_; intro F425 ig hz427
      refine AB rfl ?_
      replace me := me.m1 ig
      replace bx := bx.m2 ig
      replace fh := fh.m2 ig
      have si : At 1 eI F425 (aD lg) 2 [0, 1] := At.oI hz427
      refine Bj 0 rfl hb420 ?_; intro F429 gi hz431
      refine AB rfl ?_
      replace me := me.m1 gi
      replace si := si.m1 gi
      replace bx := bx.m2 gi
      replace fh := fh.m2 gi
      have h432 : At 1 eJ F429 (aD b420) 3 [[1], [0, 1], []] := At.Bd kJ (vss := [[sL (aD lh) [1].length 1], [sL (aD lg) [0, 1].length 2], [sL none 0 0]]) (xs := [[1], [0, 1], []]) hz431 (.cons ⟨_, _, rfl, me⟩ (.cons ⟨_, _, rfl, si⟩ (.cons ⟨_, _, rfl, At.nil _ _ _⟩ .nil))) rfl (by simp [maxLen])
      obtain ⟨x9, g433, hx434, r435⟩ := BG r417
      obtain ⟨b436, o437, c438, vs439, ha440, hs441, hle442, ⟨o4, o7, rfl, h447⟩, hl443, hc444⟩ := At.ta kJ h432 g433.1 hx434
      refine uv (C0 underlying34 sizeOf22 ha440 g433) ?_
      refine Aa ⟨_, rfl, ((jl.trans ig).trans gi), [5, 4, 3, 2, 1, 0], by kernel_rfl, .inl (.inr (fun d h => by cases h; rfl)), (fc (s0 (s1 (s2 (s3 (s3 (s3 sr)))))) (fc sm (fc (s0 (s2 (s1 (s3 (s3 (s3 sr)))))) (fc sm (fc (s0 (s2 (s1 (s3 (s3 (s3 sr)))))) (fc sm nm)))))), ?_⟩
      refine mL [170] ([]) rfl sm (fun H F' L' hF' hL' => AS isAgg22 rfl ((hs441 _).ext hF' hL') (hc444 0 (by decide))) ?_
      refine ⟨_, [(171, sL o4 x9.length o7)], rfl, rfl, z1, by kernel_rfl, ?_⟩; intro H
      refine bA (cs := #[sL o4 x9.length o7]) FI [sL o4 x9.length o7] ?_; intro b448 hb448
      refine Aa ⟨_, rfl, AQ.refl _, [5, 4, 3, 2, 1, 0], by kernel_rfl, .inl (.inr (fun d h => by cases h; rfl)), (fc (s0 (s1 (s1 (s2 (s3 (s3 (s3 sr))))))) (fc sm (fc (s0 (s1 (s2 (s1 (s3 (s3 (s3 sr))))))) (fc sm (fc (s0 (s1 (s2 (s1 (s3 (s3 (s3 sr))))))) (fc sm nm)))))), ?_⟩
      refine ⟨_, [(161, sL ia ib ic), (172, sL (aD b448) 1 1)], rfl, rfl, z2, by kernel_rfl, ?_⟩; intro H
      obtain ⟨l2, h449, g450, r451⟩ := Ea r435
      refine CJ (xs := jj) (ys := [x9]) (zs := l2) rfl FI rfl rfl (Nat.le_refl _) (fun _ => .c (.c (.c (.s .h)))) bx (FL.box (vss := [[sL o4 x9.length o7]]) (ys := [x9]) 0 rfl kJ (.cons ⟨_, _, rfl, h447⟩ .nil) rfl rfl) h449 g450 (by decide) ?_; intro a452 n456 c453 Lb454 hz455
      refine kO (kd kr) ?_
      refine Aa ⟨_, rfl, AQ.refl _, [1, 0], by kernel_rfl, .inl (.inr (fun d h => by cases h; rfl)), (fc (s0 (s2 (s1 (s3 (s3 (s3 sr)))))) (fc sm nm)), ?_⟩
      refine mS (v := .pointer (some ⟨bz, 1, none⟩)) [157] rfl (Fb.eq (GG (i := 1) underlying23 sizeOf34 rfl rfl (by decide)) rfl) ?_
      refine ⟨_, [(173, sL a452 n456 c453), (174, .pointer (some ⟨bz, 1, none⟩))], rfl, rfl, z2, by kernel_rfl, ?_⟩; intro H
      refine BL (i := 1) sizeOf34 rfl rfl rfl rfl (DD rfl) (AB rfl ?_)
      refine Aa ⟨undef, rfl, AQ.refl _, [], by kernel_rfl, .inl (.inl rfl), nm, ?_⟩
      refine Ce ?_
      refine AD (id := 7) (Aq ?_)
      refine uv (A4 rfl rfl (B0.CE mb o1 g356)) ?_
      refine um (Aa ?_)
      exact le kr ⟨_, w4, l, l2, sf, sg, sh, po, a452, n456, c453, Lb454, r451, (((((((pn.trans jk).trans ie).trans gh).trans fg).trans jl).trans ig).trans gi), rfl, z4, fh, hz455⟩
     obtain rfl := B0.zero mb o1
     rw [Dt] at o0
     refine AM (Aj (Aj ?_))
     refine Ax ?_
     obtain ⟨rfl, rfl⟩ := Cd o0
     exact mi kr ⟨j5, j6, j7, gg, ia, ib, ic, ff, pn, rfl, z3, dd, bx⟩
    rintro e1 F459 _ ⟨ku, ly, kv, gw, kz, ma, l0, gz, pq, rfl, he458, pr, jm⟩
    refine AA _ he458 ?_
    replace cx := cx.m1 pq
    obtain ⟨ij, h467, r468⟩ := Az vy
    refine AO (fun e1 F1 L1 => ∃ (sj : Option Addr) (sk : Nat) (sq : Nat) (mg : LH), F459 = F1 ∧ L1 = ((eb, ce #[vI 2, vI (1 + (Int.tmod k3 2)), sL (aD bz) 2 2, sL (aD fe) 2 2, sL sj sk sq] 26) :: ((bz, ce #[sL ku ly kv, sL kz ma l0] 34) :: (gw ++ (gz ++ (Lb327 ++ (mg ++ [])))))) ∧ e1.sub [(12, vI k3), (13, pO eb), (119, vI k3)] ∧ AI K.w0.heap.size 32 3 (Br eI eP) F1 sj sk sq ij mg) ?_ ?_
    ·clear r468
     refine AG (um ?_)
     refine uv (Dh rfl rfl (by decide)) ?_
     refine um (Aa ?_)
     refine As ?_
     obtain ⟨g475, r476⟩ := AF h467
     refine A6 (fun fu5 e1 F1 L1 => ∃ (k5 : Int), B0 0 (Int.tmod k3 4) k5 fu5 ∧ ∃ (ec : List (Int × Int × Int)) (mh : Option Addr) (mj : Nat) (ml : Nat) (jn : LH), Ds k3 fu5 k5 ec = some ij ∧ F459 = F1 ∧ L1 = ((eb, ce #[vI 2, vI (1 + (Int.tmod k3 2)), sL (aD bz) 2 2, sL (aD fe) 2 2, sL mh mj ml] 26) :: ((bz, ce #[sL ku ly kv, sL kz ma l0] 34) :: (gw ++ (gz ++ (Lb327 ++ (jn ++ [])))))) ∧ e1.sub [(12, vI k3), (13, pO eb), (119, vI k3), (177, vI (Int.tmod k3 4)), (178, vI k5)] ∧ AI K.w0.heap.size 32 3 (Br eI eP) F1 mh mj ml ec jn) _ (m0 (kc (kc (ka (ka (ka (ke kr)))))) ⟨_, B0.start _ _, [], none, 0, 0, [], r476, rfl, rfl, z5, AI.nil _ _ _ _ _⟩) ?_
     rintro fu5 e1 _ _ ⟨k5, mn, ec, mh, mj, ml, jn, o8, rfl, rfl, he480, pt⟩
     refine AA _ he480 (AG (uv (AY rfl rfl) ?_))
     refine Aa (Au ?_)
     refine cQ (fun o9 => ?_) fun o9 => ?_
     ·obtain ⟨fu5, rfl, hk483⟩ := B0.succ mn o9
      rw [Ds] at o8
      refine Ar (Au ?_)
      refine As ?_
      refine AG (um (ua (Aa ?_)))
      refine BK [(.still, 0), (.still, 1), (.still, 2), (.still, 3), (.still, 4), (.still, 5), (.still, 6), (.still, 7), (.still, 8), (.still, 9), (.still, 10), (.still, 11), (.still, 12), (.still, 13), (.seq, 14), (.seq, 15), (.still, 16), (.seq, 17)] (by kernel_rfl) (by kernel_rfl) (trivial) (by rfl) (by kernel_rfl) (mS [13] rfl (Ap Dv rfl) (mK [181] isAgg24 0 rfl rfl rfl rfl (mS [12] rfl (A9 rfl) (mS [15] rfl (A9 rfl) ?_))))
      obtain ⟨g484, r485⟩ := AF o8
      refine mS (v := vI (k3 + k5)) [183, 184] rfl (A4 rfl rfl g484) (mS (v := vI (Int.tmod (k3 + k5) 2)) [185] rfl (Dh rfl rfl (by decide)) (mS [12] rfl (A9 rfl) ?_))
      obtain ⟨g486, r487⟩ := AF r485
      refine mS (v := vI (Int.tdiv k3 2)) [187] rfl (Mf rfl rfl g486) (mS (v := vI (Int.tmod (Int.tdiv k3 2) 2)) [188] rfl (Dh rfl rfl (by decide)) (mS [15] rfl (A9 rfl) (mS [13] rfl (Ap Iy rfl) (mK [191] isAgg3 0 rfl rfl rfl rfl ?_))))
      obtain ⟨g488, r489⟩ := AF r487
      refine mS (v := vI (Int.tmod k5 (1 + (Int.tmod k3 2)))) [190, 192] rfl (Dh rfl rfl g488) ?_
      refine mS (v := .agg #[vI (Int.tmod (k3 + k5) 2), vI (Int.tmod (Int.tdiv k3 2) 2), vI (Int.tmod k5 (1 + (Int.tmod k3 2)))]) [186, 189, 193] rfl (BX (v := .agg #[vI (Int.tmod (k3 + k5) 2), vI (Int.tmod (Int.tdiv k3 2) 2), vI (Int.tmod k5 (1 + (Int.tmod k3 2)))]) rfl (by intro w; kernel_rfl)) ?_
      refine ⟨_, [(194, .agg #[vI (Int.tmod (k3 + k5) 2), vI (Int.tmod (Int.tdiv k3 2) 2), vI (Int.tmod k5 (1 + (Int.tmod k3 2)))])], rfl, rfl, z1, by kernel_rfl, ?_⟩; intro H
      refine bA (cs := #[vI (Int.tmod (k3 + k5) 2), vI (Int.tmod (Int.tdiv k3 2) 2), vI (Int.tmod k5 (1 + (Int.tmod k3 2)))]) H7 [.agg #[vI (Int.tmod (k3 + k5) 2), vI (Int.tmod (Int.tdiv k3 2) 2), vI (Int.tmod k5 (1 + (Int.tmod k3 2)))]] ?_; intro b490 hb490
      refine Aa ⟨_, rfl, AQ.refl _, [1, 0], by kernel_rfl, .inl (.inr (fun d h => by cases h; rfl)), (fc (s0 (s1 (s2 (s1 (s3 (s3 (s3 (s3 sr)))))))) (fc sm nm)), ?_⟩
      refine ⟨_, [(182, sL mh mj ml), (195, sL (aD b490) 1 1)], rfl, rfl, z2, by kernel_rfl, ?_⟩; intro H
      obtain ⟨l3, h491, g492, r493⟩ := Ea r489
      refine CJ (xs := ec) (ys := [(Int.tmod (k3 + k5) 2, Int.tmod (Int.tdiv k3 2) 2, Int.tmod k5 (1 + (Int.tmod k3 2)))]) (zs := l3) rfl H7 rfl rfl (Nat.le_refl _) (fun _ => .c (.c (.c (.s (.s (.s .h)))))) pt (FL.box (vss := [[vI (Int.tmod (k3 + k5) 2), vI (Int.tmod (Int.tdiv k3 2) 2), vI (Int.tmod k5 (1 + (Int.tmod k3 2)))]]) (ys := [(Int.tmod (k3 + k5) 2, Int.tmod (Int.tdiv k3 2) 2, Int.tmod k5 (1 + (Int.tmod k3 2)))]) 0 rfl (Ai kI kP) (.cons ⟨_, _, rfl, rfl, ⟨_, _, rfl, rfl, rfl⟩⟩ .nil) rfl rfl) h491 g492 (by decide) ?_; intro a494 n498 c495 Lb496 hz497
      refine kO (kd kr) ?_
      refine Aa ⟨_, rfl, AQ.refl _, [], by kernel_rfl, .inl (.inl rfl), nm, ?_⟩
      refine mS [13] rfl (Ap Dv rfl) ?_
      refine ⟨_, [(196, sL a494 n498 c495), (197, .pointer (some ⟨eb, 4, none⟩))], rfl, rfl, z2, by kernel_rfl, ?_⟩; intro H
      refine BL (i := 0) sizeOf24 rfl rfl rfl rfl (DD rfl) (AB rfl ?_)
      refine Aa ⟨undef, rfl, AQ.refl _, [], by kernel_rfl, .inl (.inl rfl), nm, ?_⟩
      refine Ce ?_
      refine AD (id := 9) (Aq ?_)
      refine uv (A4 rfl rfl (B0.CE mn o9 g475)) ?_
      refine um (Aa ?_)
      exact le kr ⟨_, hk483, l3, a494, n498, c495, Lb496, r493, rfl, rfl, z5, hz497⟩
     obtain rfl := B0.zero mn o9
     rw [Ds] at o8
     refine AM (Aj (Aj ?_))
     refine Ax ?_
     obtain rfl := AL o8
     exact mi kr ⟨mh, mj, ml, jn, rfl, rfl, z3, pt⟩
    rintro e1 _ _ ⟨sj, sk, sq, mg, rfl, rfl, he500, er⟩
    refine AA _ he500 (AG (uv (Cv isAgg26 sizeOf26 0) (um ?_)))
    obtain rfl := (AI.A1 pr).1
    refine A5 (Nat.le_refl _) kJ (fC (fC fP)) pr ?_; intro F501 jo mo
    replace jm := jm.m2 jo
    replace cx := cx.m1 jo
    replace er := er.mono (Ai kI kP) jo
    obtain rfl := (AI.A1 jm).1
    refine A5 (Nat.le_refl _) kJ (fC (fC fP)) jm ?_; intro F504 jq ss
    replace mo := mo.m2 jq
    replace cx := cx.m1 jq
    replace er := er.mono (Ai kI kP) jq
    refine Bj 1 rfl vw ?_; intro F507 ik hz509
    refine AB rfl ?_
    replace mo := mo.m2 ik
    replace ss := ss.m2 ik
    replace cx := cx.m1 ik
    replace er := er.mono (Ai kI kP) ik
    have h510 : At 1 (CM 1 eJ) F507 (aD bz) 2 [vx, gv] := At.Bd (Ay kJ) (vss := [[sL ku vx.length kv], [sL kz gv.length l0]]) (xs := [vx, gv]) hz509 (.cons ⟨_, _, rfl, mo⟩ (.cons ⟨_, _, rfl, ss⟩ .nil)) rfl (by simp [maxLen])
    obtain ⟨ok6, h511, r512⟩ := Az r468
    refine Bh rfl call10 rfl rfl rfl (pT ((fC fP).trans (pA ((fC fP).trans (pA pR)))) (lp (lp (ln rfl)))) (fun F2 h2 h3 => by have h0 := M6 (h510.mono (Ay kJ) h2) (cx.row kI h2 (aL h3)) (er.row (Ai kI kP) h2 (aL (aR h3))) h511; rw [← (AI.A1 cx).1] at h0; rw [← (AI.A1 er).1] at h0; exact h0) ?_
    refine uv (Bo rfl) (Aa ?_)
    obtain ⟨g514, r515⟩ := AF r512
    refine AV rfl (fun c516 => absurd (g514.symm.trans c516) (by decide)) (fun c516 => ?_)
    refine Ar (AD (id := 5) ?_)
    clear r515
    exact mi kn ⟨(((pq.trans jo).trans jq).trans ik), rfl, z1⟩
   refine Aq (uv (A4 rfl rfl (B0.CE lx ny g303)) ?_)
   refine um (Aa ?_)
   exact le kr ⟨_, vr, vt, (pk.trans vu), rfl, z1⟩
  obtain rfl := B0.zero lx ny
  rw [Bb] at nw
  refine AM (Aj (Aj ?_))
  refine Ax ?_
  clear nw
  exact mi kr ⟨pk, rfl, (sn _)⟩
 obtain ⟨h523, r524⟩ := IK vp
 refine jF ([]) [] ?_ fun F1022 hF1023 => ?_
 ·clear r524
  refine AG (um (Aa ?_))
  refine As ?_
  obtain ⟨su, r526⟩ := AF h523
  refine A6 (fun fu6 e1 F1 L1 => ∃ (k6 : Int), B0 0 14 k6 fu6 ∧ Bf fu6 k6 = some () ∧ AQ F521 F1 ∧ L1 = [] ∧ e1.sub [(204, vI k6)]) _ (m0 kr ⟨_, B0.start _ _, r526, AQ.refl _, rfl, z1⟩) ?_
  rintro fu6 e1 F531 _ ⟨k6, il, oc, pv, rfl, he530⟩
  refine AA _ he530 (AG (uv (AY rfl rfl) ?_))
  refine Aa (Au ?_)
  refine cQ (fun lj => ?_) fun lj => ?_
  ·obtain ⟨fu6, rfl, hk535⟩ := B0.succ il lj
   rw [Bf] at oc
   refine Ar ?_
   obtain ⟨h536, r537⟩ := IK oc
   refine jF ([]) [(204, vI k6)] ?_ fun F1019 sv => ?_
   ·clear r537
    refine As ?_
    refine AG (um (ua (Aa (Au ?_))))
    obtain ⟨g538, r539⟩ := AF h536
    refine BK [(.pre, 4), (.pre, 10), (.still, 0), (.still, 1), (.still, 2), (.still, 3), (.still, 5), (.still, 7), (.pre, 8), (.alloc (ce #[vI 3] 3) (fun b => sL (aD b) 1 1) [], 4), (.seq, 6), (.alloc (ce (madeCells (.agg #[vI 0, vI 0, vI 0] : Value).cells (Int.toNat k6 * 3)) 32) (fun b => sL (aD b) (Int.toNat k6) (Int.toNat k6)) [(214, vI k6)], 8), (.still, 9), (.alloc (.cells (.agg #[vI 0, vI 0, sL none 0 0, sL none 0 0, sL none 0 0] : Value).cells 26 (0, 0)) (fun b => pO b) [], 10), (.seq, 11)] (by kernel_rfl) (by kernel_rfl) (⟨⟨_, _, rfl, rfl, rfl, rfl, rfl, JL rfl (DZ Bm [vI 3] rfl (by decide) (by simp [Value.cells]) (by decide))⟩, ⟨⟨_, _, rfl, rfl, rfl, rfl, rfl, NP H7 (by decide) rfl g538⟩, ⟨⟨_, _, rfl, rfl, rfl, rfl, rfl, GC zeroValue26⟩, trivial⟩⟩⟩) (by rfl) (by kernel_rfl) ?_
    refine ⟨⟨_, rfl, (sn _), by kernel_rfl⟩, ?_⟩
    refine ⟨⟨[], rfl, sn _, by kernel_rfl⟩, ?_⟩
    refine mS [16] rfl (A9 rfl) (mS [16] rfl (A9 rfl) (mS (v := vI (k6 + 1)) [208] rfl (A4 rfl rfl (B0.CE il lj su)) ?_))
    obtain ⟨g540, r541⟩ := AF r539
    refine mS (v := vI (Int.tdiv (k6 + 1) 2)) [209] rfl (Mf rfl rfl g540) (mS [16] rfl (A9 rfl) (mS [16] rfl (A9 rfl) ?_))
    refine ⟨⟨_, rfl, z1, by kernel_rfl⟩, ?_⟩
    refine K7 rfl ?_; intro jb hb542
    refine HK (L' := [(jb, ce #[vI 3] 3)]) rfl ?_
    refine ⟨_, [(211, sL (aD jb) 1 1), (212, vI k6)], rfl, rfl, z2, by kernel_rfl, ?_⟩; intro H
    obtain ⟨l4, h543, r544⟩ := Az r541
    refine GH rfl call11 rfl rfl rfl (pT pR (ln (lb (ln rfl)))) (fun F2 h2 h3 => by exact KG (At.Bd kI (vss := [[vI 3]]) (xs := ([3] : List Int)) (h3 (jb, ce #[vI 3] 3) mz) (.cons rfl .nil) rfl (by simp [maxLen])) h543) (fun _ _ _ _ hq => by obtain ⟨av, aw, ax, ae, rfl, rfl, ab⟩ := hq; exact ⟨_, _, _, _, rfl, rfl, ab.flat (fun _ _ h => h)⟩) ?_; rintro _ sw _ pw hd548 hn547 ⟨av, aw, ax, ae, rfl, rfl, ab⟩
    have hn555 := ND (Lb' := []) (by rfl) hd548 hn547
    replace ab := ab.new fun p hp => hn555 p (by simp [hp])
    refine AB (lp (ln (lb (ln rfl)))) (kO (kf (fS fO) kr) ?_)
    refine Aa ⟨_, rfl, pw, [7, 3, 2, 1, 0], by kernel_rfl, .inl (.inr (fun d h => by cases h; rfl)), (fc sm (fc sm (fc sm (fc sm (fc sm nm))))), ?_⟩
    refine K7 rfl ?_; intro ao hb556
    refine HK (L' := (ao, ce (madeCells (.agg #[vI 0, vI 0, vI 0] : Value).cells ((Int.toNat k6) * 3)) 32) :: ((jb, ce #[vI 3] 3) :: (ae ++ []))) rfl ?_
    refine mS (v := .agg #[vI k6, vI (Int.tdiv (k6 + 1) 2), sL none 0 0, sL av aw ax, sL (aD ao) (Int.toNat k6) (Int.toNat k6)]) [207, 210, 213, 215] rfl (BX (v := .agg #[vI k6, vI (Int.tdiv (k6 + 1) 2), sL none 0 0, sL av aw ax, sL (aD ao) (Int.toNat k6) (Int.toNat k6)]) rfl (by intro w; kernel_rfl)) ?_
    refine HP rfl ?_; intro aq hb557
    refine HK (L' := (aq, ce #[vI 0, vI 0, sL none 0 0, sL none 0 0, sL none 0 0] 26) :: ((ao, ce (madeCells (.agg #[vI 0, vI 0, vI 0] : Value).cells ((Int.toNat k6) * 3)) 32) :: ((jb, ce #[vI 3] 3) :: (ae ++ [])))) rfl ?_
    refine ⟨_, [(17, pO aq), (216, .agg #[vI k6, vI (Int.tdiv (k6 + 1) 2), sL none 0 0, sL av aw ax, sL (aD ao) (Int.toNat k6) (Int.toNat k6)])], rfl, rfl, z2, by kernel_rfl, ?_⟩; intro H
    obtain ⟨l5, h558, r559⟩ := BI r544
    have ai : AI K.w0.heap.size 32 3 (Br eI eP) sw (aD ao) (Int.toNat k6) (Int.toNat k6) l5 [(ao, ce (madeCells (.agg #[vI 0, vI 0, vI 0] : Value).cells ((Int.toNat k6) * 3)) 32)] := by rw [h558]; exact AI.made (Ai kI kP) (by decide) (fun _ => ⟨_, _, rfl, rfl, ⟨_, _, rfl, rfl, rfl⟩⟩) hb556 (Nm g538)
    generalize od : ([(ao, ce (madeCells (.agg #[vI 0, vI 0, vI 0] : Value).cells ((Int.toNat k6) * 3)) 32)] : LH) = Lb560 at ai
    refine Bc (L' := Lb560 ++ ((aq, ce #[vI 0, vI 0, sL none 0 0, sL none 0 0, sL none 0 0] 26) :: ((jb, ce #[vI 3] 3) :: (ae ++ [])))) (by rw [← od]; exact (fC fO)) ?_
    refine Bc (L' := (aq, ce #[vI 0, vI 0, sL none 0 0, sL none 0 0, sL none 0 0] 26) :: ((jb, ce #[vI 3] 3) :: (Lb560 ++ (ae ++ [])))) (List.Perm.symm (fC (fC fP))) (BD (i := 0) sizeOf26 rfl rfl rfl (by simp [Value.oneCell']) rfl (DD rfl) (AB rfl ?_))
    refine Aa ⟨undef, rfl, AQ.refl _, [], by kernel_rfl, .inl (.inl rfl), nm, ?_⟩
    refine Ce ?_
    obtain ⟨jr, h569, r570⟩ := Az r559
    refine AO (fun e1 F1 L1 => ∃ (bl : Option Addr) (bm : Nat) (bn : Nat) (bb : LH), AQ sw F1 ∧ L1 = ((aq, ce #[vI k6, vI (Int.tdiv (k6 + 1) 2), sL bl bm bn, sL av aw ax, sL (aD ao) (Int.toNat k6) (Int.toNat k6)] 26) :: (bb ++ (ae ++ (Lb560 ++ [])))) ∧ e1.sub [(16, vI k6), (17, pO aq), (204, vI k6)] ∧ Ev K.w0.heap.size 34 22 1 eJ F1 bl bm bn jr bb) ?_ ?_
    ·clear r570
     refine AG (um ?_)
     refine uv (A4 rfl rfl (B0.CE il lj su)) ?_
     obtain ⟨g571, r572⟩ := AF h569
     refine uv (Mf rfl rfl g571) ?_
     refine um (Aa ?_)
     refine As (kW (kc (kd kr)) ?_)
     obtain ⟨g579, r580⟩ := AF r572
     refine A6 (fun fu7 e1 F1 L1 => ∃ (k7 : Int), B0 0 (Int.tdiv (k6 + 1) 2) k7 fu7 ∧ ∃ (fi : List (List (List Int))) (mq : Option Addr) (mr : Nat) (mu : Nat) (js : LH), Du k6 fu7 k7 fi = some jr ∧ AQ sw F1 ∧ L1 = ((aq, ce #[vI k6, vI (Int.tdiv (k6 + 1) 2), sL mq mr mu, sL av aw ax, sL (aD ao) (Int.toNat k6) (Int.toNat k6)] 26) :: (js ++ (ae ++ (Lb560 ++ [])))) ∧ e1.sub [(16, vI k6), (17, pO aq), (204, vI k6), (219, vI (Int.tdiv (k6 + 1) 2)), (220, vI k7)] ∧ Ev K.w0.heap.size 34 22 1 eJ F1 mq mr mu fi js) _ (m0 (kc (ke (kg (fS fP) kr))) ⟨_, B0.start _ _, [], none, 0, 0, [], r580, AQ.refl _, rfl, z5, Ev.nil _ _ _ _ _ _⟩) ?_
     rintro fu7 e1 sx _ ⟨k7, mv, fi, mq, mr, mu, js, oe, px, rfl, he584, py⟩
     refine AA _ he584 (AG (uv (AY rfl rfl) ?_))
     refine Aa (Au ?_)
     refine cQ (fun og => ?_) fun og => ?_
     ·obtain ⟨fu7, rfl, hk589⟩ := B0.succ mv og
      rw [Du] at oe
      refine Ar ?_
      obtain ⟨fj, h596, r597⟩ := Az oe
      refine AO (fun e1 F1 L1 => ∃ (oh : Option Addr) (oi : Nat) (oj : Nat) (jt : LH), AQ sx F1 ∧ L1 = ((aq, ce #[vI k6, vI (Int.tdiv (k6 + 1) 2), sL oh oi oj, sL av aw ax, sL (aD ao) (Int.toNat k6) (Int.toNat k6)] 26) :: (jt ++ (ae ++ (Lb560 ++ [])))) ∧ e1.sub [(16, vI k6), (17, pO aq), (204, vI k6), (219, vI (Int.tdiv (k6 + 1) 2)), (220, vI k7)] ∧ Ev K.w0.heap.size 34 22 1 eJ F1 oh oi oj fj jt) ?_ ?_
      ·clear r597
       refine As ?_
       refine AG (um (ua (Aa (Au ?_))))
       refine BK [(.still, 0), (.still, 1), (.seq, 2), (.seq, 3), (.seq, 4), (.still, 5), (.seq, 6)] (by kernel_rfl) (by kernel_rfl) (trivial) (by rfl) (by kernel_rfl) (mS [17] rfl (Ap CC rfl) (mK [223] isAgg23 0 rfl rfl rfl rfl ?_))
       refine ⟨_, [], rfl, rfl, (sn _), by kernel_rfl, ?_⟩; intro H
       obtain ⟨g598, r599⟩ := AF h596
       obtain ⟨l6, h600, r601⟩ := BI r599
       refine Ft (R := eJ) (z0 := []) (zs := l6) rfl FI (by decide) kJ (fun _ => ⟨_, _, rfl, At.nil _ _ _⟩) rfl g598 h600 (fun _ => .c .n) ?_; intro jc ef Lb603 hz604
       refine Aa ⟨_, rfl, AQ.refl _, [1, 0], by kernel_rfl, .inl (.inr (fun d h => by cases h; rfl)), (fc (s0 (s2 (s3 (s3 (s3 (s3 sr)))))) (fc sm nm)), ?_⟩
       refine ⟨_, [(225, sL jc ef ef)], rfl, rfl, z1, by kernel_rfl, ?_⟩; intro H
       refine bA (cs := #[sL jc ef ef]) LI [sL jc ef ef] ?_; intro b607 hb607
       refine Aa ⟨_, rfl, AQ.refl _, [1, 0], by kernel_rfl, .inl (.inr (fun d h => by cases h; rfl)), (fc (s0 (s1 (s2 (s3 (s3 (s3 (s3 sr))))))) (fc sm nm)), ?_⟩
       refine ⟨_, [(224, sL mq mr mu), (226, sL (aD b607) 1 1)], rfl, rfl, z2, by kernel_rfl, ?_⟩; intro H
       obtain ⟨l7, h608, g609, r610⟩ := Ea r601
       refine OA (fC (fC (fS fP))) py ?_; intro pz Lo614 Lc615 hO611 q0
       refine kO (kf (fS (fS fO)) (kf (fS (fS fO)) kr)) ?_
       refine CJ (xs := pz) (ys := [(jc, ef, ef)]) (zs := pz ++ [(jc, ef, ef)]) rfl LI rfl rfl (Nat.le_refl _) (fun _ => .c (.c .h)) hO611 (FL.box (vss := [[sL jc ef ef]]) (ys := [(jc, ef, ef)]) 0 rfl DP (.cons rfl .nil) rfl rfl) rfl (SL q0 h608 g609) (by decide) ?_; intro fw fx fy Lo619 hO620
       refine kO (kd kr) ?_
       refine Ij (p := fun X => Ev K.w0.heap.size 34 22 1 eJ sx fw fx fy l7 X) (Lq.push q0 rfl hO620 hz604 h608) (pT ((fC fP).trans (pA ((fC (fS fP)).trans (pA ((fC fP).trans (pA pR)))))) (lp (lp (lp (ln rfl))))) ?_; intro Lb622 hz623
       refine kO (kf (fS fO) kr) ?_
       refine Aa ⟨_, rfl, AQ.refl _, [], by kernel_rfl, .inl (.inl rfl), nm, ?_⟩
       refine mS [17] rfl (Ap CC rfl) ?_
       refine ⟨_, [(227, sL fw fx fy), (228, .pointer (some ⟨aq, 2, none⟩))], rfl, rfl, z2, by kernel_rfl, ?_⟩; intro H
       refine BL (i := 0) sizeOf23 rfl rfl rfl rfl (DD rfl) (AB rfl ?_)
       refine Aa ⟨undef, rfl, AQ.refl _, [], by kernel_rfl, .inl (.inl rfl), nm, ?_⟩
       refine Ce ?_
       refine AG (um (um (Aa ?_)))
       refine As ?_
       obtain ⟨g626, r627⟩ := AF r610
       refine A6 (fun fu8 e1 F1 L1 => ∃ (k8 : Int), B0 0 k6 k8 fu8 ∧ ∃ (fk : List (List (List Int))) (ju : LH), Dj k7 fu8 k8 fk = some fj ∧ AQ sx F1 ∧ L1 = ((aq, ce #[vI k6, vI (Int.tdiv (k6 + 1) 2), sL fw fx fy, sL av aw ax, sL (aD ao) (Int.toNat k6) (Int.toNat k6)] 26) :: (ju ++ (ae ++ (Lb560 ++ [])))) ∧ e1.sub [(16, vI k6), (17, pO aq), (18, vI k7), (204, vI k6), (219, vI (Int.tdiv (k6 + 1) 2)), (220, vI k7), (229, vI k6), (230, vI k8)] ∧ Ev K.w0.heap.size 34 22 1 eJ F1 fw fx fy fk ju) _ (m0 kr ⟨_, B0.start _ _, l7, Lb622, r627, AQ.refl _, rfl, z8, hz623⟩) ?_
       rintro fu8 e1 F632 _ ⟨k8, mw, fk, ju, oo, qb, rfl, he631, mx⟩
       refine AA _ he631 (AG (uv (AY rfl rfl) ?_))
       refine Aa (Au ?_)
       refine cQ (fun oq => ?_) fun oq => ?_
       ·obtain ⟨fu8, rfl, hk636⟩ := B0.succ mw oq
        rw [Dj] at oo
        refine Ar (Au ?_)
        refine As ?_
        refine AG (um (ua (Aa (Aq ?_))))
        refine uv (Ap CC rfl) (uv (Co isAgg23 0) (um ?_))
        obtain ⟨x10, g637, hx638, r639⟩ := BG oo
        have hn651 := (Ev.A1 mx).1
        refine KK (fC fP) mx hx638 ?_; intro hs640 jv jw a643 n644 c645 jx qc jz im na
        refine kO (kf (fS (fS (fS fO))) kr) ?_
        obtain ⟨b653, o654, c655, vs656, ha657, hs658, hle659, rfl, hl660, hc661⟩ := AI.at DP jz (L := (aq, ce #[vI k6, vI (Int.tdiv (k6 + 1) 2), sL fw fx fy, sL av aw ax, sL (aD ao) (Int.toNat k6) (Int.toNat k6)] 26) :: (jv ++ (jx ++ (jw ++ (ae ++ (Lb560 ++ [])))))) (fC fP) g637.1 qc
        refine uv (C0 underlying23 sizeOf34 ha657 (N6 hn651 g637)) (uv (AS isAgg34 rfl hs658 (hc661 0 (by decide))) ?_)
        refine um (um ?_)
        obtain ⟨g662, r663⟩ := AF r639
        refine uv (A4 rfl rfl g662) (uv (Dh rfl rfl (by decide)) (um ?_))
        refine bA (cs := #[vI k8]) Bm [vI k8] ?_; intro ot hb664
        obtain ⟨x11, sy, hx666, r667⟩ := BG r663
        obtain ⟨b668, o669, c670, vs671, qd, hs673, hle674, ⟨a677, c678, rfl, h679⟩, hl675, hc676⟩ := AI.at kJ im (L := (ot, ce #[vI k8] 3) :: ((aq, ce #[vI k6, vI (Int.tdiv (k6 + 1) 2), sL fw fx fy, sL av aw ax, sL (aD ao) (Int.toNat k6) (Int.toNat k6)] 26) :: (jv ++ (jx ++ (jw ++ (ae ++ (Lb560 ++ []))))))) (fC (fC (fS fP))) sy.1 hx666
        refine uv (C0 underlying34 sizeOf22 qd (AI.idx im sy)) ?_
        have qe : AI K.w0.heap.size 3 1 eI F632 (aD ot) 1 1 [k8] [(ot, ce #[vI k8] 3)] := AI.Bd (vss := [[vI k8]]) kI hb664 (.cons rfl .nil) rfl rfl (by simp [maxLen])
        generalize ou : ([(ot, ce #[vI k8] 3)] : LH) = Lb680 at qe
        refine Bc (L' := Lb680 ++ ((aq, ce #[vI k6, vI (Int.tdiv (k6 + 1) 2), sL fw fx fy, sL av aw ax, sL (aD ao) (Int.toNat k6) (Int.toNat k6)] 26) :: (jv ++ (jx ++ (jw ++ (ae ++ (Lb560 ++ []))))))) (by rw [← ou]; exact fO) ?_
        refine Bc (L' := (aq, ce #[vI k6, vI (Int.tdiv (k6 + 1) 2), sL fw fx fy, sL av aw ax, sL (aD ao) (Int.toNat k6) (Int.toNat k6)] 26) :: (Lb680 ++ (jv ++ (jx ++ (jw ++ (ae ++ (Lb560 ++ []))))))) (List.Perm.symm (fC fP)) ?_
        refine A5 (Nat.le_refl _) kI (fC fP) qe ?_; intro F683 kb h685
        replace jz := jz.mono DP kb
        replace na := na.m2 kb
        replace im := im.m2 kb
        obtain ⟨l8, h686, r687⟩ := BI r667
        refine Dq (u := [k8]) sizeOf22 kJ rfl qd rfl ⟨_, _, rfl, h685⟩ (fun _ => .c (.s .h)) im h686 sy ?_; intro Lb688 hz689
        obtain ⟨b_7, h690, r691⟩ := BI r687
        refine Ij (p := fun X => Ev K.w0.heap.size 34 22 1 eJ F683 fw fx fy b_7 X) (Mz.Ph na jz qc hz689 h690) (pT ((fC fP).trans (pA ((fC fP).trans (pA ((fC fP).trans (pA pR)))))) (lp (lp (lp (ln rfl))))) ?_; intro Lb692 hz693
        refine kO (kf (fS fO) kr) ?_
        refine Aa (AD (id := 15) (Aq ?_))
        refine uv (A4 rfl rfl (B0.CE mw oq g626)) ?_
        refine um (Aa ?_)
        exact le kr ⟨_, hk636, b_7, Lb692, r691, (qb.trans kb), rfl, z8, hz693⟩
       obtain rfl := B0.zero mw oq
       rw [Dj] at oo
       refine AM (Aj (Aj ?_))
       refine Ax (AD (id := 13) ?_)
       obtain rfl := AL oo
       exact mi kr ⟨fw, fx, fy, ju, qb, rfl, z5, mx⟩
      rintro e1 F695 _ ⟨oh, oi, oj, jt, hF696, rfl, he694, hz593⟩
      refine AA _ he694 (Aq (uv (A4 rfl rfl (B0.CE mv og g579)) ?_))
      refine um (Aa ?_)
      exact le kr ⟨_, hk589, fj, oh, oi, oj, jt, r597, (px.trans hF696), rfl, z5, hz593⟩
     obtain rfl := B0.zero mv og
     rw [Du] at oe
     refine AM (Aj (Aj ?_))
     refine Ax ?_
     obtain rfl := AL oe
     exact mi kr ⟨mq, mr, mu, js, px, rfl, z3, py⟩
    rintro e1 tc _ ⟨bl, bm, bn, bb, nc, rfl, he697, al⟩
    refine AA _ he697 ?_
    replace ab := ab.m1 nc
    replace ai := ai.mono (Ai kI kP) nc
    refine AG ?_
    obtain ⟨n3, n4, y4, y5, y6, h700, r701⟩ := Ez r570
    refine c0 call4 (D7 h700) ?_; rintro _ _ _ hF703 fl ⟨ar, cq, eg, dk, da, cy, bc, cf, rfl, rfl, rfl⟩
    have hb706 := fl _ mz
    have hb707 := fl _ (my mz)
    have hb708 := fl _ (my (my mz))
    have hb709 := fl _ (my (my (my mz)))
    have hb710 := fl _ (my (my (my (my mz))))
    have hb711 := fl _ (my (my (my (my (my mz)))))
    have hb712 := fl _ (my (my (my (my (my (my mz))))))
    refine AB (lb (lb (lb (lb (lb (lb (lb (lb (ln rfl))))))))) ?_
    refine Bu rfl zeroValue26 ?_; intro bo hb714
    have ad : AI K.w0.heap.size 3 1 eI tc (aD bc) 3 3 [1, -1, 4] [(bc, ce #[vI 1, vI (-1), vI 4] 3)] := AI.Bd (vss := [[vI 1], [vI (-1)], [vI 4]]) kI hb712 (.cons rfl (.cons rfl (.cons rfl .nil))) rfl rfl (by simp [maxLen])
    generalize ow : ([(bc, ce #[vI 1, vI (-1), vI 4] 3)] : LH) = Lb715 at ad
    refine Bc (L' := Lb715 ++ ((bo, ce #[vI 0, vI 0, sL none 0 0, sL none 0 0, sL none 0 0] 26) :: ((ar, ce #[sL (aD cq) 8 8] 34) :: ((cq, ce #[sL (aD eg) 1 1, sL (aD dk) 2 2, sL (aD da) 1 1, sL (aD cy) 1 1, sL none 0 0, sL none 0 0, sL none 0 0, sL none 0 0] 22) :: ((eg, ce #[vI 0] 3) :: ((dk, ce #[vI 0, vI 1] 3) :: ((da, ce #[vI 1] 3) :: ((cy, ce #[vI 1] 3) :: ((cf, ce #[vI 0, vI 0, vI 0, vI 2, vI 0, vI 0] 32) :: ((aq, ce #[vI k6, vI (Int.tdiv (k6 + 1) 2), sL bl bm bn, sL av aw ax, sL (aD ao) (Int.toNat k6) (Int.toNat k6)] 26) :: (bb ++ (ae ++ (Lb560 ++ []))))))))))))) (by rw [← ow]; exact (fC (fC (fC (fC (fC (fC (fC fO)))))))) ?_
    refine Bc (L' := (bo, ce #[vI 0, vI 0, sL none 0 0, sL none 0 0, sL none 0 0] 26) :: ((ar, ce #[sL (aD cq) 8 8] 34) :: ((cq, ce #[sL (aD eg) 1 1, sL (aD dk) 2 2, sL (aD da) 1 1, sL (aD cy) 1 1, sL none 0 0, sL none 0 0, sL none 0 0, sL none 0 0] 22) :: ((eg, ce #[vI 0] 3) :: ((dk, ce #[vI 0, vI 1] 3) :: ((da, ce #[vI 1] 3) :: ((cy, ce #[vI 1] 3) :: ((cf, ce #[vI 0, vI 0, vI 0, vI 2, vI 0, vI 0] 32) :: ((aq, ce #[vI k6, vI (Int.tdiv (k6 + 1) 2), sL bl bm bn, sL av aw ax, sL (aD ao) (Int.toNat k6) (Int.toNat k6)] 26) :: (Lb715 ++ (bb ++ (ae ++ (Lb560 ++ []))))))))))))) (List.Perm.symm (fC (fC (fC (fC (fC (fC (fC (fC (fC fP)))))))))) (BD (i := 0) sizeOf26 rfl rfl rfl (by simp [Value.oneCell']) rfl (DD rfl) (AB rfl ?_))
    refine BR (um ?_)
    obtain ⟨g718, r719⟩ := AF r701
    obtain ⟨l9, h720, r721⟩ := BI r719
    refine Ft (R := (Br eI eP)) (z0 := (0, 0, 0)) (zs := l9) rfl H7 (by decide) (Ai kI kP) (fun _ => ⟨_, _, rfl, rfl, ⟨_, _, rfl, rfl, rfl⟩⟩) rfl g718 h720 (fun _ => .c (.c (.c (.c (.c (.c (.c (.c (.c .n))))))))) ?_; intro bk aa br ah
    refine uv (Ap Dv rfl) (BL (i := 0) sizeOf24 rfl rfl rfl rfl (DD rfl) (AB rfl (BR ?_)))
    obtain ⟨n5, n6, y7, y8, y9, h727, r728⟩ := Ez r721
    refine c0 call4 (D7 h727) ?_; rintro _ _ _ hF730 nf ⟨ak, cu, bd, bg, bh, bj, bu, ay, rfl, rfl, rfl⟩
    have hb733 := nf _ mz
    have hb739 := nf _ (my (my (my (my (my (my mz))))))
    have hb740 := nf _ (my (my (my (my (my (my (my mz)))))))
    refine AB (lb (lb (lb (lb (lb (lb (lb (lb (ln rfl))))))))) ?_
    refine Bu rfl zeroValue26 ?_; intro bw hb741
    have aj : AI K.w0.heap.size 3 1 eI tc (aD bu) 3 3 [1, -1, 4] [(bu, ce #[vI 1, vI (-1), vI 4] 3)] := AI.Bd (vss := [[vI 1], [vI (-1)], [vI 4]]) kI hb739 (.cons rfl (.cons rfl (.cons rfl .nil))) rfl rfl (by simp [maxLen])
    generalize oy : ([(bu, ce #[vI 1, vI (-1), vI 4] 3)] : LH) = Lb742 at aj
    refine Bc (L' := Lb742 ++ ((bw, ce #[vI 0, vI 0, sL none 0 0, sL none 0 0, sL none 0 0] 26) :: ((ak, ce #[sL (aD cu) 8 8] 34) :: ((cu, ce #[sL (aD bd) 1 1, sL (aD bg) 2 2, sL (aD bh) 1 1, sL (aD bj) 1 1, sL none 0 0, sL none 0 0, sL none 0 0, sL none 0 0] 22) :: ((bd, ce #[vI 0] 3) :: ((bg, ce #[vI 0, vI 1] 3) :: ((bh, ce #[vI 1] 3) :: ((bj, ce #[vI 1] 3) :: ((ay, ce #[vI 0, vI 0, vI 0, vI 2, vI 0, vI 0] 32) :: ((bo, ce #[vI n3, vI n4, sL (aD ar) 1 1, sL (aD bc) 3 3, sL bk aa aa] 26) :: ((ar, ce #[sL (aD cq) 8 8] 34) :: ((cq, ce #[sL (aD eg) 1 1, sL (aD dk) 2 2, sL (aD da) 1 1, sL (aD cy) 1 1, sL none 0 0, sL none 0 0, sL none 0 0, sL none 0 0] 22) :: ((eg, ce #[vI 0] 3) :: ((dk, ce #[vI 0, vI 1] 3) :: ((da, ce #[vI 1] 3) :: ((cy, ce #[vI 1] 3) :: ((cf, ce #[vI 0, vI 0, vI 0, vI 2, vI 0, vI 0] 32) :: ((aq, ce #[vI k6, vI (Int.tdiv (k6 + 1) 2), sL bl bm bn, sL av aw ax, sL (aD ao) (Int.toNat k6) (Int.toNat k6)] 26) :: (br ++ (Lb715 ++ (bb ++ (ae ++ (Lb560 ++ []))))))))))))))))))))))) (by rw [← oy]; exact (fC (fC (fC (fC (fC (fC (fC fO)))))))) ?_
    refine Bc (L' := (bw, ce #[vI 0, vI 0, sL none 0 0, sL none 0 0, sL none 0 0] 26) :: ((ak, ce #[sL (aD cu) 8 8] 34) :: ((cu, ce #[sL (aD bd) 1 1, sL (aD bg) 2 2, sL (aD bh) 1 1, sL (aD bj) 1 1, sL none 0 0, sL none 0 0, sL none 0 0, sL none 0 0] 22) :: ((bd, ce #[vI 0] 3) :: ((bg, ce #[vI 0, vI 1] 3) :: ((bh, ce #[vI 1] 3) :: ((bj, ce #[vI 1] 3) :: ((ay, ce #[vI 0, vI 0, vI 0, vI 2, vI 0, vI 0] 32) :: ((bo, ce #[vI n3, vI n4, sL (aD ar) 1 1, sL (aD bc) 3 3, sL bk aa aa] 26) :: ((ar, ce #[sL (aD cq) 8 8] 34) :: ((cq, ce #[sL (aD eg) 1 1, sL (aD dk) 2 2, sL (aD da) 1 1, sL (aD cy) 1 1, sL none 0 0, sL none 0 0, sL none 0 0, sL none 0 0] 22) :: ((eg, ce #[vI 0] 3) :: ((dk, ce #[vI 0, vI 1] 3) :: ((da, ce #[vI 1] 3) :: ((cy, ce #[vI 1] 3) :: ((cf, ce #[vI 0, vI 0, vI 0, vI 2, vI 0, vI 0] 32) :: ((aq, ce #[vI k6, vI (Int.tdiv (k6 + 1) 2), sL bl bm bn, sL av aw ax, sL (aD ao) (Int.toNat k6) (Int.toNat k6)] 26) :: (Lb742 ++ (br ++ (Lb715 ++ (bb ++ (ae ++ (Lb560 ++ []))))))))))))))))))))))) (List.Perm.symm (fC (fC (fC (fC (fC (fC (fC (fC (fC (fC (fC (fC (fC (fC (fC (fC (fC fP)))))))))))))))))) (BD (i := 0) sizeOf26 rfl rfl rfl (by simp [Value.oneCell']) rfl (DD rfl) (AB rfl ?_))
    refine Aa (Au ?_)
    refine BK [(.still, 0), (.still, 1), (.still, 2), (.seq, 3), (.still, 4), (.seq, 5)] (by kernel_rfl) (by kernel_rfl) (trivial) (by rfl) (by kernel_rfl) (mS [21] rfl (Ap CC rfl) (mK [252] isAgg23 0 rfl rfl rfl rfl (mS [16] rfl (A9 rfl) ?_)))
    refine ⟨_, [(254, vI k6)], rfl, rfl, z1, by kernel_rfl, ?_⟩; intro H
    obtain ⟨g745, r746⟩ := AF r728
    obtain ⟨de, h747, r748⟩ := BI r746
    refine Ft (R := eJ) (z0 := []) (zs := de) rfl FI (by decide) kJ (fun _ => ⟨_, _, rfl, At.nil _ _ _⟩) rfl g745 h747 (fun _ => .c (.c (.c (.c (.c (.c (.c (.c (.c (.c (.c (.c (.c (.c (.c (.c (.c .n))))))))))))))))) ?_; intro ey eh gj cj
    refine Aa ⟨_, rfl, AQ.refl _, [1, 0], by kernel_rfl, .inl (.inr (fun d h => by cases h; rfl)), (fc (s0 (s2 (s1 (s1 (s1 (s1 (s1 (s1 (s1 (s1 (s1 (s1 (s1 (s1 (s1 (s1 (s1 (s1 (s3 (s3 (s3 (s3 (s3 (s3 (s3 sr))))))))))))))))))))))))) (fc sm nm)), ?_⟩
    refine mS (v := pO ak) [253] rfl (Fb.eq (GG (i := 0) underlying23 sizeOf34 rfl rfl (by decide)) rfl) ?_
    refine ⟨_, [(255, sL ey eh eh), (256, pO ak)], rfl, rfl, z2, by kernel_rfl, ?_⟩; intro H
    refine BL (i := 1) sizeOf34 rfl rfl rfl rfl (DD rfl) (AB rfl ?_)
    refine Aa ⟨undef, rfl, AQ.refl _, [], by kernel_rfl, .inl (.inl rfl), nm, ?_⟩
    refine Ce (Au ?_)
    obtain ⟨kh, kj, kl, k9, h763, r764⟩ := RM r748
    refine AO (fun e1 F1 L1 => ∃ (td : Option Addr) (te : Nat) (tf : Option Addr) (tg : Nat) (th : Option Addr) (ti : Nat), AQ tc F1 ∧ L1 = ((bw, ce #[vI n5, vI n6, sL tf kj.length tg, sL (aD bu) 3 3, sL th kl.length ti] 26) :: ((bo, ce #[vI n3, vI n4, sL td kh.length te, sL (aD bc) 3 3, sL bk aa aa] 26) :: ((aq, ce #[vI k6, vI (Int.tdiv (k6 + 1) 2), sL bl bm bn, sL av aw ax, sL (aD ao) (Int.toNat k6) (Int.toNat k6)] 26) :: (bb ++ (ae ++ (Lb560 ++ (Lb715 ++ (br ++ (Lb742 ++ []))))))))) ∧ e1.sub [(16, vI k6), (17, pO aq), (20, pO bo), (21, pO bw), (204, vI k6), (297, .bool k9)] ∧ At 1 (CM 1 eJ) F1 td te kh ∧ At 1 (CM 1 eJ) F1 tf tg kj ∧ At 3 (Br eI eP) F1 th ti kl) ?_ ?_
    ·clear r764
     refine BN 11 rfl hb708 ?_; intro F765 ei hz767
     refine E5 (L' := (bw, ce #[vI n5, vI n6, sL (aD ak) 1 1, sL (aD bu) 3 3, sL (aD ay) 2 2] 26) :: ((ak, ce #[sL ey eh eh] 34) :: ((cu, ce #[sL (aD bd) 1 1, sL (aD bg) 2 2, sL (aD bh) 1 1, sL (aD bj) 1 1, sL none 0 0, sL none 0 0, sL none 0 0, sL none 0 0] 22) :: ((bd, ce #[vI 0] 3) :: ((bg, ce #[vI 0, vI 1] 3) :: ((bh, ce #[vI 1] 3) :: ((bj, ce #[vI 1] 3) :: ((ay, ce #[vI 0, vI 0, vI 0, vI 2, vI 0, vI 0] 32) :: ((bo, ce #[vI n3, vI n4, sL (aD ar) 1 1, sL (aD bc) 3 3, sL bk aa aa] 26) :: ((ar, ce #[sL (aD cq) 8 8] 34) :: ((cq, ce #[sL (aD eg) 1 1, sL (aD dk) 2 2, sL (aD da) 1 1, sL (aD cy) 1 1, sL none 0 0, sL none 0 0, sL none 0 0, sL none 0 0] 22) :: ((dk, ce #[vI 0, vI 1] 3) :: ((da, ce #[vI 1] 3) :: ((cy, ce #[vI 1] 3) :: ((cf, ce #[vI 0, vI 0, vI 0, vI 2, vI 0, vI 0] 32) :: ((aq, ce #[vI k6, vI (Int.tdiv (k6 + 1) 2), sL bl bm bn, sL av aw ax, sL (aD ao) (Int.toNat k6) (Int.toNat k6)] 26) :: (gj ++ (Lb742 ++ (br ++ (Lb715 ++ (bb ++ (ae ++ (Lb560 ++ []))))))))))))))))))))))) rfl ?_
     replace ab := ab.m1 ei
     replace ai := ai.mono (Ai kI kP) ei
     replace al := al.m2 ei
     replace ad := ad.m1 ei
     replace ah := ah.mono (Ai kI kP) ei
     replace aj := aj.m1 ei
     replace cj := cj.m2 ei
     have gp : At 1 eI F765 (aD eg) 1 [0] := At.oI hz767
     refine BN 11 rfl hb709 ?_; intro F769 df hz771
     refine E5 (L' := (bw, ce #[vI n5, vI n6, sL (aD ak) 1 1, sL (aD bu) 3 3, sL (aD ay) 2 2] 26) :: ((ak, ce #[sL ey eh eh] 34) :: ((cu, ce #[sL (aD bd) 1 1, sL (aD bg) 2 2, sL (aD bh) 1 1, sL (aD bj) 1 1, sL none 0 0, sL none 0 0, sL none 0 0, sL none 0 0] 22) :: ((bd, ce #[vI 0] 3) :: ((bg, ce #[vI 0, vI 1] 3) :: ((bh, ce #[vI 1] 3) :: ((bj, ce #[vI 1] 3) :: ((ay, ce #[vI 0, vI 0, vI 0, vI 2, vI 0, vI 0] 32) :: ((bo, ce #[vI n3, vI n4, sL (aD ar) 1 1, sL (aD bc) 3 3, sL bk aa aa] 26) :: ((ar, ce #[sL (aD cq) 8 8] 34) :: ((cq, ce (#[sL (aD eg) [0].length 1, sL (aD dk) 2 2, sL (aD da) 1 1, sL (aD cy) 1 1, sL none 0 0, sL none 0 0, sL none 0 0, sL none 0 0]) 22) :: ((da, ce #[vI 1] 3) :: ((cy, ce #[vI 1] 3) :: ((cf, ce #[vI 0, vI 0, vI 0, vI 2, vI 0, vI 0] 32) :: ((aq, ce #[vI k6, vI (Int.tdiv (k6 + 1) 2), sL bl bm bn, sL av aw ax, sL (aD ao) (Int.toNat k6) (Int.toNat k6)] 26) :: (gj ++ (Lb742 ++ (br ++ (Lb715 ++ (bb ++ (ae ++ (Lb560 ++ [])))))))))))))))))))))) rfl ?_
     replace gp := gp.m1 df
     replace ab := ab.m1 df
     replace ai := ai.mono (Ai kI kP) df
     replace al := al.m2 df
     replace ad := ad.m1 df
     replace ah := ah.mono (Ai kI kP) df
     replace aj := aj.m1 df
     replace cj := cj.m2 df
     have jd : At 1 eI F769 (aD dk) 2 [0, 1] := At.oI hz771
     refine BN 11 rfl hb710 ?_; intro F773 cz hz775
     refine E5 (L' := (bw, ce #[vI n5, vI n6, sL (aD ak) 1 1, sL (aD bu) 3 3, sL (aD ay) 2 2] 26) :: ((ak, ce #[sL ey eh eh] 34) :: ((cu, ce #[sL (aD bd) 1 1, sL (aD bg) 2 2, sL (aD bh) 1 1, sL (aD bj) 1 1, sL none 0 0, sL none 0 0, sL none 0 0, sL none 0 0] 22) :: ((bd, ce #[vI 0] 3) :: ((bg, ce #[vI 0, vI 1] 3) :: ((bh, ce #[vI 1] 3) :: ((bj, ce #[vI 1] 3) :: ((ay, ce #[vI 0, vI 0, vI 0, vI 2, vI 0, vI 0] 32) :: ((bo, ce #[vI n3, vI n4, sL (aD ar) 1 1, sL (aD bc) 3 3, sL bk aa aa] 26) :: ((ar, ce #[sL (aD cq) 8 8] 34) :: ((cq, ce (#[sL (aD eg) [0].length 1, sL (aD dk) [0, 1].length 2, sL (aD da) 1 1, sL (aD cy) 1 1, sL none 0 0, sL none 0 0, sL none 0 0, sL none 0 0]) 22) :: ((cy, ce #[vI 1] 3) :: ((cf, ce #[vI 0, vI 0, vI 0, vI 2, vI 0, vI 0] 32) :: ((aq, ce #[vI k6, vI (Int.tdiv (k6 + 1) 2), sL bl bm bn, sL av aw ax, sL (aD ao) (Int.toNat k6) (Int.toNat k6)] 26) :: (gj ++ (Lb742 ++ (br ++ (Lb715 ++ (bb ++ (ae ++ (Lb560 ++ []))))))))))))))))))))) rfl ?_
     replace gp := gp.m1 cz
     replace jd := jd.m1 cz
     replace ab := ab.m1 cz
     replace ai := ai.mono (Ai kI kP) cz
     replace al := al.m2 cz
     replace ad := ad.m1 cz
     replace ah := ah.mono (Ai kI kP) cz
     replace aj := aj.m1 cz
     replace cj := cj.m2 cz
     have ng : At 1 eI F773 (aD da) 1 [1] := At.oI hz775
     refine BN 11 rfl hb711 ?_; intro F777 cr hz779
     refine E5 (L' := (bw, ce #[vI n5, vI n6, sL (aD ak) 1 1, sL (aD bu) 3 3, sL (aD ay) 2 2] 26) :: ((ak, ce #[sL ey eh eh] 34) :: ((cu, ce #[sL (aD bd) 1 1, sL (aD bg) 2 2, sL (aD bh) 1 1, sL (aD bj) 1 1, sL none 0 0, sL none 0 0, sL none 0 0, sL none 0 0] 22) :: ((bd, ce #[vI 0] 3) :: ((bg, ce #[vI 0, vI 1] 3) :: ((bh, ce #[vI 1] 3) :: ((bj, ce #[vI 1] 3) :: ((ay, ce #[vI 0, vI 0, vI 0, vI 2, vI 0, vI 0] 32) :: ((bo, ce #[vI n3, vI n4, sL (aD ar) 1 1, sL (aD bc) 3 3, sL bk aa aa] 26) :: ((ar, ce #[sL (aD cq) 8 8] 34) :: ((cq, ce (#[sL (aD eg) [0].length 1, sL (aD dk) [0, 1].length 2, sL (aD da) [1].length 1, sL (aD cy) 1 1, sL none 0 0, sL none 0 0, sL none 0 0, sL none 0 0]) 22) :: ((cf, ce #[vI 0, vI 0, vI 0, vI 2, vI 0, vI 0] 32) :: ((aq, ce #[vI k6, vI (Int.tdiv (k6 + 1) 2), sL bl bm bn, sL av aw ax, sL (aD ao) (Int.toNat k6) (Int.toNat k6)] 26) :: (gj ++ (Lb742 ++ (br ++ (Lb715 ++ (bb ++ (ae ++ (Lb560 ++ [])))))))))))))))))))) rfl ?_
     replace gp := gp.m1 cr
     replace jd := jd.m1 cr
     replace ng := ng.m1 cr
     replace ab := ab.m1 cr
     replace ai := ai.mono (Ai kI kP) cr
     replace al := al.m2 cr
     replace ad := ad.m1 cr
     replace ah := ah.mono (Ai kI kP) cr
     replace aj := aj.m1 cr
     replace cj := cj.m2 cr
     have tj : At 1 eI F777 (aD cy) 1 [1] := At.oI hz779
     refine BN 10 rfl hb707 ?_; intro F781 cn hz783
     refine E5 (L' := (bw, ce #[vI n5, vI n6, sL (aD ak) 1 1, sL (aD bu) 3 3, sL (aD ay) 2 2] 26) :: ((ak, ce #[sL ey eh eh] 34) :: ((cu, ce #[sL (aD bd) 1 1, sL (aD bg) 2 2, sL (aD bh) 1 1, sL (aD bj) 1 1, sL none 0 0, sL none 0 0, sL none 0 0, sL none 0 0] 22) :: ((bd, ce #[vI 0] 3) :: ((bg, ce #[vI 0, vI 1] 3) :: ((bh, ce #[vI 1] 3) :: ((bj, ce #[vI 1] 3) :: ((ay, ce #[vI 0, vI 0, vI 0, vI 2, vI 0, vI 0] 32) :: ((bo, ce #[vI n3, vI n4, sL (aD ar) 1 1, sL (aD bc) 3 3, sL bk aa aa] 26) :: ((ar, ce #[sL (aD cq) 8 8] 34) :: ((cf, ce #[vI 0, vI 0, vI 0, vI 2, vI 0, vI 0] 32) :: ((aq, ce #[vI k6, vI (Int.tdiv (k6 + 1) 2), sL bl bm bn, sL av aw ax, sL (aD ao) (Int.toNat k6) (Int.toNat k6)] 26) :: (gj ++ (Lb742 ++ (br ++ (Lb715 ++ (bb ++ (ae ++ (Lb560 ++ []))))))))))))))))))) rfl ?_
     replace gp := gp.m1 cn
     replace jd := jd.m1 cn
     replace ng := ng.m1 cn
     replace tj := tj.m1 cn
     replace ab := ab.m1 cn
     replace ai := ai.mono (Ai kI kP) cn
     replace al := al.m2 cn
     replace ad := ad.m1 cn
     replace ah := ah.mono (Ai kI kP) cn
     replace aj := aj.m1 cn
     replace cj := cj.m2 cn
     have tk : At 1 eJ F781 (aD cq) 8 [[0], [0, 1], [1], [1], [], [], [], []] := At.Bd kJ (vss := [[sL (aD eg) [0].length 1], [sL (aD dk) [0, 1].length 2], [sL (aD da) [1].length 1], [sL (aD cy) [1].length 1], [sL none 0 0], [sL none 0 0], [sL none 0 0], [sL none 0 0]]) (xs := [[0], [0, 1], [1], [1], [], [], [], []]) hz783 (.cons ⟨_, _, rfl, gp⟩ (.cons ⟨_, _, rfl, jd⟩ (.cons ⟨_, _, rfl, ng⟩ (.cons ⟨_, _, rfl, tj⟩ (.cons ⟨_, _, rfl, At.nil _ _ _⟩ (.cons ⟨_, _, rfl, At.nil _ _ _⟩ (.cons ⟨_, _, rfl, At.nil _ _ _⟩ (.cons ⟨_, _, rfl, At.nil _ _ _⟩ .nil)))))))) rfl (by simp [maxLen])
     refine BN 9 rfl hb706 ?_; intro F785 dg hz787
     refine E5 (L' := (bw, ce #[vI n5, vI n6, sL (aD ak) 1 1, sL (aD bu) 3 3, sL (aD ay) 2 2] 26) :: ((ak, ce #[sL ey eh eh] 34) :: ((cu, ce #[sL (aD bd) 1 1, sL (aD bg) 2 2, sL (aD bh) 1 1, sL (aD bj) 1 1, sL none 0 0, sL none 0 0, sL none 0 0, sL none 0 0] 22) :: ((bd, ce #[vI 0] 3) :: ((bg, ce #[vI 0, vI 1] 3) :: ((bh, ce #[vI 1] 3) :: ((bj, ce #[vI 1] 3) :: ((ay, ce #[vI 0, vI 0, vI 0, vI 2, vI 0, vI 0] 32) :: ((bo, ce #[vI n3, vI n4, sL (aD ar) 1 1, sL (aD bc) 3 3, sL bk aa aa] 26) :: ((cf, ce #[vI 0, vI 0, vI 0, vI 2, vI 0, vI 0] 32) :: ((aq, ce #[vI k6, vI (Int.tdiv (k6 + 1) 2), sL bl bm bn, sL av aw ax, sL (aD ao) (Int.toNat k6) (Int.toNat k6)] 26) :: (gj ++ (Lb742 ++ (br ++ (Lb715 ++ (bb ++ (ae ++ (Lb560 ++ [])))))))))))))))))) rfl ?_
     replace tk := tk.m2 dg
     replace ab := ab.m1 dg
     replace ai := ai.mono (Ai kI kP) dg
     replace al := al.m2 dg
     replace ad := ad.m1 dg
     replace ah := ah.mono (Ai kI kP) dg
     replace aj := aj.m1 dg
     replace cj := cj.m2 dg
     have ez : At 1 (CM 1 eJ) F785 (aD ar) 1 [[[0], [0, 1], [1], [1], [], [], [], []]] := At.Bd (Ay kJ) (vss := [[sL (aD cq) [[0], [0, 1], [1], [1], [], [], [], []].length 8]]) (xs := [[[0], [0, 1], [1], [1], [], [], [], []]]) hz787 (.cons ⟨_, _, rfl, tk⟩ .nil) rfl (by simp [maxLen])
     obtain rfl := (AI.A1 cj).1
     refine Ih (Nat.le_refl _) kJ (fC (fC (fC (fC (fC (fC (fC (fC (fC (fC (fC fP))))))))))) cj ?_; intro F789 ej tm
     replace ez := ez.mono (Ay kJ) ej
     replace ab := ab.m1 ej
     replace ai := ai.mono (Ai kI kP) ej
     replace al := al.m2 ej
     replace ad := ad.m1 ej
     replace ah := ah.mono (Ai kI kP) ej
     replace aj := aj.m1 ej
     refine BN 1 rfl hb733 ?_; intro F792 dh hz794
     refine E5 (L' := (bw, ce #[vI n5, vI n6, sL (aD ak) 1 1, sL (aD bu) 3 3, sL (aD ay) 2 2] 26) :: ((cu, ce #[sL (aD bd) 1 1, sL (aD bg) 2 2, sL (aD bh) 1 1, sL (aD bj) 1 1, sL none 0 0, sL none 0 0, sL none 0 0, sL none 0 0] 22) :: ((bd, ce #[vI 0] 3) :: ((bg, ce #[vI 0, vI 1] 3) :: ((bh, ce #[vI 1] 3) :: ((bj, ce #[vI 1] 3) :: ((ay, ce #[vI 0, vI 0, vI 0, vI 2, vI 0, vI 0] 32) :: ((bo, ce (#[vI n3, vI n4, sL (aD ar) [[[0], [0, 1], [1], [1], [], [], [], []]].length 1, sL (aD bc) 3 3, sL bk aa aa]) 26) :: ((cf, ce #[vI 0, vI 0, vI 0, vI 2, vI 0, vI 0] 32) :: ((aq, ce #[vI k6, vI (Int.tdiv (k6 + 1) 2), sL bl bm bn, sL av aw ax, sL (aD ao) (Int.toNat k6) (Int.toNat k6)] 26) :: (Lb742 ++ (br ++ (Lb715 ++ (bb ++ (ae ++ (Lb560 ++ [])))))))))))))))) rfl ?_
     replace ez := ez.mono (Ay kJ) dh
     replace tm := tm.m2 dh
     replace ab := ab.m1 dh
     replace ai := ai.mono (Ai kI kP) dh
     replace al := al.m2 dh
     replace ad := ad.m1 dh
     replace ah := ah.mono (Ai kI kP) dh
     replace aj := aj.m1 dh
     have lk : At 1 (CM 1 eJ) F792 (aD ak) 1 [de] := At.Bd (Ay kJ) (vss := [[sL ey de.length de.length]]) (xs := [de]) hz794 (.cons ⟨_, _, rfl, tm⟩ .nil) rfl (by simp [maxLen])
     refine BN 6 rfl hb740 ?_; intro tn di hz798
     refine E5 (L' := (bw, ce (#[vI n5, vI n6, sL (aD ak) [de].length 1, sL (aD bu) 3 3, sL (aD ay) 2 2]) 26) :: ((cu, ce #[sL (aD bd) 1 1, sL (aD bg) 2 2, sL (aD bh) 1 1, sL (aD bj) 1 1, sL none 0 0, sL none 0 0, sL none 0 0, sL none 0 0] 22) :: ((bd, ce #[vI 0] 3) :: ((bg, ce #[vI 0, vI 1] 3) :: ((bh, ce #[vI 1] 3) :: ((bj, ce #[vI 1] 3) :: ((bo, ce (#[vI n3, vI n4, sL (aD ar) [[[0], [0, 1], [1], [1], [], [], [], []]].length 1, sL (aD bc) 3 3, sL bk aa aa]) 26) :: ((cf, ce #[vI 0, vI 0, vI 0, vI 2, vI 0, vI 0] 32) :: ((aq, ce #[vI k6, vI (Int.tdiv (k6 + 1) 2), sL bl bm bn, sL av aw ax, sL (aD ao) (Int.toNat k6) (Int.toNat k6)] 26) :: (Lb742 ++ (br ++ (Lb715 ++ (bb ++ (ae ++ (Lb560 ++ []))))))))))))))) rfl ?_
     replace ez := ez.mono (Ay kJ) di
     replace lk := lk.mono (Ay kJ) di
     replace ab := ab.m1 di
     replace ai := ai.mono (Ai kI kP) di
     replace al := al.m2 di
     replace ad := ad.m1 di
     replace ah := ah.mono (Ai kI kP) di
     replace aj := aj.m1 di
     have oz : At 3 (Br eI eP) tn (aD ay) 2 [(0, 0, 0), (2, 0, 0)] := At.Bd (Ai kI kP) (vss := [[vI 0, vI 0, vI 0], [vI 2, vI 0, vI 0]]) (xs := [(0, 0, 0), (2, 0, 0)]) hz798 (.cons ⟨_, _, rfl, rfl, ⟨_, _, rfl, rfl, rfl⟩⟩ (.cons ⟨_, _, rfl, rfl, ⟨_, _, rfl, rfl, rfl⟩⟩ .nil)) rfl (by simp [maxLen])
     by_cases db : k6 < 5
     ·have r801 := A2 h763 db
      obtain ⟨g802, r803⟩ := AF r801
      obtain ⟨tr, h804, r805⟩ := Az r803
      obtain ⟨p0, r807⟩ := AF r805
      obtain ⟨qf, h808, r809⟩ := Az r807
      obtain ⟨nh, r811⟩ := AF r809
      obtain ⟨qg, h813, r814⟩ := Az r811
      obtain ⟨p3, r816⟩ := AF r814
      obtain ⟨iq, h817, r818⟩ := Az r816
      obtain ⟨je, r820⟩ := AF r818
      obtain ⟨n7, n8, y10, y11, y12, h821, r822⟩ := Ez r820
      obtain ⟨tp, r836⟩ := AF r822
      obtain ⟨ir, h839, r840⟩ := Az r836
      obtain ⟨ni, r842⟩ := AF r840
      obtain ⟨iu, h844, r845⟩ := Az r842
      refine AA [(16, vI k6), (17, pO aq), (204, vI k6), (247, .agg (#[vI n3, vI n4, sL (aD ar) [[[0], [0, 1], [1], [1], [], [], [], []]].length 1, sL (aD bc) 3 3, sL (aD cf) 2 2])), (20, pO bo), (248, vI k6), (249, sL bk aa aa), (250, .pointer (some ⟨bo, 4, none⟩)), (251, .agg (#[vI n5, vI n6, sL (aD ak) [de].length 1, sL (aD bu) 3 3, sL (aD ay) [(0, 0, 0), (2, 0, 0)].length 2])), (21, pO bw), (252, .pointer (some ⟨bw, 2, none⟩)), (253, sL (aD ak) [de].length 1), (254, vI k6), (255, sL ey de.length de.length), (256, pO ak)] (sc rfl (sc rfl (sc rfl (sc rfl (sc rfl (sc rfl (sc rfl z8))))))) ?_
      refine OB [⟨[], 257, fun _ => .agg #[vI k6, vI (Int.tdiv (k6 + 1) 2), sL bl bm bn, sL av aw ax, sL (aD ao) (Int.toNat k6) (Int.toNat k6)], fun _ => []⟩, ⟨[], 258, fun _ => vI k6, fun _ => []⟩, ⟨[1], 259, fun _ => vI (k6 - 1), fun _ => []⟩, ⟨[0, 1, 2], 260, fun _ => .bool tr, fun _ => []⟩, ⟨[0, 1, 2, 3], 261, fun _ => .bool (!tr), fun _ => []⟩, ⟨[0, 1, 2, 3, 4], 262, fun _ => .bool (!tr), fun _ => []⟩, ⟨[0, 1, 2, 3, 4, 5], 263, fun _ => .agg (#[vI n3, vI n4, sL (aD ar) [[[0], [0, 1], [1], [1], [], [], [], []]].length 1, sL (aD bc) 3 3, sL bk aa aa]), fun _ => []⟩, ⟨[0, 1, 2, 3, 4, 5, 6], 264, fun _ => .bool qf, fun _ => []⟩, ⟨[0, 1, 2, 3, 4, 5, 6, 7], 265, fun _ => .bool (!qf), fun _ => []⟩, ⟨[0, 1, 2, 3, 4, 5, 6, 7, 8], 266, fun _ => .bool (!qf), fun _ => []⟩, ⟨[0, 1, 2, 3, 4, 5, 6, 7, 8, 9], 267, fun _ => .bool (!qf), fun _ => []⟩, ⟨[0, 1, 2, 3, 4, 5, 6, 7, 8, 9, 10], 268, fun _ => .agg (#[vI n3, vI n4, sL (aD ar) [[[0], [0, 1], [1], [1], [], [], [], []]].length 1, sL (aD bc) 3 3, sL bk aa aa]), fun _ => []⟩, ⟨[0, 1, 2, 3, 4, 5, 6, 7, 8, 9, 10], 269, fun β => sL (aD (β 12 0)) 3 3, fun β => [((β 12 0), ce #[vI 2, vI 3, vI 4] 3)]⟩, ⟨[0, 1, 2, 3, 4, 5, 6, 7, 8, 9, 10, 11, 12], 270, fun _ => .bool qg, fun _ => []⟩, ⟨[0, 1, 2, 3, 4, 5, 6, 7, 8, 9, 10, 11, 12, 13], 271, fun _ => .bool (!qg), fun _ => []⟩, ⟨[0, 1, 2, 3, 4, 5, 6, 7, 8, 9, 10, 11, 12, 13, 14], 272, fun _ => .bool (!qg), fun _ => []⟩, ⟨[0, 1, 2, 3, 4, 5, 6, 7, 8, 9, 10, 11, 12, 13, 14, 15], 273, fun _ => .bool (!qg), fun _ => []⟩, ⟨[0, 1, 2, 3, 4, 5, 6, 7, 8, 9, 10, 11, 12, 13, 14, 15, 16], 274, fun _ => .agg (#[vI n5, vI n6, sL (aD ak) [de].length 1, sL (aD bu) 3 3, sL (aD ay) [(0, 0, 0), (2, 0, 0)].length 2]), fun _ => []⟩, ⟨[0, 1, 2, 3, 4, 5, 6, 7, 8, 9, 10, 11, 12, 13, 14, 15, 16, 17], 275, fun _ => .bool iq, fun _ => []⟩, ⟨[0, 1, 2, 3, 4, 5, 6, 7, 8, 9, 10, 11, 12, 13, 14, 15, 16, 17, 18], 276, fun _ => .bool (!iq), fun _ => []⟩, ⟨[0, 1, 2, 3, 4, 5, 6, 7, 8, 9, 10, 11, 12, 13, 14, 15, 16, 17, 18, 19], 277, fun _ => .bool (!iq), fun _ => []⟩, ⟨[0, 1, 2, 3, 4, 5, 6, 7, 8, 9, 10, 11, 12, 13, 14, 15, 16, 17, 18, 19, 20], 278, fun _ => .bool (!iq), fun _ => []⟩, ⟨[0, 1, 2, 3, 4, 5, 6, 7, 8, 9, 10, 11, 12, 13, 14, 15, 16, 17, 18, 19, 20, 21], 279, fun β => .agg #[vI n7, vI n8, sL (aD (β 22 0)) 1 1, sL (aD (β 22 6)) 3 3, sL (aD (β 22 7)) 2 2], fun β => [((β 22 0), ce #[sL (aD (β 22 1)) 8 8] 34), ((β 22 1), ce #[sL (aD (β 22 2)) 1 1, sL (aD (β 22 3)) 2 2, sL (aD (β 22 4)) 1 1, sL (aD (β 22 5)) 1 1, sL none 0 0, sL none 0 0, sL none 0 0, sL none 0 0] 22), ((β 22 2), ce #[vI 0] 3), ((β 22 3), ce #[vI 0, vI 1] 3), ((β 22 4), ce #[vI 1] 3), ((β 22 5), ce #[vI 1] 3), ((β 22 6), ce #[vI 1, vI (-1), vI 4] 3), ((β 22 7), ce #[vI 0, vI 0, vI 0, vI 2, vI 0, vI 0] 32)]⟩, ⟨[0, 1, 2, 3, 4, 5, 6, 7, 8, 9, 10, 11, 12, 13, 14, 15, 16, 17, 18, 19, 20, 21], 280, fun _ => vI k6, fun _ => []⟩, ⟨[0, 1, 2, 3, 4, 5, 6, 7, 8, 9, 10, 11, 12, 13, 14, 15, 16, 17, 18, 19, 20, 21, 23], 281, fun β => sL (aD (β 24 0)) (Int.toNat k6) (Int.toNat k6), fun β => [((β 24 0), ce (madeCells (.agg #[vI 0, vI 0, .bool false] : Value).cells ((Int.toNat k6) * 3)) 29)]⟩, ⟨[0, 1, 2, 3, 4, 5, 6, 7, 8, 9, 10, 11, 12, 13, 14, 15, 16, 17, 18, 19, 20, 21], 282, fun β => sL (aD (β 25 0)) 3 3, fun β => [((β 25 0), ce #[vI 2, vI 2, vI 3] 3)]⟩, ⟨[0, 1, 2, 3, 4, 5, 6, 7, 8, 9, 10, 11, 12, 13, 14, 15, 16, 17, 18, 19, 20, 21, 22, 23, 24, 25], 283, fun _ => .bool ir, fun _ => []⟩, ⟨[0, 1, 2, 3, 4, 5, 6, 7, 8, 9, 10, 11, 12, 13, 14, 15, 16, 17, 18, 19, 20, 21, 22, 23, 24, 25, 26], 284, fun _ => .bool (!ir), fun _ => []⟩, ⟨[0, 1, 2, 3, 4, 5, 6, 7, 8, 9, 10, 11, 12, 13, 14, 15, 16, 17, 18, 19, 20, 21, 22, 23, 24, 25, 26, 27], 285, fun _ => .bool (!ir), fun _ => []⟩, ⟨[0, 1, 2, 3, 4, 5, 6, 7, 8, 9, 10, 11, 12, 13, 14, 15, 16, 17, 18, 19, 20, 21, 22, 23, 24, 25, 26, 27, 28], 286, fun _ => .bool (!ir), fun _ => []⟩, ⟨[0, 1, 2, 3, 4, 5, 6, 7, 8, 9, 10, 11, 12, 13, 14, 15, 16, 17, 18, 19, 20, 21, 22, 23, 24, 25, 26, 27, 28, 29], 287, fun _ => vI k6, fun _ => []⟩, ⟨[0, 1, 2, 3, 4, 5, 6, 7, 8, 9, 10, 11, 12, 13, 14, 15, 16, 17, 18, 19, 20, 21, 22, 23, 24, 25, 26, 27, 28, 29, 30], 288, fun _ => .bool (decide (k6 < 5)), fun _ => []⟩, ⟨[0, 1, 2, 3, 4, 5, 6, 7, 8, 9, 10, 11, 12, 13, 14, 15, 16, 17, 18, 19, 20, 21, 22, 23, 24, 25, 26, 27, 28, 29, 30, 31], 289, fun _ => .bool (decide (k6 < 5)), fun _ => []⟩, ⟨[0, 1, 2, 3, 4, 5, 6, 7, 8, 9, 10, 11, 12, 13, 14, 15, 16, 17, 18, 19, 20, 21, 22, 23, 24, 25, 26, 27, 28, 29, 30, 31, 32], 290, fun _ => .agg #[vI k6, vI (Int.tdiv (k6 + 1) 2), sL bl bm bn, sL av aw ax, sL (aD ao) (Int.toNat k6) (Int.toNat k6)], fun _ => []⟩, ⟨[0, 1, 2, 3, 4, 5, 6, 7, 8, 9, 10, 11, 12, 13, 14, 15, 16, 17, 18, 19, 20, 21, 22, 23, 24, 25, 26, 27, 28, 29, 30, 31, 32], 291, fun _ => vI k6, fun _ => []⟩, ⟨[0, 1, 2, 3, 4, 5, 6, 7, 8, 9, 10, 11, 12, 13, 14, 15, 16, 17, 18, 19, 20, 21, 22, 23, 24, 25, 26, 27, 28, 29, 30, 31, 32, 34], 292, fun _ => vI (k6 - 1), fun _ => []⟩, ⟨[0, 1, 2, 3, 4, 5, 6, 7, 8, 9, 10, 11, 12, 13, 14, 15, 16, 17, 18, 19, 20, 21, 22, 23, 24, 25, 26, 27, 28, 29, 30, 31, 32, 34, 35], 293, fun β => sL (aD (β 36 0)) 1 1, fun β => [((β 36 0), ce #[vI (k6 - 1)] 3)]⟩, ⟨[0, 1, 2, 3, 4, 5, 6, 7, 8, 9, 10, 11, 12, 13, 14, 15, 16, 17, 18, 19, 20, 21, 22, 23, 24, 25, 26, 27, 28, 29, 30, 31, 32, 33, 34, 35, 36], 294, fun _ => .bool iu, fun _ => []⟩, ⟨[0, 1, 2, 3, 4, 5, 6, 7, 8, 9, 10, 11, 12, 13, 14, 15, 16, 17, 18, 19, 20, 21, 22, 23, 24, 25, 26, 27, 28, 29, 30, 31, 32, 33, 34, 35, 36, 37], 295, fun _ => .bool (!iu), fun _ => []⟩, ⟨[0, 1, 2, 3, 4, 5, 6, 7, 8, 9, 10, 11, 12, 13, 14, 15, 16, 17, 18, 19, 20, 21, 22, 23, 24, 25, 26, 27, 28, 29, 30, 31, 32, 33, 34, 35, 36, 37, 38], 296, fun _ => .bool (!iu), fun _ => []⟩, ⟨[0, 1, 2, 3, 4, 5, 6, 7, 8, 9, 10, 11, 12, 13, 14, 15, 16, 17, 18, 19, 20, 21, 22, 23, 24, 25, 26, 27, 28, 29, 30, 31, 32, 33, 34, 35, 36, 37, 38, 39], 297, fun _ => .bool (!iu), fun _ => []⟩] (by kernel_rfl) (by kernel_rfl) (.cons ?_ (.cons ?_ (.cons ?_ (.cons ?_ (.cons ?_ (.cons ?_ (.cons ?_ (.cons ?_ (.cons ?_ (.cons ?_ (.cons ?_ (.cons ?_ (.cons ?_ (.cons ?_ (.cons ?_ (.cons ?_ (.cons ?_ (.cons ?_ (.cons ?_ (.cons ?_ (.cons ?_ (.cons ?_ (.cons ?_ (.cons ?_ (.cons ?_ (.cons ?_ (.cons ?_ (.cons ?_ (.cons ?_ (.cons ?_ (.cons ?_ (.cons ?_ (.cons ?_ (.cons ?_ (.cons ?_ (.cons ?_ (.cons ?_ (.cons ?_ (.cons ?_ (.cons ?_ (.cons ?_ .nil))))))))))))))))))))))))))))))))))))))))) ?_
      ·refine ⟨fun β au h => by simp (disch := simp) only [and_self], _, rfl, fun β Lr Q hk => ?_⟩
       refine AB (lb (lb (lb (lb (lb (lb (lb (lb (lb (lp (lp (lp (lp (lp (lp (ln rfl)))))))))))))))) (uv (Cv isAgg26 sizeOf26 8) ?_)
       refine Aa ⟨rfl, _, rfl, hk (fun _ => K.w0.heap.size) (fun _ => Nat.le_refl _) _ (pT pR (lb (lb (lb (lb (lb (lb (lb (lb (lb (lp (lp (lp (lp (lp (lp (ln rfl)))))))))))))))))⟩
      ·refine ⟨fun β au h => by simp (disch := simp) only [and_self], _, rfl, fun β Lr Q hk => ?_⟩
       refine AB (lb (lb (lb (lb (lb (lb (lb (lb (lb (lp (lp (lp (lp (lp (lp (ln rfl)))))))))))))))) (um ?_)
       refine Aa ⟨rfl, _, rfl, hk (fun _ => K.w0.heap.size) (fun _ => Nat.le_refl _) _ (pT pR (lb (lb (lb (lb (lb (lb (lb (lb (lb (lp (lp (lp (lp (lp (lp (ln rfl)))))))))))))))))⟩
      ·refine ⟨fun β au h => by simp (disch := simp) only [and_self], _, rfl, fun β Lr Q hk => ?_⟩
       refine AB (lb (lb (lb (lb (lb (lb (lb (lb (lb (lp (lp (lp (lp (lp (lp (ln rfl)))))))))))))))) (uv (EU rfl rfl g802) ?_)
       refine Aa ⟨rfl, _, rfl, hk (fun _ => K.w0.heap.size) (fun _ => Nat.le_refl _) _ (pT pR (lb (lb (lb (lb (lb (lb (lb (lb (lb (lp (lp (lp (lp (lp (lp (ln rfl)))))))))))))))))⟩
      ·refine ⟨fun β au h => by simp (disch := simp) only [and_self], _, rfl, fun β Lr Q hk => ?_⟩
       refine AB (lb (lb (lb (lb (lb (lb (lb (lb (lb (lp (lp (lp (lp (lp (lp (ln rfl)))))))))))))))) ?_
       refine Bh rfl call5 rfl rfl rfl (pT ((fC (fC (fC (fC (fC (fC (fC (fC (fC (fS (fS (fS fP)))))))))))).trans (pA ((fC (fC (fC (fC (fC (fC (fC (fC (fC (fS (fS (fS fP)))))))))))).trans (pA ((fC (fC (fC (fC (fC (fC (fC (fC (fC (fS (fS (fS fP)))))))))))).trans (pA pR)))))) (lp (lp (lp (ln rfl))))) (fun F2 h2 h3 => by have h0 := BW (al.row kJ h2 (aL h3)) (ab.row kI h2 (aL (aR h3))) (ai.row (Ai kI kP) h2 (aL (aR (aR h3)))) h804; rw [← (Ev.A1 al).1] at h0; rw [← (AI.A1 ab).1] at h0; rw [← (AI.A1 ai).1] at h0; exact h0) ?_
       refine Aa ⟨rfl, _, rfl, hk (fun _ => K.w0.heap.size) (fun _ => Nat.le_refl _) _ (pT pR (lb (lb (lb (lb (lb (lb (lb (lb (lb (lp (lp (lp (lp (lp (lp (ln rfl)))))))))))))))))⟩
      ·refine ⟨fun β au h => by simp (disch := simp) only [and_self], _, rfl, fun β Lr Q hk => ?_⟩
       refine AB (lb (lb (lb (lb (lb (lb (lb (lb (lb (lp (lp (lp (lp (lp (lp (ln rfl)))))))))))))))) (uv (Bo rfl) ?_)
       refine Aa ⟨rfl, _, rfl, hk (fun _ => K.w0.heap.size) (fun _ => Nat.le_refl _) _ (pT pR (lb (lb (lb (lb (lb (lb (lb (lb (lb (lp (lp (lp (lp (lp (lp (ln rfl)))))))))))))))))⟩
      ·refine ⟨fun β au h => by simp (disch := simp) only [and_self], _, rfl, fun β Lr Q hk => ?_⟩
       refine AB (lb (lb (lb (lb (lb (lb (lb (lb (lb (lp (lp (lp (lp (lp (lp (ln rfl)))))))))))))))) (um ?_)
       refine Aa ⟨rfl, _, rfl, hk (fun _ => K.w0.heap.size) (fun _ => Nat.le_refl _) _ (pT pR (lb (lb (lb (lb (lb (lb (lb (lb (lb (lp (lp (lp (lp (lp (lp (ln rfl)))))))))))))))))⟩
      ·refine ⟨fun β au h => by simp (disch := simp) only [and_self], _, rfl, fun β Lr Q hk => ?_⟩
       refine AB (lb (lb (lb (lb (lb (lb (lb (lb (lb (lp (lp (lp (lp (lp (lp (ln rfl)))))))))))))))) (nB p0 (uv (Cv isAgg26 sizeOf26 6) ?_))
       refine Aa ⟨rfl, _, rfl, hk (fun _ => K.w0.heap.size) (fun _ => Nat.le_refl _) _ (pT pR (lb (lb (lb (lb (lb (lb (lb (lb (lb (lp (lp (lp (lp (lp (lp (ln rfl)))))))))))))))))⟩
      ·refine ⟨fun β au h => by simp (disch := simp) only [and_self], _, rfl, fun β Lr Q hk => ?_⟩
       refine AB (lb (lb (lb (lb (lb (lb (lb (lb (lb (lp (lp (lp (lp (lp (lp (ln rfl)))))))))))))))) (nB p0 ?_)
       refine Bh rfl call5 rfl rfl rfl (pT ((fC (fC (fC (fC (fC (fC (fC (fC (fC (fS (fS fP))))))))))).trans (pA ((fC (fC (fC (fC (fC (fC (fC (fC (fC (fS fP)))))))))).trans (pA pR)))) (lp (lp (ln rfl)))) (fun F2 h2 h3 => by have h0 := BW (ez.mono (Ay kJ) h2) (ad.row kI h2 (aL h3)) (ah.row (Ai kI kP) h2 (aL (aR h3))) h808; rw [← (AI.A1 ad).1] at h0; rw [← (AI.A1 ah).1] at h0; exact h0) ?_
       refine Aa ⟨rfl, _, rfl, hk (fun _ => K.w0.heap.size) (fun _ => Nat.le_refl _) _ (pT pR (lb (lb (lb (lb (lb (lb (lb (lb (lb (lp (lp (lp (lp (lp (lp (ln rfl)))))))))))))))))⟩
      ·refine ⟨fun β au h => by simp (disch := simp) only [and_self], _, rfl, fun β Lr Q hk => ?_⟩
       refine AB (lb (lb (lb (lb (lb (lb (lb (lb (lb (lp (lp (lp (lp (lp (lp (ln rfl)))))))))))))))) (nB p0 (uv (Bo rfl) ?_))
       refine Aa ⟨rfl, _, rfl, hk (fun _ => K.w0.heap.size) (fun _ => Nat.le_refl _) _ (pT pR (lb (lb (lb (lb (lb (lb (lb (lb (lb (lp (lp (lp (lp (lp (lp (ln rfl)))))))))))))))))⟩
      ·refine ⟨fun β au h => by simp (disch := simp) only [and_self], _, rfl, fun β Lr Q hk => ?_⟩
       refine AB (lb (lb (lb (lb (lb (lb (lb (lb (lb (lp (lp (lp (lp (lp (lp (ln rfl)))))))))))))))) (uv (AE (FK rfl p0) rfl) ?_)
       refine Aa ⟨rfl, _, rfl, hk (fun _ => K.w0.heap.size) (fun _ => Nat.le_refl _) _ (pT pR (lb (lb (lb (lb (lb (lb (lb (lb (lb (lp (lp (lp (lp (lp (lp (ln rfl)))))))))))))))))⟩
      ·refine ⟨fun β au h => by simp (disch := simp) only [and_self], _, rfl, fun β Lr Q hk => ?_⟩
       refine AB (lb (lb (lb (lb (lb (lb (lb (lb (lb (lp (lp (lp (lp (lp (lp (ln rfl)))))))))))))))) (um ?_)
       refine Aa ⟨rfl, _, rfl, hk (fun _ => K.w0.heap.size) (fun _ => Nat.le_refl _) _ (pT pR (lb (lb (lb (lb (lb (lb (lb (lb (lb (lp (lp (lp (lp (lp (lp (ln rfl)))))))))))))))))⟩
      ·refine ⟨fun β au h => by simp (disch := simp) only [and_self], _, rfl, fun β Lr Q hk => ?_⟩
       refine AB (lb (lb (lb (lb (lb (lb (lb (lb (lb (lp (lp (lp (lp (lp (lp (ln rfl)))))))))))))))) (nB nh (uv (Cv isAgg26 sizeOf26 6) ?_))
       refine Aa ⟨rfl, _, rfl, hk (fun _ => K.w0.heap.size) (fun _ => Nat.le_refl _) _ (pT pR (lb (lb (lb (lb (lb (lb (lb (lb (lb (lp (lp (lp (lp (lp (lp (ln rfl)))))))))))))))))⟩
      ·refine ⟨fun β au h => by simp (disch := simp) only [h, and_self], _, rfl, fun β Lr Q hk => ?_⟩
       refine AB (lb (lb (lb (lb (lb (lb (lb (lb (lb (lp (lp (lp (lp (lp (lp (ln rfl)))))))))))))))) (nB nh ?_)
       refine bA (cs := #[vI 2, vI 3, vI 4]) Bm [vI 2, vI 3, vI 4] ?_; intro b862 hb862
       refine Aa ⟨rfl, _, rfl, hk (fun _ => b862) (fun _ => hb862) _ (pT pR (lb (lb (lb (lb (lb (lb (lb (lb (lb (lb (lp (lp (lp (lp (lp (lp (ln rfl))))))))))))))))))⟩
      ·refine ⟨fun β au h => by simp (disch := simp) only [and_self], _, rfl, fun β Lr Q hk => ?_⟩
       refine AB (lb (lb (lb (lb (lb (lb (lb (lb (lb (lp (lp (lp (lp (lp (lp (ln rfl)))))))))))))))) (kO (kc (kc (kc (kc (kc (kc (kc (kc (kc (kf (fS (fS (fS (fS (fS (fS fO)))))) kr)))))))))) (nB nh ?_))
       refine Bh rfl call6 rfl rfl rfl (pT ((fC (fC (fC (fC (fC (fC (fC (fC (fC (fC (fS (fS fP)))))))))))).trans (pA ((fC (fC (fC (fC (fC (fC (fC (fC (fC (fC (fS fP))))))))))).trans (pA ((fC (fC (fC (fC (fC (fC (fC (fC (fC fO))))))))).trans (pC pR)))))) (lp (lp (lb (ln rfl))))) (fun F2 h2 h3 => by have h0 := Eb (ez.mono (Ay kJ) h2) (ad.row kI h2 (aL h3)) (ah.row (Ai kI kP) h2 (aL (aR h3))) (At.Bd kI (vss := [[vI 2], [vI 3], [vI 4]]) (xs := ([2, 3, 4] : List Int)) (h3 ((β 12 0), ce #[vI 2, vI 3, vI 4] 3) (List.mem_append_right _ (List.mem_append_right _ mz))) (.cons rfl (.cons rfl (.cons rfl .nil))) rfl (by simp [maxLen])) h813; rw [← (AI.A1 ad).1] at h0; rw [← (AI.A1 ah).1] at h0; exact h0) ?_
       refine Aa ⟨rfl, _, rfl, hk (fun _ => K.w0.heap.size) (fun _ => Nat.le_refl _) _ (pT (pC (pC (pC (pC (pC (pC (pC (pC (pC ((fC fP).trans (pA ((fC fP).trans (pA ((fC fP).trans (pA ((fC fP).trans (pA ((fC fP).trans (pA ((fC fP).trans (pA pR))))))))))))))))))))) (lb (lb (lb (lb (lb (lb (lb (lb (lb (lp (lp (lp (lp (lp (lp (ln rfl)))))))))))))))))⟩
      ·refine ⟨fun β au h => by simp (disch := simp) only [and_self], _, rfl, fun β Lr Q hk => ?_⟩
       refine AB (lb (lb (lb (lb (lb (lb (lb (lb (lb (lp (lp (lp (lp (lp (lp (ln rfl)))))))))))))))) (kO (kc (kc (kc (kc (kc (kc (kc (kc (kc (kf (fS (fS (fS (fS (fS (fS fO)))))) kr)))))))))) (nB nh (uv (Bo rfl) ?_)))
       refine Aa ⟨rfl, _, rfl, hk (fun _ => K.w0.heap.size) (fun _ => Nat.le_refl _) _ (pT (pC (pC (pC (pC (pC (pC (pC (pC (pC ((fC fP).trans (pA ((fC fP).trans (pA ((fC fP).trans (pA ((fC fP).trans (pA ((fC fP).trans (pA ((fC fP).trans (pA pR))))))))))))))))))))) (lb (lb (lb (lb (lb (lb (lb (lb (lb (lp (lp (lp (lp (lp (lp (ln rfl)))))))))))))))))⟩
      ·refine ⟨fun β au h => by simp (disch := simp) only [and_self], _, rfl, fun β Lr Q hk => ?_⟩
       refine AB (lb (lb (lb (lb (lb (lb (lb (lb (lb (lp (lp (lp (lp (lp (lp (ln rfl)))))))))))))))) (kO (kc (kc (kc (kc (kc (kc (kc (kc (kc (kf (fS (fS (fS (fS (fS (fS fO)))))) kr)))))))))) (uv (AE (FK rfl nh) rfl) ?_))
       refine Aa ⟨rfl, _, rfl, hk (fun _ => K.w0.heap.size) (fun _ => Nat.le_refl _) _ (pT (pC (pC (pC (pC (pC (pC (pC (pC (pC ((fC fP).trans (pA ((fC fP).trans (pA ((fC fP).trans (pA ((fC fP).trans (pA ((fC fP).trans (pA ((fC fP).trans (pA pR))))))))))))))))))))) (lb (lb (lb (lb (lb (lb (lb (lb (lb (lp (lp (lp (lp (lp (lp (ln rfl)))))))))))))))))⟩
      ·refine ⟨fun β au h => by simp (disch := simp) only [and_self], _, rfl, fun β Lr Q hk => ?_⟩
       refine AB (lb (lb (lb (lb (lb (lb (lb (lb (lb (lp (lp (lp (lp (lp (lp (ln rfl)))))))))))))))) (kO (kc (kc (kc (kc (kc (kc (kc (kc (kc (kf (fS (fS (fS (fS (fS (fS fO)))))) kr)))))))))) (um ?_))
       refine Aa ⟨rfl, _, rfl, hk (fun _ => K.w0.heap.size) (fun _ => Nat.le_refl _) _ (pT (pC (pC (pC (pC (pC (pC (pC (pC (pC ((fC fP).trans (pA ((fC fP).trans (pA ((fC fP).trans (pA ((fC fP).trans (pA ((fC fP).trans (pA ((fC fP).trans (pA pR))))))))))))))))))))) (lb (lb (lb (lb (lb (lb (lb (lb (lb (lp (lp (lp (lp (lp (lp (ln rfl)))))))))))))))))⟩
      ·refine ⟨fun β au h => by simp (disch := simp) only [and_self], _, rfl, fun β Lr Q hk => ?_⟩
       refine AB (lb (lb (lb (lb (lb (lb (lb (lb (lb (lp (lp (lp (lp (lp (lp (ln rfl)))))))))))))))) (kO (kc (kc (kc (kc (kc (kc (kc (kc (kc (kf (fS (fS (fS (fS (fS (fS fO)))))) kr)))))))))) (nB p3 (uv (Cv isAgg26 sizeOf26 0) ?_)))
       refine Aa ⟨rfl, _, rfl, hk (fun _ => K.w0.heap.size) (fun _ => Nat.le_refl _) _ (pT (pC (pC (pC (pC (pC (pC (pC (pC (pC ((fC fP).trans (pA ((fC fP).trans (pA ((fC fP).trans (pA ((fC fP).trans (pA ((fC fP).trans (pA ((fC fP).trans (pA pR))))))))))))))))))))) (lb (lb (lb (lb (lb (lb (lb (lb (lb (lp (lp (lp (lp (lp (lp (ln rfl)))))))))))))))))⟩
      ·refine ⟨fun β au h => by simp (disch := simp) only [and_self], _, rfl, fun β Lr Q hk => ?_⟩
       refine AB (lb (lb (lb (lb (lb (lb (lb (lb (lb (lp (lp (lp (lp (lp (lp (ln rfl)))))))))))))))) (kO (kc (kc (kc (kc (kc (kc (kc (kc (kc (kf (fS (fS (fS (fS (fS (fS fO)))))) kr)))))))))) (nB p3 ?_))
       refine Bh rfl call5 rfl rfl rfl (pT ((fC (fC (fC (fC (fC (fC (fC (fC (fC (fC fP)))))))))).trans (pA pR)) (lp (ln rfl))) (fun F2 h2 h3 => by have h0 := BW (lk.mono (Ay kJ) h2) (aj.row kI h2 (aL h3)) (oz.mono (Ai kI kP) h2) h817; rw [← (AI.A1 aj).1] at h0; exact h0) ?_
       refine Aa ⟨rfl, _, rfl, hk (fun _ => K.w0.heap.size) (fun _ => Nat.le_refl _) _ (pT (pC (pC (pC (pC (pC (pC (pC (pC (pC ((fC fP).trans (pA ((fC fP).trans (pA ((fC fP).trans (pA ((fC fP).trans (pA ((fC fP).trans (pA ((fC fP).trans (pA pR))))))))))))))))))))) (lb (lb (lb (lb (lb (lb (lb (lb (lb (lp (lp (lp (lp (lp (lp (ln rfl)))))))))))))))))⟩
      ·refine ⟨fun β au h => by simp (disch := simp) only [and_self], _, rfl, fun β Lr Q hk => ?_⟩
       refine AB (lb (lb (lb (lb (lb (lb (lb (lb (lb (lp (lp (lp (lp (lp (lp (ln rfl)))))))))))))))) (kO (kc (kc (kc (kc (kc (kc (kc (kc (kc (kf (fS (fS (fS (fS (fS (fS fO)))))) kr)))))))))) (nB p3 (uv (Bo rfl) ?_)))
       refine Aa ⟨rfl, _, rfl, hk (fun _ => K.w0.heap.size) (fun _ => Nat.le_refl _) _ (pT (pC (pC (pC (pC (pC (pC (pC (pC (pC ((fC fP).trans (pA ((fC fP).trans (pA ((fC fP).trans (pA ((fC fP).trans (pA ((fC fP).trans (pA ((fC fP).trans (pA pR))))))))))))))))))))) (lb (lb (lb (lb (lb (lb (lb (lb (lb (lp (lp (lp (lp (lp (lp (ln rfl)))))))))))))))))⟩
      ·refine ⟨fun β au h => by simp (disch := simp) only [and_self], _, rfl, fun β Lr Q hk => ?_⟩
       refine AB (lb (lb (lb (lb (lb (lb (lb (lb (lb (lp (lp (lp (lp (lp (lp (ln rfl)))))))))))))))) (kO (kc (kc (kc (kc (kc (kc (kc (kc (kc (kf (fS (fS (fS (fS (fS (fS fO)))))) kr)))))))))) (uv (AE (FK rfl p3) rfl) ?_))
       refine Aa ⟨rfl, _, rfl, hk (fun _ => K.w0.heap.size) (fun _ => Nat.le_refl _) _ (pT (pC (pC (pC (pC (pC (pC (pC (pC (pC ((fC fP).trans (pA ((fC fP).trans (pA ((fC fP).trans (pA ((fC fP).trans (pA ((fC fP).trans (pA ((fC fP).trans (pA pR))))))))))))))))))))) (lb (lb (lb (lb (lb (lb (lb (lb (lb (lp (lp (lp (lp (lp (lp (ln rfl)))))))))))))))))⟩
      ·refine ⟨fun β au h => by simp (disch := simp) only [and_self], _, rfl, fun β Lr Q hk => ?_⟩
       refine AB (lb (lb (lb (lb (lb (lb (lb (lb (lb (lp (lp (lp (lp (lp (lp (ln rfl)))))))))))))))) (kO (kc (kc (kc (kc (kc (kc (kc (kc (kc (kf (fS (fS (fS (fS (fS (fS fO)))))) kr)))))))))) (um ?_))
       refine Aa ⟨rfl, _, rfl, hk (fun _ => K.w0.heap.size) (fun _ => Nat.le_refl _) _ (pT (pC (pC (pC (pC (pC (pC (pC (pC (pC ((fC fP).trans (pA ((fC fP).trans (pA ((fC fP).trans (pA ((fC fP).trans (pA ((fC fP).trans (pA ((fC fP).trans (pA pR))))))))))))))))))))) (lb (lb (lb (lb (lb (lb (lb (lb (lb (lp (lp (lp (lp (lp (lp (ln rfl)))))))))))))))))⟩
      ·refine ⟨fun β au h => by simp (disch := simp) only [h, and_self], _, rfl, fun β Lr Q hk => ?_⟩
       refine AB (lb (lb (lb (lb (lb (lb (lb (lb (lb (lp (lp (lp (lp (lp (lp (ln rfl)))))))))))))))) (kO (kc (kc (kc (kc (kc (kc (kc (kc (kc (kf (fS (fS (fS (fS (fS (fS fO)))))) kr)))))))))) (nB je ?_))
       refine c0 call4 (D7 h821) ?_; rintro _ _ _ hF864 et ⟨b867, b868, b869, b870, b871, b872, b873, b874, rfl, rfl, rfl⟩
       have hb867 := et _ mz
       have hb868 := et _ (my mz)
       have hb869 := et _ (my (my mz))
       have hb870 := et _ (my (my (my mz)))
       have hb871 := et _ (my (my (my (my mz))))
       have hb872 := et _ (my (my (my (my (my mz)))))
       have hb873 := et _ (my (my (my (my (my (my mz))))))
       have hb874 := et _ (my (my (my (my (my (my (my mz)))))))
       refine AB (lb (lb (lb (lb (lb (lb (lb (lb (ln rfl))))))))) ?_
       refine Aa ⟨rfl, _, rfl, hk (fun k => [b867, b868, b869, b870, b871, b872, b873, b874].getD k K.w0.heap.size) (Th (fc hb867 (fc hb868 (fc hb869 (fc hb870 (fc hb871 (fc hb872 (fc hb873 (fc hb874 (fun _ h => nomatch h)))))))))) _ (pT (pC (pC (pC (pC (pC (pC (pC (pC (pC (pC (pC (pC (pC (pC (pC (pC (pC ((fC fP).trans (pA ((fC fP).trans (pA ((fC fP).trans (pA ((fC fP).trans (pA ((fC fP).trans (pA ((fC fP).trans (pA pR))))))))))))))))))))))))))))) (lb (lb (lb (lb (lb (lb (lb (lb (lb (lb (lb (lb (lb (lb (lb (lb (lb (lp (lp (lp (lp (lp (lp (ln rfl)))))))))))))))))))))))))⟩
      ·refine ⟨fun β au h => by simp (disch := simp) only [and_self], _, rfl, fun β Lr Q hk => ?_⟩
       refine AB (lb (lb (lb (lb (lb (lb (lb (lb (lb (lp (lp (lp (lp (lp (lp (ln rfl)))))))))))))))) (kO (kc (kc (kc (kc (kc (kc (kc (kc (kc (kf (fS (fS (fS (fS (fS (fS fO)))))) kr)))))))))) ?_)
       refine nB je (um ?_)
       refine Aa ⟨rfl, _, rfl, hk (fun _ => K.w0.heap.size) (fun _ => Nat.le_refl _) _ (pT (pC (pC (pC (pC (pC (pC (pC (pC (pC ((fC fP).trans (pA ((fC fP).trans (pA ((fC fP).trans (pA ((fC fP).trans (pA ((fC fP).trans (pA ((fC fP).trans (pA pR))))))))))))))))))))) (lb (lb (lb (lb (lb (lb (lb (lb (lb (lp (lp (lp (lp (lp (lp (ln rfl)))))))))))))))))⟩
      ·refine ⟨fun β au h => by simp (disch := simp) only [h, and_self], _, rfl, fun β Lr Q hk => ?_⟩
       refine AB (lb (lb (lb (lb (lb (lb (lb (lb (lb (lp (lp (lp (lp (lp (lp (ln rfl)))))))))))))))) (kO (kc (kc (kc (kc (kc (kc (kc (kc (kc (kf (fS (fS (fS (fS (fS (fS fO)))))) kr)))))))))) (nB je ?_))
       refine RX rfl (NP K8 (by decide) rfl tp) ?_; intro b875 hb875
       refine AB rfl ?_
       refine Aa ⟨rfl, _, rfl, hk (fun _ => b875) (fun _ => hb875) _ (pT (pC (pC (pC (pC (pC (pC (pC (pC (pC (pC ((fC fP).trans (pA ((fC fP).trans (pA ((fC fP).trans (pA ((fC fP).trans (pA ((fC fP).trans (pA ((fC fP).trans (pA pR)))))))))))))))))))))) (lb (lb (lb (lb (lb (lb (lb (lb (lb (lb (lp (lp (lp (lp (lp (lp (ln rfl))))))))))))))))))⟩
      ·refine ⟨fun β au h => by simp (disch := simp) only [h, and_self], _, rfl, fun β Lr Q hk => ?_⟩
       refine AB (lb (lb (lb (lb (lb (lb (lb (lb (lb (lp (lp (lp (lp (lp (lp (ln rfl)))))))))))))))) (kO (kc (kc (kc (kc (kc (kc (kc (kc (kc (kf (fS (fS (fS (fS (fS (fS fO)))))) kr)))))))))) (nB je ?_))
       refine bA (cs := #[vI 2, vI 2, vI 3]) Bm [vI 2, vI 2, vI 3] ?_; intro b876 hb876
       refine Aa ⟨rfl, _, rfl, hk (fun _ => b876) (fun _ => hb876) _ (pT (pC (pC (pC (pC (pC (pC (pC (pC (pC (pC ((fC fP).trans (pA ((fC fP).trans (pA ((fC fP).trans (pA ((fC fP).trans (pA ((fC fP).trans (pA ((fC fP).trans (pA pR)))))))))))))))))))))) (lb (lb (lb (lb (lb (lb (lb (lb (lb (lb (lp (lp (lp (lp (lp (lp (ln rfl))))))))))))))))))⟩
      ·refine ⟨fun β au h => by simp (disch := simp) only [and_self], _, rfl, fun β Lr Q hk => ?_⟩
       refine AB (lb (lb (lb (lb (lb (lb (lb (lb (lb (lp (lp (lp (lp (lp (lp (ln rfl)))))))))))))))) (kO (kc (kc (kc (kc (kc (kc (kc (kc (kc (kf (fS (fS (fS (fS (fS (fS fO)))))) (kf (fS (fS (fS (fS (fS (fS fO)))))) (kf (fS (fS (fS (fS (fS (fS fO)))))) (kf (fS (fS (fS (fS (fS (fS fO)))))) (kf (fS (fS (fS (fS (fS (fS fO)))))) (kf (fS (fS (fS (fS (fS (fS fO)))))) (kf (fS (fS (fS (fS (fS (fS fO)))))) (kf (fS (fS (fS (fS (fS (fS fO)))))) (kf (fS (fS (fS (fS (fS (fS fO)))))) (kf (fS (fS (fS (fS (fS (fS fO)))))) (kf (fS (fS (fS (fS (fS (fS fO)))))) kr)))))))))))))))))))) (nB je ?_))
       refine Bh rfl call8 rfl rfl rfl (pT ((fC (fC (fC (fC (fC (fC (fC (fC (fC (fC fO)))))))))).trans (pC ((fC (fC (fC (fC (fC (fC (fC (fC (fC (fC fO)))))))))).trans (pC ((fC (fC (fC (fC (fC (fC (fC (fC (fC (fC fO)))))))))).trans (pC ((fC (fC (fC (fC (fC (fC (fC (fC (fC (fC fO)))))))))).trans (pC ((fC (fC (fC (fC (fC (fC (fC (fC (fC (fC fO)))))))))).trans (pC ((fC (fC (fC (fC (fC (fC (fC (fC (fC (fC fO)))))))))).trans (pC ((fC (fC (fC (fC (fC (fC (fC (fC (fC (fC fO)))))))))).trans (pC ((fC (fC (fC (fC (fC (fC (fC (fC (fC (fC fO)))))))))).trans (pC ((fC (fC (fC (fC (fC (fC (fC (fC (fC (fC fO)))))))))).trans (pC ((fC (fC (fC (fC (fC (fC (fC (fC (fC (fC fO)))))))))).trans (pC pR)))))))))))))))))))) (lb (lb (lb (lb (lb (lb (lb (lb (lb (lb (ln rfl)))))))))))) (fun F2 h2 h3 => by have h0 := DJ (At.Bd (Ay kJ) (vss := [[sL (aD (β 22 1)) 8 8]]) (xs := ([[[0], [0, 1], [1], [1], [], [], [], []]] : List (List (List Int)))) (h3 ((β 22 0), ce #[sL (aD (β 22 1)) 8 8] 34) mz) (.cons ⟨_, _, rfl, (At.Bd kJ (vss := [[sL (aD (β 22 2)) 1 1], [sL (aD (β 22 3)) 2 2], [sL (aD (β 22 4)) 1 1], [sL (aD (β 22 5)) 1 1], [sL none 0 0], [sL none 0 0], [sL none 0 0], [sL none 0 0]]) (xs := ([[0], [0, 1], [1], [1], [], [], [], []] : List (List Int))) (h3 ((β 22 1), ce #[sL (aD (β 22 2)) 1 1, sL (aD (β 22 3)) 2 2, sL (aD (β 22 4)) 1 1, sL (aD (β 22 5)) 1 1, sL none 0 0, sL none 0 0, sL none 0 0, sL none 0 0] 22) (my mz)) (.cons ⟨_, _, rfl, (At.Bd kI (vss := [[vI 0]]) (xs := ([0] : List Int)) (h3 ((β 22 2), ce #[vI 0] 3) (my (my mz))) (.cons rfl .nil) rfl (by simp [maxLen]))⟩ (.cons ⟨_, _, rfl, (At.Bd kI (vss := [[vI 0], [vI 1]]) (xs := ([0, 1] : List Int)) (h3 ((β 22 3), ce #[vI 0, vI 1] 3) (my (my (my mz)))) (.cons rfl (.cons rfl .nil)) rfl (by simp [maxLen]))⟩ (.cons ⟨_, _, rfl, (At.Bd kI (vss := [[vI 1]]) (xs := ([1] : List Int)) (h3 ((β 22 4), ce #[vI 1] 3) (my (my (my (my mz))))) (.cons rfl .nil) rfl (by simp [maxLen]))⟩ (.cons ⟨_, _, rfl, (At.Bd kI (vss := [[vI 1]]) (xs := ([1] : List Int)) (h3 ((β 22 5), ce #[vI 1] 3) (my (my (my (my (my mz)))))) (.cons rfl .nil) rfl (by simp [maxLen]))⟩ (.cons ⟨_, _, rfl, At.nil _ _ _⟩ (.cons ⟨_, _, rfl, At.nil _ _ _⟩ (.cons ⟨_, _, rfl, At.nil _ _ _⟩ (.cons ⟨_, _, rfl, At.nil _ _ _⟩ .nil)))))))) rfl (by simp [maxLen]))⟩ .nil) rfl (by simp [maxLen])) (At.Bd kI (vss := [[vI 1], [vI (-1)], [vI 4]]) (xs := ([1, -1, 4] : List Int)) (h3 ((β 22 6), ce #[vI 1, vI (-1), vI 4] 3) (my (my (my (my (my (my mz))))))) (.cons rfl (.cons rfl (.cons rfl .nil))) rfl (by simp [maxLen])) (At.Bd (Ai kI kP) (vss := [[vI 0, vI 0, vI 0], [vI 2, vI 0, vI 0]]) (xs := ([(0, 0, 0), (2, 0, 0)] : List (Int × Int × Int))) (h3 ((β 22 7), ce #[vI 0, vI 0, vI 0, vI 2, vI 0, vI 0] 32) (my (my (my (my (my (my (my mz)))))))) (.cons ⟨_, _, rfl, rfl, ⟨_, _, rfl, rfl, rfl⟩⟩ (.cons ⟨_, _, rfl, rfl, ⟨_, _, rfl, rfl, rfl⟩⟩ .nil)) rfl (by simp [maxLen])) (show At 3 (Br eI (Br eI bE)) F2 (aD (β 24 0)) (Int.toNat k6) (List.replicate (Int.toNat k6) (0, 0, false) : List (Int × Int × Bool)) from (AI.made (nb := 0) (E := 29) (F := F2) (Ai kI (Ai kI Be)) (by decide) (fun _ => ⟨_, _, rfl, rfl, ⟨_, _, rfl, rfl, rfl⟩⟩) (Nat.zero_le _) (Nm tp)).row (Ai kI (Ai kI Be)) (AQ.refl _) fun p hp => by rw [List.mem_singleton.1 hp]; exact (h3 ((β 24 0), ce (madeCells (.agg #[vI 0, vI 0, .bool false] : Value).cells ((Int.toNat k6) * 3)) 29) (my (my (my (my (my (my (my (my mz)))))))))) (At.Bd kI (vss := [[vI 2], [vI 2], [vI 3]]) (xs := ([2, 2, 3] : List Int)) (h3 ((β 25 0), ce #[vI 2, vI 2, vI 3] 3) (my (my (my (my (my (my (my (my (my mz)))))))))) (.cons rfl (.cons rfl (.cons rfl .nil))) rfl (by simp [maxLen])) h839; rw [List.length_replicate] at h0; exact h0) ?_
       refine Aa ⟨rfl, _, rfl, hk (fun _ => K.w0.heap.size) (fun _ => Nat.le_refl _) _ (pT (pC (pC (pC (pC (pC (pC (pC (pC (pC ((fC (fC (fC (fC (fC (fC (fC (fC (fC (fC (fC fP))))))))))).trans (pA ((fC (fC (fC (fC (fC (fC (fC (fC (fC (fC (fC fP))))))))))).trans (pA ((fC (fC (fC (fC (fC (fC (fC (fC (fC (fC (fC fP))))))))))).trans (pA ((fC (fC (fC (fC (fC (fC (fC (fC (fC (fC (fC fP))))))))))).trans (pA ((fC (fC (fC (fC (fC (fC (fC (fC (fC (fC (fC fP))))))))))).trans (pA ((fC (fC (fC (fC (fC (fC (fC (fC (fC (fC (fC fP))))))))))).trans (pA pR))))))))))))))))))))) (lb (lb (lb (lb (lb (lb (lb (lb (lb (lp (lp (lp (lp (lp (lp (ln rfl)))))))))))))))))⟩
      ·refine ⟨fun β au h => by simp (disch := simp) only [and_self], _, rfl, fun β Lr Q hk => ?_⟩
       refine AB (lb (lb (lb (lb (lb (lb (lb (lb (lb (lp (lp (lp (lp (lp (lp (ln rfl)))))))))))))))) (kO (kc (kc (kc (kc (kc (kc (kc (kc (kc (kf (fS (fS (fS (fS (fS (fS fO)))))) (kf (fS (fS (fS (fS (fS (fS fO)))))) (kf (fS (fS (fS (fS (fS (fS fO)))))) (kf (fS (fS (fS (fS (fS (fS fO)))))) (kf (fS (fS (fS (fS (fS (fS fO)))))) (kf (fS (fS (fS (fS (fS (fS fO)))))) (kf (fS (fS (fS (fS (fS (fS fO)))))) (kf (fS (fS (fS (fS (fS (fS fO)))))) (kf (fS (fS (fS (fS (fS (fS fO)))))) (kf (fS (fS (fS (fS (fS (fS fO)))))) (kf (fS (fS (fS (fS (fS (fS fO)))))) kr)))))))))))))))))))) (nB je (uv (Bo rfl) ?_)))
       refine Aa ⟨rfl, _, rfl, hk (fun _ => K.w0.heap.size) (fun _ => Nat.le_refl _) _ (pT (pC (pC (pC (pC (pC (pC (pC (pC (pC ((fC (fC (fC (fC (fC (fC (fC (fC (fC (fC (fC fP))))))))))).trans (pA ((fC (fC (fC (fC (fC (fC (fC (fC (fC (fC (fC fP))))))))))).trans (pA ((fC (fC (fC (fC (fC (fC (fC (fC (fC (fC (fC fP))))))))))).trans (pA ((fC (fC (fC (fC (fC (fC (fC (fC (fC (fC (fC fP))))))))))).trans (pA ((fC (fC (fC (fC (fC (fC (fC (fC (fC (fC (fC fP))))))))))).trans (pA ((fC (fC (fC (fC (fC (fC (fC (fC (fC (fC (fC fP))))))))))).trans (pA pR))))))))))))))))))))) (lb (lb (lb (lb (lb (lb (lb (lb (lb (lp (lp (lp (lp (lp (lp (ln rfl)))))))))))))))))⟩
      ·refine ⟨fun β au h => by simp (disch := simp) only [and_self], _, rfl, fun β Lr Q hk => ?_⟩
       refine AB (lb (lb (lb (lb (lb (lb (lb (lb (lb (lp (lp (lp (lp (lp (lp (ln rfl)))))))))))))))) (kO (kc (kc (kc (kc (kc (kc (kc (kc (kc (kf (fS (fS (fS (fS (fS (fS fO)))))) (kf (fS (fS (fS (fS (fS (fS fO)))))) (kf (fS (fS (fS (fS (fS (fS fO)))))) (kf (fS (fS (fS (fS (fS (fS fO)))))) (kf (fS (fS (fS (fS (fS (fS fO)))))) (kf (fS (fS (fS (fS (fS (fS fO)))))) (kf (fS (fS (fS (fS (fS (fS fO)))))) (kf (fS (fS (fS (fS (fS (fS fO)))))) (kf (fS (fS (fS (fS (fS (fS fO)))))) (kf (fS (fS (fS (fS (fS (fS fO)))))) (kf (fS (fS (fS (fS (fS (fS fO)))))) kr)))))))))))))))))))) (uv (AE (FK rfl je) rfl) ?_))
       refine Aa ⟨rfl, _, rfl, hk (fun _ => K.w0.heap.size) (fun _ => Nat.le_refl _) _ (pT (pC (pC (pC (pC (pC (pC (pC (pC (pC ((fC (fC (fC (fC (fC (fC (fC (fC (fC (fC (fC fP))))))))))).trans (pA ((fC (fC (fC (fC (fC (fC (fC (fC (fC (fC (fC fP))))))))))).trans (pA ((fC (fC (fC (fC (fC (fC (fC (fC (fC (fC (fC fP))))))))))).trans (pA ((fC (fC (fC (fC (fC (fC (fC (fC (fC (fC (fC fP))))))))))).trans (pA ((fC (fC (fC (fC (fC (fC (fC (fC (fC (fC (fC fP))))))))))).trans (pA ((fC (fC (fC (fC (fC (fC (fC (fC (fC (fC (fC fP))))))))))).trans (pA pR))))))))))))))))))))) (lb (lb (lb (lb (lb (lb (lb (lb (lb (lp (lp (lp (lp (lp (lp (ln rfl)))))))))))))))))⟩
      ·refine ⟨fun β au h => by simp (disch := simp) only [and_self], _, rfl, fun β Lr Q hk => ?_⟩
       refine AB (lb (lb (lb (lb (lb (lb (lb (lb (lb (lp (lp (lp (lp (lp (lp (ln rfl)))))))))))))))) (kO (kc (kc (kc (kc (kc (kc (kc (kc (kc (kf (fS (fS (fS (fS (fS (fS fO)))))) (kf (fS (fS (fS (fS (fS (fS fO)))))) (kf (fS (fS (fS (fS (fS (fS fO)))))) (kf (fS (fS (fS (fS (fS (fS fO)))))) (kf (fS (fS (fS (fS (fS (fS fO)))))) (kf (fS (fS (fS (fS (fS (fS fO)))))) (kf (fS (fS (fS (fS (fS (fS fO)))))) (kf (fS (fS (fS (fS (fS (fS fO)))))) (kf (fS (fS (fS (fS (fS (fS fO)))))) (kf (fS (fS (fS (fS (fS (fS fO)))))) (kf (fS (fS (fS (fS (fS (fS fO)))))) kr)))))))))))))))))))) (um ?_))
       refine Aa ⟨rfl, _, rfl, hk (fun _ => K.w0.heap.size) (fun _ => Nat.le_refl _) _ (pT (pC (pC (pC (pC (pC (pC (pC (pC (pC ((fC (fC (fC (fC (fC (fC (fC (fC (fC (fC (fC fP))))))))))).trans (pA ((fC (fC (fC (fC (fC (fC (fC (fC (fC (fC (fC fP))))))))))).trans (pA ((fC (fC (fC (fC (fC (fC (fC (fC (fC (fC (fC fP))))))))))).trans (pA ((fC (fC (fC (fC (fC (fC (fC (fC (fC (fC (fC fP))))))))))).trans (pA ((fC (fC (fC (fC (fC (fC (fC (fC (fC (fC (fC fP))))))))))).trans (pA ((fC (fC (fC (fC (fC (fC (fC (fC (fC (fC (fC fP))))))))))).trans (pA pR))))))))))))))))))))) (lb (lb (lb (lb (lb (lb (lb (lb (lb (lp (lp (lp (lp (lp (lp (ln rfl)))))))))))))))))⟩
      ·refine ⟨fun β au h => by simp (disch := simp) only [and_self], _, rfl, fun β Lr Q hk => ?_⟩
       refine AB (lb (lb (lb (lb (lb (lb (lb (lb (lb (lp (lp (lp (lp (lp (lp (ln rfl)))))))))))))))) (kO (kc (kc (kc (kc (kc (kc (kc (kc (kc (kf (fS (fS (fS (fS (fS (fS fO)))))) (kf (fS (fS (fS (fS (fS (fS fO)))))) (kf (fS (fS (fS (fS (fS (fS fO)))))) (kf (fS (fS (fS (fS (fS (fS fO)))))) (kf (fS (fS (fS (fS (fS (fS fO)))))) (kf (fS (fS (fS (fS (fS (fS fO)))))) (kf (fS (fS (fS (fS (fS (fS fO)))))) (kf (fS (fS (fS (fS (fS (fS fO)))))) (kf (fS (fS (fS (fS (fS (fS fO)))))) (kf (fS (fS (fS (fS (fS (fS fO)))))) (kf (fS (fS (fS (fS (fS (fS fO)))))) kr)))))))))))))))))))) ?_)
       refine nB ni (um ?_)
       refine Aa ⟨rfl, _, rfl, hk (fun _ => K.w0.heap.size) (fun _ => Nat.le_refl _) _ (pT (pC (pC (pC (pC (pC (pC (pC (pC (pC ((fC (fC (fC (fC (fC (fC (fC (fC (fC (fC (fC fP))))))))))).trans (pA ((fC (fC (fC (fC (fC (fC (fC (fC (fC (fC (fC fP))))))))))).trans (pA ((fC (fC (fC (fC (fC (fC (fC (fC (fC (fC (fC fP))))))))))).trans (pA ((fC (fC (fC (fC (fC (fC (fC (fC (fC (fC (fC fP))))))))))).trans (pA ((fC (fC (fC (fC (fC (fC (fC (fC (fC (fC (fC fP))))))))))).trans (pA ((fC (fC (fC (fC (fC (fC (fC (fC (fC (fC (fC fP))))))))))).trans (pA pR))))))))))))))))))))) (lb (lb (lb (lb (lb (lb (lb (lb (lb (lp (lp (lp (lp (lp (lp (ln rfl)))))))))))))))))⟩
      ·refine ⟨fun β au h => by simp (disch := simp) only [and_self], _, rfl, fun β Lr Q hk => ?_⟩
       refine AB (lb (lb (lb (lb (lb (lb (lb (lb (lb (lp (lp (lp (lp (lp (lp (ln rfl)))))))))))))))) (kO (kc (kc (kc (kc (kc (kc (kc (kc (kc (kf (fS (fS (fS (fS (fS (fS fO)))))) (kf (fS (fS (fS (fS (fS (fS fO)))))) (kf (fS (fS (fS (fS (fS (fS fO)))))) (kf (fS (fS (fS (fS (fS (fS fO)))))) (kf (fS (fS (fS (fS (fS (fS fO)))))) (kf (fS (fS (fS (fS (fS (fS fO)))))) (kf (fS (fS (fS (fS (fS (fS fO)))))) (kf (fS (fS (fS (fS (fS (fS fO)))))) (kf (fS (fS (fS (fS (fS (fS fO)))))) (kf (fS (fS (fS (fS (fS (fS fO)))))) (kf (fS (fS (fS (fS (fS (fS fO)))))) kr)))))))))))))))))))) (nB ni (uv (AY rfl rfl) ?_)))
       refine Aa ⟨rfl, _, rfl, hk (fun _ => K.w0.heap.size) (fun _ => Nat.le_refl _) _ (pT (pC (pC (pC (pC (pC (pC (pC (pC (pC ((fC (fC (fC (fC (fC (fC (fC (fC (fC (fC (fC fP))))))))))).trans (pA ((fC (fC (fC (fC (fC (fC (fC (fC (fC (fC (fC fP))))))))))).trans (pA ((fC (fC (fC (fC (fC (fC (fC (fC (fC (fC (fC fP))))))))))).trans (pA ((fC (fC (fC (fC (fC (fC (fC (fC (fC (fC (fC fP))))))))))).trans (pA ((fC (fC (fC (fC (fC (fC (fC (fC (fC (fC (fC fP))))))))))).trans (pA ((fC (fC (fC (fC (fC (fC (fC (fC (fC (fC (fC fP))))))))))).trans (pA pR))))))))))))))))))))) (lb (lb (lb (lb (lb (lb (lb (lb (lb (lp (lp (lp (lp (lp (lp (ln rfl)))))))))))))))))⟩
      ·refine ⟨fun β au h => by simp (disch := simp) only [and_self], _, rfl, fun β Lr Q hk => ?_⟩
       refine AB (lb (lb (lb (lb (lb (lb (lb (lb (lb (lp (lp (lp (lp (lp (lp (ln rfl)))))))))))))))) (kO (kc (kc (kc (kc (kc (kc (kc (kc (kc (kf (fS (fS (fS (fS (fS (fS fO)))))) (kf (fS (fS (fS (fS (fS (fS fO)))))) (kf (fS (fS (fS (fS (fS (fS fO)))))) (kf (fS (fS (fS (fS (fS (fS fO)))))) (kf (fS (fS (fS (fS (fS (fS fO)))))) (kf (fS (fS (fS (fS (fS (fS fO)))))) (kf (fS (fS (fS (fS (fS (fS fO)))))) (kf (fS (fS (fS (fS (fS (fS fO)))))) (kf (fS (fS (fS (fS (fS (fS fO)))))) (kf (fS (fS (fS (fS (fS (fS fO)))))) (kf (fS (fS (fS (fS (fS (fS fO)))))) kr)))))))))))))))))))) ?_)
       refine nB ni (um ?_)
       refine Aa ⟨rfl, _, rfl, hk (fun _ => K.w0.heap.size) (fun _ => Nat.le_refl _) _ (pT (pC (pC (pC (pC (pC (pC (pC (pC (pC ((fC (fC (fC (fC (fC (fC (fC (fC (fC (fC (fC fP))))))))))).trans (pA ((fC (fC (fC (fC (fC (fC (fC (fC (fC (fC (fC fP))))))))))).trans (pA ((fC (fC (fC (fC (fC (fC (fC (fC (fC (fC (fC fP))))))))))).trans (pA ((fC (fC (fC (fC (fC (fC (fC (fC (fC (fC (fC fP))))))))))).trans (pA ((fC (fC (fC (fC (fC (fC (fC (fC (fC (fC (fC fP))))))))))).trans (pA ((fC (fC (fC (fC (fC (fC (fC (fC (fC (fC (fC fP))))))))))).trans (pA pR))))))))))))))))))))) (lb (lb (lb (lb (lb (lb (lb (lb (lb (lp (lp (lp (lp (lp (lp (ln rfl)))))))))))))))))⟩
      ·refine ⟨fun β au h => by simp (disch := simp) only [and_self], _, rfl, fun β Lr Q hk => ?_⟩
       refine AB (lb (lb (lb (lb (lb (lb (lb (lb (lb (lp (lp (lp (lp (lp (lp (ln rfl)))))))))))))))) (kO (kc (kc (kc (kc (kc (kc (kc (kc (kc (kf (fS (fS (fS (fS (fS (fS fO)))))) (kf (fS (fS (fS (fS (fS (fS fO)))))) (kf (fS (fS (fS (fS (fS (fS fO)))))) (kf (fS (fS (fS (fS (fS (fS fO)))))) (kf (fS (fS (fS (fS (fS (fS fO)))))) (kf (fS (fS (fS (fS (fS (fS fO)))))) (kf (fS (fS (fS (fS (fS (fS fO)))))) (kf (fS (fS (fS (fS (fS (fS fO)))))) (kf (fS (fS (fS (fS (fS (fS fO)))))) (kf (fS (fS (fS (fS (fS (fS fO)))))) (kf (fS (fS (fS (fS (fS (fS fO)))))) kr)))))))))))))))))))) (nT db (uv (Cv isAgg26 sizeOf26 8) ?_)))
       refine Aa ⟨rfl, _, rfl, hk (fun _ => K.w0.heap.size) (fun _ => Nat.le_refl _) _ (pT (pC (pC (pC (pC (pC (pC (pC (pC (pC ((fC (fC (fC (fC (fC (fC (fC (fC (fC (fC (fC fP))))))))))).trans (pA ((fC (fC (fC (fC (fC (fC (fC (fC (fC (fC (fC fP))))))))))).trans (pA ((fC (fC (fC (fC (fC (fC (fC (fC (fC (fC (fC fP))))))))))).trans (pA ((fC (fC (fC (fC (fC (fC (fC (fC (fC (fC (fC fP))))))))))).trans (pA ((fC (fC (fC (fC (fC (fC (fC (fC (fC (fC (fC fP))))))))))).trans (pA ((fC (fC (fC (fC (fC (fC (fC (fC (fC (fC (fC fP))))))))))).trans (pA pR))))))))))))))))))))) (lb (lb (lb (lb (lb (lb (lb (lb (lb (lp (lp (lp (lp (lp (lp (ln rfl)))))))))))))))))⟩
      ·refine ⟨fun β au h => by simp (disch := simp) only [and_self], _, rfl, fun β Lr Q hk => ?_⟩
       refine AB (lb (lb (lb (lb (lb (lb (lb (lb (lb (lp (lp (lp (lp (lp (lp (ln rfl)))))))))))))))) (kO (kc (kc (kc (kc (kc (kc (kc (kc (kc (kf (fS (fS (fS (fS (fS (fS fO)))))) (kf (fS (fS (fS (fS (fS (fS fO)))))) (kf (fS (fS (fS (fS (fS (fS fO)))))) (kf (fS (fS (fS (fS (fS (fS fO)))))) (kf (fS (fS (fS (fS (fS (fS fO)))))) (kf (fS (fS (fS (fS (fS (fS fO)))))) (kf (fS (fS (fS (fS (fS (fS fO)))))) (kf (fS (fS (fS (fS (fS (fS fO)))))) (kf (fS (fS (fS (fS (fS (fS fO)))))) (kf (fS (fS (fS (fS (fS (fS fO)))))) (kf (fS (fS (fS (fS (fS (fS fO)))))) kr)))))))))))))))))))) ?_)
       refine nT db (um ?_)
       refine Aa ⟨rfl, _, rfl, hk (fun _ => K.w0.heap.size) (fun _ => Nat.le_refl _) _ (pT (pC (pC (pC (pC (pC (pC (pC (pC (pC ((fC (fC (fC (fC (fC (fC (fC (fC (fC (fC (fC fP))))))))))).trans (pA ((fC (fC (fC (fC (fC (fC (fC (fC (fC (fC (fC fP))))))))))).trans (pA ((fC (fC (fC (fC (fC (fC (fC (fC (fC (fC (fC fP))))))))))).trans (pA ((fC (fC (fC (fC (fC (fC (fC (fC (fC (fC (fC fP))))))))))).trans (pA ((fC (fC (fC (fC (fC (fC (fC (fC (fC (fC (fC fP))))))))))).trans (pA ((fC (fC (fC (fC (fC (fC (fC (fC (fC (fC (fC fP))))))))))).trans (pA pR))))))))))))))))))))) (lb (lb (lb (lb (lb (lb (lb (lb (lb (lp (lp (lp (lp (lp (lp (ln rfl)))))))))))))))))⟩
      ·refine ⟨fun β au h => by simp (disch := simp) only [and_self], _, rfl, fun β Lr Q hk => ?_⟩
       refine AB (lb (lb (lb (lb (lb (lb (lb (lb (lb (lp (lp (lp (lp (lp (lp (ln rfl)))))))))))))))) (kO (kc (kc (kc (kc (kc (kc (kc (kc (kc (kf (fS (fS (fS (fS (fS (fS fO)))))) (kf (fS (fS (fS (fS (fS (fS fO)))))) (kf (fS (fS (fS (fS (fS (fS fO)))))) (kf (fS (fS (fS (fS (fS (fS fO)))))) (kf (fS (fS (fS (fS (fS (fS fO)))))) (kf (fS (fS (fS (fS (fS (fS fO)))))) (kf (fS (fS (fS (fS (fS (fS fO)))))) (kf (fS (fS (fS (fS (fS (fS fO)))))) (kf (fS (fS (fS (fS (fS (fS fO)))))) (kf (fS (fS (fS (fS (fS (fS fO)))))) (kf (fS (fS (fS (fS (fS (fS fO)))))) kr)))))))))))))))))))) (nT db (uv (EU rfl rfl g802) ?_)))
       refine Aa ⟨rfl, _, rfl, hk (fun _ => K.w0.heap.size) (fun _ => Nat.le_refl _) _ (pT (pC (pC (pC (pC (pC (pC (pC (pC (pC ((fC (fC (fC (fC (fC (fC (fC (fC (fC (fC (fC fP))))))))))).trans (pA ((fC (fC (fC (fC (fC (fC (fC (fC (fC (fC (fC fP))))))))))).trans (pA ((fC (fC (fC (fC (fC (fC (fC (fC (fC (fC (fC fP))))))))))).trans (pA ((fC (fC (fC (fC (fC (fC (fC (fC (fC (fC (fC fP))))))))))).trans (pA ((fC (fC (fC (fC (fC (fC (fC (fC (fC (fC (fC fP))))))))))).trans (pA ((fC (fC (fC (fC (fC (fC (fC (fC (fC (fC (fC fP))))))))))).trans (pA pR))))))))))))))))))))) (lb (lb (lb (lb (lb (lb (lb (lb (lb (lp (lp (lp (lp (lp (lp (ln rfl)))))))))))))))))⟩
      ·refine ⟨fun β au h => by simp (disch := simp) only [h, and_self], _, rfl, fun β Lr Q hk => ?_⟩
       refine AB (lb (lb (lb (lb (lb (lb (lb (lb (lb (lp (lp (lp (lp (lp (lp (ln rfl)))))))))))))))) (kO (kc (kc (kc (kc (kc (kc (kc (kc (kc (kf (fS (fS (fS (fS (fS (fS fO)))))) (kf (fS (fS (fS (fS (fS (fS fO)))))) (kf (fS (fS (fS (fS (fS (fS fO)))))) (kf (fS (fS (fS (fS (fS (fS fO)))))) (kf (fS (fS (fS (fS (fS (fS fO)))))) (kf (fS (fS (fS (fS (fS (fS fO)))))) (kf (fS (fS (fS (fS (fS (fS fO)))))) (kf (fS (fS (fS (fS (fS (fS fO)))))) (kf (fS (fS (fS (fS (fS (fS fO)))))) (kf (fS (fS (fS (fS (fS (fS fO)))))) (kf (fS (fS (fS (fS (fS (fS fO)))))) kr)))))))))))))))))))) (nT db ?_))
       refine bA (cs := #[vI (k6 - 1)]) Bm [vI (k6 - 1)] ?_; intro b877 hb877
       refine Aa ⟨rfl, _, rfl, hk (fun _ => b877) (fun _ => hb877) _ (pT (pC (pC (pC (pC (pC (pC (pC (pC (pC (pC ((fC (fC (fC (fC (fC (fC (fC (fC (fC (fC (fC fP))))))))))).trans (pA ((fC (fC (fC (fC (fC (fC (fC (fC (fC (fC (fC fP))))))))))).trans (pA ((fC (fC (fC (fC (fC (fC (fC (fC (fC (fC (fC fP))))))))))).trans (pA ((fC (fC (fC (fC (fC (fC (fC (fC (fC (fC (fC fP))))))))))).trans (pA ((fC (fC (fC (fC (fC (fC (fC (fC (fC (fC (fC fP))))))))))).trans (pA ((fC (fC (fC (fC (fC (fC (fC (fC (fC (fC (fC fP))))))))))).trans (pA pR)))))))))))))))))))))) (lb (lb (lb (lb (lb (lb (lb (lb (lb (lb (lp (lp (lp (lp (lp (lp (ln rfl))))))))))))))))))⟩
      ·refine ⟨fun β au h => by simp (disch := simp) only [and_self], _, rfl, fun β Lr Q hk => ?_⟩
       refine AB (lb (lb (lb (lb (lb (lb (lb (lb (lb (lp (lp (lp (lp (lp (lp (ln rfl)))))))))))))))) (kO (kc (kc (kc (kc (kc (kc (kc (kc (kc (kf (fS (fS (fS (fS (fS (fS fO)))))) (kf (fS (fS (fS (fS (fS (fS fO)))))) (kf (fS (fS (fS (fS (fS (fS fO)))))) (kf (fS (fS (fS (fS (fS (fS fO)))))) (kf (fS (fS (fS (fS (fS (fS fO)))))) (kf (fS (fS (fS (fS (fS (fS fO)))))) (kf (fS (fS (fS (fS (fS (fS fO)))))) (kf (fS (fS (fS (fS (fS (fS fO)))))) (kf (fS (fS (fS (fS (fS (fS fO)))))) (kf (fS (fS (fS (fS (fS (fS fO)))))) (kf (fS (fS (fS (fS (fS (fS fO)))))) (kf (fS (fS (fS (fS (fS (fS fO)))))) kr))))))))))))))))))))) (nT db ?_))
       refine Bh rfl call9 rfl rfl rfl (pT ((fC (fC (fC (fC (fC (fC (fC (fC (fC (fC (fC (fC (fC (fC (fC (fC (fC (fC (fC (fC (fC (fS (fS (fS fP)))))))))))))))))))))))).trans (pA ((fC (fC (fC (fC (fC (fC (fC (fC (fC (fC (fC (fC (fC (fC (fC (fC (fC (fC (fC (fC (fC (fS (fS (fS fP)))))))))))))))))))))))).trans (pA ((fC (fC (fC (fC (fC (fC (fC (fC (fC (fC (fC (fC (fC (fC (fC (fC (fC (fC (fC (fC (fC (fS (fS (fS fP)))))))))))))))))))))))).trans (pA ((fC (fC (fC (fC (fC (fC (fC (fC (fC (fC (fC (fC (fC (fC (fC (fC (fC (fC (fC (fC fO)))))))))))))))))))).trans (pC pR)))))))) (lp (lp (lp (lb (ln rfl)))))) (fun F2 h2 h3 => by have h0 := GP (al.row kJ h2 (aL h3)) (ab.row kI h2 (aL (aR h3))) (ai.row (Ai kI kP) h2 (aL (aR (aR h3)))) (At.Bd kI (vss := [[vI (k6 - 1)]]) (xs := ([k6 - 1] : List Int)) (h3 ((β 36 0), ce #[vI (k6 - 1)] 3) (List.mem_append_right _ (List.mem_append_right _ (List.mem_append_right _ mz)))) (.cons rfl .nil) rfl (by simp [maxLen])) h844; rw [← (Ev.A1 al).1] at h0; rw [← (AI.A1 ab).1] at h0; rw [← (AI.A1 ai).1] at h0; exact h0) ?_
       refine Aa ⟨rfl, _, rfl, hk (fun _ => K.w0.heap.size) (fun _ => Nat.le_refl _) _ (pT (pC (pC (pC (pC (pC (pC (pC (pC (pC ((fC (fC (fC (fC (fC (fC (fC (fC (fC (fC (fC (fC fP)))))))))))).trans (pA ((fC (fC (fC (fC (fC (fC (fC (fC (fC (fC (fC (fC fP)))))))))))).trans (pA ((fC (fC (fC (fC (fC (fC (fC (fC (fC (fC (fC (fC fP)))))))))))).trans (pA ((fC (fC (fC (fC (fC (fC (fC (fC (fC (fC (fC (fC fP)))))))))))).trans (pA ((fC (fC (fC (fC (fC (fC (fC (fC (fC (fC (fC (fC fP)))))))))))).trans (pA ((fC (fC (fC (fC (fC (fC (fC (fC (fC (fC (fC (fC fP)))))))))))).trans (pA pR))))))))))))))))))))) (lb (lb (lb (lb (lb (lb (lb (lb (lb (lp (lp (lp (lp (lp (lp (ln rfl)))))))))))))))))⟩
      ·refine ⟨fun β au h => by simp (disch := simp) only [and_self], _, rfl, fun β Lr Q hk => ?_⟩
       refine AB (lb (lb (lb (lb (lb (lb (lb (lb (lb (lp (lp (lp (lp (lp (lp (ln rfl)))))))))))))))) (kO (kc (kc (kc (kc (kc (kc (kc (kc (kc (kf (fS (fS (fS (fS (fS (fS fO)))))) (kf (fS (fS (fS (fS (fS (fS fO)))))) (kf (fS (fS (fS (fS (fS (fS fO)))))) (kf (fS (fS (fS (fS (fS (fS fO)))))) (kf (fS (fS (fS (fS (fS (fS fO)))))) (kf (fS (fS (fS (fS (fS (fS fO)))))) (kf (fS (fS (fS (fS (fS (fS fO)))))) (kf (fS (fS (fS (fS (fS (fS fO)))))) (kf (fS (fS (fS (fS (fS (fS fO)))))) (kf (fS (fS (fS (fS (fS (fS fO)))))) (kf (fS (fS (fS (fS (fS (fS fO)))))) (kf (fS (fS (fS (fS (fS (fS fO)))))) kr))))))))))))))))))))) (nT db (uv (Bo rfl) ?_)))
       refine Aa ⟨rfl, _, rfl, hk (fun _ => K.w0.heap.size) (fun _ => Nat.le_refl _) _ (pT (pC (pC (pC (pC (pC (pC (pC (pC (pC ((fC (fC (fC (fC (fC (fC (fC (fC (fC (fC (fC (fC fP)))))))))))).trans (pA ((fC (fC (fC (fC (fC (fC (fC (fC (fC (fC (fC (fC fP)))))))))))).trans (pA ((fC (fC (fC (fC (fC (fC (fC (fC (fC (fC (fC (fC fP)))))))))))).trans (pA ((fC (fC (fC (fC (fC (fC (fC (fC (fC (fC (fC (fC fP)))))))))))).trans (pA ((fC (fC (fC (fC (fC (fC (fC (fC (fC (fC (fC (fC fP)))))))))))).trans (pA ((fC (fC (fC (fC (fC (fC (fC (fC (fC (fC (fC (fC fP)))))))))))).trans (pA pR))))))))))))))))))))) (lb (lb (lb (lb (lb (lb (lb (lb (lb (lp (lp (lp (lp (lp (lp (ln rfl)))))))))))))))))⟩
      ·refine ⟨fun β au h => by simp (disch := simp) only [and_self], _, rfl, fun β Lr Q hk => ?_⟩
       refine AB (lb (lb (lb (lb (lb (lb (lb (lb (lb (lp (lp (lp (lp (lp (lp (ln rfl)))))))))))))))) (kO (kc (kc (kc (kc (kc (kc (kc (kc (kc (kf (fS (fS (fS (fS (fS (fS fO)))))) (kf (fS (fS (fS (fS (fS (fS fO)))))) (kf (fS (fS (fS (fS (fS (fS fO)))))) (kf (fS (fS (fS (fS (fS (fS fO)))))) (kf (fS (fS (fS (fS (fS (fS fO)))))) (kf (fS (fS (fS (fS (fS (fS fO)))))) (kf (fS (fS (fS (fS (fS (fS fO)))))) (kf (fS (fS (fS (fS (fS (fS fO)))))) (kf (fS (fS (fS (fS (fS (fS fO)))))) (kf (fS (fS (fS (fS (fS (fS fO)))))) (kf (fS (fS (fS (fS (fS (fS fO)))))) (kf (fS (fS (fS (fS (fS (fS fO)))))) kr))))))))))))))))))))) (nB ni (uv (AK (Ba rfl db) rfl) ?_)))
       refine Aa ⟨rfl, _, rfl, hk (fun _ => K.w0.heap.size) (fun _ => Nat.le_refl _) _ (pT (pC (pC (pC (pC (pC (pC (pC (pC (pC ((fC (fC (fC (fC (fC (fC (fC (fC (fC (fC (fC (fC fP)))))))))))).trans (pA ((fC (fC (fC (fC (fC (fC (fC (fC (fC (fC (fC (fC fP)))))))))))).trans (pA ((fC (fC (fC (fC (fC (fC (fC (fC (fC (fC (fC (fC fP)))))))))))).trans (pA ((fC (fC (fC (fC (fC (fC (fC (fC (fC (fC (fC (fC fP)))))))))))).trans (pA ((fC (fC (fC (fC (fC (fC (fC (fC (fC (fC (fC (fC fP)))))))))))).trans (pA ((fC (fC (fC (fC (fC (fC (fC (fC (fC (fC (fC (fC fP)))))))))))).trans (pA pR))))))))))))))))))))) (lb (lb (lb (lb (lb (lb (lb (lb (lb (lp (lp (lp (lp (lp (lp (ln rfl)))))))))))))))))⟩
      ·refine ⟨fun β au h => by simp (disch := simp) only [and_self], _, rfl, fun β Lr Q hk => ?_⟩
       refine AB (lb (lb (lb (lb (lb (lb (lb (lb (lb (lp (lp (lp (lp (lp (lp (ln rfl)))))))))))))))) (kO (kc (kc (kc (kc (kc (kc (kc (kc (kc (kf (fS (fS (fS (fS (fS (fS fO)))))) (kf (fS (fS (fS (fS (fS (fS fO)))))) (kf (fS (fS (fS (fS (fS (fS fO)))))) (kf (fS (fS (fS (fS (fS (fS fO)))))) (kf (fS (fS (fS (fS (fS (fS fO)))))) (kf (fS (fS (fS (fS (fS (fS fO)))))) (kf (fS (fS (fS (fS (fS (fS fO)))))) (kf (fS (fS (fS (fS (fS (fS fO)))))) (kf (fS (fS (fS (fS (fS (fS fO)))))) (kf (fS (fS (fS (fS (fS (fS fO)))))) (kf (fS (fS (fS (fS (fS (fS fO)))))) (kf (fS (fS (fS (fS (fS (fS fO)))))) kr))))))))))))))))))))) (uv (AE (FK rfl ni) rfl) ?_))
       refine Aa ⟨rfl, _, rfl, hk (fun _ => K.w0.heap.size) (fun _ => Nat.le_refl _) _ (pT (pC (pC (pC (pC (pC (pC (pC (pC (pC ((fC (fC (fC (fC (fC (fC (fC (fC (fC (fC (fC (fC fP)))))))))))).trans (pA ((fC (fC (fC (fC (fC (fC (fC (fC (fC (fC (fC (fC fP)))))))))))).trans (pA ((fC (fC (fC (fC (fC (fC (fC (fC (fC (fC (fC (fC fP)))))))))))).trans (pA ((fC (fC (fC (fC (fC (fC (fC (fC (fC (fC (fC (fC fP)))))))))))).trans (pA ((fC (fC (fC (fC (fC (fC (fC (fC (fC (fC (fC (fC fP)))))))))))).trans (pA ((fC (fC (fC (fC (fC (fC (fC (fC (fC (fC (fC (fC fP)))))))))))).trans (pA pR))))))))))))))))))))) (lb (lb (lb (lb (lb (lb (lb (lb (lb (lp (lp (lp (lp (lp (lp (ln rfl)))))))))))))))))⟩
      intro β e9 L9 eu dp dq
      replace dp : e9.sub [(16, vI k6), (17, pO aq), (204, vI k6), (247, .agg (#[vI n3, vI n4, sL (aD ar) [[[0], [0, 1], [1], [1], [], [], [], []]].length 1, sL (aD bc) 3 3, sL (aD cf) 2 2])), (20, pO bo), (248, vI k6), (249, sL bk aa aa), (250, .pointer (some ⟨bo, 4, none⟩)), (251, .agg (#[vI n5, vI n6, sL (aD ak) [de].length 1, sL (aD bu) 3 3, sL (aD ay) [(0, 0, 0), (2, 0, 0)].length 2])), (21, pO bw), (252, .pointer (some ⟨bw, 2, none⟩)), (253, sL (aD ak) [de].length 1), (254, vI k6), (255, sL ey de.length de.length), (256, pO ak), (257, .agg #[vI k6, vI (Int.tdiv (k6 + 1) 2), sL bl bm bn, sL av aw ax, sL (aD ao) (Int.toNat k6) (Int.toNat k6)]), (258, vI k6), (259, vI (k6 - 1)), (260, .bool tr), (261, .bool (!tr)), (262, .bool (!tr)), (263, .agg (#[vI n3, vI n4, sL (aD ar) [[[0], [0, 1], [1], [1], [], [], [], []]].length 1, sL (aD bc) 3 3, sL bk aa aa])), (264, .bool qf), (265, .bool (!qf)), (266, .bool (!qf)), (267, .bool (!qf)), (268, .agg (#[vI n3, vI n4, sL (aD ar) [[[0], [0, 1], [1], [1], [], [], [], []]].length 1, sL (aD bc) 3 3, sL bk aa aa])), (269, sL (aD (β 12 0)) 3 3), (270, .bool qg), (271, .bool (!qg)), (272, .bool (!qg)), (273, .bool (!qg)), (274, .agg (#[vI n5, vI n6, sL (aD ak) [de].length 1, sL (aD bu) 3 3, sL (aD ay) [(0, 0, 0), (2, 0, 0)].length 2])), (275, .bool iq), (276, .bool (!iq)), (277, .bool (!iq)), (278, .bool (!iq)), (279, .agg #[vI n7, vI n8, sL (aD (β 22 0)) 1 1, sL (aD (β 22 6)) 3 3, sL (aD (β 22 7)) 2 2]), (280, vI k6), (281, sL (aD (β 24 0)) (Int.toNat k6) (Int.toNat k6)), (282, sL (aD (β 25 0)) 3 3), (283, .bool ir), (284, .bool (!ir)), (285, .bool (!ir)), (286, .bool (!ir)), (287, vI k6), (288, .bool (decide (k6 < 5))), (289, .bool (decide (k6 < 5))), (290, .agg #[vI k6, vI (Int.tdiv (k6 + 1) 2), sL bl bm bn, sL av aw ax, sL (aD ao) (Int.toNat k6) (Int.toNat k6)]), (291, vI k6), (292, vI (k6 - 1)), (293, sL (aD (β 36 0)) 1 1), (294, .bool iu), (295, .bool (!iu)), (296, .bool (!iu)), (297, .bool (!iu))] := dp
      replace dq : L9.Perm (((β 12 0), ce #[vI 2, vI 3, vI 4] 3) :: (((β 22 0), ce #[sL (aD (β 22 1)) 8 8] 34) :: (((β 22 1), ce #[sL (aD (β 22 2)) 1 1, sL (aD (β 22 3)) 2 2, sL (aD (β 22 4)) 1 1, sL (aD (β 22 5)) 1 1, sL none 0 0, sL none 0 0, sL none 0 0, sL none 0 0] 22) :: (((β 22 2), ce #[vI 0] 3) :: (((β 22 3), ce #[vI 0, vI 1] 3) :: (((β 22 4), ce #[vI 1] 3) :: (((β 22 5), ce #[vI 1] 3) :: (((β 22 6), ce #[vI 1, vI (-1), vI 4] 3) :: (((β 22 7), ce #[vI 0, vI 0, vI 0, vI 2, vI 0, vI 0] 32) :: (((β 24 0), ce (madeCells (.agg #[vI 0, vI 0, .bool false] : Value).cells ((Int.toNat k6) * 3)) 29) :: (((β 25 0), ce #[vI 2, vI 2, vI 3] 3) :: (((β 36 0), ce #[vI (k6 - 1)] 3) :: ((bw, ce (#[vI n5, vI n6, sL (aD ak) [de].length 1, sL (aD bu) 3 3, sL (aD ay) [(0, 0, 0), (2, 0, 0)].length 2]) 26) :: ((cu, ce #[sL (aD bd) 1 1, sL (aD bg) 2 2, sL (aD bh) 1 1, sL (aD bj) 1 1, sL none 0 0, sL none 0 0, sL none 0 0, sL none 0 0] 22) :: ((bd, ce #[vI 0] 3) :: ((bg, ce #[vI 0, vI 1] 3) :: ((bh, ce #[vI 1] 3) :: ((bj, ce #[vI 1] 3) :: ((bo, ce (#[vI n3, vI n4, sL (aD ar) [[[0], [0, 1], [1], [1], [], [], [], []]].length 1, sL (aD bc) 3 3, sL bk aa aa]) 26) :: ((cf, ce #[vI 0, vI 0, vI 0, vI 2, vI 0, vI 0] 32) :: ((aq, ce #[vI k6, vI (Int.tdiv (k6 + 1) 2), sL bl bm bn, sL av aw ax, sL (aD ao) (Int.toNat k6) (Int.toNat k6)] 26) :: (Lb742 ++ (br ++ (Lb715 ++ (bb ++ (ae ++ (Lb560 ++ []))))))))))))))))))))))))))) := dq
      have hb878 := eu 12 0; generalize β 12 0 = b878 at dp dq hb878
      have hb879 := eu 22 0; generalize β 22 0 = b879 at dp dq hb879
      have hb880 := eu 22 1; generalize β 22 1 = b880 at dp dq hb880
      have hb881 := eu 22 2; generalize β 22 2 = b881 at dp dq hb881
      have hb882 := eu 22 3; generalize β 22 3 = b882 at dp dq hb882
      have hb883 := eu 22 4; generalize β 22 4 = b883 at dp dq hb883
      have hb884 := eu 22 5; generalize β 22 5 = b884 at dp dq hb884
      have hb885 := eu 22 6; generalize β 22 6 = b885 at dp dq hb885
      have hb886 := eu 22 7; generalize β 22 7 = b886 at dp dq hb886
      have qh := eu 24 0; generalize β 24 0 = b887 at dp dq qh
      have hb888 := eu 25 0; generalize β 25 0 = b888 at dp dq hb888
      have hb889 := eu 36 0; generalize β 36 0 = b889 at dp dq hb889
      clear eu; refine Ql _ dp ?_; refine Bc dq ?_
      obtain ⟨l11, h890, r891⟩ := BI r845
      have hz893 : AI K.w0.heap.size 29 3 (Br eI (Br eI bE)) tn (aD b887) (Int.toNat k6) (Int.toNat k6) l11 [(b887, ce (madeCells (.agg #[vI 0, vI 0, .bool false] : Value).cells ((Int.toNat k6) * 3)) 29)] := by rw [h890]; exact AI.made (Ai kI (Ai kI Be)) (by decide) (fun _ => ⟨_, _, rfl, rfl, ⟨_, _, rfl, rfl, rfl⟩⟩) qh (Nm tp)
      generalize p4 : ([(b887, ce (madeCells (.agg #[vI 0, vI 0, .bool false] : Value).cells ((Int.toNat k6) * 3)) 29)] : LH) = Lb892 at hz893
      refine Bc (L' := Lb892 ++ ((b878, ce #[vI 2, vI 3, vI 4] 3) :: ((b879, ce #[sL (aD b880) 8 8] 34) :: ((b880, ce #[sL (aD b881) 1 1, sL (aD b882) 2 2, sL (aD b883) 1 1, sL (aD b884) 1 1, sL none 0 0, sL none 0 0, sL none 0 0, sL none 0 0] 22) :: ((b881, ce #[vI 0] 3) :: ((b882, ce #[vI 0, vI 1] 3) :: ((b883, ce #[vI 1] 3) :: ((b884, ce #[vI 1] 3) :: ((b885, ce #[vI 1, vI (-1), vI 4] 3) :: ((b886, ce #[vI 0, vI 0, vI 0, vI 2, vI 0, vI 0] 32) :: ((b888, ce #[vI 2, vI 2, vI 3] 3) :: ((b889, ce #[vI (k6 - 1)] 3) :: ((bw, ce (#[vI n5, vI n6, sL (aD ak) [de].length 1, sL (aD bu) 3 3, sL (aD ay) [(0, 0, 0), (2, 0, 0)].length 2]) 26) :: ((cu, ce #[sL (aD bd) 1 1, sL (aD bg) 2 2, sL (aD bh) 1 1, sL (aD bj) 1 1, sL none 0 0, sL none 0 0, sL none 0 0, sL none 0 0] 22) :: ((bd, ce #[vI 0] 3) :: ((bg, ce #[vI 0, vI 1] 3) :: ((bh, ce #[vI 1] 3) :: ((bj, ce #[vI 1] 3) :: ((bo, ce (#[vI n3, vI n4, sL (aD ar) [[[0], [0, 1], [1], [1], [], [], [], []]].length 1, sL (aD bc) 3 3, sL bk aa aa]) 26) :: ((cf, ce #[vI 0, vI 0, vI 0, vI 2, vI 0, vI 0] 32) :: ((aq, ce #[vI k6, vI (Int.tdiv (k6 + 1) 2), sL bl bm bn, sL av aw ax, sL (aD ao) (Int.toNat k6) (Int.toNat k6)] 26) :: (Lb742 ++ (br ++ (Lb715 ++ (bb ++ (ae ++ (Lb560 ++ []))))))))))))))))))))))))))) (by rw [← p4]; exact (fC (fC (fC (fC (fC (fC (fC (fC (fC fO)))))))))) ?_
      refine Bc (L' := (b878, ce #[vI 2, vI 3, vI 4] 3) :: ((b879, ce #[sL (aD b880) 8 8] 34) :: ((b880, ce #[sL (aD b881) 1 1, sL (aD b882) 2 2, sL (aD b883) 1 1, sL (aD b884) 1 1, sL none 0 0, sL none 0 0, sL none 0 0, sL none 0 0] 22) :: ((b881, ce #[vI 0] 3) :: ((b882, ce #[vI 0, vI 1] 3) :: ((b883, ce #[vI 1] 3) :: ((b884, ce #[vI 1] 3) :: ((b885, ce #[vI 1, vI (-1), vI 4] 3) :: ((b886, ce #[vI 0, vI 0, vI 0, vI 2, vI 0, vI 0] 32) :: ((b888, ce #[vI 2, vI 2, vI 3] 3) :: ((b889, ce #[vI (k6 - 1)] 3) :: ((bw, ce (#[vI n5, vI n6, sL (aD ak) [de].length 1, sL (aD bu) 3 3, sL (aD ay) [(0, 0, 0), (2, 0, 0)].length 2]) 26) :: ((cu, ce #[sL (aD bd) 1 1, sL (aD bg) 2 2, sL (aD bh) 1 1, sL (aD bj) 1 1, sL none 0 0, sL none 0 0, sL none 0 0, sL none 0 0] 22) :: ((bd, ce #[vI 0] 3) :: ((bg, ce #[vI 0, vI 1] 3) :: ((bh, ce #[vI 1] 3) :: ((bj, ce #[vI 1] 3) :: ((bo, ce (#[vI n3, vI n4, sL (aD ar) [[[0], [0, 1], [1], [1], [], [], [], []]].length 1, sL (aD bc) 3 3, sL bk aa aa]) 26) :: ((cf, ce #[vI 0, vI 0, vI 0, vI 2, vI 0, vI 0] 32) :: ((aq, ce #[vI k6, vI (Int.tdiv (k6 + 1) 2), sL bl bm bn, sL av aw ax, sL (aD ao) (Int.toNat k6) (Int.toNat k6)] 26) :: (Lb892 ++ (Lb742 ++ (br ++ (Lb715 ++ (bb ++ (ae ++ (Lb560 ++ []))))))))))))))))))))))))))) (List.Perm.symm (fC (fC (fC (fC (fC (fC (fC (fC (fC (fC (fC (fC (fC (fC (fC (fC (fC (fC (fC (fC fP))))))))))))))))))))) (Aa ?_)
      obtain ⟨rfl, rfl, rfl, rfl⟩ := Rs r891
      exact mi (kd (kd (kd (kd (kd (kd (kd (kd (kd (kd (kd (kc (kd (kd (kd (kd (kd (kc (kd (kc (kx (kg (fS (fS (fS fP))) (kg (fS (fS (fS fP))) (kg (fS (fS (fS fP))) (kg (fS (fS fP)) (kg (fS fP) kr)))))))))))))))))))))))))) ⟨(aD ar), 1, (aD ak), 1, (aD ay), 2, ((((((((ei.trans df).trans cz).trans cr).trans cn).trans dg).trans ej).trans dh).trans di), rfl, z6, ez, lk, oz⟩
     have r895 := A3 h763 db
     obtain ⟨g896, r897⟩ := AF r895
     obtain ⟨ll, h898, r899⟩ := Az r897
     obtain ⟨p5, r901⟩ := AF r899
     obtain ⟨iv, h902, r903⟩ := Az r901
     obtain ⟨nj, r905⟩ := AF r903
     obtain ⟨iw, h907, r908⟩ := Az r905
     obtain ⟨p6, r910⟩ := AF r908
     obtain ⟨iy, h911, r912⟩ := Az r910
     obtain ⟨jf, r914⟩ := AF r912
     obtain ⟨n9, n10, y13, y14, y15, h915, r916⟩ := Ez r914
     obtain ⟨tq, r930⟩ := AF r916
     obtain ⟨iz, h933, r934⟩ := Az r930
     obtain ⟨nk, r936⟩ := AF r934
     refine AA [(16, vI k6), (17, pO aq), (204, vI k6), (247, .agg (#[vI n3, vI n4, sL (aD ar) [[[0], [0, 1], [1], [1], [], [], [], []]].length 1, sL (aD bc) 3 3, sL (aD cf) 2 2])), (20, pO bo), (248, vI k6), (249, sL bk aa aa), (250, .pointer (some ⟨bo, 4, none⟩)), (251, .agg (#[vI n5, vI n6, sL (aD ak) [de].length 1, sL (aD bu) 3 3, sL (aD ay) [(0, 0, 0), (2, 0, 0)].length 2])), (21, pO bw), (252, .pointer (some ⟨bw, 2, none⟩)), (253, sL (aD ak) [de].length 1), (254, vI k6), (255, sL ey de.length de.length), (256, pO ak)] (sc rfl (sc rfl (sc rfl (sc rfl (sc rfl (sc rfl (sc rfl z8))))))) ?_
     refine OB [⟨[], 257, fun _ => .agg #[vI k6, vI (Int.tdiv (k6 + 1) 2), sL bl bm bn, sL av aw ax, sL (aD ao) (Int.toNat k6) (Int.toNat k6)], fun _ => []⟩, ⟨[], 258, fun _ => vI k6, fun _ => []⟩, ⟨[1], 259, fun _ => vI (k6 - 1), fun _ => []⟩, ⟨[0, 1, 2], 260, fun _ => .bool ll, fun _ => []⟩, ⟨[0, 1, 2, 3], 261, fun _ => .bool (!ll), fun _ => []⟩, ⟨[0, 1, 2, 3, 4], 262, fun _ => .bool (!ll), fun _ => []⟩, ⟨[0, 1, 2, 3, 4, 5], 263, fun _ => .agg (#[vI n3, vI n4, sL (aD ar) [[[0], [0, 1], [1], [1], [], [], [], []]].length 1, sL (aD bc) 3 3, sL bk aa aa]), fun _ => []⟩, ⟨[0, 1, 2, 3, 4, 5, 6], 264, fun _ => .bool iv, fun _ => []⟩, ⟨[0, 1, 2, 3, 4, 5, 6, 7], 265, fun _ => .bool (!iv), fun _ => []⟩, ⟨[0, 1, 2, 3, 4, 5, 6, 7, 8], 266, fun _ => .bool (!iv), fun _ => []⟩, ⟨[0, 1, 2, 3, 4, 5, 6, 7, 8, 9], 267, fun _ => .bool (!iv), fun _ => []⟩, ⟨[0, 1, 2, 3, 4, 5, 6, 7, 8, 9, 10], 268, fun _ => .agg (#[vI n3, vI n4, sL (aD ar) [[[0], [0, 1], [1], [1], [], [], [], []]].length 1, sL (aD bc) 3 3, sL bk aa aa]), fun _ => []⟩, ⟨[0, 1, 2, 3, 4, 5, 6, 7, 8, 9, 10], 269, fun β => sL (aD (β 12 0)) 3 3, fun β => [((β 12 0), ce #[vI 2, vI 3, vI 4] 3)]⟩, ⟨[0, 1, 2, 3, 4, 5, 6, 7, 8, 9, 10, 11, 12], 270, fun _ => .bool iw, fun _ => []⟩, ⟨[0, 1, 2, 3, 4, 5, 6, 7, 8, 9, 10, 11, 12, 13], 271, fun _ => .bool (!iw), fun _ => []⟩, ⟨[0, 1, 2, 3, 4, 5, 6, 7, 8, 9, 10, 11, 12, 13, 14], 272, fun _ => .bool (!iw), fun _ => []⟩, ⟨[0, 1, 2, 3, 4, 5, 6, 7, 8, 9, 10, 11, 12, 13, 14, 15], 273, fun _ => .bool (!iw), fun _ => []⟩, ⟨[0, 1, 2, 3, 4, 5, 6, 7, 8, 9, 10, 11, 12, 13, 14, 15, 16], 274, fun _ => .agg (#[vI n5, vI n6, sL (aD ak) [de].length 1, sL (aD bu) 3 3, sL (aD ay) [(0, 0, 0), (2, 0, 0)].length 2]), fun _ => []⟩, ⟨[0, 1, 2, 3, 4, 5, 6, 7, 8, 9, 10, 11, 12, 13, 14, 15, 16, 17], 275, fun _ => .bool iy, fun _ => []⟩, ⟨[0, 1, 2, 3, 4, 5, 6, 7, 8, 9, 10, 11, 12, 13, 14, 15, 16, 17, 18], 276, fun _ => .bool (!iy), fun _ => []⟩, ⟨[0, 1, 2, 3, 4, 5, 6, 7, 8, 9, 10, 11, 12, 13, 14, 15, 16, 17, 18, 19], 277, fun _ => .bool (!iy), fun _ => []⟩, ⟨[0, 1, 2, 3, 4, 5, 6, 7, 8, 9, 10, 11, 12, 13, 14, 15, 16, 17, 18, 19, 20], 278, fun _ => .bool (!iy), fun _ => []⟩, ⟨[0, 1, 2, 3, 4, 5, 6, 7, 8, 9, 10, 11, 12, 13, 14, 15, 16, 17, 18, 19, 20, 21], 279, fun β => .agg #[vI n9, vI n10, sL (aD (β 22 0)) 1 1, sL (aD (β 22 6)) 3 3, sL (aD (β 22 7)) 2 2], fun β => [((β 22 0), ce #[sL (aD (β 22 1)) 8 8] 34), ((β 22 1), ce #[sL (aD (β 22 2)) 1 1, sL (aD (β 22 3)) 2 2, sL (aD (β 22 4)) 1 1, sL (aD (β 22 5)) 1 1, sL none 0 0, sL none 0 0, sL none 0 0, sL none 0 0] 22), ((β 22 2), ce #[vI 0] 3), ((β 22 3), ce #[vI 0, vI 1] 3), ((β 22 4), ce #[vI 1] 3), ((β 22 5), ce #[vI 1] 3), ((β 22 6), ce #[vI 1, vI (-1), vI 4] 3), ((β 22 7), ce #[vI 0, vI 0, vI 0, vI 2, vI 0, vI 0] 32)]⟩, ⟨[0, 1, 2, 3, 4, 5, 6, 7, 8, 9, 10, 11, 12, 13, 14, 15, 16, 17, 18, 19, 20, 21], 280, fun _ => vI k6, fun _ => []⟩, ⟨[0, 1, 2, 3, 4, 5, 6, 7, 8, 9, 10, 11, 12, 13, 14, 15, 16, 17, 18, 19, 20, 21, 23], 281, fun β => sL (aD (β 24 0)) (Int.toNat k6) (Int.toNat k6), fun β => [((β 24 0), ce (madeCells (.agg #[vI 0, vI 0, .bool false] : Value).cells ((Int.toNat k6) * 3)) 29)]⟩, ⟨[0, 1, 2, 3, 4, 5, 6, 7, 8, 9, 10, 11, 12, 13, 14, 15, 16, 17, 18, 19, 20, 21], 282, fun β => sL (aD (β 25 0)) 3 3, fun β => [((β 25 0), ce #[vI 2, vI 2, vI 3] 3)]⟩, ⟨[0, 1, 2, 3, 4, 5, 6, 7, 8, 9, 10, 11, 12, 13, 14, 15, 16, 17, 18, 19, 20, 21, 22, 23, 24, 25], 283, fun _ => .bool iz, fun _ => []⟩, ⟨[0, 1, 2, 3, 4, 5, 6, 7, 8, 9, 10, 11, 12, 13, 14, 15, 16, 17, 18, 19, 20, 21, 22, 23, 24, 25, 26], 284, fun _ => .bool (!iz), fun _ => []⟩, ⟨[0, 1, 2, 3, 4, 5, 6, 7, 8, 9, 10, 11, 12, 13, 14, 15, 16, 17, 18, 19, 20, 21, 22, 23, 24, 25, 26, 27], 285, fun _ => .bool (!iz), fun _ => []⟩, ⟨[0, 1, 2, 3, 4, 5, 6, 7, 8, 9, 10, 11, 12, 13, 14, 15, 16, 17, 18, 19, 20, 21, 22, 23, 24, 25, 26, 27, 28], 286, fun _ => .bool (!iz), fun _ => []⟩, ⟨[0, 1, 2, 3, 4, 5, 6, 7, 8, 9, 10, 11, 12, 13, 14, 15, 16, 17, 18, 19, 20, 21, 22, 23, 24, 25, 26, 27, 28, 29], 287, fun _ => vI k6, fun _ => []⟩, ⟨[0, 1, 2, 3, 4, 5, 6, 7, 8, 9, 10, 11, 12, 13, 14, 15, 16, 17, 18, 19, 20, 21, 22, 23, 24, 25, 26, 27, 28, 29, 30], 288, fun _ => .bool (decide (k6 < 5)), fun _ => []⟩, ⟨[0, 1, 2, 3, 4, 5, 6, 7, 8, 9, 10, 11, 12, 13, 14, 15, 16, 17, 18, 19, 20, 21, 22, 23, 24, 25, 26, 27, 28, 29, 30, 31], 289, fun _ => .bool (decide (k6 < 5)), fun _ => []⟩, ⟨[0, 1, 2, 3, 4, 5, 6, 7, 8, 9, 10, 11, 12, 13, 14, 15, 16, 17, 18, 19, 20, 21, 22, 23, 24, 25, 26, 27, 28, 29, 30, 31, 32], 290, fun _ => undef, fun _ => []⟩, ⟨[0, 1, 2, 3, 4, 5, 6, 7, 8, 9, 10, 11, 12, 13, 14, 15, 16, 17, 18, 19, 20, 21, 22, 23, 24, 25, 26, 27, 28, 29, 30, 31, 32], 291, fun _ => undef, fun _ => []⟩, ⟨[0, 1, 2, 3, 4, 5, 6, 7, 8, 9, 10, 11, 12, 13, 14, 15, 16, 17, 18, 19, 20, 21, 22, 23, 24, 25, 26, 27, 28, 29, 30, 31, 32, 34], 292, fun _ => undef, fun _ => []⟩, ⟨[0, 1, 2, 3, 4, 5, 6, 7, 8, 9, 10, 11, 12, 13, 14, 15, 16, 17, 18, 19, 20, 21, 22, 23, 24, 25, 26, 27, 28, 29, 30, 31, 32, 34, 35], 293, fun _ => undef, fun _ => []⟩, ⟨[0, 1, 2, 3, 4, 5, 6, 7, 8, 9, 10, 11, 12, 13, 14, 15, 16, 17, 18, 19, 20, 21, 22, 23, 24, 25, 26, 27, 28, 29, 30, 31, 32, 33, 34, 35, 36], 294, fun _ => undef, fun _ => []⟩, ⟨[0, 1, 2, 3, 4, 5, 6, 7, 8, 9, 10, 11, 12, 13, 14, 15, 16, 17, 18, 19, 20, 21, 22, 23, 24, 25, 26, 27, 28, 29, 30, 31, 32, 33, 34, 35, 36, 37], 295, fun _ => undef, fun _ => []⟩, ⟨[0, 1, 2, 3, 4, 5, 6, 7, 8, 9, 10, 11, 12, 13, 14, 15, 16, 17, 18, 19, 20, 21, 22, 23, 24, 25, 26, 27, 28, 29, 30, 31, 32, 33, 34, 35, 36, 37, 38], 296, fun _ => .bool false, fun _ => []⟩, ⟨[0, 1, 2, 3, 4, 5, 6, 7, 8, 9, 10, 11, 12, 13, 14, 15, 16, 17, 18, 19, 20, 21, 22, 23, 24, 25, 26, 27, 28, 29, 30, 31, 32, 33, 34, 35, 36, 37, 38, 39], 297, fun _ => .bool false, fun _ => []⟩] (by kernel_rfl) (by kernel_rfl) (.cons ?_ (.cons ?_ (.cons ?_ (.cons ?_ (.cons ?_ (.cons ?_ (.cons ?_ (.cons ?_ (.cons ?_ (.cons ?_ (.cons ?_ (.cons ?_ (.cons ?_ (.cons ?_ (.cons ?_ (.cons ?_ (.cons ?_ (.cons ?_ (.cons ?_ (.cons ?_ (.cons ?_ (.cons ?_ (.cons ?_ (.cons ?_ (.cons ?_ (.cons ?_ (.cons ?_ (.cons ?_ (.cons ?_ (.cons ?_ (.cons ?_ (.cons ?_ (.cons ?_ (.cons ?_ (.cons ?_ (.cons ?_ (.cons ?_ (.cons ?_ (.cons ?_ (.cons ?_ (.cons ?_ .nil))))))))))))))))))))))))))))))))))))))))) ?_
     ·refine ⟨fun β au h => by simp (disch := simp) only [and_self], _, rfl, fun β Lr Q hk => ?_⟩
      refine AB (lb (lb (lb (lb (lb (lb (lb (lb (lb (lp (lp (lp (lp (lp (lp (ln rfl)))))))))))))))) (uv (Cv isAgg26 sizeOf26 8) ?_)
      refine Aa ⟨rfl, _, rfl, hk (fun _ => K.w0.heap.size) (fun _ => Nat.le_refl _) _ (pT pR (lb (lb (lb (lb (lb (lb (lb (lb (lb (lp (lp (lp (lp (lp (lp (ln rfl)))))))))))))))))⟩
     ·refine ⟨fun β au h => by simp (disch := simp) only [and_self], _, rfl, fun β Lr Q hk => ?_⟩
      refine AB (lb (lb (lb (lb (lb (lb (lb (lb (lb (lp (lp (lp (lp (lp (lp (ln rfl)))))))))))))))) (um ?_)
      refine Aa ⟨rfl, _, rfl, hk (fun _ => K.w0.heap.size) (fun _ => Nat.le_refl _) _ (pT pR (lb (lb (lb (lb (lb (lb (lb (lb (lb (lp (lp (lp (lp (lp (lp (ln rfl)))))))))))))))))⟩
     ·refine ⟨fun β au h => by simp (disch := simp) only [and_self], _, rfl, fun β Lr Q hk => ?_⟩
      refine AB (lb (lb (lb (lb (lb (lb (lb (lb (lb (lp (lp (lp (lp (lp (lp (ln rfl)))))))))))))))) (uv (EU rfl rfl g896) ?_)
      refine Aa ⟨rfl, _, rfl, hk (fun _ => K.w0.heap.size) (fun _ => Nat.le_refl _) _ (pT pR (lb (lb (lb (lb (lb (lb (lb (lb (lb (lp (lp (lp (lp (lp (lp (ln rfl)))))))))))))))))⟩
     ·refine ⟨fun β au h => by simp (disch := simp) only [and_self], _, rfl, fun β Lr Q hk => ?_⟩
      refine AB (lb (lb (lb (lb (lb (lb (lb (lb (lb (lp (lp (lp (lp (lp (lp (ln rfl)))))))))))))))) ?_
      refine Bh rfl call5 rfl rfl rfl (pT ((fC (fC (fC (fC (fC (fC (fC (fC (fC (fS (fS (fS fP)))))))))))).trans (pA ((fC (fC (fC (fC (fC (fC (fC (fC (fC (fS (fS (fS fP)))))))))))).trans (pA ((fC (fC (fC (fC (fC (fC (fC (fC (fC (fS (fS (fS fP)))))))))))).trans (pA pR)))))) (lp (lp (lp (ln rfl))))) (fun F2 h2 h3 => by have h0 := BW (al.row kJ h2 (aL h3)) (ab.row kI h2 (aL (aR h3))) (ai.row (Ai kI kP) h2 (aL (aR (aR h3)))) h898; rw [← (Ev.A1 al).1] at h0; rw [← (AI.A1 ab).1] at h0; rw [← (AI.A1 ai).1] at h0; exact h0) ?_
      refine Aa ⟨rfl, _, rfl, hk (fun _ => K.w0.heap.size) (fun _ => Nat.le_refl _) _ (pT pR (lb (lb (lb (lb (lb (lb (lb (lb (lb (lp (lp (lp (lp (lp (lp (ln rfl)))))))))))))))))⟩
     ·refine ⟨fun β au h => by simp (disch := simp) only [and_self], _, rfl, fun β Lr Q hk => ?_⟩
      refine AB (lb (lb (lb (lb (lb (lb (lb (lb (lb (lp (lp (lp (lp (lp (lp (ln rfl)))))))))))))))) (uv (Bo rfl) ?_)
      refine Aa ⟨rfl, _, rfl, hk (fun _ => K.w0.heap.size) (fun _ => Nat.le_refl _) _ (pT pR (lb (lb (lb (lb (lb (lb (lb (lb (lb (lp (lp (lp (lp (lp (lp (ln rfl)))))))))))))))))⟩
     ·refine ⟨fun β au h => by simp (disch := simp) only [and_self], _, rfl, fun β Lr Q hk => ?_⟩
      refine AB (lb (lb (lb (lb (lb (lb (lb (lb (lb (lp (lp (lp (lp (lp (lp (ln rfl)))))))))))))))) (um ?_)
      refine Aa ⟨rfl, _, rfl, hk (fun _ => K.w0.heap.size) (fun _ => Nat.le_refl _) _ (pT pR (lb (lb (lb (lb (lb (lb (lb (lb (lb (lp (lp (lp (lp (lp (lp (ln rfl)))))))))))))))))⟩
     ·refine ⟨fun β au h => by simp (disch := simp) only [and_self], _, rfl, fun β Lr Q hk => ?_⟩
      refine AB (lb (lb (lb (lb (lb (lb (lb (lb (lb (lp (lp (lp (lp (lp (lp (ln rfl)))))))))))))))) (nB p5 (uv (Cv isAgg26 sizeOf26 6) ?_))
      refine Aa ⟨rfl, _, rfl, hk (fun _ => K.w0.heap.size) (fun _ => Nat.le_refl _) _ (pT pR (lb (lb (lb (lb (lb (lb (lb (lb (lb (lp (lp (lp (lp (lp (lp (ln rfl)))))))))))))))))⟩
     ·refine ⟨fun β au h => by simp (disch := simp) only [and_self], _, rfl, fun β Lr Q hk => ?_⟩
      refine AB (lb (lb (lb (lb (lb (lb (lb (lb (lb (lp (lp (lp (lp (lp (lp (ln rfl)))))))))))))))) (nB p5 ?_)
      refine Bh rfl call5 rfl rfl rfl (pT ((fC (fC (fC (fC (fC (fC (fC (fC (fC (fS (fS fP))))))))))).trans (pA ((fC (fC (fC (fC (fC (fC (fC (fC (fC (fS fP)))))))))).trans (pA pR)))) (lp (lp (ln rfl)))) (fun F2 h2 h3 => by have h0 := BW (ez.mono (Ay kJ) h2) (ad.row kI h2 (aL h3)) (ah.row (Ai kI kP) h2 (aL (aR h3))) h902; rw [← (AI.A1 ad).1] at h0; rw [← (AI.A1 ah).1] at h0; exact h0) ?_
      refine Aa ⟨rfl, _, rfl, hk (fun _ => K.w0.heap.size) (fun _ => Nat.le_refl _) _ (pT pR (lb (lb (lb (lb (lb (lb (lb (lb (lb (lp (lp (lp (lp (lp (lp (ln rfl)))))))))))))))))⟩
     ·refine ⟨fun β au h => by simp (disch := simp) only [and_self], _, rfl, fun β Lr Q hk => ?_⟩
      refine AB (lb (lb (lb (lb (lb (lb (lb (lb (lb (lp (lp (lp (lp (lp (lp (ln rfl)))))))))))))))) (nB p5 (uv (Bo rfl) ?_))
      refine Aa ⟨rfl, _, rfl, hk (fun _ => K.w0.heap.size) (fun _ => Nat.le_refl _) _ (pT pR (lb (lb (lb (lb (lb (lb (lb (lb (lb (lp (lp (lp (lp (lp (lp (ln rfl)))))))))))))))))⟩
     ·refine ⟨fun β au h => by simp (disch := simp) only [and_self], _, rfl, fun β Lr Q hk => ?_⟩
      refine AB (lb (lb (lb (lb (lb (lb (lb (lb (lb (lp (lp (lp (lp (lp (lp (ln rfl)))))))))))))))) (uv (AE (FK rfl p5) rfl) ?_)
      refine Aa ⟨rfl, _, rfl, hk (fun _ => K.w0.heap.size) (fun _ => Nat.le_refl _) _ (pT pR (lb (lb (lb (lb (lb (lb (lb (lb (lb (lp (lp (lp (lp (lp (lp (ln rfl)))))))))))))))))⟩
     ·refine ⟨fun β au h => by simp (disch := simp) only [and_self], _, rfl, fun β Lr Q hk => ?_⟩
      refine AB (lb (lb (lb (lb (lb (lb (lb (lb (lb (lp (lp (lp (lp (lp (lp (ln rfl)))))))))))))))) (um ?_)
      refine Aa ⟨rfl, _, rfl, hk (fun _ => K.w0.heap.size) (fun _ => Nat.le_refl _) _ (pT pR (lb (lb (lb (lb (lb (lb (lb (lb (lb (lp (lp (lp (lp (lp (lp (ln rfl)))))))))))))))))⟩
     ·refine ⟨fun β au h => by simp (disch := simp) only [and_self], _, rfl, fun β Lr Q hk => ?_⟩
      refine AB (lb (lb (lb (lb (lb (lb (lb (lb (lb (lp (lp (lp (lp (lp (lp (ln rfl)))))))))))))))) (nB nj (uv (Cv isAgg26 sizeOf26 6) ?_))
      refine Aa ⟨rfl, _, rfl, hk (fun _ => K.w0.heap.size) (fun _ => Nat.le_refl _) _ (pT pR (lb (lb (lb (lb (lb (lb (lb (lb (lb (lp (lp (lp (lp (lp (lp (ln rfl)))))))))))))))))⟩
     ·refine ⟨fun β au h => by simp (disch := simp) only [h, and_self], _, rfl, fun β Lr Q hk => ?_⟩
      refine AB (lb (lb (lb (lb (lb (lb (lb (lb (lb (lp (lp (lp (lp (lp (lp (ln rfl)))))))))))))))) (nB nj ?_)
      refine bA (cs := #[vI 2, vI 3, vI 4]) Bm [vI 2, vI 3, vI 4] ?_; intro b952 hb952
      refine Aa ⟨rfl, _, rfl, hk (fun _ => b952) (fun _ => hb952) _ (pT pR (lb (lb (lb (lb (lb (lb (lb (lb (lb (lb (lp (lp (lp (lp (lp (lp (ln rfl))))))))))))))))))⟩
     ·refine ⟨fun β au h => by simp (disch := simp) only [and_self], _, rfl, fun β Lr Q hk => ?_⟩
      refine AB (lb (lb (lb (lb (lb (lb (lb (lb (lb (lp (lp (lp (lp (lp (lp (ln rfl)))))))))))))))) (kO (kc (kc (kc (kc (kc (kc (kc (kc (kc (kf (fS (fS (fS (fS (fS (fS fO)))))) kr)))))))))) (nB nj ?_))
      refine Bh rfl call6 rfl rfl rfl (pT ((fC (fC (fC (fC (fC (fC (fC (fC (fC (fC (fS (fS fP)))))))))))).trans (pA ((fC (fC (fC (fC (fC (fC (fC (fC (fC (fC (fS fP))))))))))).trans (pA ((fC (fC (fC (fC (fC (fC (fC (fC (fC fO))))))))).trans (pC pR)))))) (lp (lp (lb (ln rfl))))) (fun F2 h2 h3 => by have h0 := Eb (ez.mono (Ay kJ) h2) (ad.row kI h2 (aL h3)) (ah.row (Ai kI kP) h2 (aL (aR h3))) (At.Bd kI (vss := [[vI 2], [vI 3], [vI 4]]) (xs := ([2, 3, 4] : List Int)) (h3 ((β 12 0), ce #[vI 2, vI 3, vI 4] 3) (List.mem_append_right _ (List.mem_append_right _ mz))) (.cons rfl (.cons rfl (.cons rfl .nil))) rfl (by simp [maxLen])) h907; rw [← (AI.A1 ad).1] at h0; rw [← (AI.A1 ah).1] at h0; exact h0) ?_
      refine Aa ⟨rfl, _, rfl, hk (fun _ => K.w0.heap.size) (fun _ => Nat.le_refl _) _ (pT (pC (pC (pC (pC (pC (pC (pC (pC (pC ((fC fP).trans (pA ((fC fP).trans (pA ((fC fP).trans (pA ((fC fP).trans (pA ((fC fP).trans (pA ((fC fP).trans (pA pR))))))))))))))))))))) (lb (lb (lb (lb (lb (lb (lb (lb (lb (lp (lp (lp (lp (lp (lp (ln rfl)))))))))))))))))⟩
     ·refine ⟨fun β au h => by simp (disch := simp) only [and_self], _, rfl, fun β Lr Q hk => ?_⟩
      refine AB (lb (lb (lb (lb (lb (lb (lb (lb (lb (lp (lp (lp (lp (lp (lp (ln rfl)))))))))))))))) (kO (kc (kc (kc (kc (kc (kc (kc (kc (kc (kf (fS (fS (fS (fS (fS (fS fO)))))) kr)))))))))) (nB nj (uv (Bo rfl) ?_)))
      refine Aa ⟨rfl, _, rfl, hk (fun _ => K.w0.heap.size) (fun _ => Nat.le_refl _) _ (pT (pC (pC (pC (pC (pC (pC (pC (pC (pC ((fC fP).trans (pA ((fC fP).trans (pA ((fC fP).trans (pA ((fC fP).trans (pA ((fC fP).trans (pA ((fC fP).trans (pA pR))))))))))))))))))))) (lb (lb (lb (lb (lb (lb (lb (lb (lb (lp (lp (lp (lp (lp (lp (ln rfl)))))))))))))))))⟩
     ·refine ⟨fun β au h => by simp (disch := simp) only [and_self], _, rfl, fun β Lr Q hk => ?_⟩
      refine AB (lb (lb (lb (lb (lb (lb (lb (lb (lb (lp (lp (lp (lp (lp (lp (ln rfl)))))))))))))))) (kO (kc (kc (kc (kc (kc (kc (kc (kc (kc (kf (fS (fS (fS (fS (fS (fS fO)))))) kr)))))))))) (uv (AE (FK rfl nj) rfl) ?_))
      refine Aa ⟨rfl, _, rfl, hk (fun _ => K.w0.heap.size) (fun _ => Nat.le_refl _) _ (pT (pC (pC (pC (pC (pC (pC (pC (pC (pC ((fC fP).trans (pA ((fC fP).trans (pA ((fC fP).trans (pA ((fC fP).trans (pA ((fC fP).trans (pA ((fC fP).trans (pA pR))))))))))))))))))))) (lb (lb (lb (lb (lb (lb (lb (lb (lb (lp (lp (lp (lp (lp (lp (ln rfl)))))))))))))))))⟩
     ·refine ⟨fun β au h => by simp (disch := simp) only [and_self], _, rfl, fun β Lr Q hk => ?_⟩
      refine AB (lb (lb (lb (lb (lb (lb (lb (lb (lb (lp (lp (lp (lp (lp (lp (ln rfl)))))))))))))))) (kO (kc (kc (kc (kc (kc (kc (kc (kc (kc (kf (fS (fS (fS (fS (fS (fS fO)))))) kr)))))))))) (um ?_))
      refine Aa ⟨rfl, _, rfl, hk (fun _ => K.w0.heap.size) (fun _ => Nat.le_refl _) _ (pT (pC (pC (pC (pC (pC (pC (pC (pC (pC ((fC fP).trans (pA ((fC fP).trans (pA ((fC fP).trans (pA ((fC fP).trans (pA ((fC fP).trans (pA ((fC fP).trans (pA pR))))))))))))))))))))) (lb (lb (lb (lb (lb (lb (lb (lb (lb (lp (lp (lp (lp (lp (lp (ln rfl)))))))))))))))))⟩
     ·refine ⟨fun β au h => by simp (disch := simp) only [and_self], _, rfl, fun β Lr Q hk => ?_⟩
      refine AB (lb (lb (lb (lb (lb (lb (lb (lb (lb (lp (lp (lp (lp (lp (lp (ln rfl)))))))))))))))) (kO (kc (kc (kc (kc (kc (kc (kc (kc (kc (kf (fS (fS (fS (fS (fS (fS fO)))))) kr)))))))))) (nB p6 (uv (Cv isAgg26 sizeOf26 0) ?_)))
      refine Aa ⟨rfl, _, rfl, hk (fun _ => K.w0.heap.size) (fun _ => Nat.le_refl _) _ (pT (pC (pC (pC (pC (pC (pC (pC (pC (pC ((fC fP).trans (pA ((fC fP).trans (pA ((fC fP).trans (pA ((fC fP).trans (pA ((fC fP).trans (pA ((fC fP).trans (pA pR))))))))))))))))))))) (lb (lb (lb (lb (lb (lb (lb (lb (lb (lp (lp (lp (lp (lp (lp (ln rfl)))))))))))))))))⟩
     ·refine ⟨fun β au h => by simp (disch := simp) only [and_self], _, rfl, fun β Lr Q hk => ?_⟩
      refine AB (lb (lb (lb (lb (lb (lb (lb (lb (lb (lp (lp (lp (lp (lp (lp (ln rfl)))))))))))))))) (kO (kc (kc (kc (kc (kc (kc (kc (kc (kc (kf (fS (fS (fS (fS (fS (fS fO)))))) kr)))))))))) (nB p6 ?_))
      refine Bh rfl call5 rfl rfl rfl (pT ((fC (fC (fC (fC (fC (fC (fC (fC (fC (fC fP)))))))))).trans (pA pR)) (lp (ln rfl))) (fun F2 h2 h3 => by have h0 := BW (lk.mono (Ay kJ) h2) (aj.row kI h2 (aL h3)) (oz.mono (Ai kI kP) h2) h911; rw [← (AI.A1 aj).1] at h0; exact h0) ?_
      refine Aa ⟨rfl, _, rfl, hk (fun _ => K.w0.heap.size) (fun _ => Nat.le_refl _) _ (pT (pC (pC (pC (pC (pC (pC (pC (pC (pC ((fC fP).trans (pA ((fC fP).trans (pA ((fC fP).trans (pA ((fC fP).trans (pA ((fC fP).trans (pA ((fC fP).trans (pA pR))))))))))))))))))))) (lb (lb (lb (lb (lb (lb (lb (lb (lb (lp (lp (lp (lp (lp (lp (ln rfl)))))))))))))))))⟩
     ·refine ⟨fun β au h => by simp (disch := simp) only [and_self], _, rfl, fun β Lr Q hk => ?_⟩
      refine AB (lb (lb (lb (lb (lb (lb (lb (lb (lb (lp (lp (lp (lp (lp (lp (ln rfl)))))))))))))))) (kO (kc (kc (kc (kc (kc (kc (kc (kc (kc (kf (fS (fS (fS (fS (fS (fS fO)))))) kr)))))))))) (nB p6 (uv (Bo rfl) ?_)))
      refine Aa ⟨rfl, _, rfl, hk (fun _ => K.w0.heap.size) (fun _ => Nat.le_refl _) _ (pT (pC (pC (pC (pC (pC (pC (pC (pC (pC ((fC fP).trans (pA ((fC fP).trans (pA ((fC fP).trans (pA ((fC fP).trans (pA ((fC fP).trans (pA ((fC fP).trans (pA pR))))))))))))))))))))) (lb (lb (lb (lb (lb (lb (lb (lb (lb (lp (lp (lp (lp (lp (lp (ln rfl)))))))))))))))))⟩
     ·refine ⟨fun β au h => by simp (disch := simp) only [and_self], _, rfl, fun β Lr Q hk => ?_⟩
      refine AB (lb (lb (lb (lb (lb (lb (lb (lb (lb (lp (lp (lp (lp (lp (lp (ln rfl)))))))))))))))) (kO (kc (kc (kc (kc (kc (kc (kc (kc (kc (kf (fS (fS (fS (fS (fS (fS fO)))))) kr)))))))))) (uv (AE (FK rfl p6) rfl) ?_))
      refine Aa ⟨rfl, _, rfl, hk (fun _ => K.w0.heap.size) (fun _ => Nat.le_refl _) _ (pT (pC (pC (pC (pC (pC (pC (pC (pC (pC ((fC fP).trans (pA ((fC fP).trans (pA ((fC fP).trans (pA ((fC fP).trans (pA ((fC fP).trans (pA ((fC fP).trans (pA pR))))))))))))))))))))) (lb (lb (lb (lb (lb (lb (lb (lb (lb (lp (lp (lp (lp (lp (lp (ln rfl)))))))))))))))))⟩
     ·refine ⟨fun β au h => by simp (disch := simp) only [and_self], _, rfl, fun β Lr Q hk => ?_⟩
      refine AB (lb (lb (lb (lb (lb (lb (lb (lb (lb (lp (lp (lp (lp (lp (lp (ln rfl)))))))))))))))) (kO (kc (kc (kc (kc (kc (kc (kc (kc (kc (kf (fS (fS (fS (fS (fS (fS fO)))))) kr)))))))))) (um ?_))
      refine Aa ⟨rfl, _, rfl, hk (fun _ => K.w0.heap.size) (fun _ => Nat.le_refl _) _ (pT (pC (pC (pC (pC (pC (pC (pC (pC (pC ((fC fP).trans (pA ((fC fP).trans (pA ((fC fP).trans (pA ((fC fP).trans (pA ((fC fP).trans (pA ((fC fP).trans (pA pR))))))))))))))))))))) (lb (lb (lb (lb (lb (lb (lb (lb (lb (lp (lp (lp (lp (lp (lp (ln rfl)))))))))))))))))⟩
     ·refine ⟨fun β au h => by simp (disch := simp) only [h, and_self], _, rfl, fun β Lr Q hk => ?_⟩
      refine AB (lb (lb (lb (lb (lb (lb (lb (lb (lb (lp (lp (lp (lp (lp (lp (ln rfl)))))))))))))))) (kO (kc (kc (kc (kc (kc (kc (kc (kc (kc (kf (fS (fS (fS (fS (fS (fS fO)))))) kr)))))))))) (nB jf ?_))
      refine c0 call4 (D7 h915) ?_; rintro _ _ _ hF954 ew ⟨b957, b958, b959, b960, b961, b962, b963, b964, rfl, rfl, rfl⟩
      have hb957 := ew _ mz
      have hb958 := ew _ (my mz)
      have hb959 := ew _ (my (my mz))
      have hb960 := ew _ (my (my (my mz)))
      have hb961 := ew _ (my (my (my (my mz))))
      have hb962 := ew _ (my (my (my (my (my mz)))))
      have hb963 := ew _ (my (my (my (my (my (my mz))))))
      have hb964 := ew _ (my (my (my (my (my (my (my mz)))))))
      refine AB (lb (lb (lb (lb (lb (lb (lb (lb (ln rfl))))))))) ?_
      refine Aa ⟨rfl, _, rfl, hk (fun k => [b957, b958, b959, b960, b961, b962, b963, b964].getD k K.w0.heap.size) (Th (fc hb957 (fc hb958 (fc hb959 (fc hb960 (fc hb961 (fc hb962 (fc hb963 (fc hb964 (fun _ h => nomatch h)))))))))) _ (pT (pC (pC (pC (pC (pC (pC (pC (pC (pC (pC (pC (pC (pC (pC (pC (pC (pC ((fC fP).trans (pA ((fC fP).trans (pA ((fC fP).trans (pA ((fC fP).trans (pA ((fC fP).trans (pA ((fC fP).trans (pA pR))))))))))))))))))))))))))))) (lb (lb (lb (lb (lb (lb (lb (lb (lb (lb (lb (lb (lb (lb (lb (lb (lb (lp (lp (lp (lp (lp (lp (ln rfl)))))))))))))))))))))))))⟩
     ·refine ⟨fun β au h => by simp (disch := simp) only [and_self], _, rfl, fun β Lr Q hk => ?_⟩
      refine AB (lb (lb (lb (lb (lb (lb (lb (lb (lb (lp (lp (lp (lp (lp (lp (ln rfl)))))))))))))))) (kO (kc (kc (kc (kc (kc (kc (kc (kc (kc (kf (fS (fS (fS (fS (fS (fS fO)))))) kr)))))))))) ?_)
      refine nB jf (um ?_)
      refine Aa ⟨rfl, _, rfl, hk (fun _ => K.w0.heap.size) (fun _ => Nat.le_refl _) _ (pT (pC (pC (pC (pC (pC (pC (pC (pC (pC ((fC fP).trans (pA ((fC fP).trans (pA ((fC fP).trans (pA ((fC fP).trans (pA ((fC fP).trans (pA ((fC fP).trans (pA pR))))))))))))))))))))) (lb (lb (lb (lb (lb (lb (lb (lb (lb (lp (lp (lp (lp (lp (lp (ln rfl)))))))))))))))))⟩
     ·refine ⟨fun β au h => by simp (disch := simp) only [h, and_self], _, rfl, fun β Lr Q hk => ?_⟩
      refine AB (lb (lb (lb (lb (lb (lb (lb (lb (lb (lp (lp (lp (lp (lp (lp (ln rfl)))))))))))))))) (kO (kc (kc (kc (kc (kc (kc (kc (kc (kc (kf (fS (fS (fS (fS (fS (fS fO)))))) kr)))))))))) (nB jf ?_))
      refine RX rfl (NP K8 (by decide) rfl tq) ?_; intro b965 hb965
      refine AB rfl ?_
      refine Aa ⟨rfl, _, rfl, hk (fun _ => b965) (fun _ => hb965) _ (pT (pC (pC (pC (pC (pC (pC (pC (pC (pC (pC ((fC fP).trans (pA ((fC fP).trans (pA ((fC fP).trans (pA ((fC fP).trans (pA ((fC fP).trans (pA ((fC fP).trans (pA pR)))))))))))))))))))))) (lb (lb (lb (lb (lb (lb (lb (lb (lb (lb (lp (lp (lp (lp (lp (lp (ln rfl))))))))))))))))))⟩
     ·refine ⟨fun β au h => by simp (disch := simp) only [h, and_self], _, rfl, fun β Lr Q hk => ?_⟩
      refine AB (lb (lb (lb (lb (lb (lb (lb (lb (lb (lp (lp (lp (lp (lp (lp (ln rfl)))))))))))))))) (kO (kc (kc (kc (kc (kc (kc (kc (kc (kc (kf (fS (fS (fS (fS (fS (fS fO)))))) kr)))))))))) (nB jf ?_))
      refine bA (cs := #[vI 2, vI 2, vI 3]) Bm [vI 2, vI 2, vI 3] ?_; intro b966 hb966
      refine Aa ⟨rfl, _, rfl, hk (fun _ => b966) (fun _ => hb966) _ (pT (pC (pC (pC (pC (pC (pC (pC (pC (pC (pC ((fC fP).trans (pA ((fC fP).trans (pA ((fC fP).trans (pA ((fC fP).trans (pA ((fC fP).trans (pA ((fC fP).trans (pA pR)))))))))))))))))))))) (lb (lb (lb (lb (lb (lb (lb (lb (lb (lb (lp (lp (lp (lp (lp (lp (ln rfl))))))))))))))))))⟩
     ·refine ⟨fun β au h => by simp (disch := simp) only [and_self], _, rfl, fun β Lr Q hk => ?_⟩
      refine AB (lb (lb (lb (lb (lb (lb (lb (lb (lb (lp (lp (lp (lp (lp (lp (ln rfl)))))))))))))))) (kO (kc (kc (kc (kc (kc (kc (kc (kc (kc (kf (fS (fS (fS (fS (fS (fS fO)))))) (kf (fS (fS (fS (fS (fS (fS fO)))))) (kf (fS (fS (fS (fS (fS (fS fO)))))) (kf (fS (fS (fS (fS (fS (fS fO)))))) (kf (fS (fS (fS (fS (fS (fS fO)))))) (kf (fS (fS (fS (fS (fS (fS fO)))))) (kf (fS (fS (fS (fS (fS (fS fO)))))) (kf (fS (fS (fS (fS (fS (fS fO)))))) (kf (fS (fS (fS (fS (fS (fS fO)))))) (kf (fS (fS (fS (fS (fS (fS fO)))))) (kf (fS (fS (fS (fS (fS (fS fO)))))) kr)))))))))))))))))))) (nB jf ?_))
      refine Bh rfl call8 rfl rfl rfl (pT ((fC (fC (fC (fC (fC (fC (fC (fC (fC (fC fO)))))))))).trans (pC ((fC (fC (fC (fC (fC (fC (fC (fC (fC (fC fO)))))))))).trans (pC ((fC (fC (fC (fC (fC (fC (fC (fC (fC (fC fO)))))))))).trans (pC ((fC (fC (fC (fC (fC (fC (fC (fC (fC (fC fO)))))))))).trans (pC ((fC (fC (fC (fC (fC (fC (fC (fC (fC (fC fO)))))))))).trans (pC ((fC (fC (fC (fC (fC (fC (fC (fC (fC (fC fO)))))))))).trans (pC ((fC (fC (fC (fC (fC (fC (fC (fC (fC (fC fO)))))))))).trans (pC ((fC (fC (fC (fC (fC (fC (fC (fC (fC (fC fO)))))))))).trans (pC ((fC (fC (fC (fC (fC (fC (fC (fC (fC (fC fO)))))))))).trans (pC ((fC (fC (fC (fC (fC (fC (fC (fC (fC (fC fO)))))))))).trans (pC pR)))))))))))))))))))) (lb (lb (lb (lb (lb (lb (lb (lb (lb (lb (ln rfl)))))))))))) (fun F2 h2 h3 => by have h0 := DJ (At.Bd (Ay kJ) (vss := [[sL (aD (β 22 1)) 8 8]]) (xs := ([[[0], [0, 1], [1], [1], [], [], [], []]] : List (List (List Int)))) (h3 ((β 22 0), ce #[sL (aD (β 22 1)) 8 8] 34) mz) (.cons ⟨_, _, rfl, (At.Bd kJ (vss := [[sL (aD (β 22 2)) 1 1], [sL (aD (β 22 3)) 2 2], [sL (aD (β 22 4)) 1 1], [sL (aD (β 22 5)) 1 1], [sL none 0 0], [sL none 0 0], [sL none 0 0], [sL none 0 0]]) (xs := ([[0], [0, 1], [1], [1], [], [], [], []] : List (List Int))) (h3 ((β 22 1), ce #[sL (aD (β 22 2)) 1 1, sL (aD (β 22 3)) 2 2, sL (aD (β 22 4)) 1 1, sL (aD (β 22 5)) 1 1, sL none 0 0, sL none 0 0, sL none 0 0, sL none 0 0] 22) (my mz)) (.cons ⟨_, _, rfl, (At.Bd kI (vss := [[vI 0]]) (xs := ([0] : List Int)) (h3 ((β 22 2), ce #[vI 0] 3) (my (my mz))) (.cons rfl .nil) rfl (by simp [maxLen]))⟩ (.cons ⟨_, _, rfl, (At.Bd kI (vss := [[vI 0], [vI 1]]) (xs := ([0, 1] : List Int)) (h3 ((β 22 3), ce #[vI 0, vI 1] 3) (my (my (my mz)))) (.cons rfl (.cons rfl .nil)) rfl (by simp [maxLen]))⟩ (.cons ⟨_, _, rfl, (At.Bd kI (vss := [[vI 1]]) (xs := ([1] : List Int)) (h3 ((β 22 4), ce #[vI 1] 3) (my (my (my (my mz))))) (.cons rfl .nil) rfl (by simp [maxLen]))⟩ (.cons ⟨_, _, rfl, (At.Bd kI (vss := [[vI 1]]) (xs := ([1] : List Int)) (h3 ((β 22 5), ce #[vI 1] 3) (my (my (my (my (my mz)))))) (.cons rfl .nil) rfl (by simp [maxLen]))⟩ (.cons ⟨_, _, rfl, At.nil _ _ _⟩ (.cons ⟨_, _, rfl, At.nil _ _ _⟩ (.cons ⟨_, _, rfl, At.nil _ _ _⟩ (.cons ⟨_, _, rfl, At.nil _ _ _⟩ .nil)))))))) rfl (by simp [maxLen]))⟩ .nil) rfl (by simp [maxLen])) (At.Bd kI (vss := [[vI 1], [vI (-1)], [vI 4]]) (xs := ([1, -1, 4] : List Int)) (h3 ((β 22 6), ce #[vI 1, vI (-1), vI 4] 3) (my (my (my (my (my (my mz))))))) (.cons rfl (.cons rfl (.cons rfl .nil))) rfl (by simp [maxLen])) (At.Bd (Ai kI kP) (vss := [[vI 0, vI 0, vI 0], [vI 2, vI 0, vI 0]]) (xs := ([(0, 0, 0), (2, 0, 0)] : List (Int × Int × Int))) (h3 ((β 22 7), ce #[vI 0, vI 0, vI 0, vI 2, vI 0, vI 0] 32) (my (my (my (my (my (my (my mz)))))))) (.cons ⟨_, _, rfl, rfl, ⟨_, _, rfl, rfl, rfl⟩⟩ (.cons ⟨_, _, rfl, rfl, ⟨_, _, rfl, rfl, rfl⟩⟩ .nil)) rfl (by simp [maxLen])) (show At 3 (Br eI (Br eI bE)) F2 (aD (β 24 0)) (Int.toNat k6) (List.replicate (Int.toNat k6) (0, 0, false) : List (Int × Int × Bool)) from (AI.made (nb := 0) (E := 29) (F := F2) (Ai kI (Ai kI Be)) (by decide) (fun _ => ⟨_, _, rfl, rfl, ⟨_, _, rfl, rfl, rfl⟩⟩) (Nat.zero_le _) (Nm tq)).row (Ai kI (Ai kI Be)) (AQ.refl _) fun p hp => by rw [List.mem_singleton.1 hp]; exact (h3 ((β 24 0), ce (madeCells (.agg #[vI 0, vI 0, .bool false] : Value).cells ((Int.toNat k6) * 3)) 29) (my (my (my (my (my (my (my (my mz)))))))))) (At.Bd kI (vss := [[vI 2], [vI 2], [vI 3]]) (xs := ([2, 2, 3] : List Int)) (h3 ((β 25 0), ce #[vI 2, vI 2, vI 3] 3) (my (my (my (my (my (my (my (my (my mz)))))))))) (.cons rfl (.cons rfl (.cons rfl .nil))) rfl (by simp [maxLen])) h933; rw [List.length_replicate] at h0; exact h0) ?_
      refine Aa ⟨rfl, _, rfl, hk (fun _ => K.w0.heap.size) (fun _ => Nat.le_refl _) _ (pT (pC (pC (pC (pC (pC (pC (pC (pC (pC ((fC (fC (fC (fC (fC (fC (fC (fC (fC (fC (fC fP))))))))))).trans (pA ((fC (fC (fC (fC (fC (fC (fC (fC (fC (fC (fC fP))))))))))).trans (pA ((fC (fC (fC (fC (fC (fC (fC (fC (fC (fC (fC fP))))))))))).trans (pA ((fC (fC (fC (fC (fC (fC (fC (fC (fC (fC (fC fP))))))))))).trans (pA ((fC (fC (fC (fC (fC (fC (fC (fC (fC (fC (fC fP))))))))))).trans (pA ((fC (fC (fC (fC (fC (fC (fC (fC (fC (fC (fC fP))))))))))).trans (pA pR))))))))))))))))))))) (lb (lb (lb (lb (lb (lb (lb (lb (lb (lp (lp (lp (lp (lp (lp (ln rfl)))))))))))))))))⟩
     ·refine ⟨fun β au h => by simp (disch := simp) only [and_self], _, rfl, fun β Lr Q hk => ?_⟩
      refine AB (lb (lb (lb (lb (lb (lb (lb (lb (lb (lp (lp (lp (lp (lp (lp (ln rfl)))))))))))))))) (kO (kc (kc (kc (kc (kc (kc (kc (kc (kc (kf (fS (fS (fS (fS (fS (fS fO)))))) (kf (fS (fS (fS (fS (fS (fS fO)))))) (kf (fS (fS (fS (fS (fS (fS fO)))))) (kf (fS (fS (fS (fS (fS (fS fO)))))) (kf (fS (fS (fS (fS (fS (fS fO)))))) (kf (fS (fS (fS (fS (fS (fS fO)))))) (kf (fS (fS (fS (fS (fS (fS fO)))))) (kf (fS (fS (fS (fS (fS (fS fO)))))) (kf (fS (fS (fS (fS (fS (fS fO)))))) (kf (fS (fS (fS (fS (fS (fS fO)))))) (kf (fS (fS (fS (fS (fS (fS fO)))))) kr)))))))))))))))))))) (nB jf (uv (Bo rfl) ?_)))
      refine Aa ⟨rfl, _, rfl, hk (fun _ => K.w0.heap.size) (fun _ => Nat.le_refl _) _ (pT (pC (pC (pC (pC (pC (pC (pC (pC (pC ((fC (fC (fC (fC (fC (fC (fC (fC (fC (fC (fC fP))))))))))).trans (pA ((fC (fC (fC (fC (fC (fC (fC (fC (fC (fC (fC fP))))))))))).trans (pA ((fC (fC (fC (fC (fC (fC (fC (fC (fC (fC (fC fP))))))))))).trans (pA ((fC (fC (fC (fC (fC (fC (fC (fC (fC (fC (fC fP))))))))))).trans (pA ((fC (fC (fC (fC (fC (fC (fC (fC (fC (fC (fC fP))))))))))).trans (pA ((fC (fC (fC (fC (fC (fC (fC (fC (fC (fC (fC fP))))))))))).trans (pA pR))))))))))))))))))))) (lb (lb (lb (lb (lb (lb (lb (lb (lb (lp (lp (lp (lp (lp (lp (ln rfl)))))))))))))))))⟩
     ·refine ⟨fun β au h => by simp (disch := simp) only [and_self], _, rfl, fun β Lr Q hk => ?_⟩
      refine AB (lb (lb (lb (lb (lb (lb (lb (lb (lb (lp (lp (lp (lp (lp (lp (ln rfl)))))))))))))))) (kO (kc (kc (kc (kc (kc (kc (kc (kc (kc (kf (fS (fS (fS (fS (fS (fS fO)))))) (kf (fS (fS (fS (fS (fS (fS fO)))))) (kf (fS (fS (fS (fS (fS (fS fO)))))) (kf (fS (fS (fS (fS (fS (fS fO)))))) (kf (fS (fS (fS (fS (fS (fS fO)))))) (kf (fS (fS (fS (fS (fS (fS fO)))))) (kf (fS (fS (fS (fS (fS (fS fO)))))) (kf (fS (fS (fS (fS (fS (fS fO)))))) (kf (fS (fS (fS (fS (fS (fS fO)))))) (kf (fS (fS (fS (fS (fS (fS fO)))))) (kf (fS (fS (fS (fS (fS (fS fO)))))) kr)))))))))))))))))))) (uv (AE (FK rfl jf) rfl) ?_))
      refine Aa ⟨rfl, _, rfl, hk (fun _ => K.w0.heap.size) (fun _ => Nat.le_refl _) _ (pT (pC (pC (pC (pC (pC (pC (pC (pC (pC ((fC (fC (fC (fC (fC (fC (fC (fC (fC (fC (fC fP))))))))))).trans (pA ((fC (fC (fC (fC (fC (fC (fC (fC (fC (fC (fC fP))))))))))).trans (pA ((fC (fC (fC (fC (fC (fC (fC (fC (fC (fC (fC fP))))))))))).trans (pA ((fC (fC (fC (fC (fC (fC (fC (fC (fC (fC (fC fP))))))))))).trans (pA ((fC (fC (fC (fC (fC (fC (fC (fC (fC (fC (fC fP))))))))))).trans (pA ((fC (fC (fC (fC (fC (fC (fC (fC (fC (fC (fC fP))))))))))).trans (pA pR))))))))))))))))))))) (lb (lb (lb (lb (lb (lb (lb (lb (lb (lp (lp (lp (lp (lp (lp (ln rfl)))))))))))))))))⟩
     ·refine ⟨fun β au h => by simp (disch := simp) only [and_self], _, rfl, fun β Lr Q hk => ?_⟩
      refine AB (lb (lb (lb (lb (lb (lb (lb (lb (lb (lp (lp (lp (lp (lp (lp (ln rfl)))))))))))))))) (kO (kc (kc (kc (kc (kc (kc (kc (kc (kc (kf (fS (fS (fS (fS (fS (fS fO)))))) (kf (fS (fS (fS (fS (fS (fS fO)))))) (kf (fS (fS (fS (fS (fS (fS fO)))))) (kf (fS (fS (fS (fS (fS (fS fO)))))) (kf (fS (fS (fS (fS (fS (fS fO)))))) (kf (fS (fS (fS (fS (fS (fS fO)))))) (kf (fS (fS (fS (fS (fS (fS fO)))))) (kf (fS (fS (fS (fS (fS (fS fO)))))) (kf (fS (fS (fS (fS (fS (fS fO)))))) (kf (fS (fS (fS (fS (fS (fS fO)))))) (kf (fS (fS (fS (fS (fS (fS fO)))))) kr)))))))))))))))))))) (um ?_))
      refine Aa ⟨rfl, _, rfl, hk (fun _ => K.w0.heap.size) (fun _ => Nat.le_refl _) _ (pT (pC (pC (pC (pC (pC (pC (pC (pC (pC ((fC (fC (fC (fC (fC (fC (fC (fC (fC (fC (fC fP))))))))))).trans (pA ((fC (fC (fC (fC (fC (fC (fC (fC (fC (fC (fC fP))))))))))).trans (pA ((fC (fC (fC (fC (fC (fC (fC (fC (fC (fC (fC fP))))))))))).trans (pA ((fC (fC (fC (fC (fC (fC (fC (fC (fC (fC (fC fP))))))))))).trans (pA ((fC (fC (fC (fC (fC (fC (fC (fC (fC (fC (fC fP))))))))))).trans (pA ((fC (fC (fC (fC (fC (fC (fC (fC (fC (fC (fC fP))))))))))).trans (pA pR))))))))))))))))))))) (lb (lb (lb (lb (lb (lb (lb (lb (lb (lp (lp (lp (lp (lp (lp (ln rfl)))))))))))))))))⟩
     ·refine ⟨fun β au h => by simp (disch := simp) only [and_self], _, rfl, fun β Lr Q hk => ?_⟩
      refine AB (lb (lb (lb (lb (lb (lb (lb (lb (lb (lp (lp (lp (lp (lp (lp (ln rfl)))))))))))))))) (kO (kc (kc (kc (kc (kc (kc (kc (kc (kc (kf (fS (fS (fS (fS (fS (fS fO)))))) (kf (fS (fS (fS (fS (fS (fS fO)))))) (kf (fS (fS (fS (fS (fS (fS fO)))))) (kf (fS (fS (fS (fS (fS (fS fO)))))) (kf (fS (fS (fS (fS (fS (fS fO)))))) (kf (fS (fS (fS (fS (fS (fS fO)))))) (kf (fS (fS (fS (fS (fS (fS fO)))))) (kf (fS (fS (fS (fS (fS (fS fO)))))) (kf (fS (fS (fS (fS (fS (fS fO)))))) (kf (fS (fS (fS (fS (fS (fS fO)))))) (kf (fS (fS (fS (fS (fS (fS fO)))))) kr)))))))))))))))))))) ?_)
      refine nB nk (um ?_)
      refine Aa ⟨rfl, _, rfl, hk (fun _ => K.w0.heap.size) (fun _ => Nat.le_refl _) _ (pT (pC (pC (pC (pC (pC (pC (pC (pC (pC ((fC (fC (fC (fC (fC (fC (fC (fC (fC (fC (fC fP))))))))))).trans (pA ((fC (fC (fC (fC (fC (fC (fC (fC (fC (fC (fC fP))))))))))).trans (pA ((fC (fC (fC (fC (fC (fC (fC (fC (fC (fC (fC fP))))))))))).trans (pA ((fC (fC (fC (fC (fC (fC (fC (fC (fC (fC (fC fP))))))))))).trans (pA ((fC (fC (fC (fC (fC (fC (fC (fC (fC (fC (fC fP))))))))))).trans (pA ((fC (fC (fC (fC (fC (fC (fC (fC (fC (fC (fC fP))))))))))).trans (pA pR))))))))))))))))))))) (lb (lb (lb (lb (lb (lb (lb (lb (lb (lp (lp (lp (lp (lp (lp (ln rfl)))))))))))))))))⟩
     ·refine ⟨fun β au h => by simp (disch := simp) only [and_self], _, rfl, fun β Lr Q hk => ?_⟩
      refine AB (lb (lb (lb (lb (lb (lb (lb (lb (lb (lp (lp (lp (lp (lp (lp (ln rfl)))))))))))))))) (kO (kc (kc (kc (kc (kc (kc (kc (kc (kc (kf (fS (fS (fS (fS (fS (fS fO)))))) (kf (fS (fS (fS (fS (fS (fS fO)))))) (kf (fS (fS (fS (fS (fS (fS fO)))))) (kf (fS (fS (fS (fS (fS (fS fO)))))) (kf (fS (fS (fS (fS (fS (fS fO)))))) (kf (fS (fS (fS (fS (fS (fS fO)))))) (kf (fS (fS (fS (fS (fS (fS fO)))))) (kf (fS (fS (fS (fS (fS (fS fO)))))) (kf (fS (fS (fS (fS (fS (fS fO)))))) (kf (fS (fS (fS (fS (fS (fS fO)))))) (kf (fS (fS (fS (fS (fS (fS fO)))))) kr)))))))))))))))))))) (nB nk (uv (AY rfl rfl) ?_)))
      refine Aa ⟨rfl, _, rfl, hk (fun _ => K.w0.heap.size) (fun _ => Nat.le_refl _) _ (pT (pC (pC (pC (pC (pC (pC (pC (pC (pC ((fC (fC (fC (fC (fC (fC (fC (fC (fC (fC (fC fP))))))))))).trans (pA ((fC (fC (fC (fC (fC (fC (fC (fC (fC (fC (fC fP))))))))))).trans (pA ((fC (fC (fC (fC (fC (fC (fC (fC (fC (fC (fC fP))))))))))).trans (pA ((fC (fC (fC (fC (fC (fC (fC (fC (fC (fC (fC fP))))))))))).trans (pA ((fC (fC (fC (fC (fC (fC (fC (fC (fC (fC (fC fP))))))))))).trans (pA ((fC (fC (fC (fC (fC (fC (fC (fC (fC (fC (fC fP))))))))))).trans (pA pR))))))))))))))))))))) (lb (lb (lb (lb (lb (lb (lb (lb (lb (lp (lp (lp (lp (lp (lp (ln rfl)))))))))))))))))⟩
     ·refine ⟨fun β au h => by simp (disch := simp) only [and_self], _, rfl, fun β Lr Q hk => ?_⟩
      refine AB (lb (lb (lb (lb (lb (lb (lb (lb (lb (lp (lp (lp (lp (lp (lp (ln rfl)))))))))))))))) (kO (kc (kc (kc (kc (kc (kc (kc (kc (kc (kf (fS (fS (fS (fS (fS (fS fO)))))) (kf (fS (fS (fS (fS (fS (fS fO)))))) (kf (fS (fS (fS (fS (fS (fS fO)))))) (kf (fS (fS (fS (fS (fS (fS fO)))))) (kf (fS (fS (fS (fS (fS (fS fO)))))) (kf (fS (fS (fS (fS (fS (fS fO)))))) (kf (fS (fS (fS (fS (fS (fS fO)))))) (kf (fS (fS (fS (fS (fS (fS fO)))))) (kf (fS (fS (fS (fS (fS (fS fO)))))) (kf (fS (fS (fS (fS (fS (fS fO)))))) (kf (fS (fS (fS (fS (fS (fS fO)))))) kr)))))))))))))))))))) ?_)
      refine nB nk (um ?_)
      refine Aa ⟨rfl, _, rfl, hk (fun _ => K.w0.heap.size) (fun _ => Nat.le_refl _) _ (pT (pC (pC (pC (pC (pC (pC (pC (pC (pC ((fC (fC (fC (fC (fC (fC (fC (fC (fC (fC (fC fP))))))))))).trans (pA ((fC (fC (fC (fC (fC (fC (fC (fC (fC (fC (fC fP))))))))))).trans (pA ((fC (fC (fC (fC (fC (fC (fC (fC (fC (fC (fC fP))))))))))).trans (pA ((fC (fC (fC (fC (fC (fC (fC (fC (fC (fC (fC fP))))))))))).trans (pA ((fC (fC (fC (fC (fC (fC (fC (fC (fC (fC (fC fP))))))))))).trans (pA ((fC (fC (fC (fC (fC (fC (fC (fC (fC (fC (fC fP))))))))))).trans (pA pR))))))))))))))))))))) (lb (lb (lb (lb (lb (lb (lb (lb (lb (lp (lp (lp (lp (lp (lp (ln rfl)))))))))))))))))⟩
     ·refine ⟨fun β au h => by simp (disch := simp) only [and_self], _, rfl, fun β Lr Q hk => ?_⟩
      refine AB (lb (lb (lb (lb (lb (lb (lb (lb (lb (lp (lp (lp (lp (lp (lp (ln rfl)))))))))))))))) (kO (kc (kc (kc (kc (kc (kc (kc (kc (kc (kf (fS (fS (fS (fS (fS (fS fO)))))) (kf (fS (fS (fS (fS (fS (fS fO)))))) (kf (fS (fS (fS (fS (fS (fS fO)))))) (kf (fS (fS (fS (fS (fS (fS fO)))))) (kf (fS (fS (fS (fS (fS (fS fO)))))) (kf (fS (fS (fS (fS (fS (fS fO)))))) (kf (fS (fS (fS (fS (fS (fS fO)))))) (kf (fS (fS (fS (fS (fS (fS fO)))))) (kf (fS (fS (fS (fS (fS (fS fO)))))) (kf (fS (fS (fS (fS (fS (fS fO)))))) (kf (fS (fS (fS (fS (fS (fS fO)))))) kr)))))))))))))))))))) (fF db ?_))
      refine Aa ⟨rfl, _, rfl, hk (fun _ => K.w0.heap.size) (fun _ => Nat.le_refl _) _ (pT (pC (pC (pC (pC (pC (pC (pC (pC (pC ((fC (fC (fC (fC (fC (fC (fC (fC (fC (fC (fC fP))))))))))).trans (pA ((fC (fC (fC (fC (fC (fC (fC (fC (fC (fC (fC fP))))))))))).trans (pA ((fC (fC (fC (fC (fC (fC (fC (fC (fC (fC (fC fP))))))))))).trans (pA ((fC (fC (fC (fC (fC (fC (fC (fC (fC (fC (fC fP))))))))))).trans (pA ((fC (fC (fC (fC (fC (fC (fC (fC (fC (fC (fC fP))))))))))).trans (pA ((fC (fC (fC (fC (fC (fC (fC (fC (fC (fC (fC fP))))))))))).trans (pA pR))))))))))))))))))))) (lb (lb (lb (lb (lb (lb (lb (lb (lb (lp (lp (lp (lp (lp (lp (ln rfl)))))))))))))))))⟩
     ·refine ⟨fun β au h => by simp (disch := simp) only [and_self], _, rfl, fun β Lr Q hk => ?_⟩
      refine AB (lb (lb (lb (lb (lb (lb (lb (lb (lb (lp (lp (lp (lp (lp (lp (ln rfl)))))))))))))))) (kO (kc (kc (kc (kc (kc (kc (kc (kc (kc (kf (fS (fS (fS (fS (fS (fS fO)))))) (kf (fS (fS (fS (fS (fS (fS fO)))))) (kf (fS (fS (fS (fS (fS (fS fO)))))) (kf (fS (fS (fS (fS (fS (fS fO)))))) (kf (fS (fS (fS (fS (fS (fS fO)))))) (kf (fS (fS (fS (fS (fS (fS fO)))))) (kf (fS (fS (fS (fS (fS (fS fO)))))) (kf (fS (fS (fS (fS (fS (fS fO)))))) (kf (fS (fS (fS (fS (fS (fS fO)))))) (kf (fS (fS (fS (fS (fS (fS fO)))))) (kf (fS (fS (fS (fS (fS (fS fO)))))) kr)))))))))))))))))))) (fF db ?_))
      refine Aa ⟨rfl, _, rfl, hk (fun _ => K.w0.heap.size) (fun _ => Nat.le_refl _) _ (pT (pC (pC (pC (pC (pC (pC (pC (pC (pC ((fC (fC (fC (fC (fC (fC (fC (fC (fC (fC (fC fP))))))))))).trans (pA ((fC (fC (fC (fC (fC (fC (fC (fC (fC (fC (fC fP))))))))))).trans (pA ((fC (fC (fC (fC (fC (fC (fC (fC (fC (fC (fC fP))))))))))).trans (pA ((fC (fC (fC (fC (fC (fC (fC (fC (fC (fC (fC fP))))))))))).trans (pA ((fC (fC (fC (fC (fC (fC (fC (fC (fC (fC (fC fP))))))))))).trans (pA ((fC (fC (fC (fC (fC (fC (fC (fC (fC (fC (fC fP))))))))))).trans (pA pR))))))))))))))))))))) (lb (lb (lb (lb (lb (lb (lb (lb (lb (lp (lp (lp (lp (lp (lp (ln rfl)))))))))))))))))⟩
     ·refine ⟨fun β au h => by simp (disch := simp) only [and_self], _, rfl, fun β Lr Q hk => ?_⟩
      refine AB (lb (lb (lb (lb (lb (lb (lb (lb (lb (lp (lp (lp (lp (lp (lp (ln rfl)))))))))))))))) (kO (kc (kc (kc (kc (kc (kc (kc (kc (kc (kf (fS (fS (fS (fS (fS (fS fO)))))) (kf (fS (fS (fS (fS (fS (fS fO)))))) (kf (fS (fS (fS (fS (fS (fS fO)))))) (kf (fS (fS (fS (fS (fS (fS fO)))))) (kf (fS (fS (fS (fS (fS (fS fO)))))) (kf (fS (fS (fS (fS (fS (fS fO)))))) (kf (fS (fS (fS (fS (fS (fS fO)))))) (kf (fS (fS (fS (fS (fS (fS fO)))))) (kf (fS (fS (fS (fS (fS (fS fO)))))) (kf (fS (fS (fS (fS (fS (fS fO)))))) (kf (fS (fS (fS (fS (fS (fS fO)))))) kr)))))))))))))))))))) (fF db ?_))
      refine Aa ⟨rfl, _, rfl, hk (fun _ => K.w0.heap.size) (fun _ => Nat.le_refl _) _ (pT (pC (pC (pC (pC (pC (pC (pC (pC (pC ((fC (fC (fC (fC (fC (fC (fC (fC (fC (fC (fC fP))))))))))).trans (pA ((fC (fC (fC (fC (fC (fC (fC (fC (fC (fC (fC fP))))))))))).trans (pA ((fC (fC (fC (fC (fC (fC (fC (fC (fC (fC (fC fP))))))))))).trans (pA ((fC (fC (fC (fC (fC (fC (fC (fC (fC (fC (fC fP))))))))))).trans (pA ((fC (fC (fC (fC (fC (fC (fC (fC (fC (fC (fC fP))))))))))).trans (pA ((fC (fC (fC (fC (fC (fC (fC (fC (fC (fC (fC fP))))))))))).trans (pA pR))))))))))))))))))))) (lb (lb (lb (lb (lb (lb (lb (lb (lb (lp (lp (lp (lp (lp (lp (ln rfl)))))))))))))))))⟩
     ·refine ⟨fun β au h => by simp (disch := simp) only [and_self], _, rfl, fun β Lr Q hk => ?_⟩
      refine AB (lb (lb (lb (lb (lb (lb (lb (lb (lb (lp (lp (lp (lp (lp (lp (ln rfl)))))))))))))))) (kO (kc (kc (kc (kc (kc (kc (kc (kc (kc (kf (fS (fS (fS (fS (fS (fS fO)))))) (kf (fS (fS (fS (fS (fS (fS fO)))))) (kf (fS (fS (fS (fS (fS (fS fO)))))) (kf (fS (fS (fS (fS (fS (fS fO)))))) (kf (fS (fS (fS (fS (fS (fS fO)))))) (kf (fS (fS (fS (fS (fS (fS fO)))))) (kf (fS (fS (fS (fS (fS (fS fO)))))) (kf (fS (fS (fS (fS (fS (fS fO)))))) (kf (fS (fS (fS (fS (fS (fS fO)))))) (kf (fS (fS (fS (fS (fS (fS fO)))))) (kf (fS (fS (fS (fS (fS (fS fO)))))) kr)))))))))))))))))))) (fF db ?_))
      refine Aa ⟨rfl, _, rfl, hk (fun _ => K.w0.heap.size) (fun _ => Nat.le_refl _) _ (pT (pC (pC (pC (pC (pC (pC (pC (pC (pC ((fC (fC (fC (fC (fC (fC (fC (fC (fC (fC (fC fP))))))))))).trans (pA ((fC (fC (fC (fC (fC (fC (fC (fC (fC (fC (fC fP))))))))))).trans (pA ((fC (fC (fC (fC (fC (fC (fC (fC (fC (fC (fC fP))))))))))).trans (pA ((fC (fC (fC (fC (fC (fC (fC (fC (fC (fC (fC fP))))))))))).trans (pA ((fC (fC (fC (fC (fC (fC (fC (fC (fC (fC (fC fP))))))))))).trans (pA ((fC (fC (fC (fC (fC (fC (fC (fC (fC (fC (fC fP))))))))))).trans (pA pR))))))))))))))))))))) (lb (lb (lb (lb (lb (lb (lb (lb (lb (lp (lp (lp (lp (lp (lp (ln rfl)))))))))))))))))⟩
     ·refine ⟨fun β au h => by simp (disch := simp) only [and_self], _, rfl, fun β Lr Q hk => ?_⟩
      refine AB (lb (lb (lb (lb (lb (lb (lb (lb (lb (lp (lp (lp (lp (lp (lp (ln rfl)))))))))))))))) (kO (kc (kc (kc (kc (kc (kc (kc (kc (kc (kf (fS (fS (fS (fS (fS (fS fO)))))) (kf (fS (fS (fS (fS (fS (fS fO)))))) (kf (fS (fS (fS (fS (fS (fS fO)))))) (kf (fS (fS (fS (fS (fS (fS fO)))))) (kf (fS (fS (fS (fS (fS (fS fO)))))) (kf (fS (fS (fS (fS (fS (fS fO)))))) (kf (fS (fS (fS (fS (fS (fS fO)))))) (kf (fS (fS (fS (fS (fS (fS fO)))))) (kf (fS (fS (fS (fS (fS (fS fO)))))) (kf (fS (fS (fS (fS (fS (fS fO)))))) (kf (fS (fS (fS (fS (fS (fS fO)))))) kr)))))))))))))))))))) (fF db ?_))
      refine Aa ⟨rfl, _, rfl, hk (fun _ => K.w0.heap.size) (fun _ => Nat.le_refl _) _ (pT (pC (pC (pC (pC (pC (pC (pC (pC (pC ((fC (fC (fC (fC (fC (fC (fC (fC (fC (fC (fC fP))))))))))).trans (pA ((fC (fC (fC (fC (fC (fC (fC (fC (fC (fC (fC fP))))))))))).trans (pA ((fC (fC (fC (fC (fC (fC (fC (fC (fC (fC (fC fP))))))))))).trans (pA ((fC (fC (fC (fC (fC (fC (fC (fC (fC (fC (fC fP))))))))))).trans (pA ((fC (fC (fC (fC (fC (fC (fC (fC (fC (fC (fC fP))))))))))).trans (pA ((fC (fC (fC (fC (fC (fC (fC (fC (fC (fC (fC fP))))))))))).trans (pA pR))))))))))))))))))))) (lb (lb (lb (lb (lb (lb (lb (lb (lb (lp (lp (lp (lp (lp (lp (ln rfl)))))))))))))))))⟩
     ·refine ⟨fun β au h => by simp (disch := simp) only [and_self], _, rfl, fun β Lr Q hk => ?_⟩
      refine AB (lb (lb (lb (lb (lb (lb (lb (lb (lb (lp (lp (lp (lp (lp (lp (ln rfl)))))))))))))))) (kO (kc (kc (kc (kc (kc (kc (kc (kc (kc (kf (fS (fS (fS (fS (fS (fS fO)))))) (kf (fS (fS (fS (fS (fS (fS fO)))))) (kf (fS (fS (fS (fS (fS (fS fO)))))) (kf (fS (fS (fS (fS (fS (fS fO)))))) (kf (fS (fS (fS (fS (fS (fS fO)))))) (kf (fS (fS (fS (fS (fS (fS fO)))))) (kf (fS (fS (fS (fS (fS (fS fO)))))) (kf (fS (fS (fS (fS (fS (fS fO)))))) (kf (fS (fS (fS (fS (fS (fS fO)))))) (kf (fS (fS (fS (fS (fS (fS fO)))))) (kf (fS (fS (fS (fS (fS (fS fO)))))) kr)))))))))))))))))))) (fF db ?_))
      refine Aa ⟨rfl, _, rfl, hk (fun _ => K.w0.heap.size) (fun _ => Nat.le_refl _) _ (pT (pC (pC (pC (pC (pC (pC (pC (pC (pC ((fC (fC (fC (fC (fC (fC (fC (fC (fC (fC (fC fP))))))))))).trans (pA ((fC (fC (fC (fC (fC (fC (fC (fC (fC (fC (fC fP))))))))))).trans (pA ((fC (fC (fC (fC (fC (fC (fC (fC (fC (fC (fC fP))))))))))).trans (pA ((fC (fC (fC (fC (fC (fC (fC (fC (fC (fC (fC fP))))))))))).trans (pA ((fC (fC (fC (fC (fC (fC (fC (fC (fC (fC (fC fP))))))))))).trans (pA ((fC (fC (fC (fC (fC (fC (fC (fC (fC (fC (fC fP))))))))))).trans (pA pR))))))))))))))))))))) (lb (lb (lb (lb (lb (lb (lb (lb (lb (lp (lp (lp (lp (lp (lp (ln rfl)))))))))))))))))⟩
     ·refine ⟨fun β au h => by simp (disch := simp) only [and_self], _, rfl, fun β Lr Q hk => ?_⟩
      refine AB (lb (lb (lb (lb (lb (lb (lb (lb (lb (lp (lp (lp (lp (lp (lp (ln rfl)))))))))))))))) (kO (kc (kc (kc (kc (kc (kc (kc (kc (kc (kf (fS (fS (fS (fS (fS (fS fO)))))) (kf (fS (fS (fS (fS (fS (fS fO)))))) (kf (fS (fS (fS (fS (fS (fS fO)))))) (kf (fS (fS (fS (fS (fS (fS fO)))))) (kf (fS (fS (fS (fS (fS (fS fO)))))) (kf (fS (fS (fS (fS (fS (fS fO)))))) (kf (fS (fS (fS (fS (fS (fS fO)))))) (kf (fS (fS (fS (fS (fS (fS fO)))))) (kf (fS (fS (fS (fS (fS (fS fO)))))) (kf (fS (fS (fS (fS (fS (fS fO)))))) (kf (fS (fS (fS (fS (fS (fS fO)))))) kr)))))))))))))))))))) (nB nk (uv (AE (AR rfl db) rfl) ?_)))
      refine Aa ⟨rfl, _, rfl, hk (fun _ => K.w0.heap.size) (fun _ => Nat.le_refl _) _ (pT (pC (pC (pC (pC (pC (pC (pC (pC (pC ((fC (fC (fC (fC (fC (fC (fC (fC (fC (fC (fC fP))))))))))).trans (pA ((fC (fC (fC (fC (fC (fC (fC (fC (fC (fC (fC fP))))))))))).trans (pA ((fC (fC (fC (fC (fC (fC (fC (fC (fC (fC (fC fP))))))))))).trans (pA ((fC (fC (fC (fC (fC (fC (fC (fC (fC (fC (fC fP))))))))))).trans (pA ((fC (fC (fC (fC (fC (fC (fC (fC (fC (fC (fC fP))))))))))).trans (pA ((fC (fC (fC (fC (fC (fC (fC (fC (fC (fC (fC fP))))))))))).trans (pA pR))))))))))))))))))))) (lb (lb (lb (lb (lb (lb (lb (lb (lb (lp (lp (lp (lp (lp (lp (ln rfl)))))))))))))))))⟩
     ·refine ⟨fun β au h => by simp (disch := simp) only [and_self], _, rfl, fun β Lr Q hk => ?_⟩
      refine AB (lb (lb (lb (lb (lb (lb (lb (lb (lb (lp (lp (lp (lp (lp (lp (ln rfl)))))))))))))))) (kO (kc (kc (kc (kc (kc (kc (kc (kc (kc (kf (fS (fS (fS (fS (fS (fS fO)))))) (kf (fS (fS (fS (fS (fS (fS fO)))))) (kf (fS (fS (fS (fS (fS (fS fO)))))) (kf (fS (fS (fS (fS (fS (fS fO)))))) (kf (fS (fS (fS (fS (fS (fS fO)))))) (kf (fS (fS (fS (fS (fS (fS fO)))))) (kf (fS (fS (fS (fS (fS (fS fO)))))) (kf (fS (fS (fS (fS (fS (fS fO)))))) (kf (fS (fS (fS (fS (fS (fS fO)))))) (kf (fS (fS (fS (fS (fS (fS fO)))))) (kf (fS (fS (fS (fS (fS (fS fO)))))) kr)))))))))))))))))))) (uv (AE (FK rfl nk) rfl) ?_))
      refine Aa ⟨rfl, _, rfl, hk (fun _ => K.w0.heap.size) (fun _ => Nat.le_refl _) _ (pT (pC (pC (pC (pC (pC (pC (pC (pC (pC ((fC (fC (fC (fC (fC (fC (fC (fC (fC (fC (fC fP))))))))))).trans (pA ((fC (fC (fC (fC (fC (fC (fC (fC (fC (fC (fC fP))))))))))).trans (pA ((fC (fC (fC (fC (fC (fC (fC (fC (fC (fC (fC fP))))))))))).trans (pA ((fC (fC (fC (fC (fC (fC (fC (fC (fC (fC (fC fP))))))))))).trans (pA ((fC (fC (fC (fC (fC (fC (fC (fC (fC (fC (fC fP))))))))))).trans (pA ((fC (fC (fC (fC (fC (fC (fC (fC (fC (fC (fC fP))))))))))).trans (pA pR))))))))))))))))))))) (lb (lb (lb (lb (lb (lb (lb (lb (lb (lp (lp (lp (lp (lp (lp (ln rfl)))))))))))))))))⟩
     intro β e9 L9 eu dp dq
     replace dp : e9.sub [(16, vI k6), (17, pO aq), (204, vI k6), (247, .agg (#[vI n3, vI n4, sL (aD ar) [[[0], [0, 1], [1], [1], [], [], [], []]].length 1, sL (aD bc) 3 3, sL (aD cf) 2 2])), (20, pO bo), (248, vI k6), (249, sL bk aa aa), (250, .pointer (some ⟨bo, 4, none⟩)), (251, .agg (#[vI n5, vI n6, sL (aD ak) [de].length 1, sL (aD bu) 3 3, sL (aD ay) [(0, 0, 0), (2, 0, 0)].length 2])), (21, pO bw), (252, .pointer (some ⟨bw, 2, none⟩)), (253, sL (aD ak) [de].length 1), (254, vI k6), (255, sL ey de.length de.length), (256, pO ak), (257, .agg #[vI k6, vI (Int.tdiv (k6 + 1) 2), sL bl bm bn, sL av aw ax, sL (aD ao) (Int.toNat k6) (Int.toNat k6)]), (258, vI k6), (259, vI (k6 - 1)), (260, .bool ll), (261, .bool (!ll)), (262, .bool (!ll)), (263, .agg (#[vI n3, vI n4, sL (aD ar) [[[0], [0, 1], [1], [1], [], [], [], []]].length 1, sL (aD bc) 3 3, sL bk aa aa])), (264, .bool iv), (265, .bool (!iv)), (266, .bool (!iv)), (267, .bool (!iv)), (268, .agg (#[vI n3, vI n4, sL (aD ar) [[[0], [0, 1], [1], [1], [], [], [], []]].length 1, sL (aD bc) 3 3, sL bk aa aa])), (269, sL (aD (β 12 0)) 3 3), (270, .bool iw), (271, .bool (!iw)), (272, .bool (!iw)), (273, .bool (!iw)), (274, .agg (#[vI n5, vI n6, sL (aD ak) [de].length 1, sL (aD bu) 3 3, sL (aD ay) [(0, 0, 0), (2, 0, 0)].length 2])), (275, .bool iy), (276, .bool (!iy)), (277, .bool (!iy)), (278, .bool (!iy)), (279, .agg #[vI n9, vI n10, sL (aD (β 22 0)) 1 1, sL (aD (β 22 6)) 3 3, sL (aD (β 22 7)) 2 2]), (280, vI k6), (281, sL (aD (β 24 0)) (Int.toNat k6) (Int.toNat k6)), (282, sL (aD (β 25 0)) 3 3), (283, .bool iz), (284, .bool (!iz)), (285, .bool (!iz)), (286, .bool (!iz)), (287, vI k6), (288, .bool (decide (k6 < 5))), (289, .bool (decide (k6 < 5))), (290, undef), (291, undef), (292, undef), (293, undef), (294, undef), (295, undef), (296, .bool false), (297, .bool false)] := dp
     replace dq : L9.Perm (((β 12 0), ce #[vI 2, vI 3, vI 4] 3) :: (((β 22 0), ce #[sL (aD (β 22 1)) 8 8] 34) :: (((β 22 1), ce #[sL (aD (β 22 2)) 1 1, sL (aD (β 22 3)) 2 2, sL (aD (β 22 4)) 1 1, sL (aD (β 22 5)) 1 1, sL none 0 0, sL none 0 0, sL none 0 0, sL none 0 0] 22) :: (((β 22 2), ce #[vI 0] 3) :: (((β 22 3), ce #[vI 0, vI 1] 3) :: (((β 22 4), ce #[vI 1] 3) :: (((β 22 5), ce #[vI 1] 3) :: (((β 22 6), ce #[vI 1, vI (-1), vI 4] 3) :: (((β 22 7), ce #[vI 0, vI 0, vI 0, vI 2, vI 0, vI 0] 32) :: (((β 24 0), ce (madeCells (.agg #[vI 0, vI 0, .bool false] : Value).cells ((Int.toNat k6) * 3)) 29) :: (((β 25 0), ce #[vI 2, vI 2, vI 3] 3) :: ((bw, ce (#[vI n5, vI n6, sL (aD ak) [de].length 1, sL (aD bu) 3 3, sL (aD ay) [(0, 0, 0), (2, 0, 0)].length 2]) 26) :: ((cu, ce #[sL (aD bd) 1 1, sL (aD bg) 2 2, sL (aD bh) 1 1, sL (aD bj) 1 1, sL none 0 0, sL none 0 0, sL none 0 0, sL none 0 0] 22) :: ((bd, ce #[vI 0] 3) :: ((bg, ce #[vI 0, vI 1] 3) :: ((bh, ce #[vI 1] 3) :: ((bj, ce #[vI 1] 3) :: ((bo, ce (#[vI n3, vI n4, sL (aD ar) [[[0], [0, 1], [1], [1], [], [], [], []]].length 1, sL (aD bc) 3 3, sL bk aa aa]) 26) :: ((cf, ce #[vI 0, vI 0, vI 0, vI 2, vI 0, vI 0] 32) :: ((aq, ce #[vI k6, vI (Int.tdiv (k6 + 1) 2), sL bl bm bn, sL av aw ax, sL (aD ao) (Int.toNat k6) (Int.toNat k6)] 26) :: (Lb742 ++ (br ++ (Lb715 ++ (bb ++ (ae ++ (Lb560 ++ [])))))))))))))))))))))))))) := dq
     have hb967 := eu 12 0; generalize β 12 0 = b967 at dp dq hb967
     have hb968 := eu 22 0; generalize β 22 0 = b968 at dp dq hb968
     have hb969 := eu 22 1; generalize β 22 1 = b969 at dp dq hb969
     have hb970 := eu 22 2; generalize β 22 2 = b970 at dp dq hb970
     have hb971 := eu 22 3; generalize β 22 3 = b971 at dp dq hb971
     have hb972 := eu 22 4; generalize β 22 4 = b972 at dp dq hb972
     have hb973 := eu 22 5; generalize β 22 5 = b973 at dp dq hb973
     have hb974 := eu 22 6; generalize β 22 6 = b974 at dp dq hb974
     have hb975 := eu 22 7; generalize β 22 7 = b975 at dp dq hb975
     have qi := eu 24 0; generalize β 24 0 = b976 at dp dq qi
     have hb977 := eu 25 0; generalize β 25 0 = b977 at dp dq hb977
     clear eu; refine Ql _ dp ?_; refine Bc dq ?_
     obtain ⟨l12, h978, r979⟩ := BI r936
     have hz981 : AI K.w0.heap.size 29 3 (Br eI (Br eI bE)) tn (aD b976) (Int.toNat k6) (Int.toNat k6) l12 [(b976, ce (madeCells (.agg #[vI 0, vI 0, .bool false] : Value).cells ((Int.toNat k6) * 3)) 29)] := by rw [h978]; exact AI.made (Ai kI (Ai kI Be)) (by decide) (fun _ => ⟨_, _, rfl, rfl, ⟨_, _, rfl, rfl, rfl⟩⟩) qi (Nm tq)
     generalize p7 : ([(b976, ce (madeCells (.agg #[vI 0, vI 0, .bool false] : Value).cells ((Int.toNat k6) * 3)) 29)] : LH) = Lb980 at hz981
     refine Bc (L' := Lb980 ++ ((b967, ce #[vI 2, vI 3, vI 4] 3) :: ((b968, ce #[sL (aD b969) 8 8] 34) :: ((b969, ce #[sL (aD b970) 1 1, sL (aD b971) 2 2, sL (aD b972) 1 1, sL (aD b973) 1 1, sL none 0 0, sL none 0 0, sL none 0 0, sL none 0 0] 22) :: ((b970, ce #[vI 0] 3) :: ((b971, ce #[vI 0, vI 1] 3) :: ((b972, ce #[vI 1] 3) :: ((b973, ce #[vI 1] 3) :: ((b974, ce #[vI 1, vI (-1), vI 4] 3) :: ((b975, ce #[vI 0, vI 0, vI 0, vI 2, vI 0, vI 0] 32) :: ((b977, ce #[vI 2, vI 2, vI 3] 3) :: ((bw, ce (#[vI n5, vI n6, sL (aD ak) [de].length 1, sL (aD bu) 3 3, sL (aD ay) [(0, 0, 0), (2, 0, 0)].length 2]) 26) :: ((cu, ce #[sL (aD bd) 1 1, sL (aD bg) 2 2, sL (aD bh) 1 1, sL (aD bj) 1 1, sL none 0 0, sL none 0 0, sL none 0 0, sL none 0 0] 22) :: ((bd, ce #[vI 0] 3) :: ((bg, ce #[vI 0, vI 1] 3) :: ((bh, ce #[vI 1] 3) :: ((bj, ce #[vI 1] 3) :: ((bo, ce (#[vI n3, vI n4, sL (aD ar) [[[0], [0, 1], [1], [1], [], [], [], []]].length 1, sL (aD bc) 3 3, sL bk aa aa]) 26) :: ((cf, ce #[vI 0, vI 0, vI 0, vI 2, vI 0, vI 0] 32) :: ((aq, ce #[vI k6, vI (Int.tdiv (k6 + 1) 2), sL bl bm bn, sL av aw ax, sL (aD ao) (Int.toNat k6) (Int.toNat k6)] 26) :: (Lb742 ++ (br ++ (Lb715 ++ (bb ++ (ae ++ (Lb560 ++ [])))))))))))))))))))))))))) (by rw [← p7]; exact (fC (fC (fC (fC (fC (fC (fC (fC (fC fO)))))))))) ?_
     refine Bc (L' := (b967, ce #[vI 2, vI 3, vI 4] 3) :: ((b968, ce #[sL (aD b969) 8 8] 34) :: ((b969, ce #[sL (aD b970) 1 1, sL (aD b971) 2 2, sL (aD b972) 1 1, sL (aD b973) 1 1, sL none 0 0, sL none 0 0, sL none 0 0, sL none 0 0] 22) :: ((b970, ce #[vI 0] 3) :: ((b971, ce #[vI 0, vI 1] 3) :: ((b972, ce #[vI 1] 3) :: ((b973, ce #[vI 1] 3) :: ((b974, ce #[vI 1, vI (-1), vI 4] 3) :: ((b975, ce #[vI 0, vI 0, vI 0, vI 2, vI 0, vI 0] 32) :: ((b977, ce #[vI 2, vI 2, vI 3] 3) :: ((bw, ce (#[vI n5, vI n6, sL (aD ak) [de].length 1, sL (aD bu) 3 3, sL (aD ay) [(0, 0, 0), (2, 0, 0)].length 2]) 26) :: ((cu, ce #[sL (aD bd) 1 1, sL (aD bg) 2 2, sL (aD bh) 1 1, sL (aD bj) 1 1, sL none 0 0, sL none 0 0, sL none 0 0, sL none 0 0] 22) :: ((bd, ce #[vI 0] 3) :: ((bg, ce #[vI 0, vI 1] 3) :: ((bh, ce #[vI 1] 3) :: ((bj, ce #[vI 1] 3) :: ((bo, ce (#[vI n3, vI n4, sL (aD ar) [[[0], [0, 1], [1], [1], [], [], [], []]].length 1, sL (aD bc) 3 3, sL bk aa aa]) 26) :: ((cf, ce #[vI 0, vI 0, vI 0, vI 2, vI 0, vI 0] 32) :: ((aq, ce #[vI k6, vI (Int.tdiv (k6 + 1) 2), sL bl bm bn, sL av aw ax, sL (aD ao) (Int.toNat k6) (Int.toNat k6)] 26) :: (Lb980 ++ (Lb742 ++ (br ++ (Lb715 ++ (bb ++ (ae ++ (Lb560 ++ [])))))))))))))))))))))))))) (List.Perm.symm (fC (fC (fC (fC (fC (fC (fC (fC (fC (fC (fC (fC (fC (fC (fC (fC (fC (fC (fC fP)))))))))))))))))))) (Aa ?_)
     obtain ⟨rfl, rfl, rfl, rfl⟩ := Rs r979
     exact mi (kd (kd (kd (kd (kd (kd (kd (kd (kd (kd (kc (kd (kd (kd (kd (kd (kc (kd (kc (kx (kg (fS (fS (fS fP))) (kg (fS (fS (fS fP))) (kg (fS (fS (fS fP))) (kg (fS (fS fP)) (kg (fS fP) kr))))))))))))))))))))))))) ⟨(aD ar), 1, (aD ak), 1, (aD ay), 2, ((((((((ei.trans df).trans cz).trans cr).trans cn).trans dg).trans ej).trans dh).trans di), rfl, z6, ez, lk, oz⟩
    rintro e1 F984 _ ⟨td, te, tf, tg, th, ti, fm, rfl, he983, h756, h759, h762⟩
    refine AA _ he983 ?_
    replace al := al.m2 fm
    replace ab := ab.m1 fm
    replace ai := ai.mono (Ai kI kP) fm
    replace ad := ad.m1 fm
    replace ah := ah.mono (Ai kI kP) fm
    replace aj := aj.m1 fm
    obtain ⟨g987, r988⟩ := AF r764
    refine AV rfl (fun c989 => absurd (g987.symm.trans c989) (by decide)) (fun c989 => ?_)
    refine Ar ?_
    obtain ⟨k10, h990, r991⟩ := Az r988
    refine jE ([]) [(204, vI k6), (323, .bool k10)] ?_ ?_
    ·clear r991
     refine Aq (uv (Cv isAgg26 sizeOf26 2) ?_)
     obtain ⟨n11, h992, r993⟩ := Az h990
     refine Bh rfl call12 rfl rfl rfl (pT ((fC (fC (fC fP))).trans (pA ((fC (fC (fC fP))).trans (pA ((fC (fC (fC fP))).trans (pA pR)))))) (lp (lp (lp (ln rfl))))) (fun F2 h2 h3 => by have h0 := DU (al.row kJ h2 (aL h3)) (ab.row kI h2 (aL (aR h3))) (ai.row (Ai kI kP) h2 (aL (aR (aR h3)))) h992; rw [← (Ev.A1 al).1] at h0; rw [← (AI.A1 ab).1] at h0; rw [← (AI.A1 ai).1] at h0; exact h0) ?_
     refine uv (Bx rfl rfl) (um (uv (C2 rfl rfl) (um ?_)))
     by_cases j0 : 0 < k6
     ·have r995 := A2 r993 j0
      refine nT j0 (um (nT j0 ?_))
      refine uv (AY rfl rfl) (uv (AK (Ba rfl j0) rfl) (uv (JG underlying4 rfl rfl) (um ?_)))
      obtain ⟨jg, r997⟩ := AF r995
      refine nF jg (uv (Cv isAgg26 sizeOf26 1) (nF jg ?_))
      obtain ⟨n12, h998, r999⟩ := Az r997
      refine Bh rfl call12 rfl rfl rfl (pT ((fC (fC (fC (fS (fS (fS fP)))))).trans (pA ((fC (fC (fC (fS (fS (fS fP)))))).trans (pA pR)))) (lp (lp (ln rfl)))) (fun F2 h2 h3 => by have h0 := DU (h756.mono (Ay kJ) h2) (ad.row kI h2 (aL h3)) (ah.row (Ai kI kP) h2 (aL (aR h3))) h998; rw [← (AI.A1 ad).1] at h0; rw [← (AI.A1 ah).1] at h0; exact h0) ?_
      refine nF jg (uv (Bx rfl rfl) ?_)
      refine nF jg (um (nF jg ?_))
      refine uv (AY rfl rfl) (nF jg (uv (JG underlying4 rfl rfl) (uv (AE (AR rfl jg) rfl) (um ?_))))
      obtain ⟨fo, r1001⟩ := AF r999
      refine nF fo (uv (Cv isAgg26 sizeOf26 0) (nF fo ?_))
      obtain ⟨n13, h1002, r1003⟩ := Az r1001
      refine Bh rfl call12 rfl rfl rfl (pT ((fC (fC (fC (fS (fS (fS (fS (fS fP)))))))).trans (pA pR)) (lp (ln rfl))) (fun F2 h2 h3 => by have h0 := DU (h759.mono (Ay kJ) h2) (aj.row kI h2 (aL h3)) (h762.mono (Ai kI kP) h2) h1002; rw [← (AI.A1 aj).1] at h0; exact h0) ?_
      refine nF fo (uv (Bx rfl rfl) ?_)
      refine nF fo (um (nF fo ?_))
      refine uv (Bx rfl rfl) (nF fo (uv (JG underlying4 rfl rfl) (uv (AE (AR rfl fo) rfl) (Aa ?_))))
      obtain rfl := AL r1003
      exact mi kn ⟨rfl, rfl, z2⟩
     have r1004 := A3 r993 j0
     refine fF j0 (fF j0 ?_)
     refine uv (AE (AR rfl j0) rfl) (uv (JG underlying4 rfl rfl) (um ?_))
     obtain ⟨fp, r1006⟩ := AF r1004
     refine nF fp (uv (Cv isAgg26 sizeOf26 1) (nF fp ?_))
     obtain ⟨n14, h1007, r1008⟩ := Az r1006
     refine Bh rfl call12 rfl rfl rfl (pT ((fC (fC (fC (fS (fS (fS fP)))))).trans (pA ((fC (fC (fC (fS (fS (fS fP)))))).trans (pA pR)))) (lp (lp (ln rfl)))) (fun F2 h2 h3 => by have h0 := DU (h756.mono (Ay kJ) h2) (ad.row kI h2 (aL h3)) (ah.row (Ai kI kP) h2 (aL (aR h3))) h1007; rw [← (AI.A1 ad).1] at h0; rw [← (AI.A1 ah).1] at h0; exact h0) ?_
     refine nF fp (uv (Bx rfl rfl) ?_)
     refine nF fp (um (nF fp ?_))
     refine uv (AY rfl rfl) (nF fp (uv (JG underlying4 rfl rfl) (uv (AE (AR rfl fp) rfl) (um ?_))))
     obtain ⟨fq, r1010⟩ := AF r1008
     refine nF fq (uv (Cv isAgg26 sizeOf26 0) (nF fq ?_))
     obtain ⟨n15, h1011, r1012⟩ := Az r1010
     refine Bh rfl call12 rfl rfl rfl (pT ((fC (fC (fC (fS (fS (fS (fS (fS fP)))))))).trans (pA pR)) (lp (ln rfl))) (fun F2 h2 h3 => by have h0 := DU (h759.mono (Ay kJ) h2) (aj.row kI h2 (aL h3)) (h762.mono (Ai kI kP) h2) h1011; rw [← (AI.A1 aj).1] at h0; exact h0) ?_
     refine nF fq (uv (Bx rfl rfl) ?_)
     refine nF fq (um (nF fq ?_))
     refine uv (Bx rfl rfl) (nF fq (uv (JG underlying4 rfl rfl) (uv (AE (AR rfl fq) rfl) (Aa ?_))))
     obtain rfl := AL r1012
     exact mi kn ⟨rfl, rfl, z2⟩
    obtain ⟨g1015, r1016⟩ := AF r991
    refine AV rfl (fun qj => absurd (g1015.symm.trans qj) (by decide)) (fun qj => ?_)
    refine Ar (AD (id := 11) ?_)
    clear r1016
    exact mi kr ⟨((pw.trans nc).trans fm), rfl, z1⟩
   refine Aq (uv (A4 rfl rfl (B0.CE il lj su)) ?_)
   refine um (Aa ?_)
   exact le kr ⟨_, hk535, r537, (pv.trans sv), rfl, z1⟩
  obtain rfl := B0.zero il lj
  rw [Bf] at oc
  refine AM (Aj (Aj ?_))
  refine Ax ?_
  clear oc
  exact mi kr ⟨pv, rfl, (sn _)⟩
 refine AG ?_
 refine uv (BX (v := .agg #[vI 0, vI 0, sL none 0 0, sL none 0 0, sL none 0 0]) rfl (by intro w; kernel_rfl)) ?_
 obtain ⟨ok18, h1024, r1025⟩ := Az r524
 refine cV call5 (BW (At.nil _ _ _) (At.nil _ _ _) (At.nil _ _ _) h1024) (um ?_)
 obtain ⟨np, r1027⟩ := AF r1025
 refine nB np ?_
 refine uv (BX (v := .agg #[vI 0, vI 0, sL none 0 0, sL none 0 0, sL none 0 0]) rfl (by intro w; kernel_rfl)) ?_
 refine nB np ?_
 obtain ⟨ok19, h1028, r1029⟩ := Az r1027
 refine cV call8 (DJ (At.nil _ _ _) (At.nil _ _ _) (At.nil _ _ _) (At.nil _ _ _) (At.nil _ _ _) h1028) (uv (AK (FK rfl np) rfl) (um ?_))
 obtain ⟨qk, r1031⟩ := AF r1029
 refine nB qk ?_
 obtain ⟨ok20, h1032, r1033⟩ := Az r1031
 refine cV call13 (CA h1032) (uv (AK (FK rfl qk) rfl) ?_)
 refine ua (Aa (Aw ?_))
 refine B7 results3 ?_
 obtain rfl := AL r1033
 exact rfl
end Go.Proofs.YtdhookifhfkcpaaGreat
