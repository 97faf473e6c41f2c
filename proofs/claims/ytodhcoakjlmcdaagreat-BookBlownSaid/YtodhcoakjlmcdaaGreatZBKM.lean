/- What is blown from a town into a book; BookBlown; in plain Lean. -/
import Derived.Test.YtodhcoakjlmcdaaGreatZBKD
import Derived.Test.YtodhcoakjlmcdaaGreatZBHK
namespace Go.Proofs.YtodhcoakjlmcdaaGreat.Bk
open Go.PL Go.Hear
theorem lstN_nodup (P : Nat → Bool) (n : Nat) : (lstN P n).Nodup := by
  unfold lstN
  refine List.Pairwise.map _ (fun a b h => ?_) (List.Pairwise.filter _ List.nodup_range)
  intro he
  exact h (Int.ofNat.inj he)
/-- The plots of a kind that are kept. -/
def Kd (ps : List Int) (c x : Int) : Prop := (0 ≤ x ∧ x < (ps.length : Int)) ∧ ps.getD x.toNat 0 = c
theorem blown_l1 {ps : List Int} : ∀ (tl : List Int) (k : Nat) (s0 h0 : List Int), ps.drop k = tl → s0.length ≤ 4 → h0.length ≤ 6 → (∀ x ∈ s0, Kd ps 0 x) → (∀ x ∈ h0, Kd ps 1 x) →
    ∃ st ho, oyezlaw07_BookBlown_l1 tl (k : Int) s0 h0 = some (st, ho) ∧ st.length ≤ 4 ∧ ho.length ≤ 6 ∧ (∀ x ∈ st, Kd ps 0 x) ∧ (∀ x ∈ ho, Kd ps 1 x) ∧ ((s0 ≠ [] ∨ (0 : Int) ∈ tl) → st ≠ [])
  | [], k, s0, h0, _, a, b, c, d => ⟨s0, h0, rfl, a, b, c, d, fun h => by
      rcases h with h | h
      · exact h
      · cases h⟩
  | x :: tl, k, s0, h0, hd, a, b, c, d => by
    obtain ⟨hk, hx, hd2⟩ := drop_cons 0 hd
    have key : ∀ y : Int, x = y → Kd ps y (k : Int) := fun y hy => ⟨⟨by omega, by omega⟩, by rw [Int.toNat_natCast, hx, hy]⟩
    unfold oyezlaw07_BookBlown_l1
    have e1 : ∃ s1, b1 (b1 (if x = 0 then (some (decide ((s0.length : Int) < 4))) else (some false)) fun k2 => if k2 = true then (ap s0 [(k : Int)] fun streets4 => some streets4) else (some s0)) = (fun f => f s1 : (List Int → Option (List Int × List Int)) → Option (List Int × List Int)) ∧ s1.length ≤ 4 ∧ (∀ z ∈ s1, Kd ps 0 z) ∧ ((s0 ≠ [] ∨ x = 0) → s1 ≠ []) := by
      by_cases h : x = 0
      · by_cases h2 : (s0.length : Int) < 4
        · refine ⟨s0 ++ [(k : Int)], ?_, by simp; omega, ?_, fun _ => by simp⟩
          · funext f
            rw [if_pos h, b1_some, if_pos (decide_eq_true h2), ap_t (by simp; omega), b1_some]
          · intro z hz
            rcases List.mem_append.1 hz with h3 | h3
            · exact c z h3
            · rw [List.mem_singleton.1 h3]; exact key 0 h
        · refine ⟨s0, ?_, a, c, fun _ he => ?_⟩
          · funext f
            rw [if_pos h, b1_some, if_neg (by simpa using h2), b1_some]
          · rw [he] at h2; simp at h2
      · refine ⟨s0, ?_, a, c, fun h2 => ?_⟩
        · funext f
          rw [if_neg h, b1_some, if_neg (by decide), b1_some]
        · rcases h2 with h2 | h2
          · exact h2
          · exact absurd h2 h
    obtain ⟨s1, e1, a1, c1, n1⟩ := e1
    rw [e1]
    show ∃ st ho, b1 (if x = 1 then (some (decide ((h0.length : Int) < 6))) else (some false)) _ = _ ∧ _
    have hne : (s0 ≠ [] ∨ (0 : Int) ∈ x :: tl) → (s1 ≠ [] ∨ (0 : Int) ∈ tl) := fun h => by
      rcases h with h | h
      · exact .inl (n1 (.inl h))
      · rcases List.mem_cons.1 h with h | h
        · exact .inl (n1 (.inr h.symm))
        · exact .inr h
    by_cases h : x = 1 ∧ (h0.length : Int) < 6
    · rw [if_pos h.1, b1_some, if_pos (decide_eq_true h.2), ap_t (by simp; omega)]
      obtain ⟨st, ho, g1, g2, g3, g4, g5, g6⟩ := blown_l1 tl (k + 1) s1 (h0 ++ [(k : Int)]) hd2 a1 (by simp; omega) c1 (fun z hz => by
        rcases List.mem_append.1 hz with h3 | h3
        · exact d z h3
        · rw [List.mem_singleton.1 h3]; exact key 1 h.1)
      exact ⟨st, ho, g1, g2, g3, g4, g5, fun h => g6 (hne h)⟩
    · have e2 : (if x = 1 then (some (decide ((h0.length : Int) < 6))) else (some false)) = some false := by
        by_cases h1 : x = 1
        · rw [if_pos h1, decide_eq_false (fun h2 => h ⟨h1, h2⟩)]
        · rw [if_neg h1]
      rw [e2, b1_some, if_neg (by decide)]
      obtain ⟨st, ho, g1, g2, g3, g4, g5, g6⟩ := blown_l1 tl (k + 1) s1 h0 hd2 a1 b c1 d
      exact ⟨st, ho, g1, g2, g3, g4, g5, fun h => g6 (hne h)⟩
theorem blown_l8 {k5 : Int} {l3 ho : List Int} {rec6 : Int → List (List Int) → Option Bool} {ws : List (List Int)} {j : Nat} (hk : 0 ≤ k5 ∧ k5 ≤ 3) (hj : 2 * k5 = (j : Int)) (hw : ws.length = 8) (hh : ho.length ≤ 6) : ∀ (tl : List Int) (k : Nat), ho.drop k = tl →
    oyezlaw07_BookBlown_l8 k5 l3 rec6 tl (k : Int) (ws.set j (lstN (fun h => decide (ho.getD h 0 ∈ l3)) k)) = rec6 (k5 + 1) (ws.set j (lstN (fun h => decide (ho.getD h 0 ∈ l3)) (k + tl.length)))
  | [], k, _ => rfl
  | x :: tl, k, hd => by
    obtain ⟨h1, hx, hd2⟩ := drop_cons 0 hd
    have ih := blown_l8 (rec6 := rec6) (l3 := l3) hk hj hw hh tl (k + 1) hd2
    have hs := lstN_succ (fun h => decide (ho.getD h 0 ∈ l3)) k
    have hl := lstN_len (fun h => decide (ho.getD h 0 ∈ l3)) k
    have e0 : (decide (ho.getD k 0 ∈ l3)) = decide (x ∈ l3) := by rw [hx]
    simp only [e0] at hs
    unfold oyezlaw07_BookBlown_l8
    rw [contains_eq, b1_some, show k + (x :: tl).length = k + 1 + tl.length by simp; omega, ← ih, show ((k + 1 : Nat) : Int) = (k : Int) + 1 from rfl]
    by_cases h : x ∈ l3
    · rw [if_pos (decide_eq_true h)]
      rw [decide_eq_true h, if_pos rfl] at hs
      rw [gd_t (r64_small (by omega)), gd_t (r64_small (by omega)), hj, ixN [] _ (by simp; omega), getD_setI (by omega), if_pos rfl, ap_t (by rw [List.length_append, List.length_singleton]; omega), bvE, Int.toNat_natCast, List.set_set, hs]
    · rw [if_neg (by simpa using h)]
      rw [decide_eq_false h, if_neg (by decide), List.append_nil] at hs
      rw [hs]
theorem blown_l10 {w j : Nat} {ws : List (List Int)} (hw : ws.length = 8) (h1 : 1 ≤ w ∧ w < 8) (hj : Int.tmod ((w : Int) + 1) 8 = (j : Int)) (hj8 : j < 8) (hjw : j ≠ w) (hjn : (j : Int) ≠ (w : Int) - 1) : ∀ (tl acc : List Int), acc.length + tl.length ≤ 1000 →
    oyezlaw07_BookBlown_l10 (w : Int) tl (ws.set w acc) = some (ws.set w (acc ++ tl.filter fun x => decide (x ∈ ws.getD j [])))
  | [], acc, _ => by unfold oyezlaw07_BookBlown_l10; simp
  | x :: tl, acc, hl => by
    simp only [List.length_cons] at hl
    unfold oyezlaw07_BookBlown_l10
    rw [gd_t (r64_small (by omega)), hj, ixN [] _ (by simp; omega), gd_t hjn, getD_setI (by omega), if_neg (fun h => hjw h.symm), contains_eq, b1_some, List.filter_cons]
    by_cases h : x ∈ ws.getD j []
    · rw [if_pos (decide_eq_true h), if_pos (decide_eq_true h), ixN [] _ (by simp; omega), gd_t (by omega), getD_setI (by omega), if_pos rfl, ap_t (by simp; omega), bvE, Int.toNat_natCast, List.set_set, blown_l10 hw h1 hj hj8 hjw hjn tl (acc ++ [x]) (by simp; omega)]
      simp
    · rw [if_neg (by simpa using h), if_neg (by simpa using h), blown_l10 hw h1 hj hj8 hjw hjn tl acc (by omega)]
/-- In the winds between, who hears in both. -/
def both (a b : List Int) : List Int := a.filter fun x => decide (x ∈ b)
theorem blown_l9 {a b c d : List Int} (ha : a.length ≤ 6) (hb : b.length ≤ 6) (hc : c.length ≤ 6) (hd : d.length ≤ 6) : oyezlaw07_BookBlown_l9 FU [a, [], b, [], c, [], d, []] 1 = some [a, both a b, b, both b c, c, both c d, d, both d a] := by
  have hF : FU = 18446744073709551610 + 1 + 1 + 1 + 1 + 1 + 1 := rfl
  rw [hF]
  unfold oyezlaw07_BookBlown_l9
  rw [if_pos (by decide), gd_t (r64_small (by decide)), show ix [a, [], b, [], c, [], d, []] ((1 : Int) - 1) = fun f => f a from rfl]
  have e1 : oyezlaw07_BookBlown_l10 1 a [a, [], b, [], c, [], d, []] = some [a, both a b, b, [], c, [], d, []] := blown_l10 (w := 1) (j := 2) (ws := [a, [], b, [], c, [], d, []]) rfl (by decide) (by decide) (by decide) (by decide) (by decide) a [] (by simp; omega)
  show b1 (oyezlaw07_BookBlown_l10 1 a [a, [], b, [], c, [], d, []]) _ = _
  rw [e1, b1_some, gd_t (r64_small (by decide)), show (1 : Int) + 2 = 3 from rfl]
  unfold oyezlaw07_BookBlown_l9
  rw [if_pos (by decide), gd_t (r64_small (by decide)), show ix [a, both a b, b, [], c, [], d, []] ((3 : Int) - 1) = fun f => f b from rfl]
  have e2 : oyezlaw07_BookBlown_l10 3 b [a, both a b, b, [], c, [], d, []] = some [a, both a b, b, both b c, c, [], d, []] := blown_l10 (w := 3) (j := 4) (ws := [a, both a b, b, [], c, [], d, []]) rfl (by decide) (by decide) (by decide) (by decide) (by decide) b [] (by simp; omega)
  show b1 (oyezlaw07_BookBlown_l10 3 b [a, both a b, b, [], c, [], d, []]) _ = _
  rw [e2, b1_some, gd_t (r64_small (by decide)), show (3 : Int) + 2 = 5 from rfl]
  unfold oyezlaw07_BookBlown_l9
  rw [if_pos (by decide), gd_t (r64_small (by decide)), show ix [a, both a b, b, both b c, c, [], d, []] ((5 : Int) - 1) = fun f => f c from rfl]
  have e3 : oyezlaw07_BookBlown_l10 5 c [a, both a b, b, both b c, c, [], d, []] = some [a, both a b, b, both b c, c, both c d, d, []] := blown_l10 (w := 5) (j := 6) (ws := [a, both a b, b, both b c, c, [], d, []]) rfl (by decide) (by decide) (by decide) (by decide) (by decide) c [] (by simp; omega)
  show b1 (oyezlaw07_BookBlown_l10 5 c [a, both a b, b, both b c, c, [], d, []]) _ = _
  rw [e3, b1_some, gd_t (r64_small (by decide)), show (5 : Int) + 2 = 7 from rfl]
  unfold oyezlaw07_BookBlown_l9
  rw [if_pos (by decide), gd_t (r64_small (by decide)), show ix [a, both a b, b, both b c, c, both c d, d, []] ((7 : Int) - 1) = fun f => f d from rfl]
  have e4 : oyezlaw07_BookBlown_l10 7 d [a, both a b, b, both b c, c, both c d, d, []] = some [a, both a b, b, both b c, c, both c d, d, both d a] := blown_l10 (w := 7) (j := 0) (ws := [a, both a b, b, both b c, c, both c d, d, []]) rfl (by decide) (by decide) (by decide) (by decide) (by decide) d [] (by simp; omega)
  show b1 (oyezlaw07_BookBlown_l10 7 d [a, both a b, b, both b c, c, both c d, d, []]) _ = _
  rw [e4, b1_some, gd_t (r64_small (by decide)), show (7 : Int) + 2 = 9 from rfl]
  unfold oyezlaw07_BookBlown_l9
  rw [if_neg (by decide)]
section
variable {wide : Int} {ps ho : List Int} {v : Int}
/-- Who of the houses hears a stand in a wind. -/
def evA (wide : Int) (ps ho : List Int) (v s w : Int) : List Int := lstN (fun h => decide (ho.getD h 0 ∈ lstN (hrB wide ps w v s.toNat) ps.length)) ho.length
def wnA (wide : Int) (ps ho : List Int) (v s : Int) : List (List Int) :=
  [evA wide ps ho v s 1, both (evA wide ps ho v s 1) (evA wide ps ho v s 2), evA wide ps ho v s 2, both (evA wide ps ho v s 2) (evA wide ps ho v s 3), evA wide ps ho v s 3, both (evA wide ps ho v s 3) (evA wide ps ho v s 4), evA wide ps ho v s 4, both (evA wide ps ho v s 4) (evA wide ps ho v s 1)]
theorem evA_len (h : ho.length ≤ 6) (s w : Int) : (evA wide ps ho v s w).length ≤ 6 := Nat.le_trans (lstN_len ..) h
theorem hou_eq (hn : ps.length ≤ 1000) (hc : chk wide ps = 0) (hv : 1 ≤ v ∧ v ≤ 40) {s w : Int} (hs : Kd ps 0 s) (hw : 0 ≤ w ∧ w ≤ 4) : hear_Houses wide ps w v s = some (lstN (hrB wide ps w v s.toNat) ps.length, 0) := by
  have h1 : airE wide ps w v = 0 := by
    unfold airE chkA
    rw [if_neg (not_not_intro hc), if_neg]
    rintro (h | h)
    · exact h hw
    · exact h hv
  have h2 : housE wide ps w v s = 0 := by
    unfold housE
    rw [if_neg (not_not_intro h1)]
    exact isE_of hs.1 hs.2
  rw [Houses_eq hn, if_pos h2, h2]
theorem blown_l6 (hn : ps.length ≤ 1000) (hc : chk wide ps = 0) (hv : 1 ≤ v ∧ v ≤ 40) {s : Int} (hs : Kd ps 0 s) (hh : ho.length ≤ 6) {bh : List (List (List Int))} (hb : bh.length ≤ 100) {rec3 : List (List (List Int)) → Option Bool} :
    oyezlaw07_BookBlown_l6 wide ps v ho bh s rec3 4 0 (List.replicate 8 []) = rec3 (bh ++ [wnA wide ps ho v s]) := by
  have st : ∀ (fu : Nat) (k5 w : Int) (j : Nat) (ws : List (List Int)) (_ : 0 ≤ k5 ∧ k5 ≤ 3) (_ : 2 * k5 = (j : Int)) (_ : ws.length = 8) (_ : ws.set j [] = ws) (_ : ∀ f : Int → Option Bool, ix [1, 2, 3, 4] k5 f = f w) (_ : 0 ≤ w ∧ w ≤ 4), oyezlaw07_BookBlown_l6 wide ps v ho bh s rec3 (fu + 1) k5 ws = oyezlaw07_BookBlown_l6 wide ps v ho bh s rec3 fu (k5 + 1) (ws.set j (evA wide ps ho v s w)) := by
    intro fu k5 w j ws h1 h2 h3 h4 h5 h6
    have e := blown_l8 (l3 := lstN (hrB wide ps w v s.toNat) ps.length) (rec6 := oyezlaw07_BookBlown_l6 wide ps v ho bh s rec3 fu) h1 h2 h3 hh ho 0 rfl
    rw [show lstN (fun h => decide (ho.getD h 0 ∈ lstN (hrB wide ps w v s.toNat) ps.length)) 0 = [] from rfl, h4, Nat.zero_add] at e
    rw [oyezlaw07_BookBlown_l6, h5, hou_eq hn hc hv hs h6, b2_some, if_neg (by decide)]
    exact e
  have e8 : (List.replicate 8 [] : List (List Int)) = [[], [], [], [], [], [], [], []] := rfl
  rw [e8, st 3 0 1 0 _ (by omega) (by omega) rfl rfl (fun f => rfl) (by omega)]
  rw [st 2 (0 + 1) 2 2 _ (by omega) (by omega) rfl rfl (fun f => rfl) (by omega)]
  rw [st 1 (0 + 1 + 1) 3 4 _ (by omega) (by omega) rfl rfl (fun f => rfl) (by omega)]
  rw [st 0 (0 + 1 + 1 + 1) 4 6 _ (by omega) (by omega) rfl rfl (fun f => rfl) (by omega)]
  have e9 := blown_l9 (evA_len (wide := wide) (ps := ps) (v := v) hh s 1) (evA_len (wide := wide) (ps := ps) (v := v) hh s 2) (evA_len (wide := wide) (ps := ps) (v := v) hh s 3) (evA_len (wide := wide) (ps := ps) (v := v) hh s 4)
  unfold oyezlaw07_BookBlown_l6 oyezlaw07_BookBlown_j5
  show b1 (oyezlaw07_BookBlown_l9 FU [evA wide ps ho v s 1, [], evA wide ps ho v s 2, [], evA wide ps ho v s 3, [], evA wide ps ho v s 4, []] 1) _ = _
  rw [e9, b1_some, ap_t (by simp; omega)]
  rfl
theorem blown_l3 {metal2 : List Int} {a2 t2 : Int} {st : List Int} (hn : ps.length ≤ 1000) (hc : chk wide ps = 0) (hv : 1 ≤ v ∧ v ≤ 40) (hh : ho.length ≤ 6) : ∀ (tl : List Int) (bh : List (List (List Int))), (∀ s ∈ tl, Kd ps 0 s) → bh.length + tl.length ≤ 50 →
    oyezlaw07_BookBlown_l3 metal2 a2 t2 wide ps v st ho tl bh = oyezlaw07_BookBlown_j2 metal2 a2 t2 wide ps v st ho (bh ++ tl.map (wnA wide ps ho v))
  | [], bh, _, _ => by unfold oyezlaw07_BookBlown_l3; simp
  | s :: tl, bh, hs, hl => by
    simp only [List.length_cons] at hl
    unfold oyezlaw07_BookBlown_l3
    have e : oyezlaw07_BookBlown_l6 wide ps v ho bh s (oyezlaw07_BookBlown_l3 metal2 a2 t2 wide ps v st ho tl) (Int.toNat (4 - 0)) 0 (List.replicate (8 : Int).toNat []) = _ := blown_l6 hn hc hv (hs s (by simp)) hh (bh := bh) (by omega) (rec3 := oyezlaw07_BookBlown_l3 metal2 a2 t2 wide ps v st ho tl)
    rw [gd_t (by omega), bvE, gd_t ⟨r64_small (by omega), r64_small (by omega)⟩, e, blown_l3 hn hc hv hh tl _ (fun z hz => hs z (by simp [hz])) (by simp; omega)]
    simp
end
end Go.Proofs.YtodhcoakjlmcdaaGreat.Bk
