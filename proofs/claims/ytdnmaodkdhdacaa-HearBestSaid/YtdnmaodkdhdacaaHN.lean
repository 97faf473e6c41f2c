/- Layer 1: HearBest. -/
import Derived.Test.YtdnmaodkdhdacaaHM
namespace Go.Proofs.Ytdnmaodkdhdacaa
open Go.PL Go.Hear
section
variable {wide : Int} {ps : List Int} {w v : Int}
/-- How many of the houses a list serves. -/
def srv (wide : Int) (ps : List Int) (w v : Int) (H : List Int) (L : List Nat) : Nat := cntT (cov (hrS wide ps w v H) (List.replicate H.length false) L)
theorem rbest_l2 {H : List Int} (hH : ∀ x ∈ H, 0 ≤ x ∧ x < ps.length) (hl : H.length ≤ 1000) : ∀ (Q : List (List Nat)) (s : List Nat × Nat), oyezref01_Best_l2 H (earR wide ps w v) (Q.map (·.map Int.ofNat)) (s.1.map Int.ofNat) (s.2 : Int) = some ((bst (srv wide ps w v H) s Q).1.map Int.ofNat, ((bst (srv wide ps w v H) s Q).2 : Int))
  | [], s => rfl
  | x :: Q, s => by
    rw [List.map_cons]
    unfold oyezref01_Best_l2
    have e0 : bst (srv wide ps w v H) s (x :: Q) = bst (srv wide ps w v H) (if s.2 < srv wide ps w v H x then (x, srv wide ps w v H x) else s) Q := rfl
    rw [served_eq hH hl, b1_some, e0]
    by_cases h : s.2 < srv wide ps w v H x
    · rw [if_pos h, if_pos (by unfold srv at h; omega)]
      exact rbest_l2 hH hl Q (x, srv wide ps w v H x)
    · rw [if_neg h, if_neg (by unfold srv at h; omega)]
      exact rbest_l2 hH hl Q s
theorem rbest_l1 (hn : ps.length ≤ 1000) {H : List Int} (hH : ∀ x ∈ H, 0 ≤ x ∧ x < ps.length) (hl : H.length ≤ 12) (hst : (stN ps).length ≤ 12) {most : Nat} (hm : most ≤ 100) : ∀ (fu k : Nat), k ≤ min most H.length → min most H.length - k < fu →
    oyezref01_Best_l1 wide ps H (most : Int) (earR wide ps w v) fu ((bst (srv wide ps w v H) ([], 0) (upTo (stN ps) k)).1.map Int.ofNat) ((bst (srv wide ps w v H) ([], 0) (upTo (stN ps) k)).2 : Int) ((k + 1 : Nat) : Int)
      = some ((bst (srv wide ps w v H) ([], 0) (upTo (stN ps) (min most H.length))).1.map Int.ofNat, ((bst (srv wide ps w v H) ([], 0) (upTo (stN ps) (min most H.length))).2 : Int))
  | 0, k, _, h => absurd h (Nat.not_lt_zero _)
  | fu + 1, k, hk, h => by
    unfold oyezref01_Best_l1
    have e : (if ((k + 1 : Nat) : Int) ≤ (most : Int) then some (decide (((k + 1 : Nat) : Int) ≤ (H.length : Int))) else some false) = some (decide (k + 1 ≤ min most H.length)) := by
      by_cases h1 : ((k + 1 : Nat) : Int) ≤ (most : Int)
      · rw [if_pos h1]; congr 1; rw [decide_eq_decide]; omega
      · rw [if_neg h1]; congr 1; symm; rw [decide_eq_false_iff_not]; omega
    rw [e, b1_some]
    by_cases h2 : k + 1 ≤ min most H.length
    · have l2 := rbest_l2 (wide := wide) (w := w) (v := v) hH (by omega) (subs (stN ps) (k + 1)) (bst (srv wide ps w v H) ([], 0) (upTo (stN ps) k))
      have eu : bst (srv wide ps w v H) (bst (srv wide ps w v H) ([], 0) (upTo (stN ps) k)) (subs (stN ps) (k + 1)) = bst (srv wide ps w v H) ([], 0) (upTo (stN ps) (k + 1)) := (bst_app _ _ _ _).symm
      rw [eu] at l2
      rw [if_pos (decide_eq_true h2), rstreets_eq hn, b1_some, lists_eq FU (k + 1) (stN ps) (by unfold FU; omega) (by omega) hst, b1_some, l2, b2_some, gd_t (r64_small (by omega))]
      exact rbest_l1 hn hH hl hst hm fu (k + 1) h2 (by omega)
    · have : k = min most H.length := by omega
      rw [if_neg (fun h => h2 (of_decide_eq_true h)), ← this]
theorem rBest_eq (ho : openE wide ps w = 0) {H : List Int} (hH : ∀ x ∈ H, 0 ≤ x ∧ x < ps.length) (hl : H.length ≤ 12) (hst : (stN ps).length ≤ 12) {most : Nat} (hm : most ≤ 100) :
    oyezref01_Best wide ps w v H (most : Int) = some ((bst (srv wide ps w v H) ([], 0) (upTo (stN ps) (min most H.length))).1.map Int.ofNat, ((bst (srv wide ps w v H) ([], 0) (upTo (stN ps) (min most H.length))).2 : Int)) := by
  have hn := (openE_ok ho).2.1
  unfold oyezref01_Best
  have := rbest_l1 (wide := wide) (w := w) (v := v) (by omega) hH hl hst hm FU 0 (Nat.zero_le _) (by unfold FU; omega)
  have h1 : oyezref01_Best_l1 wide ps H (most : Int) (earR wide ps w v) FU [] 0 1 = _ := this
  rw [Ears_eq ho, b1_some, h1, b2_some]
/-- Program and reference choose alike. -/
theorem best_same (ho : openE wide ps w = 0) {H : List Int} (hH : ∀ x ∈ H, 0 ≤ x ∧ x < ps.length) (hl : H.length ≤ 12) (hst : (stN ps).length ≤ 12) {most : Nat} (hm : most ≤ 100) :
    ∃ (L : List Int) (n : Nat), hear_quarter_chosen (askR wide ps w v H) (fun x => hear_ones x) (most : Int) = some (L, (n : Int)) ∧ oyezref01_Best wide ps w v H (most : Int) = some (L, (n : Int)) := by
  have hn := (openE_ok ho).2.1
  have hrl : (askR wide ps w v H).length = H.length := by unfold askR; rw [List.length_map]
  obtain ⟨L, n, h1, h2⟩ := chosen_eq (rows := askR wide ps w v H) (count := fun x => hear_ones x) (fun r hr => by
    unfold askR at hr
    obtain ⟨x, _, rfl⟩ := List.mem_map.1 hr
    exact tabN_len ..) (by omega) (fun u hu => ones_eq (by omega)) hm
  have h3 := h2 (stP ps) (fun s hs => by rw [colS_eq hn.2, hrS_no hs, hrl])
  rw [colS_eq hn.2, hrl] at h3
  have h4 := bst_best (S := hrS wide ps w v H) (m := H.length) (most := min most H.length) (st := stN ps) (p := stP ps) stN_sorted (fun s hs => by have := (stN_mem.1 hs).1; omega) (fun s _ => by
    unfold stP; rw [Bool.and_eq_true, decide_eq_true_iff, decide_eq_true_iff]; exact stN_mem.symm)
  obtain ⟨e1, e2⟩ := h3.uniq h4
  refine ⟨L.map Int.ofNat, n, h1, ?_⟩
  rw [rBest_eq ho hH hl hst hm, e1, e2]
  rfl

/-! ### The least voice -/
theorem airE_v {v v' : Int} (hv : 1 ≤ v ∧ v ≤ 40) (hv' : 1 ≤ v' ∧ v' ≤ 40) : airE wide ps w v = airE wide ps w v' := by
  unfold airE chkA
  by_cases h : okW w
  · rw [if_neg (show ¬ (¬ okW w ∨ ¬ (1 ≤ v ∧ v ≤ 40)) from fun h' => h'.elim (fun h' => h' h) (fun h' => h' hv)), if_neg (show ¬ (¬ okW w ∨ ¬ (1 ≤ v' ∧ v' ≤ 40)) from fun h' => h'.elim (fun h' => h' h) (fun h' => h' hv'))]
  · rw [if_pos (show ¬ okW w ∨ ¬ (1 ≤ v ∧ v ≤ 40) from .inl h), if_pos (show ¬ okW w ∨ ¬ (1 ≤ v' ∧ v' ≤ 40) from .inl h)]
theorem askE_v {v v' : Int} (hv : 1 ≤ v ∧ v ≤ 40) (hv' : 1 ≤ v' ∧ v' ≤ 40) (H : List Int) : askE wide ps w v H = askE wide ps w v' H := by
  unfold askE; rw [airE_v hv hv']
theorem askE_ok {H : List Int} (h : askE wide ps w v H = 0) : airE wide ps w v = 0 ∧ openE wide ps w = 0 ∧ ∀ x ∈ H, 0 ≤ x ∧ x < ps.length := by
  unfold askE at h
  by_cases h1 : airE wide ps w v = 0
  · rw [if_neg (not_not_intro h1)] at h
    exact ⟨h1, (airE_ok h1).2.2.1, fun x hx => (nmE_ok h x hx).1⟩
  · rw [if_pos h1] at h; exact absurd h h1
theorem louder_same (hn : ps.length ≤ 1000) {H : List Int} (h1 : askE wide ps w 1 H = 0) (hl : H.length ≤ 12) (hst : (stN ps).length ≤ 12) {most : Nat} (hm : most ≤ 100) : ∀ (fu k : Nat), k + fu = 40 → ∃ r : Int, hear_Louder_l1 wide ps w H (most : Int) fu (k : Int) = some r ∧ ∀ fu2, fu < fu2 → oyezref01_Louder_l2 wide ps w H (most : Int) fu2 ((k : Int) + 1) = some r
  | 0, k, hk => by
    have : k = 40 := by omega
    subst this
    refine ⟨0, rfl, fun fu2 h2 => ?_⟩
    cases fu2 with
    | zero => omega
    | succ fu2 =>
      unfold oyezref01_Louder_l2 oyezref01_Louder_j1
      rw [if_neg (by omega)]
  | fu + 1, k, hk => by
    have ha : askE wide ps w ((k : Int) + 1) H = 0 := by rw [askE_v (v' := 1) (by omega) (by omega)]; exact h1
    obtain ⟨_, ho, hH⟩ := askE_ok ha
    obtain ⟨L, n, g1, g2⟩ := best_same (v := (k : Int) + 1) ho hH hl hst hm
    obtain ⟨r, k1, k2⟩ := louder_same hn h1 hl hst hm fu (k + 1) (by omega)
    have e1 : hear_Louder_l1 wide ps w H (most : Int) (fu + 1) (k : Int) = if (n : Int) = (H.length : Int) then some ((k : Int) + 1) else some r := by
      rw [← k1]
      conv => lhs; unfold hear_Louder_l1
      rw [asked_eq hn H (by omega), ha, if_pos rfl, b3_some, gd_t (decide_eq_true rfl), g1, b2_some]
      rfl
    have e2 : ∀ fu2, fu + 1 < fu2 → oyezref01_Louder_l2 wide ps w H (most : Int) fu2 ((k : Int) + 1) = if (n : Int) = (H.length : Int) then some ((k : Int) + 1) else some r := fun fu2 h2 => by
      cases fu2 with
      | zero => omega
      | succ fu2 =>
        rw [← k2 fu2 (by omega)]
        conv => lhs; unfold oyezref01_Louder_l2
        rw [if_pos (by omega), g2, b2_some, gd_t (r64_small (by omega))]
        rfl
    by_cases h : (n : Int) = (H.length : Int)
    · rw [if_pos h] at e1
      exact ⟨(k : Int) + 1, e1, fun fu2 h2 => by rw [e2 fu2 h2, if_pos h]⟩
    · rw [if_neg h] at e1
      exact ⟨r, e1, fun fu2 h2 => by rw [e2 fu2 h2, if_neg h]⟩
theorem many_l1 : ∀ (l : List Int) (n : Int), 0 ≤ n → n + l.length ≤ 1000000 → oyezlaw01_many_l1 l n = some (n + ((l.countP fun x => decide (x = 0) : Nat) : Int))
  | [], n, _, _ => by unfold oyezlaw01_many_l1; simp
  | x :: l, n, h0, h => by
    simp only [List.length_cons] at h
    unfold oyezlaw01_many_l1
    rw [List.countP_cons]
    by_cases hx : x = 0
    · rw [if_pos hx, gd_t (r64_small (by omega)), many_l1 l (n + 1) (by omega) (by omega), if_pos (decide_eq_true hx)]
      congr 1; omega
    · rw [if_neg hx, many_l1 l n h0 (by omega), if_neg (fun h' => hx (of_decide_eq_true h'))]
      rfl
theorem stN_count : ∀ ps : List Int, (stN ps).length = ps.countP fun x => decide (x = 0) := fun ps => by
  unfold stN
  rw [← List.countP_eq_length_filter]
  have : ps = (List.range ps.length).map fun s => ps.getD s 0 := by
    apply List.ext_getElem
    · simp
    · intro i h1 h2
      simp [List.getD_eq_getElem?_getD, h1]
  conv => rhs; rw [this]
  rw [List.countP_map]
  rfl
end
section
variable {wide : Int} {ps : List Int} {w v : Int} {H : List Int} {stands : Int}
theorem best_part (hn : ps.length ≤ 1000) (hl : H.length ≤ 12) (hst : askE wide ps w v H = 0 → (stN ps).length ≤ 12) {w' : Int} (hw : w' = if stands < 0 ∨ 30 < stands then (if askE wide ps w v H = 0 then 3 else askE wide ps w v H) else askE wide ps w v H) :
    ∃ l n, hear_Best wide ps w v H stands = some (l, n, w') ∧ (if w' = 0 then (b2 (oyezref01_Best wide ps w v H stands) fun l5 n9 => some (ps, l5, n9)) else some (ps, [], 0)) = some (ps, l, n) := by
  unfold hear_Best
  rw [asked_eq hn H (by omega), b3_some]
  by_cases ha : askE wide ps w v H = 0
  · obtain ⟨_, ho, hH⟩ := askE_ok ha
    rw [if_neg (not_not_intro ha), in_eq, b1_some, if_pos ha]
    by_cases hs : stands < 0 ∨ 30 < stands
    · rw [if_pos hs, if_pos ha] at hw
      have : ¬ (0 ≤ stands ∧ stands ≤ 30) := by omega
      refine ⟨[], 0, ?_, ?_⟩
      · rw [if_pos (by simp [this]), hw]
      · rw [if_neg (by rw [hw]; decide)]
    · rw [if_neg hs, ha] at hw
      obtain ⟨L, n, g1, g2⟩ := best_same (v := v) ho hH hl (hst ha) (most := stands.toNat) (by omega)
      rw [Int.toNat_of_nonneg (by omega)] at g1 g2
      have : 0 ≤ stands ∧ stands ≤ 30 := by omega
      refine ⟨L, n, ?_, ?_⟩
      · rw [if_neg (by simp [this]), gd_t (decide_eq_true ha), g1, b2_some, hw]
      · rw [if_pos hw, g2, b2_some]
  · have hw' : w' = askE wide ps w v H := by
      rw [hw, if_neg ha, ite_self]
    refine ⟨[], 0, ?_, ?_⟩
    · rw [if_pos ha, hw']
    · rw [if_neg (by rw [hw']; exact ha)]
theorem louder_part (hn : ps.length ≤ 1000) (hl : H.length ≤ 12) (hst : askE wide ps w 1 H = 0 → (stN ps).length ≤ 12) {u : Int} (hu : u = if stands < 0 ∨ 30 < stands then (if askE wide ps w 1 H = 0 then 3 else askE wide ps w 1 H) else askE wide ps w 1 H) :
    ∃ x e, hear_Louder wide ps w H stands = some (x, e) ∧ (if u = 0 then (b1 (oyezref01_Louder wide ps w H stands) fun n10 => if n10 = 0 then some (6, n10) else some (u, n10)) else some (u, 0)) = some (e, x) := by
  unfold hear_Louder
  have hask : askE wide ps w 40 H = askE wide ps w 1 H := askE_v (by omega) (by omega) H
  rw [asked_eq hn H (by omega), b3_some, hask]
  by_cases ha : askE wide ps w 1 H = 0
  · rw [if_neg (not_not_intro ha), in_eq, b1_some]
    by_cases hs : stands < 0 ∨ 30 < stands
    · rw [if_pos hs, if_pos ha] at hu
      have : ¬ (0 ≤ stands ∧ stands ≤ 30) := by omega
      refine ⟨0, 3, ?_, ?_⟩
      · rw [if_pos (by simp [this])]
      · rw [hu, if_neg (by decide)]
    · rw [if_neg hs, ha] at hu
      have h30 : 0 ≤ stands ∧ stands ≤ 30 := by omega
      obtain ⟨r, g1, g2⟩ := louder_same hn ha hl (hst ha) (most := stands.toNat) (by omega) 40 0 rfl
      rw [Int.toNat_of_nonneg (by omega)] at g1 g2
      have g1' : hear_Louder_l1 wide ps w H stands (Int.toNat (40 - 0)) 0 = some r := g1
      have g2' : oyezref01_Louder wide ps w H stands = some r := g2 FU (by unfold FU; omega)
      rw [if_neg (by simp [h30]), gd_t ⟨by decide, by decide⟩, g1', b1_some, if_pos hu, g2', b1_some]
      by_cases hr : r = 0
      · exact ⟨0, 6, by rw [if_pos hr], by rw [if_pos hr, hr]⟩
      · exact ⟨r, 0, by rw [if_neg hr], by rw [if_neg hr, hu]⟩
  · have hu' : u = askE wide ps w 1 H := by
      rw [hu, if_neg ha, ite_self]
    refine ⟨0, askE wide ps w 1 H, ?_, ?_⟩
    · rw [if_pos ha]
    · rw [hu', if_neg ha]
theorem ask_len (hn : ¬ (ps.length : Int) ≤ 30) : askE wide ps w v H ≠ 0 := fun h => by
  obtain ⟨_, ho, _⟩ := askE_ok h
  have := (openE_ok ho).2.1
  omega
end
theorem best_true {wide : Int} {ps : List Int} {w v : Int} {H : List Int} {stands : Int} (hb : (ps.length : Int) ≤ 9223372036854775807) : oyezlaw01_HearBest wide ps w v H stands = some true := by
  by_cases h1 : 40 < (ps.length : Int)
  · unfold oyezlaw01_HearBest oyezlaw01_many
    have hml : ∃ n, oyezlaw01_many_l1 ps 0 = some n := by
      have : ∀ (l : List Int) (n : Int), 0 ≤ n → n + l.length ≤ 9223372036854775807 → ∃ m, oyezlaw01_many_l1 l n = some m := by
        intro l
        induction l with
        | nil => intro n _ _; exact ⟨n, rfl⟩
        | cons x l ih =>
          intro n h0 h
          simp only [List.length_cons] at h
          unfold oyezlaw01_many_l1
          by_cases hx : x = 0
          · rw [if_pos hx, gd_t (by unfold R64; omega)]
            exact ih (n + 1) (by omega) (by omega)
          · rw [if_neg hx]
            exact ih n h0 (by omega)
      exact this ps 0 (by omega) (by omega)
    obtain ⟨n, hml⟩ := hml
    rw [hml, b1_some, great_eq, b1_some, awake_t, b1_some, if_pos (decide_eq_true h1), b1_some, if_pos rfl, b1_some, if_pos rfl]
  have hn : ps.length ≤ 1000 := by omega
  unfold oyezlaw01_HearBest oyezlaw01_many
  rw [many_l1 ps 0 (by omega) (by omega), b1_some, great_eq, b1_some, awake_t, b1_some, ← stN_count, Int.zero_add]
  rw [if_neg (fun h => h1 (of_decide_eq_true h))]
  by_cases h2 : 8 < ((stN ps).length : Int) ∧ (ps.length : Int) ≤ 30
  · rw [if_pos h2.1, b1_some, if_pos (decide_eq_true h2.2), b1_some, if_pos rfl]
  have e1 : (if 8 < ((stN ps).length : Int) then some (decide ((ps.length : Int) ≤ 30)) else some false) = some false := by
    by_cases h3 : 8 < ((stN ps).length : Int)
    · rw [if_pos h3, decide_eq_false (fun h => h2 ⟨h3, h⟩)]
    · rw [if_neg h3]
  rw [e1, b1_some, if_neg (by decide), b1_some]
  by_cases h3 : 12 < (H.length : Int)
  · rw [if_pos (decide_eq_true h3)]
  rw [if_neg (fun h => h3 (of_decide_eq_true h)), own_eq hn, b2_some, copy_eq (by omega), b1_some, theirs_eq hn, b2_some]
  have hst : ∀ v', askE wide ps w v' H = 0 → (stN ps).length ≤ 12 := fun v' h => by
    by_cases h4 : (ps.length : Int) ≤ 30
    · have : ¬ 8 < ((stN ps).length : Int) := fun h => h2 ⟨h, h4⟩
      omega
    · exact absurd h (ask_len h4)
  obtain ⟨l, n, b1', b2'⟩ := best_part (stands := stands) (w := w) (v := v) hn (show H.length ≤ 12 by omega) (hst v) rfl
  obtain ⟨x, e, l1', l2'⟩ := louder_part (stands := stands) (w := w) hn (show H.length ≤ 12 by omega) (hst 1) rfl
  rw [b1', b3_some, l1', b2_some, rAsked_eq hn, b1_some, rAsked_eq hn, b1_some]
  have ek : (if stands < 0 then some true else some (decide (30 < stands))) = some (decide (stands < 0 ∨ 30 < stands)) := by
    by_cases h : stands < 0
    · rw [if_pos h, decide_eq_true (.inl h)]
    · rw [if_neg h]; congr 1; rw [decide_eq_decide]; omega
  have ew : (if decide (stands < 0 ∨ 30 < stands) = true then (b1 (if askE wide ps w v H = 0 then some 3 else some (askE wide ps w v H)) fun w2 => if askE wide ps w 1 H = 0 then some (w2, 3) else some (w2, askE wide ps w 1 H)) else some (askE wide ps w v H, askE wide ps w 1 H))
      = some ((if stands < 0 ∨ 30 < stands then (if askE wide ps w v H = 0 then 3 else askE wide ps w v H) else askE wide ps w v H), (if stands < 0 ∨ 30 < stands then (if askE wide ps w 1 H = 0 then 3 else askE wide ps w 1 H) else askE wide ps w 1 H)) := by
    by_cases h : stands < 0 ∨ 30 < stands
    · rw [if_pos (decide_eq_true h), if_pos h, if_pos h]
      have : (if askE wide ps w v H = 0 then some (3 : Int) else some (askE wide ps w v H)) = some (if askE wide ps w v H = 0 then 3 else askE wide ps w v H) := by split <;> rfl
      rw [this, b1_some]
      by_cases h5 : askE wide ps w 1 H = 0
      · rw [if_pos h5, if_pos h5]
      · rw [if_neg h5, if_neg h5]
    · rw [if_neg (fun h' => h (of_decide_eq_true h')), if_neg h, if_neg h]
  rw [ek, b1_some, ew, b2_some, b2', b3_some, l2', b2_some, if_pos rfl, if_pos rfl, if_pos rfl, if_pos rfl, like_eq, b1_some, if_pos (decide_eq_true rfl), same_eq, b1_some, if_pos rfl, like_eq, b1_some, if_pos (decide_eq_true rfl)]
end Go.Proofs.Ytdnmaodkdhdacaa
