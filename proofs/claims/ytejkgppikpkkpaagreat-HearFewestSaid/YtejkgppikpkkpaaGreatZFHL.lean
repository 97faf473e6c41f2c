/- Layer 1: sets of houses as numbers, and the stands that are chosen. -/
import Derived.Test.YtejkgppikpkkpaaGreatZFHK
import Derived.Test.YtejkgppikpkkpaaGreatZFHearC
namespace Go.Proofs.YtejkgppikpkkpaaGreat
open Go.PL Go.Hear
def mkL : List Bool → Nat
  | [] => 0
  | b :: u => (if b = true then 1 else 0) + 2 * mkL u
theorem mkL_lt : ∀ u : List Bool, mkL u < 2 ^ u.length
  | [] => by decide
  | b :: u => by
    have := mkL_lt u
    unfold mkL
    rw [List.length_cons, Nat.pow_succ]
    split <;> omega
theorem mkL_small {u : List Bool} (h : u.length ≤ 60) : mkL u < 9223372036854775808 :=
  Nat.lt_of_lt_of_le (mkL_lt u) (Nat.le_trans (Nat.pow_le_pow_right (by decide) h) (by decide))
theorem mkL_inj : ∀ {u v : List Bool}, u.length = v.length → mkL u = mkL v → u = v
  | [], [], _, _ => rfl
  | [], _ :: _, h, _ => by simp at h
  | _ :: _, [], h, _ => by simp at h
  | a :: u, b :: v, h, he => by
    unfold mkL at he
    have h1 : mkL u = mkL v := by split at he <;> split at he <;> omega
    have h2 : a = b := by
      cases a <;> cases b <;> simp at he <;> first | rfl | omega
    rw [h2, mkL_inj (by simpa using h) h1]
theorem mkL_bit : ∀ (u : List Bool) (i : Nat), (mkL u).testBit i = u.getD i false
  | [], i => by unfold mkL; simp
  | b :: u, 0 => by
    unfold mkL
    rw [Nat.testBit_zero, List.getD_cons_zero]
    cases b <;> simp
  | b :: u, i + 1 => by
    unfold mkL
    rw [Nat.testBit_succ, List.getD_cons_succ, ← mkL_bit u i]
    congr 1
    split <;> omega
theorem orL_get : ∀ {a b : List Bool} (i : Nat), a.length = b.length → (orL a b).getD i false = (a.getD i false || b.getD i false)
  | [], [], i, _ => by simp [orL]
  | [], _ :: _, _, h => by simp at h
  | _ :: _, [], _, h => by simp at h
  | x :: a, y :: b, 0, _ => by simp [orL]
  | x :: a, y :: b, i + 1, h => by
    have := orL_get (a := a) (b := b) i (by simpa using h)
    unfold orL at *
    rw [List.zipWith_cons_cons, List.getD_cons_succ, List.getD_cons_succ, List.getD_cons_succ, this]
theorem mkL_or {a b : List Bool} (h : a.length = b.length) : mkL a ||| mkL b = mkL (orL a b) := by
  apply Nat.eq_of_testBit_eq
  intro i
  rw [Nat.testBit_or, mkL_bit, mkL_bit, mkL_bit, orL_get i h]
theorem bor_nat {x y : Nat} (hx : x < 9223372036854775808) (hy : y < 9223372036854775808) : bor (x : Int) (y : Int) = ((x ||| y : Nat) : Int) := by
  have ho : x ||| y < 2 ^ 63 := Nat.or_lt_two_pow hx hy
  unfold bor
  rw [BitVec.ofInt_natCast, BitVec.ofInt_natCast]
  have e : (BitVec.ofNat 64 x ||| BitVec.ofNat 64 y).toNat = x ||| y := by
    rw [BitVec.toNat_or, BitVec.toNat_ofNat, BitVec.toNat_ofNat, Nat.mod_eq_of_lt (by omega), Nat.mod_eq_of_lt (by omega)]
  rw [BitVec.toInt_eq_toNat_of_lt (by rw [e]; omega), e]
theorem bor_mk {a b : List Bool} (h : a.length = b.length) (h60 : a.length ≤ 60) : bor (mkL a : Int) (mkL b : Int) = (mkL (orL a b) : Int) := by
  rw [bor_nat (mkL_small h60) (mkL_small (by omega)), mkL_or h]
theorem mkL_app : ∀ (u v : List Bool), mkL (u ++ v) = mkL u + 2 ^ u.length * mkL v
  | [], v => by simp [mkL]
  | b :: u, v => by
    have e1 : mkL (b :: u ++ v) = (if b = true then 1 else 0) + 2 * mkL (u ++ v) := rfl
    have e2 : mkL (b :: u) = (if b = true then 1 else 0) + 2 * mkL u := rfl
    rw [e1, e2, mkL_app u v, List.length_cons, Nat.pow_succ, Nat.mul_comm (2 ^ u.length) 2, Nat.mul_assoc]
    generalize 2 ^ u.length * mkL v = z
    omega
theorem mkL_zero : ∀ k : Nat, mkL (List.replicate k false) = 0
  | 0 => rfl
  | k + 1 => by
    rw [List.replicate_succ]; unfold mkL; rw [mkL_zero k]; rfl
theorem orL_snoc : ∀ (u : List Bool), orL (u ++ [false]) (List.replicate u.length false ++ [true]) = u ++ [true]
  | [] => rfl
  | b :: u => by
    have := orL_snoc u
    unfold orL at *
    rw [List.cons_append, List.length_cons, List.replicate_succ, List.cons_append, List.zipWith_cons_cons, this, Bool.or_false]; rfl
theorem bor_bit (u : List Bool) (h : u.length ≤ 59) : bor (mkL u : Int) ((2 ^ u.length : Nat) : Int) = (mkL (u ++ [true]) : Int) := by
  have h1 : mkL u = mkL (u ++ [false]) := by rw [mkL_app]; simp [mkL]
  have h2 : 2 ^ u.length = mkL (List.replicate u.length false ++ [true]) := by rw [mkL_app, mkL_zero]; simp [mkL]
  rw [h2, h1, bor_mk (by simp) (by simp; omega), orL_snoc]
/-- The houses that hear a stand. -/
def colS (rows : List (List Bool)) (s : Nat) : List Bool := rows.map (·.getD s false)
theorem colS_len (rows : List (List Bool)) (s : Nat) : (colS rows s).length = rows.length := by simp [colS]
theorem by_l1 {stand : Int} (h0 : 0 ≤ stand) (h1 : stand < 30) : ∀ (rows : List (List Bool)) (pre : List Bool), (∀ r ∈ rows, r.length = 30) → pre.length + rows.length ≤ 50 → hear_quarter_by_l1 stand rows (pre.length : Int) (mkL pre : Int) = some (mkL (pre ++ colS rows stand.toNat) : Int)
  | [], pre, _, _ => by
    unfold hear_quarter_by_l1 colS; simp
  | x :: rows, pre, hr, hl => by
    simp only [List.length_cons] at hl
    have hx := hr x (List.mem_cons_self ..)
    have hget : x[stand.toNat]? = some (x.getD stand.toNat false) := getD_of (by omega)
    have hc : colS (x :: rows) stand.toNat = x.getD stand.toNat false :: colS rows stand.toNat := rfl
    unfold hear_quarter_by_l1
    rw [ix_t h0 hget, hc]
    have ih := fun b => by_l1 h0 h1 rows (pre ++ [b]) (fun r hr' => hr r (List.mem_cons_of_mem _ hr')) (by simp; omega)
    cases hb : x.getD stand.toNat false with
    | true =>
      have e : shl 1 (pre.length : Int) = ((2 ^ pre.length : Nat) : Int) := by unfold shl; simp
      have hp : (2 ^ pre.length : Nat) ≤ 1125899906842624 := Nat.le_trans (Nat.pow_le_pow_right (by decide) (show pre.length ≤ 50 by omega)) (by decide)
      have hp' : R64 ((2 ^ pre.length : Nat) : Int) := by
        generalize 2 ^ pre.length = z at hp
        unfold R64; omega
      rw [if_pos rfl, e, gd_t ⟨by omega, hp'⟩, bor_bit pre (by omega)]
      have := ih true
      rw [List.length_append, List.length_singleton, List.append_assoc] at this
      exact this
    | false =>
      rw [if_neg (by decide)]
      have := ih false
      have h2 : mkL (pre ++ [false]) = mkL pre := by rw [mkL_app]; simp [mkL]
      rw [List.length_append, List.length_singleton, List.append_assoc, h2] at this
      exact this
theorem by_eq {rows : List (List Bool)} {count : Int → Option Int} (hr : ∀ r ∈ rows, r.length = 30) (hl : rows.length ≤ 50) {s : Nat} (hs : s < 30) : hear_quarter_by rows count (s : Int) = some (mkL (colS rows s) : Int) := by
  unfold hear_quarter_by
  have := by_l1 (stand := (s : Int)) (by omega) (by omega) rows [] hr (by simpa using hl)
  have h1 : hear_quarter_by_l1 (s : Int) rows 0 0 = _ := this
  rw [h1, b1_some]; rfl
theorem cnt_zero : ∀ {u : List Bool}, mkL u = 0 → cntT u = 0
  | [], _ => rfl
  | b :: u, h => by
    unfold mkL at h
    have h1 : mkL u = 0 := by split at h <;> omega
    have h2 : b = false := by cases b <;> simp at h <;> rfl
    have := cnt_zero h1
    unfold cntT at *
    rw [List.countP_cons, this, h2]; rfl
theorem ones_l1 : ∀ (fu : Nat) (u : List Bool) (n : Int), u.length < fu → u.length ≤ 60 → 0 ≤ n → n + (u.length : Int) ≤ 1000 → hear_ones_l1 fu (mkL u : Int) n = some (n + (cntT u : Int))
  | 0, u, _, h, _, _, _ => absurd h (Nat.not_lt_zero _)
  | fu + 1, [], n, _, _, _, _ => by
    have e0 : ((mkL [] : Nat) : Int) = 0 := rfl
    have e1 : (n + (cntT [] : Int)) = n := Int.add_zero n
    rw [e0, e1]
    unfold hear_ones_l1
    rw [if_neg (Int.lt_irrefl 0)]
  | fu + 1, b :: u, n, h, h60, h0, hn => by
    simp only [List.length_cons] at h h60 hn
    unfold hear_ones_l1
    by_cases hz : mkL (b :: u) = 0
    · have := cnt_zero hz
      rw [hz, this, if_neg (by decide)]; simp
    · have hsm := mkL_small (u := b :: u) (by simpa using h60)
      have ec : mkL (b :: u) = (if b = true then 1 else 0) + 2 * mkL u := rfl
      have e1 : Int.tmod (mkL (b :: u) : Int) 2 = (if b = true then 1 else 0) := by
        rw [Int.tmod_eq_emod_of_nonneg (by omega), ec]; split <;> omega
      have e2 : Int.tdiv (mkL (b :: u) : Int) 2 = (mkL u : Int) := by
        rw [Int.tdiv_eq_ediv_of_nonneg (by omega), ec]; split <;> omega
      have hs2 := mkL_small (u := u) (by omega)
      rw [if_pos (by omega), e1, e2, gd_t (r64_small (by split <;> omega)), gd_t ⟨by decide, by unfold R64; omega⟩]
      rw [ones_l1 fu u _ (by omega) (by omega) (by split <;> omega) (by split <;> omega)]
      congr 1
      unfold cntT
      rw [List.countP_cons]
      cases b <;> simp <;> omega
theorem ones_eq {u : List Bool} (h : u.length ≤ 60) : hear_ones (mkL u : Int) = some (cntT u : Int) := by
  unfold hear_ones
  rw [ones_l1 FU u 0 (by unfold FU; omega) h (by omega) (by omega), b1_some, Int.zero_add]
section
variable {rows : List (List Bool)} {count : Int → Option Int}
abbrev Met := List ((Int × Int × Int) × Int)
/-- What was met is right. -/
def MOK (rows : List (List Bool)) (met : Met) : Prop := ∀ (a l : Nat) (u : List Bool) (n : Int), a ≤ 30 → u.length = rows.length → mget met ((a : Int), (l : Int), (mkL u : Int)) = some n → n = (onV (colS rows) (30 - a) l u : Int)
theorem chosen1 (hr : ∀ r ∈ rows, r.length = 30) (hl : rows.length ≤ 50) (hc : ∀ u : List Bool, u.length = rows.length → count (mkL u : Int) = some (cntT u : Int)) : ∀ (fu d l : Nat) (u : List Bool) (met : Met), d ≤ 30 → d < fu → l ≤ 1000 → u.length = rows.length → MOK rows met →
    ∃ met', hear_quarter_chosen_1 fu ((30 - d : Nat) : Int) (l : Int) (mkL u : Int) rows count met = some ((onV (colS rows) d l u : Int), met') ∧ MOK rows met'
  | 0, _, _, _, _, _, h, _, _, _ => by omega
  | fu + 1, d, l, u, met, hd, hfu, hl1, hu, hm => by
    unfold hear_quarter_chosen_1 hear_quarter_chosen_1B
    by_cases h0 : l = 0 ∨ d = 0
    · have e : (if (l : Int) = 0 then some true else some (decide (((30 - d : Nat) : Int) = 30))) = some true := by
        by_cases hz : l = 0
        · rw [if_pos (by omega)]
        · rw [if_neg (by omega), decide_eq_true (by omega)]
      refine ⟨met, ?_, hm⟩
      rw [e, b1_some, if_pos rfl, hc u hu, b1_some]
      have : onV (colS rows) d l u = cntT u := by
        rcases h0 with rfl | rfl
        · exact onV_zero d u
        · rfl
      rw [this]
    · have hl0 : l ≠ 0 := fun h => h0 (.inl h)
      have hd0 : d ≠ 0 := fun h => h0 (.inr h)
      obtain ⟨l', rfl⟩ : ∃ l', l = l' + 1 := ⟨l - 1, by omega⟩
      obtain ⟨d', rfl⟩ : ∃ d', d = d' + 1 := ⟨d - 1, by omega⟩
      have e : (if ((l' + 1 : Nat) : Int) = 0 then some true else some (decide (((30 - (d' + 1) : Nat) : Int) = 30))) = some false := by
        rw [if_neg (by omega), decide_eq_false (by omega)]
      rw [e, b1_some, if_neg (by decide), bvE]
      cases hg : mget met (((30 - (d' + 1) : Nat) : Int), ((l' + 1 : Nat) : Int), (mkL u : Int)) with
      | some n =>
        have := hm (30 - (d' + 1)) (l' + 1) u n (by omega) hu hg
        rw [show 30 - (30 - (d' + 1)) = d' + 1 by omega] at this
        exact ⟨met, by rw [if_pos (show (some n).isSome = true from rfl), this]; rfl, hm⟩
      | none =>
        have ef : ((30 - (d' + 1) : Nat) : Int) + 1 = ((30 - d' : Nat) : Int) := by omega
        have el : ((l' + 1 : Nat) : Int) - 1 = (l' : Int) := by omega
        rw [if_neg (by decide), gd_t (r64_small (by omega)), ef]
        obtain ⟨m2, g1, g2⟩ := chosen1 hr hl hc fu d' (l' + 1) u met (by omega) (by omega) hl1 hu hm
        rw [g1, b2_some, by_eq hr hl (by omega), b1_some, bor_mk (by rw [hu, colS_len]) (by omega)]
        have hou : (orL u (colS rows (30 - (d' + 1)))).length = rows.length := by rw [orL_len (by rw [hu, colS_len]), hu]
        have key : ∃ m3, (if ((mkL (orL u (colS rows (30 - (d' + 1)))) : Nat) : Int) ≠ (mkL u : Int) then
            gd (R64 ((30 - d' : Nat) : Int)) <| gd (R64 (((l' + 1 : Nat) : Int) - 1)) <|
              b2 (hear_quarter_chosen_1 fu ((30 - d' : Nat) : Int) (((l' + 1 : Nat) : Int) - 1) (mkL (orL u (colS rows (30 - (d' + 1)))) : Int) rows count m2) fun n6 met3 => some (met3, if n6 > (onV (colS rows) d' (l' + 1) u : Int) then n6 else (onV (colS rows) d' (l' + 1) u : Int))
            else some (m2, (onV (colS rows) d' (l' + 1) u : Int))) = some (m3, (onV (colS rows) (d' + 1) (l' + 1) u : Int)) ∧ MOK rows m3 := by
          have ev : onV (colS rows) (d' + 1) (l' + 1) u = max (onV (colS rows) d' (l' + 1) u) (onV (colS rows) d' l' (orL u (colS rows (29 - d')))) := rfl
          have e29 : 30 - (d' + 1) = 29 - d' := by omega
          by_cases hs : mkL (orL u (colS rows (30 - (d' + 1)))) = mkL u
          · have hsame := mkL_inj (by rw [hou, hu]) hs
            refine ⟨m2, ?_, g2⟩
            rw [if_neg (by rw [hs]; exact fun h => h rfl), ev, ← e29, hsame, Nat.max_eq_left (onV_mono (by omega) (Nat.le_succ _) u)]
          · obtain ⟨m3, g3, g4⟩ := chosen1 hr hl hc fu d' l' (orL u (colS rows (30 - (d' + 1)))) m2 (by omega) (by omega) (by omega) hou g2
            refine ⟨m3, ?_, g4⟩
            rw [if_pos (fun h => hs (by omega)), gd_t (r64_small (by omega)), gd_t (r64_small (by omega)), el, g3, b2_some, ev, ← e29]
            congr 2
            by_cases hgt : (onV (colS rows) d' l' (orL u (colS rows (30 - (d' + 1)))) : Int) > (onV (colS rows) d' (l' + 1) u : Int)
            · rw [if_pos hgt, Nat.max_eq_right (by omega)]
            · rw [if_neg hgt, Nat.max_eq_left (by omega)]
        obtain ⟨m3, k1, k2⟩ := key
        rw [k1, b2_some, bvE]
        refine ⟨_, rfl, fun a l u' n ha hu' hg' => ?_⟩
        rw [mget_mput] at hg'
        by_cases hk : (((30 - (d' + 1) : Nat) : Int), ((l' + 1 : Nat) : Int), (mkL u : Int)) = ((a : Int), (l : Int), (mkL u' : Int))
        · rw [if_pos hk] at hg'
          rw [Prod.mk.injEq, Prod.mk.injEq] at hk
          obtain ⟨k3, k4, k5⟩ := hk
          have e1 : a = 30 - (d' + 1) := by omega
          have e2 : l = l' + 1 := by omega
          have e3 : u' = u := (mkL_inj (by rw [hu, hu']) (by omega)).symm
          subst e1 e2 e3
          rw [← Option.some.inj hg', show 30 - (30 - (d' + 1)) = d' + 1 by omega]
        · rw [if_neg hk] at hg'
          exact k2 a l u' n ha hu' hg'
theorem chosen_l1 (hr : ∀ r ∈ rows, r.length = 30) (hl : rows.length ≤ 50) (hc : ∀ u : List Bool, u.length = rows.length → count (mkL u : Int) = some (cntT u : Int)) {all most : Nat} (hall : all ≤ onV (colS rows) 30 most (List.replicate rows.length false)) (hmost : most ≤ 100) :
    ∀ (fu l : Nat) (met : Met), l ≤ most → most - l < fu → MOK rows met → (∀ l', l' < l → onV (colS rows) 30 l' (List.replicate rows.length false) < all) →
      ∃ met' l2, hear_quarter_chosen_l1 rows count (all : Int) fu met (l : Int) = some (met', ((l2 : Nat) : Int)) ∧ MOK rows met' ∧ l2 ≤ most ∧ all ≤ onV (colS rows) 30 l2 (List.replicate rows.length false) ∧ ∀ l', l' < l2 → onV (colS rows) 30 l' (List.replicate rows.length false) < all
  | 0, _, _, _, h, _, _ => by omega
  | fu + 1, l, met, h1, h2, hm, hmin => by
    unfold hear_quarter_chosen_l1
    obtain ⟨m2, g1, g2⟩ := chosen1 hr hl hc FU 30 l (List.replicate rows.length false) met (Nat.le_refl _) (by unfold FU; omega) (by omega) (by simp) hm
    rw [mkL_zero] at g1
    have g1' : hear_quarter_chosen_1 FU 0 (l : Int) 0 rows count met = some ((onV (colS rows) 30 l (List.replicate rows.length false) : Int), m2) := g1
    rw [g1', b2_some]
    by_cases hlt : onV (colS rows) 30 l (List.replicate rows.length false) < all
    · have hne : l ≠ most := fun h => by subst h; omega
      rw [if_pos (by omega), gd_t (r64_small (by omega)), show ((l : Int) + 1) = ((l + 1 : Nat) : Int) from rfl]
      exact chosen_l1 hr hl hc hall hmost fu (l + 1) m2 (by omega) (by omega) g2 fun l' hl' => by
        by_cases he : l' = l
        · rw [he]; exact hlt
        · exact hmin l' (by omega)
    · rw [if_neg (by omega)]
      exact ⟨m2, l, rfl, g2, h1, by omega, hmin⟩
theorem chosen_l3 (hr : ∀ r ∈ rows, r.length = 30) (hl : rows.length ≤ 50) (hc : ∀ u : List Bool, u.length = rows.length → count (mkL u : Int) = some (cntT u : Int)) {all l s : Nat} {u : List Bool} (hu : u.length = rows.length) (hl1 : l ≤ 100) (hs : s < 30) (hok : all ≤ onV (colS rows) (30 - (s + 1)) l (orL u (colS rows s))) {a0 : Nat} :
    ∀ (fu a : Nat) (met : Met), a0 ≤ a → a ≤ s → s - a < fu → MOK rows met → (∀ t, a0 ≤ t → t < a → onV (colS rows) (30 - (t + 1)) l (orL u (colS rows t)) < all) →
      ∃ met' s2, hear_quarter_chosen_l3 rows count (all : Int) ((l + 1 : Nat) : Int) (mkL u : Int) fu met (a : Int) = some (met', ((s2 : Nat) : Int)) ∧ MOK rows met' ∧ a0 ≤ s2 ∧ s2 < 30 ∧ all ≤ onV (colS rows) (30 - (s2 + 1)) l (orL u (colS rows s2)) ∧ ∀ t, a0 ≤ t → t < s2 → onV (colS rows) (30 - (t + 1)) l (orL u (colS rows t)) < all
  | 0, _, _, _, _, h, _, _ => by omega
  | fu + 1, a, met, h0, h1, h2, hm, hno => by
    unfold hear_quarter_chosen_l3
    have el : ((l + 1 : Nat) : Int) - 1 = (l : Int) := by omega
    have hou : (orL u (colS rows a)).length = rows.length := by rw [orL_len (by rw [hu, colS_len]), hu]
    obtain ⟨m2, g1, g2⟩ := chosen1 hr hl hc FU (30 - (a + 1)) l (orL u (colS rows a)) met (by omega) (by unfold FU; omega) (by omega) hou hm
    have ea : ((30 - (30 - (a + 1)) : Nat) : Int) = (a : Int) + 1 := by omega
    rw [ea] at g1
    rw [gd_t (r64_small (by omega)), gd_t (r64_small (by omega)), by_eq hr hl (by omega), b1_some, bor_mk (by rw [hu, colS_len]) (by omega), el, g1, b2_some]
    by_cases hlt : onV (colS rows) (30 - (a + 1)) l (orL u (colS rows a)) < all
    · have hne : a ≠ s := fun h => by subst h; omega
      rw [if_pos (by omega), gd_t (r64_small (by omega)), show ((a : Int) + 1) = ((a + 1 : Nat) : Int) from rfl]
      exact chosen_l3 hr hl hc hu hl1 hs hok fu (a + 1) m2 (by omega) (by omega) (by omega) g2 fun t ht1 ht2 => by
        by_cases he : t = a
        · rw [he]; exact hlt
        · exact hno t ht1 (by omega)
    · rw [if_neg (by omega)]
      exact ⟨m2, a, rfl, g2, h0, by omega, by omega, hno⟩
theorem chosen_l2 (hr : ∀ r ∈ rows, r.length = 30) (hl : rows.length ≤ 50) (hc : ∀ u : List Bool, u.length = rows.length → count (mkL u : Int) = some (cntT u : Int)) {all : Nat} :
    ∀ (fu l a : Nat) (u : List Bool) (met : Met) (acc : List Int), l < fu → l ≤ 100 → a ≤ 30 → u.length = rows.length → MOK rows met → acc.length + l ≤ 1000 → all ≤ onV (colS rows) (30 - a) l u → (∀ l', l = l' + 1 → onV (colS rows) (30 - a) l' u < all) →
      ∃ L, hear_quarter_chosen_l2 rows count (all : Int) fu met (a : Int) (l : Int) (mkL u : Int) acc = some (acc ++ L.map Int.ofNat) ∧ Grd (colS rows) all a l u L
  | 0, _, _, _, _, _, h, _, _, _, _, _, _, _ => by omega
  | fu + 1, 0, a, u, met, acc, _, _, _, _, _, _, _, _ => by
    unfold hear_quarter_chosen_l2
    rw [if_neg (by omega)]
    exact ⟨[], by simp, .nil⟩
  | fu + 1, l + 1, a, u, met, acc, hfu, hl1, ha, hu, hm, hac, hall, hmin => by
    unfold hear_quarter_chosen_l2
    obtain ⟨s, s1, s2, s3⟩ := first_ex ha (hmin l rfl) hall
    obtain ⟨m2, t, g1, g2, g3, g4, g5, g6⟩ := chosen_l3 hr hl hc hu (by omega) s2 s3 FU a met (Nat.le_refl _) s1 (by unfold FU; omega) hm (fun t h1 h2 => by omega)
    have hou : (orL u (colS rows t)).length = rows.length := by rw [orL_len (by rw [hu, colS_len]), hu]
    have el : ((l + 1 : Nat) : Int) - 1 = (l : Int) := by omega
    rw [if_pos (by omega), g1, b2_some, ap_t (by simp; omega), gd_t (r64_small (by omega)), gd_t (r64_small (by omega)), by_eq hr hl g4, b1_some, bor_mk (by rw [hu, colS_len]) (by omega), el, show ((t : Int) + 1) = ((t + 1 : Nat) : Int) from rfl]
    obtain ⟨L, k1, k2⟩ := chosen_l2 hr hl hc fu l (t + 1) (orL u (colS rows t)) m2 (acc ++ [(t : Int)]) (by omega) (by omega) (by omega) hou g2 (by simp; omega) g5 (fun l' hl' => by
      subst hl'; exact min_next g3 g4 (hmin _ rfl))
    exact ⟨t :: L, by rw [k1]; simp, .cons g3 g4 g6 g5 k2⟩
/-- What is chosen is best. -/
theorem chosen_eq (hr : ∀ r ∈ rows, r.length = 30) (hl : rows.length ≤ 50) (hc : ∀ u : List Bool, u.length = rows.length → count (mkL u : Int) = some (cntT u : Int)) {most : Nat} (hm : most ≤ 100) :
    ∃ L n, hear_quarter_chosen rows count (most : Int) = some (L.map Int.ofNat, ((n : Nat) : Int)) ∧ ∀ p : Nat → Bool, (∀ s, p s = false → colS rows s = List.replicate rows.length false) → IsBest (colS rows) p (List.replicate rows.length false) (min most rows.length) L n := by
  have hM : MOK rows [] := fun a l u n _ _ h => by rw [mget_nil] at h; cases h
  have hlst : hear_least (most : Int) [(rows.length : Int)] = some ((min most rows.length : Nat) : Int) := by
    unfold hear_least hear_least_l1 hear_least_l1
    rw [b1_some]
    congr 1
    by_cases h : (rows.length : Int) < (most : Int)
    · rw [if_pos h, Nat.min_eq_right (by omega)]
    · rw [if_neg h, Nat.min_eq_left (by omega)]
  have hmin : min most rows.length ≤ 100 := Nat.le_trans (Nat.min_le_left ..) hm
  generalize hq : min most rows.length = q at *
  unfold hear_quarter_chosen
  obtain ⟨m1, g1, g2⟩ := chosen1 hr hl hc FU 30 q (List.replicate rows.length false) [] (Nat.le_refl _) (by unfold FU; omega) (by omega) (by simp) hM
  rw [mkL_zero] at g1
  have g1' : hear_quarter_chosen_1 FU 0 (q : Int) 0 rows count [] = some ((onV (colS rows) 30 q (List.replicate rows.length false) : Int), m1) := g1
  rw [hlst, b1_some, g1', b2_some]
  obtain ⟨m2, l, k1, k2, k3, k4, k5⟩ := chosen_l1 hr hl hc (Nat.le_refl (onV (colS rows) 30 q (List.replicate rows.length false))) hmin FU 0 m1 (Nat.zero_le _) (by unfold FU; omega) g2 (fun l' h => by omega)
  have k1' : hear_quarter_chosen_l1 rows count (onV (colS rows) 30 q (List.replicate rows.length false) : Int) FU m1 0 = some (m2, (l : Int)) := k1
  rw [k1', b2_some]
  obtain ⟨L, j1, j2⟩ := chosen_l2 (all := onV (colS rows) 30 q (List.replicate rows.length false)) hr hl hc FU l 0 (List.replicate rows.length false) m2 [] (by unfold FU; omega) (by omega) (by omega) (by simp) k2 (by simp; omega) k4 (fun l' h => k5 l' (by omega))
  rw [mkL_zero] at j1
  have j1' : hear_quarter_chosen_l2 rows count (onV (colS rows) 30 q (List.replicate rows.length false) : Int) FU m2 0 (l : Int) 0 [] = some ([] ++ L.map Int.ofNat) := j1
  rw [j1', b1_some, List.nil_append]
  exact ⟨L, _, rfl, fun p hp => j2.best (colS_len rows) (by simp) hp k3 k4 k5⟩
end
end Go.Proofs.YtejkgppikpkkpaaGreat
