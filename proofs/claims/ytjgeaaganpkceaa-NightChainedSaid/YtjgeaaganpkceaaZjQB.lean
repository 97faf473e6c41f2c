/- Layer 5: right watches, watches that are made out of bells; in plain Lean. -/
import Derived.Test.YtjgeaaganpkceaaZjQA
namespace Go.Proofs.Ytjgeaaganpkceaa.Nt
open Go.PL
structure GoodW (ls hs : List (List Int)) : Prop where
  n1 : 1 ≤ ls.length
  n6 : ls.length ≤ 6
  h1 : 1 ≤ hs.length
  h8 : hs.length ≤ 8
  wid : ∀ ms ∈ hs, ms.length = ls.length
  mks : ∀ ms ∈ hs, ∀ m ∈ ms, 0 ≤ m ∧ m ≤ 2
  lis : ∀ (i : Nat) l, ls[i]? = some l → ∀ m ∈ l, 0 ≤ m ∧ m < (i : Int)
  nd : ∀ l ∈ ls, l.Nodup
theorem GoodW.small {ls hs : List (List Int)} (g : GoodW ls hs) : Small ls := fun l hl m hm => by
  obtain ⟨i, hi, he⟩ := List.getElem_of_mem hl
  have := g.lis i l (by rw [List.getElem?_eq_getElem hi, he]) m hm
  have := g.n6
  omega
theorem GoodW.le50 {ls hs : List (List Int)} (g : GoodW ls hs) : ∀ ms ∈ hs, ms.length ≤ 50 := fun ms h => by
  rw [g.wid ms h]; have := g.n6; omega
theorem idxR_eq {f : List Int → Option Bool} {g : List Int → Bool} : ∀ (l : List (List Int)) (k : Int), 0 ≤ k → (∀ x ∈ l, f x = some (g x)) → ∃ n, slices_IndexFunc_night_Mark_night_Mark_l2 f l k = some n ∧ (0 ≤ n ↔ l.any g = true)
  | [], k, _, _ => ⟨-1, rfl, by simp⟩
  | x :: l, k, hk, h => by
    unfold slices_IndexFunc_night_Mark_night_Mark_l2
    rw [h x (by simp), b1_some]
    by_cases hx : g x = true
    · exact ⟨k, by rw [if_pos hx], by simp [hx, hk]⟩
    · obtain ⟨n, h1, h2⟩ := idxR_eq l (k + 1) (by omega) (fun y hy => h y (by simp [hy]))
      exact ⟨n, by rw [if_neg hx]; exact h1, by rw [h2]; simp [hx]⟩
theorem idxM_eq {f : Int → Option Bool} {g : Int → Bool} : ∀ (l : List Int) (k : Int), 0 ≤ k → (∀ x ∈ l, f x = some (g x)) → ∃ n, slices_IndexFunc_night_Mark_night_Mark__l2 f l k = some n ∧ (0 ≤ n ↔ l.any g = true)
  | [], k, _, _ => ⟨-1, rfl, by simp⟩
  | x :: l, k, hk, h => by
    unfold slices_IndexFunc_night_Mark_night_Mark__l2
    rw [h x (by simp), b1_some]
    by_cases hx : g x = true
    · exact ⟨k, by rw [if_pos hx], by simp [hx, hk]⟩
    · obtain ⟨n, h1, h2⟩ := idxM_eq l (k + 1) (by omega) (fun y hy => h y (by simp [hy]))
      exact ⟨n, by rw [if_neg hx]; exact h1, by rw [h2]; simp [hx]⟩
theorem nonneg_dec {n : Int} {b : Bool} (h : 0 ≤ n ↔ b = true) : decide (0 ≤ n) = b := by
  by_cases h3 : 0 ≤ n
  · rw [h.1 h3]; exact decide_eq_true h3
  · have : b = false := by
      cases b with
      | true => exact absurd (h.2 rfl) h3
      | false => rfl
    rw [this]; exact decide_eq_false h3
theorem any_not {α : Type} (l : List α) (g : α → Bool) : (!l.any fun x => !g x) = l.all g := by
  induction l with
  | nil => rfl
  | cons x l ih => simp only [List.any_cons, List.all_cons, Bool.not_or, Bool.not_not, ih]
theorem everyR_eq {f : List Int → Option Bool} {g : List Int → Bool} {l : List (List Int)} (h : ∀ x ∈ l, f x = some (g x)) : night_every_night_Mark l f = some (l.all g) := by
  unfold night_every_night_Mark slices_ContainsFunc_night_Mark_night_Mark slices_IndexFunc_night_Mark_night_Mark
  obtain ⟨n, h1, h2⟩ := idxR_eq (f := fun x => night_every_night_Mark_1 x f) (g := fun x => !g x) l 0 (Int.le_refl _) (fun x hx => by
    unfold night_every_night_Mark_1; rw [h x hx]; rfl)
  rw [h1, b1_some, b1_some, nonneg_dec h2, any_not]
theorem everyM_eq {f : Int → Option Bool} {g : Int → Bool} {l : List Int} (h : ∀ x ∈ l, f x = some (g x)) : night_every_Mark l f = some (l.all g) := by
  unfold night_every_Mark slices_ContainsFunc_night_Mark_night_Mark_ slices_IndexFunc_night_Mark_night_Mark_
  obtain ⟨n, h1, h2⟩ := idxM_eq (f := fun x => night_every_Mark_1 x f) (g := fun x => !g x) l 0 (Int.le_refl _) (fun x hx => by
    unfold night_every_Mark_1; rw [h x hx]; rfl)
  rw [h1, b1_some, b1_some, nonneg_dec h2, any_not]
theorem index_int {v : Int} : ∀ (l : List Int) (k : Int), 0 ≤ k → ∃ n, slices_Index_int_int_l2 v l k = some n ∧ (0 ≤ n ↔ decide (v ∈ l) = true)
  | [], k, _ => ⟨-1, rfl, by simp⟩
  | x :: l, k, hk => by
    unfold slices_Index_int_int_l2
    by_cases hx : v = x
    · exact ⟨k, by rw [if_pos hx], by simp [hx, hk]⟩
    · obtain ⟨n, h1, h2⟩ := index_int (v := v) l (k + 1) (by omega)
      refine ⟨n, by rw [if_neg hx]; exact h1, ?_⟩
      rw [h2]; simp [hx]
theorem contains_int (l : List Int) (v : Int) : slices_Contains_int_int l v = some (decide (v ∈ l)) := by
  unfold slices_Contains_int_int slices_Index_int_int
  obtain ⟨n, h1, h2⟩ := index_int (v := v) l 0 (Int.le_refl _)
  rw [h1, b1_some, nonneg_dec h2]
theorem check_l4 {k2 : Nat} {x : List Int} {rec2 : Int → Option Int} (hk : k2 ≤ 1000) (hx : ∀ m ∈ x, 0 ≤ m ∧ m < (k2 : Int)) (hn : x.Nodup) : ∀ (tl pre : List Int), x = pre ++ tl → pre.length + tl.length ≤ 1000000 → night_Check_l4 (k2 : Int) x rec2 tl (pre.length : Int) = rec2 ((k2 : Int) + 1)
  | [], pre, _, _ => rfl
  | m :: tl, pre, he, hl => by
    unfold night_Check_l4
    rw [List.length_cons] at hl
    have hm : m ∈ x := by rw [he]; simp
    obtain ⟨h0, h1⟩ := hx m hm
    have hsl : sl x 0 (pre.length : Int) = pre := by unfold sl; rw [he]; simp
    have hnm : ¬ m ∈ pre := fun h => by
      rw [he, List.nodup_append] at hn
      exact hn.2.2 m h m (List.mem_cons_self ..) rfl
    rw [gd_t (r64_small (by omega)), in_eq, b1_some, if_neg (by simp; omega), gd_t ⟨⟨by omega, by omega⟩, by rw [he, List.length_append]; omega⟩, bvE, hsl, contains_int, b1_some, if_neg (by simp [hnm])]
    have := check_l4 (rec2 := rec2) hk hx hn tl (pre ++ [m]) (by rw [he]; simp) (by simp; omega)
    rw [show ((pre ++ [m]).length : Int) = (pre.length : Int) + 1 by simp] at this
    exact this
theorem check_l2 {hs : List (List Int)} : ∀ (tl : List (List Int)) (k : Nat), k + tl.length ≤ 1000 → (∀ l ∈ tl, l.length ≤ 1000) → (∀ (i : Nat) l, tl[i]? = some l → ∀ m ∈ l, 0 ≤ m ∧ m < ((k + i : Nat) : Int)) → (∀ l ∈ tl, l.Nodup) → night_Check_l2 hs tl (k : Int) = night_Check_j1 hs
  | [], k, _, _, _, _ => rfl
  | l :: tl, k, hk, hl, hm, hn => by
    rw [List.length_cons] at hk
    unfold night_Check_l2
    have h4 := check_l4 (rec2 := night_Check_l2 hs tl) (x := l) (show k ≤ 1000 by omega) (hm 0 l rfl) (hn l (List.mem_cons_self ..)) l [] rfl (by have := hl l (List.mem_cons_self ..); simp; omega)
    rw [show (([] : List Int).length : Int) = 0 from rfl] at h4
    rw [h4, show (k : Int) + 1 = ((k + 1 : Nat) : Int) by omega]
    exact check_l2 tl (k + 1) (by omega) (fun l hl' => hl l (List.mem_cons_of_mem _ hl')) (fun i l' hi => by
      have := hm (i + 1) l' (by simpa using hi)
      rwa [show k + (i + 1) = k + 1 + i by omega] at this) (fun l hl' => hn l (List.mem_cons_of_mem _ hl'))
theorem nodup_len : ∀ (n : Nat) (l : List Int), l.Nodup → (∀ m ∈ l, 0 ≤ m ∧ m < (n : Int)) → l.length ≤ n
  | 0, l, _, h => by
    cases l with
    | nil => simp
    | cons x l => have := h x (List.mem_cons_self ..); omega
  | n + 1, l, hn, h => by
    by_cases hm : (n : Int) ∈ l
    · have := nodup_len n (l.erase n) (hn.erase _) (fun m hm' => by
        have h1 := (hn.mem_erase_iff).1 hm'
        have h2 := h m h1.2
        have h3 := h1.1
        omega)
      rw [List.length_erase_of_mem hm] at this
      omega
    · have := nodup_len n l hn (fun m hm' => by
        have h2 := h m hm'
        have h3 : m ≠ n := fun he => hm (he ▸ hm')
        omega)
      omega
theorem check_ok {ls hs : List (List Int)} (g : GoodW ls hs) : night_Check ls hs = some 0 := by
  have := g.n1; have := g.n6; have := g.h1; have := g.h8
  unfold night_Check
  rw [in_eq, b1_some, if_neg (by simp; omega), in_eq, b1_some, if_neg (by simp; omega), everyR_eq (f := fun x => night_Check_1 x (ls.length : Int)) (g := fun l => decide ((l.length : Int) = (ls.length : Int))) (fun _ _ => rfl), b1_some, b1_some, if_neg, show (0 : Int) = ((0 : Nat) : Int) from rfl,
    check_l2 ls 0 (by omega) (fun l hl => ?_) (fun i l hi m hm => by rw [Nat.zero_add]; exact g.lis i l hi m hm) g.nd]
  · unfold night_Check_j1
    rw [everyR_eq (f := fun x => night_Check_2 x) (g := fun l => l.all fun m => decide (0 ≤ m ∧ m ≤ 2)), b1_some, if_neg]
    · rfl
    · have : (hs.all fun l => l.all fun m => decide (0 ≤ m ∧ m ≤ 2)) = true := by
        rw [List.all_eq_true]; intro l hl
        rw [List.all_eq_true]; intro m hm
        exact decide_eq_true (g.mks l hl m hm)
      rw [this]; decide
    · intro l _
      unfold night_Check_2
      rw [everyM_eq (f := fun x => night_Mark_there x) (g := fun m => decide (0 ≤ m ∧ m ≤ 2)), b1_some]
      intro m _
      unfold night_Mark_there
      rw [in_eq]; rfl
  · obtain ⟨i, hi, he⟩ := List.getElem_of_mem hl
    have := nodup_len i l (g.nd l hl) (g.lis i l (by rw [List.getElem?_eq_getElem hi, he]))
    omega
  · have : (hs.all fun l => decide ((l.length : Int) = (ls.length : Int))) = true := by
      rw [List.all_eq_true]; intro l hl
      exact decide_eq_true (by rw [g.wid l hl])
    rw [this]; decide
/-- A right watch at work. -/
theorem opened_ok {ls hs : List (List Int)} (g : GoodW ls hs) : ∃ cried, night_opened ls hs = some (some (ls, hs, cried, hs.map (rowOf ls)), 0) ∧ MOK ls cried := by
  have := g.h8
  obtain ⟨c, h1, h2⟩ := opened_l1 g.small g.n6 g.le50 hs 0 [] [] rfl (by simp; omega) (fun a v h => by rw [mget_nil] at h; cases h)
  refine ⟨c, ?_, h2⟩
  unfold night_opened
  rw [check_ok g, b1_some, if_neg (by decide), show (0 : Int) = ((0 : Nat) : Int) from rfl, h1, b2_some, List.nil_append]
theorem bandK_rng (x : Int) : 0 ≤ bandK 32 x 65535 ∧ bandK 32 x 65535 ≤ 65535 := by
  unfold bandK
  rw [BitVec.toNat_and]
  have h : (BitVec.ofInt 32 x).toNat &&& (BitVec.ofInt 32 65535).toNat ≤ (BitVec.ofInt 32 65535).toNat := Nat.and_le_right
  have e : (BitVec.ofInt 32 65535).toNat = 65535 := by decide
  rw [e] at h ⊢
  omega
/-- Where a bell stands. -/
def BellA (metal : List Int) (a : Int) : Prop := 0 ≤ a ∧ a ≤ metal.length
section
variable {metal : List Int}
theorem ring_ok {a t : Int} (h : BellA metal a) (hm : (metal.length : Int) ≤ 9223372036854775807) : ∃ v a' t', oyezkit_Bell_ring metal a t = some (v, a', t') ∧ (0 ≤ v ∧ v ≤ 65535) ∧ BellA metal a' := by
  unfold BellA at h ⊢
  unfold oyezkit_Bell_ring
  have e : ∃ b u, (if a = (metal.length : Int) then some ((0 : Int), (t + 1) % 4294967296) else some (a, t)) = some (b, u) ∧ 0 ≤ b ∧ (0 < (metal.length : Int) → b < metal.length) ∧ b ≤ metal.length := by
    by_cases h1 : a = (metal.length : Int)
    · exact ⟨_, _, if_pos h1, by omega, fun h => h, by omega⟩
    · exact ⟨_, _, if_neg h1, by omega, fun _ => by omega, by omega⟩
  obtain ⟨b, u, e1, e2, e3, e4⟩ := e
  rw [e1, b2_some, bvE]
  by_cases h2 : 0 < (metal.length : Int)
  · have h3 := e3 h2
    rw [if_pos h2, ix_t (x := metal.getD b.toNat 0) e2 (getD_of (by omega)), bvE, gd_t (by unfold R64; omega), b2_some]
    generalize bxorK 32 _ _ = z
    have hz := bandK_rng z
    rw [gd_t (r64_small (by omega))]
    exact ⟨_, _, _, rfl, hz, by omega, by omega⟩
  · rw [if_neg h2, b2_some]
    generalize bxorK 32 _ _ = z
    have hz := bandK_rng z
    rw [gd_t (r64_small (by omega))]
    exact ⟨_, _, _, rfl, hz, by omega, by omega⟩
theorem stroke_ok {a t n : Int} (h : BellA metal a) (hm : (metal.length : Int) ≤ 9223372036854775807) (hn : -1000000 ≤ n ∧ n ≤ 1000000) : ∃ v a' t', oyezkit_Bell_Stroke metal a t n = some (v, a', t') ∧ 0 ≤ v ∧ (v ≤ n ∨ v = 0) ∧ BellA metal a' := by
  unfold oyezkit_Bell_Stroke
  obtain ⟨v, a', t', h1, h2, h3⟩ := ring_ok (t := t) h hm
  rw [h1, b3_some, gd_t (r64_small (by omega)), gd_t (by split <;> omega)]
  refine ⟨_, _, _, rfl, ?_, ?_, h3⟩
  · exact Int.tmod_nonneg _ h2.1
  · have hpos : 0 < (if n + 1 > 1 then n + 1 else 1) := by split <;> omega
    rw [Int.tmod_eq_emod_of_nonneg h2.1]
    have hlt := Int.emod_lt_of_pos v hpos
    have hge := Int.emod_nonneg v (Int.ne_of_gt hpos)
    generalize v % (if n + 1 > 1 then n + 1 else 1) = z at hlt hge
    split at hlt <;> omega
theorem strike_ok {a t lo hi : Int} (h : BellA metal a) (hm : (metal.length : Int) ≤ 9223372036854775807) (hl : -1000 ≤ lo ∧ lo ≤ 1000) (hh : -1000 ≤ hi ∧ hi ≤ 1000) : ∃ v a' t', oyezkit_Bell_Strike metal a t lo hi = some (v, a', t') ∧ lo ≤ v ∧ (v ≤ hi ∨ v = lo) ∧ BellA metal a' := by
  unfold oyezkit_Bell_Strike
  obtain ⟨v, a', t', h1, h2, h3, h4⟩ := stroke_ok (t := t) (n := hi - lo) h hm (by omega)
  rw [gd_t (r64_small (by omega)), h1, b3_some, gd_t (r64_small (by omega))]
  exact ⟨_, _, _, rfl, by omega, by omega, h4⟩
theorem seldom_ok {a t n : Int} (h : BellA metal a) (hm : (metal.length : Int) ≤ 9223372036854775807) (hn : 0 ≤ n ∧ n ≤ 1000) : ∃ v a' t', oyezkit_Bell_Seldom metal a t n = some (v, a', t') ∧ BellA metal a' := by
  unfold oyezkit_Bell_Seldom
  obtain ⟨v, a', t', h1, h2, h3, h4⟩ := stroke_ok (t := t) (n := n - 1) h hm (by omega)
  rw [gd_t (r64_small (by omega)), h1, b3_some]
  exact ⟨_, _, _, rfl, h4⟩
theorem made_l2 (hm : (metal.length : Int) ≤ 9223372036854775807) : ∀ (fu k : Nat) (a t : Int) (l : List Int), BellA metal a → l.length ≤ k → k + fu ≤ 1000 → l.Nodup → (∀ m ∈ l, 0 ≤ m ∧ m < (k : Int)) →
    ∃ a' t' l', oyezlaw05_Made_l2 metal fu (k : Int) a t l = some (a', t', l') ∧ BellA metal a' ∧ l'.length ≤ k + fu ∧ l'.Nodup ∧ (∀ m ∈ l', 0 ≤ m ∧ m < ((k + fu : Nat) : Int))
  | 0, k, a, t, l, ha, h1, _, h3, h4 => ⟨a, t, l, rfl, ha, by omega, h3, h4⟩
  | fu + 1, k, a, t, l, ha, h1, h2, h3, h4 => by
    unfold oyezlaw05_Made_l2
    obtain ⟨b, a1, t1, e1, g1⟩ := seldom_ok (t := t) (n := 2) ha hm (by omega)
    rw [e1, b3_some, show (k : Int) + 1 = ((k + 1 : Nat) : Int) by omega, show k + (fu + 1) = k + 1 + fu by omega]
    cases b with
    | true =>
      rw [if_pos rfl, ap_t (by simp; omega)]
      refine made_l2 hm fu (k + 1) a1 t1 (l ++ [(k : Int)]) g1 (by simp; omega) (by omega) ?_ ?_
      · rw [List.nodup_append]
        refine ⟨h3, by simp, fun x hx y hy he => ?_⟩
        rw [List.mem_singleton] at hy
        have := h4 x hx
        omega
      · intro m hm'
        rcases List.mem_append.1 hm' with h | h
        · have := h4 m h; omega
        · rw [List.mem_singleton] at h; omega
    | false =>
      rw [if_neg (by decide)]
      exact made_l2 hm fu (k + 1) a1 t1 l g1 (by omega) (by omega) h3 (fun m hm' => by have := h4 m hm'; omega)
theorem made_l1 (hm : (metal.length : Int) ≤ 9223372036854775807) : ∀ (fu : Nat) (a t : Int) (ls : List (List Int)), BellA metal a → ls.length + fu ≤ 100 → (∀ (i : Nat) l, ls[i]? = some l → ∀ m ∈ l, 0 ≤ m ∧ m < (i : Int)) → (∀ l ∈ ls, l.Nodup) →
    ∃ a' t' ls', oyezlaw05_Made_l1 metal fu (ls.length : Int) a t ls = some (a', t', ls') ∧ BellA metal a' ∧ ls'.length = ls.length + fu ∧ (∀ (i : Nat) l, ls'[i]? = some l → ∀ m ∈ l, 0 ≤ m ∧ m < (i : Int)) ∧ (∀ l ∈ ls', l.Nodup)
  | 0, a, t, ls, ha, _, h3, h4 => ⟨a, t, ls, rfl, ha, rfl, h3, h4⟩
  | fu + 1, a, t, ls, ha, h2, h3, h4 => by
    unfold oyezlaw05_Made_l1
    obtain ⟨a1, t1, l, e1, g1, g2, g3, g4⟩ := made_l2 hm ls.length 0 a t [] ha (by simp) (by omega) (by simp) (by simp)
    rw [Nat.zero_add] at g2 g4
    rw [gd_t ⟨r64_small (by omega), r64_small (by omega)⟩, toNat_sub00, show (0 : Int) = ((0 : Nat) : Int) from rfl, e1, b3_some]
    have key : ∃ a2 t2 l2, (b3 (b3 (if ((0 : Nat) : Int) < (ls.length : Int) then (if (l.length : Int) = ((0 : Nat) : Int) then b3 (oyezkit_Bell_Seldom metal a1 t1 4) fun ok2 at_4 turn4 => some (at_4, turn4, !ok2) else some (a1, t1, false)) else some (a1, t1, false)) fun b_at7 b_turn7 k3 => if k3 = true then gd (R64 ((ls.length : Int) - 1)) <| ap l [(ls.length : Int) - 1] fun l5 => some (b_at7, b_turn7, l5) else some (b_at7, b_turn7, l)) fun b_at6 b_turn6 l4 => ap ls [l4] fun w => some (b_at6, b_turn6, w)) = some (a2, t2, ls ++ [l2]) ∧ BellA metal a2 ∧ l2.Nodup ∧ ∀ m ∈ l2, 0 ≤ m ∧ m < (ls.length : Int) := by
      have fin : ∀ (a2 t2 : Int) (b : Bool), BellA metal a2 → (b = true → 0 < ls.length ∧ l = []) → ∃ a3 t3 l2, (b3 (b3 (some (a2, t2, b)) fun b_at7 b_turn7 k3 => if k3 = true then gd (R64 ((ls.length : Int) - 1)) <| ap l [(ls.length : Int) - 1] fun l5 => some (b_at7, b_turn7, l5) else some (b_at7, b_turn7, l)) fun b_at6 b_turn6 l4 => ap ls [l4] fun w => some (b_at6, b_turn6, w)) = some (a3, t3, ls ++ [l2]) ∧ BellA metal a3 ∧ l2.Nodup ∧ ∀ m ∈ l2, 0 ≤ m ∧ m < (ls.length : Int) := fun a2 t2 b hb hb2 => by
        rw [b3_some]
        cases b with
        | true =>
          obtain ⟨q1, rfl⟩ := hb2 rfl
          rw [if_pos rfl, gd_t (r64_small (by omega)), ap_t (by simp), b3_some, ap_t (by simp; omega)]
          exact ⟨_, _, _, rfl, hb, by simp, fun m hm' => by simp at hm'; omega⟩
        | false =>
          rw [if_neg (by decide), b3_some, ap_t (by simp; omega)]
          exact ⟨_, _, _, rfl, hb, g3, g4⟩
      by_cases q1 : ((0 : Nat) : Int) < (ls.length : Int)
      · rw [if_pos q1]
        by_cases q2 : (l.length : Int) = ((0 : Nat) : Int)
        · obtain ⟨b, a2, t2, e2, g5⟩ := seldom_ok (t := t1) (n := 4) g1 hm (by omega)
          rw [if_pos q2, e2, b3_some]
          exact fin a2 t2 (!b) g5 (fun _ => ⟨by omega, List.eq_nil_of_length_eq_zero (by omega)⟩)
        · rw [if_neg q2]; exact fin a1 t1 false g1 (fun h => nomatch h)
      · rw [if_neg q1]; exact fin a1 t1 false g1 (fun h => nomatch h)
    obtain ⟨a2, t2, l2, e2, k1, k2, k3⟩ := key
    rw [e2, b3_some]
    obtain ⟨a3, t3, ls', e3, r1, r2, r3, r4⟩ := made_l1 hm fu a2 t2 (ls ++ [l2]) k1 (by simp; omega) (fun i l' hi m hm' => by
      rw [List.getElem?_append] at hi
      split at hi
      · exact h3 i l' hi m hm'
      · rename_i hge
        have h0 : i - ls.length = 0 := by
          rcases Nat.eq_zero_or_pos (i - ls.length) with h | h
          · exact h
          · rw [List.getElem?_eq_none (by simp; omega)] at hi; cases hi
        rw [h0] at hi
        simp at hi; subst hi
        have := k3 m hm'
        omega) (fun l' hl' => by
      rcases List.mem_append.1 hl' with h | h
      · exact h4 l' h
      · rw [List.mem_singleton] at h; rw [h]; exact k2)
    refine ⟨a3, t3, ls', ?_, r1, by rw [r2]; simp; omega, r3, r4⟩
    rw [← e3]; simp
theorem made_l4 (hm : (metal.length : Int) ≤ 9223372036854775807) {n : Nat} (hn : n ≤ 50) : ∀ (tl : List (List Int)) (k : Nat) (a t : Int) (s : Nat), BellA metal a → k + tl.length ≤ n → s < 2 ^ n →
    ∃ a' t' s', oyezlaw05_Made_l4 metal tl (k : Int) a t (s : Int) = some (a', t', ((s' : Nat) : Int)) ∧ BellA metal a' ∧ s' < 2 ^ n
  | [], k, a, t, s, ha, _, hs => ⟨a, t, s, rfl, ha, hs⟩
  | l :: tl, k, a, t, s, ha, hk, hs => by
    rw [List.length_cons] at hk
    unfold oyezlaw05_Made_l4
    obtain ⟨b, a1, t1, e1, g1⟩ := seldom_ok (t := t) (n := 4) ha hm (by omega)
    rw [e1, b3_some, show (k : Int) + 1 = ((k + 1 : Nat) : Int) by omega]
    cases b with
    | true =>
      rw [if_pos rfl, gd_t (shl_r (by omega)), shl_nat, bxor_nat (Nat.lt_trans hs (pow63 (by omega))) (pow63 (by omega))]
      exact made_l4 hm hn tl (k + 1) a1 t1 _ g1 (by omega) (Nat.xor_lt_two_pow hs (Nat.pow_lt_pow_right (by decide) (by omega)))
    | false =>
      rw [if_neg (by decide)]
      exact made_l4 hm hn tl (k + 1) a1 t1 s g1 (by omega) hs
theorem fitF_app (c : Nat) : ∀ (ms : List Int) (m : Int) (k : Nat), fitF c (ms ++ [m]) k = (fitF c ms k && markB c m (k + ms.length))
  | [], m, k => by simp [fitF]
  | x :: ms, m, k => by
    rw [List.cons_append]
    unfold fitF
    rw [fitF_app c ms m (k + 1), List.length_cons, show k + 1 + ms.length = k + (ms.length + 1) by omega, Bool.and_assoc]
theorem made_l5 (hm : (metal.length : Int) ≤ 9223372036854775807) {c : Nat} (hc : c < 9223372036854775808) : ∀ (tl : List (List Int)) (a t : Int) (ms : List Int), BellA metal a → ms.length + tl.length ≤ 50 → (∀ m ∈ ms, 0 ≤ m ∧ m ≤ 2) → fitF c ms 0 = true →
    ∃ a' t' ms', oyezlaw05_Made_l5 metal (c : Int) tl (ms.length : Int) a t ms = some (a', t', ms') ∧ BellA metal a' ∧ ms'.length = ms.length + tl.length ∧ (∀ m ∈ ms', 0 ≤ m ∧ m ≤ 2) ∧ fitF c ms' 0 = true
  | [], a, t, ms, ha, _, h1, h2 => ⟨a, t, ms, rfl, ha, rfl, h1, h2⟩
  | l :: tl, a, t, ms, ha, hk, h1, h2 => by
    rw [List.length_cons] at hk
    unfold oyezlaw05_Made_l5
    obtain ⟨b, a1, t1, e1, g1⟩ := seldom_ok (t := t) (n := 3) ha hm (by omega)
    have hmark : ∃ m : Int, (if band (shr (c : Int) (ms.length : Int)) 1 = 1 then some (1 : Int) else some 2) = some m ∧ (m = 1 ∨ m = 2) ∧ markB c m ms.length = true := by
      by_cases h : c.testBit ms.length = true
      · exact ⟨1, if_pos ((bit_one hc _).2 h), .inl rfl, by unfold markB; rw [h]; rfl⟩
      · refine ⟨2, if_neg (fun h' => h ((bit_one hc _).1 h')), .inr rfl, ?_⟩
        simp only [Bool.not_eq_true] at h
        unfold markB; rw [h]; rfl
    obtain ⟨m, e2, g2, g3⟩ := hmark
    have hz : markB c 0 ms.length = true := rfl
    rw [gd_t ⟨by omega, by omega⟩, e2, b1_some, e1, b3_some]
    have go : ∀ x : Int, (0 ≤ x ∧ x ≤ 2) → markB c x ms.length = true → ∃ a' t' ms', (ap ms [x] fun marks3 => oyezlaw05_Made_l5 metal (c : Int) tl ((ms.length : Int) + 1) a1 t1 marks3) = some (a', t', ms') ∧ BellA metal a' ∧ ms'.length = ms.length + (tl.length + 1) ∧ (∀ m ∈ ms', 0 ≤ m ∧ m ≤ 2) ∧ fitF c ms' 0 = true := fun x hx hx2 => by
      rw [ap_t (by simp; omega)]
      obtain ⟨a2, t2, ms', r1, r2, r3, r4, r5⟩ := made_l5 hm hc tl a1 t1 (ms ++ [x]) g1 (by simp; omega) (fun y hy => by
        rcases List.mem_append.1 hy with h | h
        · exact h1 y h
        · rw [List.mem_singleton] at h; rw [h]; exact hx) (by rw [fitF_app, h2, Nat.zero_add, hx2]; rfl)
      refine ⟨a2, t2, ms', ?_, r2, by rw [r3]; simp; omega, r4, r5⟩
      rw [← r1]; simp
    cases b with
    | true => rw [if_pos rfl, b3_some]; exact go 0 (by omega) hz
    | false => rw [if_neg (by decide), b3_some]; exact go m (by omega) g3
/-- An explanation of hours. -/
def Expl (ls : List (List Int)) : List (List Int) → List Nat → Prop
  | [], [] => True
  | ms :: hs, a :: s => (a < 2 ^ ls.length ∧ fitB ls ms a = true) ∧ Expl ls hs s
  | _, _ => False
theorem Expl.len {ls : List (List Int)} : ∀ {hs : List (List Int)} {s : List Nat}, Expl ls hs s → s.length = hs.length
  | [], [], _ => rfl
  | _ :: _, _ :: _, h => by rw [List.length_cons, List.length_cons, Expl.len h.2]
  | [], _ :: _, h => h.elim
  | _ :: _, [], h => h.elim
theorem Expl.snoc {ls : List (List Int)} {ms : List Int} {a : Nat} (h2 : a < 2 ^ ls.length ∧ fitB ls ms a = true) : ∀ {hs : List (List Int)} {s : List Nat}, Expl ls hs s → Expl ls (hs ++ [ms]) (s ++ [a])
  | [], [], _ => ⟨h2, trivial⟩
  | _ :: _, _ :: _, h => ⟨h.1, Expl.snoc h2 h.2⟩
  | [], _ :: _, h => h.elim
  | _ :: _, [], h => h.elim
def natL (s : List Nat) : List Int := s.map fun x : Nat => (x : Int)
theorem made_l3 (hm : (metal.length : Int) ≤ 9223372036854775807) {ls : List (List Int)} (h1 : Small ls) (h2 : ls.length ≤ 6) : ∀ (fu : Nat) (a t : Int) (hs : List (List Int)) (s : Nat) (real : List Nat), BellA metal a → hs.length + fu ≤ 100 → s < 2 ^ ls.length → Expl ls hs real → (∀ ms ∈ hs, ms.length = ls.length) → (∀ ms ∈ hs, ∀ m ∈ ms, 0 ≤ m ∧ m ≤ 2) →
    ∃ hs' real' a' t', oyezlaw05_Made_l3 metal ls fu a t hs (s : Int) (natL real) = some (hs', natL real', a', t') ∧ BellA metal a' ∧ hs'.length = hs.length + fu ∧ Expl ls hs' real' ∧ (∀ ms ∈ hs', ms.length = ls.length) ∧ (∀ ms ∈ hs', ∀ m ∈ ms, 0 ≤ m ∧ m ≤ 2)
  | 0, a, t, hs, s, real, ha, _, _, he, hw, hk => ⟨hs, real, a, t, rfl, ha, rfl, he, hw, hk⟩
  | fu + 1, a, t, hs, s, real, ha, hl, hs2, he, hw, hk => by
    unfold oyezlaw05_Made_l3
    obtain ⟨a1, t1, s1, e1, g1, g2⟩ := made_l4 hm (n := ls.length) (by omega) ls 0 a t s ha (by omega) hs2
    have hs63 : s1 < 9223372036854775808 := Nat.lt_trans g2 (pow63 (by omega))
    obtain ⟨a2, t2, ms, e2, g3, g4, g5, g6⟩ := made_l5 hm (c := cryS ls s1) (Nat.lt_trans (cryS_lt ls s1) (pow63 (by omega))) ls a1 t1 [] g1 (by simp; omega) (by simp) rfl
    simp only [List.length_nil, Nat.zero_add] at g4 e2
    have hrl := he.len
    rw [show (0 : Int) = ((0 : Nat) : Int) from rfl, e1, b3_some, cry_eq hs63 h1 (by omega), b1_some, e2, b3_some, ap_t (by simp; omega), ap_t (by simp [natL]; omega), b5_some]
    have en : natL real ++ [(s1 : Int)] = natL (real ++ [s1]) := by simp [natL]
    rw [en]
    obtain ⟨hs', real', a', t', r1, r2, r3, r4, r5, r6⟩ := made_l3 hm h1 h2 fu a2 t2 (hs ++ [ms]) s1 (real ++ [s1]) g3 (by simp; omega) g2 (Expl.snoc ⟨g2, g6⟩ he) (fun x hx => by
      rcases List.mem_append.1 hx with h | h
      · exact hw x h
      · rw [List.mem_singleton] at h; rw [h]; exact g4) (fun x hx => by
      rcases List.mem_append.1 hx with h | h
      · exact hk x h
      · rw [List.mem_singleton] at h; rw [h]; exact g5)
    exact ⟨hs', real', a', t', r1, r2, by rw [r3]; simp; omega, r4, r5, r6⟩
theorem made_ok {a t men hours : Int} (ha : BellA metal a) (hm : (metal.length : Int) ≤ 9223372036854775807) (h1 : 1 ≤ men ∧ men ≤ 6) (h2 : 1 ≤ hours ∧ hours ≤ 8) :
    ∃ ls hs real a' t', oyezlaw05_Made metal a t men hours = some (ls, hs, natL real, a', t') ∧ GoodW ls hs ∧ Expl ls hs real ∧ (ls.length : Int) ≤ men ∧ (hs.length : Int) ≤ hours ∧ BellA metal a' := by
  unfold oyezlaw05_Made
  obtain ⟨n, a1, t1, e1, g1, g2, g3⟩ := strike_ok (t := t) (lo := 1) (hi := men) ha hm (by omega) (by omega)
  obtain ⟨n, rfl⟩ := Int.eq_ofNat_of_zero_le (show 0 ≤ n by omega)
  rw [e1, b3_some, gd_t ⟨r64_small (by omega), r64_small (by omega)⟩, toNat_sub00]
  obtain ⟨a2, t2, ls, e2, k1, k2, k3, k4⟩ := made_l1 hm n a1 t1 [] g3 (by simp; omega) (by simp) (by simp)
  simp only [List.length_nil, Nat.zero_add] at e2 k2
  rw [show (0 : Int) = ((0 : Nat) : Int) from rfl, e2, b3_some]
  obtain ⟨m, a3, t3, e3, f1, f2, f3⟩ := strike_ok (t := t2) (lo := 1) (hi := hours) k1 hm (by omega) (by omega)
  obtain ⟨m, rfl⟩ := Int.eq_ofNat_of_zero_le (show 0 ≤ m by omega)
  have hsm : Small ls := fun l hl x hx => by
    obtain ⟨i, hi, he⟩ := List.getElem_of_mem hl
    have := k3 i l (by rw [List.getElem?_eq_getElem hi, he]) x hx
    omega
  obtain ⟨hs, real, a4, t4, e4, r1, r2, r3, r4, r5⟩ := made_l3 hm hsm (by omega) m a3 t3 [] 0 [] f3 (by simp; omega) (Nat.pow_pos (by decide)) trivial (by simp) (by simp)
  simp only [List.length_nil, Nat.zero_add] at r2
  rw [e3, b3_some, gd_t ⟨r64_small (by omega), r64_small (by omega)⟩, toNat_sub0]
  refine ⟨ls, hs, real, a4, t4, ?_, ⟨by omega, by omega, by omega, by omega, r4, r5, k3, k4⟩, r3, by omega, by omega, r1⟩
  rw [show ([] : List Int) = natL [] from rfl, e4, b4_some]
end
end Go.Proofs.Ytjgeaaganpkceaa.Nt
