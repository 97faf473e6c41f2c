/- Numbers out of a bell, lists, and what a book is; in plain Lean. -/
import Derived.Test.YtodhcoakjlmcdaaGreatZBTd
namespace Go.Proofs.YtodhcoakjlmcdaaGreat.Bk
open Go.PL
theorem bvE {α β : Type} {a : α} {f : α → Option β} : bv a f = f a := rfl
theorem r64_small {x : Int} (h : -1000000000 ≤ x ∧ x ≤ 1000000000) : R64 x := by unfold R64; omega
theorem getD_of {α : Type} {xs : List α} {i : Nat} {d : α} (h : i < xs.length) : xs[i]? = some (xs.getD i d) := by
  rw [List.getD_eq_getElem?_getD, List.getElem?_eq_getElem h]; rfl
theorem getD_mem {α : Type} {xs : List α} {i : Nat} {d : α} (h : i < xs.length) : xs.getD i d ∈ xs := by
  rw [List.getD_eq_getElem?_getD, List.getElem?_eq_getElem h]; exact List.getElem_mem h
theorem ixD {α β : Type} {xs : List α} {i : Int} (d : α) (f : α → Option β) (h0 : 0 ≤ i) (h : i < (xs.length : Int)) : ix xs i f = f (xs.getD i.toNat d) := ix_t h0 (getD_of (by omega))
theorem ixN {α β : Type} {xs : List α} {i : Nat} (d : α) (f : α → Option β) (h : i < xs.length) : ix xs (i : Int) f = f (xs.getD i d) := ix_t (by omega) (by rw [Int.toNat_natCast]; exact getD_of h)
theorem ixI {β : Type} {xs : List Int} {i : Nat} (f : Int → Option β) (h : i < xs.length) : ix xs (i : Int) f = f (xs.getD i 0) := ixN 0 f h
theorem getD_setI {α : Type} {d : α} {xs : List α} {i t : Nat} {x : α} (h : i < xs.length) : (xs.set i x).getD t d = if i = t then x else xs.getD t d := by
  rw [List.getD_eq_getElem?_getD, List.getD_eq_getElem?_getD, List.getElem?_set]
  by_cases e : i = t
  · subst e; simp [h]
  · simp [e]
theorem drop_cons {α : Type} {xs : List α} {k : Nat} {x : α} {tl : List α} (d : α) (h : xs.drop k = x :: tl) : k < xs.length ∧ xs.getD k d = x ∧ xs.drop (k + 1) = tl := by
  have hk : k < xs.length := by
    rcases Nat.lt_or_ge k xs.length with h1 | h1
    · exact h1
    · rw [List.drop_eq_nil_of_le h1] at h; cases h
  rw [List.drop_eq_getElem_cons hk] at h
  obtain ⟨h1, h2⟩ := List.cons.inj h
  exact ⟨hk, by rw [List.getD_eq_getElem?_getD, List.getElem?_eq_getElem hk, ← h1]; rfl, h2⟩
theorem nn {b : Bool} (h : b = true) : ¬ (!b) = true := by rw [h]; simp
theorem cont_dec {n : Int} {P : Prop} [Decidable P] (h : 0 ≤ n ↔ P) : (some (decide (0 ≤ n)) : Option Bool) = some (decide P) := by
  congr 1; exact decide_eq_decide.2 h
theorem bandK_rng (x : Int) : 0 ≤ bandK 32 x 65535 ∧ bandK 32 x 65535 ≤ 65535 := by
  unfold bandK
  rw [BitVec.toNat_and]
  have h : (BitVec.ofInt 32 x).toNat &&& (BitVec.ofInt 32 65535).toNat ≤ (BitVec.ofInt 32 65535).toNat := Nat.and_le_right
  have e : (BitVec.ofInt 32 65535).toNat = 65535 := by decide
  rw [e] at h ⊢
  omega
/-- Where a bell stands. -/
def BellA (metal : List Int) (a : Int) : Prop := 0 ≤ a ∧ a ≤ metal.length
section
variable {metal : List Int}
theorem ring_ok {a t : Int} (h : BellA metal a) (hm : (metal.length : Int) ≤ 9223372036854775807) : ∃ v a' t', oyezkit_Bell_ring metal a t = some (v, a', t') ∧ (0 ≤ v ∧ v ≤ 65535) ∧ BellA metal a' := by
  unfold BellA at h ⊢
  unfold oyezkit_Bell_ring
  have e : ∃ b u, (if a = (metal.length : Int) then some ((0 : Int), (t + 1) % 4294967296) else some (a, t)) = some (b, u) ∧ 0 ≤ b ∧ (0 < (metal.length : Int) → b < metal.length) ∧ b ≤ metal.length := by
    by_cases h1 : a = (metal.length : Int)
    · exact ⟨_, _, if_pos h1, by omega, fun h => h, by omega⟩
    · exact ⟨_, _, if_neg h1, by omega, fun _ => by omega, by omega⟩
  obtain ⟨b, u, e1, e2, e3, e4⟩ := e
  rw [e1, b2_some, bvE]
  by_cases h2 : 0 < (metal.length : Int)
  · have h3 := e3 h2
    rw [if_pos h2, ix_t (x := metal.getD b.toNat 0) e2 (getD_of (by omega)), bvE, gd_t (by unfold R64; omega), b2_some]
    generalize bxorK 32 _ _ = z
    have hz := bandK_rng z
    rw [gd_t (r64_small (by omega))]
    exact ⟨_, _, _, rfl, hz, by omega, by omega⟩
  · rw [if_neg h2, b2_some]
    generalize bxorK 32 _ _ = z
    have hz := bandK_rng z
    rw [gd_t (r64_small (by omega))]
    exact ⟨_, _, _, rfl, hz, by omega, by omega⟩
theorem stroke_ok {a t n : Int} (h : BellA metal a) (hm : (metal.length : Int) ≤ 9223372036854775807) (hn : -1000000 ≤ n ∧ n ≤ 1000000) : ∃ v a' t', oyezkit_Bell_Stroke metal a t n = some (v, a', t') ∧ 0 ≤ v ∧ (v ≤ n ∨ v = 0) ∧ BellA metal a' := by
  unfold oyezkit_Bell_Stroke
  obtain ⟨v, a', t', h1, h2, h3⟩ := ring_ok (t := t) h hm
  rw [h1, b3_some, gd_t (r64_small (by omega)), gd_t (by split <;> omega)]
  refine ⟨_, _, _, rfl, ?_, ?_, h3⟩
  · exact Int.tmod_nonneg _ h2.1
  · have hpos : 0 < (if n + 1 > 1 then n + 1 else 1) := by split <;> omega
    rw [Int.tmod_eq_emod_of_nonneg h2.1]
    have hlt := Int.emod_lt_of_pos v hpos
    have hge := Int.emod_nonneg v (Int.ne_of_gt hpos)
    generalize v % (if n + 1 > 1 then n + 1 else 1) = z at hlt hge
    split at hlt <;> omega
theorem strike_ok {a t lo hi : Int} (h : BellA metal a) (hm : (metal.length : Int) ≤ 9223372036854775807) (hl : -1000 ≤ lo ∧ lo ≤ 1000) (hh : -1000 ≤ hi ∧ hi ≤ 1000) : ∃ v a' t', oyezkit_Bell_Strike metal a t lo hi = some (v, a', t') ∧ lo ≤ v ∧ (v ≤ hi ∨ v = lo) ∧ BellA metal a' := by
  unfold oyezkit_Bell_Strike
  obtain ⟨v, a', t', h1, h2, h3, h4⟩ := stroke_ok (t := t) (n := hi - lo) h hm (by omega)
  rw [gd_t (r64_small (by omega)), h1, b3_some, gd_t (r64_small (by omega))]
  exact ⟨_, _, _, rfl, by omega, by omega, h4⟩
theorem seldom_ok {a t n : Int} (h : BellA metal a) (hm : (metal.length : Int) ≤ 9223372036854775807) (hn : 0 ≤ n ∧ n ≤ 1000) : ∃ v a' t', oyezkit_Bell_Seldom metal a t n = some (v, a', t') ∧ BellA metal a' := by
  unfold oyezkit_Bell_Seldom
  obtain ⟨v, a', t', h1, h2, h3, h4⟩ := stroke_ok (t := t) (n := n - 1) h hm (by omega)
  rw [gd_t (r64_small (by omega)), h1, b3_some]
  exact ⟨_, _, _, rfl, h4⟩
end
/-- All numbers below n, each once. -/
def Ord (n : Nat) (l : List Int) : Prop := l.length = n ∧ l.Nodup ∧ ∀ x ∈ l, 0 ≤ x ∧ x < (n : Int)
theorem swap_nodup {l : List Int} {i j : Nat} (hi : i < l.length) (hj : j < l.length) (h : l.Nodup) : ((l.set i (l.getD j 0)).set j (l.getD i 0)).Nodup := by
  have gi : l.getD i 0 = l[i] := by rw [List.getD_eq_getElem?_getD, List.getElem?_eq_getElem hi]; rfl
  have gj : l.getD j 0 = l[j] := by rw [List.getD_eq_getElem?_getD, List.getElem?_eq_getElem hj]; rfl
  rw [gi, gj, List.Nodup, List.pairwise_iff_getElem]
  have hp := List.pairwise_iff_getElem.1 h
  have inj : ∀ a b (ha : a < l.length) (hb : b < l.length), l[a] = l[b] → a = b := fun a b ha hb he => by
    rcases Nat.lt_trichotomy a b with h1 | h1 | h1
    · exact absurd he (hp a b ha hb h1)
    · exact h1
    · exact absurd he.symm (hp b a hb ha h1)
  have val : ∀ a (ha : a < ((l.set i l[j]).set j l[i]).length), ∃ b, ∃ hb : b < l.length, ((l.set i l[j]).set j l[i])[a] = l[b] ∧ b = if a = j then i else if a = i then j else a := fun a ha => by
    simp only [List.length_set] at ha
    by_cases h1 : a = j
    · subst h1
      exact ⟨i, hi, by rw [List.getElem_set_self], by rw [if_pos rfl]⟩
    · by_cases h2 : a = i
      · subst h2
        exact ⟨j, hj, by rw [List.getElem_set_ne (fun e => h1 e.symm), List.getElem_set_self], by rw [if_neg h1, if_pos rfl]⟩
      · exact ⟨a, ha, by rw [List.getElem_set_ne (fun e => h1 e.symm), List.getElem_set_ne (fun e => h2 e.symm)], by rw [if_neg h1, if_neg h2]⟩
  intro a b ha hb hab he
  obtain ⟨a', ha', e1, e2⟩ := val a ha
  obtain ⟨b', hb', e3, e4⟩ := val b hb
  have := inj a' b' ha' hb' (by rw [← e1, ← e3]; exact he)
  rw [e2, e4] at this
  repeat (first | omega | split at this)
theorem swap_mem {l : List Int} {i j : Nat} (hi : i < l.length) (hj : j < l.length) {x : Int} (h : x ∈ (l.set i (l.getD j 0)).set j (l.getD i 0)) : x ∈ l := by
  have gi : l.getD i 0 ∈ l := by rw [List.getD_eq_getElem?_getD, List.getElem?_eq_getElem hi]; exact List.getElem_mem _
  have gj : l.getD j 0 ∈ l := by rw [List.getD_eq_getElem?_getD, List.getElem?_eq_getElem hj]; exact List.getElem_mem _
  rcases List.mem_or_eq_of_mem_set h with h | rfl
  · rcases List.mem_or_eq_of_mem_set h with h | rfl
    · exact h
    · exact gj
  · exact gi
section
variable {metal : List Int}
theorem rung_l1 (hm : (metal.length : Int) ≤ 9223372036854775807) : ∀ (fu k : Nat) (a t : Int) (out : List Int), BellA metal a → Ord k out → k + fu ≤ 100000 → ∃ r a' t', oyezkit_Bell_Rung_l1 metal fu (k : Int) a t out = some (r, a', t') ∧ Ord (k + fu) r ∧ BellA metal a'
  | 0, k, a, t, out, ha, ho, _ => ⟨out, a, t, rfl, ho, ha⟩
  | fu + 1, k, a, t, out, ha, ho, hk => by
    obtain ⟨h1, h2, h3⟩ := ho
    obtain ⟨n, a1, t1, e1, g1, g2, g3⟩ := stroke_ok (t := t) (n := (k : Int)) ha hm (by omega)
    obtain ⟨n, rfl⟩ := Int.eq_ofNat_of_zero_le g1
    have hn : n ≤ k := by omega
    have hl : (out ++ [(k : Int)]).length = k + 1 := by simp [h1]
    have hnd : (out ++ [(k : Int)]).Nodup := by
      rw [List.nodup_append]
      refine ⟨h2, by simp, fun x hx y hy he => ?_⟩
      rw [List.mem_singleton] at hy
      have := h3 x hx
      omega
    have hmem : ∀ x ∈ out ++ [(k : Int)], 0 ≤ x ∧ x < ((k + 1 : Nat) : Int) := fun x hx => by
      rcases List.mem_append.1 hx with h | h
      · have := h3 x h; omega
      · rw [List.mem_singleton] at h; omega
    have hO : Ord (k + 1) (((out ++ [(k : Int)]).set n ((out ++ [(k : Int)]).getD k 0)).set k ((out ++ [(k : Int)]).getD n 0)) :=
      ⟨by simp [h1], swap_nodup (by omega) (by omega) hnd, fun x hx => hmem x (swap_mem (by omega) (by omega) hx)⟩
    obtain ⟨r, a2, t2, q1, q2, q3⟩ := rung_l1 hm fu (k + 1) a1 t1 _ g3 hO (by omega)
    refine ⟨r, a2, t2, ?_, by rw [show k + (fu + 1) = k + 1 + fu by omega]; exact q2, q3⟩
    unfold oyezkit_Bell_Rung_l1
    rw [e1, b3_some, ap_t (by omega), ixI _ (by omega), ixI _ (by omega), bvE, Int.toNat_natCast, ixI _ (by rw [List.length_set]; omega), bvE, Int.toNat_natCast, show (k : Int) + 1 = ((k + 1 : Nat) : Int) by omega]
    exact q1
theorem rung_ok (hm : (metal.length : Int) ≤ 9223372036854775807) {a t : Int} (ha : 0 ≤ a ∧ a ≤ metal.length) {n : Nat} (hn : n ≤ 1000) : ∃ r a' t', oyezkit_Bell_Rung metal a t (n : Int) = some (r, a', t') ∧ Ord n r ∧ BellA metal a' := by
  obtain ⟨r, a', t', h1, h2, h3⟩ := rung_l1 hm n 0 a t [] ha ⟨rfl, List.nodup_nil, fun _ h => nomatch h⟩ (by omega)
  rw [Nat.zero_add] at h2
  refine ⟨r, a', t', ?_, h2, h3⟩
  have e : (if (n : Int) > 0 then (n : Int) else 0) = (n : Int) := by split <;> omega
  have h1' : oyezkit_Bell_Rung_l1 metal n 0 a t [] = some (r, a', t') := h1
  unfold oyezkit_Bell_Rung
  rw [e, gd_t ⟨r64_small (by omega), r64_small (by omega)⟩, show Int.toNat ((n : Int) - 0) = n by omega, h1', b3_some]
end
theorem in_eq (n lo hi : Int) : book_in n lo hi = some (decide (lo ≤ n ∧ n ≤ hi)) := by
  unfold book_in
  by_cases h : lo ≤ n
  · rw [if_pos h]; simp [h]
  · rw [if_neg h]; simp [h]
theorem index_l2 (v : Int) : ∀ (l : List Int) (k : Int), 0 ≤ k → ∃ n, slices_Index_int_int_l2 v l k = some n ∧ (0 ≤ n ↔ v ∈ l)
  | [], k, _ => ⟨-1, rfl, by simp⟩
  | x :: l, k, hk => by
    unfold slices_Index_int_int_l2
    by_cases h : v = x
    · exact ⟨k, if_pos h, by simp [h, hk]⟩
    · obtain ⟨n, h1, h2⟩ := index_l2 v l (k + 1) (by omega)
      exact ⟨n, by rw [if_neg h]; exact h1, by rw [h2]; simp [h]⟩
theorem contains_eq (l : List Int) (v : Int) : slices_Contains_int_int l v = some (decide (v ∈ l)) := by
  unfold slices_Contains_int_int slices_Index_int_int
  obtain ⟨n, h1, h2⟩ := index_l2 v l 0 (Int.le_refl _)
  rw [h1, b1_some]
  exact cont_dec h2
theorem idx_int_int_l2 {f : Int → Option Bool} {g : Int → Bool} : ∀ (l : List (Int)) (k : Int), 0 ≤ k → (∀ x ∈ l, f x = some (g x)) → ∃ n, slices_IndexFunc_int_int_l2 f l k = some n ∧ (0 ≤ n ↔ l.any g = true)
  | [], k, _, _ => ⟨-1, rfl, by simp⟩
  | x :: l, k, hk, h => by
    unfold slices_IndexFunc_int_int_l2
    rw [h x (by simp), b1_some]
    by_cases hx : g x = true
    · exact ⟨k, by rw [if_pos hx], by simp [hx, hk]⟩
    · obtain ⟨n, h1, h2⟩ := idx_int_int_l2 l (k + 1) (by omega) (fun y hy => h y (by simp [hy]))
      exact ⟨n, by rw [if_neg hx]; exact h1, by rw [h2]; simp [hx]⟩
theorem idx_int_int {f : Int → Option Bool} {g : Int → Bool} {l : List (Int)} (h : ∀ x ∈ l, f x = some (g x)) : slices_ContainsFunc_int_int l f = some (l.any g) := by
  unfold slices_ContainsFunc_int_int slices_IndexFunc_int_int
  obtain ⟨n, h1, h2⟩ := idx_int_int_l2 l 0 (Int.le_refl _) h
  rw [h1, b1_some, cont_dec h2, Bool.decide_eq_true]
theorem idx_int_int__l2 {f : List (List Int) → Option Bool} {g : List (List Int) → Bool} : ∀ (l : List (List (List Int))) (k : Int), 0 ≤ k → (∀ x ∈ l, f x = some (g x)) → ∃ n, slices_IndexFunc_int_int__l2 f l k = some n ∧ (0 ≤ n ↔ l.any g = true)
  | [], k, _, _ => ⟨-1, rfl, by simp⟩
  | x :: l, k, hk, h => by
    unfold slices_IndexFunc_int_int__l2
    rw [h x (by simp), b1_some]
    by_cases hx : g x = true
    · exact ⟨k, by rw [if_pos hx], by simp [hx, hk]⟩
    · obtain ⟨n, h1, h2⟩ := idx_int_int__l2 l (k + 1) (by omega) (fun y hy => h y (by simp [hy]))
      exact ⟨n, by rw [if_neg hx]; exact h1, by rw [h2]; simp [hx]⟩
theorem idx_int_int_ {f : List (List Int) → Option Bool} {g : List (List Int) → Bool} {l : List (List (List Int))} (h : ∀ x ∈ l, f x = some (g x)) : slices_ContainsFunc_int_int_ l f = some (l.any g) := by
  unfold slices_ContainsFunc_int_int_ slices_IndexFunc_int_int_
  obtain ⟨n, h1, h2⟩ := idx_int_int__l2 l 0 (Int.le_refl _) h
  rw [h1, b1_some, cont_dec h2, Bool.decide_eq_true]
theorem every_eq {f : Int → Option Bool} {g : Int → Bool} {l : List Int} (h : ∀ x ∈ l, f x = some (g x)) : book_every_int l f = some (l.all g) := by
  unfold book_every_int
  rw [idx_int_int (g := fun x => !g x) (fun x hx => by unfold book_every_int_1; rw [h x hx, b1_some]), b1_some]
  simp [List.all_eq_not_any_not]
theorem every_eq_ {f : List (List Int) → Option Bool} {g : List (List Int) → Bool} {l : List (List (List Int))} (h : ∀ x ∈ l, f x = some (g x)) : book_every_int_ l f = some (l.all g) := by
  unfold book_every_int_
  rw [idx_int_int_ (g := fun x => !g x) (fun x hx => by unfold book_every_int_1_; rw [h x hx, b1_some]), b1_some]
  simp [List.all_eq_not_any_not]
theorem idx_cry_l2 {f : (Int × Int × Int) → Option Bool} {g : (Int × Int × Int) → Bool} : ∀ (l : List (Int × Int × Int)) (k : Int), 0 ≤ k → (∀ x ∈ l, f x = some (g x)) → ∃ n, slices_IndexFunc_book_Cry_book_Cry_l2 f l k = some n ∧ (0 ≤ n ↔ l.any g = true)
  | [], k, _, _ => ⟨-1, rfl, by simp⟩
  | x :: l, k, hk, h => by
    unfold slices_IndexFunc_book_Cry_book_Cry_l2
    rw [show (x.1, x.2.1, x.2.2) = x from rfl, h x (by simp), b1_some]
    by_cases hx : g x = true
    · exact ⟨k, by rw [if_pos hx], by simp [hx, hk]⟩
    · obtain ⟨n, h1, h2⟩ := idx_cry_l2 l (k + 1) (by omega) (fun y hy => h y (by simp [hy]))
      exact ⟨n, by rw [if_neg hx]; exact h1, by rw [h2]; simp [hx]⟩
theorem idx_cry {f : (Int × Int × Int) → Option Bool} {g : (Int × Int × Int) → Bool} {l : List (Int × Int × Int)} (h : ∀ x ∈ l, f x = some (g x)) : slices_ContainsFunc_book_Cry_book_Cry l f = some (l.any g) := by
  unfold slices_ContainsFunc_book_Cry_book_Cry slices_IndexFunc_book_Cry_book_Cry
  obtain ⟨n, h1, h2⟩ := idx_cry_l2 l 0 (Int.le_refl _) h
  rw [h1, b1_some, cont_dec h2, Bool.decide_eq_true]
theorem every_cry {f : (Int × Int × Int) → Option Bool} {g : (Int × Int × Int) → Bool} {l : List (Int × Int × Int)} (h : ∀ x ∈ l, f x = some (g x)) : book_every_Cry l f = some (l.all g) := by
  unfold book_every_Cry
  rw [idx_cry (g := fun x => !g x) (fun x hx => by unfold book_every_Cry_1; rw [show (x.1, x.2.1, x.2.2) = x from rfl, h x hx, b1_some]), b1_some]
  simp [List.all_eq_not_any_not]
theorem idx_end_l2 {f : (List Bool × List Int) → Option Bool} {g : (List Bool × List Int) → Bool} : ∀ (l : List (List Bool × List Int)) (k : Int), 0 ≤ k → (∀ x ∈ l, f x = some (g x)) → ∃ n, slices_IndexFunc_book_ending_book_ending_l2 f l k = some n ∧ (0 ≤ n ↔ l.any g = true)
  | [], k, _, _ => ⟨-1, rfl, by simp⟩
  | x :: l, k, hk, h => by
    unfold slices_IndexFunc_book_ending_book_ending_l2
    rw [show (x.1, x.2) = x from rfl, h x (by simp), b1_some]
    by_cases hx : g x = true
    · exact ⟨k, by rw [if_pos hx], by simp [hx, hk]⟩
    · obtain ⟨n, h1, h2⟩ := idx_end_l2 l (k + 1) (by omega) (fun y hy => h y (by simp [hy]))
      exact ⟨n, by rw [if_neg hx]; exact h1, by rw [h2]; simp [hx]⟩
theorem idx_end {f : (List Bool × List Int) → Option Bool} {g : (List Bool × List Int) → Bool} {l : List (List Bool × List Int)} (h : ∀ x ∈ l, f x = some (g x)) : slices_ContainsFunc_book_ending_book_ending l f = some (l.any g) := by
  unfold slices_ContainsFunc_book_ending_book_ending slices_IndexFunc_book_ending_book_ending
  obtain ⟨n, h1, h2⟩ := idx_end_l2 l 0 (Int.le_refl _) h
  rw [h1, b1_some, cont_dec h2, Bool.decide_eq_true]
theorem clone_eq {l : List Int} (h : l.length ≤ 1000000) : slices_Clone_int_int l = some l := by
  unfold slices_Clone_int_int nilIf
  by_cases e : l = []
  · subst e
    rw [if_pos rfl, ap_t (by simp)]; rfl
  · rw [if_neg e, ap_t (by simpa using by omega)]; rfl
theorem sl_take {α : Type} (l : List α) (n : Int) : sl l 0 n = l.take n.toNat := by unfold sl; simp
structure BOK (n n2 : Int) (hs : List (List (List Int))) (rs : List Int) (cs : List (Int × Int × Int)) : Prop where
  hn : 1 ≤ n ∧ n ≤ 6
  hn2 : 1 ≤ n2 ∧ n2 ≤ 4
  hh : 1 ≤ hs.length ∧ hs.length ≤ 4
  hr : 1 ≤ rs.length ∧ rs.length ≤ 8
  hc : cs.length ≤ 12
  h8 : ∀ w ∈ hs, w.length = 8
  hl : ∀ w ∈ hs, ∀ l ∈ w, l.Nodup ∧ ∀ x ∈ l, 0 ≤ x ∧ x < n
  rr : ∀ r ∈ rs, -1 ≤ r ∧ r ≤ 7
  cc : ∀ c ∈ cs, (0 ≤ c.1 ∧ c.1 < (rs.length : Int)) ∧ (0 ≤ c.2.1 ∧ c.2.1 < (hs.length : Int)) ∧ (0 ≤ c.2.2 ∧ c.2.2 < n2)
section
variable {n n2 : Int} {hs : List (List (List Int))} {rs : List Int} {cs : List (Int × Int × Int)}
theorem house_eq (h : BOK n n2 hs rs cs) (x : Int) : book_Book_house n n2 hs rs cs x = some (decide (0 ≤ x ∧ x < n)) := by
  unfold book_Book_house
  have := h.hn
  rw [gd_t (r64_small (by omega)), in_eq, b1_some]
  congr 1; exact decide_eq_decide.2 (by omega)
theorem notice_eq (h : BOK n n2 hs rs cs) (x : Int) : book_Book_notice n n2 hs rs cs x = some (decide (0 ≤ x ∧ x < n2)) := by
  unfold book_Book_notice
  have := h.hn2
  rw [gd_t (r64_small (by omega)), in_eq, b1_some]
  congr 1; exact decide_eq_decide.2 (by omega)
theorem hour_eq (h : BOK n n2 hs rs cs) (x : Int) : book_Book_hour n n2 hs rs cs x = some (decide (0 ≤ x ∧ x < (rs.length : Int))) := by
  unfold book_Book_hour
  have := h.hr
  rw [gd_t (r64_small (by omega)), in_eq, b1_some]
  congr 1; exact decide_eq_decide.2 (by omega)
theorem listed_l2 (h : BOK n n2 hs rs cs) {l : List Int} (hd : l.Nodup) (hx : ∀ x ∈ l, 0 ≤ x ∧ x < n) (hl : l.length ≤ 1000000) : ∀ (tl : List Int) (k : Nat), l.drop k = tl → book_Book_listed_l2 n n2 hs rs cs l tl (k : Int) = some 0
  | [], _, _ => rfl
  | x :: tl, k, he => by
    obtain ⟨hk, h1, h2⟩ := drop_cons 0 he
    have hm : x ∈ l := by rw [← h1]; exact getD_mem hk
    unfold book_Book_listed_l2
    have hno : x ∉ l.take k := fun hm2 => by
      rw [← List.take_append_drop k l, he, List.nodup_append] at hd
      exact hd.2.2 x hm2 x (List.mem_cons_self ..) rfl
    rw [house_eq h, b1_some, decide_eq_true (hx x hm), if_neg (by decide), gd_t ⟨⟨by omega, by omega⟩, by omega⟩, bvE, sl_take, Int.toNat_natCast, contains_eq, b1_some, decide_eq_false hno, if_neg (by decide), show (k : Int) + 1 = ((k + 1 : Nat) : Int) by omega]
    exact listed_l2 h hd hx hl tl (k + 1) h2
theorem nodup_len {l : List Int} {n : Int} (h : l.Nodup) (hx : ∀ x ∈ l, 0 ≤ x ∧ x < n) : (l.length : Int) ≤ max n 0 := by
  have key : ∀ (m : Nat) (l : List Int), l.Nodup → (∀ x ∈ l, 0 ≤ x ∧ x < (m : Int)) → l.length ≤ m := fun m => by
    induction m with
    | zero => intro l _ hx; cases l with
      | nil => simp
      | cons a l => have := hx a (by simp); omega
    | succ m ih =>
      intro l hd hx
      have h1 := ih (l.filter (· ≠ (m : Int))) (hd.filter _) (fun x hm => by
        rw [List.mem_filter] at hm
        have h2 := hx x hm.1
        have h3 : x ≠ (m : Int) := by simpa using hm.2
        omega)
      have h2 : l.length ≤ (l.filter (· ≠ (m : Int))).length + 1 := by
        have h3 : l.length = (l.filter (· ≠ (m : Int))).length + (l.filter (fun a => decide ¬decide (a ≠ (m : Int)) = true)).length := by
          rw [← List.countP_eq_length_filter, ← List.countP_eq_length_filter]
          exact List.length_eq_countP_add_countP _
        have h4 : (l.filter (fun a => decide ¬decide (a ≠ (m : Int)) = true)).length ≤ 1 := by
          have h5 : (l.filter (fun a => decide ¬decide (a ≠ (m : Int)) = true)).Nodup := hd.filter _
          have h6 : ∀ x ∈ l.filter (fun a => decide ¬decide (a ≠ (m : Int)) = true), x = (m : Int) := fun x hx => by simpa using (List.mem_filter.1 hx).2
          generalize l.filter (fun a => decide ¬decide (a ≠ (m : Int)) = true) = q at h5 h6
          match q with
          | [] => simp
          | [_] => simp
          | a :: b :: q =>
            have ha := h6 a (by simp); have hb := h6 b (by simp)
            rw [List.nodup_cons] at h5
            exact absurd (by rw [ha, hb]; simp) h5.1
        omega
      omega
  have := key n.toNat l h (fun x hm => by have := hx x hm; omega)
  omega
theorem listed_eq (h : BOK n n2 hs rs cs) {l : List Int} (hd : l.Nodup) (hx : ∀ x ∈ l, 0 ≤ x ∧ x < n) : book_Book_listed n n2 hs rs cs l = some 0 := by
  have := nodup_len hd hx
  have := h.hn
  exact listed_l2 h hd hx (by omega) l 0 rfl
theorem check_l4 (h : BOK n n2 hs rs cs) {rec2 : Option Int} : ∀ (w : List (List Int)), (∀ l ∈ w, l.Nodup ∧ ∀ x ∈ l, 0 ≤ x ∧ x < n) → book_Check_l4 n n2 hs rs cs rec2 w = rec2
  | [], _ => rfl
  | l :: w, hw => by
    unfold book_Check_l4
    have h1 := hw l (by simp)
    rw [listed_eq h h1.1 h1.2, b1_some, if_neg (by decide)]
    exact check_l4 h w fun l hl => hw l (by simp [hl])
theorem read_eq (x : Int) : book_read x = some (decide (-1 ≤ x ∧ x ≤ 7)) := by
  unfold book_read
  by_cases e : x = -1
  · rw [if_pos e, e]; rfl
  · rw [if_neg e, in_eq, b1_some]; congr 1; exact decide_eq_decide.2 (by omega)
theorem check_l2 (h : BOK n n2 hs rs cs) : ∀ (l : List (List (List Int))), (∀ w ∈ l, ∀ l ∈ w, l.Nodup ∧ ∀ x ∈ l, 0 ≤ x ∧ x < n) → book_Check_l2 n n2 hs rs cs l = some 0
  | [], _ => by
    unfold book_Check_l2 book_Check_j1
    rw [every_eq (g := fun x => decide (-1 ≤ x ∧ x ≤ 7)) (fun x _ => read_eq x), b1_some]
    have h1 : rs.all (fun x => decide (-1 ≤ x ∧ x ≤ 7)) = true := by
      rw [List.all_eq_true]; exact fun x hx => decide_eq_true (h.rr x hx)
    rw [h1, if_neg (by decide), every_cry (g := fun _ => true) (fun c hc => ?_), b1_some]
    · rw [show cs.all (fun _ => true) = true by rw [List.all_eq_true]; exact fun _ _ => rfl, if_neg (by decide)]
    · obtain ⟨h1, h2, h3⟩ := h.cc c hc
      have := h.hh
      unfold book_Check_1
      rw [hour_eq h, b1_some, decide_eq_true h1, if_pos rfl, gd_t (r64_small (by omega)), in_eq, b1_some, decide_eq_true (by omega), if_pos rfl, notice_eq h, b1_some, decide_eq_true h3]
  | w :: l, hw => by
    unfold book_Check_l2
    rw [check_l4 h w (hw w (by simp))]
    exact check_l2 h l fun w hm => hw w (by simp [hm])
theorem Check_eq (h : BOK n n2 hs rs cs) : book_Check n n2 hs rs cs = some 0 := by
  unfold book_Check book_Book_counted
  have h1 := h.hn; have h2 := h.hn2; have h3 := h.hh; have h4 := h.hr; have h5 := h.hc
  rw [in_eq, b1_some, decide_eq_true h1, if_pos rfl, in_eq, b1_some, decide_eq_true h2, if_pos rfl, in_eq, b1_some, decide_eq_true (by omega), if_pos rfl, in_eq, b1_some, decide_eq_true (by omega), if_pos rfl, if_pos (by omega), every_eq_ (g := fun _ => true) (fun w hw => ?_), b1_some, b1_some]
  · rw [show hs.all (fun _ => true) = true by rw [List.all_eq_true]; exact fun _ _ => rfl, if_neg (by decide)]
    exact check_l2 h hs h.hl
  · unfold book_Book_counted_1
    rw [h.h8 w hw]; rfl
theorem opened_eq (h : BOK n n2 hs rs cs) : book_opened n n2 hs rs cs = some (some (n, n2, hs, rs, cs), 0) := by
  unfold book_opened
  rw [Check_eq h, b1_some, if_neg (by decide)]
end
def nearB (a b : Int) : Bool := decide (a = b ∨ a = b + 1 ∨ b = a + 1 ∨ (a = 0 ∧ b = 7) ∨ (a = 7 ∧ b = 0))
def W8 : List Int := [0, 1, 2, 3, 4, 5, 6, 7]
theorem mem_W8 {w : Int} : w ∈ W8 ↔ 0 ≤ w ∧ w ≤ 7 := by
  unfold W8; simp only [List.mem_cons, List.not_mem_nil, or_false]; omega
theorem near_all : (W8.all fun a => W8.all fun b => decide (book_near a b = some (nearB a b))) = true := by decide +kernel
theorem near_eq {a b : Int} (ha : 0 ≤ a ∧ a ≤ 7) (hb : 0 ≤ b ∧ b ≤ 7) : book_near a b = some (nearB a b) :=
  of_decide_eq_true (List.all_eq_true.1 (List.all_eq_true.1 near_all a (mem_W8.2 ha)) b (mem_W8.2 hb))
def nearL (w : Int) : List Int := W8.filter fun v => nearB v w
theorem turned_all : (W8.all fun w => decide (book_turned w = some (nearL w))) = true := by decide +kernel
theorem turned_eq {w : Int} (h : 0 ≤ w ∧ w ≤ 7) : book_turned w = some (nearL w) := of_decide_eq_true (List.all_eq_true.1 turned_all w (mem_W8.2 h))
theorem mem_nearL {v w : Int} : v ∈ nearL w ↔ (0 ≤ v ∧ v ≤ 7) ∧ nearB v w = true := by unfold nearL; rw [List.mem_filter, mem_W8]
theorem near_comm (a b : Int) : nearB a b = nearB b a := by unfold nearB; exact decide_eq_decide.2 (by omega)
theorem near_refl (a : Int) : nearB a a = true := by unfold nearB; simp
theorem nearL_len_all : (W8.all fun w => decide ((nearL w).length = 3)) = true := by decide
theorem nearL_len {w : Int} (h : 0 ≤ w ∧ w ≤ 7) : (nearL w).length = 3 := of_decide_eq_true (List.all_eq_true.1 nearL_len_all w (mem_W8.2 h))
def canB (r w : Int) : Bool := decide (r = -1) || nearB w r
theorem can_eq {n n2 : Int} {hs : List (List (List Int))} {rs : List Int} {cs : List (Int × Int × Int)} (hr : ∀ r ∈ rs, -1 ≤ r ∧ r ≤ 7) {k w : Int} (h0 : 0 ≤ k) (h1 : k < (rs.length : Int)) (hw : 0 ≤ w ∧ w ≤ 7) : book_Book_can n n2 hs rs cs k w = some (canB (rs.getD k.toNat 0) w) := by
  unfold book_Book_can
  rw [ixD 0 _ h0 h1]
  have hm := hr _ (getD_mem (d := 0) (show k.toNat < rs.length by omega))
  generalize rs.getD k.toNat 0 = r at hm
  unfold canB
  by_cases e : r = -1
  · rw [if_pos e]; simp [e]
  · rw [if_neg e, near_eq hw (by omega), b1_some]; simp [e]
end Go.Proofs.YtodhcoakjlmcdaaGreat.Bk
