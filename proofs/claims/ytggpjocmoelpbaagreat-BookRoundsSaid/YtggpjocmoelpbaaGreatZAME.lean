/- Numbers out of a bell, lists, and what a book is; in plain Lean. -/
import Derived.Test.YtggpjocmoelpbaaGreatZATd
namespace Go.Proofs.YtggpjocmoelpbaaGreat.Bk
open Go.PL
theorem bvE {α β : Type} {a : α} {f : α → Option β} : bv a f = f a := rfl
theorem r64_small {x : Int} (h : -1000000000 ≤ x ∧ x ≤ 1000000000) : R64 x := by unfold R64; omega
theorem getD_of {α : Type} {xs : List α} {i : Nat} {d : α} (h : i < xs.length) : xs[i]? = some (xs.getD i d) := by
  rw [List.getD_eq_getElem?_getD, List.getElem?_eq_getElem h]; rfl
theorem getD_mem {α : Type} {xs : List α} {i : Nat} {d : α} (h : i < xs.length) : xs.getD i d ∈ xs := by
  rw [List.getD_eq_getElem?_getD, List.getElem?_eq_getElem h]; exact List.getElem_mem h
theorem ixD {α β : Type} {xs : List α} {i : Int} (d : α) (f : α → Option β) (h0 : 0 ≤ i) (h : i < (xs.length : Int)) : ix xs i f = f (xs.getD i.toNat d) := ix_t h0 (getD_of (by omega))
theorem ixN {α β : Type} {xs : List α} {i : Nat} (d : α) (f : α → Option β) (h : i < xs.length) : ix xs (i : Int) f = f (xs.getD i d) := ix_t (by omega) (by rw [Int.toNat_natCast]; exact getD_of h)
theorem ixI {β : Type} {xs : List Int} {i : Nat} (f : Int → Option β) (h : i < xs.length) : ix xs (i : Int) f = f (xs.getD i 0) := ixN 0 f h
theorem getD_setI {α : Type} {d : α} {xs : List α} {i t : Nat} {x : α} (h : i < xs.length) : (xs.set i x).getD t d = if i = t then x else xs.getD t d := by
  rw [List.getD_eq_getElem?_getD, List.getD_eq_getElem?_getD, List.getElem?_set]
  by_cases e : i = t
  · subst e; simp [h]
  · simp [e]
theorem getD_ext {α : Type} {d : α} {xs ys : List α} (hl : xs.length = ys.length) (h : ∀ t, t < xs.length → xs.getD t d = ys.getD t d) : xs = ys := by
  refine List.ext_getElem hl fun t h1 h2 => ?_
  have := h t h1
  rw [List.getD_eq_getElem?_getD, List.getD_eq_getElem?_getD, List.getElem?_eq_getElem h1, List.getElem?_eq_getElem h2] at this
  exact this
theorem drop_cons {α : Type} {xs : List α} {k : Nat} {x : α} {tl : List α} (d : α) (h : xs.drop k = x :: tl) : k < xs.length ∧ xs.getD k d = x ∧ xs.drop (k + 1) = tl := by
  have hk : k < xs.length := by
    rcases Nat.lt_or_ge k xs.length with h1 | h1
    · exact h1
    · rw [List.drop_eq_nil_of_le h1] at h; cases h
  rw [List.drop_eq_getElem_cons hk] at h
  obtain ⟨h1, h2⟩ := List.cons.inj h
  exact ⟨hk, by rw [List.getD_eq_getElem?_getD, List.getElem?_eq_getElem hk, ← h1]; rfl, h2⟩
theorem nn {b : Bool} (h : b = true) : ¬ (!b) = true := by rw [h]; simp
theorem cont_dec {n : Int} {P : Prop} [Decidable P] (h : 0 ≤ n ↔ P) : (some (decide (0 ≤ n)) : Option Bool) = some (decide P) := by
  congr 1; exact decide_eq_decide.2 h
theorem bandK_rng (x : Int) : 0 ≤ bandK 32 x 65535 ∧ bandK 32 x 65535 ≤ 65535 := by
  unfold bandK
  rw [BitVec.toNat_and]
  have h : (BitVec.ofInt 32 x).toNat &&& (BitVec.ofInt 32 65535).toNat ≤ (BitVec.ofInt 32 65535).toNat := Nat.and_le_right
  have e : (BitVec.ofInt 32 65535).toNat = 65535 := by decide
  rw [e] at h ⊢
  omega
def BellA (metal : List Int) (a : Int) : Prop := 0 ≤ a ∧ a ≤ metal.length
section
variable {metal : List Int}
theorem ring_ok {a t : Int} (h : BellA metal a) (hm : (metal.length : Int) ≤ 9223372036854775807) : ∃ v a' t', oyezkit_Bell_ring metal a t = some (v, a', t') ∧ (0 ≤ v ∧ v ≤ 65535) ∧ BellA metal a' := by
  unfold BellA at h ⊢
  unfold oyezkit_Bell_ring
  have e : ∃ b u, (if a = (metal.length : Int) then some ((0 : Int), (t + 1) % 4294967296) else some (a, t)) = some (b, u) ∧ 0 ≤ b ∧ (0 < (metal.length : Int) → b < metal.length) ∧ b ≤ metal.length := by
    by_cases h1 : a = (metal.length : Int)
    · exact ⟨_, _, if_pos h1, by omega, fun h => h, by omega⟩
    · exact ⟨_, _, if_neg h1, by omega, fun _ => by omega, by omega⟩
  obtain ⟨b, u, e1, e2, e3, e4⟩ := e
  rw [e1, b2_some, bvE]
  by_cases h2 : 0 < (metal.length : Int)
  · have h3 := e3 h2
    rw [if_pos h2, ix_t (x := metal.getD b.toNat 0) e2 (getD_of (by omega)), bvE, gd_t (by unfold R64; omega), b2_some]
    generalize bxorK 32 _ _ = z
    have hz := bandK_rng z
    rw [gd_t (r64_small (by omega))]
    exact ⟨_, _, _, rfl, hz, by omega, by omega⟩
  · rw [if_neg h2, b2_some]
    generalize bxorK 32 _ _ = z
    have hz := bandK_rng z
    rw [gd_t (r64_small (by omega))]
    exact ⟨_, _, _, rfl, hz, by omega, by omega⟩
theorem stroke_ok {a t n : Int} (h : BellA metal a) (hm : (metal.length : Int) ≤ 9223372036854775807) (hn : -1000000 ≤ n ∧ n ≤ 1000000) : ∃ v a' t', oyezkit_Bell_Stroke metal a t n = some (v, a', t') ∧ 0 ≤ v ∧ (v ≤ n ∨ v = 0) ∧ BellA metal a' := by
  unfold oyezkit_Bell_Stroke
  obtain ⟨v, a', t', h1, h2, h3⟩ := ring_ok (t := t) h hm
  rw [h1, b3_some, gd_t (r64_small (by omega)), gd_t (by split <;> omega)]
  refine ⟨_, _, _, rfl, ?_, ?_, h3⟩
  · exact Int.tmod_nonneg _ h2.1
  · have hpos : 0 < (if n + 1 > 1 then n + 1 else 1) := by split <;> omega
    rw [Int.tmod_eq_emod_of_nonneg h2.1]
    have hlt := Int.emod_lt_of_pos v hpos
    have hge := Int.emod_nonneg v (Int.ne_of_gt hpos)
    generalize v % (if n + 1 > 1 then n + 1 else 1) = z at hlt hge
    split at hlt <;> omega
theorem strike_ok {a t lo hi : Int} (h : BellA metal a) (hm : (metal.length : Int) ≤ 9223372036854775807) (hl : -1000 ≤ lo ∧ lo ≤ 1000) (hh : -1000 ≤ hi ∧ hi ≤ 1000) : ∃ v a' t', oyezkit_Bell_Strike metal a t lo hi = some (v, a', t') ∧ lo ≤ v ∧ (v ≤ hi ∨ v = lo) ∧ BellA metal a' := by
  unfold oyezkit_Bell_Strike
  obtain ⟨v, a', t', h1, h2, h3, h4⟩ := stroke_ok (t := t) (n := hi - lo) h hm (by omega)
  rw [gd_t (r64_small (by omega)), h1, b3_some, gd_t (r64_small (by omega))]
  exact ⟨_, _, _, rfl, by omega, by omega, h4⟩
theorem seldom_ok {a t n : Int} (h : BellA metal a) (hm : (metal.length : Int) ≤ 9223372036854775807) (hn : 0 ≤ n ∧ n ≤ 1000) : ∃ v a' t', oyezkit_Bell_Seldom metal a t n = some (v, a', t') ∧ BellA metal a' := by
  unfold oyezkit_Bell_Seldom
  obtain ⟨v, a', t', h1, h2, h3, h4⟩ := stroke_ok (t := t) (n := n - 1) h hm (by omega)
  rw [gd_t (r64_small (by omega)), h1, b3_some]
  exact ⟨_, _, _, rfl, h4⟩
end
def Ord (n : Nat) (l : List Int) : Prop := l.length = n ∧ l.Nodup ∧ ∀ x ∈ l, 0 ≤ x ∧ x < (n : Int)
theorem swap_nodup {l : List Int} {i j : Nat} (hi : i < l.length) (hj : j < l.length) (h : l.Nodup) : ((l.set i (l.getD j 0)).set j (l.getD i 0)).Nodup := by
  have gi : l.getD i 0 = l[i] := by rw [List.getD_eq_getElem?_getD, List.getElem?_eq_getElem hi]; rfl
  have gj : l.getD j 0 = l[j] := by rw [List.getD_eq_getElem?_getD, List.getElem?_eq_getElem hj]; rfl
  rw [gi, gj, List.Nodup, List.pairwise_iff_getElem]
  have hp := List.pairwise_iff_getElem.1 h
  have inj : ∀ a b (ha : a < l.length) (hb : b < l.length), l[a] = l[b] → a = b := fun a b ha hb he => by
    rcases Nat.lt_trichotomy a b with h1 | h1 | h1
    · exact absurd he (hp a b ha hb h1)
    · exact h1
    · exact absurd he.symm (hp b a hb ha h1)
  have val : ∀ a (ha : a < ((l.set i l[j]).set j l[i]).length), ∃ b, ∃ hb : b < l.length, ((l.set i l[j]).set j l[i])[a] = l[b] ∧ b = if a = j then i else if a = i then j else a := fun a ha => by
    simp only [List.length_set] at ha
    by_cases h1 : a = j
    · subst h1
      exact ⟨i, hi, by rw [List.getElem_set_self], by rw [if_pos rfl]⟩
    · by_cases h2 : a = i
      · subst h2
        exact ⟨j, hj, by rw [List.getElem_set_ne (fun e => h1 e.symm), List.getElem_set_self], by rw [if_neg h1, if_pos rfl]⟩
      · exact ⟨a, ha, by rw [List.getElem_set_ne (fun e => h1 e.symm), List.getElem_set_ne (fun e => h2 e.symm)], by rw [if_neg h1, if_neg h2]⟩
  intro a b ha hb hab he
  obtain ⟨a', ha', e1, e2⟩ := val a ha
  obtain ⟨b', hb', e3, e4⟩ := val b hb
  have := inj a' b' ha' hb' (by rw [← e1, ← e3]; exact he)
  rw [e2, e4] at this
  repeat (first | omega | split at this)
theorem swap_mem {l : List Int} {i j : Nat} (hi : i < l.length) (hj : j < l.length) {x : Int} (h : x ∈ (l.set i (l.getD j 0)).set j (l.getD i 0)) : x ∈ l := by
  have gi : l.getD i 0 ∈ l := by rw [List.getD_eq_getElem?_getD, List.getElem?_eq_getElem hi]; exact List.getElem_mem _
  have gj : l.getD j 0 ∈ l := by rw [List.getD_eq_getElem?_getD, List.getElem?_eq_getElem hj]; exact List.getElem_mem _
  rcases List.mem_or_eq_of_mem_set h with h | rfl
  · rcases List.mem_or_eq_of_mem_set h with h | rfl
    · exact h
    · exact gj
  · exact gi
section
variable {metal : List Int}
theorem rung_l1 (hm : (metal.length : Int) ≤ 9223372036854775807) : ∀ (fu k : Nat) (a t : Int) (out : List Int), BellA metal a → Ord k out → k + fu ≤ 100000 → ∃ r a' t', oyezkit_Bell_Rung_l1 metal fu (k : Int) a t out = some (r, a', t') ∧ Ord (k + fu) r ∧ BellA metal a'
  | 0, k, a, t, out, ha, ho, _ => ⟨out, a, t, rfl, ho, ha⟩
  | fu + 1, k, a, t, out, ha, ho, hk => by
    obtain ⟨h1, h2, h3⟩ := ho
    obtain ⟨n, a1, t1, e1, g1, g2, g3⟩ := stroke_ok (t := t) (n := (k : Int)) ha hm (by omega)
    obtain ⟨n, rfl⟩ := Int.eq_ofNat_of_zero_le g1
    have hn : n ≤ k := by omega
    have hl : (out ++ [(k : Int)]).length = k + 1 := by simp [h1]
    have hnd : (out ++ [(k : Int)]).Nodup := by
      rw [List.nodup_append]
      refine ⟨h2, by simp, fun x hx y hy he => ?_⟩
      rw [List.mem_singleton] at hy
      have := h3 x hx
      omega
    have hmem : ∀ x ∈ out ++ [(k : Int)], 0 ≤ x ∧ x < ((k + 1 : Nat) : Int) := fun x hx => by
      rcases List.mem_append.1 hx with h | h
      · have := h3 x h; omega
      · rw [List.mem_singleton] at h; omega
    have hO : Ord (k + 1) (((out ++ [(k : Int)]).set n ((out ++ [(k : Int)]).getD k 0)).set k ((out ++ [(k : Int)]).getD n 0)) :=
      ⟨by simp [h1], swap_nodup (by omega) (by omega) hnd, fun x hx => hmem x (swap_mem (by omega) (by omega) hx)⟩
    obtain ⟨r, a2, t2, q1, q2, q3⟩ := rung_l1 hm fu (k + 1) a1 t1 _ g3 hO (by omega)
    refine ⟨r, a2, t2, ?_, by rw [show k + (fu + 1) = k + 1 + fu by omega]; exact q2, q3⟩
    unfold oyezkit_Bell_Rung_l1
    rw [e1, b3_some, ap_t (by omega), ixI _ (by omega), ixI _ (by omega), bvE, Int.toNat_natCast, ixI _ (by rw [List.length_set]; omega), bvE, Int.toNat_natCast, show (k : Int) + 1 = ((k + 1 : Nat) : Int) by omega]
    exact q1
theorem rung_ok (hm : (metal.length : Int) ≤ 9223372036854775807) {a t : Int} (ha : 0 ≤ a ∧ a ≤ metal.length) {n : Nat} (hn : n ≤ 1000) : ∃ r a' t', oyezkit_Bell_Rung metal a t (n : Int) = some (r, a', t') ∧ Ord n r ∧ BellA metal a' := by
  obtain ⟨r, a', t', h1, h2, h3⟩ := rung_l1 hm n 0 a t [] ha ⟨rfl, List.nodup_nil, fun _ h => nomatch h⟩ (by omega)
  rw [Nat.zero_add] at h2
  refine ⟨r, a', t', ?_, h2, h3⟩
  have e : (if (n : Int) > 0 then (n : Int) else 0) = (n : Int) := by split <;> omega
  have h1' : oyezkit_Bell_Rung_l1 metal n 0 a t [] = some (r, a', t') := h1
  unfold oyezkit_Bell_Rung
  rw [e, gd_t ⟨r64_small (by omega), r64_small (by omega)⟩, show Int.toNat ((n : Int) - 0) = n by omega, h1', b3_some]
end
theorem in_eq (n lo hi : Int) : book_in n lo hi = some (decide (lo ≤ n ∧ n ≤ hi)) := by
  unfold book_in
  by_cases h : lo ≤ n
  · rw [if_pos h]; simp [h]
  · rw [if_neg h]; simp [h]
theorem index_l2 (v : Int) : ∀ (l : List Int) (k : Int), 0 ≤ k → ∃ n, slices_Index_int_int_l2 v l k = some n ∧ (0 ≤ n ↔ v ∈ l)
  | [], k, _ => ⟨-1, rfl, by simp⟩
  | x :: l, k, hk => by
    unfold slices_Index_int_int_l2
    by_cases h : v = x
    · exact ⟨k, if_pos h, by simp [h, hk]⟩
    · obtain ⟨n, h1, h2⟩ := index_l2 v l (k + 1) (by omega)
      exact ⟨n, by rw [if_neg h]; exact h1, by rw [h2]; simp [h]⟩
theorem contains_eq (l : List Int) (v : Int) : slices_Contains_int_int l v = some (decide (v ∈ l)) := by
  unfold slices_Contains_int_int slices_Index_int_int
  obtain ⟨n, h1, h2⟩ := index_l2 v l 0 (Int.le_refl _)
  rw [h1, b1_some]
  exact cont_dec h2
theorem idx_int_int_l2 {f : Int → Option Bool} {g : Int → Bool} : ∀ (l : List (Int)) (k : Int), 0 ≤ k → (∀ x ∈ l, f x = some (g x)) → ∃ n, slices_IndexFunc_int_int__l2 f l k = some n ∧ (0 ≤ n ↔ l.any g = true)
  | [], k, _, _ => ⟨-1, rfl, by simp⟩
  | x :: l, k, hk, h => by
    unfold slices_IndexFunc_int_int__l2
    rw [h x (by simp), b1_some]
    by_cases hx : g x = true
    · exact ⟨k, by rw [if_pos hx], by simp [hx, hk]⟩
    · obtain ⟨n, h1, h2⟩ := idx_int_int_l2 l (k + 1) (by omega) (fun y hy => h y (by simp [hy]))
      exact ⟨n, by rw [if_neg hx]; exact h1, by rw [h2]; simp [hx]⟩
theorem idx_int_int {f : Int → Option Bool} {g : Int → Bool} {l : List (Int)} (h : ∀ x ∈ l, f x = some (g x)) : slices_ContainsFunc_int_int_ l f = some (l.any g) := by
  unfold slices_ContainsFunc_int_int_ slices_IndexFunc_int_int_
  obtain ⟨n, h1, h2⟩ := idx_int_int_l2 l 0 (Int.le_refl _) h
  rw [h1, b1_some, cont_dec h2, Bool.decide_eq_true]
theorem idx_int_int__l2 {f : List (List Int) → Option Bool} {g : List (List Int) → Bool} : ∀ (l : List (List (List Int))) (k : Int), 0 ≤ k → (∀ x ∈ l, f x = some (g x)) → ∃ n, slices_IndexFunc_int_int___l2 f l k = some n ∧ (0 ≤ n ↔ l.any g = true)
  | [], k, _, _ => ⟨-1, rfl, by simp⟩
  | x :: l, k, hk, h => by
    unfold slices_IndexFunc_int_int___l2
    rw [h x (by simp), b1_some]
    by_cases hx : g x = true
    · exact ⟨k, by rw [if_pos hx], by simp [hx, hk]⟩
    · obtain ⟨n, h1, h2⟩ := idx_int_int__l2 l (k + 1) (by omega) (fun y hy => h y (by simp [hy]))
      exact ⟨n, by rw [if_neg hx]; exact h1, by rw [h2]; simp [hx]⟩
theorem idx_int_int_ {f : List (List Int) → Option Bool} {g : List (List Int) → Bool} {l : List (List (List Int))} (h : ∀ x ∈ l, f x = some (g x)) : slices_ContainsFunc_int_int__ l f = some (l.any g) := by
  unfold slices_ContainsFunc_int_int__ slices_IndexFunc_int_int__
  obtain ⟨n, h1, h2⟩ := idx_int_int__l2 l 0 (Int.le_refl _) h
  rw [h1, b1_some, cont_dec h2, Bool.decide_eq_true]
theorem every_eq {f : Int → Option Bool} {g : Int → Bool} {l : List Int} (h : ∀ x ∈ l, f x = some (g x)) : book_every_int l f = some (l.all g) := by
  unfold book_every_int
  rw [idx_int_int (g := fun x => !g x) (fun x hx => by unfold book_every_int_1; rw [h x hx, b1_some]), b1_some]
  simp [List.all_eq_not_any_not]
theorem every_eq_ {f : List (List Int) → Option Bool} {g : List (List Int) → Bool} {l : List (List (List Int))} (h : ∀ x ∈ l, f x = some (g x)) : book_every_int_ l f = some (l.all g) := by
  unfold book_every_int_
  rw [idx_int_int_ (g := fun x => !g x) (fun x hx => by unfold book_every_int_1_; rw [h x hx, b1_some]), b1_some]
  simp [List.all_eq_not_any_not]
theorem idx_cry_l2 {f : (Int × Int × Int) → Option Bool} {g : (Int × Int × Int) → Bool} : ∀ (l : List (Int × Int × Int)) (k : Int), 0 ≤ k → (∀ x ∈ l, f x = some (g x)) → ∃ n, slices_IndexFunc_book_Cry_book_Cry_l2 f l k = some n ∧ (0 ≤ n ↔ l.any g = true)
  | [], k, _, _ => ⟨-1, rfl, by simp⟩
  | x :: l, k, hk, h => by
    unfold slices_IndexFunc_book_Cry_book_Cry_l2
    rw [show (x.1, x.2.1, x.2.2) = x from rfl, h x (by simp), b1_some]
    by_cases hx : g x = true
    · exact ⟨k, by rw [if_pos hx], by simp [hx, hk]⟩
    · obtain ⟨n, h1, h2⟩ := idx_cry_l2 l (k + 1) (by omega) (fun y hy => h y (by simp [hy]))
      exact ⟨n, by rw [if_neg hx]; exact h1, by rw [h2]; simp [hx]⟩
theorem idx_cry {f : (Int × Int × Int) → Option Bool} {g : (Int × Int × Int) → Bool} {l : List (Int × Int × Int)} (h : ∀ x ∈ l, f x = some (g x)) : slices_ContainsFunc_book_Cry_book_Cry l f = some (l.any g) := by
  unfold slices_ContainsFunc_book_Cry_book_Cry slices_IndexFunc_book_Cry_book_Cry
  obtain ⟨n, h1, h2⟩ := idx_cry_l2 l 0 (Int.le_refl _) h
  rw [h1, b1_some, cont_dec h2, Bool.decide_eq_true]
theorem every_cry {f : (Int × Int × Int) → Option Bool} {g : (Int × Int × Int) → Bool} {l : List (Int × Int × Int)} (h : ∀ x ∈ l, f x = some (g x)) : book_every_Cry l f = some (l.all g) := by
  unfold book_every_Cry
  rw [idx_cry (g := fun x => !g x) (fun x hx => by unfold book_every_Cry_1; rw [show (x.1, x.2.1, x.2.2) = x from rfl, h x hx, b1_some]), b1_some]
  simp [List.all_eq_not_any_not]
theorem idx_end_l2 {f : (List Bool × List Int) → Option Bool} {g : (List Bool × List Int) → Bool} : ∀ (l : List (List Bool × List Int)) (k : Int), 0 ≤ k → (∀ x ∈ l, f x = some (g x)) → ∃ n, slices_IndexFunc_book_ending_book_ending_l2 f l k = some n ∧ (0 ≤ n ↔ l.any g = true)
  | [], k, _, _ => ⟨-1, rfl, by simp⟩
  | x :: l, k, hk, h => by
    unfold slices_IndexFunc_book_ending_book_ending_l2
    rw [show (x.1, x.2) = x from rfl, h x (by simp), b1_some]
    by_cases hx : g x = true
    · exact ⟨k, by rw [if_pos hx], by simp [hx, hk]⟩
    · obtain ⟨n, h1, h2⟩ := idx_end_l2 l (k + 1) (by omega) (fun y hy => h y (by simp [hy]))
      exact ⟨n, by rw [if_neg hx]; exact h1, by rw [h2]; simp [hx]⟩
theorem idx_end {f : (List Bool × List Int) → Option Bool} {g : (List Bool × List Int) → Bool} {l : List (List Bool × List Int)} (h : ∀ x ∈ l, f x = some (g x)) : slices_ContainsFunc_book_ending_book_ending l f = some (l.any g) := by
  unfold slices_ContainsFunc_book_ending_book_ending slices_IndexFunc_book_ending_book_ending
  obtain ⟨n, h1, h2⟩ := idx_end_l2 l 0 (Int.le_refl _) h
  rw [h1, b1_some, cont_dec h2, Bool.decide_eq_true]
theorem clone_eq {l : List Int} (h : l.length ≤ 1000000) : slices_Clone_int_int l = some l := by
  unfold slices_Clone_int_int nilIf
  by_cases e : l = []
  · subst e
    rw [if_pos rfl, ap_t (by simp)]; rfl
  · rw [if_neg e, ap_t (by simpa using by omega)]; rfl
theorem sl_take {α : Type} (l : List α) (n : Int) : sl l 0 n = l.take n.toNat := by unfold sl; simp
structure BOK (n n2 : Int) (hs : List (List (List Int))) (rs : List Int) (cs : List (Int × Int × Int)) : Prop where
  hn : 1 ≤ n ∧ n ≤ 6
  hn2 : 1 ≤ n2 ∧ n2 ≤ 4
  hh : 1 ≤ hs.length ∧ hs.length ≤ 4
  hr : 1 ≤ rs.length ∧ rs.length ≤ 8
  hc : cs.length ≤ 12
  h8 : ∀ w ∈ hs, w.length = 8
  hl : ∀ w ∈ hs, ∀ l ∈ w, l.Nodup ∧ ∀ x ∈ l, 0 ≤ x ∧ x < n
  rr : ∀ r ∈ rs, -1 ≤ r ∧ r ≤ 7
  cc : ∀ c ∈ cs, (0 ≤ c.1 ∧ c.1 < (rs.length : Int)) ∧ (0 ≤ c.2.1 ∧ c.2.1 < (hs.length : Int)) ∧ (0 ≤ c.2.2 ∧ c.2.2 < n2)
section
variable {n n2 : Int} {hs : List (List (List Int))} {rs : List Int} {cs : List (Int × Int × Int)}
theorem house_eq (h : BOK n n2 hs rs cs) (x : Int) : book_Book_house n n2 hs rs cs x = some (decide (0 ≤ x ∧ x < n)) := by
  unfold book_Book_house
  have := h.hn
  rw [gd_t (r64_small (by omega)), in_eq, b1_some]
  congr 1; exact decide_eq_decide.2 (by omega)
theorem notice_eq (h : BOK n n2 hs rs cs) (x : Int) : book_Book_notice n n2 hs rs cs x = some (decide (0 ≤ x ∧ x < n2)) := by
  unfold book_Book_notice
  have := h.hn2
  rw [gd_t (r64_small (by omega)), in_eq, b1_some]
  congr 1; exact decide_eq_decide.2 (by omega)
theorem hour_eq (h : BOK n n2 hs rs cs) (x : Int) : book_Book_hour n n2 hs rs cs x = some (decide (0 ≤ x ∧ x < (rs.length : Int))) := by
  unfold book_Book_hour
  have := h.hr
  rw [gd_t (r64_small (by omega)), in_eq, b1_some]
  congr 1; exact decide_eq_decide.2 (by omega)
theorem listed_l2 (h : BOK n n2 hs rs cs) {l : List Int} (hd : l.Nodup) (hx : ∀ x ∈ l, 0 ≤ x ∧ x < n) (hl : l.length ≤ 1000000) : ∀ (tl : List Int) (k : Nat), l.drop k = tl → book_Book_listed_l2 n n2 hs rs cs l tl (k : Int) = some 0
  | [], _, _ => rfl
  | x :: tl, k, he => by
    obtain ⟨hk, h1, h2⟩ := drop_cons 0 he
    have hm : x ∈ l := by rw [← h1]; exact getD_mem hk
    unfold book_Book_listed_l2
    have hno : x ∉ l.take k := fun hm2 => by
      rw [← List.take_append_drop k l, he, List.nodup_append] at hd
      exact hd.2.2 x hm2 x (List.mem_cons_self ..) rfl
    rw [house_eq h, b1_some, decide_eq_true (hx x hm), if_neg (by decide), gd_t ⟨⟨by omega, by omega⟩, by omega⟩, bvE, sl_take, Int.toNat_natCast, contains_eq, b1_some, decide_eq_false hno, if_neg (by decide), show (k : Int) + 1 = ((k + 1 : Nat) : Int) by omega]
    exact listed_l2 h hd hx hl tl (k + 1) h2
theorem nodup_len {l : List Int} {n : Int} (h : l.Nodup) (hx : ∀ x ∈ l, 0 ≤ x ∧ x < n) : (l.length : Int) ≤ max n 0 := by
  have key : ∀ (m : Nat) (l : List Int), l.Nodup → (∀ x ∈ l, 0 ≤ x ∧ x < (m : Int)) → l.length ≤ m := fun m => by
    induction m with
    | zero => intro l _ hx; cases l with
      | nil => simp
      | cons a l => have := hx a (by simp); omega
    | succ m ih =>
      intro l hd hx
      have h1 := ih (l.filter (· ≠ (m : Int))) (hd.filter _) (fun x hm => by
        rw [List.mem_filter] at hm
        have h2 := hx x hm.1
        have h3 : x ≠ (m : Int) := by simpa using hm.2
        omega)
      have h2 : l.length ≤ (l.filter (· ≠ (m : Int))).length + 1 := by
        have h3 : l.length = (l.filter (· ≠ (m : Int))).length + (l.filter (fun a => decide ¬decide (a ≠ (m : Int)) = true)).length := by
          rw [← List.countP_eq_length_filter, ← List.countP_eq_length_filter]
          exact List.length_eq_countP_add_countP _
        have h4 : (l.filter (fun a => decide ¬decide (a ≠ (m : Int)) = true)).length ≤ 1 := by
          have h5 : (l.filter (fun a => decide ¬decide (a ≠ (m : Int)) = true)).Nodup := hd.filter _
          have h6 : ∀ x ∈ l.filter (fun a => decide ¬decide (a ≠ (m : Int)) = true), x = (m : Int) := fun x hx => by simpa using (List.mem_filter.1 hx).2
          generalize l.filter (fun a => decide ¬decide (a ≠ (m : Int)) = true) = q at h5 h6
          match q with
          | [] => simp
          | [_] => simp
          | a :: b :: q =>
            have ha := h6 a (by simp); have hb := h6 b (by simp)
            rw [List.nodup_cons] at h5
            exact absurd (by rw [ha, hb]; simp) h5.1
        omega
      omega
  have := key n.toNat l h (fun x hm => by have := hx x hm; omega)
  omega
theorem listed_eq (h : BOK n n2 hs rs cs) {l : List Int} (hd : l.Nodup) (hx : ∀ x ∈ l, 0 ≤ x ∧ x < n) : book_Book_listed n n2 hs rs cs l = some 0 := by
  have := nodup_len hd hx
  have := h.hn
  exact listed_l2 h hd hx (by omega) l 0 rfl
theorem check_l4 (h : BOK n n2 hs rs cs) {rec2 : Option Int} : ∀ (w : List (List Int)), (∀ l ∈ w, l.Nodup ∧ ∀ x ∈ l, 0 ≤ x ∧ x < n) → book_Check_l4 n n2 hs rs cs rec2 w = rec2
  | [], _ => rfl
  | l :: w, hw => by
    unfold book_Check_l4
    have h1 := hw l (by simp)
    rw [listed_eq h h1.1 h1.2, b1_some, if_neg (by decide)]
    exact check_l4 h w fun l hl => hw l (by simp [hl])
theorem read_eq (x : Int) : book_read x = some (decide (-1 ≤ x ∧ x ≤ 7)) := by
  unfold book_read
  by_cases e : x = -1
  · rw [if_pos e, e]; rfl
  · rw [if_neg e, in_eq, b1_some]; congr 1; exact decide_eq_decide.2 (by omega)
theorem check_l2 (h : BOK n n2 hs rs cs) : ∀ (l : List (List (List Int))), (∀ w ∈ l, ∀ l ∈ w, l.Nodup ∧ ∀ x ∈ l, 0 ≤ x ∧ x < n) → book_Check_l2 n n2 hs rs cs l = some 0
  | [], _ => by
    unfold book_Check_l2 book_Check_j1
    rw [every_eq (g := fun x => decide (-1 ≤ x ∧ x ≤ 7)) (fun x _ => read_eq x), b1_some]
    have h1 : rs.all (fun x => decide (-1 ≤ x ∧ x ≤ 7)) = true := by
      rw [List.all_eq_true]; exact fun x hx => decide_eq_true (h.rr x hx)
    rw [h1, if_neg (by decide), every_cry (g := fun _ => true) (fun c hc => ?_), b1_some]
    · rw [show cs.all (fun _ => true) = true by rw [List.all_eq_true]; exact fun _ _ => rfl, if_neg (by decide)]
    · obtain ⟨h1, h2, h3⟩ := h.cc c hc
      have := h.hh
      unfold book_Check_1
      rw [hour_eq h, b1_some, decide_eq_true h1, if_pos rfl, gd_t (r64_small (by omega)), in_eq, b1_some, decide_eq_true (by omega), if_pos rfl, notice_eq h, b1_some, decide_eq_true h3]
  | w :: l, hw => by
    unfold book_Check_l2
    rw [check_l4 h w (hw w (by simp))]
    exact check_l2 h l fun w hm => hw w (by simp [hm])
theorem Check_eq (h : BOK n n2 hs rs cs) : book_Check n n2 hs rs cs = some 0 := by
  unfold book_Check book_Book_counted
  have h1 := h.hn; have h2 := h.hn2; have h3 := h.hh; have h4 := h.hr; have h5 := h.hc
  rw [in_eq, b1_some, decide_eq_true h1, if_pos rfl, in_eq, b1_some, decide_eq_true h2, if_pos rfl, in_eq, b1_some, decide_eq_true (by omega), if_pos rfl, in_eq, b1_some, decide_eq_true (by omega), if_pos rfl, if_pos (by omega), every_eq_ (g := fun _ => true) (fun w hw => ?_), b1_some, b1_some]
  · rw [show hs.all (fun _ => true) = true by rw [List.all_eq_true]; exact fun _ _ => rfl, if_neg (by decide)]
    exact check_l2 h hs h.hl
  · unfold book_Book_counted_1
    rw [h.h8 w hw]; rfl
theorem opened_eq (h : BOK n n2 hs rs cs) : book_opened n n2 hs rs cs = some (some (n, n2, hs, rs, cs), 0) := by
  unfold book_opened
  rw [Check_eq h, b1_some, if_neg (by decide)]
end
def nearB (a b : Int) : Bool := decide (a = b ∨ a = b + 1 ∨ b = a + 1 ∨ (a = 0 ∧ b = 7) ∨ (a = 7 ∧ b = 0))
def W8 : List Int := [0, 1, 2, 3, 4, 5, 6, 7]
theorem mem_W8 {w : Int} : w ∈ W8 ↔ 0 ≤ w ∧ w ≤ 7 := by
  unfold W8; simp only [List.mem_cons, List.not_mem_nil, or_false]; omega
theorem near_all : (W8.all fun a => W8.all fun b => decide (book_near a b = some (nearB a b))) = true := by decide +kernel
theorem near_eq {a b : Int} (ha : 0 ≤ a ∧ a ≤ 7) (hb : 0 ≤ b ∧ b ≤ 7) : book_near a b = some (nearB a b) :=
  of_decide_eq_true (List.all_eq_true.1 (List.all_eq_true.1 near_all a (mem_W8.2 ha)) b (mem_W8.2 hb))
def nearL (w : Int) : List Int := W8.filter fun v => nearB v w
theorem turned_all : (W8.all fun w => decide (book_turned w = some (nearL w))) = true := by decide +kernel
theorem turned_eq {w : Int} (h : 0 ≤ w ∧ w ≤ 7) : book_turned w = some (nearL w) := of_decide_eq_true (List.all_eq_true.1 turned_all w (mem_W8.2 h))
theorem mem_nearL {v w : Int} : v ∈ nearL w ↔ (0 ≤ v ∧ v ≤ 7) ∧ nearB v w = true := by unfold nearL; rw [List.mem_filter, mem_W8]
theorem nearL_len_all : (W8.all fun w => decide ((nearL w).length = 3)) = true := by decide
theorem nearL_len {w : Int} (h : 0 ≤ w ∧ w ≤ 7) : (nearL w).length = 3 := of_decide_eq_true (List.all_eq_true.1 nearL_len_all w (mem_W8.2 h))
def canB (r w : Int) : Bool := decide (r = -1) || nearB w r
theorem can_eq {n n2 : Int} {hs : List (List (List Int))} {rs : List Int} {cs : List (Int × Int × Int)} (hr : ∀ r ∈ rs, -1 ≤ r ∧ r ≤ 7) {k w : Int} (h0 : 0 ≤ k) (h1 : k < (rs.length : Int)) (hw : 0 ≤ w ∧ w ≤ 7) : book_Book_can n n2 hs rs cs k w = some (canB (rs.getD k.toNat 0) w) := by
  unfold book_Book_can
  rw [ixD 0 _ h0 h1]
  have hm := hr _ (getD_mem (d := 0) (show k.toNat < rs.length by omega))
  generalize rs.getD k.toNat 0 = r at hm
  unfold canB
  by_cases e : r = -1
  · rw [if_pos e]; simp [e]
  · rw [if_neg e, near_eq hw (by omega), b1_some]; simp [e]
end Go.Proofs.YtggpjocmoelpbaaGreat.Bk
namespace Go.Proofs.YtggpjocmoelpbaaGreat.Bk
open Go.PL
def FitF : Option Int → List Int → List Int → Prop
  | _, [], [] => True
  | p, r :: rs, w :: c => (0 ≤ w ∧ w ≤ 7) ∧ canB r w = true ∧ (∀ v, p = some v → nearB w v = true) ∧ FitF (some w) rs c
  | _, _, _ => False
def lstO : Option Int → List Int → Option Int
  | p, [] => p
  | _, w :: c => lstO (some w) c
theorem FitF.len : ∀ {p : Option Int} {rs c : List Int}, FitF p rs c → c.length = rs.length
  | _, [], [], _ => rfl
  | _, _ :: _, _ :: _, h => by rw [List.length_cons, List.length_cons, FitF.len h.2.2.2]
  | _, [], _ :: _, h => h.elim
  | _, _ :: _, [], h => h.elim
theorem FitF.rng : ∀ {p : Option Int} {rs c : List Int}, FitF p rs c → ∀ w ∈ c, 0 ≤ w ∧ w ≤ 7
  | _, [], [], _ => fun _ h => nomatch h
  | _, _ :: _, w :: c, h => fun x hx => by
    rcases List.mem_cons.1 hx with rfl | hx
    · exact h.1
    · exact FitF.rng h.2.2.2 x hx
  | _, [], _ :: _, h => h.elim
  | _, _ :: _, [], h => h.elim
theorem FitF.snoc {r w : Int} (h1 : 0 ≤ w ∧ w ≤ 7) (h2 : canB r w = true) : ∀ {p : Option Int} {rs c : List Int}, FitF p rs c → (∀ v, lstO p c = some v → nearB w v = true) → FitF p (rs ++ [r]) (c ++ [w])
  | _, [], [], _, h3 => ⟨h1, h2, h3, trivial⟩
  | _, _ :: _, _ :: _, h, h3 => ⟨h.1, h.2.1, h.2.2.1, FitF.snoc h1 h2 h.2.2.2 h3⟩
  | _, [], _ :: _, h, _ => h.elim
  | _, _ :: _, [], h, _ => h.elim
theorem FitF.unsnoc {r : Int} : ∀ {p : Option Int} {rs c : List Int}, FitF p (rs ++ [r]) c → ∃ c' w, c = c' ++ [w] ∧ FitF p rs c' ∧ (0 ≤ w ∧ w ≤ 7) ∧ canB r w = true ∧ ∀ v, lstO p c' = some v → nearB w v = true
  | _, [], w :: c, h => by
    obtain ⟨h1, h2, h3, h4⟩ := h
    cases c with
    | nil => exact ⟨[], w, rfl, trivial, h1, h2, h3⟩
    | cons a c => exact h4.elim
  | _, [], [], h => h.elim
  | _, _ :: rs, w :: c, h => by
    obtain ⟨h1, h2, h3, h4⟩ := h
    obtain ⟨c', x, rfl, g1, g2, g3, g4⟩ := FitF.unsnoc h4
    exact ⟨w :: c', x, rfl, ⟨h1, h2, h3, g1⟩, g2, g3, g4⟩
  | _, _ :: _, [], h => h.elim
theorem lstO_snoc (w : Int) : ∀ (p : Option Int) (c : List Int), lstO p (c ++ [w]) = some w
  | _, [] => rfl
  | _, a :: c => lstO_snoc w (some a) c
def cell (hs : List (List (List Int))) (s w : Int) : List Int := (hs.getD s.toNat []).getD w.toNat []
def setG (k : Int) (l : List Int) (g : List Bool) : List Bool := l.foldl (fun g h => g.set (h * 4 + k).toNat true) g
def hearF (hs : List (List (List Int))) (cs : List (Int × Int × Int)) (g : List Bool) (hour wind : Int) : List Bool := cs.foldl (fun g c => if c.1 = hour then setG c.2.2 (cell hs c.2.1 wind) g else g) g
theorem setG_len (k : Int) : ∀ (l : List Int) (g : List Bool), (setG k l g).length = g.length
  | [], _ => rfl
  | a :: l, g => by
    show (setG k l (g.set (a * 4 + k).toNat true)).length = g.length
    rw [setG_len k l, List.length_set]
theorem setG_get {k h q : Int} (hk : 0 ≤ k ∧ k < 4) (hq : 0 ≤ q ∧ q < 4) (hh : 0 ≤ h ∧ h < 6) : ∀ (l : List Int) (g : List Bool), (∀ x ∈ l, 0 ≤ x ∧ x < 6) → g.length = 24 → (setG k l g).getD (h * 4 + q).toNat false = (g.getD (h * 4 + q).toNat false || (decide (k = q) && decide (h ∈ l)))
  | [], _, _, _ => by simp [setG]
  | a :: l, g, hl, hg => by
    have ha := hl a (by simp)
    show (setG k l (g.set (a * 4 + k).toNat true)).getD (h * 4 + q).toNat false = _
    rw [setG_get hk hq hh l _ (fun x hx => hl x (by simp [hx])) (by rw [List.length_set]; exact hg), getD_setI (by omega)]
    by_cases e : (a * 4 + k).toNat = (h * 4 + q).toNat
    · have e1 : a = h := by omega
      have e2 : k = q := by omega
      rw [if_pos e, e1, e2]; simp
    · rw [if_neg e]
      by_cases e2 : k = q
      · have e3 : ¬ h = a := by omega
        simp [e2, e3]
      · simp [e2]
section
variable {n n2 : Int} {hs : List (List (List Int))} {rs : List Int} {cs : List (Int × Int × Int)}
theorem hear_l2 (x : Int × Int × Int) (hx : 0 ≤ x.2.2 ∧ x.2.2 < 4) : ∀ (l : List Int) (g : List Bool), (∀ y ∈ l, 0 ≤ y ∧ y < 6) → g.length = 24 → book_desk_hear_l2 x l g = some (setG x.2.2 l g)
  | [], _, _, _ => rfl
  | a :: l, g, hl, hg => by
    have ha := hl a (by simp)
    unfold book_desk_hear_l2
    rw [gd_t ha, gd_t hx, ixD false _ (by omega) (by omega), bvE]
    exact hear_l2 x hx l _ (fun y hy => hl y (by simp [hy])) (by rw [List.length_set]; exact hg)
theorem cell_mem (h : BOK n n2 hs rs cs) {s w : Int} (h0 : 0 ≤ s ∧ s < (hs.length : Int)) (hw : 0 ≤ w ∧ w ≤ 7) : (hs.getD s.toNat []) ∈ hs ∧ (hs.getD s.toNat []).length = 8 ∧ cell hs s w ∈ hs.getD s.toNat [] := by
  have h1 : hs.getD s.toNat [] ∈ hs := getD_mem (by omega)
  have h2 := h.h8 _ h1
  exact ⟨h1, h2, getD_mem (by omega)⟩
theorem cell_rng (h : BOK n n2 hs rs cs) {s w : Int} (h0 : 0 ≤ s ∧ s < (hs.length : Int)) (hw : 0 ≤ w ∧ w ≤ 7) : (cell hs s w).Nodup ∧ ∀ x ∈ cell hs s w, 0 ≤ x ∧ x < n := by
  obtain ⟨h1, _, h3⟩ := cell_mem h h0 hw
  exact h.hl _ h1 _ h3
theorem hear_l1 (h : BOK n n2 hs rs cs) (hour : Int) {wind : Int} (hw : 0 ≤ wind ∧ wind ≤ 7) : ∀ (l : List (Int × Int × Int)) (g : List Bool), (∀ c ∈ l, c ∈ cs) → g.length = 24 → book_desk_hear_l1 hs hour wind l g = some (hearF hs l g hour wind) ∧ (hearF hs l g hour wind).length = 24
  | [], _, _, hg => ⟨rfl, hg⟩
  | c :: l, g, hl, hg => by
    have hc := h.cc c (hl c (by simp))
    have h2 := h.hn2; have h1 := h.hn
    have e : hearF hs (c :: l) g hour wind = hearF hs l (if c.1 = hour then setG c.2.2 (cell hs c.2.1 wind) g else g) hour wind := rfl
    unfold book_desk_hear_l1
    by_cases e1 : c.1 = hour
    · obtain ⟨g1, g2, g3⟩ := cell_mem h hc.2.1 hw
      rw [e, if_pos e1, if_neg (by simp [e1]), ixD [] _ hc.2.1.1 hc.2.1.2, ixD [] _ hw.1 (by omega), hear_l2 c (by omega) _ g (fun y hy => by have := (cell_rng h hc.2.1 hw).2 y hy; omega) hg, b1_some]
      exact hear_l1 h hour hw l _ (fun x hx => hl x (by simp [hx])) (by rw [setG_len]; exact hg)
    · rw [e, if_neg e1, if_pos (by simpa using e1), b1_some]
      exact hear_l1 h hour hw l _ (fun x hx => hl x (by simp [hx])) hg
theorem hear_eq (h : BOK n n2 hs rs cs) (hour : Int) {wind : Int} (hw : 0 ≤ wind ∧ wind ≤ 7) {g : List Bool} (hg : g.length = 24) : book_desk_hear n n2 hs rs cs g hour wind = some (hearF hs cs g hour wind) ∧ (hearF hs cs g hour wind).length = 24 := by
  obtain ⟨h1, h2⟩ := hear_l1 h hour hw cs g (fun _ h => h) hg
  refine ⟨?_, h2⟩
  unfold book_desk_hear
  rw [h1, b1_some]
theorem hearF_get (h : BOK n n2 hs rs cs) (hour : Int) {wind x q : Int} (hw : 0 ≤ wind ∧ wind ≤ 7) (hx : 0 ≤ x ∧ x < 6) (hq : 0 ≤ q ∧ q < 4) : ∀ (l : List (Int × Int × Int)) (g : List Bool), (∀ c ∈ l, c ∈ cs) → g.length = 24 →
    (hearF hs l g hour wind).getD (x * 4 + q).toNat false = (g.getD (x * 4 + q).toNat false || l.any fun c => decide (c.1 = hour) && (decide (c.2.2 = q) && decide (x ∈ cell hs c.2.1 wind)))
  | [], _, _, _ => by simp [hearF]
  | c :: l, g, hl, hg => by
    have hc := h.cc c (hl c (by simp))
    have h2 := h.hn2; have h1 := h.hn
    have e : hearF hs (c :: l) g hour wind = hearF hs l (if c.1 = hour then setG c.2.2 (cell hs c.2.1 wind) g else g) hour wind := rfl
    rw [e]
    by_cases e1 : c.1 = hour
    · rw [if_pos e1, hearF_get h hour hw hx hq l _ (fun x hx => hl x (by simp [hx])) (by rw [setG_len]; exact hg), setG_get (by omega) hq hx _ _ (fun y hy => by have := (cell_rng h hc.2.1 hw).2 y hy; omega) hg]
      simp [e1, Bool.or_assoc]
    · rw [if_neg e1, hearF_get h hour hw hx hq l _ (fun x hx => hl x (by simp [hx])) hg]
      simp [e1]
def alongF (hs : List (List (List Int))) (cs : List (Int × Int × Int)) : Int → List Int → List Bool → List Bool
  | _, [], g => g
  | k, w :: c, g => alongF hs cs (k + 1) c (hearF hs cs g k w)
def zeroG : List Bool := List.replicate 24 false
theorem alongF_snoc (w : Int) : ∀ (c : List Int) (k : Int) (g : List Bool), alongF hs cs k (c ++ [w]) g = hearF hs cs (alongF hs cs k c g) (k + c.length) w
  | [], k, g => by simp [alongF]
  | a :: c, k, g => by
    show alongF hs cs (k + 1) (c ++ [w]) _ = hearF hs cs (alongF hs cs (k + 1) c _) _ w
    rw [alongF_snoc w c (k + 1), List.length_cons, show k + 1 + (c.length : Int) = k + ((c.length + 1 : Nat) : Int) by omega]
theorem alongF_len (h : BOK n n2 hs rs cs) : ∀ (c : List Int) (k : Int) (g : List Bool), (∀ w ∈ c, 0 ≤ w ∧ w ≤ 7) → g.length = 24 → (alongF hs cs k c g).length = 24
  | [], _, _, _, hg => hg
  | w :: c, k, g, hc, hg => alongF_len h c (k + 1) _ (fun x hx => hc x (by simp [hx])) (hear_eq h k (hc w (by simp)) hg).2
def heardB (hs : List (List (List Int))) (cs : List (Int × Int × Int)) (c : List Int) (h q : Int) : Bool := cs.any fun x => decide (x.2.2 = q) && decide (h ∈ cell hs x.2.1 (c.getD x.1.toNat 0))
theorem any_or {α : Type} (p q : α → Bool) : ∀ l : List α, (l.any p || l.any q) = l.any fun x => p x || q x
  | [] => rfl
  | a :: l => by
    simp only [List.any_cons]
    rw [← any_or p q l]
    cases p a <;> cases q a <;> cases l.any p <;> rfl
theorem any_congr {α : Type} {p q : α → Bool} : ∀ {l : List α}, (∀ x ∈ l, p x = q x) → l.any p = l.any q
  | [], _ => rfl
  | a :: l, h => by
    rw [List.any_cons, List.any_cons, h a (by simp), any_congr fun x hx => h x (by simp [hx])]
theorem alongF_get (h : BOK n n2 hs rs cs) {x q : Int} (hx : 0 ≤ x ∧ x < 6) (hq : 0 ≤ q ∧ q < 4) : ∀ (c : List Int) (k : Nat) (g : List Bool), (∀ w ∈ c, 0 ≤ w ∧ w ≤ 7) → g.length = 24 →
    (alongF hs cs (k : Int) c g).getD (x * 4 + q).toNat false = (g.getD (x * 4 + q).toNat false || cs.any fun y => (decide ((k : Int) ≤ y.1) && decide (y.1 < (k : Int) + c.length)) && (decide (y.2.2 = q) && decide (x ∈ cell hs y.2.1 (c.getD (y.1 - k).toNat 0))))
  | [], k, g, _, _ => by
    have e : (cs.any fun y => (decide ((k : Int) ≤ y.1) && decide (y.1 < (k : Int) + (([] : List Int).length : Int))) && (decide (y.2.2 = q) && decide (x ∈ cell hs y.2.1 (([] : List Int).getD (y.1 - k).toNat 0)))) = false := by
      rw [List.any_eq_false]
      intro y _
      by_cases e : (k : Int) ≤ y.1
      · have : ¬ y.1 < (k : Int) + (([] : List Int).length : Int) := by simpa using e
        simp only [this, decide_false, Bool.and_false, Bool.false_and]; decide
      · simp [e]
    rw [e]; simp [alongF]
  | w :: c, k, g, hc, hg => by
    have hw := hc w (by simp)
    have e : alongF hs cs (k : Int) (w :: c) g = alongF hs cs ((k + 1 : Nat) : Int) c (hearF hs cs g (k : Int) w) := by
      rw [show ((k + 1 : Nat) : Int) = (k : Int) + 1 by omega]; rfl
    rw [e, alongF_get h hx hq c (k + 1) _ (fun x hx => hc x (by simp [hx])) (hear_eq h k hw hg).2, hearF_get h k hw hx hq cs g (fun _ h => h) hg, Bool.or_assoc, any_or]
    congr 1
    refine any_congr fun y _ => ?_
    by_cases e1 : y.1 = (k : Int)
    · have e2 : ¬ ((k + 1 : Nat) : Int) ≤ y.1 := by omega
      have e3 : y.1 < (k : Int) + ((w :: c).length : Int) := by rw [List.length_cons]; omega
      have e4 : (y.1 - (k : Int)).toNat = 0 := by omega
      have d0 : decide (y.1 = (k : Int)) = true := decide_eq_true e1
      have d1 : decide (((k + 1 : Nat) : Int) ≤ y.1) = false := decide_eq_false e2
      have d2 : decide ((k : Int) ≤ y.1) = true := decide_eq_true (by omega)
      have d3 : decide (y.1 < (k : Int) + ((w :: c).length : Int)) = true := decide_eq_true e3
      rw [d0, d1, d2, d3, e4, List.getD_cons_zero]; simp
    · have d0 : decide (y.1 = (k : Int)) = false := decide_eq_false e1
      by_cases e2 : (k : Int) ≤ y.1
      · have e3 : ((k + 1 : Nat) : Int) ≤ y.1 := by omega
        have e4 : (y.1 - (k : Int)).toNat = (y.1 - ((k + 1 : Nat) : Int)).toNat + 1 := by omega
        have d1 : decide (((k + 1 : Nat) : Int) ≤ y.1) = true := decide_eq_true e3
        have d2 : decide ((k : Int) ≤ y.1) = true := decide_eq_true e2
        have d3 : decide (y.1 < ((k + 1 : Nat) : Int) + (c.length : Int)) = decide (y.1 < (k : Int) + ((w :: c).length : Int)) := decide_eq_decide.2 (by rw [List.length_cons]; omega)
        rw [e4, List.getD_cons_succ, d0, d1, d2, d3]; simp
      · have d1 : decide (((k + 1 : Nat) : Int) ≤ y.1) = false := decide_eq_false (by omega)
        have d2 : decide ((k : Int) ≤ y.1) = false := decide_eq_false e2
        rw [d0, d1, d2]; simp
theorem zero_get (i : Nat) : zeroG.getD i false = false := by
  unfold zeroG
  rw [List.getD_eq_getElem?_getD, List.getElem?_replicate]
  split <;> rfl
theorem along_heard (h : BOK n n2 hs rs cs) {x q : Int} (hx : 0 ≤ x ∧ x < 6) (hq : 0 ≤ q ∧ q < 4) {c : List Int} (hc : ∀ w ∈ c, 0 ≤ w ∧ w ≤ 7) (hl : c.length = rs.length) : (alongF hs cs 0 c zeroG).getD (x * 4 + q).toNat false = heardB hs cs c x q := by
  have := alongF_get h hx hq c 0 zeroG hc (by simp [zeroG])
  rw [show (((0 : Nat) : Int)) = 0 from rfl] at this
  rw [this, zero_get, Bool.false_or]
  unfold heardB
  refine any_congr fun y hy => ?_
  obtain ⟨h1, _⟩ := h.cc y hy
  rw [decide_eq_true h1.1, decide_eq_true (by omega), Bool.true_and, Bool.true_and, Int.sub_zero]
abbrev Pl := Int × List Bool × List Int
def MOK (m : List ((Int × List Bool) × Bool)) (l : List Pl) : Prop := ∀ k, (mget m k).getD false = true ↔ ∃ x ∈ l, (x.1, x.2.1) = k
structure Nxt (S : Pl → Prop) (m : List ((Int × List Bool) × Bool)) (l l' : List Pl) (k : Nat) : Prop where
  ok : MOK m l'
  sub : ∀ x ∈ l, x ∈ l'
  new : ∀ x ∈ l', x ∈ l ∨ S x
  len : l'.length ≤ l.length + k
theorem Nxt.refl {S : Pl → Prop} {m : List ((Int × List Bool) × Bool)} {l : List Pl} (h : MOK m l) : Nxt S m l l 0 := ⟨h, fun _ h => h, fun _ h => .inl h, Nat.le_refl _⟩
theorem Nxt.trans {S : Pl → Prop} {m m2 : List ((Int × List Bool) × Bool)} {l l2 l3 : List Pl} {a b : Nat} (h1 : Nxt S m l l2 a) (h2 : Nxt S m2 l2 l3 b) : Nxt S m2 l l3 (a + b) :=
  ⟨h2.ok, fun x hx => h2.sub x (h1.sub x hx), fun x hx => (h2.new x hx).elim (fun h => h1.new x h) .inr, by have := h1.len; have := h2.len; omega⟩
theorem step_eq (h : BOK n n2 hs rs cs) {k : Nat} (hk : k < rs.length) {w0 : Int} {g : List Bool} (hg : g.length = 24) {c : List Int} (hc : c.length ≤ 100) {w : Int} (hw : 0 ≤ w ∧ w ≤ 7) {m : List ((Int × List Bool) × Bool)} {l : List Pl} (hm : MOK m l) (hl : l.length ≤ 100000) {S : Pl → Prop}
    (hS : canB (rs.getD k 0) w = true → S (w, hearF hs cs g k w, c ++ [w])) :
    ∃ m' l', book_desk_endings_1 w0 g c w (fun xx_ : Int × Int => book_Book_can n n2 hs rs cs xx_.1 xx_.2) (k : Int) n n2 hs rs cs m l = some (m', l') ∧ Nxt S m' l l' 1 ∧ (canB (rs.getD k 0) w = true → ∃ x ∈ l', (x.1, x.2.1) = (w, hearF hs cs g k w)) := by
  unfold book_desk_endings_1
  have e0 : book_Book_can n n2 hs rs cs (k : Int) w = some (canB (rs.getD k 0) w) := by
    rw [can_eq h.rr (by omega) (by omega) hw, Int.toNat_natCast]
  show ∃ m' l', (b1 (book_Book_can n n2 hs rs cs (k : Int) w) fun ok => _) = some (m', l') ∧ _
  rw [e0, b1_some]
  by_cases e : canB (rs.getD k 0) w = true
  · obtain ⟨h1, h2⟩ := hear_eq h (k : Int) hw hg
    rw [e, if_neg (by decide), h1, b1_some, gd_t (r64_small (by omega))]
    by_cases e2 : (mget m (w, hearF hs cs g k w)).getD false = true
    · rw [e2, if_neg (by decide)]
      exact ⟨m, l, rfl, ⟨hm, fun _ h => h, fun _ h => .inl h, by omega⟩, fun _ => (hm _).1 e2⟩
    · rw [if_pos (by simpa using e2), gd_t (r64_small (by omega)), bvE, clone_eq (by omega), b1_some, ap_t (by simp; omega), ap_t (by simp; omega)]
      refine ⟨_, _, rfl, ⟨fun q => ?_, fun x hx => List.mem_append_left _ hx, fun x hx => ?_, by simp⟩, fun _ => ⟨_, List.mem_append_right _ (List.mem_singleton.2 rfl), rfl⟩⟩
      · rw [mget_mput]
        by_cases e3 : (w, hearF hs cs g k w) = q
        · rw [if_pos e3]
          exact ⟨fun _ => ⟨_, List.mem_append_right _ (List.mem_singleton.2 rfl), e3⟩, fun _ => rfl⟩
        · rw [if_neg e3, hm q]
          constructor
          · rintro ⟨x, hx, he⟩; exact ⟨x, List.mem_append_left _ hx, he⟩
          · rintro ⟨x, hx, he⟩
            rcases List.mem_append.1 hx with hx | hx
            · exact ⟨x, hx, he⟩
            · rw [List.mem_singleton] at hx; subst hx; exact absurd he e3
      · rcases List.mem_append.1 hx with hx | hx
        · exact .inl hx
        · rw [List.mem_singleton] at hx; subst hx; exact .inr (hS e)
  · have e' : canB (rs.getD k 0) w = false := by simpa using e
    rw [e', if_pos (by decide)]
    exact ⟨m, l, rfl, ⟨hm, fun _ h => h, fun _ h => .inl h, by omega⟩, fun h => absurd h (by decide)⟩
theorem ends_l2 (h : BOK n n2 hs rs cs) {k : Nat} (hk : k < rs.length) {S : Pl → Prop} : ∀ (fu : Nat) (w : Nat) (l : List Pl) (m : List ((Int × List Bool) × Bool)), w + fu = 8 → MOK m l → l.length + fu ≤ 90000 →
    (∀ v : Int, (w : Int) ≤ v → v ≤ 7 → canB (rs.getD k 0) v = true → S (v, hearF hs cs zeroG k v, [v])) →
    ∃ m' l', book_desk_endings_l2 n n2 hs rs cs (k : Int) fu (w : Int) l m = some (l', m') ∧ Nxt S m' l l' fu ∧ ∀ v : Int, (w : Int) ≤ v → v ≤ 7 → canB (rs.getD k 0) v = true → ∃ x ∈ l', (x.1, x.2.1) = (v, hearF hs cs zeroG k v)
  | 0, w, l, m, hw, hm, _, _ => ⟨m, l, rfl, .refl hm, fun v h1 h2 => by omega⟩
  | fu + 1, w, l, m, hw, hm, hl, hS => by
    obtain ⟨m1, l1, e1, g1, g2⟩ := step_eq (w0 := 0) (g := zeroG) (c := []) h hk (by simp [zeroG]) (by simp) (w := (w : Int)) (by omega) hm (by omega) (S := S) (fun e => hS w (Int.le_refl _) (by omega) e)
    obtain ⟨m2, l2, e2, f1, f2⟩ := ends_l2 h hk (S := S) fu (w + 1) l1 m1 (by omega) g1.ok (by have := g1.len; omega) (fun v h1 h2 => hS v (by omega) h2)
    refine ⟨m2, l2, ?_, ?_, fun v h1 h2 h3 => ?_⟩
    · unfold book_desk_endings_l2
      have e1' : book_desk_endings_1 0 (List.replicate 24 false) [] (w : Int) (fun xx_ : Int × Int => book_Book_can n n2 hs rs cs xx_.1 xx_.2) (k : Int) n n2 hs rs cs m l = some (m1, l1) := e1
      rw [e1', b2_some, show (w : Int) + 1 = ((w + 1 : Nat) : Int) by omega]
      exact e2
    · rw [Nat.add_comm fu 1]; exact g1.trans f1
    · by_cases e : v = (w : Int)
      · subst e
        obtain ⟨x, hx, he⟩ := g2 h3
        exact ⟨x, f1.sub x hx, he⟩
      · exact f2 v (by omega) h2 h3
theorem ends_l4 (h : BOK n n2 hs rs cs) {k : Nat} (hk : k < rs.length) {x3 : Pl} (hg : x3.2.1.length = 24) (hc : x3.2.2.length ≤ 100) {S : Pl → Prop} : ∀ (ws : List Int) (l : List Pl) (m : List ((Int × List Bool) × Bool)), (∀ w ∈ ws, 0 ≤ w ∧ w ≤ 7) → MOK m l → l.length + ws.length ≤ 90000 →
    (∀ v ∈ ws, canB (rs.getD k 0) v = true → S (v, hearF hs cs x3.2.1 k v, x3.2.2 ++ [v])) →
    ∃ m' l', book_desk_endings_l4 n n2 hs rs cs (k : Int) x3 ws l m = some (l', m') ∧ Nxt S m' l l' ws.length ∧ ∀ v ∈ ws, canB (rs.getD k 0) v = true → ∃ x ∈ l', (x.1, x.2.1) = (v, hearF hs cs x3.2.1 k v)
  | [], l, m, _, hm, _, _ => ⟨m, l, rfl, .refl hm, fun v h1 => nomatch h1⟩
  | w :: ws, l, m, hw, hm, hl, hS => by
    rw [List.length_cons] at hl
    obtain ⟨m1, l1, e1, g1, g2⟩ := step_eq (w0 := x3.1) (g := x3.2.1) (c := x3.2.2) h hk hg hc (w := w) (hw w (by simp)) hm (by omega) (S := S) (fun e => hS w (by simp) e)
    obtain ⟨m2, l2, e2, f1, f2⟩ := ends_l4 h hk hg hc (S := S) ws l1 m1 (fun v hv => hw v (by simp [hv])) g1.ok (by have := g1.len; omega) (fun v hv => hS v (by simp [hv]))
    refine ⟨m2, l2, ?_, ?_, fun v h1 h3 => ?_⟩
    · unfold book_desk_endings_l4
      rw [e1, b2_some]; exact e2
    · rw [List.length_cons, Nat.add_comm _ 1]; exact g1.trans f1
    · rcases List.mem_cons.1 h1 with rfl | h1
      · obtain ⟨x, hx, he⟩ := g2 h3
        exact ⟨x, f1.sub x hx, he⟩
      · exact f2 v h1 h3
theorem ends_l3 (h : BOK n n2 hs rs cs) {k : Nat} (hk : k < rs.length) {S : Pl → Prop} : ∀ (now : List Pl) (l : List Pl) (m : List ((Int × List Bool) × Bool)), (∀ y ∈ now, y.2.1.length = 24 ∧ y.2.2.length ≤ 100 ∧ (0 ≤ y.1 ∧ y.1 ≤ 7)) → MOK m l → l.length + 3 * now.length ≤ 90000 →
    (∀ y ∈ now, ∀ v ∈ nearL y.1, canB (rs.getD k 0) v = true → S (v, hearF hs cs y.2.1 k v, y.2.2 ++ [v])) →
    ∃ l', book_desk_endings_l3 n n2 hs rs cs (k : Int) now l m = some l' ∧ (∀ x ∈ l', x ∈ l ∨ S x) ∧ (∀ x ∈ l, x ∈ l') ∧ l'.length ≤ l.length + 3 * now.length ∧ ∀ y ∈ now, ∀ v ∈ nearL y.1, canB (rs.getD k 0) v = true → ∃ x ∈ l', (x.1, x.2.1) = (v, hearF hs cs y.2.1 k v)
  | [], l, m, _, hm, _, _ => ⟨l, rfl, fun _ h => .inl h, fun _ h => h, by simp, fun y h1 => nomatch h1⟩
  | y :: now, l, m, hw, hm, hl, hS => by
    rw [List.length_cons] at hl
    obtain ⟨hy1, hy2, hy3⟩ := hw y (by simp)
    have hn := nearL_len hy3
    obtain ⟨m1, l1, e1, g1, g2⟩ := ends_l4 h hk hy1 hy2 (S := S) (nearL y.1) l m (fun w hw => (mem_nearL.1 hw).1) hm (by omega) (fun v hv => hS y (by simp) v hv)
    have h3 := g1.len
    obtain ⟨l2, e2, f1, f2, f3, f4⟩ := ends_l3 h hk (S := S) now l1 m1 (fun v hv => hw v (by simp [hv])) g1.ok (by omega) (fun v hv => hS v (by simp [hv]))
    refine ⟨l2, ?_, fun x hx => (f1 x hx).elim (fun h => g1.new x h) .inr, fun x hx => f2 x (g1.sub x hx), by rw [List.length_cons]; omega, fun z h1 v h5 h6 => ?_⟩
    · unfold book_desk_endings_l3
      rw [turned_eq hy3, b1_some, e1, b2_some]; exact e2
    · rcases List.mem_cons.1 h1 with rfl | h1
      · obtain ⟨x, hx, he⟩ := g2 v h5 h6
        exact ⟨x, f2 x hx, he⟩
      · exact f4 z h1 v h5 h6
structure Now (hs : List (List (List Int))) (cs : List (Int × Int × Int)) (pre : List Int) (now : List Pl) : Prop where
  of : ∀ x ∈ now, FitF none pre x.2.2 ∧ lstO none x.2.2 = some x.1 ∧ x.2.1 = alongF hs cs 0 x.2.2 zeroG
  all : ∀ c, FitF none pre c → ∃ x ∈ now, lstO none c = some x.1 ∧ x.2.1 = alongF hs cs 0 c zeroG
  len : now.length ≤ 8 * 3 ^ (pre.length - 1)
theorem now_first (h : BOK n n2 hs rs cs) : ∃ now, (b2 (if (0 : Int) = 0 then gd (R64 0 ∧ R64 8) <| book_desk_endings_l2 n n2 hs rs cs 0 (Int.toNat (8 - 0)) 0 [] [] else some ([], [])) fun next_4 m => b1 (book_desk_endings_l3 n n2 hs rs cs 0 [] next_4 m) fun next_7 => some next_7) = some now ∧ Now hs cs (rs.take 1) now := by
  have hr := h.hr
  have hm : MOK [] [] := fun k => by simp [mget_nil]
  have e0 : rs.take 1 = [rs.getD 0 0] := by
    cases rs with
    | nil => simp at hr
    | cons a l => rfl
  obtain ⟨m1, l1, e1, g1, g2⟩ := ends_l2 h (k := 0) (by omega) (S := fun x => FitF none (rs.take 1) x.2.2 ∧ lstO none x.2.2 = some x.1 ∧ x.2.1 = alongF hs cs 0 x.2.2 zeroG) 8 0 [] [] rfl hm (by simp) (fun v h1 h2 h3 => by
    rw [e0]
    exact ⟨⟨⟨h1, h2⟩, h3, (fun _ h => nomatch h), trivial⟩, rfl, rfl⟩)
  refine ⟨l1, ?_, fun x hx => (g1.new x hx).elim (fun h => nomatch h) id, fun c hc => ?_, ?_⟩
  · have e1' : book_desk_endings_l2 n n2 hs rs cs 0 (Int.toNat (8 - 0)) 0 [] [] = some (l1, m1) := e1
    rw [if_pos rfl, gd_t ⟨r64_small (by omega), r64_small (by omega)⟩, e1', b2_some]; rfl
  · rw [e0] at hc
    match c, hc with
    | [w], hc =>
      obtain ⟨h1, h2, _, _⟩ := hc
      obtain ⟨x, hx, he⟩ := g2 w h1.1 h1.2 h2
      have he1 := congrArg Prod.fst he; have he2 := congrArg Prod.snd he
      exact ⟨x, hx, congrArg some he1.symm, he2⟩
    | [], hc => exact hc.elim
    | _ :: _ :: _, hc => exact hc.2.2.2.elim
  · have := g1.len
    rw [e0]; simpa using this
theorem now_next (h : BOK n n2 hs rs cs) {k : Nat} (hk : k < rs.length) (hk0 : 1 ≤ k) {now : List Pl} (hN : Now hs cs (rs.take k) now) : ∃ now', book_desk_endings_l3 n n2 hs rs cs (k : Int) now [] [] = some now' ∧ Now hs cs (rs.take (k + 1)) now' := by
  have hr := h.hr
  have hm : MOK [] [] := fun k => by simp [mget_nil]
  have hlk : (rs.take k).length = k := by rw [List.length_take]; omega
  have e0 : rs.take (k + 1) = rs.take k ++ [rs.getD k 0] := by
    rw [List.take_add_one, getD_of (d := 0) hk]; rfl
  have hp : 3 ^ (k - 1) ≤ 3 ^ 6 := Nat.pow_le_pow_right (by decide) (by omega)
  have h36 : 3 ^ 6 = 729 := rfl
  have hl := hN.len
  rw [hlk] at hl
  obtain ⟨l2, e2, f1, _, f3, f4⟩ := ends_l3 h hk (S := fun x => FitF none (rs.take (k + 1)) x.2.2 ∧ lstO none x.2.2 = some x.1 ∧ x.2.1 = alongF hs cs 0 x.2.2 zeroG) now [] [] (fun y hy => by
      obtain ⟨h1, h2, h3⟩ := hN.of y hy
      have hl := h1.len
      rw [hlk] at hl
      refine ⟨by rw [h3]; exact alongF_len h _ _ _ h1.rng (by simp [zeroG]), by omega, ?_⟩
      have hne : y.2.2 ≠ [] := by intro e; rw [e] at hl; simp at hl; omega
      have : ∀ (c : List Int) (p : Option Int) (v : Int), lstO p c = some v → c ≠ [] → v ∈ c := fun c => by
        induction c with
        | nil => intro _ _ _ h; exact absurd rfl h
        | cons a c ih =>
          intro p v hv _
          cases c with
          | nil => cases hv; simp
          | cons b c => exact List.mem_cons_of_mem _ (ih (some a) v hv (by simp))
      exact h1.rng _ (this _ _ _ h2 hne)) hm (by simp; omega) (fun y hy v hv hcan => by
      obtain ⟨h1, h2, h3⟩ := hN.of y hy
      obtain ⟨h4, h5⟩ := mem_nearL.1 hv
      rw [e0]
      refine ⟨h1.snoc h4 hcan (fun u hu => ?_), lstO_snoc v _ _, ?_⟩
      · rw [h2] at hu; cases hu; exact h5
      · show hearF hs cs y.2.1 k v = _
        rw [alongF_snoc, h1.len, hlk, h3, Int.zero_add])
  refine ⟨l2, e2, fun x hx => (f1 x hx).elim (fun h => nomatch h) id, fun c hc => ?_, ?_⟩
  · rw [e0] at hc
    obtain ⟨c', w, rfl, g1, g2, g3, g4⟩ := hc.unsnoc
    obtain ⟨y, hy, hy1, hy2⟩ := hN.all c' g1
    obtain ⟨x, hx, he⟩ := f4 y hy w (mem_nearL.2 ⟨g2, g4 _ hy1⟩) g3
    have he1 := congrArg Prod.fst he; have he2 := congrArg Prod.snd he
    refine ⟨x, hx, by rw [lstO_snoc]; exact congrArg some he1.symm, ?_⟩
    rw [alongF_snoc, g1.len, hlk, Int.zero_add]
    exact he2.trans (by rw [hy2])
  · rw [List.length_nil, Nat.zero_add] at f3
    have : (rs.take (k + 1)).length - 1 = (k - 1) + 1 := by rw [List.length_take]; omega
    rw [this, Nat.pow_succ]; omega
theorem ends_l1 (h : BOK n n2 hs rs cs) : ∀ (tl : List Int) (k : Nat) (now : List Pl), rs.drop k = tl → 1 ≤ k → Now hs cs (rs.take k) now → ∃ now', book_desk_endings_l1 n n2 hs rs cs tl (k : Int) now = some now' ∧ Now hs cs rs now'
  | [], k, now, hd, _, hN => by
    have : rs.length ≤ k := by
      have := congrArg List.length hd; simp at this; omega
    rw [List.take_of_length_le this] at hN
    exact ⟨now, rfl, hN⟩
  | x :: tl, k, now, hd, hk, hN => by
    obtain ⟨hlt, _, hd2⟩ := drop_cons 0 hd
    obtain ⟨now2, e1, hN2⟩ := now_next h hlt hk hN
    obtain ⟨now3, e2, hN3⟩ := ends_l1 h tl (k + 1) now2 hd2 (by omega) hN2
    refine ⟨now3, ?_, hN3⟩
    unfold book_desk_endings_l1
    rw [if_neg (by omega), b2_some, e1, b1_some, b1_some, show (k : Int) + 1 = ((k + 1 : Nat) : Int) by omega]
    exact e2
theorem ends_l5 : ∀ (now : List Pl) (out : List (List Bool × List Int)), out.length + now.length ≤ 100000 → ∃ L, book_desk_endings_l5 now out = some L ∧ L.length ≤ out.length + now.length ∧ (∀ e ∈ L, e ∈ out ∨ ∃ x ∈ now, e = (x.2.1, x.2.2)) ∧ (∀ e ∈ out, e ∈ L) ∧ ∀ x ∈ now, ∃ e ∈ L, e.1 = x.2.1
  | [], out, _ => ⟨out, rfl, by simp, fun _ h => .inl h, fun _ h => h, fun _ h => nomatch h⟩
  | x :: now, out, hl => by
    rw [List.length_cons] at hl
    have e0 : slices_ContainsFunc_book_ending_book_ending out (fun xx_ : List Bool × List Int => book_desk_endings_2 xx_.1 xx_.2 x.1 x.2.1 x.2.2) = some (out.any fun e => decide (e.1 = x.2.1)) := idx_end fun _ _ => rfl
    unfold book_desk_endings_l5
    rw [e0, b1_some]
    by_cases e : (out.any fun e => decide (e.1 = x.2.1)) = true
    · obtain ⟨L, e1, g0, g1, g2, g3⟩ := ends_l5 now out (by omega)
      rw [e, if_neg (by decide)]
      refine ⟨L, e1, by rw [List.length_cons]; omega, fun a ha => (g1 a ha).imp id (fun ⟨y, hy, he⟩ => ⟨y, by simp [hy], he⟩), g2, fun y hy => ?_⟩
      rcases List.mem_cons.1 hy with rfl | hy
      · obtain ⟨a, ha, hb⟩ := List.any_eq_true.1 e
        exact ⟨a, g2 a ha, of_decide_eq_true hb⟩
      · exact g3 y hy
    · have e' : (out.any fun e => decide (e.1 = x.2.1)) = false := Bool.eq_false_iff.2 e
      obtain ⟨L, e1, g0, g1, g2, g3⟩ := ends_l5 now (out ++ [(x.2.1, x.2.2)]) (by simp; omega)
      rw [e', if_pos (by decide), ap_t (by simp; omega)]
      refine ⟨L, e1, by rw [List.length_append] at g0; rw [List.length_cons]; simp at g0; omega, fun a ha => ?_, fun a ha => g2 a (List.mem_append_left _ ha), fun y hy => ?_⟩
      · rcases g1 a ha with h | ⟨y, hy, he⟩
        · rcases List.mem_append.1 h with h | h
          · exact .inl h
          · exact .inr ⟨x, by simp, List.mem_singleton.1 h⟩
        · exact .inr ⟨y, by simp [hy], he⟩
      · rcases List.mem_cons.1 hy with rfl | hy
        · exact ⟨_, g2 _ (List.mem_append_right _ (List.mem_singleton.2 rfl)), rfl⟩
        · exact g3 y hy
theorem endings_eq (h : BOK n n2 hs rs cs) : ∃ L, book_desk_endings n n2 hs rs cs = some L ∧ L.length ≤ 20000 ∧ (∀ e ∈ L, FitF none rs e.2 ∧ e.1 = alongF hs cs 0 e.2 zeroG) ∧ ∀ c, FitF none rs c → ∃ e ∈ L, e.1 = alongF hs cs 0 c zeroG := by
  have hr := h.hr
  obtain ⟨now1, e1, hN1⟩ := now_first h
  obtain ⟨now, e2, hN⟩ := ends_l1 h (rs.drop 1) 1 now1 rfl (Nat.le_refl _) hN1
  have hlen := hN.len
  have hp : 3 ^ (rs.length - 1) ≤ 3 ^ 7 := Nat.pow_le_pow_right (by decide) (by omega)
  have h37 : 3 ^ 7 = 2187 := rfl
  obtain ⟨L, e3, g0, g1, g2, g3⟩ := ends_l5 now [] (by simp; omega)
  refine ⟨L, ?_, by simp at g0; omega, fun e he => ?_, fun c hc => ?_⟩
  · have key : ∀ l : List Int, l ≠ [] → book_desk_endings_l1 n n2 hs rs cs l 0 [] = b1 (b2 (if (0 : Int) = 0 then gd (R64 0 ∧ R64 8) <| book_desk_endings_l2 n n2 hs rs cs 0 (Int.toNat (8 - 0)) 0 [] [] else some ([], [])) fun next_4 m => b1 (book_desk_endings_l3 n n2 hs rs cs 0 [] next_4 m) fun next_7 => some next_7) fun now3 => book_desk_endings_l1 n n2 hs rs cs (l.drop 1) (0 + 1) now3 := fun l hl => by
      cases l with
      | nil => exact absurd rfl hl
      | cons a l => rfl
    have e2' : book_desk_endings_l1 n n2 hs rs cs (rs.drop 1) (0 + 1) now1 = some now := e2
    unfold book_desk_endings
    rw [key rs (by intro e; rw [e] at hr; simp at hr), e1, b1_some, e2', b1_some, e3, b1_some]
  · rcases g1 e he with h1 | ⟨x, hx, rfl⟩
    · cases h1
    · obtain ⟨f1, _, f3⟩ := hN.of x hx
      exact ⟨f1, f3⟩
  · obtain ⟨x, hx, _, f2⟩ := hN.all c hc
    obtain ⟨e, he, he2⟩ := g3 x hx
    exact ⟨e, he, he2.trans f2⟩
end
end Go.Proofs.YtggpjocmoelpbaaGreat.Bk
namespace Go.Proofs.YtggpjocmoelpbaaGreat.Bk
open Go.PL
section
variable {n n2 : Int} {hs : List (List (List Int))} {rs : List Int} {cs : List (Int × Int × Int)}
structure EndsOK (hs : List (List (List Int))) (rs : List Int) (cs : List (Int × Int × Int)) (L : List (List Bool × List Int)) : Prop where
  len : L.length ≤ 20000
  of : ∀ e ∈ L, FitF none rs e.2 ∧ e.1 = alongF hs cs 0 e.2 zeroG
  all : ∀ c, FitF none rs c → ∃ e ∈ L, e.1 = alongF hs cs 0 c zeroG
theorem EndsOK.len24 (h : BOK n n2 hs rs cs) {L : List (List Bool × List Int)} (hL : EndsOK hs rs cs L) : ∀ e ∈ L, e.1.length = 24 := fun e he => by
  obtain ⟨h1, h2⟩ := hL.of e he
  rw [h2]; exact alongF_len h _ _ _ h1.rng (by simp [zeroG])
theorem EndsOK.get (h : BOK n n2 hs rs cs) {L : List (List Bool × List Int)} (hL : EndsOK hs rs cs L) {x q : Int} (hx : 0 ≤ x ∧ x < 6) (hq : 0 ≤ q ∧ q < 4) : ∀ e ∈ L, e.1.getD (x * 4 + q).toNat false = heardB hs cs e.2 x q := fun e he => by
  obtain ⟨h1, h2⟩ := hL.of e he
  rw [h2]; exact along_heard h hx hq h1.rng h1.len
theorem EndsOK.all' (h : BOK n n2 hs rs cs) {L : List (List Bool × List Int)} (hL : EndsOK hs rs cs L) {x q : Int} (hx : 0 ≤ x ∧ x < 6) (hq : 0 ≤ q ∧ q < 4) {c : List Int} (hc : FitF none rs c) : ∃ e ∈ L, e.1.getD (x * 4 + q).toNat false = heardB hs cs c x q := by
  obtain ⟨e, he, h2⟩ := hL.all c hc
  exact ⟨e, he, by rw [h2]; exact along_heard h hx hq hc.rng hc.len⟩
theorem told_eq (h : BOK n n2 hs rs cs) (hc : ∃ c, FitF none rs c) : ∃ L, book_desk_endings n n2 hs rs cs = some L ∧ EndsOK hs rs cs L ∧ 1 ≤ L.length ∧ book_told n n2 hs rs cs = some (some (n, n2, hs, rs, cs), L, 0) := by
  obtain ⟨L, e1, g0, g1, g2⟩ := endings_eq h
  obtain ⟨c, hc⟩ := hc
  obtain ⟨e, he, _⟩ := g2 c hc
  have hl : 1 ≤ L.length := by cases L with
    | nil => cases he
    | cons a l => simp
  refine ⟨L, e1, ⟨g0, g1, g2⟩, hl, ?_⟩
  unfold book_told
  rw [opened_eq h, b2_some, if_neg (by decide), b5_some, e1, b1_some, if_neg (by omega)]
def cntV (L : List (List Bool × List Int)) (x q : Int) : Nat := L.countP fun e => e.1.getD (x * 4 + q).toNat false
def valV (L : List (List Bool × List Int)) (x q : Int) : Int := if cntV L x q = L.length then 1 else if cntV L x q = 0 then 2 else 0
theorem verd_l3 {x q : Int} (hx : 0 ≤ x ∧ x < 6) (hq : 0 ≤ q ∧ q < 4) : ∀ (L : List (List Bool × List Int)) (m : Nat), (∀ e ∈ L, e.1.length = 24) → m + L.length ≤ 100000 → book_Verdicts_l3 x q L (m : Int) = some ((m + cntV L x q : Nat) : Int)
  | [], m, _, _ => rfl
  | e :: L, m, hL, hm => by
    rw [List.length_cons] at hm
    have he := hL e (by simp)
    unfold book_Verdicts_l3
    rw [gd_t hx, gd_t hq, ixD false _ (by omega) (by omega)]
    by_cases e1 : e.1.getD (x * 4 + q).toNat false = true
    · rw [e1, if_pos rfl, gd_t (r64_small (by omega)), show (m : Int) + 1 = ((m + 1 : Nat) : Int) by omega, verd_l3 hx hq L (m + 1) (fun e he => hL e (by simp [he])) (by omega)]
      have : cntV (e :: L) x q = cntV L x q + 1 := by unfold cntV; rw [List.countP_cons, e1]; rfl
      rw [this]; congr 2; omega
    · have e1' : e.1.getD (x * 4 + q).toNat false = false := by simpa using e1
      rw [e1', if_neg (by decide), verd_l3 hx hq L m (fun e he => hL e (by simp [he])) (by omega)]
      have : cntV (e :: L) x q = cntV L x q := by unfold cntV; rw [List.countP_cons, e1']; rfl
      rw [this]
theorem verd_l2 {L : List (List Bool × List Int)} (hL : ∀ e ∈ L, e.1.length = 24) (hl : L.length ≤ 90000) {k N2 : Nat} (hk : k < 6) (hN : N2 ≤ 4) : ∀ (fu q : Nat) (out : List (List Int)), q + fu = N2 → k < out.length → out.getD k [] = (List.range q).map (fun q : Nat => valV L (k : Int) (q : Int)) →
    ∃ R, book_Verdicts_l2 L (k : Int) fu (q : Int) out = some R ∧ R.length = out.length ∧ R.getD k [] = (List.range N2).map (fun q : Nat => valV L (k : Int) (q : Int)) ∧ ∀ j, j ≠ k → R.getD j [] = out.getD j []
  | 0, q, out, hq, hk2, ho => ⟨out, rfl, rfl, by rw [ho, show q = N2 by omega], fun _ _ => rfl⟩
  | fu + 1, q, out, hq, hk2, ho => by
    have e0 : book_Verdicts_l3 (k : Int) (q : Int) L 0 = some ((cntV L (k : Int) (q : Int) : Nat) : Int) := by
      have := verd_l3 (x := (k : Int)) (q := (q : Int)) (by omega) (by omega) L 0 hL (by omega)
      rw [Nat.zero_add] at this; exact this
    have ev : (b1 (if ((cntV L (k : Int) (q : Int) : Nat) : Int) = (L.length : Int) then some (1 : Int) else if ((cntV L (k : Int) (q : Int) : Nat) : Int) = 0 then some 2 else some 0) fun v => ix out (k : Int) fun x3 => ap x3 [v] fun l3 => bv (out.set ((k : Int)).toNat l3) fun out6 => some out6) = some (out.set k (out.getD k [] ++ [valV L (k : Int) (q : Int)])) := by
      have e1 : (if ((cntV L (k : Int) (q : Int) : Nat) : Int) = (L.length : Int) then some (1 : Int) else if ((cntV L (k : Int) (q : Int) : Nat) : Int) = 0 then some 2 else some 0) = some (valV L (k : Int) (q : Int)) := by
        unfold valV
        by_cases h1 : cntV L (k : Int) (q : Int) = L.length
        · rw [if_pos (by omega), if_pos h1]
        · by_cases h2 : cntV L (k : Int) (q : Int) = 0
          · rw [if_neg (by omega), if_pos (by omega), if_neg h1, if_pos h2]
          · rw [if_neg (by omega), if_neg (by omega), if_neg h1, if_neg h2]
      rw [e1, b1_some, ixN [] _ hk2, ap_t (by rw [ho]; simp; omega), bvE, Int.toNat_natCast]
    obtain ⟨R, g1, g2, g3, g4⟩ := verd_l2 hL hl hk hN fu (q + 1) (out.set k (out.getD k [] ++ [valV L (k : Int) (q : Int)])) (by omega) (by rw [List.length_set]; exact hk2) (by
      rw [getD_setI hk2, if_pos rfl, ho, List.range_succ, List.map_append]; rfl)
    refine ⟨R, ?_, by rw [g2, List.length_set], g3, fun j hj => by rw [g4 j hj, getD_setI hk2, if_neg (fun e => hj e.symm)]⟩
    unfold book_Verdicts_l2
    rw [e0, b1_some, ev, b1_some, show (q : Int) + 1 = ((q + 1 : Nat) : Int) by omega]
    exact g1
theorem verd_l1 {L : List (List Bool × List Int)} (hL : ∀ e ∈ L, e.1.length = 24) (hl : L.length ≤ 90000) {N N2 : Nat} (hN6 : N ≤ 6) (hN : N2 ≤ 4) : ∀ (fu k : Nat) (out : List (List Int)), k + fu = N → out.length = N → (∀ j, k ≤ j → out.getD j [] = []) →
    ∃ R, book_Verdicts_l1 (N2 : Int) L fu (k : Int) out = some R ∧ R.length = N ∧ (∀ j, j < k → R.getD j [] = out.getD j []) ∧ ∀ j, k ≤ j → j < N → R.getD j [] = (List.range N2).map (fun q : Nat => valV L (j : Int) (q : Int))
  | 0, k, out, hk, ho, _ => ⟨out, rfl, ho, fun _ _ => rfl, fun j h1 h2 => by omega⟩
  | fu + 1, k, out, hk, ho, hj => by
    obtain ⟨R1, g1, g2, g3, g4⟩ := verd_l2 hL hl (k := k) (N2 := N2) (by omega) hN N2 0 out (by omega) (by omega) (by rw [hj k (Nat.le_refl _)]; rfl)
    obtain ⟨R, f1, f2, f3, f4⟩ := verd_l1 hL hl hN6 hN fu (k + 1) R1 (by omega) (by omega) (fun j h1 => by rw [g4 j (by omega)]; exact hj j (by omega))
    refine ⟨R, ?_, f2, fun j h1 => by rw [f3 j (by omega)]; exact g4 j (by omega), fun j h1 h2 => ?_⟩
    · have g1' : book_Verdicts_l2 L (k : Int) (Int.toNat ((N2 : Int) - 0)) 0 out = some R1 := by
        rw [show Int.toNat ((N2 : Int) - 0) = N2 by omega]; exact g1
      unfold book_Verdicts_l1
      rw [gd_t ⟨r64_small (by omega), r64_small (by omega)⟩, g1', b1_some, show (k : Int) + 1 = ((k + 1 : Nat) : Int) by omega]
      exact f1
    · by_cases e : j = k
      · subst e; rw [f3 j (by omega)]; exact g3
      · exact f4 j (by omega) h2
def VerdP (hs : List (List (List Int))) (rs : List Int) (cs : List (Int × Int × Int)) (x q v : Int) : Prop :=
  (v = 1 ∧ ∀ c, FitF none rs c → heardB hs cs c x q = true) ∨ (v = 2 ∧ ∀ c, FitF none rs c → heardB hs cs c x q = false) ∨
  (v = 0 ∧ (∃ c, FitF none rs c ∧ heardB hs cs c x q = true) ∧ ∃ c, FitF none rs c ∧ heardB hs cs c x q = false)
theorem valV_ok (h : BOK n n2 hs rs cs) {L : List (List Bool × List Int)} (hL : EndsOK hs rs cs L) (_hl : 1 ≤ L.length) {x q : Int} (hx : 0 ≤ x ∧ x < 6) (hq : 0 ≤ q ∧ q < 4) : VerdP hs rs cs x q (valV L x q) := by
  unfold valV cntV
  have hg := hL.get h hx hq
  by_cases h1 : L.countP (fun e => e.1.getD (x * 4 + q).toNat false) = L.length
  · rw [if_pos h1]
    refine .inl ⟨rfl, fun c hc => ?_⟩
    obtain ⟨e, he, h2⟩ := hL.all' h hx hq hc
    rw [← h2]; exact List.countP_eq_length.1 h1 e he
  · rw [if_neg h1]
    have ⟨e1, he1, hf1⟩ : ∃ e ∈ L, e.1.getD (x * 4 + q).toNat false = false := by
      apply Classical.byContradiction
      intro hno
      refine h1 (List.countP_eq_length.2 fun e he => ?_)
      cases hq : e.1.getD (x * 4 + q).toNat false with
      | true => rfl
      | false => exact absurd ⟨e, he, hq⟩ hno
    by_cases h2 : L.countP (fun e => e.1.getD (x * 4 + q).toNat false) = 0
    · rw [if_pos h2]
      refine .inr (.inl ⟨rfl, fun c hc => ?_⟩)
      obtain ⟨e, he, h3⟩ := hL.all' h hx hq hc
      rw [← h3]
      have := List.countP_eq_zero.1 h2 e he
      simpa using this
    · rw [if_neg h2]
      obtain ⟨e, he, h3⟩ : ∃ e ∈ L, e.1.getD (x * 4 + q).toNat false = true := List.countP_pos_iff.1 (by omega)
      exact .inr (.inr ⟨rfl, ⟨e.2, (hL.of e he).1, by rw [← hg e he]; exact h3⟩, ⟨e1.2, (hL.of e1 he1).1, by rw [← hg e1 he1]; exact hf1⟩⟩)
structure VTab (n n2 : Int) (hs : List (List (List Int))) (rs : List Int) (cs : List (Int × Int × Int)) (T : List (List Int)) : Prop where
  len : (T.length : Int) = n
  row : ∀ r ∈ T, (r.length : Int) = n2
  get : ∀ x q : Int, (0 ≤ x ∧ x < n) → (0 ≤ q ∧ q < n2) → VerdP hs rs cs x q ((T.getD x.toNat []).getD q.toNat 0)
theorem getD_map_range {α : Type} (f : Nat → α) {m j : Nat} (d : α) (h : j < m) : ((List.range m).map f).getD j d = f j := by
  rw [List.getD_eq_getElem?_getD, List.getElem?_map, List.getElem?_range h]; rfl
theorem Verdicts_eq (h : BOK n n2 hs rs cs) (hc : ∃ c, FitF none rs c) : ∃ T, book_Verdicts n n2 hs rs cs = some (T, 0) ∧ VTab n n2 hs rs cs T := by
  obtain ⟨L, _, hL, hl, e1⟩ := told_eq h hc
  have hn := h.hn; have hn2 := h.hn2
  obtain ⟨N, rfl⟩ := Int.eq_ofNat_of_zero_le (show 0 ≤ n by omega)
  obtain ⟨N2, rfl⟩ := Int.eq_ofNat_of_zero_le (show 0 ≤ n2 by omega)
  obtain ⟨R, g1, g2, _, g4⟩ := verd_l1 (hL.len24 h) (by have := hL.len; omega) (N := N) (N2 := N2) (by omega) (by omega) N 0 (List.replicate N []) (by omega) (by simp) (fun j _ => by
    rw [List.getD_eq_getElem?_getD, List.getElem?_replicate]; split <;> rfl)
  refine ⟨R, ?_, by omega, fun r hr => ?_, fun x q hx hq => ?_⟩
  · unfold book_Verdicts
    have g1' : book_Verdicts_l1 (N2 : Int) L (Int.toNat (((List.replicate ((N : Int)).toNat ([] : List Int)).length : Int) - 0)) 0 (List.replicate ((N : Int)).toNat []) = some R := by
      rw [Int.toNat_natCast, List.length_replicate, show Int.toNat ((N : Int) - 0) = N by omega]; exact g1
    rw [e1, b3_some, if_neg (by decide), gd_t (by omega), bvE, gd_t ⟨r64_small (by omega), r64_small (by rw [List.length_replicate]; omega)⟩, g1', b1_some]
  · obtain ⟨j, hj, rfl⟩ := List.mem_iff_getElem.1 hr
    have := g4 j (Nat.zero_le _) (by omega)
    rw [List.getD_eq_getElem?_getD, List.getElem?_eq_getElem hj] at this
    have : R[j] = _ := this
    rw [this]; simp
  · obtain ⟨x, rfl⟩ := Int.eq_ofNat_of_zero_le hx.1
    obtain ⟨q, rfl⟩ := Int.eq_ofNat_of_zero_le hq.1
    rw [Int.toNat_natCast, Int.toNat_natCast, g4 x (Nat.zero_le _) (by omega), getD_map_range _ _ (by omega)]
    exact valV_ok h hL hl (by omega) (by omega)
abbrev Cp := Int × Int × Bool
def trueC (hs : List (List (List Int))) (cs : List (Int × Int × Int)) (c : List Int) (p : Cp) : Bool := decide (heardB hs cs c p.1 p.2.1 = p.2.2)
def wrF (P : Cp → Bool) : List Cp → Int → List Int
  | [], _ => []
  | p :: ps, k => if P p = true then wrF P ps (k + 1) else k :: wrF P ps (k + 1)
theorem wrF_nil (P : Cp → Bool) : ∀ (ps : List Cp) (k : Int), wrF P ps k = [] ↔ ∀ p ∈ ps, P p = true
  | [], _ => by simp [wrF]
  | p :: ps, k => by
    unfold wrF
    by_cases e : P p = true
    · rw [if_pos e, wrF_nil P ps (k + 1)]; simp [e]
    · rw [if_neg e]
      simp [e]
def gTrue (g : List Bool) (p : Cp) : Bool := decide (g.getD (p.1 * 4 + p.2.1).toNat false = p.2.2)
theorem is_eq {g : List Bool} (hg : g.length = 24) {p : Cp} (hp : (0 ≤ p.1 ∧ p.1 < 6) ∧ (0 ≤ p.2.1 ∧ p.2.1 < 4)) : book_Complaint_is p.1 p.2.1 p.2.2 g = some (gTrue g p) := by
  unfold book_Complaint_is
  rw [gd_t hp.1, gd_t hp.2, ixD false _ (by omega) (by omega)]; rfl
theorem wrong_l1 {g : List Bool} (hg : g.length = 24) : ∀ (ps : List Cp) (k : Int) (out : List Int), (∀ p ∈ ps, (0 ≤ p.1 ∧ p.1 < 6) ∧ (0 ≤ p.2.1 ∧ p.2.1 < 4)) → out.length + ps.length ≤ 100000 → book_wrong_l1 g ps k out = some (out ++ wrF (gTrue g) ps k)
  | [], _, out, _, _ => by unfold book_wrong_l1 wrF; rw [List.append_nil]
  | p :: ps, k, out, hp, hl => by
    rw [List.length_cons] at hl
    unfold book_wrong_l1 wrF
    rw [is_eq hg (hp p (by simp)), b1_some]
    by_cases e : gTrue g p = true
    · rw [e, if_neg (by decide), if_pos rfl]
      exact wrong_l1 hg ps (k + 1) out (fun q hq => hp q (by simp [hq])) (by omega)
    · have e' : gTrue g p = false := by simpa using e
      rw [e', if_pos (by decide), if_neg (by decide), ap_t (by simp; omega), wrong_l1 hg ps (k + 1) _ (fun q hq => hp q (by simp [hq])) (by simp; omega), List.append_assoc]; rfl
theorem wrong_eq {g : List Bool} (hg : g.length = 24) {ps : List Cp} (hp : ∀ p ∈ ps, (0 ≤ p.1 ∧ p.1 < 6) ∧ (0 ≤ p.2.1 ∧ p.2.1 < 4)) (hl : ps.length ≤ 1000) : book_wrong ps g = some (wrF (gTrue g) ps 0) := by
  unfold book_wrong
  rw [wrong_l1 hg ps 0 [] hp (by simp; omega), b1_some, List.nil_append]
def CpOK (n n2 : Int) (ps : List Cp) : Prop := ps.length ≤ 8 ∧ ∀ p ∈ ps, (0 ≤ p.1 ∧ p.1 < n) ∧ (0 ≤ p.2.1 ∧ p.2.1 < n2)
theorem CpOK.rng (h : BOK n n2 hs rs cs) {ps : List Cp} (hp : CpOK n n2 ps) : ∀ p ∈ ps, (0 ≤ p.1 ∧ p.1 < 6) ∧ (0 ≤ p.2.1 ∧ p.2.1 < 4) := fun p hm => by
  have := hp.2 p hm; have := h.hn; have := h.hn2; omega
theorem gTrue_eq (h : BOK n n2 hs rs cs) {L : List (List Bool × List Int)} (hL : EndsOK hs rs cs L) {ps : List Cp} (hp : CpOK n n2 ps) {e : List Bool × List Int} (he : e ∈ L) : ∀ p ∈ ps, gTrue e.1 p = trueC hs cs e.2 p := fun p hm => by
  obtain ⟨h1, h2⟩ := hp.rng h p hm
  unfold gTrue trueC
  rw [hL.get h h1 h2 e he]
theorem complained_eq (h : BOK n n2 hs rs cs) {ps : List Cp} (hp : CpOK n n2 ps) : book_complained n n2 hs rs cs ps = some 0 := by
  have key : ∀ l : List Cp, (∀ p ∈ l, (0 ≤ p.1 ∧ p.1 < n) ∧ (0 ≤ p.2.1 ∧ p.2.1 < n2)) → book_complained_l2 n n2 hs rs cs l = some 0 := fun l => by
    induction l with
    | nil => intro _; rfl
    | cons p l ih =>
      intro hl
      obtain ⟨h1, h2⟩ := hl p (by simp)
      unfold book_complained_l2 book_Complaint_error
      rw [house_eq h, b1_some, decide_eq_true h1, if_neg (by decide), notice_eq h, b1_some, decide_eq_true h2, b1_some, if_neg (by decide), b1_some, if_neg (by decide)]
      exact ih fun q hq => hl q (by simp [hq])
  unfold book_complained
  have := hp.1
  rw [Check_eq h, b1_some, if_neg (by decide), if_neg (by omega)]
  exact key ps hp.2
theorem bheard_eq (h : BOK n n2 hs rs cs) (hc : ∃ c, FitF none rs c) {ps : List Cp} (hp : CpOK n n2 ps) : ∃ L, EndsOK hs rs cs L ∧ 1 ≤ L.length ∧ book_heard n n2 hs rs cs ps = some (L, 0) := by
  obtain ⟨L, _, hL, hl, e1⟩ := told_eq h hc
  refine ⟨L, hL, hl, ?_⟩
  unfold book_heard
  rw [complained_eq h hp, b1_some, if_neg (by decide), e1, b3_some]
theorem find_l2 {met : List Bool → Option Bool} {P : List Bool × List Int → Bool} : ∀ (L : List (List Bool × List Int)), (∀ e ∈ L, met e.1 = some (P e) ∧ e.2 ≠ []) →
    (∃ e ∈ L, P e = true ∧ book_goal_find_l2 met L = some e.2) ∨ ((∀ e ∈ L, P e = false) ∧ book_goal_find_l2 met L = some [])
  | [], _ => .inr ⟨(fun _ h => nomatch h), rfl⟩
  | e :: L, hL => by
    obtain ⟨h1, h2⟩ := hL e (by simp)
    unfold book_goal_find_l2
    rw [h1, b1_some]
    by_cases e1 : P e = true
    · rw [e1, if_pos rfl, gd_t h2]
      exact .inl ⟨e, by simp, e1, rfl⟩
    · rw [if_neg e1]
      rcases find_l2 L (fun e he => hL e (by simp [he])) with ⟨e2, h3, h4⟩ | ⟨h3, h4⟩
      · exact .inl ⟨e2, by simp [h3], h4⟩
      · refine .inr ⟨fun a ha => ?_, h4⟩
        rcases List.mem_cons.1 ha with rfl | ha
        · simpa using e1
        · exact h3 a ha
theorem fit_ne (h : BOK n n2 hs rs cs) {c : List Int} (hc : FitF none rs c) : c ≠ [] := by
  have h1 := hc.len; have := h.hr
  intro e; rw [e] at h1; simp at h1; omega
theorem Together_eq (h : BOK n n2 hs rs cs) (hc : ∃ c, FitF none rs c) {ps : List Cp} (hp : CpOK n n2 ps) :
    (∃ c, FitF none rs c ∧ (∀ p ∈ ps, heardB hs cs c p.1 p.2.1 = p.2.2) ∧ book_Together n n2 hs rs cs ps = some (c, 0)) ∨
    ((∀ c, FitF none rs c → ∃ p ∈ ps, heardB hs cs c p.1 p.2.1 ≠ p.2.2) ∧ book_Together n n2 hs rs cs ps = some ([], 6)) := by
  obtain ⟨L, hL, hl, e1⟩ := bheard_eq h hc hp
  have hP : ∀ e ∈ L, (fun xx_ : List Bool => book_Together_1 xx_ ps) e.1 = some (decide (wrF (gTrue e.1) ps 0 = [])) ∧ e.2 ≠ [] := fun e he => by
    refine ⟨?_, fit_ne h (hL.of e he).1⟩
    show book_Together_1 e.1 ps = _
    unfold book_Together_1
    rw [wrong_eq (hL.len24 h e he) (hp.rng h) (by have := hp.1; omega), b1_some]
    congr 1
    rw [decide_eq_decide]
    cases wrF (gTrue e.1) ps 0 with
    | nil => simp
    | cons a l => simp; omega
  have hiff : ∀ e ∈ L, (wrF (gTrue e.1) ps 0 = [] ↔ ∀ p ∈ ps, heardB hs cs e.2 p.1 p.2.1 = p.2.2) := fun e he => by
    rw [wrF_nil]
    refine ⟨fun hh p hm => ?_, fun hh p hm => ?_⟩
    · have := hh p hm
      rw [gTrue_eq h hL hp he p hm] at this
      exact of_decide_eq_true this
    · rw [gTrue_eq h hL hp he p hm]; exact decide_eq_true (hh p hm)
  unfold book_Together
  rw [e1, b2_some, if_neg (by decide)]
  unfold book_goal_find
  rcases find_l2 (met := fun xx_ : List Bool => book_Together_1 xx_ ps) (P := fun e => decide (wrF (gTrue e.1) ps 0 = [])) L hP with ⟨e, he, h2, h3⟩ | ⟨h2, h3⟩
  · refine .inl ⟨e.2, (hL.of e he).1, (hiff e he).1 (of_decide_eq_true h2), ?_⟩
    rw [h3, b1_some, if_neg (hP e he).2]
  · refine .inr ⟨fun c hc => ?_, by rw [h3, b1_some, if_pos rfl]⟩
    apply Classical.byContradiction
    intro hno
    obtain ⟨e, he, h4⟩ := hL.all c hc
    have h5 := of_decide_eq_false (h2 e he)
    refine h5 ((wrF_nil _ _ _).2 fun p hm => ?_)
    obtain ⟨g1, g2⟩ := hp.rng h p hm
    unfold gTrue
    rw [h4, along_heard h g1 g2 hc.rng hc.len]
    exact decide_eq_true (Classical.byContradiction fun h6 => hno ⟨p, hm, h6⟩)
theorem Witness_eq (h : BOK n n2 hs rs cs) (hc : ∃ c, FitF none rs c) {x q : Int} (hx : 0 ≤ x ∧ x < n) (hq : 0 ≤ q ∧ q < n2) (b : Bool) :
    (∃ c, FitF none rs c ∧ heardB hs cs c x q = b ∧ book_Witness n n2 hs rs cs x q b = some (c, 0) ∧ book_Refuted n n2 hs rs cs x q b = some (false, 0)) ∨
    ((∀ c, FitF none rs c → heardB hs cs c x q ≠ b) ∧ book_Witness n n2 hs rs cs x q b = some ([], 6) ∧ book_Refuted n n2 hs rs cs x q b = some (true, 0)) := by
  have hp : CpOK n n2 [(x, q, b)] := ⟨by simp, fun p hm => by rw [List.mem_singleton] at hm; subst hm; exact ⟨hx, hq⟩⟩
  rcases Together_eq h hc hp with ⟨c, h1, h2, h3⟩ | ⟨h1, h2⟩
  · have e1 : book_Witness n n2 hs rs cs x q b = some (c, 0) := by unfold book_Witness; rw [h3, b2_some]
    exact .inl ⟨c, h1, h2 _ (List.mem_singleton.2 rfl), e1, by unfold book_Refuted; rw [e1, b2_some, if_pos rfl]⟩
  · have e1 : book_Witness n n2 hs rs cs x q b = some ([], 6) := by unfold book_Witness; rw [h2, b2_some]
    refine .inr ⟨fun c hc => ?_, e1, by unfold book_Refuted; rw [e1, b2_some, if_neg (by decide), if_pos rfl]⟩
    obtain ⟨p, hm, h3⟩ := h1 c hc
    rw [List.mem_singleton] at hm; subst hm
    exact h3
end
end Go.Proofs.YtggpjocmoelpbaaGreat.Bk
