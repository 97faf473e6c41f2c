/- Numbers out of a bell, lists, for beats; in plain Lean. -/
import Derived.Test.YtfmapnhfamoecabZBTd
namespace Go.Proofs.Ytfmapnhfamoecab.Rd
open Go.PL
theorem bvE {α β : Type} {a : α} {f : α → Option β} : bv a f = f a := rfl
theorem r64_small {x : Int} (h : -1000000000 ≤ x ∧ x ≤ 1000000000) : R64 x := by unfold R64; omega
theorem getD_of {α : Type} {xs : List α} {i : Nat} {d : α} (h : i < xs.length) : xs[i]? = some (xs.getD i d) := by
  rw [List.getD_eq_getElem?_getD, List.getElem?_eq_getElem h]; rfl
theorem getD_mem {α : Type} {xs : List α} {i : Nat} {d : α} (h : i < xs.length) : xs.getD i d ∈ xs := by
  rw [List.getD_eq_getElem?_getD, List.getElem?_eq_getElem h]; exact List.getElem_mem h
theorem ixD {α β : Type} {xs : List α} {i : Int} (d : α) (f : α → Option β) (h0 : 0 ≤ i) (h : i < (xs.length : Int)) : ix xs i f = f (xs.getD i.toNat d) := ix_t h0 (getD_of (by omega))
theorem ixN {α β : Type} {xs : List α} {i : Nat} (d : α) (f : α → Option β) (h : i < xs.length) : ix xs (i : Int) f = f (xs.getD i d) := ix_t (by omega) (by rw [Int.toNat_natCast]; exact getD_of h)
theorem ixI {β : Type} {xs : List Int} {i : Nat} (f : Int → Option β) (h : i < xs.length) : ix xs (i : Int) f = f (xs.getD i 0) := ixN 0 f h
theorem getD_setI {α : Type} {d : α} {xs : List α} {i t : Nat} {x : α} (h : i < xs.length) : (xs.set i x).getD t d = if i = t then x else xs.getD t d := by
  rw [List.getD_eq_getElem?_getD, List.getD_eq_getElem?_getD, List.getElem?_set]
  by_cases e : i = t
  · subst e; simp [h]
  · simp [e]
theorem getD_ext {α : Type} {d : α} {xs ys : List α} (hl : xs.length = ys.length) (h : ∀ t, t < xs.length → xs.getD t d = ys.getD t d) : xs = ys := by
  refine List.ext_getElem hl fun t h1 h2 => ?_
  have := h t h1
  rw [List.getD_eq_getElem?_getD, List.getD_eq_getElem?_getD, List.getElem?_eq_getElem h1, List.getElem?_eq_getElem h2] at this
  exact this
theorem drop_cons {α : Type} {xs : List α} {k : Nat} {x : α} {tl : List α} (d : α) (h : xs.drop k = x :: tl) : k < xs.length ∧ xs.getD k d = x ∧ xs.drop (k + 1) = tl := by
  have hk : k < xs.length := by
    rcases Nat.lt_or_ge k xs.length with h1 | h1
    · exact h1
    · rw [List.drop_eq_nil_of_le h1] at h; cases h
  rw [List.drop_eq_getElem_cons hk] at h
  obtain ⟨h1, h2⟩ := List.cons.inj h
  exact ⟨hk, by rw [List.getD_eq_getElem?_getD, List.getElem?_eq_getElem hk, ← h1]; rfl, h2⟩
theorem bandK_rng (x : Int) : 0 ≤ bandK 32 x 65535 ∧ bandK 32 x 65535 ≤ 65535 := by
  unfold bandK
  rw [BitVec.toNat_and]
  have h : (BitVec.ofInt 32 x).toNat &&& (BitVec.ofInt 32 65535).toNat ≤ (BitVec.ofInt 32 65535).toNat := Nat.and_le_right
  have e : (BitVec.ofInt 32 65535).toNat = 65535 := by decide
  rw [e] at h ⊢
  omega
/-- Where a bell stands. -/
def BellA (metal : List Int) (a : Int) : Prop := 0 ≤ a ∧ a ≤ metal.length
section
variable {metal : List Int}
theorem ring_ok {a t : Int} (h : BellA metal a) (hm : (metal.length : Int) ≤ 9223372036854775807) : ∃ v a' t', oyezkit_Bell_ring metal a t = some (v, a', t') ∧ (0 ≤ v ∧ v ≤ 65535) ∧ BellA metal a' := by
  unfold BellA at h ⊢
  unfold oyezkit_Bell_ring
  have e : ∃ b u, (if a = (metal.length : Int) then some ((0 : Int), (t + 1) % 4294967296) else some (a, t)) = some (b, u) ∧ 0 ≤ b ∧ (0 < (metal.length : Int) → b < metal.length) ∧ b ≤ metal.length := by
    by_cases h1 : a = (metal.length : Int)
    · exact ⟨_, _, if_pos h1, by omega, fun h => h, by omega⟩
    · exact ⟨_, _, if_neg h1, by omega, fun _ => by omega, by omega⟩
  obtain ⟨b, u, e1, e2, e3, e4⟩ := e
  rw [e1, b2_some, bvE]
  by_cases h2 : 0 < (metal.length : Int)
  · have h3 := e3 h2
    rw [if_pos h2, ix_t (x := metal.getD b.toNat 0) e2 (getD_of (by omega)), bvE, gd_t (by unfold R64; omega), b2_some]
    generalize bxorK 32 _ _ = z
    have hz := bandK_rng z
    rw [gd_t (r64_small (by omega))]
    exact ⟨_, _, _, rfl, hz, by omega, by omega⟩
  · rw [if_neg h2, b2_some]
    generalize bxorK 32 _ _ = z
    have hz := bandK_rng z
    rw [gd_t (r64_small (by omega))]
    exact ⟨_, _, _, rfl, hz, by omega, by omega⟩
theorem stroke_ok {a t n : Int} (h : BellA metal a) (hm : (metal.length : Int) ≤ 9223372036854775807) (hn : -1000000 ≤ n ∧ n ≤ 1000000) : ∃ v a' t', oyezkit_Bell_Stroke metal a t n = some (v, a', t') ∧ 0 ≤ v ∧ (v ≤ n ∨ v = 0) ∧ BellA metal a' := by
  unfold oyezkit_Bell_Stroke
  obtain ⟨v, a', t', h1, h2, h3⟩ := ring_ok (t := t) h hm
  rw [h1, b3_some, gd_t (r64_small (by omega)), gd_t (by split <;> omega)]
  refine ⟨_, _, _, rfl, ?_, ?_, h3⟩
  · exact Int.tmod_nonneg _ h2.1
  · have hpos : 0 < (if n + 1 > 1 then n + 1 else 1) := by split <;> omega
    rw [Int.tmod_eq_emod_of_nonneg h2.1]
    have hlt := Int.emod_lt_of_pos v hpos
    have hge := Int.emod_nonneg v (Int.ne_of_gt hpos)
    generalize v % (if n + 1 > 1 then n + 1 else 1) = z at hlt hge
    split at hlt <;> omega
theorem strike_ok {a t lo hi : Int} (h : BellA metal a) (hm : (metal.length : Int) ≤ 9223372036854775807) (hl : -1000 ≤ lo ∧ lo ≤ 1000) (hh : -1000 ≤ hi ∧ hi ≤ 1000) : ∃ v a' t', oyezkit_Bell_Strike metal a t lo hi = some (v, a', t') ∧ lo ≤ v ∧ (v ≤ hi ∨ v = lo) ∧ BellA metal a' := by
  unfold oyezkit_Bell_Strike
  obtain ⟨v, a', t', h1, h2, h3, h4⟩ := stroke_ok (t := t) (n := hi - lo) h hm (by omega)
  rw [gd_t (r64_small (by omega)), h1, b3_some, gd_t (r64_small (by omega))]
  exact ⟨_, _, _, rfl, by omega, by omega, h4⟩
theorem seldom_ok {a t n : Int} (h : BellA metal a) (hm : (metal.length : Int) ≤ 9223372036854775807) (hn : 0 ≤ n ∧ n ≤ 1000) : ∃ v a' t', oyezkit_Bell_Seldom metal a t n = some (v, a', t') ∧ BellA metal a' := by
  unfold oyezkit_Bell_Seldom
  obtain ⟨v, a', t', h1, h2, h3, h4⟩ := stroke_ok (t := t) (n := n - 1) h hm (by omega)
  rw [gd_t (r64_small (by omega)), h1, b3_some]
  exact ⟨_, _, _, rfl, h4⟩
end
/-- All numbers below n, each once. -/
def Ord (n : Nat) (l : List Int) : Prop := l.length = n ∧ l.Nodup ∧ ∀ x ∈ l, 0 ≤ x ∧ x < (n : Int)
theorem swap_nodup {l : List Int} {i j : Nat} (hi : i < l.length) (hj : j < l.length) (h : l.Nodup) : ((l.set i (l.getD j 0)).set j (l.getD i 0)).Nodup := by
  have gi : l.getD i 0 = l[i] := by rw [List.getD_eq_getElem?_getD, List.getElem?_eq_getElem hi]; rfl
  have gj : l.getD j 0 = l[j] := by rw [List.getD_eq_getElem?_getD, List.getElem?_eq_getElem hj]; rfl
  rw [gi, gj, List.Nodup, List.pairwise_iff_getElem]
  have hp := List.pairwise_iff_getElem.1 h
  have inj : ∀ a b (ha : a < l.length) (hb : b < l.length), l[a] = l[b] → a = b := fun a b ha hb he => by
    rcases Nat.lt_trichotomy a b with h1 | h1 | h1
    · exact absurd he (hp a b ha hb h1)
    · exact h1
    · exact absurd he.symm (hp b a hb ha h1)
  have val : ∀ a (ha : a < ((l.set i l[j]).set j l[i]).length), ∃ b, ∃ hb : b < l.length, ((l.set i l[j]).set j l[i])[a] = l[b] ∧ b = if a = j then i else if a = i then j else a := fun a ha => by
    simp only [List.length_set] at ha
    by_cases h1 : a = j
    · subst h1
      exact ⟨i, hi, by rw [List.getElem_set_self], by rw [if_pos rfl]⟩
    · by_cases h2 : a = i
      · subst h2
        exact ⟨j, hj, by rw [List.getElem_set_ne (fun e => h1 e.symm), List.getElem_set_self], by rw [if_neg h1, if_pos rfl]⟩
      · exact ⟨a, ha, by rw [List.getElem_set_ne (fun e => h1 e.symm), List.getElem_set_ne (fun e => h2 e.symm)], by rw [if_neg h1, if_neg h2]⟩
  intro a b ha hb hab he
  obtain ⟨a', ha', e1, e2⟩ := val a ha
  obtain ⟨b', hb', e3, e4⟩ := val b hb
  have := inj a' b' ha' hb' (by rw [← e1, ← e3]; exact he)
  rw [e2, e4] at this
  repeat (first | omega | split at this)
theorem swap_mem {l : List Int} {i j : Nat} (hi : i < l.length) (hj : j < l.length) {x : Int} (h : x ∈ (l.set i (l.getD j 0)).set j (l.getD i 0)) : x ∈ l := by
  have gi : l.getD i 0 ∈ l := by rw [List.getD_eq_getElem?_getD, List.getElem?_eq_getElem hi]; exact List.getElem_mem _
  have gj : l.getD j 0 ∈ l := by rw [List.getD_eq_getElem?_getD, List.getElem?_eq_getElem hj]; exact List.getElem_mem _
  rcases List.mem_or_eq_of_mem_set h with h | rfl
  · rcases List.mem_or_eq_of_mem_set h with h | rfl
    · exact h
    · exact gj
  · exact gi
section
variable {metal : List Int}
theorem rung_l1 (hm : (metal.length : Int) ≤ 9223372036854775807) : ∀ (fu k : Nat) (a t : Int) (out : List Int), BellA metal a → Ord k out → k + fu ≤ 100000 → ∃ r a' t', oyezkit_Bell_Rung_l1 metal fu (k : Int) a t out = some (r, a', t') ∧ Ord (k + fu) r ∧ BellA metal a'
  | 0, k, a, t, out, ha, ho, _ => ⟨out, a, t, rfl, ho, ha⟩
  | fu + 1, k, a, t, out, ha, ho, hk => by
    obtain ⟨h1, h2, h3⟩ := ho
    obtain ⟨n, a1, t1, e1, g1, g2, g3⟩ := stroke_ok (t := t) (n := (k : Int)) ha hm (by omega)
    obtain ⟨n, rfl⟩ := Int.eq_ofNat_of_zero_le g1
    have hn : n ≤ k := by omega
    have hl : (out ++ [(k : Int)]).length = k + 1 := by simp [h1]
    have hnd : (out ++ [(k : Int)]).Nodup := by
      rw [List.nodup_append]
      refine ⟨h2, by simp, fun x hx y hy he => ?_⟩
      rw [List.mem_singleton] at hy
      have := h3 x hx
      omega
    have hmem : ∀ x ∈ out ++ [(k : Int)], 0 ≤ x ∧ x < ((k + 1 : Nat) : Int) := fun x hx => by
      rcases List.mem_append.1 hx with h | h
      · have := h3 x h; omega
      · rw [List.mem_singleton] at h; omega
    have hO : Ord (k + 1) (((out ++ [(k : Int)]).set n ((out ++ [(k : Int)]).getD k 0)).set k ((out ++ [(k : Int)]).getD n 0)) :=
      ⟨by simp [h1], swap_nodup (by omega) (by omega) hnd, fun x hx => hmem x (swap_mem (by omega) (by omega) hx)⟩
    obtain ⟨r, a2, t2, q1, q2, q3⟩ := rung_l1 hm fu (k + 1) a1 t1 _ g3 hO (by omega)
    refine ⟨r, a2, t2, ?_, by rw [show k + (fu + 1) = k + 1 + fu by omega]; exact q2, q3⟩
    unfold oyezkit_Bell_Rung_l1
    rw [e1, b3_some, ap_t (by omega), ixI _ (by omega), ixI _ (by omega), bvE, Int.toNat_natCast, ixI _ (by rw [List.length_set]; omega), bvE, Int.toNat_natCast, show (k : Int) + 1 = ((k + 1 : Nat) : Int) by omega]
    exact q1
theorem rung_ok (hm : (metal.length : Int) ≤ 9223372036854775807) {a t : Int} (ha : 0 ≤ a ∧ a ≤ metal.length) {n : Nat} (hn : n ≤ 1000) : ∃ r a' t', oyezkit_Bell_Rung metal a t (n : Int) = some (r, a', t') ∧ Ord n r ∧ BellA metal a' := by
  obtain ⟨r, a', t', h1, h2, h3⟩ := rung_l1 hm n 0 a t [] ha ⟨rfl, List.nodup_nil, fun _ h => nomatch h⟩ (by omega)
  rw [Nat.zero_add] at h2
  refine ⟨r, a', t', ?_, h2, h3⟩
  have e : (if (n : Int) > 0 then (n : Int) else 0) = (n : Int) := by split <;> omega
  have h1' : oyezkit_Bell_Rung_l1 metal n 0 a t [] = some (r, a', t') := h1
  unfold oyezkit_Bell_Rung
  rw [e, gd_t ⟨r64_small (by omega), r64_small (by omega)⟩, show Int.toNat ((n : Int) - 0) = n by omega, h1', b3_some]
end
end Go.Proofs.Ytfmapnhfamoecab.Rd
