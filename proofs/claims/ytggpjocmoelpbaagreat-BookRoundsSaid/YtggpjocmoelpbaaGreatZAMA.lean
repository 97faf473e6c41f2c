/- Numbers out of a bell, lists, for beats; in plain Lean. -/
import Derived.Test.YtggpjocmoelpbaaGreatZATd
namespace Go.Proofs.YtggpjocmoelpbaaGreat.Rd
open Go.PL
theorem bvE {α β : Type} {a : α} {f : α → Option β} : bv a f = f a := rfl
theorem r64_small {x : Int} (h : -1000000000 ≤ x ∧ x ≤ 1000000000) : R64 x := by unfold R64; omega
theorem getD_of {α : Type} {xs : List α} {i : Nat} {d : α} (h : i < xs.length) : xs[i]? = some (xs.getD i d) := by
  rw [List.getD_eq_getElem?_getD, List.getElem?_eq_getElem h]; rfl
theorem getD_mem {α : Type} {xs : List α} {i : Nat} {d : α} (h : i < xs.length) : xs.getD i d ∈ xs := by
  rw [List.getD_eq_getElem?_getD, List.getElem?_eq_getElem h]; exact List.getElem_mem h
theorem ixD {α β : Type} {xs : List α} {i : Int} (d : α) (f : α → Option β) (h0 : 0 ≤ i) (h : i < (xs.length : Int)) : ix xs i f = f (xs.getD i.toNat d) := ix_t h0 (getD_of (by omega))
theorem ixN {α β : Type} {xs : List α} {i : Nat} (d : α) (f : α → Option β) (h : i < xs.length) : ix xs (i : Int) f = f (xs.getD i d) := ix_t (by omega) (by rw [Int.toNat_natCast]; exact getD_of h)
theorem ixI {β : Type} {xs : List Int} {i : Nat} (f : Int → Option β) (h : i < xs.length) : ix xs (i : Int) f = f (xs.getD i 0) := ixN 0 f h
theorem getD_setI {α : Type} {d : α} {xs : List α} {i t : Nat} {x : α} (h : i < xs.length) : (xs.set i x).getD t d = if i = t then x else xs.getD t d := by
  rw [List.getD_eq_getElem?_getD, List.getD_eq_getElem?_getD, List.getElem?_set]
  by_cases e : i = t
  · subst e; simp [h]
  · simp [e]
theorem getD_ext {α : Type} {d : α} {xs ys : List α} (hl : xs.length = ys.length) (h : ∀ t, t < xs.length → xs.getD t d = ys.getD t d) : xs = ys := by
  refine List.ext_getElem hl fun t h1 h2 => ?_
  have := h t h1
  rw [List.getD_eq_getElem?_getD, List.getD_eq_getElem?_getD, List.getElem?_eq_getElem h1, List.getElem?_eq_getElem h2] at this
  exact this
theorem drop_cons {α : Type} {xs : List α} {k : Nat} {x : α} {tl : List α} (d : α) (h : xs.drop k = x :: tl) : k < xs.length ∧ xs.getD k d = x ∧ xs.drop (k + 1) = tl := by
  have hk : k < xs.length := by
    rcases Nat.lt_or_ge k xs.length with h1 | h1
    · exact h1
    · rw [List.drop_eq_nil_of_le h1] at h; cases h
  rw [List.drop_eq_getElem_cons hk] at h
  obtain ⟨h1, h2⟩ := List.cons.inj h
  exact ⟨hk, by rw [List.getD_eq_getElem?_getD, List.getElem?_eq_getElem hk, ← h1]; rfl, h2⟩
theorem nn {b : Bool} (h : b = true) : ¬ (!b) = true := by rw [h]; simp
theorem cont_dec {n : Int} {P : Prop} [Decidable P] (h : 0 ≤ n ↔ P) : (some (decide (0 ≤ n)) : Option Bool) = some (decide P) := by
  congr 1; exact decide_eq_decide.2 h
theorem bandK_rng (x : Int) : 0 ≤ bandK 32 x 65535 ∧ bandK 32 x 65535 ≤ 65535 := by
  unfold bandK
  rw [BitVec.toNat_and]
  have h : (BitVec.ofInt 32 x).toNat &&& (BitVec.ofInt 32 65535).toNat ≤ (BitVec.ofInt 32 65535).toNat := Nat.and_le_right
  have e : (BitVec.ofInt 32 65535).toNat = 65535 := by decide
  rw [e] at h ⊢
  omega
def BellA (metal : List Int) (a : Int) : Prop := 0 ≤ a ∧ a ≤ metal.length
section
variable {metal : List Int}
theorem ring_ok {a t : Int} (h : BellA metal a) (hm : (metal.length : Int) ≤ 9223372036854775807) : ∃ v a' t', oyezkit_Bell_ring metal a t = some (v, a', t') ∧ (0 ≤ v ∧ v ≤ 65535) ∧ BellA metal a' := by
  unfold BellA at h ⊢
  unfold oyezkit_Bell_ring
  have e : ∃ b u, (if a = (metal.length : Int) then some ((0 : Int), (t + 1) % 4294967296) else some (a, t)) = some (b, u) ∧ 0 ≤ b ∧ (0 < (metal.length : Int) → b < metal.length) ∧ b ≤ metal.length := by
    by_cases h1 : a = (metal.length : Int)
    · exact ⟨_, _, if_pos h1, by omega, fun h => h, by omega⟩
    · exact ⟨_, _, if_neg h1, by omega, fun _ => by omega, by omega⟩
  obtain ⟨b, u, e1, e2, e3, e4⟩ := e
  rw [e1, b2_some, bvE]
  by_cases h2 : 0 < (metal.length : Int)
  · have h3 := e3 h2
    rw [if_pos h2, ix_t (x := metal.getD b.toNat 0) e2 (getD_of (by omega)), bvE, gd_t (by unfold R64; omega), b2_some]
    generalize bxorK 32 _ _ = z
    have hz := bandK_rng z
    rw [gd_t (r64_small (by omega))]
    exact ⟨_, _, _, rfl, hz, by omega, by omega⟩
  · rw [if_neg h2, b2_some]
    generalize bxorK 32 _ _ = z
    have hz := bandK_rng z
    rw [gd_t (r64_small (by omega))]
    exact ⟨_, _, _, rfl, hz, by omega, by omega⟩
theorem stroke_ok {a t n : Int} (h : BellA metal a) (hm : (metal.length : Int) ≤ 9223372036854775807) (hn : -1000000 ≤ n ∧ n ≤ 1000000) : ∃ v a' t', oyezkit_Bell_Stroke metal a t n = some (v, a', t') ∧ 0 ≤ v ∧ (v ≤ n ∨ v = 0) ∧ BellA metal a' := by
  unfold oyezkit_Bell_Stroke
  obtain ⟨v, a', t', h1, h2, h3⟩ := ring_ok (t := t) h hm
  rw [h1, b3_some, gd_t (r64_small (by omega)), gd_t (by split <;> omega)]
  refine ⟨_, _, _, rfl, ?_, ?_, h3⟩
  · exact Int.tmod_nonneg _ h2.1
  · have hpos : 0 < (if n + 1 > 1 then n + 1 else 1) := by split <;> omega
    rw [Int.tmod_eq_emod_of_nonneg h2.1]
    have hlt := Int.emod_lt_of_pos v hpos
    have hge := Int.emod_nonneg v (Int.ne_of_gt hpos)
    generalize v % (if n + 1 > 1 then n + 1 else 1) = z at hlt hge
    split at hlt <;> omega
theorem strike_ok {a t lo hi : Int} (h : BellA metal a) (hm : (metal.length : Int) ≤ 9223372036854775807) (hl : -1000 ≤ lo ∧ lo ≤ 1000) (hh : -1000 ≤ hi ∧ hi ≤ 1000) : ∃ v a' t', oyezkit_Bell_Strike metal a t lo hi = some (v, a', t') ∧ lo ≤ v ∧ (v ≤ hi ∨ v = lo) ∧ BellA metal a' := by
  unfold oyezkit_Bell_Strike
  obtain ⟨v, a', t', h1, h2, h3, h4⟩ := stroke_ok (t := t) (n := hi - lo) h hm (by omega)
  rw [gd_t (r64_small (by omega)), h1, b3_some, gd_t (r64_small (by omega))]
  exact ⟨_, _, _, rfl, by omega, by omega, h4⟩
theorem seldom_ok {a t n : Int} (h : BellA metal a) (hm : (metal.length : Int) ≤ 9223372036854775807) (hn : 0 ≤ n ∧ n ≤ 1000) : ∃ v a' t', oyezkit_Bell_Seldom metal a t n = some (v, a', t') ∧ BellA metal a' := by
  unfold oyezkit_Bell_Seldom
  obtain ⟨v, a', t', h1, h2, h3, h4⟩ := stroke_ok (t := t) (n := n - 1) h hm (by omega)
  rw [gd_t (r64_small (by omega)), h1, b3_some]
  exact ⟨_, _, _, rfl, h4⟩
end
def Ord (n : Nat) (l : List Int) : Prop := l.length = n ∧ l.Nodup ∧ ∀ x ∈ l, 0 ≤ x ∧ x < (n : Int)
theorem swap_nodup {l : List Int} {i j : Nat} (hi : i < l.length) (hj : j < l.length) (h : l.Nodup) : ((l.set i (l.getD j 0)).set j (l.getD i 0)).Nodup := by
  have gi : l.getD i 0 = l[i] := by rw [List.getD_eq_getElem?_getD, List.getElem?_eq_getElem hi]; rfl
  have gj : l.getD j 0 = l[j] := by rw [List.getD_eq_getElem?_getD, List.getElem?_eq_getElem hj]; rfl
  rw [gi, gj, List.Nodup, List.pairwise_iff_getElem]
  have hp := List.pairwise_iff_getElem.1 h
  have inj : ∀ a b (ha : a < l.length) (hb : b < l.length), l[a] = l[b] → a = b := fun a b ha hb he => by
    rcases Nat.lt_trichotomy a b with h1 | h1 | h1
    · exact absurd he (hp a b ha hb h1)
    · exact h1
    · exact absurd he.symm (hp b a hb ha h1)
  have val : ∀ a (ha : a < ((l.set i l[j]).set j l[i]).length), ∃ b, ∃ hb : b < l.length, ((l.set i l[j]).set j l[i])[a] = l[b] ∧ b = if a = j then i else if a = i then j else a := fun a ha => by
    simp only [List.length_set] at ha
    by_cases h1 : a = j
    · subst h1
      exact ⟨i, hi, by rw [List.getElem_set_self], by rw [if_pos rfl]⟩
    · by_cases h2 : a = i
      · subst h2
        exact ⟨j, hj, by rw [List.getElem_set_ne (fun e => h1 e.symm), List.getElem_set_self], by rw [if_neg h1, if_pos rfl]⟩
      · exact ⟨a, ha, by rw [List.getElem_set_ne (fun e => h1 e.symm), List.getElem_set_ne (fun e => h2 e.symm)], by rw [if_neg h1, if_neg h2]⟩
  intro a b ha hb hab he
  obtain ⟨a', ha', e1, e2⟩ := val a ha
  obtain ⟨b', hb', e3, e4⟩ := val b hb
  have := inj a' b' ha' hb' (by rw [← e1, ← e3]; exact he)
  rw [e2, e4] at this
  repeat (first | omega | split at this)
theorem swap_mem {l : List Int} {i j : Nat} (hi : i < l.length) (hj : j < l.length) {x : Int} (h : x ∈ (l.set i (l.getD j 0)).set j (l.getD i 0)) : x ∈ l := by
  have gi : l.getD i 0 ∈ l := by rw [List.getD_eq_getElem?_getD, List.getElem?_eq_getElem hi]; exact List.getElem_mem _
  have gj : l.getD j 0 ∈ l := by rw [List.getD_eq_getElem?_getD, List.getElem?_eq_getElem hj]; exact List.getElem_mem _
  rcases List.mem_or_eq_of_mem_set h with h | rfl
  · rcases List.mem_or_eq_of_mem_set h with h | rfl
    · exact h
    · exact gj
  · exact gi
section
variable {metal : List Int}
theorem rung_l1 (hm : (metal.length : Int) ≤ 9223372036854775807) : ∀ (fu k : Nat) (a t : Int) (out : List Int), BellA metal a → Ord k out → k + fu ≤ 100000 → ∃ r a' t', oyezkit_Bell_Rung_l1 metal fu (k : Int) a t out = some (r, a', t') ∧ Ord (k + fu) r ∧ BellA metal a'
  | 0, k, a, t, out, ha, ho, _ => ⟨out, a, t, rfl, ho, ha⟩
  | fu + 1, k, a, t, out, ha, ho, hk => by
    obtain ⟨h1, h2, h3⟩ := ho
    obtain ⟨n, a1, t1, e1, g1, g2, g3⟩ := stroke_ok (t := t) (n := (k : Int)) ha hm (by omega)
    obtain ⟨n, rfl⟩ := Int.eq_ofNat_of_zero_le g1
    have hn : n ≤ k := by omega
    have hl : (out ++ [(k : Int)]).length = k + 1 := by simp [h1]
    have hnd : (out ++ [(k : Int)]).Nodup := by
      rw [List.nodup_append]
      refine ⟨h2, by simp, fun x hx y hy he => ?_⟩
      rw [List.mem_singleton] at hy
      have := h3 x hx
      omega
    have hmem : ∀ x ∈ out ++ [(k : Int)], 0 ≤ x ∧ x < ((k + 1 : Nat) : Int) := fun x hx => by
      rcases List.mem_append.1 hx with h | h
      · have := h3 x h; omega
      · rw [List.mem_singleton] at h; omega
    have hO : Ord (k + 1) (((out ++ [(k : Int)]).set n ((out ++ [(k : Int)]).getD k 0)).set k ((out ++ [(k : Int)]).getD n 0)) :=
      ⟨by simp [h1], swap_nodup (by omega) (by omega) hnd, fun x hx => hmem x (swap_mem (by omega) (by omega) hx)⟩
    obtain ⟨r, a2, t2, q1, q2, q3⟩ := rung_l1 hm fu (k + 1) a1 t1 _ g3 hO (by omega)
    refine ⟨r, a2, t2, ?_, by rw [show k + (fu + 1) = k + 1 + fu by omega]; exact q2, q3⟩
    unfold oyezkit_Bell_Rung_l1
    rw [e1, b3_some, ap_t (by omega), ixI _ (by omega), ixI _ (by omega), bvE, Int.toNat_natCast, ixI _ (by rw [List.length_set]; omega), bvE, Int.toNat_natCast, show (k : Int) + 1 = ((k + 1 : Nat) : Int) by omega]
    exact q1
theorem rung_ok (hm : (metal.length : Int) ≤ 9223372036854775807) {a t : Int} (ha : 0 ≤ a ∧ a ≤ metal.length) {n : Nat} (hn : n ≤ 1000) : ∃ r a' t', oyezkit_Bell_Rung metal a t (n : Int) = some (r, a', t') ∧ Ord n r ∧ BellA metal a' := by
  obtain ⟨r, a', t', h1, h2, h3⟩ := rung_l1 hm n 0 a t [] ha ⟨rfl, List.nodup_nil, fun _ h => nomatch h⟩ (by omega)
  rw [Nat.zero_add] at h2
  refine ⟨r, a', t', ?_, h2, h3⟩
  have e : (if (n : Int) > 0 then (n : Int) else 0) = (n : Int) := by split <;> omega
  have h1' : oyezkit_Bell_Rung_l1 metal n 0 a t [] = some (r, a', t') := h1
  unfold oyezkit_Bell_Rung
  rw [e, gd_t ⟨r64_small (by omega), r64_small (by omega)⟩, show Int.toNat ((n : Int) - 0) = n by omega, h1', b3_some]
end
end Go.Proofs.YtggpjocmoelpbaaGreat.Rd
namespace Go.Proofs.YtggpjocmoelpbaaGreat.Rd
open Go.PL
theorem sl_take {α : Type} (l : List α) (n : Int) : sl l 0 n = l.take n.toNat := by unfold sl; simp
def WOK (i j : Nat) (w : Int) : Prop := (i = j → w = 0) ∧ (i ≠ j → w = -1 ∨ (1 ≤ w ∧ w ≤ 20))
def NOK (H : Int) (x : List Int × Int × Int) : Prop := (1 ≤ x.1.length ∧ x.1.Nodup ∧ ∀ h ∈ x.1, 0 ≤ h ∧ h < H) ∧ (1 ≤ x.2.1 ∧ x.2.1 ≤ 5) ∧ (0 ≤ x.2.2 ∧ x.2.2 ≤ 200)
def total (ns : List (List Int × Int × Int)) : Nat := (ns.map fun x => x.1.length).sum
theorem total_snoc (ns : List (List Int × Int × Int)) (x : List Int × Int × Int) : total (ns ++ [x]) = total ns + x.1.length := by
  unfold total; simp
structure BtOK (ws hs : List (List Int)) (H st : Int) (ns : List (List Int × Int × Int)) : Prop where
  hs1 : 1 ≤ hs.length ∧ hs.length ≤ 5
  hw : ws.length = hs.length
  hH : 1 ≤ H ∧ H ≤ 5
  hst : 0 ≤ st ∧ st < (hs.length : Int)
  row : ∀ i, i < ws.length → (ws.getD i []).length = hs.length ∧ ∀ j, j < hs.length → WOK i j ((ws.getD i []).getD j 0)
  hear : ∀ l ∈ hs, l.Nodup ∧ ∀ h ∈ l, 0 ≤ h ∧ h < H
  hn : ns.length ≤ 3
  note : ∀ x ∈ ns, NOK H x
  tot : total ns ≤ 9
section
variable {metal : List Int}
theorem getD_snoc {α : Type} {xs : List α} {x d : α} {i : Nat} : (xs ++ [x]).getD i d = if i < xs.length then xs.getD i d else if i = xs.length then x else d := by
  by_cases h : i < xs.length
  · rw [if_pos h, List.getD_eq_getElem?_getD, List.getD_eq_getElem?_getD, List.getElem?_append_left h]
  · rw [if_neg h]
    by_cases h2 : i = xs.length
    · subst h2; rw [if_pos rfl, List.getD_eq_getElem?_getD, List.getElem?_append_right (Nat.le_refl _)]; simp
    · rw [if_neg h2, List.getD_eq_getElem?_getD, List.getElem?_eq_none (by simp; omega)]; rfl
theorem set_snoc {α : Type} (xs : List α) (x y : α) : (xs ++ [x]).set xs.length y = xs ++ [y] := by
  rw [List.set_append_right _ _ (Nat.le_refl _), Nat.sub_self]; rfl
theorem made_l2 (hm : (metal.length : Int) ≤ 9223372036854775807) {ws : List (List Int)} : ∀ (fu : Nat) (a t : Int) (acc : List Int), BellA metal a → acc.length + fu ≤ 100 → (∀ j, j < acc.length → WOK ws.length j (acc.getD j 0)) →
    ∃ a' t' row, oyezlaw03_Made_l2 metal (ws.length : Int) fu (acc.length : Int) a t (ws ++ [acc]) = some (a', t', ws ++ [row]) ∧ BellA metal a' ∧ row.length = acc.length + fu ∧ ∀ j, j < row.length → WOK ws.length j (row.getD j 0)
  | 0, a, t, acc, ha, _, hw => ⟨a, t, acc, rfl, ha, rfl, hw⟩
  | fu + 1, a, t, acc, ha, hl, hw => by
    unfold oyezlaw03_Made_l2
    obtain ⟨n3, a4, t4, e1, h1, h2, h3⟩ := strike_ok (t := t) (lo := 1) (hi := 6) ha hm (by omega) (by omega)
    rw [e1, b3_some]
    have key : ∃ a6 t6 w, (if (ws.length : Int) = (acc.length : Int) then some (a4, t4, 0) else b3 (oyezkit_Bell_Seldom metal a4 t4 5) fun ok at_5 turn5 => if ok = true then some (at_5, turn5, -1) else some (at_5, turn5, n3)) = some (a6, t6, w) ∧ BellA metal a6 ∧ WOK ws.length acc.length w := by
      by_cases h : (ws.length : Int) = (acc.length : Int)
      · exact ⟨a4, t4, 0, by rw [if_pos h], h3, fun _ => rfl, fun hne => absurd (by omega) hne⟩
      · obtain ⟨ok, a5, t5, e2, h4⟩ := seldom_ok (t := t4) (n := 5) h3 hm (by omega)
        rw [if_neg h, e2, b3_some]
        cases ok with
        | true => exact ⟨a5, t5, -1, by rw [if_pos rfl], h4, fun he => absurd (by omega) h, fun _ => .inl rfl⟩
        | false => exact ⟨a5, t5, n3, by rw [if_neg (by decide)], h4, fun he => absurd (by omega) h, fun _ => .inr (by omega)⟩
    obtain ⟨a6, t6, w, e2, h4, h5⟩ := key
    rw [e2, b3_some, ixN [] _ (by simp), getD_snoc, if_neg (by omega), if_pos rfl, ap_t (by simp; omega), bvE, Int.toNat_natCast, set_snoc]
    obtain ⟨a', t', row, g1, g2, g3, g4⟩ := made_l2 hm fu a6 t6 (acc ++ [w]) h4 (by simp; omega) (fun j hj => by
      rw [getD_snoc]
      rw [List.length_append, List.length_singleton] at hj
      by_cases h : j < acc.length
      · rw [if_pos h]; exact hw j h
      · rw [if_neg h, if_pos (by omega), show j = acc.length by omega]; exact h5)
    rw [List.length_append, List.length_singleton] at g1 g3
    exact ⟨a', t', row, g1, g2, by omega, g4⟩
theorem made_l1 (hm : (metal.length : Int) ≤ 9223372036854775807) {H S : Nat} (hH : H ≤ 100) (hS : S ≤ 50) : ∀ (fu : Nat) (a t : Int) (ws hs : List (List Int)), BellA metal a → ws.length = hs.length → hs.length + fu ≤ 50 →
    (∀ i, i < ws.length → (ws.getD i []).length = S ∧ ∀ j, j < S → WOK i j ((ws.getD i []).getD j 0)) → (∀ l ∈ hs, l.Nodup ∧ ∀ h ∈ l, 0 ≤ h ∧ h < (H : Int)) →
    ∃ a' t' ws' hs', oyezlaw03_Made_l1 metal (H : Int) (S : Int) fu (ws.length : Int) a t ws hs = some (a', t', ws', hs') ∧ BellA metal a' ∧ ws'.length = hs'.length ∧ hs'.length = hs.length + fu ∧
      (∀ i, i < ws'.length → (ws'.getD i []).length = S ∧ ∀ j, j < S → WOK i j ((ws'.getD i []).getD j 0)) ∧ (∀ l ∈ hs', l.Nodup ∧ ∀ h ∈ l, 0 ≤ h ∧ h < (H : Int))
  | 0, a, t, ws, hs, ha, h1, _, h2, h3 => ⟨a, t, ws, hs, rfl, ha, h1, rfl, h2, h3⟩
  | fu + 1, a, t, ws, hs, ha, h1, hl, h2, h3 => by
    unfold oyezlaw03_Made_l1
    obtain ⟨a1, t1, row, e1, k1, k2, k3⟩ := made_l2 (ws := ws) hm S a t [] ha (by simp; omega) (fun j hj => by simp at hj)
    obtain ⟨r, a2, t2, e2, k4, k5⟩ := rung_ok hm (t := t1) k1 (n := H) (by omega)
    obtain ⟨n4, a3, t3, e3, k6, k7, k8⟩ := stroke_ok (t := t2) (n := (r.length : Int)) k5 hm (by rw [k4.1]; omega)
    have e1' : oyezlaw03_Made_l2 metal (ws.length : Int) (Int.toNat ((S : Int) - 0)) 0 a t (ws ++ [[]]) = some (a1, t1, ws ++ [row]) := by rw [show Int.toNat ((S : Int) - 0) = S by omega]; exact e1
    rw [ap_t (by simp; omega), gd_t ⟨r64_small (by omega), r64_small (by omega)⟩, e1', b3_some, e2, b3_some, e3, b3_some, gd_t (by omega), bvE, ap_t (by simp; omega), b4_some]
    rw [List.length_nil, Nat.zero_add] at k2
    obtain ⟨a', t', ws', hs', g1, g2, g3, g4, g5, g6⟩ := made_l1 hm hH hS fu a3 t3 (ws ++ [row]) (hs ++ [sl r 0 n4]) k8 (by simp [h1]) (by simp; omega) (fun i hi => by
      rw [getD_snoc]
      rw [List.length_append, List.length_singleton] at hi
      by_cases h : i < ws.length
      · rw [if_pos h]; exact h2 i h
      · rw [if_neg h, if_pos (by omega)]
        refine ⟨k2, fun j hj => ?_⟩
        rw [show i = ws.length by omega]; exact k3 j (by omega)) (fun l hl => by
      rcases List.mem_append.1 hl with h | h
      · exact h3 l h
      · rw [List.mem_singleton.1 h]
        have hsub : List.Sublist (sl r 0 n4) r := by unfold sl; simpa using List.take_sublist _ _
        exact ⟨hsub.nodup k4.2.1, fun x hx => k4.2.2 x (hsub.subset hx)⟩)
    rw [List.length_append, List.length_singleton] at g1 g4
    exact ⟨a', t', ws', hs', g1, g2, g3, by omega, g5, g6⟩
theorem made_l3 (hm : (metal.length : Int) ≤ 9223372036854775807) {H : Nat} (hH : 1 ≤ H ∧ H ≤ 5) : ∀ (fu : Nat) (a t : Int) (ns : List (List Int × Int × Int)), BellA metal a → ns.length + fu ≤ 3 → (∀ x ∈ ns, NOK (H : Int) x) → total ns ≤ 9 →
    ∃ ns' a' t', oyezlaw03_Made_l3 metal (H : Int) fu a t ns (9 - (total ns : Int)) = some (ns', a', t') ∧ BellA metal a' ∧ ns'.length ≤ 3 ∧ (∀ x ∈ ns', NOK (H : Int) x) ∧ total ns' ≤ 9
  | 0, a, t, ns, ha, hl, h1, h2 => ⟨ns, a, t, rfl, ha, by omega, h1, h2⟩
  | fu + 1, a, t, ns, ha, hl, h1, h2 => by
    unfold oyezlaw03_Made_l3
    obtain ⟨r, a2, t2, e2, k4, k5⟩ := rung_ok hm (t := t) ha (n := H) (by omega)
    have hr := k4.1
    obtain ⟨n7, a3, t3, e3, k6, k7, k8⟩ := strike_ok (t := t2) (lo := 1) (hi := (r.length : Int)) k5 hm (by omega) (by omega)
    rw [e2, b3_some, e3, b3_some, gd_t (by split <;> omega), bvE, sl_take]
    generalize hm' : (if n7 < 9 - (total ns : Int) then n7 else 9 - (total ns : Int)) = m
    have hm1 : 0 ≤ m ∧ m ≤ 9 - (total ns : Int) ∧ m ≤ (r.length : Int) := by rw [← hm']; split <;> omega
    have hlen : (r.take m.toNat).length = m.toNat := by rw [List.length_take]; omega
    have hsub := List.take_sublist m.toNat r
    rw [gd_t (r64_small (by rw [hlen]; omega))]
    by_cases h : 0 < ((r.take m.toNat).length : Int)
    · obtain ⟨n8, a4, t4, e4, q1, q2, q3⟩ := strike_ok (t := t3) (lo := 1) (hi := 4) k8 hm (by omega) (by omega)
      obtain ⟨n9, a5, t5, e5, q4, q5, q6⟩ := strike_ok (t := t4) (lo := 4) (hi := 45) q3 hm (by omega) (by omega)
      rw [if_pos h, e4, b3_some, e5, b3_some, ap_t (by simp; omega)]
      have ht := total_snoc ns (r.take m.toNat, n8, n9)
      obtain ⟨ns', a', t', g1, g2, g3, g4, g5⟩ := made_l3 hm hH fu a5 t5 (ns ++ [(r.take m.toNat, n8, n9)]) q6 (by simp; omega) (fun x hx => by
        rcases List.mem_append.1 hx with h' | h'
        · exact h1 x h'
        · rw [List.mem_singleton.1 h']
          exact ⟨⟨by show 1 ≤ (r.take m.toNat).length; omega, hsub.nodup k4.2.1, fun y hy => k4.2.2 y (hsub.subset hy)⟩, ⟨q1, by show n8 ≤ 5; omega⟩, ⟨by show 0 ≤ n9; omega, by show n9 ≤ 200; omega⟩⟩) (by rw [ht]; show total ns + (r.take m.toNat).length ≤ 9; omega)
      refine ⟨ns', a', t', ?_, g2, g3, g4, g5⟩
      rw [← g1, ht]
      congr 1
      show _ = 9 - ((total ns + (r.take m.toNat).length : Nat) : Int)
      omega
    · rw [if_neg h, show 9 - (total ns : Int) - ((r.take m.toNat).length : Int) = 9 - (total ns : Int) by omega]
      exact made_l3 hm hH fu a3 t3 ns k8 (by omega) h1 h2
theorem made_ok {a t S H N : Int} (ha : BellA metal a) (hm : (metal.length : Int) ≤ 9223372036854775807) (hS : 1 ≤ S ∧ S ≤ 5) (hH : 1 ≤ H ∧ H ≤ 5) (hN : 0 ≤ N ∧ N ≤ 3) :
    ∃ ws hs h st ns a' t', oyezlaw03_Made metal a t S H N = some (ws, hs, h, st, ns, a', t') ∧ BtOK ws hs h st ns ∧ BellA metal a' ∧ h ≤ H ∧ (hs.length : Int) ≤ S ∧ (ns.length : Int) ≤ 3 := by
  unfold oyezlaw03_Made
  obtain ⟨n, a1, t1, e1, h1, h2, h3⟩ := strike_ok (t := t) (lo := 1) (hi := H) ha hm (by omega) (by omega)
  obtain ⟨n2, a2, t2, e2, g1, g2, g3⟩ := strike_ok (t := t1) (lo := 1) (hi := S) h3 hm (by omega) (by omega)
  have hnc : ((n.toNat : Nat) : Int) = n := by omega
  have hn2c : ((n2.toNat : Nat) : Int) = n2 := by omega
  obtain ⟨a3, t3, ws, hs, e3, k1, k2, k3, k4, k5⟩ := made_l1 hm (H := n.toNat) (S := n2.toNat) (by omega) (by omega) n2.toNat a2 t2 [] [] g3 rfl (by simp; omega) (fun i hi => by simp at hi) (fun l hl => nomatch hl)
  rw [hnc, hn2c] at e3
  have e3' : oyezlaw03_Made_l1 metal n n2 (Int.toNat (n2 - 0)) 0 a2 t2 [] [] = some (a3, t3, ws, hs) := by rw [show n2 - 0 = n2 by omega]; exact e3
  rw [List.length_nil, Nat.zero_add] at k3
  obtain ⟨n5, a4, t4, e4, q1, q2, q3⟩ := stroke_ok (t := t3) (n := n2 - 1) k1 hm (by omega)
  obtain ⟨n6, a5, t5, e5, r1, r2, r3⟩ := stroke_ok (t := t4) (n := N) q3 hm (by omega)
  obtain ⟨ns, a6, t6, e6, p1, p2, p3, p4⟩ := made_l3 hm (H := n.toNat) (by omega) (Int.toNat (n6 - 0)) a5 t5 [] r3 (by simp; omega) (fun x hx => nomatch hx) (by decide)
  rw [hnc] at e6 p3 k5
  have e6' : oyezlaw03_Made_l3 metal n (Int.toNat (n6 - 0)) a5 t5 [] 9 = some (ns, a6, t6) := e6
  rw [e1, b3_some, e2, b3_some, gd_t ⟨r64_small (by omega), r64_small (by omega)⟩, e3', b4_some, gd_t (r64_small (by omega)), e4, b3_some, e5, b3_some, gd_t ⟨r64_small (by omega), r64_small (by omega)⟩, e6', b3_some]
  refine ⟨ws, hs, n, n5, ns, a6, t6, rfl, ⟨by omega, k2, by omega, by omega, fun i hi => ?_, k5, p2, p3, p4⟩, p1, by omega, by omega, by omega⟩
  obtain ⟨w1, w2⟩ := k4 i hi
  exact ⟨by omega, fun j hj => w2 j (by omega)⟩
end
end Go.Proofs.YtggpjocmoelpbaaGreat.Rd
namespace Go.Proofs.YtggpjocmoelpbaaGreat.Rd
open Go.PL
theorem in_eq (n lo hi : Int) : round_in n lo hi = some (decide (lo ≤ n ∧ n ≤ hi)) := by
  unfold round_in
  by_cases h : lo ≤ n
  · rw [if_pos h]; congr 1; rw [decide_eq_decide]; omega
  · rw [if_neg h, decide_eq_false (by omega)]
theorem index_l2 (v : Int) : ∀ (l : List Int) (k : Int), 0 ≤ k → ∃ n, slices_Index_int_int_l2 v l k = some n ∧ (0 ≤ n ↔ v ∈ l)
  | [], k, _ => ⟨-1, rfl, by simp⟩
  | x :: l, k, hk => by
    unfold slices_Index_int_int_l2
    by_cases h : v = x
    · exact ⟨k, if_pos h, by simp [h, hk]⟩
    · obtain ⟨n, h1, h2⟩ := index_l2 v l (k + 1) (by omega)
      exact ⟨n, by rw [if_neg h]; exact h1, by rw [h2]; simp [h]⟩
theorem contains_eq (l : List Int) (v : Int) : slices_Contains_int_int l v = some (decide (v ∈ l)) := by
  unfold slices_Contains_int_int slices_Index_int_int
  obtain ⟨n, h1, h2⟩ := index_l2 v l 0 (Int.le_refl _)
  rw [h1, b1_some]; congr 1; rw [decide_eq_decide]; exact h2
theorem idx_l2 {f : List Int → Option Bool} {g : List Int → Bool} : ∀ (l : List (List Int)) (k : Int), 0 ≤ k → (∀ x ∈ l, f x = some (g x)) → ∃ n, slices_IndexFunc_int_int_l2 f l k = some n ∧ (0 ≤ n ↔ l.any g = true)
  | [], k, _, _ => ⟨-1, rfl, by simp⟩
  | x :: l, k, hk, hf => by
    unfold slices_IndexFunc_int_int_l2
    rw [hf x (by simp), b1_some]
    cases h : g x with
    | true => exact ⟨k, if_pos rfl, by simp [h, hk]⟩
    | false =>
      obtain ⟨n, h1, h2⟩ := idx_l2 l (k + 1) (by omega) (fun y hy => hf y (by simp [hy]))
      exact ⟨n, by rw [if_neg (by decide)]; exact h1, by rw [h2]; simp [h]⟩
theorem every_eq {f : List Int → Option Bool} {g : List Int → Bool} {l : List (List Int)} (h : ∀ x ∈ l, f x = some (g x)) : round_every_int l f = some (l.all g) := by
  unfold round_every_int slices_ContainsFunc_int_int slices_IndexFunc_int_int
  obtain ⟨n, h1, h2⟩ := idx_l2 (f := fun xx_ => round_every_int_1 xx_ f) (g := fun x => !g x) l 0 (Int.le_refl _) (fun x hx => by unfold round_every_int_1; rw [h x hx, b1_some])
  rw [h1, b1_some, b1_some]
  congr 1
  rw [List.all_eq_not_any_not]
  congr 1
  rw [Bool.eq_iff_iff, decide_eq_true_iff]
  exact h2
section
variable {ws hs : List (List Int)} {H st : Int} {ns : List (List Int × Int × Int)}
theorem counted_eq (h : BtOK ws hs H st ns) : round_Beat_counted ws hs H st ns = some true := by
  have h1 := h.hs1
  have h2 := h.hH
  have h3 := h.hn
  have h4 := h.hw
  unfold round_Beat_counted
  rw [in_eq, b1_some, if_pos (decide_eq_true (by omega)), in_eq, b1_some, if_pos (decide_eq_true (by omega)), if_pos (by omega), if_pos (by omega), every_eq (f := fun xx_ => round_Beat_counted_1 xx_ (hs.length : Int)) (g := fun l => decide ((l.length : Int) = (hs.length : Int))) (fun x hx => rfl), b1_some]
  congr 1
  rw [List.all_eq_true]
  intro x hx
  obtain ⟨i, hi, rfl⟩ := List.getElem_of_mem hx
  have := (h.row i hi).1
  rw [List.getD_eq_getElem?_getD, List.getElem?_eq_getElem hi, Option.getD_some] at this
  rw [decide_eq_true_iff]; omega
theorem stand_eq (h : BtOK ws hs H st ns) (s : Int) : round_Beat_stand ws hs H st ns s = some (decide (0 ≤ s ∧ s < (hs.length : Int))) := by
  have h1 := h.hs1
  unfold round_Beat_stand
  rw [gd_t (r64_small (by omega)), in_eq, b1_some]
  congr 1; rw [decide_eq_decide]; omega
theorem notice_eq (h : BtOK ws hs H st ns) (s : Int) : round_Beat_notice ws hs H st ns s = some (decide (0 ≤ s ∧ s < (ns.length : Int))) := by
  have h1 := h.hn
  unfold round_Beat_notice
  rw [gd_t (r64_small (by omega)), in_eq, b1_some]
  congr 1; rw [decide_eq_decide]; omega
theorem walkable_l4 {k : Nat} {rec2 : Int → Option Bool} {row : List Int} (hr : ∀ j, j < row.length → WOK k j (row.getD j 0)) : ∀ (tl : List Int) (j : Nat), row.drop j = tl → round_Beat_walkable_l4 (k : Int) rec2 tl (j : Int) = rec2 ((k : Int) + 1)
  | [], _, _ => rfl
  | x :: tl, j, hd => by
    obtain ⟨hj, hx, hd2⟩ := drop_cons 0 hd
    have hw := hr j hj
    rw [hx] at hw
    unfold round_Beat_walkable_l4
    have ih := walkable_l4 (rec2 := rec2) hr tl (j + 1) hd2
    by_cases h : k = j
    · rw [if_pos (by omega), if_neg (not_not_intro (hw.1 h)), if_neg (by omega), b1_some, if_neg (by decide)]
      exact ih
    · rw [if_neg (by omega), if_pos (by omega)]
      rcases hw.2 h with h1 | h1
      · rw [if_neg (not_not_intro h1), b1_some, if_neg (by decide)]
        exact ih
      · rw [if_pos (by omega), in_eq, b1_some, decide_eq_true h1, b1_some, if_neg (by decide)]
        exact ih
theorem walkable_l2 (h : BtOK ws hs H st ns) : ∀ (tl : List (List Int)) (k : Nat), ws.drop k = tl → round_Beat_walkable_l2 tl (k : Int) = some true
  | [], _, _ => rfl
  | x :: tl, k, hd => by
    obtain ⟨hk, hx, hd2⟩ := drop_cons [] hd
    obtain ⟨r1, r2⟩ := h.row k hk
    rw [hx] at r1 r2
    unfold round_Beat_walkable_l2
    have e := walkable_l4 (k := k) (rec2 := round_Beat_walkable_l2 tl) (row := x) (fun j hj => r2 j (by omega)) x 0 rfl
    rw [show ((0 : Nat) : Int) = 0 from rfl] at e
    rw [e]
    exact walkable_l2 h tl (k + 1) hd2
theorem listed_l2 (hH : H ≤ 5) {l : List Int} (h0 : -1000 ≤ H) (hd : l.Nodup) (hx : ∀ x ∈ l, 0 ≤ x ∧ x < H) : ∀ (tl : List Int) (k : Nat), l.drop k = tl → round_Beat_listed_l2 H l tl (k : Int) = some 0
  | [], _, _ => rfl
  | x :: tl, k, hk => by
    obtain ⟨h1, h2, h3⟩ := drop_cons 0 hk
    have hm : x ∈ l := by rw [← h2]; exact getD_mem h1
    have hr := hx x hm
    unfold round_Beat_listed_l2
    have hnot : x ∉ l.take k := by
      intro hc
      have hs : l = l.take k ++ x :: tl := by rw [← hk, List.take_append_drop]
      rw [hs] at hd
      exact (List.nodup_append.1 hd).2.2 x hc x (by simp) rfl
    rw [gd_t (r64_small (by omega)), in_eq, b1_some, decide_eq_true (by omega), if_neg (by decide), gd_t (by omega), bvE, sl_take, contains_eq, b1_some, Int.toNat_natCast, decide_eq_false hnot, if_neg (by decide)]
    exact listed_l2 hH h0 hd hx tl (k + 1) h3
theorem listed_eq (h : BtOK ws hs H st ns) {l : List Int} (hd : l.Nodup) (hx : ∀ x ∈ l, 0 ≤ x ∧ x < H) : round_Beat_listed ws hs H st ns l = some 0 := by
  have := h.hH
  exact listed_l2 (by omega) (by omega) hd hx l 0 rfl
theorem check_eq (h : BtOK ws hs H st ns) {x : List Int × Int × Int} (hx : NOK H x) : round_Beat_check ws hs H st ns x.1 x.2.1 x.2.2 = some 0 := by
  obtain ⟨⟨h1, h2, h3⟩, h4, h5⟩ := hx
  unfold round_Beat_check
  rw [if_neg (by omega), listed_eq h h2 h3, b1_some, if_neg (by decide), in_eq, b1_some, decide_eq_true h4, if_neg (by decide), in_eq, b1_some, decide_eq_true h5, b1_some, if_neg (by decide)]
theorem check_l4 (h : BtOK ws hs H st ns) : ∀ (tl : List (List Int × Int × Int)) (p : Nat), (∀ x ∈ tl, NOK H x) → p + total tl ≤ 9 → round_Check_l4 ws hs H st ns tl (p : Int) = some 0
  | [], p, _, hp => by
    unfold round_Check_l4 round_Check_j3
    rw [if_neg (by have : p ≤ 9 := by omega
                   omega)]
  | x :: tl, p, hx, hp => by
    have e : total (x :: tl) = x.1.length + total tl := by unfold total; simp
    rw [e] at hp
    unfold round_Check_l4
    rw [check_eq h (hx x (by simp)), b1_some, if_neg (by decide), gd_t (r64_small (by omega))]
    exact check_l4 h tl (p + x.1.length) (fun y hy => hx y (by simp [hy])) (by omega)
theorem check_l2 (h : BtOK ws hs H st ns) : ∀ (tl : List (List Int)), (∀ l ∈ tl, l.Nodup ∧ ∀ x ∈ l, 0 ≤ x ∧ x < H) → round_Check_l2 ws hs H st ns tl = some 0
  | [], _ => by
    unfold round_Check_l2 round_Check_j1
    exact check_l4 h ns 0 h.note (by have := h.tot; omega)
  | x :: tl, hx => by
    unfold round_Check_l2
    rw [listed_eq h (hx x (by simp)).1 (hx x (by simp)).2, b1_some, if_neg (by decide)]
    exact check_l2 h tl fun y hy => hx y (by simp [hy])
theorem Check_eq (h : BtOK ws hs H st ns) : round_Check ws hs H st ns = some 0 := by
  unfold round_Check
  have hw : round_Beat_walkable ws hs H st ns = some true := walkable_l2 h ws 0 rfl
  rw [counted_eq h, b1_some, if_neg (by decide), stand_eq h, b1_some, decide_eq_true h.hst, if_neg (by decide), hw, b1_some, if_neg (by decide)]
  exact check_l2 h hs h.hear
end
end Go.Proofs.YtggpjocmoelpbaaGreat.Rd
namespace Go.Proofs.YtggpjocmoelpbaaGreat.Rd
open Go.PL
def en (w : List Int) (i k : Nat) : Int := w.getD (i * 5 + k) 0
structure ThrP (w : List Int) (B : Int) (i k b : Nat) (v : Int) : Prop where
  rng : v = -1 ∨ (0 ≤ v ∧ v ≤ 2 * B)
  old : en w i k ≠ -1 → v ≠ -1 ∧ v ≤ en w i k
  by_ : ∀ j, j < b → en w i j ≠ -1 → en w j k ≠ -1 → v ≠ -1 ∧ v ≤ en w i j + en w j k
  from_ : v = en w i k ∨ ∃ j, j < 5 ∧ en w i j ≠ -1 ∧ en w j k ≠ -1 ∧ v = en w i j + en w j k
def TOK (w : List Int) (B : Int) : Prop := w.length = 25 ∧ ∀ i k, i < 5 → k < 5 → en w i k = -1 ∨ (0 ≤ en w i k ∧ en w i k ≤ B)
theorem r64_small' {x : Int} (h : -4000000000 ≤ x ∧ x ≤ 4000000000) : R64 x := by unfold R64; omega
theorem soonest2 (x y : Int) (hy : 0 ≤ y) : round_soonest [x, y] = some (if x = -1 then y else if y < x then y else x) := by
  unfold round_soonest round_soonest_l1
  by_cases hx : x = -1
  · subst hx
    rw [if_neg (by decide), b1_some, if_neg (by decide)]
    unfold round_soonest_l1
    rw [if_pos (by omega), if_pos rfl, b1_some, if_pos rfl, if_pos rfl]
    unfold round_soonest_l1
    rw [b1_some]
  · rw [if_pos hx, if_pos rfl, b1_some, if_pos rfl, if_neg hx]
    unfold round_soonest_l1
    rw [if_pos (by omega), if_neg hx, b1_some]
    by_cases h : y < x
    · rw [if_pos (decide_eq_true h), if_pos h]
      unfold round_soonest_l1
      rw [b1_some]
    · rw [if_neg (by simpa using h), if_neg h]
      unfold round_soonest_l1
      rw [b1_some]
theorem ixE {β : Type} {w : List Int} (hl : w.length = 25) {i k : Nat} (hi : i < 5) (hk : k < 5) (f : Int → Option β) : ix w ((i : Int) * 5 + (k : Int)) f = f (en w i k) := by
  have h := ixN (xs := w) (i := i * 5 + k) 0 f (by omega)
  rwa [show ((i * 5 + k : Nat) : Int) = (i : Int) * 5 + (k : Int) by omega] at h
theorem en_set {w : List Int} (hl : w.length = 25) {i k i' k' : Nat} (hi : i < 5) (hk : k < 5) (_hi' : i' < 5) (hk' : k' < 5) (v : Int) : en (w.set (i * 5 + k) v) i' k' = if i = i' ∧ k = k' then v else en w i' k' := by
  unfold en
  rw [getD_setI (by omega)]
  by_cases h : i = i' ∧ k = k'
  · rw [if_pos (by rw [h.1, h.2]), if_pos h]
  · rw [if_neg (by omega), if_neg h]
section
variable {w : List Int} {B : Int}
theorem thr_l3 (hw : TOK w B) (hB : 0 ≤ B ∧ B ≤ 1000000000) {i k : Nat} (hi : i < 5) (hk : k < 5) {out : List Int} (ho : out.length = 25) : ∀ (fu b : Nat) (v : Int), b + fu = 5 → ThrP w B i k b v →
    ∃ v', round_walks_through_l3 w (i : Int) (k : Int) fu (b : Int) (out.set (i * 5 + k) v) = some (out.set (i * 5 + k) v') ∧ ThrP w B i k 5 v'
  | 0, b, v, hb, h => ⟨v, rfl, by rwa [show b = 5 by omega] at h⟩
  | fu + 1, b, v, hb, h => by
    have hb5 : b < 5 := by omega
    have hol : (out.set (i * 5 + k) v).length = 25 := by rw [List.length_set]; exact ho
    unfold round_walks_through_l3
    rw [gd_t (by omega), gd_t (by omega), ixE hw.1 hi hb5]
    have r1 := hw.2 i b hi hb5
    have r2 := hw.2 b k hb5 hk
    by_cases c1 : en w i b ≠ -1 ∧ en w b k ≠ -1
    · obtain ⟨c1, c2⟩ := c1
      have e1 : (if en w i b ≠ -1 then gd (0 ≤ (b : Int) ∧ (b : Int) < 5) (gd (0 ≤ (k : Int) ∧ (k : Int) < 5) (ix w ((b : Int) * 5 + (k : Int)) fun x2 => some (decide (x2 ≠ -1)))) else some false) = some true := by
        rw [if_pos c1, gd_t (by omega), gd_t (by omega), ixE hw.1 hb5 hk, decide_eq_true c2]
      have e2 : (i : Int) * 5 + (k : Int) = ((i * 5 + k : Nat) : Int) := by omega
      have e3 : en (out.set (i * 5 + k) v) i k = v := by rw [en_set ho hi hk hi hk, if_pos ⟨rfl, rfl⟩]
      rw [e1, b1_some, if_pos rfl, gd_t (by omega), gd_t (by omega), ixE hol hi hk, e3, gd_t (by omega), gd_t (by omega), ixE hw.1 hi hb5, gd_t (by omega), gd_t (by omega), ixE hw.1 hb5 hk, gd_t (r64_small' (by omega)), gd_t (by omega), soonest2 _ _ (by omega), b1_some, gd_t (by omega), bvE, e2, Int.toNat_natCast, List.set_set]
      refine thr_l3 hw hB hi hk ho fu (b + 1) _ (by omega) ⟨?_, ?_, ?_, ?_⟩
      · have := h.rng
        split
        · omega
        · split <;> omega
      · intro h1
        have := h.old h1
        rw [if_neg this.1]
        split <;> omega
      · intro j hj d1 d2
        by_cases hjb : j = b
        · subst hjb
          split
          · omega
          · split <;> omega
        · have := h.by_ j (by omega) d1 d2
          rw [if_neg this.1]
          split <;> omega
      · split
        · exact .inr ⟨b, hb5, c1, c2, rfl⟩
        · split
          · exact .inr ⟨b, hb5, c1, c2, rfl⟩
          · exact h.from_
    · have e1 : (if en w i b ≠ -1 then gd (0 ≤ (b : Int) ∧ (b : Int) < 5) (gd (0 ≤ (k : Int) ∧ (k : Int) < 5) (ix w ((b : Int) * 5 + (k : Int)) fun x2 => some (decide (x2 ≠ -1)))) else some false) = some false := by
        by_cases d : en w i b ≠ -1
        · rw [if_pos d, gd_t (by omega), gd_t (by omega), ixE hw.1 hb5 hk, decide_eq_false (fun d2 => c1 ⟨d, d2⟩)]
        · rw [if_neg d]
      rw [e1, b1_some, if_neg (by decide)]
      refine thr_l3 hw hB hi hk ho fu (b + 1) v (by omega) ⟨h.rng, h.old, fun j hj d1 d2 => ?_, h.from_⟩
      by_cases hjb : j = b
      · subst hjb; exact absurd ⟨d1, d2⟩ c1
      · exact h.by_ j (by omega) d1 d2
theorem thr_l2 (hw : TOK w B) (hB : 0 ≤ B ∧ B ≤ 1000000000) {i : Nat} (hi : i < 5) : ∀ (fu k : Nat) (out : List Int), k + fu = 5 → out.length = 25 →
    (∀ i' k', i' < 5 → k' < 5 → if i' < i ∨ (i' = i ∧ k' < k) then ThrP w B i' k' 5 (en out i' k') else en out i' k' = en w i' k') →
    ∃ out', round_walks_through_l2 w (i : Int) fu (k : Int) out = some out' ∧ out'.length = 25 ∧ ∀ i' k', i' < 5 → k' < 5 → if i' < i + 1 then ThrP w B i' k' 5 (en out' i' k') else en out' i' k' = en w i' k'
  | 0, k, out, hk, ho, h => ⟨out, rfl, ho, fun i' k' h1 h2 => by
      have := h i' k' h1 h2
      by_cases c : i' < i + 1
      · rw [if_pos c]; rwa [if_pos (by omega)] at this
      · rw [if_neg c]; rwa [if_neg (by omega)] at this⟩
  | fu + 1, k, out, hk, ho, h => by
    have hk5 : k < 5 := by omega
    unfold round_walks_through_l2
    have h0 := h i k hi hk5
    rw [if_neg (by omega)] at h0
    have hv : out.set (i * 5 + k) (en w i k) = out := by
      rw [← h0]; unfold en
      have hlt : i * 5 + k < out.length := by omega
      rw [List.getD_eq_getElem?_getD, List.getElem?_eq_getElem hlt, Option.getD_some, List.set_getElem_self]
    have r := hw.2 i k hi hk5
    obtain ⟨v', e1, h1⟩ := thr_l3 hw hB hi hk5 ho 5 0 (en w i k) rfl ⟨by omega, fun h => ⟨h, Int.le_refl _⟩, fun j hj => absurd hj (by omega), .inl rfl⟩
    rw [hv] at e1
    have e1' : round_walks_through_l3 w (i : Int) (k : Int) (Int.toNat (5 - 0)) 0 out = some (out.set (i * 5 + k) v') := e1
    rw [gd_t ⟨r64_small (by omega), r64_small (by omega)⟩, e1', b1_some]
    refine thr_l2 hw hB hi fu (k + 1) _ (by omega) (by rw [List.length_set]; exact ho) fun i' k' d1 d2 => ?_
    rw [en_set ho hi hk5 d1 d2]
    have h2 := h i' k' d1 d2
    by_cases c : i = i' ∧ k = k'
    · rw [if_pos c, if_pos (by omega)]
      obtain ⟨rfl, rfl⟩ := c
      exact h1
    · rw [if_neg c]
      by_cases c2 : i' < i ∨ (i' = i ∧ k' < k)
      · rw [if_pos c2] at h2; rw [if_pos (by omega)]; exact h2
      · rw [if_neg c2] at h2; rw [if_neg (by omega)]; exact h2
theorem thr_l1 (hw : TOK w B) (hB : 0 ≤ B ∧ B ≤ 1000000000) : ∀ (fu i : Nat) (out : List Int), i + fu = 5 → out.length = 25 →
    (∀ i' k', i' < 5 → k' < 5 → if i' < i then ThrP w B i' k' 5 (en out i' k') else en out i' k' = en w i' k') →
    ∃ out', round_walks_through_l1 w fu (i : Int) out = some out' ∧ out'.length = 25 ∧ ∀ i' k', i' < 5 → k' < 5 → ThrP w B i' k' 5 (en out' i' k')
  | 0, i, out, hi, ho, h => ⟨out, rfl, ho, fun i' k' h1 h2 => by
      have := h i' k' h1 h2
      rwa [if_pos (by omega)] at this⟩
  | fu + 1, i, out, hi, ho, h => by
    unfold round_walks_through_l1
    obtain ⟨out', e1, h1, h2⟩ := thr_l2 hw hB (i := i) (by omega) 5 0 out rfl ho (fun i' k' d1 d2 => by
      have := h i' k' d1 d2
      by_cases c : i' < i
      · rw [if_pos c] at this; rw [if_pos (.inl c)]; exact this
      · rw [if_neg c] at this; rw [if_neg (by omega)]; exact this)
    have e1' : round_walks_through_l2 w (i : Int) (Int.toNat (5 - 0)) 0 out = some out' := e1
    rw [gd_t ⟨r64_small (by omega), r64_small (by omega)⟩, e1', b1_some]
    exact thr_l1 hw hB fu (i + 1) out' (by omega) h1 h2
theorem through_ok (hw : TOK w B) (hB : 0 ≤ B ∧ B ≤ 1000000000) : ∃ w', round_walks_through w = some w' ∧ w'.length = 25 ∧ ∀ i k, i < 5 → k < 5 → ThrP w B i k 5 (en w' i k) := by
  unfold round_walks_through
  obtain ⟨w', e1, h1, h2⟩ := thr_l1 hw hB 5 0 w rfl hw.1 (fun i' k' _ _ => by rw [if_neg (by omega)])
  have e1' : round_walks_through_l1 w (Int.toNat (5 - 0)) 0 w = some w' := e1
  rw [gd_t ⟨r64_small (by omega), r64_small (by omega)⟩, e1', b1_some]
  exact ⟨w', rfl, h1, h2⟩
end
end Go.Proofs.YtggpjocmoelpbaaGreat.Rd
namespace Go.Proofs.YtggpjocmoelpbaaGreat.Rd
open Go.PL
def sm (F : Int → Nat) (w : List Int) : Nat := (w.map F).sum
theorem sm_le {F : Int → Nat} : ∀ (w w' : List Int), w'.length = w.length → (∀ q, q < w.length → F (w'.getD q 0) ≤ F (w.getD q 0)) → sm F w' ≤ sm F w
  | [], [], _, _ => Nat.le_refl _
  | [], _ :: _, h, _ => by simp at h
  | _ :: _, [], h, _ => by simp at h
  | a :: w, b :: w', h, hq => by
    have h0 := hq 0 (by simp)
    have ih := sm_le w w' (by simpa using h) fun q hq' => by
      have := hq (q + 1) (by simpa using hq')
      simpa using this
    unfold sm at *
    simp only [List.map_cons, List.sum_cons]
    have h0' : F b ≤ F a := by simpa using h0
    omega
theorem sm_lt {F : Int → Nat} : ∀ (w w' : List Int), w'.length = w.length → (∀ q, q < w.length → F (w'.getD q 0) ≤ F (w.getD q 0)) → (∃ q, q < w.length ∧ F (w'.getD q 0) < F (w.getD q 0)) → sm F w' < sm F w
  | [], _, _, _, ⟨q, hq, _⟩ => by simp at hq
  | _ :: _, [], h, _, _ => by simp at h
  | a :: w, b :: w', h, hq, ⟨q, hq1, hq2⟩ => by
    have h0 : F b ≤ F a := by simpa using hq 0 (by simp)
    have hr : ∀ q, q < w.length → F (w'.getD q 0) ≤ F (w.getD q 0) := fun q hq' => by
      have := hq (q + 1) (by simpa using hq')
      simpa using this
    have hl : w'.length = w.length := by simpa using h
    have hle := sm_le w w' hl hr
    unfold sm at *
    simp only [List.map_cons, List.sum_cons]
    cases q with
    | zero =>
      have : F b < F a := by simpa using hq2
      omega
    | succ q =>
      have := sm_lt w w' hl hr ⟨q, by simpa using hq1, by simpa using hq2⟩
      unfold sm at this
      omega
def fW (e : Int) : Nat := if e = -1 then 1000000000000 else e.toNat
def gW (e : Int) : Nat := if e = -1 then 1 else 0
theorem sm_bd {F : Int → Nat} {M : Nat} : ∀ (w : List Int), (∀ e ∈ w, F e ≤ M) → sm F w ≤ w.length * M
  | [], _ => by simp [sm]
  | a :: w, h => by
    have ih := sm_bd w fun e he => h e (by simp [he])
    have h0 := h a (by simp)
    unfold sm at *
    simp only [List.map_cons, List.sum_cons, List.length_cons, Nat.succ_mul]
    omega
structure Shp (S : Nat) (w : List Int) : Prop where
  diag : ∀ i, i < S → i < 5 → en w i i = 0
  out : ∀ i k, i < 5 → k < 5 → ¬ (i < S ∧ k < S) → en w i k = -1
  pos : ∀ i k, i < 5 → k < 5 → i ≠ k → en w i k = -1 ∨ 1 ≤ en w i k
theorem en_div {w : List Int} {q : Nat} : en w (q / 5) (q % 5) = w.getD q 0 := by
  unfold en; congr 1; omega
theorem Shp.thr {S : Nat} {w w' : List Int} {B : Int} (h : Shp S w) (hw : TOK w B) (ht : ∀ i k, i < 5 → k < 5 → ThrP w B i k 5 (en w' i k)) : Shp S w' where
  diag := fun i h1 h2 => by
    have h3 := ht i i h2 h2
    have h4 := h.diag i h1 h2
    have h5 := h3.old (by omega)
    have h6 := h3.rng
    omega
  out := fun i k h1 h2 h3 => by
    rcases (ht i k h1 h2).from_ with h4 | ⟨j, h4, h5, h6, _⟩
    · rw [h4]; exact h.out i k h1 h2 h3
    · by_cases c : i < S
      · have : ¬ (j < S ∧ k < S) := fun c2 => h3 ⟨c, c2.2⟩
        exact absurd (h.out j k h4 h2 this) h6
      · exact absurd (h.out i j h1 h4 (fun c2 => c c2.1)) h5
  pos := fun i k h1 h2 h3 => by
    rcases (ht i k h1 h2).from_ with h4 | ⟨j, h4, h5, h6, h7⟩
    · rw [h4]; exact h.pos i k h1 h2 h3
    · have r1 := hw.2 i j h1 h4
      have r2 := hw.2 j k h4 h2
      by_cases c : i = j
      · have := h.pos j k h4 h2 (by omega)
        omega
      · have := h.pos i j h1 h4 c
        omega
structure Fin5 (S : Nat) (w : List Int) : Prop where
  len : w.length = 25
  shp : Shp S w
  rng : ∀ i k, i < 5 → k < 5 → en w i k = -1 ∨ (0 ≤ en w i k ∧ en w i k ≤ 1000000000)
  tri : ∀ i j k, i < 5 → j < 5 → k < 5 → en w i j ≠ -1 → en w j k ≠ -1 → en w i k ≠ -1 ∧ en w i k ≤ en w i j + en w j k
theorem TOK.r64 {w : List Int} {B : Int} (h : TOK w B) (hB : B ≤ 4000000000) : ∀ x ∈ w, R64 x := fun x hx => by
  obtain ⟨q, hq, rfl⟩ := List.getElem_of_mem hx
  have h1 := h.1
  have h2 := h.2 (q / 5) (q % 5) (by omega) (by omega)
  rw [en_div, List.getD_eq_getElem?_getD, List.getElem?_eq_getElem hq, Option.getD_some] at h2
  exact r64_small' (by omega)
theorem fix_ok {S : Nat} {Q : List Int → Prop} (hQ : ∀ (w w' : List Int) (B : Int), Q w → (∀ i k, i < 5 → k < 5 → ThrP w B i k 5 (en w' i k)) → Q w') : ∀ (fu : Nat) (w w' : List Int) (B : Nat), Q w → TOK w (B : Int) → B ≤ 20 * 2 ^ (25 - sm gW w) → sm gW w ≤ 25 → Shp S w → w'.length = 25 → (∀ i k, i < 5 → k < 5 → ThrP w (B : Int) i k 5 (en w' i k)) → sm fW w < fu →
    ∃ r, round_opened_l3 fu w w' = some r ∧ Fin5 S r ∧ Q r
  | 0, _, _, _, _, _, _, _, _, _, _, h => by omega
  | fu + 1, w, w', B, hq, hw, hB, hc, hs, hl, ht, hf => by
    have hp : (2 : Nat) ^ (25 - sm gW w) ≤ 2 ^ 25 := Nat.pow_le_pow_right (by decide) (by omega)
    have hB2 : B ≤ 671088640 := by
      have : (20 : Nat) * 2 ^ 25 = 671088640 := by decide
      omega
    have hw2 : TOK w' (2 * (B : Int)) := ⟨hl, fun i k h1 h2 => (ht i k h1 h2).rng⟩
    have hwl := hw.1
    unfold round_opened_l3
    rw [gd_t (hw2.r64 (by omega)), gd_t (hw.r64 (by omega))]
    by_cases he : w' = w
    · rw [if_neg (not_not_intro he)]
      subst he
      refine ⟨w', rfl, ⟨hl, hs, fun i k h1 h2 => ?_, fun i j k h1 h2 h3 h4 h5 => (ht i k h1 h3).by_ j h2 h4 h5⟩, hq⟩
      have := hw.2 i k h1 h2
      omega
    · rw [if_pos he]
      have hen : ∀ q, q < 25 → ThrP w (B : Int) (q / 5) (q % 5) 5 (w'.getD q 0) := fun q hq => by
        have := ht (q / 5) (q % 5) (by omega) (by omega)
        rwa [en_div] at this
      have hq0 : ∀ q, q < 25 → w.getD q 0 = -1 ∨ (0 ≤ w.getD q 0 ∧ w.getD q 0 ≤ (B : Int)) := fun q hq => by
        have := hw.2 (q / 5) (q % 5) (by omega) (by omega)
        rwa [en_div] at this
      have hfle : ∀ q, q < w.length → fW (w'.getD q 0) ≤ fW (w.getD q 0) := fun q hq => by
        have t := hen q (by omega)
        have o := t.old; have rg := t.rng; have z := hq0 q (by omega)
        rw [en_div] at o
        unfold fW
        by_cases c : w.getD q 0 = -1
        · rw [if_pos c]; split <;> omega
        · rw [if_neg c, if_neg (o c).1]
          have := (o c).2
          omega
      have hne : ∃ q, q < w.length ∧ w'.getD q 0 ≠ w.getD q 0 := Classical.byContradiction fun hn => he (getD_ext (d := 0) (by omega) fun t ht' => Classical.byContradiction fun hne => hn ⟨t, by omega, hne⟩)
      have hflt : sm fW w' < sm fW w := by
        refine sm_lt w w' (by omega) hfle ?_
        obtain ⟨q, hq, hd⟩ := hne
        refine ⟨q, hq, ?_⟩
        have t := hen q (by omega)
        have o := t.old; have rg := t.rng; have z := hq0 q (by omega)
        rw [en_div] at o
        unfold fW
        by_cases c : w.getD q 0 = -1
        · rw [if_pos c, if_neg (by omega)]; omega
        · rw [if_neg c, if_neg (o c).1]
          have := (o c).2
          omega
      have hgle : ∀ q, q < w.length → gW (w'.getD q 0) ≤ gW (w.getD q 0) := fun q hq => by
        have o := (hen q (by omega)).old
        rw [en_div] at o
        unfold gW
        by_cases c : w.getD q 0 = -1
        · rw [if_pos c]; split <;> omega
        · rw [if_neg c, if_neg (o c).1]; exact Nat.le_refl _
      have hgle' := sm_le w w' (by omega) hgle
      have key : ∃ B' : Nat, TOK w' (B' : Int) ∧ B' ≤ 20 * 2 ^ (25 - sm gW w') := by
        by_cases c : ∃ q, q < w.length ∧ w.getD q 0 = -1 ∧ w'.getD q 0 ≠ -1
        · obtain ⟨q, hq, d1, d2⟩ := c
          have hlt : sm gW w' < sm gW w := sm_lt w w' (by omega) hgle ⟨q, hq, by unfold gW; rw [if_neg d2, if_pos d1]; decide⟩
          refine ⟨2 * B, by simpa using hw2, ?_⟩
          have hpw : (2 : Nat) ^ (25 - sm gW w') = 2 ^ (25 - sm gW w) * 2 ^ (sm gW w - sm gW w') := by rw [← Nat.pow_add]; congr 1; omega
          have h2 : 2 ≤ (2 : Nat) ^ (sm gW w - sm gW w') := by
            have := Nat.pow_le_pow_right (n := 2) (by decide) (show 1 ≤ sm gW w - sm gW w' by omega)
            simpa using this
          have h3 : 2 ^ (25 - sm gW w) * 2 ≤ 2 ^ (25 - sm gW w) * 2 ^ (sm gW w - sm gW w') := Nat.mul_le_mul_left _ h2
          rw [hpw]
          omega
        · refine ⟨B, ⟨hl, fun i k h1 h2 => ?_⟩, ?_⟩
          · have t := ht i k h1 h2
            have z := hw.2 i k h1 h2
            by_cases d : en w i k = -1
            · left
              refine Classical.byContradiction fun hn => c ⟨i * 5 + k, by omega, d, hn⟩
            · have := t.old d
              have := t.rng
              omega
          · have hpw : (2 : Nat) ^ (25 - sm gW w) ≤ 2 ^ (25 - sm gW w') := Nat.pow_le_pow_right (by decide) (by omega)
            omega
      obtain ⟨B', hB'1, hB'2⟩ := key
      have hp' : (2 : Nat) ^ (25 - sm gW w') ≤ 2 ^ 25 := Nat.pow_le_pow_right (by decide) (by omega)
      have hB3 : B' ≤ 671088640 := by
        have : (20 : Nat) * 2 ^ 25 = 671088640 := by decide
        omega
      obtain ⟨w2, e2, g1, g2⟩ := through_ok hB'1 (by omega)
      rw [e2, b1_some]
      exact fix_ok hQ fu w' w2 B' (hQ w w' B hq ht) hB'1 hB'2 (by omega) (hs.thr hw ht) g1 g2 (by omega)
end Go.Proofs.YtggpjocmoelpbaaGreat.Rd
