/- Layer 5: explanations that are tried; the fewest naps are told (NightExplained); in plain Lean. -/
import Derived.Test.YtjgeaaganpkceaaZeQE
namespace Go.Proofs.Ytjgeaaganpkceaa.Nt
open Go.PL
theorem Expl.mem {ls : List (List Int)} : ∀ {hs : List (List Int)} {s : List Nat}, Expl ls hs s → ∀ a ∈ s, a < 2 ^ ls.length
  | [], [], _, _, h => nomatch h
  | _ :: _, _ :: _, h, a, ha => by
    rcases List.mem_cons.1 ha with rfl | ha
    · exact h.1.1
    · exact Expl.mem h.2 a ha
  | [], _ :: _, h, _, _ => h.elim
  | _ :: _, [], h, _, _ => h.elim
section
variable {ls hs : List (List Int)}
theorem tried_l4 (g : GoodW ls hs) {x : List Int} (hx : x.length ≤ 50) : ∀ (fu a : Nat), a < 2 ^ ls.length → ∃ a' : Nat, a' < 2 ^ ls.length ∧ oyezlaw05_tried_l4 ls hs x fu (a : Int) = some (a' : Int)
  | 0, a, ha => ⟨a, ha, rfl⟩
  | fu + 1, a, ha => by
    have hp := pow_le64 g.n6
    have h6 := g.n6
    have hp0 : 0 < 2 ^ ls.length := Nat.pow_pos (by decide)
    unfold oyezlaw05_tried_l4
    rw [lfits_eq (lt63 ha h6) g.small (by omega) hx, b1_some]
    by_cases hf : fitB ls x a = true
    · rw [if_pos hf]; exact ⟨a, ha, rfl⟩
    · have e : Int.tmod ((a : Int) + 1) (((2 ^ ls.length : Nat) : Int)) = (((a + 1) % 2 ^ ls.length : Nat) : Int) := by
        rw [show (a : Int) + 1 = ((a + 1 : Nat) : Int) by omega, Int.tmod_eq_emod_of_nonneg (Int.natCast_nonneg _), ← Int.natCast_emod]
      rw [if_neg hf, gd_t (r64_small (by omega)), gd_t (shl_r (by omega)), shl_nat, gd_t (by omega), bvE, e]
      exact tried_l4 g hx fu _ (Nat.mod_lt _ hp0)
variable {metal : List Int}
theorem tried_l2 (g : GoodW ls hs) (hm : (metal.length : Int) ≤ 9223372036854775807) : ∀ (tl pre : List (List Int)) (a t : Int) (s : List Nat) (b : Nat), hs = pre ++ tl → BellA metal a → Expl ls pre s → b < 2 ^ ls.length →
    ∃ s' ok a' t', oyezlaw05_tried_l2 metal ls hs tl a t (natL s) (b : Int) = some (natL s', ok, a', t') ∧ BellA metal a' ∧ (ok = true → Expl ls hs s')
  | [], pre, a, t, s, b, hd, ha, he, _ => ⟨s, true, a, t, rfl, ha, fun _ => by rw [hd, List.append_nil]; exact he⟩
  | ms :: tl, pre, a, t, s, b, hd, ha, he, hb => by
    have hp := pow_le64 g.n6
    have h6 := g.n6
    have h8 := g.h8
    have hp0 : 0 < 2 ^ ls.length := Nat.pow_pos (by decide)
    have hms : ms ∈ hs := by rw [hd]; simp
    have hl := he.len
    have hlen : pre.length + (tl.length + 1) = hs.length := by rw [hd]; simp
    unfold oyezlaw05_tried_l2
    obtain ⟨v, a1, t1, e1, g1⟩ := seldom_ok (t := t) (n := 3) ha hm (by omega)
    have key : ∃ a2 t2 c, (b3 (oyezkit_Bell_Seldom metal a t 3) fun ok at_2 turn2 => if ok = true then (gd ((0 ≤ ((ls.length : Int) : Int) ∧ ((ls.length : Int) : Int) < 64) ∧ R64 (shl 1 (ls.length : Int))) <| gd (R64 ((shl 1 (ls.length : Int)) - 1)) <| b3 (oyezkit_Bell_Stroke metal at_2 turn2 ((shl 1 (ls.length : Int)) - 1)) fun n at_3 turn3 => some (at_3, turn3, n)) else some (at_2, turn2, (b : Int))) = some (a2, t2, ((c : Nat) : Int)) ∧ BellA metal a2 ∧ c < 2 ^ ls.length := by
      rw [e1, b3_some]
      cases v with
      | true =>
        rw [if_pos rfl, gd_t (shl_r (by omega)), shl_nat, gd_t (r64_nat1 (by omega))]
        obtain ⟨n, a2, t2, e2, k1, k2, k3⟩ := stroke_ok (t := t1) (n := ((2 ^ ls.length : Nat) : Int) - 1) g1 hm (by omega)
        obtain ⟨n, rfl⟩ := Int.eq_ofNat_of_zero_le k1
        rw [e2, b3_some]
        exact ⟨a2, t2, n, rfl, k3, by omega⟩
      | false => exact ⟨a1, t1, b, if_neg (by decide), g1, hb⟩
    obtain ⟨a2, t2, c, e2, k1, k2⟩ := key
    obtain ⟨c2, k3, e3⟩ := tried_l4 g (x := ms) (g.le50 ms hms) (2 ^ ls.length) c k2
    rw [e2, b3_some, gd_t (shl_r (by omega)), shl_nat, gd_t ⟨r64_small (by omega), r64_nat (by omega)⟩, toNat_sub00, e3, b1_some, lfits_eq (lt63 k3 h6) g.small (by omega) (g.le50 ms hms), b1_some]
    cases hf : fitB ls ms c2 with
    | false => rw [if_pos (by decide)]; exact ⟨[], false, a2, t2, rfl, k1, fun h => nomatch h⟩
    | true =>
      rw [if_neg (by decide), ap_t (by simp [natL]; omega)]
      unfold oyezlaw05_tried_j3
      have e4 : natL s ++ [(c2 : Int)] = natL (s ++ [c2]) := by simp [natL]
      rw [e4]
      exact tried_l2 g hm tl (pre ++ [ms]) a2 t2 (s ++ [c2]) c2 (by rw [hd]; simp) k1 (Expl.snoc ⟨k3, hf⟩ he) k3
theorem tried_ok (g : GoodW ls hs) (hm : (metal.length : Int) ≤ 9223372036854775807) {a t : Int} (ha : BellA metal a) : ∃ s' ok a' t', oyezlaw05_tried metal a t ls hs = some (natL s', ok, a', t') ∧ BellA metal a' ∧ (ok = true → Expl ls hs s') := by
  unfold oyezlaw05_tried
  exact tried_l2 g hm hs [] a t [] 0 rfl ha trivial (Nat.pow_pos (by decide))
end
theorem cmp_eq (x y : Int) : cmp_Compare_int x y = some (if x < y then -1 else if y < x then 1 else 0) := by
  unfold cmp_Compare_int cmp_isNaN_int
  rw [b1_some, b1_some, if_neg (by simp), if_neg (by simp)]
  split
  · rfl
  · split <;> rfl
theorem compare_l2 {s1 s2 : List Nat} (hl : s1.length = s2.length) : ∀ (tl u : List Nat) (k : Nat), s2.drop k = u → tl.length = u.length → lexLe u tl → ∃ n : Int, 0 ≤ n ∧ slices_Compare_int_int_l2 (natL s1) (natL s2) (natL tl) (k : Int) = some n
  | [], u, k, _, _, _ => by
    refine ⟨0, Int.le_refl _, ?_⟩
    show slices_Compare_int_int_l2 (natL s1) (natL s2) [] (k : Int) = some 0
    unfold slices_Compare_int_int_l2 slices_Compare_int_int_j1
    rw [if_neg (by simp [natL]; omega)]
  | x :: tl, [], k, _, h, _ => by simp at h
  | x :: tl, y :: u, k, hd, hu, hx => by
    have hk : k < s2.length := by
      rcases Nat.lt_or_ge k s2.length with h' | h'
      · exact h'
      · rw [List.drop_eq_nil_of_le h'] at hd; cases hd
    have hg : (natL s2)[k]? = some (y : Int) := by
      rw [List.drop_eq_getElem_cons hk] at hd
      unfold natL
      rw [List.getElem?_map, List.getElem?_eq_getElem hk, (List.cons.inj hd).1]; rfl
    have hd2 : s2.drop (k + 1) = u := by
      rw [List.drop_eq_getElem_cons hk] at hd
      exact (List.cons.inj hd).2
    rw [natL_cons]; unfold slices_Compare_int_int_l2
    rw [if_neg (by simp [natL]; omega), ix_t (by omega) (by rw [Int.toNat_natCast]; exact hg), cmp_eq, b1_some]
    rcases hx with h | ⟨h, h2⟩
    · refine ⟨1, by omega, ?_⟩
      have ev : (if (x : Int) < (y : Int) then (-1 : Int) else if (y : Int) < (x : Int) then 1 else 0) = 1 := by rw [if_neg (by omega), if_pos (by omega)]
      rw [ev, if_pos (by decide)]
    · obtain ⟨n, h3, h4⟩ := compare_l2 hl tl u (k + 1) hd2 (by simpa using hu) h2
      refine ⟨n, h3, ?_⟩
      have ev : (if (x : Int) < (y : Int) then (-1 : Int) else if (y : Int) < (x : Int) then 1 else 0) = 0 := by rw [if_neg (by omega), if_neg (by omega)]
      rw [ev, if_neg (by decide), show (k : Int) + 1 = ((k + 1 : Nat) : Int) by omega]
      exact h4
theorem compare_ge {s t : List Nat} (hl : s.length = t.length) (h : lexLe t s) : ∃ n : Int, 0 ≤ n ∧ slices_Compare_int_int (natL s) (natL t) = some n := by
  unfold slices_Compare_int_int
  exact compare_l2 hl s t 0 rfl hl h
section
variable {ls hs : List (List Int)} {metal : List Int}
end
end Go.Proofs.Ytjgeaaganpkceaa.Nt
