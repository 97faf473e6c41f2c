/- Beats with other hours; in plain Lean. -/
import Derived.Test.YtfmapnhfamoecaaZEMD
namespace Go.Proofs.Ytfmapnhfamoecaa.Rd
open Go.PL Go.Proofs.Ytfmapnhfamoecaa.Rv
/-- Two lists of notices that differ in their hours only. -/
structure Lk (ns ns' : List (List Int × Int × Int)) : Prop where
  len : ns'.length = ns.length
  q : ∀ i, (ns'.getD i ([], 0, 0)).1 = (ns.getD i ([], 0, 0)).1
  w : ∀ i, (ns'.getD i ([], 0, 0)).2.1 = (ns.getD i ([], 0, 0)).2.1
theorem Lk.refl (ns : List (List Int × Int × Int)) : Lk ns ns := ⟨rfl, fun _ => rfl, fun _ => rfl⟩
theorem Lk.trans {a b c : List (List Int × Int × Int)} (h : Lk a b) (h2 : Lk b c) : Lk a c := ⟨h2.len.trans h.len, fun i => (h2.q i).trans (h.q i), fun i => (h2.w i).trans (h.w i)⟩
theorem Lk.map {ns ns' : List (List Int × Int × Int)} (h : Lk ns ns') : ns'.map (·.1) = ns.map (·.1) := by
  refine List.ext_getElem (by simp [h.len]) fun i h1 h2 => ?_
  rw [List.length_map] at h1 h2
  have := h.q i
  rw [List.getD_eq_getElem?_getD, List.getD_eq_getElem?_getD, List.getElem?_eq_getElem h1, List.getElem?_eq_getElem h2] at this
  simpa using this
theorem total_map (ns : List (List Int × Int × Int)) : total ns = ((ns.map (·.1)).map List.length).sum := by unfold total; rw [List.map_map]; rfl
section
variable {ws hs : List (List Int)} {H st : Int} {ns ns' : List (List Int × Int × Int)} {c : List Int} {ps : List (Int × Int)} {hit : List Int} {bd bd' : Nat → Int} {D D' : Nat → Bool} {v : Nat}
theorem BtOK.other (h : BtOK ws hs H st ns) (hk : Lk ns ns') (hh : ∀ i, i < ns.length → 0 ≤ (ns'.getD i ([], 0, 0)).2.2 ∧ (ns'.getD i ([], 0, 0)).2.2 ≤ 200) : BtOK ws hs H st ns' := by
  refine ⟨h.hs1, h.hw, h.hH, h.hst, h.row, h.hear, by rw [hk.len]; exact h.hn, fun x hx => ?_, by rw [total_map, hk.map, ← total_map]; exact h.tot⟩
  obtain ⟨i, hi, rfl⟩ := List.getElem_of_mem hx
  have hi' : i < ns.length := by rw [← hk.len]; exact hi
  have hg : ns'.getD i ([], 0, 0) = ns'[i] := by rw [List.getD_eq_getElem?_getD, List.getElem?_eq_getElem hi]; rfl
  obtain ⟨h1, h2, _⟩ := h.note _ (getD_mem (d := ([], 0, 0)) hi')
  have h3 := hh i hi'
  rw [← hk.q i, hg] at h1
  rw [← hk.w i, hg] at h2
  rw [hg] at h3
  exact ⟨h1, h2, h3⟩
theorem opened_inj (h : BtOK ws hs H st ns) (e : round_opened ws hs H st ns = some (some (ws, hs, H, st, ns, c, ps, hit), 0)) : ∃ c0 a, round_opened_l1 ws (Int.toNat (5 - 0)) 0 (List.replicate 25 0) = some c0 ∧ round_walks_through c0 = some a ∧ round_opened_l3 FU c0 a = some c ∧ round_opened_l4 hs ns 0 [] (List.replicate 15 0) = some (ps, hit) := by
  obtain ⟨c0, a, c1, e1, e2, e3, hc⟩ := walks_ok h
  have h0 : PrsOK ns 0 [] := ⟨rfl, List.nodup_nil, fun q => ⟨fun hq => (nomatch hq), fun hq => absurd hq.1 (by omega)⟩⟩
  have hz : Hit (List.replicate 15 0) (QP hs []) := Hit.zero.congr fun s n p _ _ => by unfold QP; simp
  obtain ⟨ps1, hit1, e4, _, _⟩ := open_l4 h ns 0 [] (List.replicate 15 0) rfl h0 (Nat.zero_le _) hz
  have e4' : round_opened_l4 hs ns 0 [] (List.replicate 15 0) = some (ps1, hit1) := e4
  unfold round_opened at e
  rw [Check_eq h, b1_some, if_neg (by decide), gd_t ⟨r64_small (by omega), r64_small (by omega)⟩, e1, b1_some, e2, b1_some, e3, b1_some, e4', b2_some] at e
  simp only [Option.some.injEq, Prod.mk.injEq, and_true, true_and] at e
  obtain ⟨rfl, rfl, rfl⟩ := e
  exact ⟨c0, a, e1, e2, e3, e4'⟩
theorem cpyR {α : Type} (z : α) (l : List α) : cpy (List.replicate l.length z) l = l := by unfold cpy; simp
theorem nodup_len {l : List Int} {H : Int} (hd : l.Nodup) (hx : ∀ x ∈ l, 0 ≤ x ∧ x < H) (hH : H ≤ 5) : l.length ≤ 1000 := by
  have h := hd.length_le_of_subset (l₂ := [0, 1, 2, 3, 4]) fun x hm => by
    have := hx x hm
    simp only [List.mem_cons, List.not_mem_nil, or_false]
    omega
  have e : ([0, 1, 2, 3, 4] : List Int).length = 5 := rfl
  omega
end
end Go.Proofs.Ytfmapnhfamoecaa.Rd
namespace Go.Proofs.Ytfmapnhfamoecaa.Rd
open Go.PL Go.Proofs.Ytfmapnhfamoecaa.Rv
def toI (c : List Nat) : List Int := c.map fun i : Nat => (i : Int)
/-- The pairs of some notices, as a set. -/
def ofB (ps : List (Int × Int)) (l : List Int) : Nat := setL ((List.range ps.length).filter fun i => decide ((ps.getD i (0, 0)).1 ∈ l)) 0
theorem ofB_bit (ps : List (Int × Int)) (l : List Int) (i : Nat) : (ofB ps l).testBit i = decide (i < ps.length ∧ (ps.getD i (0, 0)).1 ∈ l) := by
  unfold ofB
  rw [setL_bit, Nat.zero_testBit, Bool.false_or, decide_eq_decide, List.mem_filter, List.mem_range, decide_eq_true_iff]
theorem ofB_lt (ps : List (Int × Int)) (l : List Int) : ofB ps l < 2 ^ ps.length := setL_lt _ _ (Nat.pow_pos (by decide)) fun i hi => List.mem_range.1 (List.mem_filter.1 hi).1
section
variable {ws hs : List (List Int)} {H st : Int} {ns ns' : List (List Int × Int × Int)} {c : List Int} {ps : List (Int × Int)} {hit : List Int} {bd bd' : Nat → Int} {D D' : Nat → Bool}
theorem of_l1 {l : List Int} : ∀ (tl : List (Int × Int)) (k set : Nat), ps.drop k = tl → k + tl.length ≤ 9 → set < 2 ^ 9 → round_crier_of_l1 l tl (k : Int) (set : Int) = some (setL ((List.range' k tl.length).filter fun i => decide ((ps.getD i (0, 0)).1 ∈ l)) set : Int)
  | [], k, set, _, _, _ => rfl
  | x :: tl, k, set, hd, hk, hs' => by
    obtain ⟨h1, h2, h3⟩ := drop_cons (0, 0) hd
    rw [List.length_cons] at hk
    have hpow : (2 : Nat) ^ k < 2 ^ 9 := Nat.pow_lt_pow_right (by decide) (by omega)
    have h512 : (2 : Nat) ^ 9 = 512 := by decide
    unfold round_crier_of_l1
    rw [contains_eq, b1_some, List.length_cons, List.range'_succ, List.filter_cons, h2]
    by_cases m : x.1 ∈ l
    · rw [if_pos (decide_eq_true m), if_pos (decide_eq_true m), gd_t (shl_r (by omega)), shl_nat, bor_nat (by omega) (by omega)]
      exact of_l1 tl (k + 1) _ h3 (by omega) (Nat.or_lt_two_pow hs' hpow)
    · rw [if_neg (by simpa using m), if_neg (by simpa using m)]
      exact of_l1 tl (k + 1) _ h3 (by omega) hs'
theorem of_eq (h9 : ps.length ≤ 9) (l : List Int) : round_crier_of ws hs H st ns c ps hit l = some (ofB ps l : Int) := by
  have e := of_l1 (ps := ps) (l := l) ps 0 0 rfl (by omega) (by decide)
  have e' : round_crier_of_l1 l ps 0 0 = some (setL ((List.range' 0 ps.length).filter fun i => decide ((ps.getD i (0, 0)).1 ∈ l)) 0 : Int) := e
  unfold round_crier_of ofB
  rw [e', b1_some, List.range_eq_range']
/-- The longest list that goes on from one. -/
structure MostP (D : Nat → Bool) (ps : List (Int × Int)) (N : Nat) (l : List Int) (f : Nat) (out R : List Int) : Prop where
  ge : out.length ≤ R.length
  src : R = out ∨ ∃ c, Up N f c ∧ R = l ++ toI c ∧ D (ofB ps R) = true
  max : ∀ c, Up N f c → D (ofB ps (l ++ toI c)) = true → (l ++ toI c).length ≤ R.length
end
end Go.Proofs.Ytfmapnhfamoecaa.Rd
