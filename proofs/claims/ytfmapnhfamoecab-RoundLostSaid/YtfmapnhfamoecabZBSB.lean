/- What a beat is; beats that are made; in plain Lean. -/
import Derived.Test.YtfmapnhfamoecabZBSA
namespace Go.Proofs.Ytfmapnhfamoecab.Rd
open Go.PL
theorem sl_take {α : Type} (l : List α) (n : Int) : sl l 0 n = l.take n.toNat := by unfold sl; simp
/-- A walk from one stand to another. -/
def WOK (i j : Nat) (w : Int) : Prop := (i = j → w = 0) ∧ (i ≠ j → w = -1 ∨ (1 ≤ w ∧ w ≤ 20))
/-- A notice of a beat. -/
def NOK (H : Int) (x : List Int × Int × Int) : Prop := (1 ≤ x.1.length ∧ x.1.Nodup ∧ ∀ h ∈ x.1, 0 ≤ h ∧ h < H) ∧ (1 ≤ x.2.1 ∧ x.2.1 ≤ 5) ∧ (0 ≤ x.2.2 ∧ x.2.2 ≤ 200)
def total (ns : List (List Int × Int × Int)) : Nat := (ns.map fun x => x.1.length).sum
theorem total_snoc (ns : List (List Int × Int × Int)) (x : List Int × Int × Int) : total (ns ++ [x]) = total ns + x.1.length := by
  unfold total; simp
/-- A beat that is right. -/
structure BtOK (ws hs : List (List Int)) (H st : Int) (ns : List (List Int × Int × Int)) : Prop where
  hs1 : 1 ≤ hs.length ∧ hs.length ≤ 5
  hw : ws.length = hs.length
  hH : 1 ≤ H ∧ H ≤ 5
  hst : 0 ≤ st ∧ st < (hs.length : Int)
  row : ∀ i, i < ws.length → (ws.getD i []).length = hs.length ∧ ∀ j, j < hs.length → WOK i j ((ws.getD i []).getD j 0)
  hear : ∀ l ∈ hs, l.Nodup ∧ ∀ h ∈ l, 0 ≤ h ∧ h < H
  hn : ns.length ≤ 3
  note : ∀ x ∈ ns, NOK H x
  tot : total ns ≤ 9
section
variable {metal : List Int}
theorem getD_snoc {α : Type} {xs : List α} {x d : α} {i : Nat} : (xs ++ [x]).getD i d = if i < xs.length then xs.getD i d else if i = xs.length then x else d := by
  by_cases h : i < xs.length
  · rw [if_pos h, List.getD_eq_getElem?_getD, List.getD_eq_getElem?_getD, List.getElem?_append_left h]
  · rw [if_neg h]
    by_cases h2 : i = xs.length
    · subst h2; rw [if_pos rfl, List.getD_eq_getElem?_getD, List.getElem?_append_right (Nat.le_refl _)]; simp
    · rw [if_neg h2, List.getD_eq_getElem?_getD, List.getElem?_eq_none (by simp; omega)]; rfl
theorem set_snoc {α : Type} (xs : List α) (x y : α) : (xs ++ [x]).set xs.length y = xs ++ [y] := by
  rw [List.set_append_right _ _ (Nat.le_refl _), Nat.sub_self]; rfl
theorem made_l2 (hm : (metal.length : Int) ≤ 9223372036854775807) {ws : List (List Int)} : ∀ (fu : Nat) (a t : Int) (acc : List Int), BellA metal a → acc.length + fu ≤ 100 → (∀ j, j < acc.length → WOK ws.length j (acc.getD j 0)) →
    ∃ a' t' row, oyezlaw03_Made_l2 metal (ws.length : Int) fu (acc.length : Int) a t (ws ++ [acc]) = some (a', t', ws ++ [row]) ∧ BellA metal a' ∧ row.length = acc.length + fu ∧ ∀ j, j < row.length → WOK ws.length j (row.getD j 0)
  | 0, a, t, acc, ha, _, hw => ⟨a, t, acc, rfl, ha, rfl, hw⟩
  | fu + 1, a, t, acc, ha, hl, hw => by
    unfold oyezlaw03_Made_l2
    obtain ⟨n3, a4, t4, e1, h1, h2, h3⟩ := strike_ok (t := t) (lo := 1) (hi := 6) ha hm (by omega) (by omega)
    rw [e1, b3_some]
    have key : ∃ a6 t6 w, (if (ws.length : Int) = (acc.length : Int) then some (a4, t4, 0) else b3 (oyezkit_Bell_Seldom metal a4 t4 5) fun ok at_5 turn5 => if ok = true then some (at_5, turn5, -1) else some (at_5, turn5, n3)) = some (a6, t6, w) ∧ BellA metal a6 ∧ WOK ws.length acc.length w := by
      by_cases h : (ws.length : Int) = (acc.length : Int)
      · exact ⟨a4, t4, 0, by rw [if_pos h], h3, fun _ => rfl, fun hne => absurd (by omega) hne⟩
      · obtain ⟨ok, a5, t5, e2, h4⟩ := seldom_ok (t := t4) (n := 5) h3 hm (by omega)
        rw [if_neg h, e2, b3_some]
        cases ok with
        | true => exact ⟨a5, t5, -1, by rw [if_pos rfl], h4, fun he => absurd (by omega) h, fun _ => .inl rfl⟩
        | false => exact ⟨a5, t5, n3, by rw [if_neg (by decide)], h4, fun he => absurd (by omega) h, fun _ => .inr (by omega)⟩
    obtain ⟨a6, t6, w, e2, h4, h5⟩ := key
    rw [e2, b3_some, ixN [] _ (by simp), getD_snoc, if_neg (by omega), if_pos rfl, ap_t (by simp; omega), bvE, Int.toNat_natCast, set_snoc]
    obtain ⟨a', t', row, g1, g2, g3, g4⟩ := made_l2 hm fu a6 t6 (acc ++ [w]) h4 (by simp; omega) (fun j hj => by
      rw [getD_snoc]
      rw [List.length_append, List.length_singleton] at hj
      by_cases h : j < acc.length
      · rw [if_pos h]; exact hw j h
      · rw [if_neg h, if_pos (by omega), show j = acc.length by omega]; exact h5)
    rw [List.length_append, List.length_singleton] at g1 g3
    exact ⟨a', t', row, g1, g2, by omega, g4⟩
theorem made_l1 (hm : (metal.length : Int) ≤ 9223372036854775807) {H S : Nat} (hH : H ≤ 100) (hS : S ≤ 50) : ∀ (fu : Nat) (a t : Int) (ws hs : List (List Int)), BellA metal a → ws.length = hs.length → hs.length + fu ≤ 50 →
    (∀ i, i < ws.length → (ws.getD i []).length = S ∧ ∀ j, j < S → WOK i j ((ws.getD i []).getD j 0)) → (∀ l ∈ hs, l.Nodup ∧ ∀ h ∈ l, 0 ≤ h ∧ h < (H : Int)) →
    ∃ a' t' ws' hs', oyezlaw03_Made_l1 metal (H : Int) (S : Int) fu (ws.length : Int) a t ws hs = some (a', t', ws', hs') ∧ BellA metal a' ∧ ws'.length = hs'.length ∧ hs'.length = hs.length + fu ∧
      (∀ i, i < ws'.length → (ws'.getD i []).length = S ∧ ∀ j, j < S → WOK i j ((ws'.getD i []).getD j 0)) ∧ (∀ l ∈ hs', l.Nodup ∧ ∀ h ∈ l, 0 ≤ h ∧ h < (H : Int))
  | 0, a, t, ws, hs, ha, h1, _, h2, h3 => ⟨a, t, ws, hs, rfl, ha, h1, rfl, h2, h3⟩
  | fu + 1, a, t, ws, hs, ha, h1, hl, h2, h3 => by
    unfold oyezlaw03_Made_l1
    obtain ⟨a1, t1, row, e1, k1, k2, k3⟩ := made_l2 (ws := ws) hm S a t [] ha (by simp; omega) (fun j hj => by simp at hj)
    obtain ⟨r, a2, t2, e2, k4, k5⟩ := rung_ok hm (t := t1) k1 (n := H) (by omega)
    obtain ⟨n4, a3, t3, e3, k6, k7, k8⟩ := stroke_ok (t := t2) (n := (r.length : Int)) k5 hm (by rw [k4.1]; omega)
    have e1' : oyezlaw03_Made_l2 metal (ws.length : Int) (Int.toNat ((S : Int) - 0)) 0 a t (ws ++ [[]]) = some (a1, t1, ws ++ [row]) := by rw [show Int.toNat ((S : Int) - 0) = S by omega]; exact e1
    rw [ap_t (by simp; omega), gd_t ⟨r64_small (by omega), r64_small (by omega)⟩, e1', b3_some, e2, b3_some, e3, b3_some, gd_t (by omega), bvE, ap_t (by simp; omega), b4_some]
    rw [List.length_nil, Nat.zero_add] at k2
    obtain ⟨a', t', ws', hs', g1, g2, g3, g4, g5, g6⟩ := made_l1 hm hH hS fu a3 t3 (ws ++ [row]) (hs ++ [sl r 0 n4]) k8 (by simp [h1]) (by simp; omega) (fun i hi => by
      rw [getD_snoc]
      rw [List.length_append, List.length_singleton] at hi
      by_cases h : i < ws.length
      · rw [if_pos h]; exact h2 i h
      · rw [if_neg h, if_pos (by omega)]
        refine ⟨k2, fun j hj => ?_⟩
        rw [show i = ws.length by omega]; exact k3 j (by omega)) (fun l hl => by
      rcases List.mem_append.1 hl with h | h
      · exact h3 l h
      · rw [List.mem_singleton.1 h]
        have hsub : List.Sublist (sl r 0 n4) r := by unfold sl; simpa using List.take_sublist _ _
        exact ⟨hsub.nodup k4.2.1, fun x hx => k4.2.2 x (hsub.subset hx)⟩)
    rw [List.length_append, List.length_singleton] at g1 g4
    exact ⟨a', t', ws', hs', g1, g2, g3, by omega, g5, g6⟩
theorem made_l3 (hm : (metal.length : Int) ≤ 9223372036854775807) {H : Nat} (hH : 1 ≤ H ∧ H ≤ 5) : ∀ (fu : Nat) (a t : Int) (ns : List (List Int × Int × Int)), BellA metal a → ns.length + fu ≤ 3 → (∀ x ∈ ns, NOK (H : Int) x) → total ns ≤ 9 →
    ∃ ns' a' t', oyezlaw03_Made_l3 metal (H : Int) fu a t ns (9 - (total ns : Int)) = some (ns', a', t') ∧ BellA metal a' ∧ ns'.length ≤ 3 ∧ (∀ x ∈ ns', NOK (H : Int) x) ∧ total ns' ≤ 9
  | 0, a, t, ns, ha, hl, h1, h2 => ⟨ns, a, t, rfl, ha, by omega, h1, h2⟩
  | fu + 1, a, t, ns, ha, hl, h1, h2 => by
    unfold oyezlaw03_Made_l3
    obtain ⟨r, a2, t2, e2, k4, k5⟩ := rung_ok hm (t := t) ha (n := H) (by omega)
    have hr := k4.1
    obtain ⟨n7, a3, t3, e3, k6, k7, k8⟩ := strike_ok (t := t2) (lo := 1) (hi := (r.length : Int)) k5 hm (by omega) (by omega)
    rw [e2, b3_some, e3, b3_some, gd_t (by split <;> omega), bvE, sl_take]
    generalize hm' : (if n7 < 9 - (total ns : Int) then n7 else 9 - (total ns : Int)) = m
    have hm1 : 0 ≤ m ∧ m ≤ 9 - (total ns : Int) ∧ m ≤ (r.length : Int) := by rw [← hm']; split <;> omega
    have hlen : (r.take m.toNat).length = m.toNat := by rw [List.length_take]; omega
    have hsub := List.take_sublist m.toNat r
    rw [gd_t (r64_small (by rw [hlen]; omega))]
    by_cases h : 0 < ((r.take m.toNat).length : Int)
    · obtain ⟨n8, a4, t4, e4, q1, q2, q3⟩ := strike_ok (t := t3) (lo := 1) (hi := 4) k8 hm (by omega) (by omega)
      obtain ⟨n9, a5, t5, e5, q4, q5, q6⟩ := strike_ok (t := t4) (lo := 4) (hi := 45) q3 hm (by omega) (by omega)
      rw [if_pos h, e4, b3_some, e5, b3_some, ap_t (by simp; omega)]
      have ht := total_snoc ns (r.take m.toNat, n8, n9)
      obtain ⟨ns', a', t', g1, g2, g3, g4, g5⟩ := made_l3 hm hH fu a5 t5 (ns ++ [(r.take m.toNat, n8, n9)]) q6 (by simp; omega) (fun x hx => by
        rcases List.mem_append.1 hx with h' | h'
        · exact h1 x h'
        · rw [List.mem_singleton.1 h']
          exact ⟨⟨by show 1 ≤ (r.take m.toNat).length; omega, hsub.nodup k4.2.1, fun y hy => k4.2.2 y (hsub.subset hy)⟩, ⟨q1, by show n8 ≤ 5; omega⟩, ⟨by show 0 ≤ n9; omega, by show n9 ≤ 200; omega⟩⟩) (by rw [ht]; show total ns + (r.take m.toNat).length ≤ 9; omega)
      refine ⟨ns', a', t', ?_, g2, g3, g4, g5⟩
      rw [← g1, ht]
      congr 1
      show _ = 9 - ((total ns + (r.take m.toNat).length : Nat) : Int)
      omega
    · rw [if_neg h, show 9 - (total ns : Int) - ((r.take m.toNat).length : Int) = 9 - (total ns : Int) by omega]
      exact made_l3 hm hH fu a3 t3 ns k8 (by omega) h1 h2
theorem made_ok {a t S H N : Int} (ha : BellA metal a) (hm : (metal.length : Int) ≤ 9223372036854775807) (hS : 1 ≤ S ∧ S ≤ 5) (hH : 1 ≤ H ∧ H ≤ 5) (hN : 0 ≤ N ∧ N ≤ 3) :
    ∃ ws hs h st ns a' t', oyezlaw03_Made metal a t S H N = some (ws, hs, h, st, ns, a', t') ∧ BtOK ws hs h st ns ∧ BellA metal a' ∧ h ≤ H ∧ (hs.length : Int) ≤ S ∧ (ns.length : Int) ≤ 3 := by
  unfold oyezlaw03_Made
  obtain ⟨n, a1, t1, e1, h1, h2, h3⟩ := strike_ok (t := t) (lo := 1) (hi := H) ha hm (by omega) (by omega)
  obtain ⟨n2, a2, t2, e2, g1, g2, g3⟩ := strike_ok (t := t1) (lo := 1) (hi := S) h3 hm (by omega) (by omega)
  have hnc : ((n.toNat : Nat) : Int) = n := by omega
  have hn2c : ((n2.toNat : Nat) : Int) = n2 := by omega
  obtain ⟨a3, t3, ws, hs, e3, k1, k2, k3, k4, k5⟩ := made_l1 hm (H := n.toNat) (S := n2.toNat) (by omega) (by omega) n2.toNat a2 t2 [] [] g3 rfl (by simp; omega) (fun i hi => by simp at hi) (fun l hl => nomatch hl)
  rw [hnc, hn2c] at e3
  have e3' : oyezlaw03_Made_l1 metal n n2 (Int.toNat (n2 - 0)) 0 a2 t2 [] [] = some (a3, t3, ws, hs) := by rw [show n2 - 0 = n2 by omega]; exact e3
  rw [List.length_nil, Nat.zero_add] at k3
  obtain ⟨n5, a4, t4, e4, q1, q2, q3⟩ := stroke_ok (t := t3) (n := n2 - 1) k1 hm (by omega)
  obtain ⟨n6, a5, t5, e5, r1, r2, r3⟩ := stroke_ok (t := t4) (n := N) q3 hm (by omega)
  obtain ⟨ns, a6, t6, e6, p1, p2, p3, p4⟩ := made_l3 hm (H := n.toNat) (by omega) (Int.toNat (n6 - 0)) a5 t5 [] r3 (by simp; omega) (fun x hx => nomatch hx) (by decide)
  rw [hnc] at e6 p3 k5
  have e6' : oyezlaw03_Made_l3 metal n (Int.toNat (n6 - 0)) a5 t5 [] 9 = some (ns, a6, t6) := e6
  rw [e1, b3_some, e2, b3_some, gd_t ⟨r64_small (by omega), r64_small (by omega)⟩, e3', b4_some, gd_t (r64_small (by omega)), e4, b3_some, e5, b3_some, gd_t ⟨r64_small (by omega), r64_small (by omega)⟩, e6', b3_some]
  refine ⟨ws, hs, n, n5, ns, a6, t6, rfl, ⟨by omega, k2, by omega, by omega, fun i hi => ?_, k5, p2, p3, p4⟩, p1, by omega, by omega, by omega⟩
  obtain ⟨w1, w2⟩ := k4 i hi
  exact ⟨by omega, fun j hj => w2 j (by omega)⟩
end
end Go.Proofs.Ytfmapnhfamoecab.Rd
