/- Layer 7: where a notice must be cried again; BookRepeated; in plain Lean. -/
import Derived.Test.YtodhcoakjlmcdaaZFKH
namespace Go.Proofs.Ytodhcoakjlmcdaa.Bk
open Go.PL Rv
theorem lessI_eq (x y : Int) : cmp_Less_int x y = some (decide (x < y)) := by
  unfold cmp_Less_int cmp_isNaN_int
  simp
theorem sortedI_l2 {l : List Int} (hs : l.Pairwise (· ≤ ·)) (hl : l.length ≤ 1000) : ∀ (k fu : Nat), k < fu → k < l.length ∨ k = 0 → slices_IsSorted_int_int_l2 l fu (k : Int) = some true
  | _, 0, h, _ => absurd h (Nat.not_lt_zero _)
  | 0, fu + 1, _, _ => by
    unfold slices_IsSorted_int_int_l2
    rw [if_neg (by omega)]; rfl
  | k + 1, fu + 1, h, hk => by
    have hk1 : k + 1 < l.length := by omega
    have e : ∀ j (hj : j < l.length), l.getD j 0 = l[j] := fun j hj => by
      rw [List.getD_eq_getElem?_getD, List.getElem?_eq_getElem hj]; rfl
    have hlt := List.pairwise_iff_getElem.1 hs k (k + 1) (by omega) hk1 (by omega)
    unfold slices_IsSorted_int_int_l2
    rw [if_pos (by omega), ixI _ hk1, gd_t (r64_small (by omega)), show ((k + 1 : Nat) : Int) - 1 = (k : Int) by omega, ixI _ (by omega), lessI_eq, b1_some, e _ hk1, e _ (by omega), if_neg (by rw [decide_eq_true_iff]; omega), gd_t (r64_small (by omega))]
    exact sortedI_l2 hs hl k fu (by omega) (by omega)
theorem sortedI_ok {l : List Int} (hs : l.Pairwise (· ≤ ·)) (hl : l.length ≤ 1000) : slices_IsSorted_int_int l = some true := by
  unfold slices_IsSorted_int_int
  rw [gd_t (r64_small (by omega))]
  by_cases h0 : l.length = 0
  · rw [h0]
    show slices_IsSorted_int_int_l2 l (18446744073709551615 + 1) (-1) = some true
    unfold slices_IsSorted_int_int_l2
    rw [if_neg (by decide)]; rfl
  · rw [show (l.length : Int) - 1 = ((l.length - 1 : Nat) : Int) by omega]
    exact sortedI_l2 hs hl (l.length - 1) FU (by unfold FU; omega) (by omega)
def cryOf (k q : Int) (l : List Int) : List (Int × Int × Int) := l.map fun s => (k, s, q)
/-- What is heard surely by all of some houses. -/
def Enough (hs : List (List (List Int))) (rs : List Int) (cs : List (Int × Int × Int)) (k q : Int) (H : List Int) (l : List Int) : Prop := ∀ c, FitF none rs c → ∀ x ∈ H, heardB hs (cs ++ cryOf k q l) c x q = true
theorem Enough.mono {hs : List (List (List Int))} {rs : List Int} {cs : List (Int × Int × Int)} {k q : Int} {H l l2 : List Int} (h : Enough hs rs cs k q H l) (hl : ∀ s ∈ l, s ∈ l2) : Enough hs rs cs k q H l2 := fun c hc x hx => by
  have h1 := h c hc x hx
  rw [heardB_app] at h1 ⊢
  rw [Bool.or_eq_true] at h1 ⊢
  refine h1.imp id fun h2 => ?_
  unfold heardB cryOf at h2 ⊢
  rw [List.any_eq_true] at h2 ⊢
  obtain ⟨y, hy, h3⟩ := h2
  obtain ⟨s, hs, rfl⟩ := List.mem_map.1 hy
  exact ⟨_, List.mem_map.2 ⟨s, hl s hs, rfl⟩, h3⟩
section
variable {n n2 : Int} {hs : List (List (List Int))} {rs : List Int} {cs : List (Int × Int × Int)} {k q : Int} {H : List Int}
theorem BOK.cryOf (h : BOK n n2 hs rs cs) (hk : 0 ≤ k ∧ k < (rs.length : Int)) (hq : 0 ≤ q ∧ q < n2) {l : List Int} (hl : cs.length + l.length ≤ 12) (hs2 : ∀ s ∈ l, 0 ≤ s ∧ s < (hs.length : Int)) : BOK n n2 hs rs (cs ++ cryOf k q l) :=
  h.more (by rw [show (Bk.cryOf k q l).length = l.length from List.length_map ..]; exact hl) fun c hc => by
    obtain ⟨s, hs, rfl⟩ := List.mem_map.1 hc
    exact ⟨hk, hs2 s hs, hq⟩
theorem again_l2 : ∀ (l : List Int) (cs : List (Int × Int × Int)), cs.length + l.length ≤ 1000 → book_Again_1B_l2 k q l cs = some (cs ++ cryOf k q l)
  | [], cs, _ => by unfold book_Again_1B_l2 cryOf; rw [List.map_nil, List.append_nil]
  | s :: l, cs, h => by
    rw [List.length_cons] at h
    unfold book_Again_1B_l2
    rw [ap_t (by simp; omega), again_l2 l _ (by simp; omega), List.append_assoc]; rfl
theorem repeat_l1 : ∀ (l : List Int) (cs : List (Int × Int × Int)), cs.length + l.length ≤ 1000 → oyezlaw07_BookRepeated_1_l1 k q l cs = some (cs ++ cryOf k q l)
  | [], cs, _ => by unfold oyezlaw07_BookRepeated_1_l1 cryOf; rw [List.map_nil, List.append_nil]
  | s :: l, cs, h => by
    rw [List.length_cons] at h
    unfold oyezlaw07_BookRepeated_1_l1
    rw [ap_t (by simp; omega), repeat_l1 l _ (by simp; omega), List.append_assoc]; rfl
theorem leaf_ok (h : BOK n n2 hs rs cs) (hk : 0 ≤ k ∧ k < (rs.length : Int)) (hq : 0 ≤ q ∧ q < n2) (hH : ∀ x ∈ H, 0 ≤ x ∧ x < n) {l : List Int} (hl : cs.length + l.length ≤ 12) (hs2 : ∀ s ∈ l, 0 ≤ s ∧ s < (hs.length : Int)) {out : List Int} {found : Bool} :
    (Enough hs rs cs k q H l → (b1 (slices_Clone_book_Cry_book_Cry cs) fun l2 => b1 (book_Again_1B_l2 k q l l2) fun d_cries => b1 (book_desk_endings n n2 hs rs d_cries) fun l4 => b1 (book_goal_find (fun xx_ : List Bool => book_Again_1_1 xx_ H q) l4) fun l5 => if l5 = [] then some (true, l, true) else some (found, out, found)) = some (true, l, true)) ∧
    (¬ Enough hs rs cs k q H l → (b1 (slices_Clone_book_Cry_book_Cry cs) fun l2 => b1 (book_Again_1B_l2 k q l l2) fun d_cries => b1 (book_desk_endings n n2 hs rs d_cries) fun l4 => b1 (book_goal_find (fun xx_ : List Bool => book_Again_1_1 xx_ H q) l4) fun l5 => if l5 = [] then some (true, l, true) else some (found, out, found)) = some (found, out, found)) := by
  have hu := h.cryOf hk hq hl hs2
  have hc := h.hc; have hn := h.hn; have hn2 := h.hn2
  obtain ⟨L, e1, g0, g1, g2⟩ := endings_eq hu
  have hL : EndsOK hs rs (cs ++ cryOf k q l) L := ⟨g0, g1, g2⟩
  have hmet : ∀ e ∈ L, (fun xx_ : List Bool => book_Again_1_1 xx_ H q) e.1 = some (!H.all fun x => e.1.getD (x * 4 + q).toNat false) ∧ e.2 ≠ [] := fun e he => by
    have h24 := hL.len24 hu e he
    refine ⟨?_, fit_ne h (hL.of e he).1⟩
    show book_Again_1_1 e.1 H q = _
    unfold book_Again_1_1
    rw [every_eq (g := fun x => e.1.getD (x * 4 + q).toNat false) (fun x hx => by
      have := hH x hx
      unfold book_Again_1_1_1
      rw [gd_t (by omega), gd_t (by omega), ixD false _ (by omega) (by omega)]), b1_some]
  rw [clone_cry (by omega), b1_some, again_l2 l cs (by omega), b1_some, e1, b1_some]
  unfold book_goal_find
  rcases find_l2 (met := fun xx_ : List Bool => book_Again_1_1 xx_ H q) (P := fun e => !H.all fun x => e.1.getD (x * 4 + q).toNat false) L hmet with ⟨e, he, h3, h4⟩ | ⟨h3, h4⟩
  · rw [h4, b1_some, if_neg (hmet e he).2]
    refine ⟨fun hE => ?_, fun _ => rfl⟩
    exfalso
    have h5 : (H.all fun x => e.1.getD (x * 4 + q).toNat false) = true := by
      rw [List.all_eq_true]
      intro x hx
      have := hH x hx
      rw [hL.get hu (by omega) (by omega) e he]
      exact hE e.2 (hL.of e he).1 x hx
    rw [h5] at h3; cases h3
  · rw [h4, b1_some, if_pos rfl]
    refine ⟨fun _ => rfl, fun hE => absurd (fun c hc x hx => ?_) hE⟩
    have := hH x hx
    obtain ⟨e, he, h5⟩ := hL.all' hu (x := x) (q := q) (by omega) (by omega) hc
    rw [← h5]
    have h6 := h3 e he
    rw [Bool.not_eq_false'] at h6
    exact List.all_eq_true.1 h6 x hx
def toI (l : List Nat) : List Int := l.map Int.ofNat
/-- What a search comes to. -/
def pickR (_S : Nat) (P : List Nat → Bool) (pre : List Nat) (L : List (List Nat)) (out : List Int) : Bool × List Int × Bool := match L.find? (fun c => P (pre ++ c)) with
  | some c => (true, toI (pre ++ c), true)
  | none => (false, out, false)
theorem pickR_app {S : Nat} {P : List Nat → Bool} {pre : List Nat} {s : Nat} {A B : List (List Nat)} {out : List Int} : pickR S P pre (A.map (s :: ·) ++ B) out = match A.find? (fun c => P ((pre ++ [s]) ++ c)) with | some c => (true, toI ((pre ++ [s]) ++ c), true) | none => pickR S P pre B out := by
  have e : ((fun c => P (pre ++ c)) ∘ fun c => s :: c) = fun c => P ((pre ++ [s]) ++ c) := funext fun c => by
    show P (pre ++ s :: c) = _
    rw [List.append_assoc]; rfl
  unfold pickR
  rw [List.find?_append, List.find?_map, e]
  cases A.find? (fun c => P ((pre ++ [s]) ++ c)) with
  | some c =>
    show (true, toI (pre ++ s :: c), true) = (true, toI ((pre ++ [s]) ++ c), true)
    rw [List.append_assoc]; rfl
  | none => rfl
theorem pick_ok (h : BOK n n2 hs rs cs) (hc6 : cs.length ≤ 6) (hk : 0 ≤ k ∧ k < (rs.length : Int)) (hq : 0 ≤ q ∧ q < n2) (hH : ∀ x ∈ H, 0 ≤ x ∧ x < n) {P : List Nat → Bool} (hP : ∀ l, P l = true ↔ Enough hs rs cs k q H (toI l)) {out : List Int} : ∀ (m fu f : Nat) (pre : List Nat), m < fu → f ≤ 10 → pre.length + m ≤ 4 → (∀ s ∈ pre, s < hs.length) → book_Again_1 fu (toI pre) (f : Int) (m : Int) n n2 hs rs cs k q H out false = some (pickR hs.length P pre (combs hs.length m f) out)
  | _, 0, _, _, hf, _, _, _ => by omega
  | 0, fu + 1, f, pre, _, _, hp, hpre => by
    have h1 := leaf_ok h hk hq hH (l := toI pre) (by rw [show (toI pre).length = pre.length from List.length_map ..]; omega) (fun s hs => by
      obtain ⟨t, ht, rfl⟩ := List.mem_map.1 hs
      have := hpre t ht
      exact ⟨by show 0 ≤ (t : Int); omega, by show (t : Int) < _; omega⟩) (out := out) (found := false)
    unfold book_Again_1 book_Again_1B pickR combs
    rw [if_pos (by rfl)]
    by_cases hE : P pre = true
    · rw [h1.1 ((hP pre).1 hE), List.find?_cons_of_pos (by rw [List.append_nil]; exact hE)]; simp
    · rw [h1.2 (fun e => hE ((hP pre).2 e)), List.find?_cons_of_neg (by rw [List.append_nil]; exact hE)]; rfl
  | m + 1, fu + 1, f, pre, hf, hf10, hp, hpre => by
    have hh := h.hh
    have hlen : (toI pre).length = pre.length := List.length_map ..
    have key : ∀ (cnt s : Nat), s + cnt = max s hs.length → book_Again_1B_l4 (toI pre) ((m + 1 : Nat) : Int) n n2 hs rs cs k q H (book_Again_1 fu) cnt (s : Int) out false = some (pickR hs.length P pre ((List.range' s cnt).flatMap fun i => (combs hs.length m (i + 1)).map (i :: ·)) out) := fun cnt => by
      induction cnt with
      | zero => intro s _; rfl
      | succ cnt ih =>
        intro s hs3
        have hsl : s < hs.length := by omega
        have e := pick_ok h hc6 hk hq hH hP (out := out) m fu (s + 1) (pre ++ [s]) (by omega) (by omega) (by simp; omega) (fun t ht => by
          rcases List.mem_append.1 ht with ht | ht
          · exact hpre t ht
          · rw [List.mem_singleton] at ht; omega)
        have et : toI (pre ++ [s]) = toI pre ++ [(s : Int)] := by unfold toI; rw [List.map_append]; rfl
        rw [et] at e
        unfold book_Again_1B_l4
        have hst : ∀ r : Bool × List Int × Bool, pickR hs.length P (pre ++ [s]) (combs hs.length m (s + 1)) out = r → (gd (R64 (((m + 1 : Nat) : Int) - 1)) <| b1 (slices_Clone_int_int (toI pre)) fun l6 => ap l6 [(s : Int)] fun l7 => b3 (book_Again_1 fu l7 ((s : Int) + 1) (((m + 1 : Nat) : Int) - 1) n n2 hs rs cs k q H out false) fun ok out4 found4 => if ok = true then some (true, out4, found4) else book_Again_1B_l4 (toI pre) ((m + 1 : Nat) : Int) n n2 hs rs cs k q H (book_Again_1 fu) cnt ((s : Int) + 1) out4 found4) = (if r.1 = true then some (true, r.2.1, r.2.2) else book_Again_1B_l4 (toI pre) ((m + 1 : Nat) : Int) n n2 hs rs cs k q H (book_Again_1 fu) cnt ((s + 1 : Nat) : Int) r.2.1 r.2.2) := fun r hr => by
          rw [hr] at e
          rw [gd_t (r64_small (by omega)), clone_eq (by omega), b1_some, ap_t (by simp [hlen]; omega), show (s : Int) + 1 = ((s + 1 : Nat) : Int) by omega, show ((m + 1 : Nat) : Int) - 1 = (m : Int) by omega, e]
          rfl
        rw [List.range'_succ, List.flatMap_cons, pickR_app]
        cases hq2 : (combs hs.length m (s + 1)).find? (fun c => P ((pre ++ [s]) ++ c)) with
        | some c => exact (hst (true, toI ((pre ++ [s]) ++ c), true) (by unfold pickR; rw [hq2])).trans (if_pos rfl)
        | none => exact (hst (false, out, false) (by unfold pickR; rw [hq2])).trans ((if_neg Bool.false_ne_true).trans (ih (s + 1) (by omega)))
    unfold book_Again_1 book_Again_1B book_Again_1B_j1
    rw [if_neg (by omega), gd_t ⟨r64_small (by omega), r64_small (by omega)⟩]
    have e := key (hs.length - f) f (by omega)
    rw [show Int.toNat ((hs.length : Int) - (f : Int)) = hs.length - f by omega]
    exact e
/-- What the whole search comes to. -/
def againR (o : Option (List Nat)) : List Int × Bool := match o with
  | some c => (toI c, true)
  | none => ([], false)
theorem again_l1 (h : BOK n n2 hs rs cs) (hc6 : cs.length ≤ 6) (hk : 0 ≤ k ∧ k < (rs.length : Int)) (hq : 0 ≤ q ∧ q < n2) (hH : ∀ x ∈ H, 0 ≤ x ∧ x < n) {P : List Nat → Bool} (hP : ∀ l, P l = true ↔ Enough hs rs cs k q H (toI l)) : ∀ (fu m : Nat), m + fu = hs.length + 1 → book_Again_l1 n n2 hs rs cs q k H fu (m : Int) [] false = some (againR (firstL hs.length P fu m))
  | 0, _, _ => rfl
  | fu + 1, m, hm => by
    have hh := h.hh
    have e := pick_ok h hc6 hk hq hH hP (out := []) m FU 0 [] (by unfold FU; omega) (by omega) (by simp; omega) (fun _ h => nomatch h)
    have e' : book_Again_1 FU [] 0 (m : Int) n n2 hs rs cs k q H [] false = some (pickR hs.length P [] (combs hs.length m 0) []) := e
    unfold book_Again_l1 firstL
    rw [e']
    unfold pickR
    have ef : (fun c => P ([] ++ c)) = P := rfl
    rw [ef]
    cases hf : (combs hs.length m 0).find? P with
    | some c => rfl
    | none =>
      show (b3 (some (false, [], false)) fun ok3 out3 found3 => _) = _
      rw [b3_some, if_neg (by decide), show (m : Int) + 1 = ((m + 1 : Nat) : Int) by omega]
      exact again_l1 h hc6 hk hq hH hP fu (m + 1) (by omega)
theorem Again_eq (h : BOK n n2 hs rs cs) (hex : ∃ c, FitF none rs c) (hc6 : cs.length ≤ 6) (hk : 0 ≤ k ∧ k < (rs.length : Int)) (hq : 0 ≤ q ∧ q < n2) (hd : H.Nodup) (hH : ∀ x ∈ H, 0 ≤ x ∧ x < n) {P : List Nat → Bool} (hP : ∀ l, P l = true ↔ Enough hs rs cs k q H (toI l)) :
    book_Again n n2 hs rs cs q k H = some (match firstL hs.length P (hs.length + 1) 0 with | some c => (toI c, 0) | none => ([], 6)) := by
  have hh := h.hh
  obtain ⟨L, _, _, _, e1⟩ := told_eq h hex
  have e2 : book_Again_l1 n n2 hs rs cs q k H (Int.toNat (((hs.length : Int) + 1) - 0)) 0 [] false = some (againR (firstL hs.length P (hs.length + 1) 0)) := by
    rw [show Int.toNat (((hs.length : Int) + 1) - 0) = hs.length + 1 by omega]
    exact again_l1 h hc6 hk hq hH hP (hs.length + 1) 0 (by omega)
  unfold book_Again
  rw [Check_eq h, b1_some, if_neg (by decide), notice_eq h, b1_some, decide_eq_true hq, if_neg (by decide), hour_eq h, b1_some, decide_eq_true hk, b1_some, if_neg (by decide), listed_eq h hd hH, b1_some, if_neg (by decide), e1, b3_some, if_neg (by decide), gd_t (r64_small (by omega)), gd_t ⟨r64_small (by omega), r64_small (by omega)⟩, e2]
  cases firstL hs.length P (hs.length + 1) 0 with
  | some c => rfl
  | none => rfl
theorem enough_l3 {V : List (List Int)} (hV : ∀ x ∈ H, 0 ≤ x ∧ x < (V.length : Int) ∧ ((V.getD x.toNat []).length : Int) = n2) (hq : 0 ≤ q ∧ q < n2) : ∀ (l : List Int), (∀ x ∈ l, x ∈ H) →
    ((∀ x ∈ l, (V.getD x.toNat []).getD q.toNat 0 = 1) → oyezlaw07_BookRepeated_1_l3 n2 q V l = some (true, true)) ∧ (¬ (∀ x ∈ l, (V.getD x.toNat []).getD q.toNat 0 = 1) → oyezlaw07_BookRepeated_1_l3 n2 q V l = some (false, true))
  | [], _ => ⟨fun _ => rfl, fun h => absurd (fun _ h => nomatch h) h⟩
  | x :: l, hl => by
    obtain ⟨h1, h2, h3⟩ := hV x (hl x (by simp))
    obtain ⟨g1, g2⟩ := enough_l3 hV hq l (fun y hy => hl y (by simp [hy]))
    unfold oyezlaw07_BookRepeated_1_l3
    rw [ixD [] _ h1 h2, if_neg (by rw [h3]; simp), ixD 0 _ hq.1 (by rw [h3]; exact hq.2)]
    by_cases e : (V.getD x.toNat []).getD q.toNat 0 = 1
    · rw [if_neg (by rw [e]; simp)]
      refine ⟨fun h => g1 fun y hy => h y (by simp [hy]), fun h => g2 fun h2 => h fun y hy => ?_⟩
      rcases List.mem_cons.1 hy with rfl | hy
      · exact e
      · exact h2 y hy
    · rw [if_pos e]
      exact ⟨fun h => absurd (h x (by simp)) e, fun _ => rfl⟩
theorem enough_eq (h : BOK n n2 hs rs cs) (hex : ∃ c, FitF none rs c) (hk : 0 ≤ k ∧ k < (rs.length : Int)) (hq : 0 ≤ q ∧ q < n2) (hH : ∀ x ∈ H, 0 ≤ x ∧ x < n) {l : List Int} (hl : cs.length + l.length ≤ 12) (hs2 : ∀ s ∈ l, 0 ≤ s ∧ s < (hs.length : Int)) :
    (Enough hs rs cs k q H l → oyezlaw07_BookRepeated_1 l n n2 hs rs cs k q H = some (true, true)) ∧ (¬ Enough hs rs cs k q H l → oyezlaw07_BookRepeated_1 l n n2 hs rs cs k q H = some (false, true)) := by
  have hu := h.cryOf hk hq hl hs2
  obtain ⟨V, e1, hV⟩ := Verdicts_eq hu hex
  have hVl := hV.len
  have key := enough_l3 (V := V) (H := H) (n2 := n2) (fun x hx => by
    have := hH x hx
    exact ⟨this.1, by omega, hV.row _ (getD_mem (by omega))⟩) hq H (fun _ h => h)
  have hiff : Enough hs rs cs k q H l ↔ ∀ x ∈ H, (V.getD x.toNat []).getD q.toNat 0 = 1 := by
    constructor
    · intro hE x hx
      exact verd_one_of hex (hV.get x q (hH x hx) hq) fun c hc => hE c hc x hx
    · intro hA c hc x hx
      exact ((verd_one (hV.get x q (hH x hx) hq)).1 (hA x hx)).1 c hc
  unfold oyezlaw07_BookRepeated_1
  rw [Own_eq h, b5_some, repeat_l1 l cs (by omega), b1_some, e1, b2_some, if_neg (by decide), decide_eq_false (by rw [hVl]; simp), b1_some, if_neg (by decide)]
  exact ⟨fun hE => key.1 (hiff.1 hE), fun hE => key.2 fun hA => hE (hiff.2 hA)⟩
theorem lex_ge : ∀ {s t : List Nat}, s.length = t.length → lex s t → 0 ≤ lexI (toI t) (toI s)
  | [], [], _, _ => by decide
  | a :: s, b :: t, hl, h => by
    unfold toI
    rw [List.map_cons, List.map_cons]
    unfold lexI
    show 0 ≤ if (b : Int) < (a : Int) then (-1 : Int) else if (a : Int) < (b : Int) then 1 else lexI (t.map Int.ofNat) (s.map Int.ofNat)
    rcases h with h | ⟨rfl, h⟩
    · rw [if_neg (by omega), if_pos (by omega)]; decide
    · rw [if_neg (by omega), if_neg (by omega)]
      exact lex_ge (by simpa using hl) h
  | [], _ :: _, hl, _ => by simp at hl
  | _ :: _, [], hl, _ => by simp at hl
theorem up_sorted {S f : Nat} {c : List Nat} (h : Up S f c) : (toI c).Pairwise (· ≤ ·) := by
  unfold toI
  rw [List.pairwise_map]
  refine h.1.imp fun {a b} hab => ?_
  show (a : Int) ≤ (b : Int)
  omega
section
variable {metal : List Int}
theorem repeat_l5 (hm : (metal.length : Int) ≤ 9223372036854775807) {i : Int} : ∀ (tl : List (List (List Int))) (j : Nat) (a t : Int) (c : List Nat), BellA metal a → j + tl.length ≤ 100 → Up j 0 c →
    ∃ a' t' c', oyezlaw07_BookRepeated_l5 metal i tl (j : Int) a t (toI c) = some (a', t', toI c') ∧ BellA metal a' ∧ Up (j + tl.length) 0 c' ∧ (i = 0 → (∀ s, s ∈ c' ↔ s ∈ c ∨ (j ≤ s ∧ s < j + tl.length)))
  | [], j, a, t, c, ha, _, hc => ⟨a, t, c, rfl, ha, hc, fun _ s => ⟨.inl, fun h => h.elim id fun h => by simp at h; omega⟩⟩
  | x :: tl, j, a, t, c, ha, hj, hc => by
    rw [List.length_cons] at hj
    have hcl := hc.len
    have up1 : Up (j + 1) 0 c := ⟨hc.1, fun s hs => by have := hc.2 s hs; omega⟩
    have up2 : Up (j + 1) 0 (c ++ [j]) := by
      refine ⟨?_, fun s hs => ?_⟩
      · rw [List.pairwise_append]
        exact ⟨hc.1, List.pairwise_singleton _ _, fun s hs u hu => by
          rw [List.mem_singleton] at hu; subst hu
          exact (hc.2 s hs).2⟩
      · rcases List.mem_append.1 hs with h | h
        · have := hc.2 s h; omega
        · rw [List.mem_singleton] at h; omega
    have et : toI c ++ [(j : Int)] = toI (c ++ [j]) := by unfold toI; rw [List.map_append]; rfl
    have eb : ∃ a1 t1 b, (if i = 0 then some (a, t, true) else b3 (oyezkit_Bell_Seldom metal a t 2) fun ok5 at_7 turn7 => some (at_7, turn7, ok5)) = some (a1, t1, b) ∧ BellA metal a1 ∧ (i = 0 → b = true) := by
      by_cases e : i = 0
      · exact ⟨a, t, true, if_pos e, ha, fun _ => rfl⟩
      · obtain ⟨b, a1, t1, e1, ha1⟩ := seldom_ok (t := t) (n := 2) ha hm (by omega)
        exact ⟨a1, t1, b, by rw [if_neg e, e1]; rfl, ha1, fun e2 => absurd e2 e⟩
    obtain ⟨a1, t1, b, e1, ha1, hb⟩ := eb
    unfold oyezlaw07_BookRepeated_l5
    rw [e1, b3_some]
    cases b with
    | true =>
      obtain ⟨a2, t2, c2, e2, ha2, g1, g2⟩ := repeat_l5 hm (i := i) tl (j + 1) a1 t1 (c ++ [j]) ha1 (by omega) up2
      rw [if_pos rfl, ap_t (by unfold toI; simp; omega), et, show (j : Int) + 1 = ((j + 1 : Nat) : Int) by omega]
      refine ⟨a2, t2, c2, e2, ha2, by rw [List.length_cons, show j + (tl.length + 1) = j + 1 + tl.length by omega]; exact g1, fun hi s => ?_⟩
      rw [g2 hi s, List.mem_append, List.mem_singleton, List.length_cons]
      constructor
      · rintro ((h | rfl) | h)
        · exact .inl h
        · exact .inr (by omega)
        · exact .inr (by omega)
      · rintro (h | h)
        · exact .inl (.inl h)
        · by_cases e : s = j
          · exact .inl (.inr e)
          · exact .inr (by omega)
    | false =>
      obtain ⟨a2, t2, c2, e2, ha2, g1, g2⟩ := repeat_l5 hm (i := i) tl (j + 1) a1 t1 c ha1 (by omega) up1
      rw [if_neg (by decide), show (j : Int) + 1 = ((j + 1 : Nat) : Int) by omega]
      exact ⟨a2, t2, c2, e2, ha2, by rw [List.length_cons, show j + (tl.length + 1) = j + 1 + tl.length by omega]; exact g1, fun hi => absurd (hb hi) (by decide)⟩
/-- What is told of the lists that are enough. -/
structure Told (S : Nat) (P : List Nat → Bool) (l : List Int) (e : Int) : Prop where
  two : (e = 0 ∨ e = 6)
  some : e = 0 → ∃ d, l = toI d ∧ Up S 0 d ∧ P d = true ∧ ∀ c, Up S 0 c → P c = true → d.length < c.length ∨ (d.length = c.length ∧ lex d c)
  none : e = 6 → l = [] ∧ ∀ c, Up S 0 c → P c = false
theorem repeat_l3 (hm : (metal.length : Int) ≤ 9223372036854775807) (h : BOK n n2 hs rs cs) (hex : ∃ c, FitF none rs c) (hc6 : cs.length ≤ 6) {which : Int} (hk : 0 ≤ Int.tmod which (rs.length : Int) ∧ Int.tmod which (rs.length : Int) < (rs.length : Int)) (hq : 0 ≤ q ∧ q < n2) (hH : ∀ x ∈ H, 0 ≤ x ∧ x < n) {P : List Nat → Bool} (hP : ∀ l, P l = true ↔ Enough hs rs cs (Int.tmod which (rs.length : Int)) q H (toI l)) {l : List Int} {e : Int} (hT : Told hs.length P l e) : ∀ (fu i : Nat) (a t : Int), BellA metal a → oyezlaw07_BookRepeated_l3 which n n2 hs rs cs metal q H l e fu (i : Int) a t = some true
  | 0, _, _, _, _ => by
    unfold oyezlaw07_BookRepeated_l3 oyezlaw07_BookRepeated_j2
    rw [awake_true, b1_some]
  | fu + 1, i, a, t, ha => by
    have hh := h.hh
    obtain ⟨a1, t1, c, e1, ha1, hup, hall⟩ := repeat_l5 hm (i := (i : Int)) hs 0 a t [] ha (by omega) (Up.nil 0 0)
    rw [Nat.zero_add] at hup
    have hcl := hup.len
    have htl : (toI c).length = c.length := List.length_map ..
    have e1' : oyezlaw07_BookRepeated_l5 metal (i : Int) hs 0 a t [] = some (a1, t1, toI c) := e1
    have hen := enough_eq h hex hk hq hH (l := toI c) (by omega) (fun s hs2 => by
      obtain ⟨u, hu, rfl⟩ := List.mem_map.1 hs2
      have := hup.2 u hu
      exact ⟨by show 0 ≤ (u : Int); omega, by show (u : Int) < _; omega⟩)
    have ih := repeat_l3 hm h hex hc6 hk hq hH hP hT fu (i + 1) a1 t1 ha1
    -- if all stands are cried at, it is enough just if something is
    have hfirst : i = 0 → (P c = true ↔ e = 0) := fun hi => by
      subst hi
      constructor
      · intro hp
        rcases hT.two with h2 | h2
        · exact h2
        · have := (hT.none h2).2 c hup
          rw [hp] at this; cases this
      · intro h2
        obtain ⟨d, _, hd, hpd, _⟩ := hT.some h2
        refine (hP c).2 (((hP d).1 hpd).mono fun s hs2 => ?_)
        obtain ⟨u, hu, rfl⟩ := List.mem_map.1 hs2
        refine List.mem_map.2 ⟨u, (hall rfl u).2 (.inr ?_), rfl⟩
        have := hd.2 u hu
        omega
    unfold oyezlaw07_BookRepeated_l3
    rw [e1', b3_some]
    have key : ∀ b : Bool, (b = true ↔ P c = true) → (b1 (if (!true) = true then some true else if b = true then (if e ≠ 0 then some true else if ((toI c).length : Int) < (l.length : Int) then some true else if ((toI c).length : Int) = (l.length : Int) then b1 (slices_Compare_int_int (toI c) l) fun n6 => if n6 < 0 then some true else if (i : Int) = 0 then some (decide (b ≠ decide (e = 0))) else some false else if (i : Int) = 0 then some (decide (b ≠ decide (e = 0))) else some false) else (if (i : Int) = 0 then some (decide (b ≠ decide (e = 0))) else some false)) fun k6 => if k6 = true then some false else oyezlaw07_BookRepeated_j4 (i : Int) (oyezlaw07_BookRepeated_l3 which n n2 hs rs cs metal q H l e fu) a1 t1) = some true := fun b hb => by
      have hlast : (if (i : Int) = 0 then some (decide (b ≠ decide (e = 0))) else some false) = some false := by
        by_cases hi : i = 0
        · rw [if_pos (by omega)]
          congr 1
          have := hfirst hi
          rw [← hb] at this
          apply decide_eq_false
          cases b with
          | true => rw [decide_eq_true (this.1 rfl)]; simp
          | false => rw [decide_eq_false (fun h => by have := this.2 h; cases this)]; simp
        · rw [if_neg (by omega)]
      have hfin : (fun k6 : Bool => if k6 = true then some false else oyezlaw07_BookRepeated_j4 (i : Int) (oyezlaw07_BookRepeated_l3 which n n2 hs rs cs metal q H l e fu) a1 t1) false = some true := by
        show oyezlaw07_BookRepeated_j4 (i : Int) _ a1 t1 = some true
        unfold oyezlaw07_BookRepeated_j4
        rw [show (i : Int) + 1 = ((i + 1 : Nat) : Int) by omega]; exact ih
      rw [if_neg (by decide), hlast]
      by_cases hbt : b = true
      · rw [if_pos hbt]
        have hp := hb.1 hbt
        rcases hT.two with h2 | h2
        · obtain ⟨d, hl, hd, _, hmin⟩ := hT.some h2
          have hdl : (toI d).length = d.length := List.length_map ..
          rw [if_neg (by omega)]
          subst hl
          rcases hmin c hup hp with h3 | ⟨h3, h4⟩
          · rw [if_neg (by omega), if_neg (by omega), b1_some]; exact hfin
          · have h5 := lex_ge h3 h4
            rw [if_neg (by omega), if_pos (by omega), compare_eq, b1_some, if_neg (by omega), b1_some]; exact hfin
        · have := (hT.none h2).2 c hup
          rw [hp] at this; cases this
      · rw [if_neg hbt, b1_some]; exact hfin
    by_cases hp : P c = true
    · rw [hen.1 ((hP c).1 hp), b2_some]
      exact key true ⟨fun _ => hp, fun _ => rfl⟩
    · rw [hen.2 (fun hE => hp ((hP c).2 hE)), b2_some]
      exact key false ⟨fun h => absurd h (by decide), fun h => absurd h hp⟩
end
end
/-- BookRepeated. -/
theorem repeated_true {numbers tries : List Int} {which : Int} (h1 : (numbers.length : Int) ≤ 9223372036854775807) (h2 : (tries.length : Int) ≤ 9223372036854775807) (hw : 0 ≤ which ∧ which ≤ 255) : oyezlaw07_BookRepeated numbers tries which = some true := by
  unfold oyezlaw07_BookRepeated oyezkit_Hang
  obtain ⟨n, n2, hs, rs, cs, real, a, t, e1, hM, _⟩ := made_ok (metal := numbers) (t := 0) (a := 0) (H := 3) (N := 2) (S := 4) (R := 4) ⟨by omega, by omega⟩ h1 (by omega) (by omega) (by omega) (by omega)
  have h := hM.ok
  have hr := h.hr; have hh := h.hh; have hn2 := h.hn2; have hn := h.hn
  have hex : ∃ c, FitF none rs c := ⟨real, hM.fit⟩
  have hpos : (0 : Int) < (rs.length : Int) := by omega
  have hmod : Int.tmod which (rs.length : Int) = which % (rs.length : Int) := Int.tmod_eq_emod_of_nonneg hw.1
  have hk : 0 ≤ Int.tmod which (rs.length : Int) ∧ Int.tmod which (rs.length : Int) < (rs.length : Int) := by
    rw [hmod]
    exact ⟨Int.emod_nonneg which (Int.ne_of_gt hpos), Int.emod_lt_of_pos which hpos⟩
  obtain ⟨q, a1, t1, e2, f1, f2, ha1⟩ := stroke_ok (metal := tries) (a := 0) (t := 0) (n := n2 - 1) ⟨by omega, by omega⟩ h2 (by omega)
  obtain ⟨N, rfl⟩ := Int.eq_ofNat_of_zero_le (show 0 ≤ n by omega)
  obtain ⟨r, a2, t2, e3, ⟨g1, g2, g3⟩, ha2⟩ := rung_ok h2 (t := t1) ha1 (n := N) (by omega)
  obtain ⟨v, a3, t3, e4, f3, f4, ha3⟩ := stroke_ok (t := t2) (n := (N : Int)) ha2 h2 (by omega)
  have hH : ∀ x ∈ r.take v.toNat, 0 ≤ x ∧ x < (N : Int) := fun x hx => g3 x (List.mem_of_mem_take hx)
  have hd : (r.take v.toNat).Nodup := g2.sublist (List.take_sublist _ _)
  have hq : 0 ≤ q ∧ q < n2 := by omega
  obtain ⟨P, hP⟩ : ∃ P : List Nat → Bool, ∀ l, P l = true ↔ Enough hs rs cs (Int.tmod which (rs.length : Int)) q (r.take v.toNat) (toI l) := ⟨fun l => @decide _ (Classical.propDecidable (Enough hs rs cs (Int.tmod which (rs.length : Int)) q (r.take v.toNat) (toI l))), fun l => @decide_eq_true_iff _ (Classical.propDecidable _)⟩
  have eA := Again_eq h hex hM.few hk hq hd hH hP
  rw [b3_some, e1, b8_some, b3_some, gd_t (r64_small (by omega)), gd_t (by omega), gd_t (r64_small (by omega)), e2, b3_some, e3, b3_some, e4, b3_some, gd_t ⟨⟨by omega, by omega⟩, by omega⟩, bvE, sl_take, eA]
  have fin : ∀ (l : List Int) (e : Int), Told hs.length P l e → oyezlaw07_BookRepeated_j1 which (N : Int) n2 hs rs cs tries q a3 t3 (r.take v.toNat) l e = some true := fun l e hT => by
    unfold oyezlaw07_BookRepeated_j1
    rw [gd_t ⟨r64_small (by omega), r64_small (by omega)⟩]
    exact repeat_l3 h2 h hex hM.few hk hq hH hP hT 5 0 a3 t3 ha3
  cases hf : firstL hs.length P (hs.length + 1) 0 with
  | some d =>
    obtain ⟨g4, g5, _, g7⟩ := firstL_some hf
    have hdl := g4.len
    have htl : (toI d).length = d.length := List.length_map ..
    have hT : Told hs.length P (toI d) 0 := ⟨.inl rfl, fun _ => ⟨d, rfl, g4, g5, fun c hc hp => g7 c hc (Nat.zero_le _) hp⟩, fun h => by omega⟩
    have hen := enough_eq h hex hk hq hH (l := toI d) (by have := hM.few; omega) (fun s hs2 => by
      obtain ⟨u, hu, rfl⟩ := List.mem_map.1 hs2
      have := g4.2 u hu
      exact ⟨by show 0 ≤ (u : Int); omega, by show (u : Int) < _; omega⟩)
    show (b2 (some (toI d, (0 : Int))) fun l7 n5 => _) = some true
    rw [b2_some, if_neg (by decide), if_neg (by omega), sortedI_ok (up_sorted g4) (by omega), b1_some, b1_some, if_neg (by decide), if_pos rfl, hen.1 ((hP d).1 g5), b2_some, if_neg (by decide), b1_some, if_neg (by decide)]
    exact fin _ _ hT
  | none =>
    have hT : Told hs.length P [] 6 := ⟨.inr rfl, fun h => by omega, fun _ => ⟨rfl, fun c hc => firstL_none hf c hc (Nat.zero_le _) (by have := hc.len; omega)⟩⟩
    show (b2 (some (([] : List Int), (6 : Int))) fun l7 n5 => _) = some true
    rw [b2_some, if_pos (by decide), if_neg (by decide), if_neg (by simp), sortedI_ok List.Pairwise.nil (by simp), b1_some, b1_some, if_neg (by decide), if_neg (by decide)]
    exact fin _ _ hT
end Go.Proofs.Ytodhcoakjlmcdaa.Bk
