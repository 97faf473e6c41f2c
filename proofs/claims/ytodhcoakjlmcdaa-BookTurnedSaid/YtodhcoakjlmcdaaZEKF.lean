/- Layer 7: the code's tables of numbers of courses, what is told of them; BookCounted; in plain Lean. -/
import Derived.Test.YtodhcoakjlmcdaaZEKE
namespace Go.Proofs.Ytodhcoakjlmcdaa.Bk
open Go.PL
/-- A cell of a table that is changed. -/
structure Upd (out out2 : List (List Int)) (k w : Nat) (x : Int) : Prop where
  len : out2.length = out.length
  ne : ∀ j, j ≠ k → out2.getD j [] = out.getD j []
  row : (out2.getD k []).length = 8
  old : ∀ v, v ≠ w → (out2.getD k []).getD v 0 = (out.getD k []).getD v 0
  new : (out2.getD k []).getD w 0 = x
theorem Upd.set {out : List (List Int)} {k w : Nat} (hk : k < out.length) (h8 : (out.getD k []).length = 8) (hw : w < 8) (x : Int) : Upd out (out.set k ((out.getD k []).set w x)) k w x :=
  ⟨List.length_set, fun j hj => by rw [getD_setI hk, if_neg (fun e => hj e.symm)], by rw [getD_setI hk, if_pos rfl, List.length_set]; exact h8, fun v hv => by rw [getD_setI hk, if_pos rfl, getD_setI (by omega), if_neg (fun e => hv e.symm)], by rw [getD_setI hk, if_pos rfl, getD_setI (by omega), if_pos rfl]⟩
def FW (rs : List Int) (k v : Nat) : Int := (G ((rs.take (k + 1)).reverse) (v : Int) : Int)
theorem pow8 {k : Nat} (h : k ≤ 7) : 3 ^ k ≤ 2187 := Nat.pow_le_pow_right (n := 3) (by decide) h
theorem FW_rng {rs : List Int} (h8 : rs.length ≤ 8) {k v : Nat} (hk : k < rs.length) (hv : v < 8) : 0 ≤ FW rs k v ∧ FW rs k v ≤ 2187 := by
  unfold FW
  have h1 := G_le ((rs.take (k + 1)).reverse) (v : Int) (by omega)
  have h2 : ((rs.take (k + 1)).reverse).length - 1 ≤ 7 := by rw [List.length_reverse, List.length_take]; omega
  have := pow8 h2
  omega
theorem FW_eq {rs : List Int} {k v : Nat} (hk : k < rs.length) : FW rs k v = if canB (rs.getD k 0) (v : Int) = true then (S ((rs.take k).reverse) (v : Int) : Int) else 0 := by
  unfold FW
  rw [take_rev hk, G_cons]
  split <;> rfl
section
variable {n n2 : Int} {hs : List (List (List Int))} {rs : List Int} {cs : List (Int × Int × Int)}
theorem ways_step (hr : ∀ r ∈ rs, -1 ≤ r ∧ r ≤ 7) (h8 : rs.length ≤ 8) {k w : Nat} (hk : k < rs.length) (hw : w < 8) {out : List (List Int)} (hl : out.length = rs.length) (hrow : (out.getD k []).length = 8) (h0 : (out.getD k []).getD w 0 = 0) (hprev : 1 ≤ k → (out.getD (k - 1) []).length = 8 ∧ ∀ v, v < 8 → (out.getD (k - 1) []).getD v 0 = FW rs (k - 1) v) :
    ∃ out2, (b1 (book_Book_can n n2 hs rs cs (k : Int) (w : Int)) fun ok => if (!ok) = true then some out else if (k : Int) = 0 then ix out (k : Int) fun x => ix x (w : Int) fun _x2 => bv (out.set ((k : Int)).toNat (x.set ((w : Int)).toNat 1)) fun l2 => some l2 else b1 (book_turned (w : Int)) fun y => book_desk_ways_l3 (k : Int) (w : Int) y out) = some out2 ∧ Upd out out2 k w (FW rs k w) := by
  rw [can_eq hr (by omega) (by omega) (by omega), Int.toNat_natCast, b1_some, FW_eq hk]
  by_cases h1 : canB (rs.getD k 0) (w : Int) = true
  · rw [h1, if_neg (by decide), if_pos rfl]
    by_cases h2 : k = 0
    · subst h2
      rw [if_pos (by rfl), ixN [] _ (by omega), ixI _ (by omega), bvE, Int.toNat_natCast]
      exact ⟨_, rfl, Upd.set (by omega) hrow hw 1⟩
    · obtain ⟨p1, p2⟩ := hprev (by omega)
      rw [if_neg (by omega), turned_eq (by omega), b1_some]
      obtain ⟨R, g1, g2, g3, g4, g5, g6⟩ := ways_l3 hw (by omega) (by omega) (nearL (w : Int)) out (fun v hv => (mem_nearL.1 hv).1) (by omega) hrow p1 (fun v hv => by
        rw [p2 v hv]
        have := FW_rng h8 (show k - 1 < rs.length by omega) hv
        omega) (by rw [h0]; decide) (by rw [h0, nearL_len (by omega)]; decide)
      refine ⟨R, g1, g2, g3, g4, g5, ?_⟩
      rw [g6, h0, Int.zero_add]
      have e : (rs.take k).reverse = rs.getD (k - 1) 0 :: (rs.take (k - 1)).reverse := by
        have := take_rev (rs := rs) (h := k - 1) (by omega)
        rwa [show k - 1 + 1 = k by omega] at this
      have e2 : S ((rs.take k).reverse) (w : Int) = sm (G ((rs.take k).reverse)) (nearL (w : Int)) := by rw [e, S_cons]
      rw [e2]
      congr 1
      refine sm_congr fun v hv => ?_
      obtain ⟨h3, _⟩ := mem_nearL.1 hv
      rw [p2 v.toNat (by omega)]
      unfold FW
      rw [show k - 1 + 1 = k by omega, show ((v.toNat : Nat) : Int) = v by omega, Int.toNat_natCast]
  · have h1' : canB (rs.getD k 0) (w : Int) = false := by simpa using h1
    rw [h1', if_pos (by decide), if_neg (by decide)]
    exact ⟨out, rfl, rfl, fun _ _ => rfl, hrow, fun _ _ => rfl, h0⟩
theorem ways_l2 (hr : ∀ r ∈ rs, -1 ≤ r ∧ r ≤ 7) (h8 : rs.length ≤ 8) {k : Nat} (hk : k < rs.length) : ∀ (fu w : Nat) (out : List (List Int)), w + fu = 8 → out.length = rs.length → (out.getD k []).length = 8 → (∀ v, w ≤ v → v < 8 → (out.getD k []).getD v 0 = 0) → (1 ≤ k → (out.getD (k - 1) []).length = 8 ∧ ∀ v, v < 8 → (out.getD (k - 1) []).getD v 0 = FW rs (k - 1) v) →
    ∃ R, book_desk_ways_l2 n n2 hs rs cs (k : Int) fu (w : Int) out = some R ∧ R.length = rs.length ∧ (∀ j, j ≠ k → R.getD j [] = out.getD j []) ∧ (R.getD k []).length = 8 ∧ (∀ v, v < w → (R.getD k []).getD v 0 = (out.getD k []).getD v 0) ∧ ∀ v, w ≤ v → v < 8 → (R.getD k []).getD v 0 = FW rs k v
  | 0, w, out, hw, hl, hrow, _, _ => ⟨out, rfl, hl, fun _ _ => rfl, hrow, fun _ _ => rfl, fun v h1 h2 => by omega⟩
  | fu + 1, w, out, hw, hl, hrow, h0, hprev => by
    obtain ⟨out2, e1, u⟩ := ways_step (n := n) (n2 := n2) (hs := hs) (cs := cs) hr h8 hk (w := w) (by omega) hl hrow (h0 w (Nat.le_refl _) (by omega)) hprev
    obtain ⟨R, g1, g2, g3, g4, g5, g6⟩ := ways_l2 hr h8 hk fu (w + 1) out2 (by omega) (by rw [u.len, hl]) u.row (fun v h1 h2 => by rw [u.old v (by omega)]; exact h0 v (by omega) h2) (fun h1 => by rw [u.ne (k - 1) (by omega)]; exact hprev h1)
    refine ⟨R, ?_, g2, fun j hj => by rw [g3 j hj, u.ne j hj], g4, fun v hv => by rw [g5 v (by omega), u.old v (by omega)], fun v h1 h2 => ?_⟩
    · unfold book_desk_ways_l2
      rw [e1, b1_some, show (w : Int) + 1 = ((w + 1 : Nat) : Int) by omega]
      exact g1
    · by_cases e : v = w
      · subst e; rw [g5 v (by omega)]; exact u.new
      · exact g6 v (by omega) h2
theorem ways_l1 (hr : ∀ r ∈ rs, -1 ≤ r ∧ r ≤ 7) (h8 : rs.length ≤ 8) : ∀ (fu k : Nat) (out : List (List Int)), k + fu = rs.length → out.length = rs.length → (∀ j, j < k → (out.getD j []).length = 8 ∧ ∀ v, v < 8 → (out.getD j []).getD v 0 = FW rs j v) → (∀ j, k ≤ j → j < rs.length → out.getD j [] = List.replicate 8 0) →
    ∃ R, book_desk_ways_l1 n n2 hs rs cs fu (k : Int) out = some R ∧ Tab R (FW rs) rs.length
  | 0, k, out, hk, hl, h1, _ => ⟨out, rfl, hl, fun j hj => h1 j (by omega)⟩
  | fu + 1, k, out, hk, hl, h1, h2 => by
    have e0 := h2 k (Nat.le_refl _) (by omega)
    obtain ⟨R1, g1, g2, g3, g4, _, g6⟩ := ways_l2 (n := n) (n2 := n2) (hs := hs) (cs := cs) hr h8 (k := k) (by omega) 8 0 out rfl hl (by rw [e0]; rfl) (fun v _ hv => by
      rw [e0, List.getD_eq_getElem?_getD, List.getElem?_replicate]; split <;> rfl) (fun hk1 => h1 (k - 1) (by omega))
    obtain ⟨R, f1, f2⟩ := ways_l1 hr h8 fu (k + 1) R1 (by omega) g2 (fun j hj => by
      by_cases e : j = k
      · subst e; exact ⟨g4, fun v hv => g6 v (Nat.zero_le _) hv⟩
      · rw [g3 j e]; exact h1 j (by omega)) (fun j h3 h4 => by rw [g3 j (by omega)]; exact h2 j (by omega) h4)
    refine ⟨R, ?_, f2⟩
    unfold book_desk_ways_l1
    have g1' : book_desk_ways_l2 n n2 hs rs cs (k : Int) (Int.toNat (8 - 0)) 0 out = some R1 := g1
    rw [gd_t ⟨r64_small (by omega), r64_small (by omega)⟩, g1', b1_some, show (k : Int) + 1 = ((k + 1 : Nat) : Int) by omega]
    exact f1
theorem getD_rep {α : Type} (a d : α) {m j : Nat} (h : j < m) : (List.replicate m a).getD j d = a := by
  rw [List.getD_eq_getElem?_getD, List.getElem?_replicate, if_pos h]; rfl
theorem ways_eq (hr : ∀ r ∈ rs, -1 ≤ r ∧ r ≤ 7) (h8 : rs.length ≤ 8) : ∃ R, book_desk_ways n n2 hs rs cs = some R ∧ Tab R (FW rs) rs.length := by
  obtain ⟨R, g1, g2⟩ := ways_l1 (n := n) (n2 := n2) (hs := hs) (cs := cs) hr h8 rs.length 0 (List.replicate rs.length (List.replicate 8 0)) (by omega) (by simp) (fun j hj => by omega) (fun j _ hj => getD_rep _ _ hj)
  refine ⟨R, ?_, g2⟩
  unfold book_desk_ways
  have g1' : book_desk_ways_l1 n n2 hs rs cs (Int.toNat (((List.replicate ((rs.length : Int)).toNat (List.replicate 8 (0 : Int))).length : Int) - 0)) 0 (List.replicate ((rs.length : Int)).toNat (List.replicate 8 0)) = some R := by
    rw [Int.toNat_natCast, List.length_replicate, show Int.toNat ((rs.length : Int) - 0) = rs.length by omega]; exact g1
  rw [gd_t (by omega), bvE, gd_t ⟨r64_small (by omega), r64_small (by rw [List.length_replicate]; omega)⟩, g1', b1_some]
def TH (rs : List Int) (k v : Nat) : Int := (thr rs k (v : Int) : Int)
theorem TH_rng {rs : List Int} (h8 : rs.length ≤ 8) {k v : Nat} (hk : k < rs.length) (hv : v < 8) : 0 ≤ TH rs k v ∧ TH rs k v ≤ 4782969 := by
  unfold TH thr
  have h1 := G_le ((rs.take (k + 1)).reverse) (v : Int) (by omega)
  have h2 : ((rs.take (k + 1)).reverse).length - 1 ≤ 7 := by rw [List.length_reverse, List.length_take]; omega
  have h3 := G_le (rs.drop k) (v : Int) (by omega)
  have h4 : (rs.drop k).length - 1 ≤ 7 := by rw [List.length_drop]; omega
  have h5 := pow8 h2
  have h6 := pow8 h4
  have h7 := Nat.mul_le_mul (show G ((rs.take (k + 1)).reverse) (v : Int) ≤ 2187 by omega) (show G (rs.drop k) (v : Int) ≤ 2187 by omega)
  omega
theorem thr_l2 {rs : List Int} (h8 : rs.length ≤ 8) {B : List (List Int)} (hB : Tab B (FW rs.reverse) rs.length) {k : Nat} (hk : k < rs.length) : ∀ (fu w : Nat) (out : List (List Int)), w + fu = 8 → out.length = rs.length → (out.getD k []).length = 8 → (∀ v, w ≤ v → v < 8 → (out.getD k []).getD v 0 = FW rs k v) →
    ∃ R, book_desk_through_l2 B (k : Int) fu (w : Int) out = some R ∧ R.length = rs.length ∧ (∀ j, j ≠ k → R.getD j [] = out.getD j []) ∧ (R.getD k []).length = 8 ∧ (∀ v, v < w → (R.getD k []).getD v 0 = (out.getD k []).getD v 0) ∧ ∀ v, w ≤ v → v < 8 → (R.getD k []).getD v 0 = TH rs k v
  | 0, w, out, hw, hl, hrow, _ => ⟨out, rfl, hl, fun _ _ => rfl, hrow, fun _ _ => rfl, fun v h1 h2 => by omega⟩
  | fu + 1, w, out, hw, hl, hrow, h0 => by
    obtain ⟨b1, b2⟩ := hB.2 (rs.length - 1 - k) (by omega)
    have hb := b2 w (by omega)
    have ho := h0 w (Nat.le_refl _) (by omega)
    have eb : FW rs.reverse (rs.length - 1 - k) w = (G (rs.drop k) (w : Int) : Int) := by
      unfold FW
      rw [show rs.length - 1 - k + 1 = rs.length - k by omega, List.take_reverse, List.reverse_reverse, show rs.length - (rs.length - k) = k by omega]
    have eT : (out.getD k []).getD w 0 * (B.getD (rs.length - 1 - k) []).getD w 0 = TH rs k w := by
      rw [ho, hb, eb]; unfold FW TH thr
      rw [Int.natCast_mul]
    have hT := TH_rng h8 hk (show w < 8 by omega)
    have u := Upd.set (out := out) (k := k) (w := w) (by omega) hrow (by omega) (TH rs k w)
    obtain ⟨R, g1, g2, g3, g4, g5, g6⟩ := thr_l2 h8 hB hk fu (w + 1) _ (by omega) (by rw [u.len, hl]) u.row (fun v h1 h2 => by rw [u.old v (by omega)]; exact h0 v (by omega) h2)
    refine ⟨R, ?_, g2, fun j hj => by rw [g3 j hj, u.ne j hj], g4, fun v hv => by rw [g5 v (by omega), u.old v (by omega)], fun v h1 h2 => ?_⟩
    · unfold book_desk_through_l2
      rw [ixN [] _ (by omega), ixI _ (by omega), gd_t (r64_small (by have := hB.1; omega)), gd_t (r64_small (by have := hB.1; omega)), show (B.length : Int) - 1 - (k : Int) = ((rs.length - 1 - k : Nat) : Int) by have := hB.1; omega, ixN [] _ (by have := hB.1; omega), ixI _ (by omega), eT, gd_t (r64_small (by omega)), bvE, Int.toNat_natCast, Int.toNat_natCast, show (w : Int) + 1 = ((w + 1 : Nat) : Int) by omega]
      exact g1
    · by_cases e : v = w
      · subst e; rw [g5 v (by omega)]; exact u.new
      · exact g6 v (by omega) h2
theorem thr_l1 {rs : List Int} (h8 : rs.length ≤ 8) {B : List (List Int)} (hB : Tab B (FW rs.reverse) rs.length) : ∀ (fu k : Nat) (out : List (List Int)), k + fu = rs.length → out.length = rs.length → (∀ j, j < k → (out.getD j []).length = 8 ∧ ∀ v, v < 8 → (out.getD j []).getD v 0 = TH rs j v) → (∀ j, k ≤ j → j < rs.length → (out.getD j []).length = 8 ∧ ∀ v, v < 8 → (out.getD j []).getD v 0 = FW rs j v) →
    ∃ R, book_desk_through_l1 B fu (k : Int) out = some R ∧ Tab R (TH rs) rs.length
  | 0, k, out, hk, hl, h1, _ => ⟨out, rfl, hl, fun j hj => h1 j (by omega)⟩
  | fu + 1, k, out, hk, hl, h1, h2 => by
    obtain ⟨p1, p2⟩ := h2 k (Nat.le_refl _) (by omega)
    obtain ⟨R1, g1, g2, g3, g4, _, g6⟩ := thr_l2 h8 hB (k := k) (by omega) 8 0 out rfl hl p1 (fun v _ hv => p2 v hv)
    obtain ⟨R, f1, f2⟩ := thr_l1 h8 hB fu (k + 1) R1 (by omega) g2 (fun j hj => by
      by_cases e : j = k
      · subst e; exact ⟨g4, fun v hv => g6 v (Nat.zero_le _) hv⟩
      · rw [g3 j e]; exact h1 j (by omega)) (fun j h3 h4 => by rw [g3 j (by omega)]; exact h2 j (by omega) h4)
    refine ⟨R, ?_, f2⟩
    unfold book_desk_through_l1
    have g1' : book_desk_through_l2 B (k : Int) (Int.toNat (8 - 0)) 0 out = some R1 := g1
    rw [gd_t ⟨r64_small (by omega), r64_small (by omega)⟩, g1', b1_some, show (k : Int) + 1 = ((k + 1 : Nat) : Int) by omega]
    exact f1
theorem through_eq (hr : ∀ r ∈ rs, -1 ≤ r ∧ r ≤ 7) (h8 : rs.length ≤ 8) : ∃ R, book_desk_through n n2 hs rs cs = some R ∧ Tab R (TH rs) rs.length := by
  obtain ⟨A, e1, hA⟩ := ways_eq (n := n) (n2 := n2) (hs := hs) (cs := cs) hr h8
  obtain ⟨B, e2, hB⟩ := ways_eq (n := 0) (n2 := 0) (hs := []) (cs := []) (rs := rs.reverse) (fun r hm => hr r (List.mem_reverse.1 hm)) (by rw [List.length_reverse]; exact h8)
  rw [List.length_reverse] at hB
  obtain ⟨R, g1, g2⟩ := thr_l1 h8 hB rs.length 0 A (by omega) hA.1 (fun j hj => by omega) (fun j _ hj => hA.2 j hj)
  refine ⟨R, ?_, g2⟩
  unfold book_desk_through
  have g1' : book_desk_through_l1 B (Int.toNat ((A.length : Int) - 0)) 0 A = some R := by
    rw [hA.1, show Int.toNat ((rs.length : Int) - 0) = rs.length by omega]; exact g1
  rw [e1, b1_some, clone_eq (by omega), b1_some, reverse_eq _ (by omega), b1_some, e2, b1_some, gd_t ⟨r64_small (by omega), r64_small (by rw [hA.1]; omega)⟩, g1', b1_some]
/-- The rest of the sum of a row. -/
def smFrom (f : Nat → Int) : Nat → Nat → Int
  | 0, _ => 0
  | fu + 1, k => f k + smFrom f fu (k + 1)
theorem smFrom8 (f : Int → Nat) : smFrom (fun v => (f (v : Int) : Int)) 8 0 = (sm f W8 : Int) := by
  show (f 0 : Int) + ((f 1 : Int) + ((f 2 : Int) + ((f 3 : Int) + ((f 4 : Int) + ((f 5 : Int) + ((f 6 : Int) + ((f 7 : Int) + 0))))))) = ((f 0 + (f 1 + (f 2 + (f 3 + (f 4 + (f 5 + (f 6 + (f 7 + 0))))))) : Nat) : Int)
  omega
theorem Count_l1 {x : List Int} (hx : x.length = 8) {f : Nat → Int} (hf : ∀ v, v < 8 → x.getD v 0 = f v ∧ 0 ≤ f v ∧ f v ≤ 4782969) : ∀ (fu k : Nat) (m : Int), k + fu = 8 → 0 ≤ m → m ≤ 4782969 * k → book_Count_l1 x fu (k : Int) m = some (m + smFrom f fu k)
  | 0, k, m, _, _, _ => by unfold book_Count_l1 smFrom; rw [Int.add_zero]
  | fu + 1, k, m, hk, h0, h1 => by
    obtain ⟨e, h2, h3⟩ := hf k (by omega)
    unfold book_Count_l1 smFrom
    rw [ixI _ (by omega), e, gd_t (r64_small (by omega)), show (k : Int) + 1 = ((k + 1 : Nat) : Int) by omega, Count_l1 hx hf fu (k + 1) (m + f k) (by omega) (by omega) (by omega), Int.add_assoc]
theorem Count_eq (h : BOK n n2 hs rs cs) : book_Count n n2 hs rs cs = some ((cntR rs : Int), 0) := by
  have hr := h.hr
  obtain ⟨R, e1, hl, hR⟩ := through_eq (n := n) (n2 := n2) (hs := hs) (cs := cs) h.rr hr.2
  obtain ⟨h1, h2⟩ := hR 0 (by omega)
  have e2 : book_Count_l1 (R.getD 0 []) (Int.toNat (8 - 0)) 0 0 = some ((cntR rs : Int)) := by
    have := Count_l1 h1 (f := TH rs 0) (fun v hv => ⟨h2 v hv, TH_rng hr.2 (by omega) hv⟩) 8 0 0 rfl (by omega) (by omega)
    rw [Int.zero_add] at this
    refine this.trans ?_
    congr 1
    exact (smFrom8 (thr rs 0)).trans (by rw [thr_zero (by omega)])
  have ei : ∀ f : List Int → Option Int, ix R 0 f = f (R.getD 0 []) := fun f => ixN (i := 0) [] f (by omega)
  unfold book_Count
  rw [opened_eq h, b2_some, if_neg (by decide), b5_some, e1, b1_some, ei, gd_t ⟨r64_small (by omega), r64_small (by omega)⟩, e2, b1_some]
end
section
variable {n n2 : Int} {hs : List (List (List Int))} {rs : List Int} {cs : List (Int × Int × Int)}
end
end Go.Proofs.Ytodhcoakjlmcdaa.Bk
