/- Layer 1: towns seen in a mirror, towns with a wall more, louder voices; the order of lists; in plain Lean. -/
import Derived.Test.YtejkgppikpkkpaaZRHI
import Derived.Test.YtejkgppikpkkpaaZRHS
namespace Go.Proofs.Ytejkgppikpkkpaa
open Go.PL Go.Hear
section
variable {n : Nat} {E E' : Int → List (Int × Int)} {s : Int} {to : Int → Int}
theorem walk_to (hE : EOK n E) (hst : ∀ p q m : Int, (0 ≤ p ∧ p < n) → (q, m) ∈ E p → (to q, m) ∈ E' (to p)) (hs : 0 ≤ s ∧ s < n) {p d : Int} (h : Walk E s p d) : Walk E' (to s) (to p) d := by
  induction h with
  | here => exact .here
  | step h1 h2 ih => exact .step ih (hst _ _ _ (h1.rng hE hs).1 h2)
theorem tab_to (hE : EOK n E) (hE' : EOK n E') (hst : ∀ p q m : Int, (0 ≤ p ∧ p < n) → (q, m) ∈ E p → (to q, m) ∈ E' (to p)) (hs : 0 ≤ s ∧ s < n) (hs' : 0 ≤ to s ∧ to s < n) {t t' : List Int} (hT : Tab n E s t) (hT' : Tab n E' (to s) t') {p : Int} (hp : 0 ≤ p ∧ p < n) (h : at' t p ≠ -1) : at' t' (to p) ≠ -1 ∧ at' t' (to p) ≤ at' t p := by
  rcases hT.sound p hp.1 hp.2 with h1 | ⟨_, _, h1⟩
  · exact absurd h1 h
  · exact hT'.below hE' hs' (walk_to hE hst hs h1)
end
/-- Where a plot is in the mirror. -/
def mirP (down : Bool) (wide rows p : Int) : Int := if down = true then (rows - 1 - p / wide) * wide + p % wide else p / wide * wide + wide - 1 - p % wide
def mirS (down : Bool) (s : Int × Int) : Int × Int := if down = true then (-s.1, s.2) else (s.1, -s.2)
def mirW (down : Bool) (w : Int) : Int := if down = true then (if w = 1 ∨ w = 3 then 4 - w else w) else if w = 2 ∨ w = 4 then 6 - w else w
theorem mirP_ok {down : Bool} {wide rows p n : Int} (hw : 1 ≤ wide ∧ wide ≤ 6) (hr : n = rows * wide) (hp : 0 ≤ p ∧ p < n) : (0 ≤ mirP down wide rows p ∧ mirP down wide rows p < n) ∧ mirP down wide rows (mirP down wide rows p) = p := by
  have hc : wide = 1 ∨ wide = 2 ∨ wide = 3 ∨ wide = 4 ∨ wide = 5 ∨ wide = 6 := by omega
  unfold mirP
  cases down with
  | true => rcases hc with rfl | rfl | rfl | rfl | rfl | rfl <;> simp only [if_true] <;> omega
  | false => rcases hc with rfl | rfl | rfl | rfl | rfl | rfl <;> simp only [Bool.false_eq_true, if_false] <;> omega
theorem mirP_step {down : Bool} {wide rows p n : Int} {s : Int × Int} (hs : s ∈ stepsL) (hw : 1 ≤ wide ∧ wide ≤ 6) (hr : n = rows * wide) (_hp : 0 ≤ p ∧ p < n) (hq : 0 ≤ p + s.1 * wide + s.2 ∧ p + s.1 * wide + s.2 < n) (h0 : s.1 = 0 → (p + s.1 * wide + s.2) / wide = p / wide) :
    mirP down wide rows (p + s.1 * wide + s.2) = mirP down wide rows p + (mirS down s).1 * wide + (mirS down s).2 ∧ ((mirS down s).1 = 0 → mirP down wide rows (p + s.1 * wide + s.2) / wide = mirP down wide rows p / wide) ∧ mirS down s ∈ stepsL := by
  have hc : wide = 1 ∨ wide = 2 ∨ wide = 3 ∨ wide = 4 ∨ wide = 5 ∨ wide = 6 := by omega
  have hsc : s = (-1, 0) ∨ s = (0, -1) ∨ s = (0, 1) ∨ s = (1, 0) := by simpa [stepsL] using hs
  have hmem : mirS down s ∈ stepsL := by
    rcases hsc with rfl | rfl | rfl | rfl <;> cases down <;> decide
  refine ⟨?_, ?_, hmem⟩
  · unfold mirP mirS
    cases down with
    | true => rcases hc with rfl | rfl | rfl | rfl | rfl | rfl <;> rcases hsc with rfl | rfl | rfl | rfl <;> (try have h0 := h0 rfl) <;> simp only [if_true] at * <;> omega
    | false => rcases hc with rfl | rfl | rfl | rfl | rfl | rfl <;> rcases hsc with rfl | rfl | rfl | rfl <;> (try have h0 := h0 rfl) <;> simp only [Bool.false_eq_true, if_false] at * <;> omega
  · unfold mirP mirS
    cases down with
    | true => rcases hc with rfl | rfl | rfl | rfl | rfl | rfl <;> rcases hsc with rfl | rfl | rfl | rfl <;> (try have h0 := h0 rfl) <;> simp only [if_true] at * <;> omega
    | false => rcases hc with rfl | rfl | rfl | rfl | rfl | rfl <;> rcases hsc with rfl | rfl | rfl | rfl <;> (try have h0 := h0 rfl) <;> simp only [Bool.false_eq_true, if_false] at * <;> omega
theorem needN_kind (w a b k : Int) : needN w a b k = needN w a b 0 + if k = 1 then 1 else 0 := by unfold needN; simp
theorem needN_mir {down : Bool} {w : Int} (hw : okW w) {s : Int × Int} (hs : s ∈ stepsL) (k : Int) : needN (mirW down w) (mirS down s).1 (mirS down s).2 k = needN w s.1 s.2 k := by
  rw [needN_kind, needN_kind w]
  congr 1
  have hsc : s = (-1, 0) ∨ s = (0, -1) ∨ s = (0, 1) ∨ s = (1, 0) := by simpa [stepsL] using hs
  rcases okW_cases hw with rfl | rfl | rfl | rfl | rfl <;> rcases hsc with rfl | rfl | rfl | rfl <;> cases down <;> decide
theorem mirW_ok {down : Bool} {w : Int} (hw : okW w) : okW (mirW down w) ∧ mirW down (mirW down w) = w := by
  rcases okW_cases hw with rfl | rfl | rfl | rfl | rfl <;> cases down <;> decide
/-- The plots in the mirror. -/
def mirL (down : Bool) (wide rows : Int) (ps : List Int) : List Int := (List.range ps.length).map fun q : Nat => ps.getD (mirP down wide rows (q : Int)).toNat 0
theorem mirL_len (down : Bool) (wide rows : Int) (ps : List Int) : (mirL down wide rows ps).length = ps.length := by simp [mirL]
section
variable {down : Bool} {wide rows w : Int} {ps : List Int}
theorem mirL_get (hw : 1 ≤ wide ∧ wide ≤ 6) (hr : (ps.length : Int) = rows * wide) {p : Int} (hp : 0 ≤ p ∧ p < ps.length) : (mirL down wide rows ps).getD (mirP down wide rows p).toNat 0 = ps.getD p.toNat 0 := by
  obtain ⟨h1, h2⟩ := mirP_ok (down := down) hw hr hp
  unfold mirL
  rw [List.getD_eq_getElem?_getD, List.getElem?_map, List.getElem?_range (by omega)]
  show ps.getD (mirP down wide rows ((mirP down wide rows p).toNat : Int)).toNat 0 = _
  rw [Int.toNat_of_nonneg h1.1, h2]
theorem mirL_mirL (hw : 1 ≤ wide ∧ wide ≤ 6) (hr : (ps.length : Int) = rows * wide) : mirL down wide rows (mirL down wide rows ps) = ps := by
  apply List.ext_getElem (by rw [mirL_len, mirL_len])
  intro i h1 h2
  have h3 := mirL_get (down := down) (ps := ps) hw hr (p := (i : Int)) (by omega)
  have e : (mirL down wide rows (mirL down wide rows ps)).getD i 0 = (mirL down wide rows ps).getD (mirP down wide rows (i : Int)).toNat 0 := by
    have hi : i < (mirL down wide rows ps).length := by rw [mirL_len]; exact h2
    show ((List.range (mirL down wide rows ps).length).map fun q : Nat => (mirL down wide rows ps).getD (mirP down wide rows (q : Int)).toNat 0).getD i 0 = _
    rw [List.getD_eq_getElem?_getD, List.getElem?_map, List.getElem?_range hi]; rfl
  rw [h3, Int.toNat_natCast] at e
  rw [List.getD_eq_getElem?_getD, List.getD_eq_getElem?_getD, List.getElem?_eq_getElem h1, List.getElem?_eq_getElem h2] at e
  exact e
theorem next_mir (ho : openE wide ps w = 0) (hr : (ps.length : Int) = rows * wide) {p q m : Int} (hp : 0 ≤ p ∧ p < ps.length) (h : (q, m) ∈ nextL wide ps w p) : (mirP down wide rows q, m) ∈ nextL wide (mirL down wide rows ps) (mirW down w) (mirP down wide rows p) := by
  obtain ⟨hw, _, _, _, hww, _⟩ := openE_ok ho
  unfold nextL at h ⊢
  rw [List.mem_filterMap] at h ⊢
  obtain ⟨s, hs, he⟩ := h
  unfold nextOf at he
  split at he
  · cases he
  · rename_i hc
    obtain ⟨rfl, rfl⟩ := Prod.mk.inj (Option.some.inj he)
    have hq : 0 ≤ p + s.1 * wide + s.2 ∧ p + s.1 * wide + s.2 < ps.length := by
      refine Classical.byContradiction fun hn => hc (.inl (.inl fun h => hn (by omega)))
    have h0 : s.1 = 0 → (p + s.1 * wide + s.2) / wide = p / wide := fun h1 => by
      refine Classical.byContradiction fun hn => hc (.inl (.inr ⟨h1, hn⟩))
    have hk : ps.getD (p + s.1 * wide + s.2).toNat 0 ≠ 2 := fun h1 => hc (.inr h1)
    obtain ⟨e1, e2, e3⟩ := mirP_step (down := down) hs hw hr hp hq h0
    obtain ⟨r1, _⟩ := mirP_ok (down := down) hw hr hq
    have hg := mirL_get (down := down) hw hr hq
    refine ⟨mirS down s, e3, ?_⟩
    unfold nextOf
    rw [← e1, hg, needN_mir hww hs, mirL_len, if_neg]
    rintro ((h1 | ⟨h1, h2⟩) | h1)
    · exact h1 (by omega)
    · exact h2 (e2 h1)
    · exact hk h1
theorem chk_parts (h : chk wide ps = 0) : (1 ≤ wide ∧ wide ≤ 6) ∧ (1 ≤ ps.length ∧ ps.length ≤ 30) ∧ (ps.length : Int) % wide = 0 ∧ (∀ x ∈ ps, 0 ≤ x ∧ x ≤ 2) ∧ cntH ps ≤ 10 := by
  have ho : openE wide ps 0 = 0 := openE_of h (by unfold okW; omega)
  obtain ⟨h1, h2, h3, h4, _, h5⟩ := openE_ok ho
  exact ⟨h1, h2, h3, h4, h5⟩
theorem chk_of (hw : 1 ≤ wide ∧ wide ≤ 6) (hl : 1 ≤ ps.length ∧ ps.length ≤ 30) (hm : (ps.length : Int) % wide = 0) (hk : ∀ x ∈ ps, 0 ≤ x ∧ x ≤ 2) (hc : cntH ps ≤ 10) : chk wide ps = 0 := by
  unfold chk
  rw [if_neg (by omega), if_neg, if_neg (by omega)]
  rw [Decidable.not_not, List.all_eq_true]
  intro x hx
  exact decide_eq_true (hk x hx)
theorem rows_of (h : chk wide ps = 0) : (ps.length : Int) = (ps.length : Int) / wide * wide := by
  obtain ⟨h1, _, h3, _⟩ := chk_parts h
  have := Int.emod_add_mul_ediv (ps.length : Int) wide
  rw [h3, Int.zero_add, Int.mul_comm] at this
  omega
/-- The plots in the mirror are the plots, in another order. -/
theorem mirL_perm (hw : 1 ≤ wide ∧ wide ≤ 6) (hr : (ps.length : Int) = rows * wide) : (mirL down wide rows ps).Perm ps := by
  have e1 : ps = (List.range ps.length).map fun q : Nat => ps.getD q 0 := by
    apply List.ext_getElem (by simp)
    intro i h1 h2
    rw [List.getElem_map, List.getElem_range, List.getD_eq_getElem?_getD, List.getElem?_eq_getElem h1]; rfl
  have e2 : mirL down wide rows ps = ((List.range ps.length).map fun q : Nat => (mirP down wide rows (q : Int)).toNat).map fun q : Nat => ps.getD q 0 := by
    unfold mirL; rw [List.map_map]; rfl
  rw [e2]
  conv => rhs; rw [e1]
  apply List.Perm.map
  refine (List.perm_ext_iff_of_nodup ?_ List.nodup_range).2 fun x => ?_
  · rw [List.Nodup, List.pairwise_map]
    refine List.Pairwise.imp_of_mem (fun {a b} ha hb hab he => ?_) List.nodup_range
    rw [List.mem_range] at ha hb
    obtain ⟨a1, a2⟩ := mirP_ok (down := down) (n := (ps.length : Int)) hw hr (p := (a : Int)) ⟨Int.natCast_nonneg _, by omega⟩
    obtain ⟨b1, b2⟩ := mirP_ok (down := down) (n := (ps.length : Int)) hw hr (p := (b : Int)) ⟨Int.natCast_nonneg _, by omega⟩
    apply hab
    have : mirP down wide rows (a : Int) = mirP down wide rows (b : Int) := by
      have := congrArg (fun n : Nat => (n : Int)) he
      simp only [Int.toNat_of_nonneg a1.1, Int.toNat_of_nonneg b1.1] at this
      exact this
    have h3 := congrArg (mirP down wide rows) this
    rw [a2, b2] at h3
    omega
  · rw [List.mem_map, List.mem_range]
    constructor
    · rintro ⟨q, hq, rfl⟩
      rw [List.mem_range] at hq
      obtain ⟨a1, _⟩ := mirP_ok (down := down) (n := (ps.length : Int)) hw hr (p := (q : Int)) ⟨Int.natCast_nonneg _, by omega⟩
      omega
    · intro hx
      obtain ⟨a1, a2⟩ := mirP_ok (down := down) (n := (ps.length : Int)) hw hr (p := (x : Int)) ⟨Int.natCast_nonneg _, by omega⟩
      refine ⟨(mirP down wide rows (x : Int)).toNat, List.mem_range.2 (by omega), ?_⟩
      rw [Int.toNat_of_nonneg a1.1, a2, Int.toNat_natCast]
theorem chk_mir (h : chk wide ps = 0) (hr : (ps.length : Int) = rows * wide) : chk wide (mirL down wide rows ps) = 0 := by
  obtain ⟨h1, h2, h3, h4, h5⟩ := chk_parts h
  have hp := mirL_perm (down := down) h1 hr
  refine chk_of h1 (by rw [mirL_len]; exact h2) (by rw [mirL_len]; exact h3) (fun x hx => h4 x (hp.subset hx)) ?_
  have : cntH (mirL down wide rows ps) = cntH ps := (hp.filter _).length_eq
  rw [this]; exact h5
theorem mir_le (ho : openE wide ps w = 0) (ho' : openE wide (mirL down wide rows ps) (mirW down w) = 0) (hr : (ps.length : Int) = rows * wide) {s p : Int} (hs : 0 ≤ s ∧ s < ps.length) (hp : 0 ≤ p ∧ p < ps.length) (h : (tb wide ps w s).getD p.toNat 0 ≠ -1) : (tb wide (mirL down wide rows ps) (mirW down w) (mirP down wide rows s)).getD (mirP down wide rows p).toNat 0 ≠ -1 ∧ (tb wide (mirL down wide rows ps) (mirW down w) (mirP down wide rows s)).getD (mirP down wide rows p).toNat 0 ≤ (tb wide ps w s).getD p.toNat 0 := by
  obtain ⟨hw, _⟩ := openE_ok ho
  obtain ⟨a1, _⟩ := mirP_ok (down := down) hw hr hs
  have hE' : EOK ps.length (nextL wide (mirL down wide rows ps) (mirW down w)) := by
    have := nextL_ok ho'
    rwa [mirL_len] at this
  have hT' := tb_ok ho' (stand := mirP down wide rows s) (by rw [mirL_len]; exact a1)
  rw [mirL_len] at hT'
  exact tab_to (nextL_ok ho) hE' (fun p q m hp hx => next_mir ho hr hp hx) hs a1 (tb_ok ho hs) hT' hp h
theorem mir_eq (ho : openE wide ps w = 0) (hr : (ps.length : Int) = rows * wide) {s p : Int} (hs : 0 ≤ s ∧ s < ps.length) (hp : 0 ≤ p ∧ p < ps.length) : (tb wide (mirL down wide rows ps) (mirW down w) (mirP down wide rows s)).getD (mirP down wide rows p).toNat 0 = (tb wide ps w s).getD p.toNat 0 := by
  obtain ⟨hw, hl, hm, hk, hww, hc⟩ := openE_ok ho
  have hch : chk wide ps = 0 := chk_of hw hl hm hk hc
  obtain ⟨w1, w2⟩ := mirW_ok (down := down) hww
  have ho' : openE wide (mirL down wide rows ps) (mirW down w) = 0 := openE_of (chk_mir hch hr) w1
  obtain ⟨s1, s2⟩ := mirP_ok (down := down) hw hr hs
  obtain ⟨p1, p2⟩ := mirP_ok (down := down) hw hr hp
  have hr' : ((mirL down wide rows ps).length : Int) = rows * wide := by rw [mirL_len]; exact hr
  have back := mir_le (down := down) (ps := mirL down wide rows ps) (w := mirW down w) (s := mirP down wide rows s) (p := mirP down wide rows p) ho' (by rw [mirL_mirL hw hr, w2]; exact ho) hr' (by rw [mirL_len]; exact s1) (by rw [mirL_len]; exact p1)
  rw [mirL_mirL hw hr, w2, s2, p2] at back
  by_cases h : (tb wide ps w s).getD p.toNat 0 = -1
  · by_cases h' : (tb wide (mirL down wide rows ps) (mirW down w) (mirP down wide rows s)).getD (mirP down wide rows p).toNat 0 = -1
    · rw [h, h']
    · exact absurd h (back h').1
  · have h1 := mir_le ho ho' hr hs hp h
    have h2 := back h1.1
    omega
end
end Go.Proofs.Ytejkgppikpkkpaa
