/- Layer 5: sets that fit, naps, the fewest naps that begin later, the first explanation with the fewest naps; in plain Lean. -/
import Derived.Test.YtjgeaaganpkceaaZhQC
namespace Go.Proofs.Ytjgeaaganpkceaa.Nt
open Go.PL
def fitL (ls : List (List Int)) (ms : List Int) : List Nat := (List.range (2 ^ ls.length)).filter (fitB ls ms)
theorem mem_fitL {ls : List (List Int)} {ms : List Int} {a : Nat} : a ∈ fitL ls ms ↔ a < 2 ^ ls.length ∧ fitB ls ms a = true := by
  unfold fitL; rw [List.mem_filter, List.mem_range]
theorem rows_get {ls hs : List (List Int)} {h : Nat} (hh : h < hs.length) : (hs.map (rowOf ls)).getD h [] = rowOf ls (hs.getD h []) := by
  rw [List.getD_eq_getElem?_getD, List.getElem?_map, List.getElem?_eq_getElem hh, List.getD_eq_getElem?_getD, List.getElem?_eq_getElem hh]; rfl
theorem fit_l1 {ls hs : List (List Int)} (g : GoodW ls hs) {h : Nat} (hh : h < hs.length) : ∀ (fu k : Nat), k + fu ≤ 2 ^ ls.length → night_desk_fit_1_l1 (hs.map (rowOf ls)) (h : Int) fu (k : Int) = some (natL ((List.range' k fu).filter (fitB ls (hs.getD h []))))
  | 0, k, _ => rfl
  | fu + 1, k, hk => by
    have hp := pow_le64 g.n6
    unfold night_desk_fit_1_l1
    rw [ixN [] _ (by simpa using hh), ixN false _ (by rw [rows_get hh]; unfold rowOf; rw [rowP_len]; omega), row_get g hh (by omega), show (k : Int) + 1 = ((k + 1 : Nat) : Int) by omega, fit_l1 g hh fu (k + 1) (by omega), List.range'_succ]
    cases hb : fitB ls (hs.getD h []) k with
    | true => rw [if_pos rfl, List.filter_cons_of_pos hb]; rfl
    | false => rw [if_neg (by decide), List.filter_cons_of_neg (by rw [hb]; decide)]
theorem fit_eq {ls hs : List (List Int)} (g : GoodW ls hs) {h : Nat} (hh : h < hs.length) : night_desk_fit ls hs (hs.map (rowOf ls)) (h : Int) = some (natL (fitL ls (hs.getD h []))) := by
  have hp := pow_le64 g.n6
  have h6 := g.n6
  unfold night_desk_fit night_desk_fit_1
  rw [sets_eq (by omega), b1_some, gd_t ⟨r64_small (by omega), r64_nat (by omega)⟩, toNat_sub00, show (0 : Int) = ((0 : Nat) : Int) from rfl, fit_l1 g hh _ 0 (by omega), b1_some]
  rw [← List.range_eq_range']; rfl
/-- How many men are in a set. -/
def pop (x : Nat) : Nat := ((List.range 6).filter fun i => x.testBit i).length
theorem pop_le (x : Nat) : pop x ≤ 6 := List.length_filter_le ..
theorem ones_all : ∀ x : Fin 64, night_ones ((x.val : Nat) : Int) = some ((pop x.val : Nat) : Int) := by decide +kernel
theorem ones_eq {x : Nat} (h : x < 64) : night_ones (x : Int) = some (pop x : Int) := ones_all ⟨x, h⟩
/-- How many begin a nap. -/
def fal (b a : Nat) : Nat := pop (dif a b)
theorem fal_le (b a : Nat) : fal b a ≤ 6 := pop_le _
theorem fallen_eq {b a : Nat} (hb : b < 64) (ha : a < 64) : night_fallen (b : Int) (a : Int) = some (fal b a : Int) := by
  unfold night_fallen
  rw [bandn_nat (by omega) (by omega), ones_eq (dif_lt (n := 6) ha), b1_some]; rfl
def napsF : Nat → List Nat → Nat
  | _, [] => 0
  | b, a :: s => fal b a + napsF a s
theorem napsF_le : ∀ (b : Nat) (s : List Nat), napsF b s ≤ 6 * s.length
  | _, [] => Nat.le_refl _
  | b, a :: s => by
    have := napsF_le a s; have := fal_le b a
    unfold napsF; rw [List.length_cons]; omega
theorem least_eq {n m : Nat} : night_least (n : Int) [(m : Int)] = some ((min n m : Nat) : Int) := by
  unfold night_least night_least_l1 night_least_l1
  rw [b1_some]
  congr 1
  by_cases h : m < n
  · rw [if_pos (by omega), Nat.min_eq_right (by omega)]
  · rw [if_neg (by omega), Nat.min_eq_left (by omega)]
theorem least_eq' {n x y : Nat} : night_least (n : Int) [(x : Int) + (y : Int)] = some ((min n (x + y) : Nat) : Int) := by
  rw [show (x : Int) + (y : Int) = ((x + y : Nat) : Int) by omega, least_eq]
section
variable (ls : List (List Int)) (ok : Nat → Bool)
def stepM (R : Nat → Nat) (b : Nat) (v x : Nat) : Nat := if ok x = true then min v (R x + fal b x) else v
/-- The fewest naps in hours, behind a set; 100 if there is no explanation of them. -/
def restV : List (List Int) → Nat → Nat
  | [], _ => 0
  | ms :: tl, b => (fitL ls ms).foldl (stepM ok (restV tl) b) 100
theorem foldM_le (R : Nat → Nat) (b : Nat) : ∀ (l : List Nat) (v : Nat), l.foldl (stepM ok R b) v ≤ v
  | [], v => Nat.le_refl _
  | x :: l, v => by
    rw [List.foldl_cons]
    refine Nat.le_trans (foldM_le R b l _) ?_
    unfold stepM; split
    · exact Nat.min_le_left ..
    · exact Nat.le_refl _
theorem foldM_mem (R : Nat → Nat) (b : Nat) : ∀ (l : List Nat) (v x : Nat), x ∈ l → ok x = true → l.foldl (stepM ok R b) v ≤ R x + fal b x
  | [], _, _, h, _ => nomatch h
  | y :: l, v, x, h, hx => by
    rw [List.foldl_cons]
    rcases List.mem_cons.1 h with rfl | h
    · refine Nat.le_trans (foldM_le ok R b l _) ?_
      unfold stepM; rw [if_pos hx]; exact Nat.min_le_right ..
    · exact foldM_mem R b l _ x h hx
theorem foldM_of (R : Nat → Nat) (b : Nat) : ∀ (l : List Nat) (v : Nat), l.foldl (stepM ok R b) v = v ∨ ∃ x ∈ l, ok x = true ∧ l.foldl (stepM ok R b) v = R x + fal b x
  | [], v => .inl rfl
  | y :: l, v => by
    rw [List.foldl_cons]
    rcases foldM_of R b l (stepM ok R b v y) with h | ⟨x, hx, h1, h2⟩
    · by_cases hy : ok y = true
      · rw [h]
        unfold stepM; rw [if_pos hy]
        rcases Nat.le_total v (R y + fal b y) with h3 | h3
        · exact .inl (Nat.min_eq_left h3)
        · exact .inr ⟨y, List.mem_cons_self .., hy, Nat.min_eq_right h3⟩
      · refine .inl ?_
        rw [h]; unfold stepM; rw [if_neg hy]
    · exact .inr ⟨x, List.mem_cons_of_mem _ hx, h1, h2⟩
/-- An explanation of sets that count. -/
def ExplO (hs : List (List Int)) (s : List Nat) : Prop := Expl ls hs s ∧ ∀ a ∈ s, ok a = true
theorem restV_le : ∀ (hs : List (List Int)) (b : Nat) (s : List Nat), ExplO ls ok hs s → restV ls ok hs b ≤ napsF b s
  | [], _, [], _ => Nat.le_refl _
  | ms :: tl, b, a :: s, h => by
    have h1 := foldM_mem ok (restV ls ok tl) b (fitL ls ms) 100 a (mem_fitL.2 h.1.1) (h.2 a (List.mem_cons_self ..))
    have h2 := restV_le tl a s ⟨h.1.2, fun x hx => h.2 x (List.mem_cons_of_mem _ hx)⟩
    unfold restV napsF
    omega
  | [], _, _ :: _, h => h.1.elim
  | _ :: _, _, [], h => h.1.elim
theorem restV_100 : ∀ (hs : List (List Int)) (b : Nat), restV ls ok hs b ≤ 100
  | [], _ => by unfold restV; omega
  | ms :: tl, b => foldM_le ok _ b _ 100
theorem restV_of : ∀ (hs : List (List Int)) (b : Nat), restV ls ok hs b < 100 → ∃ s, ExplO ls ok hs s ∧ napsF b s = restV ls ok hs b
  | [], _, _ => ⟨[], ⟨trivial, fun _ h => nomatch h⟩, rfl⟩
  | ms :: tl, b, h => by
    have e : restV ls ok (ms :: tl) b = (fitL ls ms).foldl (stepM ok (restV ls ok tl) b) 100 := rfl
    rcases foldM_of ok (restV ls ok tl) b (fitL ls ms) 100 with h1 | ⟨x, hx, hox, h1⟩
    · rw [e, h1] at h; omega
    · rw [← e] at h1
      obtain ⟨s, h2, h3⟩ := restV_of tl x (by omega)
      refine ⟨x :: s, ⟨⟨mem_fitL.1 hx, h2.1⟩, fun y hy => ?_⟩, ?_⟩
      · rcases List.mem_cons.1 hy with rfl | hy
        · exact hox
        · exact h2.2 y hy
      · unfold napsF; rw [h3, h1]; omega
end
def restRow (ls : List (List Int)) (ok : Nat → Bool) (tl : List (List Int)) (m : Nat) : List Int := (List.range 64).map fun a => if a < m then (restV ls ok tl a : Int) else 0
theorem restRow_len {ls : List (List Int)} {ok : Nat → Bool} {tl : List (List Int)} {m : Nat} : (restRow ls ok tl m).length = 64 := by simp [restRow]
theorem restRow_get {ls : List (List Int)} {ok : Nat → Bool} {tl : List (List Int)} {m a : Nat} (ha : a < 64) : (restRow ls ok tl m).getD a 0 = if a < m then (restV ls ok tl a : Int) else 0 := by
  unfold restRow
  rw [List.getD_eq_getElem?_getD, List.getElem?_map, List.getElem?_range ha]; rfl
theorem restRow_set {ls : List (List Int)} {ok : Nat → Bool} {tl : List (List Int)} {m : Nat} (h : m < 64) : (restRow ls ok tl m).set m (restV ls ok tl m : Int) = restRow ls ok tl (m + 1) := by
  apply List.ext_getElem?
  intro j
  rw [List.getElem?_set]
  by_cases hj : m = j
  · subst hj
    simp [restRow, h]
  · rw [if_neg hj]
    by_cases hj2 : j < 64
    · simp only [restRow, List.getElem?_map, List.getElem?_range hj2, Option.map_some]
      by_cases h3 : j < m
      · rw [if_pos h3, if_pos (by omega)]
      · rw [if_neg h3, if_neg (by omega)]
    · rw [List.getElem?_eq_none (by rw [restRow_len]; omega), List.getElem?_eq_none (by rw [restRow_len]; omega)]
theorem restRow_zero (ls : List (List Int)) (ok : Nat → Bool) (tl : List (List Int)) : restRow ls ok tl 0 = List.replicate 64 0 := by
  unfold restRow
  rw [List.eq_replicate_iff]; simp
theorem restRow_nil (ls : List (List Int)) (ok : Nat → Bool) (m : Nat) : restRow ls ok [] m = List.replicate 64 0 := by
  unfold restRow
  rw [List.eq_replicate_iff]; simp [restV]
theorem set_set {α : Type} (l : List α) (i : Nat) (x y : α) : (l.set i x).set i y = l.set i y := by simp
theorem getD_set_same {α : Type} {l : List α} {i : Nat} {x d : α} (h : i < l.length) : (l.set i x).getD i d = x := by
  rw [List.getD_eq_getElem?_getD, List.getElem?_set_self h]; rfl
theorem getD_set_ne {α : Type} {l : List α} {i j : Nat} {x d : α} (h : i ≠ j) : (l.set i x).getD j d = l.getD j d := by
  rw [List.getD_eq_getElem?_getD, List.getElem?_set_ne h, ← List.getD_eq_getElem?_getD]
section
variable {ls hs : List (List Int)} {ok : Nat → Bool} {okF : Int → Option Bool}
theorem rest_l3 (g : GoodW ls hs) (hok : ∀ a : Nat, a < 2 ^ ls.length → okF (a : Int) = some (ok a)) {base : List (List Int)} {row : List Int} {h k : Nat} (hb : h + 1 < base.length) (hh : h < 100) (hr : row.length = 64) (hk : k < 64) {tl2 : List (List Int)} (hR : base.getD (h + 1) [] = restRow ls ok tl2 (2 ^ ls.length)) :
    ∀ (l : List Nat) (v : Nat), (∀ a ∈ l, a < 2 ^ ls.length) → night_desk_rest_l3 okF (h : Int) (k : Int) (natL l) (base.set h (row.set k (v : Int))) = some (base.set h (row.set k ((l.foldl (stepM ok (restV ls ok tl2) k) v : Nat) : Int)))
  | [], v, _ => rfl
  | a :: l, v, hl => by
    have hp := pow_le64 g.n6
    have ha := hl a (List.mem_cons_self ..)
    have ih := rest_l3 g hok hb hh hr hk hR l
    have e : natL (a :: l) = (a : Int) :: natL l := rfl
    rw [e]; unfold night_desk_rest_l3
    rw [hok a ha, b1_some, List.foldl_cons]
    cases ho : ok a with
    | false =>
      rw [if_neg (by decide), ih v (fun x hx => hl x (List.mem_cons_of_mem _ hx))]
      unfold stepM; rw [ho]; rfl
    | true =>
      have h1 := restV_100 ls ok tl2 a
      have h2 := fal_le k a
      rw [if_pos rfl, ixN [] _ (by rw [List.length_set]; omega), getD_set_same (by omega), ixN 0 _ (by rw [List.length_set]; omega), getD_set_same (by omega), gd_t (r64_small (by omega)), show (h : Int) + 1 = ((h + 1 : Nat) : Int) by omega, ixN [] _ (by rw [List.length_set]; omega), getD_set_ne (by omega), hR, ixN 0 _ (by rw [restRow_len]; omega), restRow_get (by omega), if_pos ha, fallen_eq hk (by omega), b1_some, gd_t (r64_small (by omega)), least_eq', b1_some, bvE, Int.toNat_natCast, Int.toNat_natCast, set_set, set_set]
      have := ih (min v (restV ls ok tl2 a + fal k a)) (fun x hx => hl x (List.mem_cons_of_mem _ hx))
      rw [this]
      unfold stepM; rw [ho]; rfl
theorem rest_l2 (g : GoodW ls hs) (hok : ∀ a : Nat, a < 2 ^ ls.length → okF (a : Int) = some (ok a)) {base : List (List Int)} {h : Nat} (hb : h + 1 < base.length) (hl : base.length = hs.length) {tl2 : List (List Int)} {ms : List Int} (hd : hs.getD (h + 1) [] = ms) (hR : base.getD (h + 1) [] = restRow ls ok tl2 (2 ^ ls.length)) :
    ∀ (fu m : Nat), m + fu = 2 ^ ls.length → night_desk_rest_l2 ls hs (hs.map (rowOf ls)) okF (h : Int) fu (m : Int) (base.set h (restRow ls ok (ms :: tl2) m)) = some (base.set h (restRow ls ok (ms :: tl2) (2 ^ ls.length)))
  | 0, m, hm => by rw [show m = 2 ^ ls.length by omega]; rfl
  | fu + 1, m, hm => by
    have hp := pow_le64 g.n6
    have h8 := g.h8
    have hm64 : m < 64 := by omega
    unfold night_desk_rest_l2
    rw [ixN [] _ (by rw [List.length_set]; omega), getD_set_same (by omega), ixN 0 _ (by rw [restRow_len]; omega), bvE, Int.toNat_natCast, Int.toNat_natCast, set_set, gd_t (r64_small (by omega)), show (h : Int) + 1 = ((h + 1 : Nat) : Int) by omega, fit_eq g (by omega), b1_some]
    have h3 := rest_l3 (row := restRow ls ok (ms :: tl2) m) g hok hb (by omega) restRow_len hm64 hR (fitL ls (hs.getD (h + 1) [])) 100 (fun a ha => (mem_fitL.1 ha).1)
    rw [show (100 : Int) = ((100 : Nat) : Int) from rfl, h3, b1_some, hd]
    have e : ((fitL ls ms).foldl (stepM ok (restV ls ok tl2) m) 100) = restV ls ok (ms :: tl2) m := rfl
    rw [e, restRow_set hm64, show (m : Int) + 1 = ((m + 1 : Nat) : Int) by omega]
    exact rest_l2 g hok hb hl hd hR fu (m + 1) (by omega)
/-- The rows behind hour h are done. -/
def restB (ls : List (List Int)) (ok : Nat → Bool) (hs : List (List Int)) (h : Nat) : List (List Int) := (List.range hs.length).map fun j => if h ≤ j then restRow ls ok (hs.drop (j + 1)) (2 ^ ls.length) else List.replicate 64 0
theorem restB_len (ls : List (List Int)) (ok : Nat → Bool) (hs : List (List Int)) (h : Nat) : (restB ls ok hs h).length = hs.length := by simp [restB]
theorem restB_get {h j : Nat} (hj : j < hs.length) : (restB ls ok hs h).getD j [] = if h ≤ j then restRow ls ok (hs.drop (j + 1)) (2 ^ ls.length) else List.replicate 64 0 := by
  unfold restB
  rw [List.getD_eq_getElem?_getD, List.getElem?_map, List.getElem?_range hj]; rfl
theorem restB_set {h : Nat} (hh : h < hs.length) : (restB ls ok hs (h + 1)).set h (restRow ls ok (hs.drop (h + 1)) (2 ^ ls.length)) = restB ls ok hs h := by
  apply List.ext_getElem?
  intro j
  rw [List.getElem?_set]
  by_cases hj : h = j
  · subst hj
    rw [if_pos rfl, if_pos (by rw [restB_len]; exact hh)]
    simp [restB, hh]
  · rw [if_neg hj]
    by_cases hj2 : j < hs.length
    · simp only [restB, List.getElem?_map, List.getElem?_range hj2, Option.map_some]
      by_cases h3 : h ≤ j
      · rw [if_pos h3, if_pos (by omega)]
      · rw [if_neg h3, if_neg (by omega)]
    · rw [List.getElem?_eq_none (by rw [restB_len]; omega), List.getElem?_eq_none (by rw [restB_len]; omega)]
theorem restB_self {h : Nat} (hh : h < hs.length) : (restB ls ok hs (h + 1)) = (restB ls ok hs (h + 1)).set h (List.replicate 64 0) := by
  apply List.ext_getElem?
  intro j
  rw [List.getElem?_set]
  by_cases hj : h = j
  · subst hj
    rw [if_pos rfl, if_pos (by rw [restB_len]; exact hh)]
    simp only [restB, List.getElem?_map, List.getElem?_range hh, Option.map_some]
    rw [if_neg (by omega)]
  · rw [if_neg hj]
theorem rest_l1 (g : GoodW ls hs) (hok : ∀ a : Nat, a < 2 ^ ls.length → okF (a : Int) = some (ok a)) : ∀ (h fu : Nat), h < fu → h + 1 ≤ hs.length → night_desk_rest_l1 ls hs (hs.map (rowOf ls)) okF fu (restB ls ok hs h) ((h : Int) - 1) = some (restB ls ok hs 0)
  | _, 0, hf, _ => absurd hf (Nat.not_lt_zero _)
  | 0, fu + 1, _, _ => by
    unfold night_desk_rest_l1
    rw [if_neg (by omega)]
  | h + 1, fu + 1, hf, hh => by
    have hp := pow_le64 g.n6
    have h6 := g.n6
    have h8 := g.h8
    unfold night_desk_rest_l1
    have e1 : ((h + 1 : Nat) : Int) - 1 = (h : Int) := by omega
    have hcons : hs.drop (h + 1) = hs.getD (h + 1) [] :: hs.drop (h + 2) := by
      rw [List.drop_eq_getElem_cons (by omega), List.getD_eq_getElem?_getD, List.getElem?_eq_getElem (by omega)]; rfl
    have h2 := rest_l2 (base := restB ls ok hs (h + 1)) (h := h) g hok (by rw [restB_len]; omega) (restB_len ..) rfl (tl2 := hs.drop (h + 2)) (by rw [restB_get (by omega), if_pos (by omega)]) (2 ^ ls.length) 0 (by omega)
    rw [restRow_zero, ← restB_self (by omega), ← hcons, restB_set (by omega)] at h2
    rw [e1, if_pos (by omega), sets_eq (by omega), b1_some, gd_t ⟨r64_small (by omega), r64_nat (by omega)⟩, toNat_sub00, show (0 : Int) = ((0 : Nat) : Int) from rfl, h2, b1_some, gd_t (r64_small (by omega))]
    exact rest_l1 g hok h fu (by omega) (by omega)
theorem rest_eq (g : GoodW ls hs) (hok : ∀ a : Nat, a < 2 ^ ls.length → okF (a : Int) = some (ok a)) : night_desk_rest ls hs (hs.map (rowOf ls)) okF = some (restB ls ok hs 0) := by
  have h8 := g.h8; have h1 := g.h1
  unfold night_desk_rest
  have e : List.replicate ((hs.length : Int) : Int).toNat (List.replicate 64 (0 : Int)) = restB ls ok hs (hs.length - 1) := by
    rw [Int.toNat_natCast]
    apply List.ext_getElem?
    intro j
    by_cases hj : j < hs.length
    · rw [List.getElem?_replicate_of_lt hj]
      simp only [restB, List.getElem?_map, List.getElem?_range hj, Option.map_some]
      split
      · rw [List.drop_eq_nil_of_le (by omega), restRow_nil]
      · rfl
    · rw [List.getElem?_eq_none (by simp; omega), List.getElem?_eq_none (by rw [restB_len]; omega)]
  have h2 := rest_l1 (okF := okF) g hok (hs.length - 1) FU (by unfold FU; omega) (by omega)
  rw [show (((hs.length - 1 : Nat) : Int) - 1) = (hs.length : Int) - 2 by omega] at h2
  rw [gd_t (by omega), bvE, gd_t (r64_small (by omega)), e, h2, b1_some]
/-- The best set for an hour, the first one of several, and what it comes to. -/
def bestS (ok : Nat → Bool) (R : Nat → Nat) (b : Nat) (p : Nat × Nat) (x : Nat) : Nat × Nat := if (ok x = true ∧ fal b x + R x < p.2) then (x, fal b x + R x) else p
theorem first_l4 (g : GoodW ls hs) (hok : ∀ a : Nat, a < 2 ^ ls.length → okF (a : Int) = some (ok a)) {b h : Nat} (hb : b < 64) (hh : h < hs.length) : ∀ (l : List Nat) (best n : Nat), (∀ a ∈ l, a < 2 ^ ls.length) →
    night_desk_first_l4 okF (restB ls ok hs 0) (b : Int) (h : Int) (natL l) (best : Int) (n : Int) = some ((((l.foldl (bestS ok (restV ls ok (hs.drop (h + 1))) b) (best, n)).1 : Nat) : Int), (((l.foldl (bestS ok (restV ls ok (hs.drop (h + 1))) b) (best, n)).2 : Nat) : Int))
  | [], best, n, _ => rfl
  | a :: l, best, n, hl => by
    have hp := pow_le64 g.n6
    have ha := hl a (List.mem_cons_self ..)
    have ih := first_l4 g hok hb hh l
    have h1 := restV_100 ls ok (hs.drop (h + 1)) a
    have h2 := fal_le b a
    have e : natL (a :: l) = (a : Int) :: natL l := rfl
    rw [e]; unfold night_desk_first_l4
    rw [fallen_eq hb (by omega), b1_some, ixN [] _ (by rw [restB_len]; exact hh), restB_get hh, if_pos (by omega), ixN 0 _ (by rw [restRow_len]; omega), restRow_get (by omega), if_pos ha, gd_t (r64_small (by omega)), hok a ha, b1_some, List.foldl_cons]
    by_cases hc : ok a = true ∧ fal b a + restV ls ok (hs.drop (h + 1)) a < n
    · have e2 : bestS ok (restV ls ok (hs.drop (h + 1))) b (best, n) a = (a, fal b a + restV ls ok (hs.drop (h + 1)) a) := if_pos hc
      rw [if_pos hc.1, b1_some, if_pos (decide_eq_true (by omega)), e2, show ((fal b a : Nat) : Int) + ((restV ls ok (hs.drop (h + 1)) a : Nat) : Int) = ((fal b a + restV ls ok (hs.drop (h + 1)) a : Nat) : Int) by omega]
      exact ih _ _ (fun x hx => hl x (List.mem_cons_of_mem _ hx))
    · have e2 : bestS ok (restV ls ok (hs.drop (h + 1))) b (best, n) a = (best, n) := if_neg hc
      rw [e2]
      cases ho : ok a with
      | false => rw [if_neg (by decide), b1_some, if_neg (by decide)]; exact ih _ _ (fun x hx => hl x (List.mem_cons_of_mem _ hx))
      | true =>
        rw [if_pos rfl, b1_some, if_neg (by
          rw [decide_eq_true_iff]
          intro h3
          exact hc ⟨ho, by omega⟩)]
        exact ih _ _ (fun x hx => hl x (List.mem_cons_of_mem _ hx))
end
theorem bestS_val (ok : Nat → Bool) (R : Nat → Nat) (b : Nat) : ∀ (l : List Nat) (p : Nat × Nat), (l.foldl (bestS ok R b) p).2 = l.foldl (stepM ok R b) p.2
  | [], _ => rfl
  | x :: l, p => by
    rw [List.foldl_cons, List.foldl_cons, bestS_val ok R b l]
    congr 1
    unfold bestS stepM
    by_cases h1 : ok x = true
    · rw [if_pos h1]
      by_cases h2 : fal b x + R x < p.2
      · rw [if_pos ⟨h1, h2⟩, Nat.min_eq_right (by omega)]; exact Nat.add_comm ..
      · rw [if_neg (fun h => h2 h.2), Nat.min_eq_left (by omega)]
    · rw [if_neg h1, if_neg (fun h => h1 h.1)]
/-- What the best one is. -/
theorem bestS_of (ok : Nat → Bool) (R : Nat → Nat) (b : Nat) : ∀ (l : List Nat) (p : Nat × Nat), (l.foldl (bestS ok R b) p = p ∧ ∀ x ∈ l, ok x = true → p.2 ≤ fal b x + R x) ∨ ∃ pre x suf, l = pre ++ x :: suf ∧ ok x = true ∧ l.foldl (bestS ok R b) p = (x, fal b x + R x) ∧ fal b x + R x < p.2 ∧ (∀ y ∈ l, ok y = true → fal b x + R x ≤ fal b y + R y) ∧ ∀ y ∈ pre, ok y = true → fal b x + R x < fal b y + R y
  | [], p => .inl ⟨rfl, fun _ h => nomatch h⟩
  | z :: l, p => by
    rw [List.foldl_cons]
    by_cases hz : ok z = true ∧ fal b z + R z < p.2
    · have e : bestS ok R b p z = (z, fal b z + R z) := if_pos hz
      rw [e]
      rcases bestS_of ok R b l (z, fal b z + R z) with ⟨h1, h2⟩ | ⟨pre, x, suf, h1, h2, h3, h4, h5, h6⟩
      · refine .inr ⟨[], z, l, rfl, hz.1, h1, hz.2, fun y hy hoy => ?_, fun _ h => nomatch h⟩
        rcases List.mem_cons.1 hy with rfl | hy
        · exact Nat.le_refl _
        · exact h2 y hy hoy
      · refine .inr ⟨z :: pre, x, suf, by rw [h1]; rfl, h2, h3, Nat.lt_trans h4 hz.2, fun y hy hoy => ?_, fun y hy hoy => ?_⟩
        · rcases List.mem_cons.1 hy with rfl | hy
          · exact Nat.le_of_lt h4
          · exact h5 y hy hoy
        · rcases List.mem_cons.1 hy with rfl | hy
          · exact h4
          · exact h6 y hy hoy
    · have e : bestS ok R b p z = p := if_neg hz
      rw [e]
      rcases bestS_of ok R b l p with ⟨h1, h2⟩ | ⟨pre, x, suf, h1, h2, h3, h4, h5, h6⟩
      · refine .inl ⟨h1, fun y hy hoy => ?_⟩
        rcases List.mem_cons.1 hy with rfl | hy
        · exact Nat.le_of_not_lt fun h => hz ⟨hoy, h⟩
        · exact h2 y hy hoy
      · refine .inr ⟨z :: pre, x, suf, by rw [h1]; rfl, h2, h3, h4, fun y hy hoy => ?_, fun y hy hoy => ?_⟩
        · rcases List.mem_cons.1 hy with rfl | hy
          · have : p.2 ≤ fal b y + R y := Nat.le_of_not_lt fun h => hz ⟨hoy, h⟩
            omega
          · exact h5 y hy hoy
        · rcases List.mem_cons.1 hy with rfl | hy
          · have : p.2 ≤ fal b y + R y := Nat.le_of_not_lt fun h => hz ⟨hoy, h⟩
            omega
          · exact h6 y hy hoy
/-- One list comes before another one, of as many. -/
def lexLe : List Nat → List Nat → Prop
  | [], _ => True
  | _ :: _, [] => False
  | a :: s, b :: t => a < b ∨ (a = b ∧ lexLe s t)
section
variable {ls hs : List (List Int)} {ok : Nat → Bool} {okF : Int → Option Bool}
/-- What first gives for hours, behind a set. -/
structure FirstOK (ls : List (List Int)) (ok : Nat → Bool) (hs : List (List Int)) (b : Nat) (s : List Nat) : Prop where
  ex : ExplO ls ok hs s
  naps : napsF b s = restV ls ok hs b
  lex : ∀ t, ExplO ls ok hs t → napsF b t = restV ls ok hs b → lexLe s t
theorem sorted_fitL (ls : List (List Int)) (ms : List Int) : (fitL ls ms).Pairwise (· < ·) := List.Pairwise.filter _ List.pairwise_lt_range
theorem first_l2 (g : GoodW ls hs) (hok : ∀ a : Nat, a < 2 ^ ls.length → okF (a : Int) = some (ok a)) : ∀ (tl : List (List Int)) (h : Nat) (pre : List Nat) (sum b : Nat), hs.drop h = tl → pre.length + tl.length ≤ 100 → sum ≤ 6 * pre.length → b < 2 ^ ls.length → (tl = [] → pre ≠ []) → restV ls ok tl b < 100 →
    ∃ s, night_desk_first_l2 ls hs (hs.map (rowOf ls)) okF (restB ls ok hs 0) tl (h : Int) (natL pre) (sum : Int) (b : Int) = some (natL (pre ++ s), ((sum + napsF b s : Nat) : Int)) ∧ FirstOK ls ok tl b s
  | [], h, pre, sum, b, _, _, _, _, hne, _ => by
    refine ⟨[], ?_, ⟨trivial, fun _ h => nomatch h⟩, rfl, fun t _ _ => trivial⟩
    unfold night_desk_first_l2 night_desk_first_j1
    have hp : natL pre ≠ [] := by
      have := hne rfl
      cases pre with
      | nil => exact absurd rfl this
      | cons _ _ => simp [natL]
    rw [gd_t hp, List.append_nil]; rfl
  | ms :: tl, h, pre, sum, b, hd, hl, hsum, hb, _, hr => by
    have hp := pow_le64 g.n6
    rw [List.length_cons] at hl
    have hk : h < hs.length := by
      rcases Nat.lt_or_ge h hs.length with h' | h'
      · exact h'
      · rw [List.drop_eq_nil_of_le h'] at hd; cases hd
    have hg : hs.getD h [] = ms := by
      rw [List.drop_eq_getElem_cons hk] at hd
      rw [List.getD_eq_getElem?_getD, List.getElem?_eq_getElem hk]
      exact (List.cons.inj hd).1
    have hd2 : hs.drop (h + 1) = tl := by
      rw [List.drop_eq_getElem_cons hk] at hd
      exact (List.cons.inj hd).2
    have e : restV ls ok (ms :: tl) b = (fitL ls ms).foldl (stepM ok (restV ls ok tl) b) 100 := rfl
    have h4 := first_l4 (b := b) g hok (by omega) hk (fitL ls ms) 0 100 (fun a ha => (mem_fitL.1 ha).1)
    rw [hd2] at h4
    have hval := bestS_val ok (restV ls ok tl) b (fitL ls ms) (0, 100)
    rcases bestS_of ok (restV ls ok tl) b (fitL ls ms) (0, 100) with ⟨h1, _⟩ | ⟨pre2, x, suf, h1, h2, h3, h5, h6, h7⟩
    · rw [h1] at hval
      rw [e, ← hval] at hr
      omega
    · rw [h3] at h4 hval
      have hx : x ∈ fitL ls ms := by rw [h1]; simp
      have hxs := mem_fitL.1 hx
      have hrx : restV ls ok tl x < 100 := by
        have : fal b x + restV ls ok tl x < 100 := h5
        omega
      obtain ⟨s, e2, f⟩ := first_l2 g hok tl (h + 1) (pre ++ [x]) (sum + fal b x) x hd2 (by simp; omega) (by have := fal_le b x; simp; omega) hxs.1 (fun _ => by simp) hrx
      have hv : restV ls ok (ms :: tl) b = fal b x + restV ls ok tl x := by rw [e, ← hval]
      refine ⟨x :: s, ?_, ⟨⟨hxs, f.ex.1⟩, fun y hy => ?_⟩, by rw [hv, ← f.naps]; rfl, fun t ht hn => ?_⟩
      · unfold night_desk_first_l2
        have h4' : night_desk_first_l4 okF (restB ls ok hs 0) (b : Int) (h : Int) (natL (fitL ls ms)) ((0 : Nat) : Int) ((100 : Nat) : Int) = some ((x : Int), ((fal b x + restV ls ok tl x : Nat) : Int)) := h4
        have hn100 : ¬ ((fal b x + restV ls ok tl x : Nat) : Int) = ((100 : Nat) : Int) := by
          have : fal b x + restV ls ok tl x < 100 := h5
          omega
        have hsl : pre.length ≤ 100 := by omega
        have hfl := fal_le b x
        rw [fit_eq g hk, b1_some, hg, show (0 : Int) = ((0 : Nat) : Int) from rfl, show (100 : Int) = ((100 : Nat) : Int) from rfl, h4', b2_some, if_neg hn100, fallen_eq (by omega) (by omega), b1_some, gd_t (r64_small (by omega)), ap_t (by simp [natL]; omega)]
        unfold night_desk_first_j3
        have e3 : natL pre ++ [(x : Int)] = natL (pre ++ [x]) := by simp [natL]
        rw [e3, show (h : Int) + 1 = ((h + 1 : Nat) : Int) by omega, show (sum : Int) + ((fal b x : Nat) : Int) = ((sum + fal b x : Nat) : Int) by omega, e2]
        rw [List.append_assoc, show napsF b (x :: s) = fal b x + napsF x s from rfl, show sum + (fal b x + napsF x s) = sum + fal b x + napsF x s by omega]; rfl
      · rcases List.mem_cons.1 hy with rfl | hy
        · exact h2
        · exact f.ex.2 y hy
      · cases t with
        | nil => exact ht.1.elim
        | cons y t =>
          have hyf : y ∈ fitL ls ms := mem_fitL.2 ht.1.1
          have hoy := ht.2 y (List.mem_cons_self ..)
          have ht2 : ExplO ls ok tl t := ⟨ht.1.2, fun z hz => ht.2 z (List.mem_cons_of_mem _ hz)⟩
          have hle := restV_le ls ok tl y t ht2
          have hmin := h6 y hyf hoy
          have hn' : fal b y + napsF y t = restV ls ok (ms :: tl) b := hn
          rw [hv] at hn'
          by_cases hxy : x = y
          · subst hxy
            exact .inr ⟨rfl, f.lex t ht2 (by omega)⟩
          · refine .inl ?_
            have hs := sorted_fitL ls ms
            rw [h1] at hs hyf
            rcases List.mem_append.1 hyf with h8 | h8
            · have := h7 y h8 hoy
              omega
            · rcases List.mem_cons.1 h8 with h9 | h9
              · exact absurd h9.symm hxy
              · exact (List.pairwise_cons.1 (List.pairwise_append.1 hs).2.1).1 y h9
theorem first_some (g : GoodW ls hs) (hok : ∀ a : Nat, a < 2 ^ ls.length → okF (a : Int) = some (ok a)) (hr : restV ls ok hs 0 < 100) : ∃ s, night_desk_first ls hs (hs.map (rowOf ls)) okF = some (natL s, (napsF 0 s : Int)) ∧ FirstOK ls ok hs 0 s := by
  have h1 := g.h1; have h8 := g.h8
  unfold night_desk_first
  obtain ⟨s, e, f⟩ := first_l2 g hok hs 0 [] 0 0 rfl (by simp; omega) (by simp) (Nat.pow_pos (by decide)) (fun h => by rw [h] at h1; simp at h1) hr
  refine ⟨s, ?_, f⟩
  rw [rest_eq g hok, b1_some]
  rw [List.nil_append, Nat.zero_add] at e
  exact e
/-- With an explanation there is no clash. -/
theorem clash_false (g : GoodW ls hs) {s : List Nat} (he : Expl ls hs s) : night_desk_clash ls hs (hs.map (rowOf ls)) = some false := by
  have key : ∀ (tl : List (List Int)) (s : List Nat) (k : Int), Expl ls tl s → slices_Index_night_row_night_row_l2 (List.replicate 64 false) (tl.map (rowOf ls)) k = some (-1) := by
    intro tl
    induction tl with
    | nil => intro s k _; rfl
    | cons ms tl ih =>
      intro s k h
      cases s with
      | nil => exact h.elim
      | cons a s =>
        have hp := pow_le64 g.n6
        rw [List.map_cons]
        unfold slices_Index_night_row_night_row_l2
        rw [if_neg, ih s (k + 1) h.2]
        intro heq
        have h1 : (rowOf ls ms).getD a false = true := by
          unfold rowOf rowP
          rw [List.getD_eq_getElem?_getD, List.getElem?_map, List.getElem?_range (by have := h.1.1; omega)]
          simp [h.1.1, h.1.2]
        rw [← heq, List.getD_eq_getElem?_getD, List.getElem?_replicate_of_lt (by have := h.1.1; omega)] at h1
        cases h1
  unfold night_desk_clash slices_Contains_night_row_night_row slices_Index_night_row_night_row
  rw [key hs s 0 he, b1_some, b1_some]; rfl
theorem told_ok (g : GoodW ls hs) {s : List Nat} (he : Expl ls hs s) : ∃ cried, night_told ls hs = some (some (ls, hs, cried, hs.map (rowOf ls)), 0) := by
  obtain ⟨c, h1, _⟩ := opened_ok g
  refine ⟨c, ?_⟩
  unfold night_told
  rw [h1, b2_some, if_neg (by decide), b4_some, clash_false g he, b1_some, if_neg (by decide)]
def allB : Nat → Bool := fun _ => true
theorem allB_ok : ∀ a : Nat, a < 2 ^ ls.length → (fun xx_ : Int => night_all_1 xx_) (a : Int) = some (allB a) := fun _ _ => rfl
theorem expl_rest (g : GoodW ls hs) {s : List Nat} (he : Expl ls hs s) : restV ls allB hs 0 < 100 := by
  have h1 := restV_le ls allB hs 0 s ⟨he, fun _ _ => rfl⟩
  have h2 := napsF_le 0 s
  have h3 := he.len
  have h4 := g.h8
  omega
theorem Fewest_ok (g : GoodW ls hs) {s : List Nat} (he : Expl ls hs s) : ∃ s1, night_Fewest ls hs = some (natL s1, (napsF 0 s1 : Int), 0) ∧ FirstOK ls allB hs 0 s1 := by
  obtain ⟨c, h1⟩ := told_ok g he
  obtain ⟨s1, h2, h3⟩ := first_some (okF := fun xx_ : Int => night_all_1 xx_) g allB_ok (expl_rest g he)
  refine ⟨s1, ?_, h3⟩
  unfold night_Fewest
  rw [h1, b2_some, if_neg (by decide), b4_some]
  unfold night_all
  rw [b1_some, gd_t rfl, h2, b2_some]
end
end Go.Proofs.Ytjgeaaganpkceaa.Nt
