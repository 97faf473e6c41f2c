/- Layer 1: Fewest, Best and Louder, in terms of who can be served; HearMirrored; in plain Lean. -/
import Derived.Test.YtejkgppikpkkpaaZRHX
namespace Go.Proofs.Ytejkgppikpkkpaa
open Go.PL Go.Hear
/-- So many stands can serve all houses. -/
def CanS (f : Int → List Bool) (k : Nat) (H : List Int) : Prop := ∃ C : List Nat, C.length ≤ k ∧ ∀ h ∈ H, ∃ s ∈ C, s < 30 ∧ (f h).getD s false = true
section
variable {wide : Int} {ps : List Int} {w v : Int}
theorem rowAll {C : List Nat} {H : List Int} : (∀ r ∈ askR wide ps w v H, ∃ s ∈ C, s < 30 ∧ r.getD s false = true) ↔ ∀ h ∈ H, ∃ s ∈ C, s < 30 ∧ (rowH wide ps w v h).getD s false = true := by
  rw [askR_eq]
  constructor
  · intro h x hx; exact h _ (List.mem_map.2 ⟨x, hx, rfl⟩)
  · intro h r hr
    obtain ⟨x, hx, rfl⟩ := List.mem_map.1 hr
    exact h x hx
theorem stL_nil (hn : ps.length ≤ 30) {h : Int} : stL wide ps w v h = [] ↔ ∀ s, s < 30 → (rowH wide ps w v h).getD s false = false := by
  unfold stL
  rw [lstN_nil]
  constructor
  · intro k s hs
    rw [rowH_get hn hs]
    by_cases h1 : s < ps.length
    · rw [k s h1, Bool.and_false]
    · rw [decide_eq_false h1, Bool.false_and]
  · intro k s hs
    have := k s (by omega)
    rw [rowH_get hn (by omega), decide_eq_true hs, Bool.true_and] at this
    exact this
theorem Few_eq {H : List Int} (hH : Hs wide ps w v H) : ((∃ h ∈ H, stL wide ps w v h = []) ∧ hear_Fewest wide ps w v H = some ([], 6)) ∨ ((∀ h ∈ H, stL wide ps w v h ≠ []) ∧ ∃ L, hear_Fewest wide ps w v H = some (L.map Int.ofNat, 0) ∧ IsFew (askR wide ps w v H) L) := by
  have hn := hH.n30
  have hl := hH.len
  rcases Fewest_eq (by omega) (by omega) hH.ask with ⟨h1, h2⟩ | ⟨h1, h2⟩
  · exact .inl ⟨(deaf_iff hn).1 h1, h2⟩
  · exact .inr ⟨fun h hh he => h1 ((deaf_iff hn).2 ⟨h, hh, he⟩), h2⟩
theorem IsFew.serves {H : List Int} {L : List Nat} (h : IsFew (askR wide ps w v H) L) : ∀ x ∈ H, ∃ s ∈ L, s < 30 ∧ (rowH wide ps w v x).getD s false = true := rowAll.1 fun r hr => by
  obtain ⟨s, h1, h2⟩ := h.all r hr
  exact ⟨s, h1, (h.inc.mem s h1).2, h2⟩
theorem few_can {H : List Int} {L : List Nat} (h : IsFew (askR wide ps w v H) L) {k : Nat} : L.length ≤ k ↔ CanS (rowH wide ps w v) k H := by
  constructor
  · intro hk; exact ⟨L, hk, h.serves⟩
  · rintro ⟨C, h1, h2⟩
    exact Nat.le_trans (h.le (rowAll.2 h2)) h1
theorem louderL_l1 {H : List Int} (hH : ∀ v', 1 ≤ v' ∧ v' ≤ 40 → Hs wide ps w v' H) {k : Nat} (hk : k ≤ 30) : ∀ (fu i : Nat), i + fu = 40 → ∃ r : Int, hear_Louder_l1 wide ps w H (k : Int) fu (i : Int) = some r ∧ ((r = 0 ∧ ∀ j : Nat, i ≤ j → j < 40 → ¬ CanS (rowH wide ps w ((j : Int) + 1)) k H) ∨ (∃ j : Nat, r = (j : Int) + 1 ∧ i ≤ j ∧ j < 40 ∧ CanS (rowH wide ps w ((j : Int) + 1)) k H ∧ ∀ j' : Nat, i ≤ j' → j' < j → ¬ CanS (rowH wide ps w ((j' : Int) + 1)) k H))
  | 0, i, hi => ⟨0, rfl, .inl ⟨rfl, fun j h1 h2 => by omega⟩⟩
  | fu + 1, i, hi => by
    have h' := hH ((i : Int) + 1) (by omega)
    have hn := h'.n30
    have hl := h'.len
    have hRl := askR_len wide ps w ((i : Int) + 1) H
    obtain ⟨L, n, h1, h2⟩ := chosen_eq (rows := askR wide ps w ((i : Int) + 1) H) (count := fun x : Int => hear_ones x) (askR_30 H) (by omega) (fun u hu => ones_eq (by omega)) (most := k) (by omega)
    have hb : n = H.length ↔ CanS (rowH wide ps w ((i : Int) + 1)) k H := by
      have := (best_all h2).2
      rw [hRl] at this
      rw [this]
      unfold CanS
      constructor
      · rintro ⟨C, c1, c2⟩; exact ⟨C, c1, rowAll.1 c2⟩
      · rintro ⟨C, c1, c2⟩; exact ⟨C, c1, rowAll.2 c2⟩
    unfold hear_Louder_l1
    rw [asked_eq (by omega) H (by omega), h'.ask, b3_some, gd_t (decide_eq_true rfl), if_pos rfl, h1, b2_some]
    by_cases hc : (n : Int) = (H.length : Int)
    · exact ⟨(i : Int) + 1, by rw [if_pos hc], .inr ⟨i, rfl, Nat.le_refl _, by omega, hb.1 (by omega), fun j' a b => by omega⟩⟩
    · obtain ⟨r, g1, g2⟩ := louderL_l1 hH hk fu (i + 1) (by omega)
      refine ⟨r, by rw [if_neg hc]; exact g1, ?_⟩
      have hno : ¬ CanS (rowH wide ps w ((i : Int) + 1)) k H := fun h => hc (by have := hb.2 h; omega)
      rcases g2 with ⟨a, b⟩ | ⟨j, a, b, c, d, e⟩
      · refine .inl ⟨a, fun j h1 h2 => ?_⟩
        by_cases hj : j = i
        · subst hj; exact hno
        · exact b j (by omega) h2
      · refine .inr ⟨j, a, by omega, c, d, fun j' h1 h2 => ?_⟩
        by_cases hj : j' = i
        · subst hj; exact hno
        · exact e j' (by omega) h2
/-- The least voice. -/
theorem Louder_eq {H : List Int} (hH : ∀ v', 1 ≤ v' ∧ v' ≤ 40 → Hs wide ps w v' H) {k : Nat} (hk : k ≤ 30) : (hear_Louder wide ps w H (k : Int) = some (0, 6) ∧ ∀ v' : Int, 1 ≤ v' → v' ≤ 40 → ¬ CanS (rowH wide ps w v') k H) ∨ (∃ r : Int, hear_Louder wide ps w H (k : Int) = some (r, 0) ∧ 1 ≤ r ∧ r ≤ 40 ∧ CanS (rowH wide ps w r) k H ∧ ∀ v' : Int, 1 ≤ v' → v' < r → ¬ CanS (rowH wide ps w v') k H) := by
  have h40 := hH 40 (by omega)
  have hl := h40.len
  have hn := h40.n30
  obtain ⟨r, g1, g2⟩ := louderL_l1 hH hk 40 0 rfl
  have g1' : hear_Louder_l1 wide ps w H (k : Int) (Int.toNat (40 - 0)) 0 = some r := g1
  have e : hear_Louder wide ps w H (k : Int) = if r = 0 then some (0, 6) else some (r, 0) := by
    unfold hear_Louder
    rw [asked_eq (by omega) H (by omega), h40.ask, b3_some, if_neg (fun h => h rfl), in_eq, b1_some, if_neg (by simp; omega), gd_t ⟨by decide, by decide⟩, g1', b1_some]
  rcases g2 with ⟨a, b⟩ | ⟨j, a, b, c, d, f⟩
  · refine .inl ⟨by rw [e, if_pos a], fun v' h1 h2 => ?_⟩
    have := b (v' - 1).toNat (Nat.zero_le _) (by omega)
    rwa [Int.toNat_of_nonneg (by omega), show v' - 1 + 1 = v' by omega] at this
  · refine .inr ⟨r, by rw [e, if_neg (by omega)], by omega, by omega, by rw [a]; exact d, fun v' h1 h2 => ?_⟩
    have := f (v' - 1).toNat (Nat.zero_le _) (by omega)
    rwa [Int.toNat_of_nonneg (by omega), show v' - 1 + 1 = v' by omega] at this
end
structure MP (f f' : Int → List Bool) (H H' : List Int) (to : Int → Int) (ts : Nat → Nat) : Prop where
  sub : ∀ h ∈ H, to h ∈ H'
  back : ∀ h' ∈ H', ∃ h ∈ H, to h = h'
  inj : ∀ x ∈ H, ∀ y ∈ H, to x = to y → x = y
  row : ∀ h ∈ H, ∀ s, s < 30 → (f h).getD s false = true → ts s < 30 ∧ (f' (to h)).getD (ts s) false = true
  wor : ∀ h ∈ H, ∀ s, s < 30 → (f' (to h)).getD s false = true → ts s < 30 ∧ (f h).getD (ts s) false = true
section
variable {f f' : Int → List Bool} {H H' : List Int} {to : Int → Int} {ts : Nat → Nat}
theorem MP.can (h : MP f f' H H' to ts) {k : Nat} (hc : CanS f k H) : CanS f' k H' := by
  obtain ⟨C, c1, c2⟩ := hc
  refine ⟨C.map ts, by rw [List.length_map]; exact c1, fun x hx => ?_⟩
  obtain ⟨y, hy, rfl⟩ := h.back x hx
  obtain ⟨s, s1, s2, s3⟩ := c2 y hy
  obtain ⟨r1, r2⟩ := h.row y hy s s2 s3
  exact ⟨ts s, List.mem_map.2 ⟨s, s1, rfl⟩, r1, r2⟩
theorem MP.ap (h : MP f f' H H' to ts) {A A' : List Int} (ha : IsAp f H A) (ha' : IsAp f' H' A') : A.length ≤ A'.length := by
  refine ha.map_le ha' h.inj h.sub fun x hx y hy hc => comB_false.2 fun s hs hb => ?_
  obtain ⟨r1, r2⟩ := h.wor x hx s hs hb.1
  obtain ⟨_, r3⟩ := h.wor y hy s hs hb.2
  exact comB_false.1 hc (ts s) r1 ⟨r2, r3⟩
end
section
variable {down : Bool} {wide rows w v : Int} {ps : List Int}
theorem hrB_mir (ho : openE wide ps w = 0) (hr : (ps.length : Int) = rows * wide) {s p : Int} (hs : 0 ≤ s ∧ s < ps.length) (hp : 0 ≤ p ∧ p < ps.length) : hrB wide (mirL down wide rows ps) (mirW down w) v (mirP down wide rows s).toNat (mirP down wide rows p).toNat = hrB wide ps w v s.toNat p.toNat := by
  obtain ⟨hw, _⟩ := openE_ok ho
  have hs' := (mirP_ok (down := down) hw hr hs).1
  unfold hrB
  rw [mirL_get hw hr hs, mirL_get hw hr hp, Int.toNat_of_nonneg hs'.1, Int.toNat_of_nonneg hs.1, mir_eq ho hr hs hp]
theorem mir_mp (hc : chk wide ps = 0) (hw : okW w) (hr : (ps.length : Int) = rows * wide) : MP (rowH wide ps w v) (rowH wide (mirL down wide rows ps) (mirW down w) v) (kindL 1 ps 0) (kindL 1 (mirL down wide rows ps) 0) (mirP down wide rows) (fun s => (mirP down wide rows (s : Int)).toNat) := by
  have ho := openE_of hc hw
  obtain ⟨h1, h2, _⟩ := openE_ok ho
  have hl := mirL_len down wide rows ps
  have mem : ∀ x : Int, (0 ≤ x ∧ x < ps.length) → (mirP down wide rows x ∈ kindL 1 (mirL down wide rows ps) 0 ↔ x ∈ kindL 1 ps 0) := fun x hx => by
    rw [kind0, kind0, hl, mirL_get h1 hr hx]
    have := (mirP_ok (down := down) h1 hr hx).1
    constructor
    · rintro ⟨_, b⟩; exact ⟨hx, b⟩
    · rintro ⟨_, b⟩; exact ⟨this, b⟩
  have hrng : ∀ h ∈ kindL 1 ps 0, 0 ≤ h ∧ h < ps.length := fun h hh => (kind0.1 hh).1
  have key : ∀ h ∈ kindL 1 ps 0, ∀ s : Nat, s < 30 → ((rowH wide (mirL down wide rows ps) (mirW down w) v (mirP down wide rows h)).getD s false = true ↔ s < ps.length ∧ hrB wide ps w v (mirP down wide rows (s : Int)).toNat h.toNat = true) := fun h hh s hs => by
    rw [rowH_true (by rw [hl]; exact h2.2) hs, hl]
    constructor
    · rintro ⟨a, b⟩
      obtain ⟨q1, q2⟩ := mirP_ok (down := down) h1 hr (p := (s : Int)) ⟨by omega, by omega⟩
      have e := hrB_mir (down := down) (v := v) ho hr q1 (hrng h hh)
      rw [q2, Int.toNat_natCast, b] at e
      exact ⟨a, e.symm⟩
    · rintro ⟨a, b⟩
      obtain ⟨q1, q2⟩ := mirP_ok (down := down) h1 hr (p := (s : Int)) ⟨by omega, by omega⟩
      have e := hrB_mir (down := down) (v := v) ho hr q1 (hrng h hh)
      rw [q2, Int.toNat_natCast, b] at e
      exact ⟨a, e⟩
  refine ⟨fun h hh => (mem h (hrng h hh)).2 hh, fun h hh => ?_, fun x hx y hy he => ?_, fun h hh s hs hg => ?_, fun h hh s hs hg => ?_⟩
  · have hh' := (kind0.1 hh).1
    rw [hl] at hh'
    obtain ⟨q1, q2⟩ := mirP_ok (down := down) h1 hr hh'
    refine ⟨mirP down wide rows h, (mem _ q1).1 (by rw [q2]; exact hh), q2⟩
  · have a := (mirP_ok (down := down) h1 hr (hrng x hx)).2
    have b := (mirP_ok (down := down) h1 hr (hrng y hy)).2
    rw [← a, he, b]
  · obtain ⟨a, b⟩ := (rowH_true h2.2 hs).1 hg
    obtain ⟨q1, q2⟩ := mirP_ok (down := down) h1 hr (p := (s : Int)) ⟨by omega, by omega⟩
    have q3 : (mirP down wide rows (s : Int)).toNat < 30 := by omega
    refine ⟨q3, (key h hh _ q3).2 ⟨by omega, ?_⟩⟩
    rw [Int.toNat_of_nonneg q1.1, q2, Int.toNat_natCast]
    exact b
  · obtain ⟨a, b⟩ := (key h hh s hs).1 hg
    obtain ⟨q1, q2⟩ := mirP_ok (down := down) h1 hr (p := (s : Int)) ⟨by omega, by omega⟩
    have q3 : (mirP down wide rows (s : Int)).toNat < 30 := by omega
    exact ⟨q3, (rowH_true h2.2 q3).2 ⟨by omega, b⟩⟩
theorem mir_pm (hc : chk wide ps = 0) (hw : okW w) (hr : (ps.length : Int) = rows * wide) : MP (rowH wide (mirL down wide rows ps) (mirW down w) v) (rowH wide ps w v) (kindL 1 (mirL down wide rows ps) 0) (kindL 1 ps 0) (mirP down wide rows) (fun s => (mirP down wide rows (s : Int)).toNat) := by
  obtain ⟨h1, _⟩ := openE_ok (openE_of hc hw)
  obtain ⟨w1, w2⟩ := mirW_ok (down := down) hw
  have := mir_mp (down := down) (v := v) (chk_mir (down := down) hc hr) w1 (by rw [mirL_len]; exact hr)
  rwa [mirL_mirL h1 hr, w2] at this
theorem mirTo_eq (hw : 1 ≤ wide ∧ wide ≤ 6) {n : Int} (hn : 0 ≤ n ∧ n ≤ 1000) (hr : n = rows * wide) {p : Int} (hp : 0 ≤ p ∧ p < n) : oyezlaw01_HearMirrored_1 p down rows wide ps = some (mirP down wide rows p) := by
  have d : Int.tdiv p wide = p / wide := Int.tdiv_eq_ediv_of_nonneg hp.1
  have m : Int.tmod p wide = p % wide := Int.tmod_eq_emod_of_nonneg hp.1
  have h1 := (mirP_ok (down := down) hw hr hp).1
  have hc : wide = 1 ∨ wide = 2 ∨ wide = 3 ∨ wide = 4 ∨ wide = 5 ∨ wide = 6 := by omega
  unfold oyezlaw01_HearMirrored_1 mirP
  rw [d, m]
  have b1' : 0 ≤ p / wide ∧ p / wide ≤ 1000 := by rcases hc with rfl | rfl | rfl | rfl | rfl | rfl <;> omega
  have b2' : 0 ≤ p % wide ∧ p % wide ≤ 6 := by rcases hc with rfl | rfl | rfl | rfl | rfl | rfl <;> omega
  have b3' : 0 ≤ rows ∧ rows ≤ 1000 := by rcases hc with rfl | rfl | rfl | rfl | rfl | rfl <;> omega
  have b4' : -10000 ≤ (rows - 1 - p / wide) * wide ∧ (rows - 1 - p / wide) * wide ≤ 10000 := by rcases hc with rfl | rfl | rfl | rfl | rfl | rfl <;> omega
  have b5' : 0 ≤ p / wide * wide ∧ p / wide * wide ≤ 10000 := by rcases hc with rfl | rfl | rfl | rfl | rfl | rfl <;> omega
  cases down with
  | true =>
    rw [if_pos rfl, if_pos rfl, gd_t (r64_small (by omega)), gd_t ⟨by omega, r64_small (by omega)⟩, gd_t (r64_small (by omega)), gd_t (r64_small (by omega)), gd_t (by omega), gd_t (r64_small (by omega))]
  | false =>
    rw [if_neg (by decide), if_neg (by decide), gd_t ⟨by omega, r64_small (by omega)⟩, gd_t (r64_small (by omega)), gd_t (r64_small (by omega)), gd_t (r64_small (by omega)), gd_t (by omega), gd_t (r64_small (by omega))]
theorem mir_l1 (hw : 1 ≤ wide ∧ wide ≤ 6) (hn : ps.length ≤ 30) (hr : (ps.length : Int) = rows * wide) (hrt : Int.tdiv (ps.length : Int) wide = rows) : ∀ (tl : List Int) (k : Nat) (u : List Int), ps.drop k = tl → u.length = ps.length → (∀ j : Nat, j < k → j < ps.length → u.getD (mirP down wide rows (j : Int)).toNat 0 = ps.getD j 0) → oyezlaw01_HearMirrored_l1 down wide ps tl (k : Int) u = some (ps, mirL down wide rows ps)
  | [], k, u, hd, hu, hj => by
    have hk : ps.length ≤ k := List.drop_eq_nil_iff.1 hd
    have : u = mirL down wide rows ps := by
      apply List.ext_getElem (by rw [mirL_len, hu])
      intro i h1 h2
      obtain ⟨q1, q2⟩ := mirP_ok (down := down) hw hr (p := (i : Int)) ⟨by omega, by omega⟩
      have e := hj (mirP down wide rows (i : Int)).toNat (by omega) (by omega)
      rw [Int.toNat_of_nonneg q1.1, q2, Int.toNat_natCast] at e
      have e1 : u.getD i 0 = u[i] := by rw [List.getD_eq_getElem?_getD, List.getElem?_eq_getElem h1]; rfl
      have e2 : (mirL down wide rows ps).getD i 0 = ps.getD (mirP down wide rows (i : Int)).toNat 0 := by
        unfold mirL
        rw [List.getD_eq_getElem?_getD, List.getElem?_map, List.getElem?_range (by omega)]; rfl
      have e3 : (mirL down wide rows ps).getD i 0 = (mirL down wide rows ps)[i] := by rw [List.getD_eq_getElem?_getD, List.getElem?_eq_getElem h2]; rfl
      rw [← e1, e, ← e3, e2]
    rw [this]; rfl
  | x :: tl, k, u, hd, hu, hj => by
    have hk : k < ps.length := by
      rcases Nat.lt_or_ge k ps.length with h' | h'
      · exact h'
      · rw [List.drop_eq_nil_of_le h'] at hd; cases hd
    have hx : ps.getD k 0 = x ∧ ps.drop (k + 1) = tl := by
      rw [List.drop_eq_getElem_cons hk] at hd
      rw [List.getD_eq_getElem?_getD, List.getElem?_eq_getElem hk]
      exact ⟨(List.cons.inj hd).1, (List.cons.inj hd).2⟩
    obtain ⟨q1, q2⟩ := mirP_ok (down := down) hw hr (p := (k : Int)) ⟨by omega, by omega⟩
    have ih := mir_l1 hw hn hr hrt tl (k + 1) (u.set (mirP down wide rows (k : Int)).toNat x) hx.2 (by rw [List.length_set]; exact hu) (fun j h1 h2 => by
      rw [getD_set (by omega)]
      obtain ⟨r1, r2⟩ := mirP_ok (down := down) hw hr (p := (j : Int)) ⟨by omega, by omega⟩
      by_cases hjk : j = k
      · subst hjk; rw [if_pos rfl, hx.1]
      · rw [if_neg, hj j (by omega) h2]
        intro e
        have e2 : mirP down wide rows (k : Int) = mirP down wide rows (j : Int) := by omega
        have e3 := congrArg (mirP down wide rows) e2
        rw [q2, r2] at e3
        omega)
    unfold oyezlaw01_HearMirrored_l1
    rw [hrt, mirTo_eq hw (n := (ps.length : Int)) (by omega) hr ⟨by omega, by omega⟩, b1_some, ix_get _ q1.1 (by omega), bvE]
    exact ih
theorem mir_l5 (hw : 1 ≤ wide ∧ wide ≤ 6) (hn : ps.length ≤ 30) (hr : (ps.length : Int) = rows * wide) (hrt : Int.tdiv (ps.length : Int) wide = rows) {l6 : List Int} {rec3 : Option Bool} (hl6 : l6.length = ps.length) : ∀ (tl pre : List Int), pre.length + tl.length = ps.length → (∀ k : Nat, k < ps.length → l6.getD (mirP down wide rows (k : Int)).toNat 0 = (pre ++ tl).getD k 0) → oyezlaw01_HearMirrored_l5 down wide ps ps l6 rec3 tl (pre.length : Int) = rec3
  | [], pre, _, _ => rfl
  | x :: tl, pre, hl, h => by
    rw [List.length_cons] at hl
    have ih := mir_l5 hw hn hr hrt (rec3 := rec3) hl6 tl (pre ++ [x]) (by simp; omega) (by rw [List.append_assoc]; exact h)
    rw [List.length_append, List.length_singleton] at ih
    have hk := h pre.length (by omega)
    have hx : (pre ++ x :: tl).getD pre.length 0 = x := getA
    rw [hx] at hk
    obtain ⟨q1, _⟩ := mirP_ok (down := down) hw hr (p := (pre.length : Int)) ⟨by omega, by omega⟩
    unfold oyezlaw01_HearMirrored_l5
    rw [hrt, mirTo_eq hw (n := (ps.length : Int)) (by omega) hr ⟨by omega, by omega⟩, b1_some, ix_get _ q1.1 (by omega), hk, if_neg (fun h => h rfl)]
    exact ih
theorem mir_l3 (hc : chk wide ps = 0) (hw : okW w) (hr : (ps.length : Int) = rows * wide) (hrt : Int.tdiv (ps.length : Int) wide = rows) {n3 : Int} (hj : oyezlaw01_HearMirrored_j2 wide w n3 wide ps (mirL down wide rows ps) (mirW down w) = some true) : ∀ T : List Int, (∀ s ∈ T, s ∈ kindL 0 ps 0) → oyezlaw01_HearMirrored_l3 down wide ps w n3 wide ps (mirL down wide rows ps) (mirW down w) T = some true
  | [], _ => hj
  | s :: T, hT => by
    have ih := mir_l3 hc hw hr hrt hj T fun y hy => hT y (List.mem_cons_of_mem _ hy)
    have hs := kind0.1 (hT s (List.mem_cons_self ..))
    have ho := openE_of hc hw
    obtain ⟨h1, h2, _⟩ := openE_ok ho
    have ho2 := openE_of (chk_mir (down := down) hc hr) (mirW_ok (down := down) hw).1
    have hl := mirL_len down wide rows ps
    obtain ⟨q1, _⟩ := mirP_ok (down := down) h1 hr hs.1
    have e1 : standE wide ps w s = 0 := by unfold standE; rw [if_neg (not_not_intro ho), isE_is hs]
    have e2 : standE wide (mirL down wide rows ps) (mirW down w) (mirP down wide rows s) = 0 := by
      unfold standE
      rw [if_neg (not_not_intro ho2), isE_is ⟨by rw [hl]; exact q1, by rw [mirL_get h1 hr hs.1]; exact hs.2⟩]
    have t1 := (tb_ok ho hs.1).len
    have t2 := (tb_ok ho2 (stand := mirP down wide rows s) (by rw [hl]; exact q1)).len
    rw [hl] at t2
    unfold oyezlaw01_HearMirrored_l3
    rw [Needs_eq (by omega), b2_some, hrt, mirTo_eq h1 (n := (ps.length : Int)) (by omega) hr hs.1, b1_some, Needs_eq (by omega), b2_some, e1, e2, if_pos rfl, if_pos rfl, if_neg (fun h => h rfl), if_neg (fun h => h rfl), if_neg (by omega), decide_eq_false (by omega), b1_some, if_neg (by decide)]
    have := mir_l5 (down := down) h1 h2.2 hr hrt (l6 := tb wide (mirL down wide rows ps) (mirW down w) (mirP down wide rows s)) (rec3 := oyezlaw01_HearMirrored_l3 down wide ps w n3 wide ps (mirL down wide rows ps) (mirW down w) T) t2 (tb wide ps w s) [] (by rw [List.length_nil]; omega) (fun k hk => by
      rw [List.nil_append]
      exact mir_eq ho hr hs.1 (p := (k : Int)) ⟨by omega, by omega⟩)
    rw [← ih]
    exact this
theorem mir_j2 (hc : chk wide ps = 0) (hw : okW w) (hv : 1 ≤ v ∧ v ≤ 40) (hr : (ps.length : Int) = rows * wide) : oyezlaw01_HearMirrored_j2 wide w v wide ps (mirL down wide rows ps) (mirW down w) = some true := by
  have ho := openE_of hc hw
  obtain ⟨h1, h2, _⟩ := openE_ok ho
  have hl := mirL_len down wide rows ps
  have hc2 := chk_mir (down := down) hc hr
  have hw2 := (mirW_ok (down := down) hw).1
  have A : ∀ v', 1 ≤ v' ∧ v' ≤ 40 → Hs wide ps w v' (kindL 1 ps 0) := fun v' h => Hs.all hc hw h
  have B : ∀ v', 1 ≤ v' ∧ v' ≤ 40 → Hs wide (mirL down wide rows ps) (mirW down w) v' (kindL 1 (mirL down wide rows ps) 0) := fun v' h => Hs.all hc2 hw2 h
  have M : ∀ v', MP (rowH wide ps w v') (rowH wide (mirL down wide rows ps) (mirW down w) v') (kindL 1 ps 0) (kindL 1 (mirL down wide rows ps) 0) (mirP down wide rows) (fun s => (mirP down wide rows (s : Int)).toNat) := fun v' => mir_mp hc hw hr
  have M' : ∀ v', MP (rowH wide (mirL down wide rows ps) (mirW down w) v') (rowH wide ps w v') (kindL 1 (mirL down wide rows ps) 0) (kindL 1 ps 0) (mirP down wide rows) (fun s => (mirP down wide rows (s : Int)).toNat) := fun v' => mir_pm hc hw hr
  have C : ∀ v' k, CanS (rowH wide ps w v') k (kindL 1 ps 0) ↔ CanS (rowH wide (mirL down wide rows ps) (mirW down w) v') k (kindL 1 (mirL down wide rows ps) 0) := fun v' k => ⟨(M v').can, (M' v').can⟩
  unfold oyezlaw01_HearMirrored_j2
  rw [housesL_eq (by omega), b1_some, housesL_eq (by omega), b1_some]
  -- the fewest
  have few : ∃ l9 l10 e, hear_Fewest wide ps w v (kindL 1 ps 0) = some (l9, e) ∧ hear_Fewest wide (mirL down wide rows ps) (mirW down w) v (kindL 1 (mirL down wide rows ps) 0) = some (l10, e) ∧ (l9.length : Int) = (l10.length : Int) := by
    rcases Few_eq (A v hv) with ⟨a1, a2⟩ | ⟨a1, L, a2, a3⟩
    · rcases Few_eq (B v hv) with ⟨b1, b2⟩ | ⟨b1, L', b2, b3⟩
      · exact ⟨[], [], 6, a2, b2, rfl⟩
      · exfalso
        obtain ⟨h, hh, he⟩ := a1
        obtain ⟨s, _, s2, s3⟩ := b3.serves _ ((M v).sub h hh)
        have := ((M v).wor h hh s s2 s3)
        rw [(stL_nil h2.2).1 he _ this.1] at this
        exact absurd this.2 (by decide)
    · rcases Few_eq (B v hv) with ⟨b1, b2⟩ | ⟨b1, L', b2, b3⟩
      · exfalso
        obtain ⟨h, hh, he⟩ := b1
        obtain ⟨s, _, s2, s3⟩ := a3.serves _ ((M' v).sub h hh)
        have := ((M' v).wor h hh s s2 s3)
        rw [(stL_nil (by rw [hl]; exact h2.2)).1 he _ this.1] at this
        exact absurd this.2 (by decide)
      · refine ⟨_, _, 0, a2, b2, ?_⟩
        have q1 := (few_can b3 (k := L.length)).2 ((C v _).1 ((few_can a3).1 (Nat.le_refl _)))
        have q2 := (few_can a3 (k := L'.length)).2 ((C v _).2 ((few_can b3).1 (Nat.le_refl _)))
        rw [List.length_map, List.length_map]
        omega
  obtain ⟨l9, l10, e, f1, f2, f3⟩ := few
  obtain ⟨own, _, _, g1, g2⟩ := Apart_eq (by omega) (by have := (A v hv).len; omega) (A v hv).ask
  obtain ⟨own', _, _, g3, g4⟩ := Apart_eq (by omega) (by have := (B v hv).len; omega) (B v hv).ask
  have ga : ((apV (rowH wide ps w v) own).length : Int) = ((apV (rowH wide (mirL down wide rows ps) (mirW down w) v) own').length : Int) := by
    have := (M v).ap g2 g4
    have := (M' v).ap g4 g2
    omega
  have lou : ∃ n e, hear_Louder wide ps w (kindL 1 ps 0) 2 = some (n, e) ∧ hear_Louder wide (mirL down wide rows ps) (mirW down w) (kindL 1 (mirL down wide rows ps) 0) 2 = some (n, e) := by
    rcases Louder_eq A (k := 2) (by omega) with ⟨a1, a2⟩ | ⟨r, a1, a2, a3, a4, a5⟩
    · rcases Louder_eq B (k := 2) (by omega) with ⟨b1, b2⟩ | ⟨r', b1, b2, b3, b4, b5⟩
      · exact ⟨0, 6, a1, b1⟩
      · exact absurd ((C r' 2).2 b4) (a2 r' b2 b3)
    · rcases Louder_eq B (k := 2) (by omega) with ⟨b1, b2⟩ | ⟨r', b1, b2, b3, b4, b5⟩
      · exact absurd ((C r 2).1 a4) (b2 r a2 a3)
      · have : r = r' := by
          rcases Int.lt_trichotomy r r' with h | h | h
          · exact absurd ((C r 2).1 a4) (b5 r a2 h)
          · exact h
          · exact absurd ((C r' 2).2 b4) (a5 r' b2 h)
        subst this
        exact ⟨r, 0, a1, b1⟩
  obtain ⟨n, e', k1, k2⟩ := lou
  rw [f1, b2_some, f2, b2_some, g1, b2_some, g3, b2_some, k1, b2_some, k2, b2_some, if_pos rfl, if_pos rfl, if_pos rfl, if_pos rfl, if_pos f3, if_pos ga, if_pos rfl, awake_t, b1_some]
end
theorem mirrored_true {metal : List Int} (hm : (metal.length : Int) ≤ 9223372036854775807) {down : Bool} : oyezlaw01_HearMirrored metal down = some true := by
  unfold oyezlaw01_HearMirrored oyezkit_Hang
  obtain ⟨wide, ps, a1, t1, h1, h2, h3, _, h5⟩ := made_ok (t := 0) (plots := 24) (show 0 ≤ (0 : Int) ∧ (0 : Int) ≤ metal.length by omega) hm (by omega)
  obtain ⟨w, v, a2, t2, g1, g2, g3, _⟩ := aired_ok (t := t1) h5 hm
  obtain ⟨c1, c2, _⟩ := chk_parts h2
  have hr := rows_of h2
  have hrt : Int.tdiv (ps.length : Int) wide = (ps.length : Int) / wide := Int.tdiv_eq_ediv_of_nonneg (by omega)
  have hbd : (ps.length : Int) / wide ≤ (ps.length : Int) := Int.ediv_le_self _ (by omega)
  have hb0 : 0 ≤ (ps.length : Int) / wide := Int.ediv_nonneg (by omega) (by omega)
  rw [b3_some, h1, b4_some, g1, b4_some, gd_t ⟨by omega, r64_small (by rw [hrt]; omega)⟩, own_eq (by omega), b2_some]
  have e1 := mir_l1 (down := down) (rows := (ps.length : Int) / wide) c1 c2.2 hr hrt ps 0 ps rfl rfl (fun j h _ => by omega)
  have e1' : oyezlaw01_HearMirrored_l1 down wide ps ps 0 ps = some (ps, mirL down wide ((ps.length : Int) / wide) ps) := e1
  have ew : (b1 (b1 (if down = true then some (decide (w = 1)) else some false) fun k3 => if k3 = true then some k3 else if down = true then some (decide (w = 3)) else some false) fun k2 => if k2 = true then gd (R64 (4 - w)) <| some (4 - w) else b1 (b1 (if (!down) = true then some (decide (w = 2)) else some false) fun k5 => if k5 = true then some k5 else if (!down) = true then some (decide (w = 4)) else some false) fun k4 => if k4 = true then gd (R64 (6 - w)) <| some (6 - w) else some w) = some (mirW down w) := by
    rcases okW_cases g2 with rfl | rfl | rfl | rfl | rfl <;> cases down <;> rfl
  rw [e1', b2_some]
  refine Eq.trans (congrArg (fun o : Option Int => b1 o _) ew) ?_
  rw [b1_some, streets_eq (by omega), b1_some]
  exact mir_l3 h2 g2 hr hrt (mir_j2 h2 g2 (by omega) hr) _ fun _ h => h
end Go.Proofs.Ytejkgppikpkkpaa
