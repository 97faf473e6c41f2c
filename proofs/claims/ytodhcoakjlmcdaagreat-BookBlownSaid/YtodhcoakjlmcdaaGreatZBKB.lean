/- Layer 7: what is heard in a course, and what all courses come to; in plain Lean. -/
import Derived.Test.YtodhcoakjlmcdaaGreatZBKA
namespace Go.Proofs.YtodhcoakjlmcdaaGreat.Bk
open Go.PL
def FitF : Option Int → List Int → List Int → Prop
  | _, [], [] => True
  | p, r :: rs, w :: c => (0 ≤ w ∧ w ≤ 7) ∧ canB r w = true ∧ (∀ v, p = some v → nearB w v = true) ∧ FitF (some w) rs c
  | _, _, _ => False
def lstO : Option Int → List Int → Option Int
  | p, [] => p
  | _, w :: c => lstO (some w) c
theorem FitF.len : ∀ {p : Option Int} {rs c : List Int}, FitF p rs c → c.length = rs.length
  | _, [], [], _ => rfl
  | _, _ :: _, _ :: _, h => by rw [List.length_cons, List.length_cons, FitF.len h.2.2.2]
  | _, [], _ :: _, h => h.elim
  | _, _ :: _, [], h => h.elim
theorem FitF.rng : ∀ {p : Option Int} {rs c : List Int}, FitF p rs c → ∀ w ∈ c, 0 ≤ w ∧ w ≤ 7
  | _, [], [], _ => fun _ h => nomatch h
  | _, _ :: _, w :: c, h => fun x hx => by
    rcases List.mem_cons.1 hx with rfl | hx
    · exact h.1
    · exact FitF.rng h.2.2.2 x hx
  | _, [], _ :: _, h => h.elim
  | _, _ :: _, [], h => h.elim
theorem FitF.snoc {r w : Int} (h1 : 0 ≤ w ∧ w ≤ 7) (h2 : canB r w = true) : ∀ {p : Option Int} {rs c : List Int}, FitF p rs c → (∀ v, lstO p c = some v → nearB w v = true) → FitF p (rs ++ [r]) (c ++ [w])
  | _, [], [], _, h3 => ⟨h1, h2, h3, trivial⟩
  | _, _ :: _, _ :: _, h, h3 => ⟨h.1, h.2.1, h.2.2.1, FitF.snoc h1 h2 h.2.2.2 h3⟩
  | _, [], _ :: _, h, _ => h.elim
  | _, _ :: _, [], h, _ => h.elim
theorem FitF.unsnoc {r : Int} : ∀ {p : Option Int} {rs c : List Int}, FitF p (rs ++ [r]) c → ∃ c' w, c = c' ++ [w] ∧ FitF p rs c' ∧ (0 ≤ w ∧ w ≤ 7) ∧ canB r w = true ∧ ∀ v, lstO p c' = some v → nearB w v = true
  | _, [], w :: c, h => by
    obtain ⟨h1, h2, h3, h4⟩ := h
    cases c with
    | nil => exact ⟨[], w, rfl, trivial, h1, h2, h3⟩
    | cons a c => exact h4.elim
  | _, [], [], h => h.elim
  | _, _ :: rs, w :: c, h => by
    obtain ⟨h1, h2, h3, h4⟩ := h
    obtain ⟨c', x, rfl, g1, g2, g3, g4⟩ := FitF.unsnoc h4
    exact ⟨w :: c', x, rfl, ⟨h1, h2, h3, g1⟩, g2, g3, g4⟩
  | _, _ :: _, [], h => h.elim
theorem lstO_snoc (w : Int) : ∀ (p : Option Int) (c : List Int), lstO p (c ++ [w]) = some w
  | _, [] => rfl
  | _, a :: c => lstO_snoc w (some a) c
def cell (hs : List (List (List Int))) (s w : Int) : List Int := (hs.getD s.toNat []).getD w.toNat []
def setG (k : Int) (l : List Int) (g : List Bool) : List Bool := l.foldl (fun g h => g.set (h * 4 + k).toNat true) g
def hearF (hs : List (List (List Int))) (cs : List (Int × Int × Int)) (g : List Bool) (hour wind : Int) : List Bool := cs.foldl (fun g c => if c.1 = hour then setG c.2.2 (cell hs c.2.1 wind) g else g) g
theorem setG_len (k : Int) : ∀ (l : List Int) (g : List Bool), (setG k l g).length = g.length
  | [], _ => rfl
  | a :: l, g => by
    show (setG k l (g.set (a * 4 + k).toNat true)).length = g.length
    rw [setG_len k l, List.length_set]
theorem setG_get {k h q : Int} (hk : 0 ≤ k ∧ k < 4) (hq : 0 ≤ q ∧ q < 4) (hh : 0 ≤ h ∧ h < 6) : ∀ (l : List Int) (g : List Bool), (∀ x ∈ l, 0 ≤ x ∧ x < 6) → g.length = 24 → (setG k l g).getD (h * 4 + q).toNat false = (g.getD (h * 4 + q).toNat false || (decide (k = q) && decide (h ∈ l)))
  | [], _, _, _ => by simp [setG]
  | a :: l, g, hl, hg => by
    have ha := hl a (by simp)
    show (setG k l (g.set (a * 4 + k).toNat true)).getD (h * 4 + q).toNat false = _
    rw [setG_get hk hq hh l _ (fun x hx => hl x (by simp [hx])) (by rw [List.length_set]; exact hg), getD_setI (by omega)]
    by_cases e : (a * 4 + k).toNat = (h * 4 + q).toNat
    · have e1 : a = h := by omega
      have e2 : k = q := by omega
      rw [if_pos e, e1, e2]; simp
    · rw [if_neg e]
      by_cases e2 : k = q
      · have e3 : ¬ h = a := by omega
        simp [e2, e3]
      · simp [e2]
section
variable {n n2 : Int} {hs : List (List (List Int))} {rs : List Int} {cs : List (Int × Int × Int)}
theorem hear_l2 (x : Int × Int × Int) (hx : 0 ≤ x.2.2 ∧ x.2.2 < 4) : ∀ (l : List Int) (g : List Bool), (∀ y ∈ l, 0 ≤ y ∧ y < 6) → g.length = 24 → book_desk_hear_l2 x l g = some (setG x.2.2 l g)
  | [], _, _, _ => rfl
  | a :: l, g, hl, hg => by
    have ha := hl a (by simp)
    unfold book_desk_hear_l2
    rw [gd_t ha, gd_t hx, ixD false _ (by omega) (by omega), bvE]
    exact hear_l2 x hx l _ (fun y hy => hl y (by simp [hy])) (by rw [List.length_set]; exact hg)
theorem cell_mem (h : BOK n n2 hs rs cs) {s w : Int} (h0 : 0 ≤ s ∧ s < (hs.length : Int)) (hw : 0 ≤ w ∧ w ≤ 7) : (hs.getD s.toNat []) ∈ hs ∧ (hs.getD s.toNat []).length = 8 ∧ cell hs s w ∈ hs.getD s.toNat [] := by
  have h1 : hs.getD s.toNat [] ∈ hs := getD_mem (by omega)
  have h2 := h.h8 _ h1
  exact ⟨h1, h2, getD_mem (by omega)⟩
theorem cell_rng (h : BOK n n2 hs rs cs) {s w : Int} (h0 : 0 ≤ s ∧ s < (hs.length : Int)) (hw : 0 ≤ w ∧ w ≤ 7) : (cell hs s w).Nodup ∧ ∀ x ∈ cell hs s w, 0 ≤ x ∧ x < n := by
  obtain ⟨h1, _, h3⟩ := cell_mem h h0 hw
  exact h.hl _ h1 _ h3
theorem hear_l1 (h : BOK n n2 hs rs cs) (hour : Int) {wind : Int} (hw : 0 ≤ wind ∧ wind ≤ 7) : ∀ (l : List (Int × Int × Int)) (g : List Bool), (∀ c ∈ l, c ∈ cs) → g.length = 24 → book_desk_hear_l1 hs hour wind l g = some (hearF hs l g hour wind) ∧ (hearF hs l g hour wind).length = 24
  | [], _, _, hg => ⟨rfl, hg⟩
  | c :: l, g, hl, hg => by
    have hc := h.cc c (hl c (by simp))
    have h2 := h.hn2; have h1 := h.hn
    have e : hearF hs (c :: l) g hour wind = hearF hs l (if c.1 = hour then setG c.2.2 (cell hs c.2.1 wind) g else g) hour wind := rfl
    unfold book_desk_hear_l1
    by_cases e1 : c.1 = hour
    · obtain ⟨g1, g2, g3⟩ := cell_mem h hc.2.1 hw
      rw [e, if_pos e1, if_neg (by simp [e1]), ixD [] _ hc.2.1.1 hc.2.1.2, ixD [] _ hw.1 (by omega), hear_l2 c (by omega) _ g (fun y hy => by have := (cell_rng h hc.2.1 hw).2 y hy; omega) hg, b1_some]
      exact hear_l1 h hour hw l _ (fun x hx => hl x (by simp [hx])) (by rw [setG_len]; exact hg)
    · rw [e, if_neg e1, if_pos (by simpa using e1), b1_some]
      exact hear_l1 h hour hw l _ (fun x hx => hl x (by simp [hx])) hg
theorem hear_eq (h : BOK n n2 hs rs cs) (hour : Int) {wind : Int} (hw : 0 ≤ wind ∧ wind ≤ 7) {g : List Bool} (hg : g.length = 24) : book_desk_hear n n2 hs rs cs g hour wind = some (hearF hs cs g hour wind) ∧ (hearF hs cs g hour wind).length = 24 := by
  obtain ⟨h1, h2⟩ := hear_l1 h hour hw cs g (fun _ h => h) hg
  refine ⟨?_, h2⟩
  unfold book_desk_hear
  rw [h1, b1_some]
theorem hearF_get (h : BOK n n2 hs rs cs) (hour : Int) {wind x q : Int} (hw : 0 ≤ wind ∧ wind ≤ 7) (hx : 0 ≤ x ∧ x < 6) (hq : 0 ≤ q ∧ q < 4) : ∀ (l : List (Int × Int × Int)) (g : List Bool), (∀ c ∈ l, c ∈ cs) → g.length = 24 →
    (hearF hs l g hour wind).getD (x * 4 + q).toNat false = (g.getD (x * 4 + q).toNat false || l.any fun c => decide (c.1 = hour) && (decide (c.2.2 = q) && decide (x ∈ cell hs c.2.1 wind)))
  | [], _, _, _ => by simp [hearF]
  | c :: l, g, hl, hg => by
    have hc := h.cc c (hl c (by simp))
    have h2 := h.hn2; have h1 := h.hn
    have e : hearF hs (c :: l) g hour wind = hearF hs l (if c.1 = hour then setG c.2.2 (cell hs c.2.1 wind) g else g) hour wind := rfl
    rw [e]
    by_cases e1 : c.1 = hour
    · rw [if_pos e1, hearF_get h hour hw hx hq l _ (fun x hx => hl x (by simp [hx])) (by rw [setG_len]; exact hg), setG_get (by omega) hq hx _ _ (fun y hy => by have := (cell_rng h hc.2.1 hw).2 y hy; omega) hg]
      simp [e1, Bool.or_assoc]
    · rw [if_neg e1, hearF_get h hour hw hx hq l _ (fun x hx => hl x (by simp [hx])) hg]
      simp [e1]
/-- What is heard along a course. -/
def alongF (hs : List (List (List Int))) (cs : List (Int × Int × Int)) : Int → List Int → List Bool → List Bool
  | _, [], g => g
  | k, w :: c, g => alongF hs cs (k + 1) c (hearF hs cs g k w)
def zeroG : List Bool := List.replicate 24 false
theorem alongF_snoc (w : Int) : ∀ (c : List Int) (k : Int) (g : List Bool), alongF hs cs k (c ++ [w]) g = hearF hs cs (alongF hs cs k c g) (k + c.length) w
  | [], k, g => by simp [alongF]
  | a :: c, k, g => by
    show alongF hs cs (k + 1) (c ++ [w]) _ = hearF hs cs (alongF hs cs (k + 1) c _) _ w
    rw [alongF_snoc w c (k + 1), List.length_cons, show k + 1 + (c.length : Int) = k + ((c.length + 1 : Nat) : Int) by omega]
theorem alongF_len (h : BOK n n2 hs rs cs) : ∀ (c : List Int) (k : Int) (g : List Bool), (∀ w ∈ c, 0 ≤ w ∧ w ≤ 7) → g.length = 24 → (alongF hs cs k c g).length = 24
  | [], _, _, _, hg => hg
  | w :: c, k, g, hc, hg => alongF_len h c (k + 1) _ (fun x hx => hc x (by simp [hx])) (hear_eq h k (hc w (by simp)) hg).2
/-- Has a house heard a notice in a course? -/
def heardB (hs : List (List (List Int))) (cs : List (Int × Int × Int)) (c : List Int) (h q : Int) : Bool := cs.any fun x => decide (x.2.2 = q) && decide (h ∈ cell hs x.2.1 (c.getD x.1.toNat 0))
theorem any_or {α : Type} (p q : α → Bool) : ∀ l : List α, (l.any p || l.any q) = l.any fun x => p x || q x
  | [] => rfl
  | a :: l => by
    simp only [List.any_cons]
    rw [← any_or p q l]
    cases p a <;> cases q a <;> cases l.any p <;> rfl
theorem any_congr {α : Type} {p q : α → Bool} : ∀ {l : List α}, (∀ x ∈ l, p x = q x) → l.any p = l.any q
  | [], _ => rfl
  | a :: l, h => by
    rw [List.any_cons, List.any_cons, h a (by simp), any_congr fun x hx => h x (by simp [hx])]
theorem alongF_get (h : BOK n n2 hs rs cs) {x q : Int} (hx : 0 ≤ x ∧ x < 6) (hq : 0 ≤ q ∧ q < 4) : ∀ (c : List Int) (k : Nat) (g : List Bool), (∀ w ∈ c, 0 ≤ w ∧ w ≤ 7) → g.length = 24 →
    (alongF hs cs (k : Int) c g).getD (x * 4 + q).toNat false = (g.getD (x * 4 + q).toNat false || cs.any fun y => (decide ((k : Int) ≤ y.1) && decide (y.1 < (k : Int) + c.length)) && (decide (y.2.2 = q) && decide (x ∈ cell hs y.2.1 (c.getD (y.1 - k).toNat 0))))
  | [], k, g, _, _ => by
    have e : (cs.any fun y => (decide ((k : Int) ≤ y.1) && decide (y.1 < (k : Int) + (([] : List Int).length : Int))) && (decide (y.2.2 = q) && decide (x ∈ cell hs y.2.1 (([] : List Int).getD (y.1 - k).toNat 0)))) = false := by
      rw [List.any_eq_false]
      intro y _
      by_cases e : (k : Int) ≤ y.1
      · have : ¬ y.1 < (k : Int) + (([] : List Int).length : Int) := by simpa using e
        simp only [this, decide_false, Bool.and_false, Bool.false_and]; decide
      · simp [e]
    rw [e]; simp [alongF]
  | w :: c, k, g, hc, hg => by
    have hw := hc w (by simp)
    have e : alongF hs cs (k : Int) (w :: c) g = alongF hs cs ((k + 1 : Nat) : Int) c (hearF hs cs g (k : Int) w) := by
      rw [show ((k + 1 : Nat) : Int) = (k : Int) + 1 by omega]; rfl
    rw [e, alongF_get h hx hq c (k + 1) _ (fun x hx => hc x (by simp [hx])) (hear_eq h k hw hg).2, hearF_get h k hw hx hq cs g (fun _ h => h) hg, Bool.or_assoc, any_or]
    congr 1
    refine any_congr fun y _ => ?_
    by_cases e1 : y.1 = (k : Int)
    · have e2 : ¬ ((k + 1 : Nat) : Int) ≤ y.1 := by omega
      have e3 : y.1 < (k : Int) + ((w :: c).length : Int) := by rw [List.length_cons]; omega
      have e4 : (y.1 - (k : Int)).toNat = 0 := by omega
      have d0 : decide (y.1 = (k : Int)) = true := decide_eq_true e1
      have d1 : decide (((k + 1 : Nat) : Int) ≤ y.1) = false := decide_eq_false e2
      have d2 : decide ((k : Int) ≤ y.1) = true := decide_eq_true (by omega)
      have d3 : decide (y.1 < (k : Int) + ((w :: c).length : Int)) = true := decide_eq_true e3
      rw [d0, d1, d2, d3, e4, List.getD_cons_zero]; simp
    · have d0 : decide (y.1 = (k : Int)) = false := decide_eq_false e1
      by_cases e2 : (k : Int) ≤ y.1
      · have e3 : ((k + 1 : Nat) : Int) ≤ y.1 := by omega
        have e4 : (y.1 - (k : Int)).toNat = (y.1 - ((k + 1 : Nat) : Int)).toNat + 1 := by omega
        have d1 : decide (((k + 1 : Nat) : Int) ≤ y.1) = true := decide_eq_true e3
        have d2 : decide ((k : Int) ≤ y.1) = true := decide_eq_true e2
        have d3 : decide (y.1 < ((k + 1 : Nat) : Int) + (c.length : Int)) = decide (y.1 < (k : Int) + ((w :: c).length : Int)) := decide_eq_decide.2 (by rw [List.length_cons]; omega)
        rw [e4, List.getD_cons_succ, d0, d1, d2, d3]; simp
      · have d1 : decide (((k + 1 : Nat) : Int) ≤ y.1) = false := decide_eq_false (by omega)
        have d2 : decide ((k : Int) ≤ y.1) = false := decide_eq_false e2
        rw [d0, d1, d2]; simp
theorem zero_get (i : Nat) : zeroG.getD i false = false := by
  unfold zeroG
  rw [List.getD_eq_getElem?_getD, List.getElem?_replicate]
  split <;> rfl
theorem along_heard (h : BOK n n2 hs rs cs) {x q : Int} (hx : 0 ≤ x ∧ x < 6) (hq : 0 ≤ q ∧ q < 4) {c : List Int} (hc : ∀ w ∈ c, 0 ≤ w ∧ w ≤ 7) (hl : c.length = rs.length) : (alongF hs cs 0 c zeroG).getD (x * 4 + q).toNat false = heardB hs cs c x q := by
  have := alongF_get h hx hq c 0 zeroG hc (by simp [zeroG])
  rw [show (((0 : Nat) : Int)) = 0 from rfl] at this
  rw [this, zero_get, Bool.false_or]
  unfold heardB
  refine any_congr fun y hy => ?_
  obtain ⟨h1, _⟩ := h.cc y hy
  rw [decide_eq_true h1.1, decide_eq_true (by omega), Bool.true_and, Bool.true_and, Int.sub_zero]
abbrev Pl := Int × List Bool × List Int
def MOK (m : List ((Int × List Bool) × Bool)) (l : List Pl) : Prop := ∀ k, (mget m k).getD false = true ↔ ∃ x ∈ l, (x.1, x.2.1) = k
/-- A list that goes on with some places more. -/
structure Nxt (S : Pl → Prop) (m : List ((Int × List Bool) × Bool)) (l l' : List Pl) (k : Nat) : Prop where
  ok : MOK m l'
  sub : ∀ x ∈ l, x ∈ l'
  new : ∀ x ∈ l', x ∈ l ∨ S x
  len : l'.length ≤ l.length + k
theorem Nxt.refl {S : Pl → Prop} {m : List ((Int × List Bool) × Bool)} {l : List Pl} (h : MOK m l) : Nxt S m l l 0 := ⟨h, fun _ h => h, fun _ h => .inl h, Nat.le_refl _⟩
theorem Nxt.trans {S : Pl → Prop} {m m2 : List ((Int × List Bool) × Bool)} {l l2 l3 : List Pl} {a b : Nat} (h1 : Nxt S m l l2 a) (h2 : Nxt S m2 l2 l3 b) : Nxt S m2 l l3 (a + b) :=
  ⟨h2.ok, fun x hx => h2.sub x (h1.sub x hx), fun x hx => (h2.new x hx).elim (fun h => h1.new x h) .inr, by have := h1.len; have := h2.len; omega⟩
theorem step_eq (h : BOK n n2 hs rs cs) {k : Nat} (hk : k < rs.length) {w0 : Int} {g : List Bool} (hg : g.length = 24) {c : List Int} (hc : c.length ≤ 100) {w : Int} (hw : 0 ≤ w ∧ w ≤ 7) {m : List ((Int × List Bool) × Bool)} {l : List Pl} (hm : MOK m l) (hl : l.length ≤ 100000) {S : Pl → Prop}
    (hS : canB (rs.getD k 0) w = true → S (w, hearF hs cs g k w, c ++ [w])) :
    ∃ m' l', book_desk_endings_1 w0 g c w (fun xx_ : Int × Int => book_Book_can n n2 hs rs cs xx_.1 xx_.2) (k : Int) n n2 hs rs cs m l = some (m', l') ∧ Nxt S m' l l' 1 ∧ (canB (rs.getD k 0) w = true → ∃ x ∈ l', (x.1, x.2.1) = (w, hearF hs cs g k w)) := by
  unfold book_desk_endings_1
  have e0 : book_Book_can n n2 hs rs cs (k : Int) w = some (canB (rs.getD k 0) w) := by
    rw [can_eq h.rr (by omega) (by omega) hw, Int.toNat_natCast]
  show ∃ m' l', (b1 (book_Book_can n n2 hs rs cs (k : Int) w) fun ok => _) = some (m', l') ∧ _
  rw [e0, b1_some]
  by_cases e : canB (rs.getD k 0) w = true
  · obtain ⟨h1, h2⟩ := hear_eq h (k : Int) hw hg
    rw [e, if_neg (by decide), h1, b1_some, gd_t (r64_small (by omega))]
    by_cases e2 : (mget m (w, hearF hs cs g k w)).getD false = true
    · rw [e2, if_neg (by decide)]
      exact ⟨m, l, rfl, ⟨hm, fun _ h => h, fun _ h => .inl h, by omega⟩, fun _ => (hm _).1 e2⟩
    · rw [if_pos (by simpa using e2), gd_t (r64_small (by omega)), bvE, clone_eq (by omega), b1_some, ap_t (by simp; omega), ap_t (by simp; omega)]
      refine ⟨_, _, rfl, ⟨fun q => ?_, fun x hx => List.mem_append_left _ hx, fun x hx => ?_, by simp⟩, fun _ => ⟨_, List.mem_append_right _ (List.mem_singleton.2 rfl), rfl⟩⟩
      · rw [mget_mput]
        by_cases e3 : (w, hearF hs cs g k w) = q
        · rw [if_pos e3]
          exact ⟨fun _ => ⟨_, List.mem_append_right _ (List.mem_singleton.2 rfl), e3⟩, fun _ => rfl⟩
        · rw [if_neg e3, hm q]
          constructor
          · rintro ⟨x, hx, he⟩; exact ⟨x, List.mem_append_left _ hx, he⟩
          · rintro ⟨x, hx, he⟩
            rcases List.mem_append.1 hx with hx | hx
            · exact ⟨x, hx, he⟩
            · rw [List.mem_singleton] at hx; subst hx; exact absurd he e3
      · rcases List.mem_append.1 hx with hx | hx
        · exact .inl hx
        · rw [List.mem_singleton] at hx; subst hx; exact .inr (hS e)
  · have e' : canB (rs.getD k 0) w = false := by simpa using e
    rw [e', if_pos (by decide)]
    exact ⟨m, l, rfl, ⟨hm, fun _ h => h, fun _ h => .inl h, by omega⟩, fun h => absurd h (by decide)⟩
theorem ends_l2 (h : BOK n n2 hs rs cs) {k : Nat} (hk : k < rs.length) {S : Pl → Prop} : ∀ (fu : Nat) (w : Nat) (l : List Pl) (m : List ((Int × List Bool) × Bool)), w + fu = 8 → MOK m l → l.length + fu ≤ 90000 →
    (∀ v : Int, (w : Int) ≤ v → v ≤ 7 → canB (rs.getD k 0) v = true → S (v, hearF hs cs zeroG k v, [v])) →
    ∃ m' l', book_desk_endings_l2 n n2 hs rs cs (k : Int) fu (w : Int) l m = some (l', m') ∧ Nxt S m' l l' fu ∧ ∀ v : Int, (w : Int) ≤ v → v ≤ 7 → canB (rs.getD k 0) v = true → ∃ x ∈ l', (x.1, x.2.1) = (v, hearF hs cs zeroG k v)
  | 0, w, l, m, hw, hm, _, _ => ⟨m, l, rfl, .refl hm, fun v h1 h2 => by omega⟩
  | fu + 1, w, l, m, hw, hm, hl, hS => by
    obtain ⟨m1, l1, e1, g1, g2⟩ := step_eq (w0 := 0) (g := zeroG) (c := []) h hk (by simp [zeroG]) (by simp) (w := (w : Int)) (by omega) hm (by omega) (S := S) (fun e => hS w (Int.le_refl _) (by omega) e)
    obtain ⟨m2, l2, e2, f1, f2⟩ := ends_l2 h hk (S := S) fu (w + 1) l1 m1 (by omega) g1.ok (by have := g1.len; omega) (fun v h1 h2 => hS v (by omega) h2)
    refine ⟨m2, l2, ?_, ?_, fun v h1 h2 h3 => ?_⟩
    · unfold book_desk_endings_l2
      have e1' : book_desk_endings_1 0 (List.replicate 24 false) [] (w : Int) (fun xx_ : Int × Int => book_Book_can n n2 hs rs cs xx_.1 xx_.2) (k : Int) n n2 hs rs cs m l = some (m1, l1) := e1
      rw [e1', b2_some, show (w : Int) + 1 = ((w + 1 : Nat) : Int) by omega]
      exact e2
    · rw [Nat.add_comm fu 1]; exact g1.trans f1
    · by_cases e : v = (w : Int)
      · subst e
        obtain ⟨x, hx, he⟩ := g2 h3
        exact ⟨x, f1.sub x hx, he⟩
      · exact f2 v (by omega) h2 h3
theorem ends_l4 (h : BOK n n2 hs rs cs) {k : Nat} (hk : k < rs.length) {x3 : Pl} (hg : x3.2.1.length = 24) (hc : x3.2.2.length ≤ 100) {S : Pl → Prop} : ∀ (ws : List Int) (l : List Pl) (m : List ((Int × List Bool) × Bool)), (∀ w ∈ ws, 0 ≤ w ∧ w ≤ 7) → MOK m l → l.length + ws.length ≤ 90000 →
    (∀ v ∈ ws, canB (rs.getD k 0) v = true → S (v, hearF hs cs x3.2.1 k v, x3.2.2 ++ [v])) →
    ∃ m' l', book_desk_endings_l4 n n2 hs rs cs (k : Int) x3 ws l m = some (l', m') ∧ Nxt S m' l l' ws.length ∧ ∀ v ∈ ws, canB (rs.getD k 0) v = true → ∃ x ∈ l', (x.1, x.2.1) = (v, hearF hs cs x3.2.1 k v)
  | [], l, m, _, hm, _, _ => ⟨m, l, rfl, .refl hm, fun v h1 => nomatch h1⟩
  | w :: ws, l, m, hw, hm, hl, hS => by
    rw [List.length_cons] at hl
    obtain ⟨m1, l1, e1, g1, g2⟩ := step_eq (w0 := x3.1) (g := x3.2.1) (c := x3.2.2) h hk hg hc (w := w) (hw w (by simp)) hm (by omega) (S := S) (fun e => hS w (by simp) e)
    obtain ⟨m2, l2, e2, f1, f2⟩ := ends_l4 h hk hg hc (S := S) ws l1 m1 (fun v hv => hw v (by simp [hv])) g1.ok (by have := g1.len; omega) (fun v hv => hS v (by simp [hv]))
    refine ⟨m2, l2, ?_, ?_, fun v h1 h3 => ?_⟩
    · unfold book_desk_endings_l4
      rw [e1, b2_some]; exact e2
    · rw [List.length_cons, Nat.add_comm _ 1]; exact g1.trans f1
    · rcases List.mem_cons.1 h1 with rfl | h1
      · obtain ⟨x, hx, he⟩ := g2 h3
        exact ⟨x, f1.sub x hx, he⟩
      · exact f2 v h1 h3
theorem ends_l3 (h : BOK n n2 hs rs cs) {k : Nat} (hk : k < rs.length) {S : Pl → Prop} : ∀ (now : List Pl) (l : List Pl) (m : List ((Int × List Bool) × Bool)), (∀ y ∈ now, y.2.1.length = 24 ∧ y.2.2.length ≤ 100 ∧ (0 ≤ y.1 ∧ y.1 ≤ 7)) → MOK m l → l.length + 3 * now.length ≤ 90000 →
    (∀ y ∈ now, ∀ v ∈ nearL y.1, canB (rs.getD k 0) v = true → S (v, hearF hs cs y.2.1 k v, y.2.2 ++ [v])) →
    ∃ l', book_desk_endings_l3 n n2 hs rs cs (k : Int) now l m = some l' ∧ (∀ x ∈ l', x ∈ l ∨ S x) ∧ (∀ x ∈ l, x ∈ l') ∧ l'.length ≤ l.length + 3 * now.length ∧ ∀ y ∈ now, ∀ v ∈ nearL y.1, canB (rs.getD k 0) v = true → ∃ x ∈ l', (x.1, x.2.1) = (v, hearF hs cs y.2.1 k v)
  | [], l, m, _, hm, _, _ => ⟨l, rfl, fun _ h => .inl h, fun _ h => h, by simp, fun y h1 => nomatch h1⟩
  | y :: now, l, m, hw, hm, hl, hS => by
    rw [List.length_cons] at hl
    obtain ⟨hy1, hy2, hy3⟩ := hw y (by simp)
    have hn := nearL_len hy3
    obtain ⟨m1, l1, e1, g1, g2⟩ := ends_l4 h hk hy1 hy2 (S := S) (nearL y.1) l m (fun w hw => (mem_nearL.1 hw).1) hm (by omega) (fun v hv => hS y (by simp) v hv)
    have h3 := g1.len
    obtain ⟨l2, e2, f1, f2, f3, f4⟩ := ends_l3 h hk (S := S) now l1 m1 (fun v hv => hw v (by simp [hv])) g1.ok (by omega) (fun v hv => hS v (by simp [hv]))
    refine ⟨l2, ?_, fun x hx => (f1 x hx).elim (fun h => g1.new x h) .inr, fun x hx => f2 x (g1.sub x hx), by rw [List.length_cons]; omega, fun z h1 v h5 h6 => ?_⟩
    · unfold book_desk_endings_l3
      rw [turned_eq hy3, b1_some, e1, b2_some]; exact e2
    · rcases List.mem_cons.1 h1 with rfl | h1
      · obtain ⟨x, hx, he⟩ := g2 v h5 h6
        exact ⟨x, f2 x hx, he⟩
      · exact f4 z h1 v h5 h6
/-- What stands for the places after some hours. -/
structure Now (hs : List (List (List Int))) (cs : List (Int × Int × Int)) (pre : List Int) (now : List Pl) : Prop where
  of : ∀ x ∈ now, FitF none pre x.2.2 ∧ lstO none x.2.2 = some x.1 ∧ x.2.1 = alongF hs cs 0 x.2.2 zeroG
  all : ∀ c, FitF none pre c → ∃ x ∈ now, lstO none c = some x.1 ∧ x.2.1 = alongF hs cs 0 c zeroG
  len : now.length ≤ 8 * 3 ^ (pre.length - 1)
theorem now_first (h : BOK n n2 hs rs cs) : ∃ now, (b2 (if (0 : Int) = 0 then gd (R64 0 ∧ R64 8) <| book_desk_endings_l2 n n2 hs rs cs 0 (Int.toNat (8 - 0)) 0 [] [] else some ([], [])) fun next_4 m => b1 (book_desk_endings_l3 n n2 hs rs cs 0 [] next_4 m) fun next_7 => some next_7) = some now ∧ Now hs cs (rs.take 1) now := by
  have hr := h.hr
  have hm : MOK [] [] := fun k => by simp [mget_nil]
  have e0 : rs.take 1 = [rs.getD 0 0] := by
    cases rs with
    | nil => simp at hr
    | cons a l => rfl
  obtain ⟨m1, l1, e1, g1, g2⟩ := ends_l2 h (k := 0) (by omega) (S := fun x => FitF none (rs.take 1) x.2.2 ∧ lstO none x.2.2 = some x.1 ∧ x.2.1 = alongF hs cs 0 x.2.2 zeroG) 8 0 [] [] rfl hm (by simp) (fun v h1 h2 h3 => by
    rw [e0]
    exact ⟨⟨⟨h1, h2⟩, h3, (fun _ h => nomatch h), trivial⟩, rfl, rfl⟩)
  refine ⟨l1, ?_, fun x hx => (g1.new x hx).elim (fun h => nomatch h) id, fun c hc => ?_, ?_⟩
  · have e1' : book_desk_endings_l2 n n2 hs rs cs 0 (Int.toNat (8 - 0)) 0 [] [] = some (l1, m1) := e1
    rw [if_pos rfl, gd_t ⟨r64_small (by omega), r64_small (by omega)⟩, e1', b2_some]; rfl
  · rw [e0] at hc
    match c, hc with
    | [w], hc =>
      obtain ⟨h1, h2, _, _⟩ := hc
      obtain ⟨x, hx, he⟩ := g2 w h1.1 h1.2 h2
      have he1 := congrArg Prod.fst he; have he2 := congrArg Prod.snd he
      exact ⟨x, hx, congrArg some he1.symm, he2⟩
    | [], hc => exact hc.elim
    | _ :: _ :: _, hc => exact hc.2.2.2.elim
  · have := g1.len
    rw [e0]; simpa using this
theorem now_next (h : BOK n n2 hs rs cs) {k : Nat} (hk : k < rs.length) (hk0 : 1 ≤ k) {now : List Pl} (hN : Now hs cs (rs.take k) now) : ∃ now', book_desk_endings_l3 n n2 hs rs cs (k : Int) now [] [] = some now' ∧ Now hs cs (rs.take (k + 1)) now' := by
  have hr := h.hr
  have hm : MOK [] [] := fun k => by simp [mget_nil]
  have hlk : (rs.take k).length = k := by rw [List.length_take]; omega
  have e0 : rs.take (k + 1) = rs.take k ++ [rs.getD k 0] := by
    rw [List.take_add_one, getD_of (d := 0) hk]; rfl
  have hp : 3 ^ (k - 1) ≤ 3 ^ 6 := Nat.pow_le_pow_right (by decide) (by omega)
  have h36 : 3 ^ 6 = 729 := rfl
  have hl := hN.len
  rw [hlk] at hl
  obtain ⟨l2, e2, f1, _, f3, f4⟩ := ends_l3 h hk (S := fun x => FitF none (rs.take (k + 1)) x.2.2 ∧ lstO none x.2.2 = some x.1 ∧ x.2.1 = alongF hs cs 0 x.2.2 zeroG) now [] [] (fun y hy => by
      obtain ⟨h1, h2, h3⟩ := hN.of y hy
      have hl := h1.len
      rw [hlk] at hl
      refine ⟨by rw [h3]; exact alongF_len h _ _ _ h1.rng (by simp [zeroG]), by omega, ?_⟩
      have hne : y.2.2 ≠ [] := by intro e; rw [e] at hl; simp at hl; omega
      have : ∀ (c : List Int) (p : Option Int) (v : Int), lstO p c = some v → c ≠ [] → v ∈ c := fun c => by
        induction c with
        | nil => intro _ _ _ h; exact absurd rfl h
        | cons a c ih =>
          intro p v hv _
          cases c with
          | nil => cases hv; simp
          | cons b c => exact List.mem_cons_of_mem _ (ih (some a) v hv (by simp))
      exact h1.rng _ (this _ _ _ h2 hne)) hm (by simp; omega) (fun y hy v hv hcan => by
      obtain ⟨h1, h2, h3⟩ := hN.of y hy
      obtain ⟨h4, h5⟩ := mem_nearL.1 hv
      rw [e0]
      refine ⟨h1.snoc h4 hcan (fun u hu => ?_), lstO_snoc v _ _, ?_⟩
      · rw [h2] at hu; cases hu; exact h5
      · show hearF hs cs y.2.1 k v = _
        rw [alongF_snoc, h1.len, hlk, h3, Int.zero_add])
  refine ⟨l2, e2, fun x hx => (f1 x hx).elim (fun h => nomatch h) id, fun c hc => ?_, ?_⟩
  · rw [e0] at hc
    obtain ⟨c', w, rfl, g1, g2, g3, g4⟩ := hc.unsnoc
    obtain ⟨y, hy, hy1, hy2⟩ := hN.all c' g1
    obtain ⟨x, hx, he⟩ := f4 y hy w (mem_nearL.2 ⟨g2, g4 _ hy1⟩) g3
    have he1 := congrArg Prod.fst he; have he2 := congrArg Prod.snd he
    refine ⟨x, hx, by rw [lstO_snoc]; exact congrArg some he1.symm, ?_⟩
    rw [alongF_snoc, g1.len, hlk, Int.zero_add]
    exact he2.trans (by rw [hy2])
  · rw [List.length_nil, Nat.zero_add] at f3
    have : (rs.take (k + 1)).length - 1 = (k - 1) + 1 := by rw [List.length_take]; omega
    rw [this, Nat.pow_succ]; omega
theorem ends_l1 (h : BOK n n2 hs rs cs) : ∀ (tl : List Int) (k : Nat) (now : List Pl), rs.drop k = tl → 1 ≤ k → Now hs cs (rs.take k) now → ∃ now', book_desk_endings_l1 n n2 hs rs cs tl (k : Int) now = some now' ∧ Now hs cs rs now'
  | [], k, now, hd, _, hN => by
    have : rs.length ≤ k := by
      have := congrArg List.length hd; simp at this; omega
    rw [List.take_of_length_le this] at hN
    exact ⟨now, rfl, hN⟩
  | x :: tl, k, now, hd, hk, hN => by
    obtain ⟨hlt, _, hd2⟩ := drop_cons 0 hd
    obtain ⟨now2, e1, hN2⟩ := now_next h hlt hk hN
    obtain ⟨now3, e2, hN3⟩ := ends_l1 h tl (k + 1) now2 hd2 (by omega) hN2
    refine ⟨now3, ?_, hN3⟩
    unfold book_desk_endings_l1
    rw [if_neg (by omega), b2_some, e1, b1_some, b1_some, show (k : Int) + 1 = ((k + 1 : Nat) : Int) by omega]
    exact e2
theorem ends_l5 : ∀ (now : List Pl) (out : List (List Bool × List Int)), out.length + now.length ≤ 100000 → ∃ L, book_desk_endings_l5 now out = some L ∧ L.length ≤ out.length + now.length ∧ (∀ e ∈ L, e ∈ out ∨ ∃ x ∈ now, e = (x.2.1, x.2.2)) ∧ (∀ e ∈ out, e ∈ L) ∧ ∀ x ∈ now, ∃ e ∈ L, e.1 = x.2.1
  | [], out, _ => ⟨out, rfl, by simp, fun _ h => .inl h, fun _ h => h, fun _ h => nomatch h⟩
  | x :: now, out, hl => by
    rw [List.length_cons] at hl
    have e0 : slices_ContainsFunc_book_ending_book_ending out (fun xx_ : List Bool × List Int => book_desk_endings_2 xx_.1 xx_.2 x.1 x.2.1 x.2.2) = some (out.any fun e => decide (e.1 = x.2.1)) := idx_end fun _ _ => rfl
    unfold book_desk_endings_l5
    rw [e0, b1_some]
    by_cases e : (out.any fun e => decide (e.1 = x.2.1)) = true
    · obtain ⟨L, e1, g0, g1, g2, g3⟩ := ends_l5 now out (by omega)
      rw [e, if_neg (by decide)]
      refine ⟨L, e1, by rw [List.length_cons]; omega, fun a ha => (g1 a ha).imp id (fun ⟨y, hy, he⟩ => ⟨y, by simp [hy], he⟩), g2, fun y hy => ?_⟩
      rcases List.mem_cons.1 hy with rfl | hy
      · obtain ⟨a, ha, hb⟩ := List.any_eq_true.1 e
        exact ⟨a, g2 a ha, of_decide_eq_true hb⟩
      · exact g3 y hy
    · have e' : (out.any fun e => decide (e.1 = x.2.1)) = false := Bool.eq_false_iff.2 e
      obtain ⟨L, e1, g0, g1, g2, g3⟩ := ends_l5 now (out ++ [(x.2.1, x.2.2)]) (by simp; omega)
      rw [e', if_pos (by decide), ap_t (by simp; omega)]
      refine ⟨L, e1, by rw [List.length_append] at g0; rw [List.length_cons]; simp at g0; omega, fun a ha => ?_, fun a ha => g2 a (List.mem_append_left _ ha), fun y hy => ?_⟩
      · rcases g1 a ha with h | ⟨y, hy, he⟩
        · rcases List.mem_append.1 h with h | h
          · exact .inl h
          · exact .inr ⟨x, by simp, List.mem_singleton.1 h⟩
        · exact .inr ⟨y, by simp [hy], he⟩
      · rcases List.mem_cons.1 hy with rfl | hy
        · exact ⟨_, g2 _ (List.mem_append_right _ (List.mem_singleton.2 rfl)), rfl⟩
        · exact g3 y hy
/-- What courses come to: each with one of them. -/
theorem endings_eq (h : BOK n n2 hs rs cs) : ∃ L, book_desk_endings n n2 hs rs cs = some L ∧ L.length ≤ 20000 ∧ (∀ e ∈ L, FitF none rs e.2 ∧ e.1 = alongF hs cs 0 e.2 zeroG) ∧ ∀ c, FitF none rs c → ∃ e ∈ L, e.1 = alongF hs cs 0 c zeroG := by
  have hr := h.hr
  obtain ⟨now1, e1, hN1⟩ := now_first h
  obtain ⟨now, e2, hN⟩ := ends_l1 h (rs.drop 1) 1 now1 rfl (Nat.le_refl _) hN1
  have hlen := hN.len
  have hp : 3 ^ (rs.length - 1) ≤ 3 ^ 7 := Nat.pow_le_pow_right (by decide) (by omega)
  have h37 : 3 ^ 7 = 2187 := rfl
  obtain ⟨L, e3, g0, g1, g2, g3⟩ := ends_l5 now [] (by simp; omega)
  refine ⟨L, ?_, by simp at g0; omega, fun e he => ?_, fun c hc => ?_⟩
  · have key : ∀ l : List Int, l ≠ [] → book_desk_endings_l1 n n2 hs rs cs l 0 [] = b1 (b2 (if (0 : Int) = 0 then gd (R64 0 ∧ R64 8) <| book_desk_endings_l2 n n2 hs rs cs 0 (Int.toNat (8 - 0)) 0 [] [] else some ([], [])) fun next_4 m => b1 (book_desk_endings_l3 n n2 hs rs cs 0 [] next_4 m) fun next_7 => some next_7) fun now3 => book_desk_endings_l1 n n2 hs rs cs (l.drop 1) (0 + 1) now3 := fun l hl => by
      cases l with
      | nil => exact absurd rfl hl
      | cons a l => rfl
    have e2' : book_desk_endings_l1 n n2 hs rs cs (rs.drop 1) (0 + 1) now1 = some now := e2
    unfold book_desk_endings
    rw [key rs (by intro e; rw [e] at hr; simp at hr), e1, b1_some, e2', b1_some, e3, b1_some]
  · rcases g1 e he with h1 | ⟨x, hx, rfl⟩
    · cases h1
    · obtain ⟨f1, _, f3⟩ := hN.of x hx
      exact ⟨f1, f3⟩
  · obtain ⟨x, hx, _, f2⟩ := hN.all c hc
    obtain ⟨e, he, he2⟩ := g3 x hx
    exact ⟨e, he, he2.trans f2⟩
end
end Go.Proofs.YtodhcoakjlmcdaaGreat.Bk
