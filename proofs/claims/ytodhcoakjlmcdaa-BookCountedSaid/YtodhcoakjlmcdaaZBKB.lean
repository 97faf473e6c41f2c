/- Layer 7: what is heard in a course, and what all courses come to; in plain Lean. -/
import Derived.Test.YtodhcoakjlmcdaaZBKA
namespace Go.Proofs.Ytodhcoakjlmcdaa.Bk
open Go.PL
def FitF : Option Int → List Int → List Int → Prop
  | _, [], [] => True
  | p, r :: rs, w :: c => (0 ≤ w ∧ w ≤ 7) ∧ canB r w = true ∧ (∀ v, p = some v → nearB w v = true) ∧ FitF (some w) rs c
  | _, _, _ => False
def lstO : Option Int → List Int → Option Int
  | p, [] => p
  | _, w :: c => lstO (some w) c
theorem FitF.len : ∀ {p : Option Int} {rs c : List Int}, FitF p rs c → c.length = rs.length
  | _, [], [], _ => rfl
  | _, _ :: _, _ :: _, h => by rw [List.length_cons, List.length_cons, FitF.len h.2.2.2]
  | _, [], _ :: _, h => h.elim
  | _, _ :: _, [], h => h.elim
theorem FitF.rng : ∀ {p : Option Int} {rs c : List Int}, FitF p rs c → ∀ w ∈ c, 0 ≤ w ∧ w ≤ 7
  | _, [], [], _ => fun _ h => nomatch h
  | _, _ :: _, w :: c, h => fun x hx => by
    rcases List.mem_cons.1 hx with rfl | hx
    · exact h.1
    · exact FitF.rng h.2.2.2 x hx
  | _, [], _ :: _, h => h.elim
  | _, _ :: _, [], h => h.elim
theorem FitF.snoc {r w : Int} (h1 : 0 ≤ w ∧ w ≤ 7) (h2 : canB r w = true) : ∀ {p : Option Int} {rs c : List Int}, FitF p rs c → (∀ v, lstO p c = some v → nearB w v = true) → FitF p (rs ++ [r]) (c ++ [w])
  | _, [], [], _, h3 => ⟨h1, h2, h3, trivial⟩
  | _, _ :: _, _ :: _, h, h3 => ⟨h.1, h.2.1, h.2.2.1, FitF.snoc h1 h2 h.2.2.2 h3⟩
  | _, [], _ :: _, h, _ => h.elim
  | _, _ :: _, [], h, _ => h.elim
theorem lstO_snoc (w : Int) : ∀ (p : Option Int) (c : List Int), lstO p (c ++ [w]) = some w
  | _, [] => rfl
  | _, a :: c => lstO_snoc w (some a) c
def cell (hs : List (List (List Int))) (s w : Int) : List Int := (hs.getD s.toNat []).getD w.toNat []
def setG (k : Int) (l : List Int) (g : List Bool) : List Bool := l.foldl (fun g h => g.set (h * 4 + k).toNat true) g
def hearF (hs : List (List (List Int))) (cs : List (Int × Int × Int)) (g : List Bool) (hour wind : Int) : List Bool := cs.foldl (fun g c => if c.1 = hour then setG c.2.2 (cell hs c.2.1 wind) g else g) g
theorem setG_len (k : Int) : ∀ (l : List Int) (g : List Bool), (setG k l g).length = g.length
  | [], _ => rfl
  | a :: l, g => by
    show (setG k l (g.set (a * 4 + k).toNat true)).length = g.length
    rw [setG_len k l, List.length_set]
theorem setG_get {k h q : Int} (hk : 0 ≤ k ∧ k < 4) (hq : 0 ≤ q ∧ q < 4) (hh : 0 ≤ h ∧ h < 6) : ∀ (l : List Int) (g : List Bool), (∀ x ∈ l, 0 ≤ x ∧ x < 6) → g.length = 24 → (setG k l g).getD (h * 4 + q).toNat false = (g.getD (h * 4 + q).toNat false || (decide (k = q) && decide (h ∈ l)))
  | [], _, _, _ => by simp [setG]
  | a :: l, g, hl, hg => by
    have ha := hl a (by simp)
    show (setG k l (g.set (a * 4 + k).toNat true)).getD (h * 4 + q).toNat false = _
    rw [setG_get hk hq hh l _ (fun x hx => hl x (by simp [hx])) (by rw [List.length_set]; exact hg), getD_setI (by omega)]
    by_cases e : (a * 4 + k).toNat = (h * 4 + q).toNat
    · have e1 : a = h := by omega
      have e2 : k = q := by omega
      rw [if_pos e, e1, e2]; simp
    · rw [if_neg e]
      by_cases e2 : k = q
      · have e3 : ¬ h = a := by omega
        simp [e2, e3]
      · simp [e2]
section
variable {n n2 : Int} {hs : List (List (List Int))} {rs : List Int} {cs : List (Int × Int × Int)}
theorem hear_l2 (x : Int × Int × Int) (hx : 0 ≤ x.2.2 ∧ x.2.2 < 4) : ∀ (l : List Int) (g : List Bool), (∀ y ∈ l, 0 ≤ y ∧ y < 6) → g.length = 24 → book_desk_hear_l2 x l g = some (setG x.2.2 l g)
  | [], _, _, _ => rfl
  | a :: l, g, hl, hg => by
    have ha := hl a (by simp)
    unfold book_desk_hear_l2
    rw [gd_t ha, gd_t hx, ixD false _ (by omega) (by omega), bvE]
    exact hear_l2 x hx l _ (fun y hy => hl y (by simp [hy])) (by rw [List.length_set]; exact hg)
theorem cell_mem (h : BOK n n2 hs rs cs) {s w : Int} (h0 : 0 ≤ s ∧ s < (hs.length : Int)) (hw : 0 ≤ w ∧ w ≤ 7) : (hs.getD s.toNat []) ∈ hs ∧ (hs.getD s.toNat []).length = 8 ∧ cell hs s w ∈ hs.getD s.toNat [] := by
  have h1 : hs.getD s.toNat [] ∈ hs := getD_mem (by omega)
  have h2 := h.h8 _ h1
  exact ⟨h1, h2, getD_mem (by omega)⟩
theorem cell_rng (h : BOK n n2 hs rs cs) {s w : Int} (h0 : 0 ≤ s ∧ s < (hs.length : Int)) (hw : 0 ≤ w ∧ w ≤ 7) : (cell hs s w).Nodup ∧ ∀ x ∈ cell hs s w, 0 ≤ x ∧ x < n := by
  obtain ⟨h1, _, h3⟩ := cell_mem h h0 hw
  exact h.hl _ h1 _ h3
theorem hear_l1 (h : BOK n n2 hs rs cs) (hour : Int) {wind : Int} (hw : 0 ≤ wind ∧ wind ≤ 7) : ∀ (l : List (Int × Int × Int)) (g : List Bool), (∀ c ∈ l, c ∈ cs) → g.length = 24 → book_desk_hear_l1 hs hour wind l g = some (hearF hs l g hour wind) ∧ (hearF hs l g hour wind).length = 24
  | [], _, _, hg => ⟨rfl, hg⟩
  | c :: l, g, hl, hg => by
    have hc := h.cc c (hl c (by simp))
    have h2 := h.hn2; have h1 := h.hn
    have e : hearF hs (c :: l) g hour wind = hearF hs l (if c.1 = hour then setG c.2.2 (cell hs c.2.1 wind) g else g) hour wind := rfl
    unfold book_desk_hear_l1
    by_cases e1 : c.1 = hour
    · obtain ⟨g1, g2, g3⟩ := cell_mem h hc.2.1 hw
      rw [e, if_pos e1, if_neg (by simp [e1]), ixD [] _ hc.2.1.1 hc.2.1.2, ixD [] _ hw.1 (by omega), hear_l2 c (by omega) _ g (fun y hy => by have := (cell_rng h hc.2.1 hw).2 y hy; omega) hg, b1_some]
      exact hear_l1 h hour hw l _ (fun x hx => hl x (by simp [hx])) (by rw [setG_len]; exact hg)
    · rw [e, if_neg e1, if_pos (by simpa using e1), b1_some]
      exact hear_l1 h hour hw l _ (fun x hx => hl x (by simp [hx])) hg
theorem hear_eq (h : BOK n n2 hs rs cs) (hour : Int) {wind : Int} (hw : 0 ≤ wind ∧ wind ≤ 7) {g : List Bool} (hg : g.length = 24) : book_desk_hear n n2 hs rs cs g hour wind = some (hearF hs cs g hour wind) ∧ (hearF hs cs g hour wind).length = 24 := by
  obtain ⟨h1, h2⟩ := hear_l1 h hour hw cs g (fun _ h => h) hg
  refine ⟨?_, h2⟩
  unfold book_desk_hear
  rw [h1, b1_some]
theorem hearF_get (h : BOK n n2 hs rs cs) (hour : Int) {wind x q : Int} (hw : 0 ≤ wind ∧ wind ≤ 7) (hx : 0 ≤ x ∧ x < 6) (hq : 0 ≤ q ∧ q < 4) : ∀ (l : List (Int × Int × Int)) (g : List Bool), (∀ c ∈ l, c ∈ cs) → g.length = 24 →
    (hearF hs l g hour wind).getD (x * 4 + q).toNat false = (g.getD (x * 4 + q).toNat false || l.any fun c => decide (c.1 = hour) && (decide (c.2.2 = q) && decide (x ∈ cell hs c.2.1 wind)))
  | [], _, _, _ => by simp [hearF]
  | c :: l, g, hl, hg => by
    have hc := h.cc c (hl c (by simp))
    have h2 := h.hn2; have h1 := h.hn
    have e : hearF hs (c :: l) g hour wind = hearF hs l (if c.1 = hour then setG c.2.2 (cell hs c.2.1 wind) g else g) hour wind := rfl
    rw [e]
    by_cases e1 : c.1 = hour
    · rw [if_pos e1, hearF_get h hour hw hx hq l _ (fun x hx => hl x (by simp [hx])) (by rw [setG_len]; exact hg), setG_get (by omega) hq hx _ _ (fun y hy => by have := (cell_rng h hc.2.1 hw).2 y hy; omega) hg]
      simp [e1, Bool.or_assoc]
    · rw [if_neg e1, hearF_get h hour hw hx hq l _ (fun x hx => hl x (by simp [hx])) hg]
      simp [e1]
/-- What is heard along a course. -/
def alongF (hs : List (List (List Int))) (cs : List (Int × Int × Int)) : Int → List Int → List Bool → List Bool
  | _, [], g => g
  | k, w :: c, g => alongF hs cs (k + 1) c (hearF hs cs g k w)
def zeroG : List Bool := List.replicate 24 false
/-- Has a house heard a notice in a course? -/
def heardB (hs : List (List (List Int))) (cs : List (Int × Int × Int)) (c : List Int) (h q : Int) : Bool := cs.any fun x => decide (x.2.2 = q) && decide (h ∈ cell hs x.2.1 (c.getD x.1.toNat 0))
theorem any_or {α : Type} (p q : α → Bool) : ∀ l : List α, (l.any p || l.any q) = l.any fun x => p x || q x
  | [] => rfl
  | a :: l => by
    simp only [List.any_cons]
    rw [← any_or p q l]
    cases p a <;> cases q a <;> cases l.any p <;> rfl
theorem any_congr {α : Type} {p q : α → Bool} : ∀ {l : List α}, (∀ x ∈ l, p x = q x) → l.any p = l.any q
  | [], _ => rfl
  | a :: l, h => by
    rw [List.any_cons, List.any_cons, h a (by simp), any_congr fun x hx => h x (by simp [hx])]
theorem alongF_get (h : BOK n n2 hs rs cs) {x q : Int} (hx : 0 ≤ x ∧ x < 6) (hq : 0 ≤ q ∧ q < 4) : ∀ (c : List Int) (k : Nat) (g : List Bool), (∀ w ∈ c, 0 ≤ w ∧ w ≤ 7) → g.length = 24 →
    (alongF hs cs (k : Int) c g).getD (x * 4 + q).toNat false = (g.getD (x * 4 + q).toNat false || cs.any fun y => (decide ((k : Int) ≤ y.1) && decide (y.1 < (k : Int) + c.length)) && (decide (y.2.2 = q) && decide (x ∈ cell hs y.2.1 (c.getD (y.1 - k).toNat 0))))
  | [], k, g, _, _ => by
    have e : (cs.any fun y => (decide ((k : Int) ≤ y.1) && decide (y.1 < (k : Int) + (([] : List Int).length : Int))) && (decide (y.2.2 = q) && decide (x ∈ cell hs y.2.1 (([] : List Int).getD (y.1 - k).toNat 0)))) = false := by
      rw [List.any_eq_false]
      intro y _
      by_cases e : (k : Int) ≤ y.1
      · have : ¬ y.1 < (k : Int) + (([] : List Int).length : Int) := by simpa using e
        simp only [this, decide_false, Bool.and_false, Bool.false_and]; decide
      · simp [e]
    rw [e]; simp [alongF]
  | w :: c, k, g, hc, hg => by
    have hw := hc w (by simp)
    have e : alongF hs cs (k : Int) (w :: c) g = alongF hs cs ((k + 1 : Nat) : Int) c (hearF hs cs g (k : Int) w) := by
      rw [show ((k + 1 : Nat) : Int) = (k : Int) + 1 by omega]; rfl
    rw [e, alongF_get h hx hq c (k + 1) _ (fun x hx => hc x (by simp [hx])) (hear_eq h k hw hg).2, hearF_get h k hw hx hq cs g (fun _ h => h) hg, Bool.or_assoc, any_or]
    congr 1
    refine any_congr fun y _ => ?_
    by_cases e1 : y.1 = (k : Int)
    · have e2 : ¬ ((k + 1 : Nat) : Int) ≤ y.1 := by omega
      have e3 : y.1 < (k : Int) + ((w :: c).length : Int) := by rw [List.length_cons]; omega
      have e4 : (y.1 - (k : Int)).toNat = 0 := by omega
      have d0 : decide (y.1 = (k : Int)) = true := decide_eq_true e1
      have d1 : decide (((k + 1 : Nat) : Int) ≤ y.1) = false := decide_eq_false e2
      have d2 : decide ((k : Int) ≤ y.1) = true := decide_eq_true (by omega)
      have d3 : decide (y.1 < (k : Int) + ((w :: c).length : Int)) = true := decide_eq_true e3
      rw [d0, d1, d2, d3, e4, List.getD_cons_zero]; simp
    · have d0 : decide (y.1 = (k : Int)) = false := decide_eq_false e1
      by_cases e2 : (k : Int) ≤ y.1
      · have e3 : ((k + 1 : Nat) : Int) ≤ y.1 := by omega
        have e4 : (y.1 - (k : Int)).toNat = (y.1 - ((k + 1 : Nat) : Int)).toNat + 1 := by omega
        have d1 : decide (((k + 1 : Nat) : Int) ≤ y.1) = true := decide_eq_true e3
        have d2 : decide ((k : Int) ≤ y.1) = true := decide_eq_true e2
        have d3 : decide (y.1 < ((k + 1 : Nat) : Int) + (c.length : Int)) = decide (y.1 < (k : Int) + ((w :: c).length : Int)) := decide_eq_decide.2 (by rw [List.length_cons]; omega)
        rw [e4, List.getD_cons_succ, d0, d1, d2, d3]; simp
      · have d1 : decide (((k + 1 : Nat) : Int) ≤ y.1) = false := decide_eq_false (by omega)
        have d2 : decide ((k : Int) ≤ y.1) = false := decide_eq_false e2
        rw [d0, d1, d2]; simp
theorem zero_get (i : Nat) : zeroG.getD i false = false := by
  unfold zeroG
  rw [List.getD_eq_getElem?_getD, List.getElem?_replicate]
  split <;> rfl
theorem along_heard (h : BOK n n2 hs rs cs) {x q : Int} (hx : 0 ≤ x ∧ x < 6) (hq : 0 ≤ q ∧ q < 4) {c : List Int} (hc : ∀ w ∈ c, 0 ≤ w ∧ w ≤ 7) (hl : c.length = rs.length) : (alongF hs cs 0 c zeroG).getD (x * 4 + q).toNat false = heardB hs cs c x q := by
  have := alongF_get h hx hq c 0 zeroG hc (by simp [zeroG])
  rw [show (((0 : Nat) : Int)) = 0 from rfl] at this
  rw [this, zero_get, Bool.false_or]
  unfold heardB
  refine any_congr fun y hy => ?_
  obtain ⟨h1, _⟩ := h.cc y hy
  rw [decide_eq_true h1.1, decide_eq_true (by omega), Bool.true_and, Bool.true_and, Int.sub_zero]
abbrev Pl := Int × List Bool × List Int
def MOK (m : List ((Int × List Bool) × Bool)) (l : List Pl) : Prop := ∀ k, (mget m k).getD false = true ↔ ∃ x ∈ l, (x.1, x.2.1) = k
/-- A list that goes on with some places more. -/
structure Nxt (S : Pl → Prop) (m : List ((Int × List Bool) × Bool)) (l l' : List Pl) (k : Nat) : Prop where
  ok : MOK m l'
  sub : ∀ x ∈ l, x ∈ l'
  new : ∀ x ∈ l', x ∈ l ∨ S x
  len : l'.length ≤ l.length + k
theorem Nxt.refl {S : Pl → Prop} {m : List ((Int × List Bool) × Bool)} {l : List Pl} (h : MOK m l) : Nxt S m l l 0 := ⟨h, fun _ h => h, fun _ h => .inl h, Nat.le_refl _⟩
theorem Nxt.trans {S : Pl → Prop} {m m2 : List ((Int × List Bool) × Bool)} {l l2 l3 : List Pl} {a b : Nat} (h1 : Nxt S m l l2 a) (h2 : Nxt S m2 l2 l3 b) : Nxt S m2 l l3 (a + b) :=
  ⟨h2.ok, fun x hx => h2.sub x (h1.sub x hx), fun x hx => (h2.new x hx).elim (fun h => h1.new x h) .inr, by have := h1.len; have := h2.len; omega⟩
/-- What stands for the places after some hours. -/
structure Now (hs : List (List (List Int))) (cs : List (Int × Int × Int)) (pre : List Int) (now : List Pl) : Prop where
  of : ∀ x ∈ now, FitF none pre x.2.2 ∧ lstO none x.2.2 = some x.1 ∧ x.2.1 = alongF hs cs 0 x.2.2 zeroG
  all : ∀ c, FitF none pre c → ∃ x ∈ now, lstO none c = some x.1 ∧ x.2.1 = alongF hs cs 0 c zeroG
  len : now.length ≤ 8 * 3 ^ (pre.length - 1)
end
end Go.Proofs.Ytodhcoakjlmcdaa.Bk
