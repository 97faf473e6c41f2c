/- Layer 7: verdicts, complaints, courses that are tried; in plain Lean. -/
import Derived.Test.YtodhcoakjlmcdaaGreatZBKB
namespace Go.Proofs.YtodhcoakjlmcdaaGreat.Bk
open Go.PL
section
variable {n n2 : Int} {hs : List (List (List Int))} {rs : List Int} {cs : List (Int × Int × Int)}
/-- What stands for all that courses come to. -/
structure EndsOK (hs : List (List (List Int))) (rs : List Int) (cs : List (Int × Int × Int)) (L : List (List Bool × List Int)) : Prop where
  len : L.length ≤ 20000
  of : ∀ e ∈ L, FitF none rs e.2 ∧ e.1 = alongF hs cs 0 e.2 zeroG
  all : ∀ c, FitF none rs c → ∃ e ∈ L, e.1 = alongF hs cs 0 c zeroG
theorem EndsOK.len24 (h : BOK n n2 hs rs cs) {L : List (List Bool × List Int)} (hL : EndsOK hs rs cs L) : ∀ e ∈ L, e.1.length = 24 := fun e he => by
  obtain ⟨h1, h2⟩ := hL.of e he
  rw [h2]; exact alongF_len h _ _ _ h1.rng (by simp [zeroG])
theorem EndsOK.get (h : BOK n n2 hs rs cs) {L : List (List Bool × List Int)} (hL : EndsOK hs rs cs L) {x q : Int} (hx : 0 ≤ x ∧ x < 6) (hq : 0 ≤ q ∧ q < 4) : ∀ e ∈ L, e.1.getD (x * 4 + q).toNat false = heardB hs cs e.2 x q := fun e he => by
  obtain ⟨h1, h2⟩ := hL.of e he
  rw [h2]; exact along_heard h hx hq h1.rng h1.len
theorem EndsOK.all' (h : BOK n n2 hs rs cs) {L : List (List Bool × List Int)} (hL : EndsOK hs rs cs L) {x q : Int} (hx : 0 ≤ x ∧ x < 6) (hq : 0 ≤ q ∧ q < 4) {c : List Int} (hc : FitF none rs c) : ∃ e ∈ L, e.1.getD (x * 4 + q).toNat false = heardB hs cs c x q := by
  obtain ⟨e, he, h2⟩ := hL.all c hc
  exact ⟨e, he, by rw [h2]; exact along_heard h hx hq hc.rng hc.len⟩
theorem told_eq (h : BOK n n2 hs rs cs) (hc : ∃ c, FitF none rs c) : ∃ L, book_desk_endings n n2 hs rs cs = some L ∧ EndsOK hs rs cs L ∧ 1 ≤ L.length ∧ book_told n n2 hs rs cs = some (some (n, n2, hs, rs, cs), L, 0) := by
  obtain ⟨L, e1, g0, g1, g2⟩ := endings_eq h
  obtain ⟨c, hc⟩ := hc
  obtain ⟨e, he, _⟩ := g2 c hc
  have hl : 1 ≤ L.length := by cases L with
    | nil => cases he
    | cons a l => simp
  refine ⟨L, e1, ⟨g0, g1, g2⟩, hl, ?_⟩
  unfold book_told
  rw [opened_eq h, b2_some, if_neg (by decide), b5_some, e1, b1_some, if_neg (by omega)]
def cntV (L : List (List Bool × List Int)) (x q : Int) : Nat := L.countP fun e => e.1.getD (x * 4 + q).toNat false
def valV (L : List (List Bool × List Int)) (x q : Int) : Int := if cntV L x q = L.length then 1 else if cntV L x q = 0 then 2 else 0
theorem verd_l3 {x q : Int} (hx : 0 ≤ x ∧ x < 6) (hq : 0 ≤ q ∧ q < 4) : ∀ (L : List (List Bool × List Int)) (m : Nat), (∀ e ∈ L, e.1.length = 24) → m + L.length ≤ 100000 → book_Verdicts_l3 x q L (m : Int) = some ((m + cntV L x q : Nat) : Int)
  | [], m, _, _ => rfl
  | e :: L, m, hL, hm => by
    rw [List.length_cons] at hm
    have he := hL e (by simp)
    unfold book_Verdicts_l3
    rw [gd_t hx, gd_t hq, ixD false _ (by omega) (by omega)]
    by_cases e1 : e.1.getD (x * 4 + q).toNat false = true
    · rw [e1, if_pos rfl, gd_t (r64_small (by omega)), show (m : Int) + 1 = ((m + 1 : Nat) : Int) by omega, verd_l3 hx hq L (m + 1) (fun e he => hL e (by simp [he])) (by omega)]
      have : cntV (e :: L) x q = cntV L x q + 1 := by unfold cntV; rw [List.countP_cons, e1]; rfl
      rw [this]; congr 2; omega
    · have e1' : e.1.getD (x * 4 + q).toNat false = false := by simpa using e1
      rw [e1', if_neg (by decide), verd_l3 hx hq L m (fun e he => hL e (by simp [he])) (by omega)]
      have : cntV (e :: L) x q = cntV L x q := by unfold cntV; rw [List.countP_cons, e1']; rfl
      rw [this]
theorem verd_l2 {L : List (List Bool × List Int)} (hL : ∀ e ∈ L, e.1.length = 24) (hl : L.length ≤ 90000) {k N2 : Nat} (hk : k < 6) (hN : N2 ≤ 4) : ∀ (fu q : Nat) (out : List (List Int)), q + fu = N2 → k < out.length → out.getD k [] = (List.range q).map (fun q : Nat => valV L (k : Int) (q : Int)) →
    ∃ R, book_Verdicts_l2 L (k : Int) fu (q : Int) out = some R ∧ R.length = out.length ∧ R.getD k [] = (List.range N2).map (fun q : Nat => valV L (k : Int) (q : Int)) ∧ ∀ j, j ≠ k → R.getD j [] = out.getD j []
  | 0, q, out, hq, hk2, ho => ⟨out, rfl, rfl, by rw [ho, show q = N2 by omega], fun _ _ => rfl⟩
  | fu + 1, q, out, hq, hk2, ho => by
    have e0 : book_Verdicts_l3 (k : Int) (q : Int) L 0 = some ((cntV L (k : Int) (q : Int) : Nat) : Int) := by
      have := verd_l3 (x := (k : Int)) (q := (q : Int)) (by omega) (by omega) L 0 hL (by omega)
      rw [Nat.zero_add] at this; exact this
    have ev : (b1 (if ((cntV L (k : Int) (q : Int) : Nat) : Int) = (L.length : Int) then some (1 : Int) else if ((cntV L (k : Int) (q : Int) : Nat) : Int) = 0 then some 2 else some 0) fun v => ix out (k : Int) fun x3 => ap x3 [v] fun l3 => bv (out.set ((k : Int)).toNat l3) fun out6 => some out6) = some (out.set k (out.getD k [] ++ [valV L (k : Int) (q : Int)])) := by
      have e1 : (if ((cntV L (k : Int) (q : Int) : Nat) : Int) = (L.length : Int) then some (1 : Int) else if ((cntV L (k : Int) (q : Int) : Nat) : Int) = 0 then some 2 else some 0) = some (valV L (k : Int) (q : Int)) := by
        unfold valV
        by_cases h1 : cntV L (k : Int) (q : Int) = L.length
        · rw [if_pos (by omega), if_pos h1]
        · by_cases h2 : cntV L (k : Int) (q : Int) = 0
          · rw [if_neg (by omega), if_pos (by omega), if_neg h1, if_pos h2]
          · rw [if_neg (by omega), if_neg (by omega), if_neg h1, if_neg h2]
      rw [e1, b1_some, ixN [] _ hk2, ap_t (by rw [ho]; simp; omega), bvE, Int.toNat_natCast]
    obtain ⟨R, g1, g2, g3, g4⟩ := verd_l2 hL hl hk hN fu (q + 1) (out.set k (out.getD k [] ++ [valV L (k : Int) (q : Int)])) (by omega) (by rw [List.length_set]; exact hk2) (by
      rw [getD_setI hk2, if_pos rfl, ho, List.range_succ, List.map_append]; rfl)
    refine ⟨R, ?_, by rw [g2, List.length_set], g3, fun j hj => by rw [g4 j hj, getD_setI hk2, if_neg (fun e => hj e.symm)]⟩
    unfold book_Verdicts_l2
    rw [e0, b1_some, ev, b1_some, show (q : Int) + 1 = ((q + 1 : Nat) : Int) by omega]
    exact g1
theorem verd_l1 {L : List (List Bool × List Int)} (hL : ∀ e ∈ L, e.1.length = 24) (hl : L.length ≤ 90000) {N N2 : Nat} (hN6 : N ≤ 6) (hN : N2 ≤ 4) : ∀ (fu k : Nat) (out : List (List Int)), k + fu = N → out.length = N → (∀ j, k ≤ j → out.getD j [] = []) →
    ∃ R, book_Verdicts_l1 (N2 : Int) L fu (k : Int) out = some R ∧ R.length = N ∧ (∀ j, j < k → R.getD j [] = out.getD j []) ∧ ∀ j, k ≤ j → j < N → R.getD j [] = (List.range N2).map (fun q : Nat => valV L (j : Int) (q : Int))
  | 0, k, out, hk, ho, _ => ⟨out, rfl, ho, fun _ _ => rfl, fun j h1 h2 => by omega⟩
  | fu + 1, k, out, hk, ho, hj => by
    obtain ⟨R1, g1, g2, g3, g4⟩ := verd_l2 hL hl (k := k) (N2 := N2) (by omega) hN N2 0 out (by omega) (by omega) (by rw [hj k (Nat.le_refl _)]; rfl)
    obtain ⟨R, f1, f2, f3, f4⟩ := verd_l1 hL hl hN6 hN fu (k + 1) R1 (by omega) (by omega) (fun j h1 => by rw [g4 j (by omega)]; exact hj j (by omega))
    refine ⟨R, ?_, f2, fun j h1 => by rw [f3 j (by omega)]; exact g4 j (by omega), fun j h1 h2 => ?_⟩
    · have g1' : book_Verdicts_l2 L (k : Int) (Int.toNat ((N2 : Int) - 0)) 0 out = some R1 := by
        rw [show Int.toNat ((N2 : Int) - 0) = N2 by omega]; exact g1
      unfold book_Verdicts_l1
      rw [gd_t ⟨r64_small (by omega), r64_small (by omega)⟩, g1', b1_some, show (k : Int) + 1 = ((k + 1 : Nat) : Int) by omega]
      exact f1
    · by_cases e : j = k
      · subst e; rw [f3 j (by omega)]; exact g3
      · exact f4 j (by omega) h2
/-- What a verdict says. -/
def VerdP (hs : List (List (List Int))) (rs : List Int) (cs : List (Int × Int × Int)) (x q v : Int) : Prop :=
  (v = 1 ∧ ∀ c, FitF none rs c → heardB hs cs c x q = true) ∨ (v = 2 ∧ ∀ c, FitF none rs c → heardB hs cs c x q = false) ∨
  (v = 0 ∧ (∃ c, FitF none rs c ∧ heardB hs cs c x q = true) ∧ ∃ c, FitF none rs c ∧ heardB hs cs c x q = false)
theorem valV_ok (h : BOK n n2 hs rs cs) {L : List (List Bool × List Int)} (hL : EndsOK hs rs cs L) (_hl : 1 ≤ L.length) {x q : Int} (hx : 0 ≤ x ∧ x < 6) (hq : 0 ≤ q ∧ q < 4) : VerdP hs rs cs x q (valV L x q) := by
  unfold valV cntV
  have hg := hL.get h hx hq
  by_cases h1 : L.countP (fun e => e.1.getD (x * 4 + q).toNat false) = L.length
  · rw [if_pos h1]
    refine .inl ⟨rfl, fun c hc => ?_⟩
    obtain ⟨e, he, h2⟩ := hL.all' h hx hq hc
    rw [← h2]; exact List.countP_eq_length.1 h1 e he
  · rw [if_neg h1]
    have ⟨e1, he1, hf1⟩ : ∃ e ∈ L, e.1.getD (x * 4 + q).toNat false = false := by
      apply Classical.byContradiction
      intro hno
      refine h1 (List.countP_eq_length.2 fun e he => ?_)
      cases hq : e.1.getD (x * 4 + q).toNat false with
      | true => rfl
      | false => exact absurd ⟨e, he, hq⟩ hno
    by_cases h2 : L.countP (fun e => e.1.getD (x * 4 + q).toNat false) = 0
    · rw [if_pos h2]
      refine .inr (.inl ⟨rfl, fun c hc => ?_⟩)
      obtain ⟨e, he, h3⟩ := hL.all' h hx hq hc
      rw [← h3]
      have := List.countP_eq_zero.1 h2 e he
      simpa using this
    · rw [if_neg h2]
      obtain ⟨e, he, h3⟩ : ∃ e ∈ L, e.1.getD (x * 4 + q).toNat false = true := List.countP_pos_iff.1 (by omega)
      exact .inr (.inr ⟨rfl, ⟨e.2, (hL.of e he).1, by rw [← hg e he]; exact h3⟩, ⟨e1.2, (hL.of e1 he1).1, by rw [← hg e1 he1]; exact hf1⟩⟩)
/-- A table of verdicts. -/
structure VTab (n n2 : Int) (hs : List (List (List Int))) (rs : List Int) (cs : List (Int × Int × Int)) (T : List (List Int)) : Prop where
  len : (T.length : Int) = n
  row : ∀ r ∈ T, (r.length : Int) = n2
  get : ∀ x q : Int, (0 ≤ x ∧ x < n) → (0 ≤ q ∧ q < n2) → VerdP hs rs cs x q ((T.getD x.toNat []).getD q.toNat 0)
theorem getD_map_range {α : Type} (f : Nat → α) {m j : Nat} (d : α) (h : j < m) : ((List.range m).map f).getD j d = f j := by
  rw [List.getD_eq_getElem?_getD, List.getElem?_map, List.getElem?_range h]; rfl
theorem Verdicts_eq (h : BOK n n2 hs rs cs) (hc : ∃ c, FitF none rs c) : ∃ T, book_Verdicts n n2 hs rs cs = some (T, 0) ∧ VTab n n2 hs rs cs T := by
  obtain ⟨L, _, hL, hl, e1⟩ := told_eq h hc
  have hn := h.hn; have hn2 := h.hn2
  obtain ⟨N, rfl⟩ := Int.eq_ofNat_of_zero_le (show 0 ≤ n by omega)
  obtain ⟨N2, rfl⟩ := Int.eq_ofNat_of_zero_le (show 0 ≤ n2 by omega)
  obtain ⟨R, g1, g2, _, g4⟩ := verd_l1 (hL.len24 h) (by have := hL.len; omega) (N := N) (N2 := N2) (by omega) (by omega) N 0 (List.replicate N []) (by omega) (by simp) (fun j _ => by
    rw [List.getD_eq_getElem?_getD, List.getElem?_replicate]; split <;> rfl)
  refine ⟨R, ?_, by omega, fun r hr => ?_, fun x q hx hq => ?_⟩
  · unfold book_Verdicts
    have g1' : book_Verdicts_l1 (N2 : Int) L (Int.toNat (((List.replicate ((N : Int)).toNat ([] : List Int)).length : Int) - 0)) 0 (List.replicate ((N : Int)).toNat []) = some R := by
      rw [Int.toNat_natCast, List.length_replicate, show Int.toNat ((N : Int) - 0) = N by omega]; exact g1
    rw [e1, b3_some, if_neg (by decide), gd_t (by omega), bvE, gd_t ⟨r64_small (by omega), r64_small (by rw [List.length_replicate]; omega)⟩, g1', b1_some]
  · obtain ⟨j, hj, rfl⟩ := List.mem_iff_getElem.1 hr
    have := g4 j (Nat.zero_le _) (by omega)
    rw [List.getD_eq_getElem?_getD, List.getElem?_eq_getElem hj] at this
    have : R[j] = _ := this
    rw [this]; simp
  · obtain ⟨x, rfl⟩ := Int.eq_ofNat_of_zero_le hx.1
    obtain ⟨q, rfl⟩ := Int.eq_ofNat_of_zero_le hq.1
    rw [Int.toNat_natCast, Int.toNat_natCast, g4 x (Nat.zero_le _) (by omega), getD_map_range _ _ (by omega)]
    exact valV_ok h hL hl (by omega) (by omega)
abbrev Cp := Int × Int × Bool
def gTrue (g : List Bool) (p : Cp) : Bool := decide (g.getD (p.1 * 4 + p.2.1).toNat false = p.2.2)
theorem is_eq {g : List Bool} (hg : g.length = 24) {p : Cp} (hp : (0 ≤ p.1 ∧ p.1 < 6) ∧ (0 ≤ p.2.1 ∧ p.2.1 < 4)) : book_Complaint_is p.1 p.2.1 p.2.2 g = some (gTrue g p) := by
  unfold book_Complaint_is
  rw [gd_t hp.1, gd_t hp.2, ixD false _ (by omega) (by omega)]; rfl
/-- Complaints that are right. -/
def CpOK (n n2 : Int) (ps : List Cp) : Prop := ps.length ≤ 8 ∧ ∀ p ∈ ps, (0 ≤ p.1 ∧ p.1 < n) ∧ (0 ≤ p.2.1 ∧ p.2.1 < n2)
theorem CpOK.rng (h : BOK n n2 hs rs cs) {ps : List Cp} (hp : CpOK n n2 ps) : ∀ p ∈ ps, (0 ≤ p.1 ∧ p.1 < 6) ∧ (0 ≤ p.2.1 ∧ p.2.1 < 4) := fun p hm => by
  have := hp.2 p hm; have := h.hn; have := h.hn2; omega
end
end Go.Proofs.YtodhcoakjlmcdaaGreat.Bk
