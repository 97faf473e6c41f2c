/- Layer 7: verdicts, complaints, courses that are tried; in plain Lean. -/
import Derived.Test.YtodhcoakjlmcdaaZAKB
namespace Go.Proofs.Ytodhcoakjlmcdaa.Bk
open Go.PL
section
variable {n n2 : Int} {hs : List (List (List Int))} {rs : List Int} {cs : List (Int × Int × Int)}
/-- What stands for all that courses come to. -/
structure EndsOK (hs : List (List (List Int))) (rs : List Int) (cs : List (Int × Int × Int)) (L : List (List Bool × List Int)) : Prop where
  len : L.length ≤ 20000
  of : ∀ e ∈ L, FitF none rs e.2 ∧ e.1 = alongF hs cs 0 e.2 zeroG
  all : ∀ c, FitF none rs c → ∃ e ∈ L, e.1 = alongF hs cs 0 c zeroG
theorem EndsOK.len24 (h : BOK n n2 hs rs cs) {L : List (List Bool × List Int)} (hL : EndsOK hs rs cs L) : ∀ e ∈ L, e.1.length = 24 := fun e he => by
  obtain ⟨h1, h2⟩ := hL.of e he
  rw [h2]; exact alongF_len h _ _ _ h1.rng (by simp [zeroG])
theorem EndsOK.get (h : BOK n n2 hs rs cs) {L : List (List Bool × List Int)} (hL : EndsOK hs rs cs L) {x q : Int} (hx : 0 ≤ x ∧ x < 6) (hq : 0 ≤ q ∧ q < 4) : ∀ e ∈ L, e.1.getD (x * 4 + q).toNat false = heardB hs cs e.2 x q := fun e he => by
  obtain ⟨h1, h2⟩ := hL.of e he
  rw [h2]; exact along_heard h hx hq h1.rng h1.len
theorem EndsOK.all' (h : BOK n n2 hs rs cs) {L : List (List Bool × List Int)} (hL : EndsOK hs rs cs L) {x q : Int} (hx : 0 ≤ x ∧ x < 6) (hq : 0 ≤ q ∧ q < 4) {c : List Int} (hc : FitF none rs c) : ∃ e ∈ L, e.1.getD (x * 4 + q).toNat false = heardB hs cs c x q := by
  obtain ⟨e, he, h2⟩ := hL.all c hc
  exact ⟨e, he, by rw [h2]; exact along_heard h hx hq hc.rng hc.len⟩
theorem told_eq (h : BOK n n2 hs rs cs) (hc : ∃ c, FitF none rs c) : ∃ L, book_desk_endings n n2 hs rs cs = some L ∧ EndsOK hs rs cs L ∧ 1 ≤ L.length ∧ book_told n n2 hs rs cs = some (some (n, n2, hs, rs, cs), L, 0) := by
  obtain ⟨L, e1, g0, g1, g2⟩ := endings_eq h
  obtain ⟨c, hc⟩ := hc
  obtain ⟨e, he, _⟩ := g2 c hc
  have hl : 1 ≤ L.length := by cases L with
    | nil => cases he
    | cons a l => simp
  refine ⟨L, e1, ⟨g0, g1, g2⟩, hl, ?_⟩
  unfold book_told
  rw [opened_eq h, b2_some, if_neg (by decide), b5_some, e1, b1_some, if_neg (by omega)]
def cntV (L : List (List Bool × List Int)) (x q : Int) : Nat := L.countP fun e => e.1.getD (x * 4 + q).toNat false
def valV (L : List (List Bool × List Int)) (x q : Int) : Int := if cntV L x q = L.length then 1 else if cntV L x q = 0 then 2 else 0
theorem verd_l3 {x q : Int} (hx : 0 ≤ x ∧ x < 6) (hq : 0 ≤ q ∧ q < 4) : ∀ (L : List (List Bool × List Int)) (m : Nat), (∀ e ∈ L, e.1.length = 24) → m + L.length ≤ 100000 → book_Verdicts_l3 x q L (m : Int) = some ((m + cntV L x q : Nat) : Int)
  | [], m, _, _ => rfl
  | e :: L, m, hL, hm => by
    rw [List.length_cons] at hm
    have he := hL e (by simp)
    unfold book_Verdicts_l3
    rw [gd_t hx, gd_t hq, ixD false _ (by omega) (by omega)]
    by_cases e1 : e.1.getD (x * 4 + q).toNat false = true
    · rw [e1, if_pos rfl, gd_t (r64_small (by omega)), show (m : Int) + 1 = ((m + 1 : Nat) : Int) by omega, verd_l3 hx hq L (m + 1) (fun e he => hL e (by simp [he])) (by omega)]
      have : cntV (e :: L) x q = cntV L x q + 1 := by unfold cntV; rw [List.countP_cons, e1]; rfl
      rw [this]; congr 2; omega
    · have e1' : e.1.getD (x * 4 + q).toNat false = false := by simpa using e1
      rw [e1', if_neg (by decide), verd_l3 hx hq L m (fun e he => hL e (by simp [he])) (by omega)]
      have : cntV (e :: L) x q = cntV L x q := by unfold cntV; rw [List.countP_cons, e1']; rfl
      rw [this]
theorem verd_l2 {L : List (List Bool × List Int)} (hL : ∀ e ∈ L, e.1.length = 24) (hl : L.length ≤ 90000) {k N2 : Nat} (hk : k < 6) (hN : N2 ≤ 4) : ∀ (fu q : Nat) (out : List (List Int)), q + fu = N2 → k < out.length → out.getD k [] = (List.range q).map (fun q : Nat => valV L (k : Int) (q : Int)) →
    ∃ R, book_Verdicts_l2 L (k : Int) fu (q : Int) out = some R ∧ R.length = out.length ∧ R.getD k [] = (List.range N2).map (fun q : Nat => valV L (k : Int) (q : Int)) ∧ ∀ j, j ≠ k → R.getD j [] = out.getD j []
  | 0, q, out, hq, hk2, ho => ⟨out, rfl, rfl, by rw [ho, show q = N2 by omega], fun _ _ => rfl⟩
  | fu + 1, q, out, hq, hk2, ho => by
    have e0 : book_Verdicts_l3 (k : Int) (q : Int) L 0 = some ((cntV L (k : Int) (q : Int) : Nat) : Int) := by
      have := verd_l3 (x := (k : Int)) (q := (q : Int)) (by omega) (by omega) L 0 hL (by omega)
      rw [Nat.zero_add] at this; exact this
    have ev : (b1 (if ((cntV L (k : Int) (q : Int) : Nat) : Int) = (L.length : Int) then some (1 : Int) else if ((cntV L (k : Int) (q : Int) : Nat) : Int) = 0 then some 2 else some 0) fun v => ix out (k : Int) fun x3 => ap x3 [v] fun l3 => bv (out.set ((k : Int)).toNat l3) fun out6 => some out6) = some (out.set k (out.getD k [] ++ [valV L (k : Int) (q : Int)])) := by
      have e1 : (if ((cntV L (k : Int) (q : Int) : Nat) : Int) = (L.length : Int) then some (1 : Int) else if ((cntV L (k : Int) (q : Int) : Nat) : Int) = 0 then some 2 else some 0) = some (valV L (k : Int) (q : Int)) := by
        unfold valV
        by_cases h1 : cntV L (k : Int) (q : Int) = L.length
        · rw [if_pos (by omega), if_pos h1]
        · by_cases h2 : cntV L (k : Int) (q : Int) = 0
          · rw [if_neg (by omega), if_pos (by omega), if_neg h1, if_pos h2]
          · rw [if_neg (by omega), if_neg (by omega), if_neg h1, if_neg h2]
      rw [e1, b1_some, ixN [] _ hk2, ap_t (by rw [ho]; simp; omega), bvE, Int.toNat_natCast]
    obtain ⟨R, g1, g2, g3, g4⟩ := verd_l2 hL hl hk hN fu (q + 1) (out.set k (out.getD k [] ++ [valV L (k : Int) (q : Int)])) (by omega) (by rw [List.length_set]; exact hk2) (by
      rw [getD_setI hk2, if_pos rfl, ho, List.range_succ, List.map_append]; rfl)
    refine ⟨R, ?_, by rw [g2, List.length_set], g3, fun j hj => by rw [g4 j hj, getD_setI hk2, if_neg (fun e => hj e.symm)]⟩
    unfold book_Verdicts_l2
    rw [e0, b1_some, ev, b1_some, show (q : Int) + 1 = ((q + 1 : Nat) : Int) by omega]
    exact g1
theorem verd_l1 {L : List (List Bool × List Int)} (hL : ∀ e ∈ L, e.1.length = 24) (hl : L.length ≤ 90000) {N N2 : Nat} (hN6 : N ≤ 6) (hN : N2 ≤ 4) : ∀ (fu k : Nat) (out : List (List Int)), k + fu = N → out.length = N → (∀ j, k ≤ j → out.getD j [] = []) →
    ∃ R, book_Verdicts_l1 (N2 : Int) L fu (k : Int) out = some R ∧ R.length = N ∧ (∀ j, j < k → R.getD j [] = out.getD j []) ∧ ∀ j, k ≤ j → j < N → R.getD j [] = (List.range N2).map (fun q : Nat => valV L (j : Int) (q : Int))
  | 0, k, out, hk, ho, _ => ⟨out, rfl, ho, fun _ _ => rfl, fun j h1 h2 => by omega⟩
  | fu + 1, k, out, hk, ho, hj => by
    obtain ⟨R1, g1, g2, g3, g4⟩ := verd_l2 hL hl (k := k) (N2 := N2) (by omega) hN N2 0 out (by omega) (by omega) (by rw [hj k (Nat.le_refl _)]; rfl)
    obtain ⟨R, f1, f2, f3, f4⟩ := verd_l1 hL hl hN6 hN fu (k + 1) R1 (by omega) (by omega) (fun j h1 => by rw [g4 j (by omega)]; exact hj j (by omega))
    refine ⟨R, ?_, f2, fun j h1 => by rw [f3 j (by omega)]; exact g4 j (by omega), fun j h1 h2 => ?_⟩
    · have g1' : book_Verdicts_l2 L (k : Int) (Int.toNat ((N2 : Int) - 0)) 0 out = some R1 := by
        rw [show Int.toNat ((N2 : Int) - 0) = N2 by omega]; exact g1
      unfold book_Verdicts_l1
      rw [gd_t ⟨r64_small (by omega), r64_small (by omega)⟩, g1', b1_some, show (k : Int) + 1 = ((k + 1 : Nat) : Int) by omega]
      exact f1
    · by_cases e : j = k
      · subst e; rw [f3 j (by omega)]; exact g3
      · exact f4 j (by omega) h2
/-- What a verdict says. -/
def VerdP (hs : List (List (List Int))) (rs : List Int) (cs : List (Int × Int × Int)) (x q v : Int) : Prop :=
  (v = 1 ∧ ∀ c, FitF none rs c → heardB hs cs c x q = true) ∨ (v = 2 ∧ ∀ c, FitF none rs c → heardB hs cs c x q = false) ∨
  (v = 0 ∧ (∃ c, FitF none rs c ∧ heardB hs cs c x q = true) ∧ ∃ c, FitF none rs c ∧ heardB hs cs c x q = false)
theorem valV_ok (h : BOK n n2 hs rs cs) {L : List (List Bool × List Int)} (hL : EndsOK hs rs cs L) (_hl : 1 ≤ L.length) {x q : Int} (hx : 0 ≤ x ∧ x < 6) (hq : 0 ≤ q ∧ q < 4) : VerdP hs rs cs x q (valV L x q) := by
  unfold valV cntV
  have hg := hL.get h hx hq
  by_cases h1 : L.countP (fun e => e.1.getD (x * 4 + q).toNat false) = L.length
  · rw [if_pos h1]
    refine .inl ⟨rfl, fun c hc => ?_⟩
    obtain ⟨e, he, h2⟩ := hL.all' h hx hq hc
    rw [← h2]; exact List.countP_eq_length.1 h1 e he
  · rw [if_neg h1]
    have ⟨e1, he1, hf1⟩ : ∃ e ∈ L, e.1.getD (x * 4 + q).toNat false = false := by
      apply Classical.byContradiction
      intro hno
      refine h1 (List.countP_eq_length.2 fun e he => ?_)
      cases hq : e.1.getD (x * 4 + q).toNat false with
      | true => rfl
      | false => exact absurd ⟨e, he, hq⟩ hno
    by_cases h2 : L.countP (fun e => e.1.getD (x * 4 + q).toNat false) = 0
    · rw [if_pos h2]
      refine .inr (.inl ⟨rfl, fun c hc => ?_⟩)
      obtain ⟨e, he, h3⟩ := hL.all' h hx hq hc
      rw [← h3]
      have := List.countP_eq_zero.1 h2 e he
      simpa using this
    · rw [if_neg h2]
      obtain ⟨e, he, h3⟩ : ∃ e ∈ L, e.1.getD (x * 4 + q).toNat false = true := List.countP_pos_iff.1 (by omega)
      exact .inr (.inr ⟨rfl, ⟨e.2, (hL.of e he).1, by rw [← hg e he]; exact h3⟩, ⟨e1.2, (hL.of e1 he1).1, by rw [← hg e1 he1]; exact hf1⟩⟩)
/-- A table of verdicts. -/
structure VTab (n n2 : Int) (hs : List (List (List Int))) (rs : List Int) (cs : List (Int × Int × Int)) (T : List (List Int)) : Prop where
  len : (T.length : Int) = n
  row : ∀ r ∈ T, (r.length : Int) = n2
  get : ∀ x q : Int, (0 ≤ x ∧ x < n) → (0 ≤ q ∧ q < n2) → VerdP hs rs cs x q ((T.getD x.toNat []).getD q.toNat 0)
theorem getD_map_range {α : Type} (f : Nat → α) {m j : Nat} (d : α) (h : j < m) : ((List.range m).map f).getD j d = f j := by
  rw [List.getD_eq_getElem?_getD, List.getElem?_map, List.getElem?_range h]; rfl
theorem Verdicts_eq (h : BOK n n2 hs rs cs) (hc : ∃ c, FitF none rs c) : ∃ T, book_Verdicts n n2 hs rs cs = some (T, 0) ∧ VTab n n2 hs rs cs T := by
  obtain ⟨L, _, hL, hl, e1⟩ := told_eq h hc
  have hn := h.hn; have hn2 := h.hn2
  obtain ⟨N, rfl⟩ := Int.eq_ofNat_of_zero_le (show 0 ≤ n by omega)
  obtain ⟨N2, rfl⟩ := Int.eq_ofNat_of_zero_le (show 0 ≤ n2 by omega)
  obtain ⟨R, g1, g2, _, g4⟩ := verd_l1 (hL.len24 h) (by have := hL.len; omega) (N := N) (N2 := N2) (by omega) (by omega) N 0 (List.replicate N []) (by omega) (by simp) (fun j _ => by
    rw [List.getD_eq_getElem?_getD, List.getElem?_replicate]; split <;> rfl)
  refine ⟨R, ?_, by omega, fun r hr => ?_, fun x q hx hq => ?_⟩
  · unfold book_Verdicts
    have g1' : book_Verdicts_l1 (N2 : Int) L (Int.toNat (((List.replicate ((N : Int)).toNat ([] : List Int)).length : Int) - 0)) 0 (List.replicate ((N : Int)).toNat []) = some R := by
      rw [Int.toNat_natCast, List.length_replicate, show Int.toNat ((N : Int) - 0) = N by omega]; exact g1
    rw [e1, b3_some, if_neg (by decide), gd_t (by omega), bvE, gd_t ⟨r64_small (by omega), r64_small (by rw [List.length_replicate]; omega)⟩, g1', b1_some]
  · obtain ⟨j, hj, rfl⟩ := List.mem_iff_getElem.1 hr
    have := g4 j (Nat.zero_le _) (by omega)
    rw [List.getD_eq_getElem?_getD, List.getElem?_eq_getElem hj] at this
    have : R[j] = _ := this
    rw [this]; simp
  · obtain ⟨x, rfl⟩ := Int.eq_ofNat_of_zero_le hx.1
    obtain ⟨q, rfl⟩ := Int.eq_ofNat_of_zero_le hq.1
    rw [Int.toNat_natCast, Int.toNat_natCast, g4 x (Nat.zero_le _) (by omega), getD_map_range _ _ (by omega)]
    exact valV_ok h hL hl (by omega) (by omega)
abbrev Cp := Int × Int × Bool
def trueC (hs : List (List (List Int))) (cs : List (Int × Int × Int)) (c : List Int) (p : Cp) : Bool := decide (heardB hs cs c p.1 p.2.1 = p.2.2)
def wrF (P : Cp → Bool) : List Cp → Int → List Int
  | [], _ => []
  | p :: ps, k => if P p = true then wrF P ps (k + 1) else k :: wrF P ps (k + 1)
theorem wrF_nil (P : Cp → Bool) : ∀ (ps : List Cp) (k : Int), wrF P ps k = [] ↔ ∀ p ∈ ps, P p = true
  | [], _ => by simp [wrF]
  | p :: ps, k => by
    unfold wrF
    by_cases e : P p = true
    · rw [if_pos e, wrF_nil P ps (k + 1)]; simp [e]
    · rw [if_neg e]
      simp [e]
def gTrue (g : List Bool) (p : Cp) : Bool := decide (g.getD (p.1 * 4 + p.2.1).toNat false = p.2.2)
theorem is_eq {g : List Bool} (hg : g.length = 24) {p : Cp} (hp : (0 ≤ p.1 ∧ p.1 < 6) ∧ (0 ≤ p.2.1 ∧ p.2.1 < 4)) : book_Complaint_is p.1 p.2.1 p.2.2 g = some (gTrue g p) := by
  unfold book_Complaint_is
  rw [gd_t hp.1, gd_t hp.2, ixD false _ (by omega) (by omega)]; rfl
theorem wrong_l1 {g : List Bool} (hg : g.length = 24) : ∀ (ps : List Cp) (k : Int) (out : List Int), (∀ p ∈ ps, (0 ≤ p.1 ∧ p.1 < 6) ∧ (0 ≤ p.2.1 ∧ p.2.1 < 4)) → out.length + ps.length ≤ 100000 → book_wrong_l1 g ps k out = some (out ++ wrF (gTrue g) ps k)
  | [], _, out, _, _ => by unfold book_wrong_l1 wrF; rw [List.append_nil]
  | p :: ps, k, out, hp, hl => by
    rw [List.length_cons] at hl
    unfold book_wrong_l1 wrF
    rw [is_eq hg (hp p (by simp)), b1_some]
    by_cases e : gTrue g p = true
    · rw [e, if_neg (by decide), if_pos rfl]
      exact wrong_l1 hg ps (k + 1) out (fun q hq => hp q (by simp [hq])) (by omega)
    · have e' : gTrue g p = false := by simpa using e
      rw [e', if_pos (by decide), if_neg (by decide), ap_t (by simp; omega), wrong_l1 hg ps (k + 1) _ (fun q hq => hp q (by simp [hq])) (by simp; omega), List.append_assoc]; rfl
theorem wrong_eq {g : List Bool} (hg : g.length = 24) {ps : List Cp} (hp : ∀ p ∈ ps, (0 ≤ p.1 ∧ p.1 < 6) ∧ (0 ≤ p.2.1 ∧ p.2.1 < 4)) (hl : ps.length ≤ 1000) : book_wrong ps g = some (wrF (gTrue g) ps 0) := by
  unfold book_wrong
  rw [wrong_l1 hg ps 0 [] hp (by simp; omega), b1_some, List.nil_append]
/-- Complaints that are right. -/
def CpOK (n n2 : Int) (ps : List Cp) : Prop := ps.length ≤ 8 ∧ ∀ p ∈ ps, (0 ≤ p.1 ∧ p.1 < n) ∧ (0 ≤ p.2.1 ∧ p.2.1 < n2)
theorem CpOK.rng (h : BOK n n2 hs rs cs) {ps : List Cp} (hp : CpOK n n2 ps) : ∀ p ∈ ps, (0 ≤ p.1 ∧ p.1 < 6) ∧ (0 ≤ p.2.1 ∧ p.2.1 < 4) := fun p hm => by
  have := hp.2 p hm; have := h.hn; have := h.hn2; omega
theorem gTrue_eq (h : BOK n n2 hs rs cs) {L : List (List Bool × List Int)} (hL : EndsOK hs rs cs L) {ps : List Cp} (hp : CpOK n n2 ps) {e : List Bool × List Int} (he : e ∈ L) : ∀ p ∈ ps, gTrue e.1 p = trueC hs cs e.2 p := fun p hm => by
  obtain ⟨h1, h2⟩ := hp.rng h p hm
  unfold gTrue trueC
  rw [hL.get h h1 h2 e he]
theorem complained_eq (h : BOK n n2 hs rs cs) {ps : List Cp} (hp : CpOK n n2 ps) : book_complained n n2 hs rs cs ps = some 0 := by
  have key : ∀ l : List Cp, (∀ p ∈ l, (0 ≤ p.1 ∧ p.1 < n) ∧ (0 ≤ p.2.1 ∧ p.2.1 < n2)) → book_complained_l2 n n2 hs rs cs l = some 0 := fun l => by
    induction l with
    | nil => intro _; rfl
    | cons p l ih =>
      intro hl
      obtain ⟨h1, h2⟩ := hl p (by simp)
      unfold book_complained_l2 book_Complaint_error
      rw [house_eq h, b1_some, decide_eq_true h1, if_neg (by decide), notice_eq h, b1_some, decide_eq_true h2, b1_some, if_neg (by decide), b1_some, if_neg (by decide)]
      exact ih fun q hq => hl q (by simp [hq])
  unfold book_complained
  have := hp.1
  rw [Check_eq h, b1_some, if_neg (by decide), if_neg (by omega)]
  exact key ps hp.2
theorem bheard_eq (h : BOK n n2 hs rs cs) (hc : ∃ c, FitF none rs c) {ps : List Cp} (hp : CpOK n n2 ps) : ∃ L, EndsOK hs rs cs L ∧ 1 ≤ L.length ∧ book_heard n n2 hs rs cs ps = some (L, 0) := by
  obtain ⟨L, _, hL, hl, e1⟩ := told_eq h hc
  refine ⟨L, hL, hl, ?_⟩
  unfold book_heard
  rw [complained_eq h hp, b1_some, if_neg (by decide), e1, b3_some]
theorem find_l2 {met : List Bool → Option Bool} {P : List Bool × List Int → Bool} : ∀ (L : List (List Bool × List Int)), (∀ e ∈ L, met e.1 = some (P e) ∧ e.2 ≠ []) →
    (∃ e ∈ L, P e = true ∧ book_goal_find_l2 met L = some e.2) ∨ ((∀ e ∈ L, P e = false) ∧ book_goal_find_l2 met L = some [])
  | [], _ => .inr ⟨(fun _ h => nomatch h), rfl⟩
  | e :: L, hL => by
    obtain ⟨h1, h2⟩ := hL e (by simp)
    unfold book_goal_find_l2
    rw [h1, b1_some]
    by_cases e1 : P e = true
    · rw [e1, if_pos rfl, gd_t h2]
      exact .inl ⟨e, by simp, e1, rfl⟩
    · rw [if_neg e1]
      rcases find_l2 L (fun e he => hL e (by simp [he])) with ⟨e2, h3, h4⟩ | ⟨h3, h4⟩
      · exact .inl ⟨e2, by simp [h3], h4⟩
      · refine .inr ⟨fun a ha => ?_, h4⟩
        rcases List.mem_cons.1 ha with rfl | ha
        · simpa using e1
        · exact h3 a ha
theorem fit_ne (h : BOK n n2 hs rs cs) {c : List Int} (hc : FitF none rs c) : c ≠ [] := by
  have h1 := hc.len; have := h.hr
  intro e; rw [e] at h1; simp at h1; omega
theorem Together_eq (h : BOK n n2 hs rs cs) (hc : ∃ c, FitF none rs c) {ps : List Cp} (hp : CpOK n n2 ps) :
    (∃ c, FitF none rs c ∧ (∀ p ∈ ps, heardB hs cs c p.1 p.2.1 = p.2.2) ∧ book_Together n n2 hs rs cs ps = some (c, 0)) ∨
    ((∀ c, FitF none rs c → ∃ p ∈ ps, heardB hs cs c p.1 p.2.1 ≠ p.2.2) ∧ book_Together n n2 hs rs cs ps = some ([], 6)) := by
  obtain ⟨L, hL, hl, e1⟩ := bheard_eq h hc hp
  have hP : ∀ e ∈ L, (fun xx_ : List Bool => book_Together_1 xx_ ps) e.1 = some (decide (wrF (gTrue e.1) ps 0 = [])) ∧ e.2 ≠ [] := fun e he => by
    refine ⟨?_, fit_ne h (hL.of e he).1⟩
    show book_Together_1 e.1 ps = _
    unfold book_Together_1
    rw [wrong_eq (hL.len24 h e he) (hp.rng h) (by have := hp.1; omega), b1_some]
    congr 1
    rw [decide_eq_decide]
    cases wrF (gTrue e.1) ps 0 with
    | nil => simp
    | cons a l => simp; omega
  have hiff : ∀ e ∈ L, (wrF (gTrue e.1) ps 0 = [] ↔ ∀ p ∈ ps, heardB hs cs e.2 p.1 p.2.1 = p.2.2) := fun e he => by
    rw [wrF_nil]
    refine ⟨fun hh p hm => ?_, fun hh p hm => ?_⟩
    · have := hh p hm
      rw [gTrue_eq h hL hp he p hm] at this
      exact of_decide_eq_true this
    · rw [gTrue_eq h hL hp he p hm]; exact decide_eq_true (hh p hm)
  unfold book_Together
  rw [e1, b2_some, if_neg (by decide)]
  unfold book_goal_find
  rcases find_l2 (met := fun xx_ : List Bool => book_Together_1 xx_ ps) (P := fun e => decide (wrF (gTrue e.1) ps 0 = [])) L hP with ⟨e, he, h2, h3⟩ | ⟨h2, h3⟩
  · refine .inl ⟨e.2, (hL.of e he).1, (hiff e he).1 (of_decide_eq_true h2), ?_⟩
    rw [h3, b1_some, if_neg (hP e he).2]
  · refine .inr ⟨fun c hc => ?_, by rw [h3, b1_some, if_pos rfl]⟩
    apply Classical.byContradiction
    intro hno
    obtain ⟨e, he, h4⟩ := hL.all c hc
    have h5 := of_decide_eq_false (h2 e he)
    refine h5 ((wrF_nil _ _ _).2 fun p hm => ?_)
    obtain ⟨g1, g2⟩ := hp.rng h p hm
    unfold gTrue
    rw [h4, along_heard h g1 g2 hc.rng hc.len]
    exact decide_eq_true (Classical.byContradiction fun h6 => hno ⟨p, hm, h6⟩)
theorem Witness_eq (h : BOK n n2 hs rs cs) (hc : ∃ c, FitF none rs c) {x q : Int} (hx : 0 ≤ x ∧ x < n) (hq : 0 ≤ q ∧ q < n2) (b : Bool) :
    (∃ c, FitF none rs c ∧ heardB hs cs c x q = b ∧ book_Witness n n2 hs rs cs x q b = some (c, 0) ∧ book_Refuted n n2 hs rs cs x q b = some (false, 0)) ∨
    ((∀ c, FitF none rs c → heardB hs cs c x q ≠ b) ∧ book_Witness n n2 hs rs cs x q b = some ([], 6) ∧ book_Refuted n n2 hs rs cs x q b = some (true, 0)) := by
  have hp : CpOK n n2 [(x, q, b)] := ⟨by simp, fun p hm => by rw [List.mem_singleton] at hm; subst hm; exact ⟨hx, hq⟩⟩
  rcases Together_eq h hc hp with ⟨c, h1, h2, h3⟩ | ⟨h1, h2⟩
  · have e1 : book_Witness n n2 hs rs cs x q b = some (c, 0) := by unfold book_Witness; rw [h3, b2_some]
    exact .inl ⟨c, h1, h2 _ (List.mem_singleton.2 rfl), e1, by unfold book_Refuted; rw [e1, b2_some, if_pos rfl]⟩
  · have e1 : book_Witness n n2 hs rs cs x q b = some ([], 6) := by unfold book_Witness; rw [h2, b2_some]
    refine .inr ⟨fun c hc => ?_, e1, by unfold book_Refuted; rw [e1, b2_some, if_neg (by decide), if_pos rfl]⟩
    obtain ⟨p, hm, h3⟩ := h1 c hc
    rw [List.mem_singleton] at hm; subst hm
    exact h3
theorem course_eq (h : BOK n n2 hs rs cs) {c : List Int} (hl : c.length = rs.length) (hc : ∀ w ∈ c, 0 ≤ w ∧ w ≤ 7) : book_course n n2 hs rs cs c = some (some (n, n2, hs, rs, cs), 0) := by
  unfold book_course
  rw [opened_eq h, b2_some, if_neg (by decide), if_neg (by rw [hl]; simp), every_eq (g := fun _ => true) (fun w hw => by unfold book_course_1; rw [in_eq, b1_some, decide_eq_true (hc w hw)]), b1_some, show c.all (fun _ => true) = true by rw [List.all_eq_true]; exact fun _ _ => rfl, if_neg (by decide)]
def prevO (c : List Int) (k : Nat) : Option Int := if k = 0 then none else some (c.getD (k - 1) 0)
theorem fits_l2 (h : BOK n n2 hs rs cs) {c : List Int} (hl : c.length = rs.length) (hc : ∀ w ∈ c, 0 ≤ w ∧ w ≤ 7) : ∀ (tl : List Int) (k : Nat), c.drop k = tl → FitF (prevO c k) (rs.drop k) tl → book_Fits_l2 c (some (n, n2, hs, rs, cs)) tl (k : Int) = some (true, 0)
  | [], _, _, _ => rfl
  | x :: tl, k, hd, hF => by
    have h8 := h.hr
    obtain ⟨hk, hx, hd2⟩ := drop_cons 0 hd
    have hkr : k < rs.length := by omega
    have er : rs.drop k = rs.getD k 0 :: rs.drop (k + 1) := by
      rw [List.drop_eq_getElem_cons hkr, List.getD_eq_getElem?_getD, List.getElem?_eq_getElem hkr]; rfl
    rw [er] at hF
    obtain ⟨h1, h2, h3, h4⟩ := hF
    have ih := fits_l2 h hl hc tl (k + 1) hd2 (by unfold prevO; rw [if_neg (by omega), Nat.add_sub_cancel, hx]; exact h4)
    unfold book_Fits_l2
    have e1 : (b5 (some (n, n2, hs, rs, cs)) fun houses2 notices2 hears2 readings2 cries2 => b1 (book_Book_can houses2 notices2 hears2 readings2 cries2 (k : Int) x) fun ok => if (!ok) = true then some true else if 0 < (k : Int) then gd (R64 ((k : Int) - 1)) <| ix c ((k : Int) - 1) fun x2 => b1 (book_near x x2) fun ok2 => some (!ok2) else some false) = some false := by
      rw [b5_some, can_eq h.rr (by omega) (by omega) h1, Int.toNat_natCast, h2, b1_some, if_neg (by decide)]
      by_cases e : k = 0
      · subst e; rw [if_neg (by decide)]
      · have h5 := h3 (c.getD (k - 1) 0) (by unfold prevO; rw [if_neg e])
        rw [if_pos (by omega), gd_t (r64_small (by omega)), show (k : Int) - 1 = ((k - 1 : Nat) : Int) by omega, ixI _ (by omega), near_eq h1 (hc _ (getD_mem (by omega))), b1_some, h5]; rfl
    rw [e1, b1_some, if_neg (by decide), show (k : Int) + 1 = ((k + 1 : Nat) : Int) by omega]
    exact ih
theorem Fits_eq (h : BOK n n2 hs rs cs) {c : List Int} (hc : FitF none rs c) : book_Fits n n2 hs rs cs c = some (true, 0) := by
  unfold book_Fits
  rw [course_eq h hc.len hc.rng, b2_some, if_neg (by decide)]
  exact fits_l2 h hc.len hc.rng c 0 rfl hc
def fitB : Option Int → List Int → List Int → Bool
  | _, [], [] => true
  | p, r :: rs, w :: c => canB r w && (match p with | some v => nearB w v | none => true) && fitB (some w) rs c
  | _, _, _ => false
theorem fitB_iff : ∀ {p : Option Int} {rs c : List Int}, (∀ w ∈ c, 0 ≤ w ∧ w ≤ 7) → (fitB p rs c = true ↔ FitF p rs c)
  | _, [], [], _ => ⟨fun _ => trivial, fun _ => rfl⟩
  | p, r :: rs, w :: c, hc => by
    have ih := fitB_iff (p := some w) (rs := rs) (c := c) (fun x hx => hc x (by simp [hx]))
    unfold fitB FitF
    rw [Bool.and_eq_true, Bool.and_eq_true, ih]
    cases p with
    | none => exact ⟨fun ⟨⟨h1, _⟩, h3⟩ => ⟨hc w (by simp), h1, (fun _ h => nomatch h), h3⟩, fun ⟨_, h1, _, h3⟩ => ⟨⟨h1, rfl⟩, h3⟩⟩
    | some v => exact ⟨fun ⟨⟨h1, h2⟩, h3⟩ => ⟨hc w (by simp), h1, fun _ h => by cases h; exact h2, h3⟩, fun ⟨_, h1, h2, h3⟩ => ⟨⟨h1, h2 v rfl⟩, h3⟩⟩
  | _, [], _ :: _, _ => ⟨(fun h => nomatch h), fun h => h.elim⟩
  | _, _ :: _, [], _ => ⟨(fun h => nomatch h), fun h => h.elim⟩
theorem lfit_l2 {rs : List Int} (h8 : rs.length ≤ 8) (hr : ∀ r ∈ rs, -1 ≤ r ∧ r ≤ 7) {c : List Int} (hl : c.length = rs.length) (hc : ∀ w ∈ c, 0 ≤ w ∧ w ≤ 7) : ∀ (tl : List Int) (k : Nat), c.drop k = tl → oyezlaw07_fit_l2 rs c tl (k : Int) = some (fitB (prevO c k) (rs.drop k) tl)
  | [], k, hd => by
    have : c.length ≤ k := by have := congrArg List.length hd; simp at this; omega
    rw [List.drop_eq_nil_of_le (show rs.length ≤ k by omega)]; rfl
  | x :: tl, k, hd => by
    obtain ⟨hk, hx, hd2⟩ := drop_cons 0 hd
    have hkr : k < rs.length := by omega
    have hx7 : 0 ≤ x ∧ x ≤ 7 := by rw [← hx]; exact hc _ (getD_mem hk)
    have er : rs.drop k = rs.getD k 0 :: rs.drop (k + 1) := by
      rw [List.drop_eq_getElem_cons hkr, List.getD_eq_getElem?_getD, List.getElem?_eq_getElem hkr]; rfl
    have hr7 := hr _ (getD_mem (d := 0) hkr)
    have ih := lfit_l2 h8 hr hl hc tl (k + 1) hd2
    have e0 : prevO c (k + 1) = some x := by unfold prevO; rw [if_neg (by omega), Nat.add_sub_cancel, hx]
    rw [e0] at ih
    rw [er]
    unfold oyezlaw07_fit_l2 fitB
    rw [ixI _ hkr]
    generalize rs.getD k 0 = r at hr7
    have e2 : (if 0 < (k : Int) then gd (R64 ((k : Int) - 1)) <| ix c ((k : Int) - 1) fun x3 => b1 (oyezlaw07_near x x3) fun ok2 => some (!ok2) else some false) = some (!(match prevO c k with | some v => nearB x v | none => true)) := by
      unfold prevO
      by_cases e : k = 0
      · subst e; rw [if_neg (by decide), if_pos rfl]; rfl
      · rw [if_pos (by omega), if_neg e, gd_t (r64_small (by omega)), show (k : Int) - 1 = ((k - 1 : Nat) : Int) by omega, ixI _ (by omega), lnear_eq hx7 (hc _ (getD_mem (by omega))), b1_some]
    have e3 : (if r ≠ (-1) then b1 (oyezlaw07_near x r) fun ok => if (!ok) = true then some true else (if 0 < (k : Int) then gd (R64 ((k : Int) - 1)) <| ix c ((k : Int) - 1) fun x3 => b1 (oyezlaw07_near x x3) fun ok2 => some (!ok2) else some false) else (if 0 < (k : Int) then gd (R64 ((k : Int) - 1)) <| ix c ((k : Int) - 1) fun x4 => b1 (oyezlaw07_near x x4) fun ok3 => some (!ok3) else some false)) = some (!(canB r x && (match prevO c k with | some v => nearB x v | none => true))) := by
      unfold canB
      by_cases e : r = -1
      · rw [if_neg (by simp [e]), e2]; simp [e]
      · rw [if_pos e, lnear_eq hx7 (by omega), b1_some]
        by_cases e4 : nearB x r = true
        · rw [e4, if_neg (by decide), e2]; simp
        · have e5 : nearB x r = false := by simpa using e4
          rw [e5, if_pos (by decide)]; simp [e]
    rw [e3, b1_some]
    by_cases e : (canB r x && (match prevO c k with | some v => nearB x v | none => true)) = true
    · rw [e, if_neg (by decide), show (k : Int) + 1 = ((k + 1 : Nat) : Int) by omega, ih]; simp
    · have e' : (canB r x && (match prevO c k with | some v => nearB x v | none => true)) = false := by simpa using e
      rw [e', if_pos (by decide)]; simp
theorem lfit_eq (h : BOK n n2 hs rs cs) {c : List Int} (hl : c.length = rs.length) (hc : ∀ w ∈ c, 0 ≤ w ∧ w ≤ 7) : oyezlaw07_fit n n2 hs rs cs c = some (fitB none rs c) := lfit_l2 h.hr.2 h.rr hl hc c 0 rfl
theorem right_eq (h : BOK n n2 hs rs cs) {c : List Int} (hc : FitF none rs c) : oyezlaw07_right n n2 hs rs cs c = some true := by
  unfold oyezlaw07_right
  rw [if_pos (by rw [hc.len]), idx_int_int (g := fun _ => false) (fun w hw => by
    have := hc.rng w hw
    unfold oyezlaw07_right_1
    rw [if_neg (by omega)]; congr 1; exact decide_eq_false (by omega)), b1_some, show c.any (fun _ => false) = false by rw [List.any_eq_false]; exact fun _ _ => by decide, if_pos (by decide), lfit_eq h hc.len hc.rng, b1_some, (fitB_iff hc.rng).2 hc]
theorem lheard_eq (h : BOK n n2 hs rs cs) {c : List Int} (hl : c.length = rs.length) (hc : ∀ w ∈ c, 0 ≤ w ∧ w ≤ 7) (x q : Int) : oyezlaw07_heard n n2 hs rs cs c x q = some (heardB hs cs c x q) := by
  unfold oyezlaw07_heard
  rw [idx_cry (g := fun y => decide (y.2.2 = q) && decide (x ∈ cell hs y.2.1 (c.getD y.1.toNat 0))) (fun y hy => by
    obtain ⟨h1, h2, _⟩ := h.cc y hy
    show oyezlaw07_heard_1 y.1 y.2.1 y.2.2 q n n2 hs rs cs c x = _
    have hw := hc _ (getD_mem (d := 0) (show y.1.toNat < c.length by omega))
    obtain ⟨_, h8, _⟩ := cell_mem h h2 hw
    unfold oyezlaw07_heard_1
    by_cases e : y.2.2 = q
    · rw [if_pos e, ixD [] _ h2.1 h2.2, ixD 0 _ h1.1 (by omega), ixD [] _ hw.1 (by omega), contains_eq, b1_some]
      simp [e, cell]
    · rw [if_neg e]; simp [e]), b1_some]; rfl
theorem along_l1 (h : BOK n n2 hs rs cs) : ∀ (c : List Int) (k : Nat) (g : List Bool), (∀ w ∈ c, 0 ≤ w ∧ w ≤ 7) → g.length = 24 → book_desk_along_l1 n n2 hs rs cs c (k : Int) g = some (alongF hs cs (k : Int) c g)
  | [], _, _, _, _ => rfl
  | w :: c, k, g, hc, hg => by
    obtain ⟨h1, h2⟩ := hear_eq h (k : Int) (hc w (by simp)) hg
    unfold book_desk_along_l1
    rw [h1, b1_some, show (k : Int) + 1 = ((k + 1 : Nat) : Int) by omega, along_l1 h c (k + 1) _ (fun x hx => hc x (by simp [hx])) h2, show ((k + 1 : Nat) : Int) = (k : Int) + 1 by omega]; rfl
theorem along_eq (h : BOK n n2 hs rs cs) {c : List Int} (hc : ∀ w ∈ c, 0 ≤ w ∧ w ≤ 7) : book_desk_along n n2 hs rs cs c = some (alongF hs cs 0 c zeroG) := by
  unfold book_desk_along
  have := along_l1 h c 0 zeroG hc (by simp [zeroG])
  have this' : book_desk_along_l1 n n2 hs rs cs c 0 (List.replicate 24 false) = some (alongF hs cs 0 c zeroG) := this
  rw [this', b1_some]
theorem Heard_l2 {a : List Bool} (ha : a.length = 24) {k N2 : Nat} (hk : k < 6) (hN : N2 ≤ 4) : ∀ (fu q : Nat) (out : List (List Int)), q + fu = N2 → k < out.length → (out.getD k []).length + fu ≤ 200 →
    ∃ R, book_Heard_l2 a (k : Int) fu (q : Int) out = some R ∧ R.length = out.length ∧ (∀ j, j ≠ k → R.getD j [] = out.getD j []) ∧ ∀ y : Int, y ∈ R.getD k [] ↔ y ∈ out.getD k [] ∨ ((q : Int) ≤ y ∧ y < (N2 : Int) ∧ a.getD ((k : Int) * 4 + y).toNat false = true)
  | 0, q, out, hq, _, _ => ⟨out, rfl, rfl, fun _ _ => rfl, fun y => ⟨.inl, fun h => h.elim id fun h => by omega⟩⟩
  | fu + 1, q, out, hq, hk2, hl => by
    unfold book_Heard_l2
    rw [gd_t (by omega), gd_t (by omega), ixD false _ (by omega) (by omega)]
    by_cases e : a.getD ((k : Int) * 4 + (q : Int)).toNat false = true
    · obtain ⟨R, g1, g2, g3, g4⟩ := Heard_l2 ha hk hN fu (q + 1) (out.set k (out.getD k [] ++ [(q : Int)])) (by omega) (by rw [List.length_set]; exact hk2) (by rw [getD_setI hk2, if_pos rfl, List.length_append, List.length_singleton]; omega)
      rw [if_pos e, ixN [] _ hk2, ap_t (by rw [List.length_append, List.length_singleton]; omega), bvE, Int.toNat_natCast, show (q : Int) + 1 = ((q + 1 : Nat) : Int) by omega]
      refine ⟨R, g1, by rw [g2, List.length_set], fun j hj => by rw [g3 j hj, getD_setI hk2, if_neg (fun e => hj e.symm)], fun y => ?_⟩
      rw [g4 y, getD_setI hk2, if_pos rfl, List.mem_append, List.mem_singleton]
      constructor
      · rintro ((h | rfl) | ⟨h1, h2, h3⟩)
        · exact .inl h
        · exact .inr ⟨Int.le_refl _, by omega, e⟩
        · exact .inr ⟨by omega, h2, h3⟩
      · rintro (h | ⟨h1, h2, h3⟩)
        · exact .inl (.inl h)
        · by_cases e2 : y = (q : Int)
          · exact .inl (.inr e2)
          · exact .inr ⟨by omega, h2, h3⟩
    · rw [if_neg e, show (q : Int) + 1 = ((q + 1 : Nat) : Int) by omega]
      obtain ⟨R, g1, g2, g3, g4⟩ := Heard_l2 ha hk hN fu (q + 1) out (by omega) hk2 (by omega)
      refine ⟨R, g1, g2, g3, fun y => ?_⟩
      rw [g4 y]
      constructor
      · rintro (h | ⟨h1, h2, h3⟩)
        · exact .inl h
        · exact .inr ⟨by omega, h2, h3⟩
      · rintro (h | ⟨h1, h2, h3⟩)
        · exact .inl h
        · refine .inr ⟨?_, h2, h3⟩
          by_cases e2 : y = (q : Int)
          · subst e2; exact absurd h3 e
          · omega
theorem Heard_l1 {a : List Bool} (ha : a.length = 24) {N N2 : Nat} (hN6 : N ≤ 6) (hN : N2 ≤ 4) : ∀ (fu k : Nat) (out : List (List Int)), k + fu = N → out.length = N → (∀ j, k ≤ j → out.getD j [] = []) →
    ∃ R, book_Heard_l1 (N2 : Int) a fu (k : Int) out = some R ∧ R.length = N ∧ (∀ j, j < k → R.getD j [] = out.getD j []) ∧ ∀ j, k ≤ j → j < N → ∀ y : Int, y ∈ R.getD j [] ↔ (0 ≤ y ∧ y < (N2 : Int) ∧ a.getD ((j : Int) * 4 + y).toNat false = true)
  | 0, k, out, hk, ho, _ => ⟨out, rfl, ho, fun _ _ => rfl, fun j h1 h2 => by omega⟩
  | fu + 1, k, out, hk, ho, hj => by
    have h0 := hj k (Nat.le_refl _)
    obtain ⟨R1, g1, g2, g3, g4⟩ := Heard_l2 ha (k := k) (N2 := N2) (by omega) hN N2 0 out (by omega) (by omega) (by rw [h0]; simp; omega)
    obtain ⟨R, f1, f2, f3, f4⟩ := Heard_l1 ha hN6 hN fu (k + 1) R1 (by omega) (by omega) (fun j h1 => by rw [g3 j (by omega)]; exact hj j (by omega))
    refine ⟨R, ?_, f2, fun j h1 => by rw [f3 j (by omega)]; exact g3 j (by omega), fun j h1 h2 y => ?_⟩
    · have g1' : book_Heard_l2 a (k : Int) (Int.toNat ((N2 : Int) - 0)) 0 out = some R1 := by
        rw [show Int.toNat ((N2 : Int) - 0) = N2 by omega]; exact g1
      unfold book_Heard_l1
      rw [gd_t ⟨r64_small (by omega), r64_small (by omega)⟩, g1', b1_some, show (k : Int) + 1 = ((k + 1 : Nat) : Int) by omega]
      exact f1
    · by_cases e : j = k
      · subst e; rw [f3 j (by omega), g4 y, h0]; simp
      · exact f4 j (by omega) h2 y
theorem Heard_eq (h : BOK n n2 hs rs cs) {c : List Int} (hl : c.length = rs.length) (hc : ∀ w ∈ c, 0 ≤ w ∧ w ≤ 7) : ∃ T, book_Heard n n2 hs rs cs c = some (T, 0) ∧ (T.length : Int) = n ∧ ∀ x : Int, (0 ≤ x ∧ x < n) → ∀ q : Int, (0 ≤ q ∧ q < n2) → (q ∈ T.getD x.toNat [] ↔ heardB hs cs c x q = true) := by
  have hn := h.hn; have hn2 := h.hn2
  obtain ⟨N, rfl⟩ := Int.eq_ofNat_of_zero_le (show 0 ≤ n by omega)
  obtain ⟨N2, rfl⟩ := Int.eq_ofNat_of_zero_le (show 0 ≤ n2 by omega)
  obtain ⟨R, g1, g2, _, g4⟩ := Heard_l1 (alongF_len h c 0 zeroG hc (by simp [zeroG])) (N := N) (N2 := N2) (by omega) (by omega) N 0 (List.replicate N []) (by omega) (by simp) (fun j _ => by
    rw [List.getD_eq_getElem?_getD, List.getElem?_replicate]; split <;> rfl)
  refine ⟨R, ?_, by omega, fun x hx q hq => ?_⟩
  · unfold book_Heard
    have g1' : book_Heard_l1 (N2 : Int) (alongF hs cs 0 c zeroG) (Int.toNat (((List.replicate ((N : Int)).toNat ([] : List Int)).length : Int) - 0)) 0 (List.replicate ((N : Int)).toNat []) = some R := by
      rw [Int.toNat_natCast, List.length_replicate, show Int.toNat ((N : Int) - 0) = N by omega]; exact g1
    rw [course_eq h hl hc, b2_some, if_neg (by decide), b5_some, along_eq h hc, b1_some, gd_t (by omega), bvE, gd_t ⟨r64_small (by omega), r64_small (by rw [List.length_replicate]; omega)⟩, g1', b1_some]
  · obtain ⟨x, rfl⟩ := Int.eq_ofNat_of_zero_le hx.1
    rw [Int.toNat_natCast, g4 x (Nat.zero_le _) (by omega) q, along_heard h (by omega) (by omega) hc hl]
    exact ⟨fun h => h.2.2, fun h => ⟨hq.1, hq.2, h⟩⟩
end
end Go.Proofs.Ytodhcoakjlmcdaa.Bk
