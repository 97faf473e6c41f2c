/- Layer 1: what the printed functions of the reference compute. -/
import Derived.Test.YtejkgppikpkkpaaGreatZFHB
namespace Go.Proofs.YtejkgppikpkkpaaGreat
open Go.PL Go.Hear
theorem dnf {p : Prop} [Decidable p] (h : p) : ¬ decide (¬ p) = true := by simp [h]
theorem off_eq (n lo hi : Int) : oyezref01_off n lo hi = some (decide (¬ (lo ≤ n ∧ n ≤ hi))) := by
  unfold oyezref01_off
  by_cases h : n < lo
  · rw [if_pos h, decide_eq_true (show ¬ (lo ≤ n ∧ n ≤ hi) by omega)]
  · rw [if_neg h]; congr 1; rw [decide_eq_decide]; omega
theorem rcheck_l3 : ∀ (l : List Int) (n : Int), 0 ≤ n → n + l.length ≤ 1000000 → oyezref01_Check_l3 l n = some (n + (cntH l : Int))
  | [], n, _, _ => by simp [oyezref01_Check_l3, cntH]
  | x :: l, n, h0, h => by
    unfold oyezref01_Check_l3
    simp only [List.length_cons] at h
    by_cases hx : x = 1
    · rw [if_pos hx, gd_t (r64_small (by omega)), rcheck_l3 l (n + 1) (by omega) (by omega)]
      simp [cntH, hx]; omega
    · rw [if_neg hx, rcheck_l3 l n h0 (by omega)]
      simp [cntH, hx]
theorem rcheck_l2 (ps : List Int) (hn : ps.length ≤ 1000) : ∀ l : List Int, oyezref01_Check_l2 ps l = some (if l.all okP = true then (if 10 < (cntH ps : Int) then 2 else 0) else 3)
  | [] => by
    unfold oyezref01_Check_l2 oyezref01_Check_j1
    rw [rcheck_l3 ps 0 (by omega) (by omega), b1_some]
    simp; split <;> rfl
  | x :: l => by
    unfold oyezref01_Check_l2
    rw [off_eq, b1_some, rcheck_l2 ps hn l]
    by_cases h : 0 ≤ x ∧ x ≤ 2
    · have hk : okP x = true := decide_eq_true h
      rw [if_neg (dnf h)]; simp [hk]
    · have hk : okP x = false := decide_eq_false h
      rw [if_pos (decide_eq_true h)]; simp [hk]
theorem rcheck_eq {wide : Int} {ps : List Int} (hn : ps.length ≤ 1000) : oyezref01_Check wide ps = some (chk wide ps) := by
  unfold oyezref01_Check chk
  simp only [off_eq, b1_some]
  by_cases h1 : 1 ≤ wide ∧ wide ≤ 6
  · by_cases h2 : 1 ≤ (ps.length : Int) ∧ (ps.length : Int) ≤ 30
    · have hw : wide ≠ 0 := by omega
      have hm : Int.tmod (ps.length : Int) wide = (ps.length : Int) % wide := Int.tmod_eq_emod_of_nonneg (by omega)
      rw [if_neg (dnf h1), if_neg (dnf h2), gd_t hw, b1_some, hm]
      by_cases h3 : (ps.length : Int) % wide = 0
      · rw [if_neg (dnf h3), if_neg (fun h => h.elim (fun h => h.elim (fun h => h h1) (fun h => h h2)) (fun h => h h3)), rcheck_l2 ps hn]
        by_cases h4 : ps.all okP = true
        · rw [if_pos h4, if_neg (not_not_intro h4)]
        · rw [if_neg h4, if_pos h4]
      · rw [if_pos (decide_eq_true h3), if_pos (.inr h3)]
    · rw [if_neg (dnf h1), if_pos (decide_eq_true h2), b1_some, if_pos rfl, if_pos (.inl (.inr h2))]
  · rw [if_pos (decide_eq_true h1), b1_some, if_pos rfl, if_pos (.inl (.inl h1))]
theorem rcheckAir_eq (w v : Int) : oyezref01_CheckAir w v = some (chkA w v) := by
  unfold oyezref01_CheckAir chkA
  rw [off_eq, b1_some, off_eq, b1_some]
  by_cases h1 : 0 ≤ w ∧ w ≤ 4
  · rw [if_neg (dnf h1), b1_some]
    by_cases h2 : 1 ≤ v ∧ v ≤ 40
    · rw [if_neg (dnf h2), if_neg (fun h => h.elim (fun h => h h1) (fun h => h h2))]
    · rw [if_pos (decide_eq_true h2), if_pos (.inr h2)]
  · rw [if_pos (decide_eq_true h1), b1_some, if_pos rfl, if_pos (.inl h1)]
theorem ris_eq {wide : Int} {ps : List Int} (hn : ps.length ≤ 1000) (p kind : Int) : oyezref01_Is wide ps p kind = some (isE ps p kind) := by
  unfold oyezref01_Is isE
  rw [gd_t (r64_small (by omega)), off_eq, b1_some]
  by_cases h : 0 ≤ p ∧ p ≤ (ps.length : Int) - 1
  · rw [if_neg (dnf h), if_neg (not_not_intro h), ix_get _ (by omega) (by omega)]
    split <;> rfl
  · rw [if_pos (decide_eq_true h), if_pos h]
theorem rstand_eq {wide : Int} {ps : List Int} (hn : ps.length ≤ 1000) (w stand : Int) : oyezref01_Stand wide ps w stand = some (standE wide ps w stand) := by
  unfold oyezref01_Stand standE openE
  rw [rcheck_eq hn, b1_some]
  by_cases h1 : chk wide ps = 0
  · rw [if_neg (not_not_intro h1), off_eq, b1_some]
    by_cases h2 : 0 ≤ w ∧ w ≤ 4
    · rw [if_neg (dnf h2), ris_eq hn, b1_some]
      have : okW w := h2
      simp [h1, this]
    · rw [if_pos (decide_eq_true h2)]
      have : ¬ okW w := h2
      simp [h1, this]
  · rw [if_pos h1]; simp [h1]
def adjB (wide p q : Int) (s : Int × Int) : Bool := decide (q = p + s.1 * wide + s.2 ∧ (s.1 = 0 → q / wide = p / wide)) == decide (q / wide - p / wide = s.1 ∧ q % wide - p % wide = s.2)
theorem adj_all : ((List.range 7).all fun wide => wide == 0 || (List.range 30).all fun p => (List.range 30).all fun q => stepsL.all fun s => adjB wide p q s) = true := by decide +kernel
theorem adj {wide p q : Int} (hw : 1 ≤ wide ∧ wide ≤ 6) (hp : 0 ≤ p ∧ p < 30) (hq : 0 ≤ q ∧ q < 30) {s : Int × Int} (hs : s ∈ stepsL) : ((q = p + s.1 * wide + s.2 ∧ (s.1 = 0 → q / wide = p / wide)) ↔ (q / wide - p / wide = s.1 ∧ q % wide - p % wide = s.2)) := by
  have h1 := List.all_eq_true.1 adj_all wide.toNat (List.mem_range.2 (by omega))
  rw [Bool.or_eq_true] at h1
  have h2 := h1.resolve_left (by simp; omega)
  have h3 := List.all_eq_true.1 (List.all_eq_true.1 (List.all_eq_true.1 h2 p.toNat (List.mem_range.2 (by omega))) q.toNat (List.mem_range.2 (by omega))) s hs
  rw [Int.toNat_of_nonneg hp.1, Int.toNat_of_nonneg hq.1, Int.toNat_of_nonneg (show 0 ≤ wide by omega)] at h3
  unfold adjB at h3
  rw [beq_iff_eq, decide_eq_decide] at h3
  exact h3
theorem unit_all : ((List.range 61).all fun a => (List.range 61).all fun b => decide (((a : Int) - 30) * ((a : Int) - 30) + ((b : Int) - 30) * ((b : Int) - 30) = 1) == decide (((a : Int) - 30, (b : Int) - 30) ∈ stepsL)) = true := by decide +kernel
theorem unit {a b : Int} (ha : -30 ≤ a ∧ a ≤ 30) (hb : -30 ≤ b ∧ b ≤ 30) : (a * a + b * b = 1 ↔ (a, b) ∈ stepsL) := by
  have h1 := List.all_eq_true.1 (List.all_eq_true.1 unit_all (a + 30).toNat (List.mem_range.2 (by omega))) (b + 30).toNat (List.mem_range.2 (by omega))
  rw [beq_iff_eq, decide_eq_decide] at h1
  have e1 : (((a + 30).toNat : Nat) : Int) - 30 = a := by omega
  have e2 : (((b + 30).toNat : Nat) : Int) - 30 = b := by omega
  rw [e1, e2] at h1
  exact h1
/-- What the reference adds up for a step. -/
def refN (w d r kind : Int) : Int :=
  let al := if w = 1 then -d else if w = 2 then r else if w = 3 then d else if w = 4 then -r else 0
  let n := if al = 1 then 1 else 2
  (if al = -1 then 4 else n) + Int.tmod kind 2
theorem refN_all : ((List.range 5).all fun w => stepsL.all fun s => (List.range 2).all fun k => refN (w : Int) s.1 s.2 (k : Int) == needN (w : Int) s.1 s.2 (k : Int)) = true := by decide +kernel
theorem refN_eq {w k : Int} (hw : okW w) {s : Int × Int} (hs : s ∈ stepsL) (hk : 0 ≤ k ∧ k < 2) : refN w s.1 s.2 k = needN w s.1 s.2 k := by
  have h1 := List.all_eq_true.1 (List.all_eq_true.1 (List.all_eq_true.1 refN_all w.toNat (List.mem_range.2 (by unfold okW at hw; omega))) s hs) k.toNat (List.mem_range.2 (by omega))
  rw [beq_iff_eq, Int.toNat_of_nonneg hw.1, Int.toNat_of_nonneg hk.1] at h1
  exact h1
theorem mem_nextL {wide : Int} {ps : List Int} {w p q m : Int} : (q, m) ∈ nextL wide ps w p ↔ ∃ s ∈ stepsL, q = p + s.1 * wide + s.2 ∧ (0 ≤ q ∧ q ≤ (ps.length : Int) - 1) ∧ (s.1 = 0 → q / wide = p / wide) ∧ ps.getD q.toNat 0 ≠ 2 ∧ m = needN w s.1 s.2 (ps.getD q.toNat 0) := by
  unfold nextL
  rw [List.mem_filterMap]
  constructor
  · rintro ⟨s, hs, h⟩
    unfold nextOf at h
    split at h
    · cases h
    · rename_i hc
      simp only [Option.some.injEq, Prod.mk.injEq] at h
      obtain ⟨rfl, rfl⟩ := h
      refine ⟨s, hs, rfl, ?_, fun hz => ?_, fun h => hc (.inr h), rfl⟩
      · exact Classical.byContradiction fun h => hc (.inl (.inl h))
      · exact Classical.byContradiction fun h => hc (.inl (.inr ⟨hz, h⟩))
  · rintro ⟨s, hs, rfl, h1, h2, h3, rfl⟩
    refine ⟨s, hs, ?_⟩
    unfold nextOf
    rw [if_neg (fun h => h.elim (fun h => h.elim (fun h => h h1) (fun h => h.2 (h2 h.1))) h3)]
theorem step_spec {wide : Int} {ps : List Int} {w : Int} (ho : openE wide ps w = 0) {p q : Int} (hp : 0 ≤ p ∧ p < ps.length) (hq : 0 ≤ q ∧ q < ps.length) :
    ∃ v, oyezref01_Step wide ps w p q = some v ∧ (v = 0 ∨ (0 < v ∧ v ≤ 5 ∧ ps.getD p.toNat 0 ≠ 2 ∧ (q, v) ∈ nextL wide ps w p)) ∧ ∀ m, (q, m) ∈ nextL wide ps w p → ps.getD p.toNat 0 ≠ 2 → v = m := by
  obtain ⟨o1, o2, _, o4, o5, _⟩ := openE_ok ho
  have hqk : 0 ≤ ps.getD q.toNat 0 ∧ ps.getD q.toNat 0 ≤ 2 := o4 _ (by rw [List.getD_eq_getElem?_getD, List.getElem?_eq_getElem (by omega)]; exact List.getElem_mem _)
  unfold oyezref01_Step
  simp only [off_eq, b1_some]
  rw [gd_t (r64_small (by omega)), gd_t (r64_small (by omega)), if_neg (dnf ⟨hq.1, by omega⟩), if_neg (dnf ⟨hp.1, by omega⟩), ix_get _ hq.1 hq.2]
  have hdq : Int.tdiv q wide = q / wide := Int.tdiv_eq_ediv_of_nonneg hq.1
  have hdp : Int.tdiv p wide = p / wide := Int.tdiv_eq_ediv_of_nonneg hp.1
  have hmq : Int.tmod q wide = q % wide := Int.tmod_eq_emod_of_nonneg hq.1
  have hmp : Int.tmod p wide = p % wide := Int.tmod_eq_emod_of_nonneg hp.1
  have b1' : 0 ≤ q / wide ∧ q / wide ≤ 29 := ⟨Int.ediv_nonneg hq.1 (by omega), Int.le_trans (Int.ediv_le_self _ hq.1) (by omega)⟩
  have b2' : 0 ≤ p / wide ∧ p / wide ≤ 29 := ⟨Int.ediv_nonneg hp.1 (by omega), Int.le_trans (Int.ediv_le_self _ hp.1) (by omega)⟩
  have b3' : 0 ≤ q % wide ∧ q % wide < wide := ⟨Int.emod_nonneg _ (by omega), Int.emod_lt_of_pos _ (by omega)⟩
  have b4' : 0 ≤ p % wide ∧ p % wide < wide := ⟨Int.emod_nonneg _ (by omega), Int.emod_lt_of_pos _ (by omega)⟩
  by_cases h2 : ps.getD q.toNat 0 = 2
  · rw [if_pos h2, b1_some, if_pos rfl]
    refine ⟨0, rfl, .inl rfl, fun m hm _ => ?_⟩
    obtain ⟨s, _, _, _, _, h, _⟩ := mem_nextL.1 hm
    exact absurd h2 h
  rw [if_neg h2, ix_get _ hp.1 hp.2, b1_some]
  by_cases h3 : ps.getD p.toNat 0 = 2
  · rw [if_pos (decide_eq_true h3)]
    exact ⟨0, rfl, .inl rfl, fun m _ h => absurd h3 h⟩
  rw [if_neg (fun hc => h3 (of_decide_eq_true hc)), hdq, hdp, hmq, hmp]
  simp only [bv]
  rw [gd_t ⟨by omega, r64_small (by omega)⟩, gd_t ⟨by omega, r64_small (by omega)⟩, gd_t (r64_small (by omega)), gd_t (by omega), gd_t (by omega), gd_t (r64_small (by omega))]
  generalize hd : q / wide - p / wide = d
  generalize hr : q % wide - p % wide = r
  have hdr : -30 ≤ d ∧ d ≤ 30 := by omega
  have hrr : -30 ≤ r ∧ r ≤ 30 := by omega
  have sq : ∀ x : Int, -30 ≤ x ∧ x ≤ 30 → 0 ≤ x * x ∧ x * x ≤ 900 := fun x hx => by
    refine ⟨?_, ?_⟩
    · rcases Int.le_total 0 x with h | h
      · exact Int.mul_nonneg h h
      · exact Int.mul_nonneg_of_nonpos_of_nonpos h h
    · rcases Int.le_total 0 x with h | h
      · exact Int.le_trans (Int.mul_le_mul hx.2 hx.2 h (by omega)) (by omega)
      · have := Int.mul_le_mul (show -x ≤ 30 by omega) (show -x ≤ 30 by omega) (by omega) (by omega)
        rw [Int.neg_mul_neg] at this; omega
  have s1 := sq d hdr
  have s2 := sq r hrr
  rw [gd_t (r64_small (by omega)), gd_t (r64_small (by omega)), gd_t (r64_small (by omega))]
  by_cases hu : d * d + r * r = 1
  · rw [if_neg (not_not_intro hu)]
    have hs : (d, r) ∈ stepsL := (unit hdr hrr).1 hu
    obtain ⟨hq1, hq2⟩ := (adj o1 (by omega) (by omega) hs).2 ⟨hd, hr⟩
    have hk : 0 ≤ ps.getD q.toNat 0 ∧ ps.getD q.toNat 0 < 2 := by omega
    have hval : (b1 (if w = 1 then
        (gd (R64 (-d)) <|
        some (-d))
        else
        (if w = 2 then
        (some r)
        else
        (if w = 3 then
        (some d)
        else
        (if w = 4 then
        (gd (R64 (-r)) <|
        some (-r))
        else
        (some 0))))) fun along =>
        b1 (if along = 1 then
        (some 1)
        else
        (some 2)) fun n =>
        b1 (if along = (-1) then
        (some 4)
        else
        (some n)) fun n2 =>
        ix ps q fun x3 =>
        gd (R64 (n2 + (Int.tmod x3 2))) <|
        some (n2 + (Int.tmod x3 2))) = some (refN w d r (ps.getD q.toNat 0)) := by
      rw [gd_t (r64_small (by omega)), gd_t (r64_small (by omega))]
      have e1 : (if w = 1 then some (-d) else if w = 2 then some r else if w = 3 then some d else if w = 4 then some (-r) else some 0) = some (if w = 1 then -d else if w = 2 then r else if w = 3 then d else if w = 4 then -r else 0) := by
        repeat' split
        all_goals rfl
      have e2 : ∀ al : Int, (if al = 1 then some (1 : Int) else some 2) = some (if al = 1 then 1 else 2) := fun al => by split <;> rfl
      have e3 : ∀ al n : Int, (if al = -1 then some (4 : Int) else some n) = some (if al = -1 then 4 else n) := fun al n => by split <;> rfl
      simp only [e1, e2, e3, b1_some]
      rw [ix_get _ hq.1 hq.2]
      unfold refN
      generalize (if w = 1 then -d else if w = 2 then r else if w = 3 then d else if w = 4 then -r else 0) = al
      have ht : Int.tmod (ps.getD q.toNat 0) 2 = ps.getD q.toNat 0 % 2 := Int.tmod_eq_emod_of_nonneg hk.1
      rw [ht, gd_t (r64_small (by repeat' split; all_goals omega))]
    rw [hval, refN_eq o5 hs hk]
    have hrng := needN_rng w d r (ps.getD q.toNat 0)
    have hmem : (q, needN w d r (ps.getD q.toNat 0)) ∈ nextL wide ps w p := mem_nextL.2 ⟨(d, r), hs, hq1, ⟨hq.1, by omega⟩, hq2, h2, rfl⟩
    refine ⟨_, rfl, .inr ⟨by show 0 < needN w d r _; omega, hrng.2, h3, hmem⟩, fun m hm _ => ?_⟩
    obtain ⟨s, hs', e1, _, e2, _, e3⟩ := mem_nextL.1 hm
    obtain ⟨e4, e5⟩ := (adj o1 (by omega) (by omega) hs').1 ⟨e1, e2⟩
    rw [e3, ← e4, ← e5, hd, hr]
  · rw [if_pos hu]
    refine ⟨0, rfl, .inl rfl, fun m hm _ => ?_⟩
    obtain ⟨s, hs', e1, _, e2, _, e3⟩ := mem_nextL.1 hm
    obtain ⟨e4, e5⟩ := (adj o1 (by omega) (by omega) hs').1 ⟨e1, e2⟩
    exfalso
    refine hu ((unit hdr hrr).2 ?_)
    rw [← hd, ← hr, e4, e5]; exact hs'
end Go.Proofs.YtejkgppikpkkpaaGreat
