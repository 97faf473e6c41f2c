/- Layer 1: what the printed functions of the reference compute. -/
import Derived.Test.YtkfbbjiniapooaaGreatZSMA
namespace Go.Proofs.YtkfbbjiniapooaaGreat
open Go.PL Go.Hear
theorem UW {p : Prop} [Decidable p] (h : p) : ¬ decide (¬ p) = true := by simp [h]
theorem MD (n lo hi : Int) : Cr n lo hi = some (decide (¬ (lo ≤ n ∧ n ≤ hi))) := by
  unfold Cr
  by_cases h : n < lo
  · rw [if_pos h, decide_eq_true (show ¬ (lo ≤ n ∧ n ≤ hi) by omega)]
  · rw [if_neg h]; congr 1; rw [decide_eq_decide]; omega
theorem NT : ∀ (l : List Int) (n : Int), 0 ≤ n → n + l.length ≤ 1000000 → CN l n = some (n + (Ms l : Int))
  | [], n, _, _ => by simp [CN, Ms]
  | x :: l, n, h0, h => by
    unfold CN
    simp only [List.length_cons] at h
    by_cases hx : x = 1
    · rw [if_pos hx, BF (AT (by omega)), NT l (n + 1) (by omega) (by omega)]
      simp [Ms, hx]; omega
    · rw [if_neg hx, NT l n h0 (by omega)]
      simp [Ms, hx]
theorem PQ (ps : List Int) (hn : ps.length ≤ 1000) : ∀ l : List Int, Dg ps l = some (if l.all VS = true then (if 10 < (Ms ps : Int) then 2 else 0) else 3)
  | [] => by
    unfold Dg GH
    rw [NT ps 0 (by omega) (by omega), Ax]
    simp; split <;> rfl
  | x :: l => by
    unfold Dg
    rw [MD, Ax, PQ ps hn l]
    by_cases h : 0 ≤ x ∧ x ≤ 2
    · have hk : VS x = true := decide_eq_true h
      rw [if_neg (UW h)]; simp [hk]
    · have hk : VS x = false := decide_eq_false h
      rw [if_pos (decide_eq_true h)]; simp [hk]
theorem Qb {wide : Int} {ps : List Int} (hn : ps.length ≤ 1000) : CR wide ps = some (PU wide ps) := by
  unfold CR PU
  simp only [MD, Ax]
  by_cases h1 : 1 ≤ wide ∧ wide ≤ 6
  · by_cases h2 : 1 ≤ (ps.length : Int) ∧ (ps.length : Int) ≤ 30
    · have hw : wide ≠ 0 := by omega
      have hm : Int.tmod (ps.length : Int) wide = (ps.length : Int) % wide := Int.tmod_eq_emod_of_nonneg (by omega)
      rw [if_neg (UW h1), if_neg (UW h2), BF hw, Ax, hm]
      by_cases h3 : (ps.length : Int) % wide = 0
      · rw [if_neg (UW h3), if_neg (fun h => h.elim (fun h => h.elim (fun h => h h1) (fun h => h h2)) (fun h => h h3)), PQ ps hn]
        by_cases h4 : ps.all VS = true
        · rw [if_pos h4, if_neg (not_not_intro h4)]
        · rw [if_neg h4, if_pos h4]
      · rw [if_pos (decide_eq_true h3), if_pos (.inr h3)]
    · rw [if_neg (UW h1), if_pos (decide_eq_true h2), Ax, if_pos rfl, if_pos (.inl (.inr h2))]
  · rw [if_pos (decide_eq_true h1), Ax, if_pos rfl, if_pos (.inl (.inl h1))]
theorem Ql (w v : Int) : Da w v = some (PJ w v) := by
  unfold Da PJ
  rw [MD, Ax, MD, Ax]
  by_cases h1 : 0 ≤ w ∧ w ≤ 4
  · rw [if_neg (UW h1), Ax]
    by_cases h2 : 1 ≤ v ∧ v ≤ 40
    · rw [if_neg (UW h2), if_neg (fun h => h.elim (fun h => h h1) (fun h => h h2))]
    · rw [if_pos (decide_eq_true h2), if_pos (.inr h2)]
  · rw [if_pos (decide_eq_true h1), Ax, if_pos rfl, if_pos (.inl h1)]
theorem UZ {wide : Int} {ps : List Int} (hn : ps.length ≤ 1000) (p kind : Int) : DE wide ps p kind = some (PZ ps p kind) := by
  unfold DE PZ
  rw [BF (AT (by omega)), MD, Ax]
  by_cases h : 0 ≤ p ∧ p ≤ (ps.length : Int) - 1
  · rw [if_neg (UW h), if_neg (not_not_intro h), FH _ (by omega) (by omega)]
    split <;> rfl
  · rw [if_pos (decide_eq_true h), if_pos h]
theorem TL {wide : Int} {ps : List Int} (hn : ps.length ≤ 1000) (w stand : Int) : FK wide ps w stand = some (La wide ps w stand) := by
  unfold FK La FT
  rw [Qb hn, Ax]
  by_cases h1 : PU wide ps = 0
  · rw [if_neg (not_not_intro h1), MD, Ax]
    by_cases h2 : 0 ≤ w ∧ w ≤ 4
    · rw [if_neg (UW h2), UZ hn, Ax]
      have : okW w := h2
      simp [h1, this]
    · rw [if_pos (decide_eq_true h2)]
      have : ¬ okW w := h2
      simp [h1, this]
  · rw [if_pos h1]; simp [h1]
def Xs (wide p q : Int) (s : Int × Int) : Bool := decide (q = p + s.1 * wide + s.2 ∧ (s.1 = 0 → q / wide = p / wide)) == decide (q / wide - p / wide = s.1 ∧ q % wide - p % wide = s.2)
theorem VN : ((List.range 7).all fun wide => wide == 0 || (List.range 30).all fun p => (List.range 30).all fun q => Jn.all fun s => Xs wide p q s) = true := by decide +kernel
theorem Yq {wide p q : Int} (hw : 1 ≤ wide ∧ wide ≤ 6) (hp : 0 ≤ p ∧ p < 30) (hq : 0 ≤ q ∧ q < 30) {s : Int × Int} (hs : s ∈ Jn) : ((q = p + s.1 * wide + s.2 ∧ (s.1 = 0 → q / wide = p / wide)) ↔ (q / wide - p / wide = s.1 ∧ q % wide - p % wide = s.2)) := by
  have h1 := List.all_eq_true.1 VN wide.toNat (List.mem_range.2 (by omega))
  rw [Bool.or_eq_true] at h1
  have h2 := h1.resolve_left (by simp; omega)
  have h3 := List.all_eq_true.1 (List.all_eq_true.1 (List.all_eq_true.1 h2 p.toNat (List.mem_range.2 (by omega))) q.toNat (List.mem_range.2 (by omega))) s hs
  rw [Int.toNat_of_nonneg hp.1, Int.toNat_of_nonneg hq.1, Int.toNat_of_nonneg (show 0 ≤ wide by omega)] at h3
  unfold Xs at h3
  rw [beq_iff_eq, decide_eq_decide] at h3
  exact h3
theorem U6 : ((List.range 61).all fun a => (List.range 61).all fun b => decide (((a : Int) - 30) * ((a : Int) - 30) + ((b : Int) - 30) * ((b : Int) - 30) = 1) == decide (((a : Int) - 30, (b : Int) - 30) ∈ Jn)) = true := by decide +kernel
theorem unit {a b : Int} (ha : -30 ≤ a ∧ a ≤ 30) (hb : -30 ≤ b ∧ b ≤ 30) : (a * a + b * b = 1 ↔ (a, b) ∈ Jn) := by
  have h1 := List.all_eq_true.1 (List.all_eq_true.1 U6 (a + 30).toNat (List.mem_range.2 (by omega))) (b + 30).toNat (List.mem_range.2 (by omega))
  rw [beq_iff_eq, decide_eq_decide] at h1
  have e1 : (((a + 30).toNat : Nat) : Int) - 30 = a := by omega
  have e2 : (((b + 30).toNat : Nat) : Int) - 30 = b := by omega
  rw [e1, e2] at h1
  exact h1
def Vx (w d r kind : Int) : Int :=
  let al := if w = 1 then -d else if w = 2 then r else if w = 3 then d else if w = 4 then -r else 0
  let n := if al = 1 then 1 else 2
  (if al = -1 then 4 else n) + Int.tmod kind 2
theorem Uk : ((List.range 5).all fun w => Jn.all fun s => (List.range 2).all fun k => Vx (w : Int) s.1 s.2 (k : Int) == KM (w : Int) s.1 s.2 (k : Int)) = true := by decide +kernel
theorem VM {w k : Int} (hw : okW w) {s : Int × Int} (hs : s ∈ Jn) (hk : 0 ≤ k ∧ k < 2) : Vx w s.1 s.2 k = KM w s.1 s.2 k := by
  have h1 := List.all_eq_true.1 (List.all_eq_true.1 (List.all_eq_true.1 Uk w.toNat (List.mem_range.2 (by unfold okW at hw; omega))) s hs) k.toNat (List.mem_range.2 (by omega))
  rw [beq_iff_eq, Int.toNat_of_nonneg hw.1, Int.toNat_of_nonneg hk.1] at h1
  exact h1
theorem KF {wide : Int} {ps : List Int} {w p q m : Int} : (q, m) ∈ Hf wide ps w p ↔ ∃ s ∈ Jn, q = p + s.1 * wide + s.2 ∧ (0 ≤ q ∧ q ≤ (ps.length : Int) - 1) ∧ (s.1 = 0 → q / wide = p / wide) ∧ ps.getD q.toNat 0 ≠ 2 ∧ m = KM w s.1 s.2 (ps.getD q.toNat 0) := by
  unfold Hf
  rw [List.mem_filterMap]
  constructor
  · rintro ⟨s, hs, h⟩
    unfold Hi at h
    split at h
    · cases h
    · rename_i hc
      simp only [Option.some.injEq, Prod.mk.injEq] at h
      obtain ⟨rfl, rfl⟩ := h
      refine ⟨s, hs, rfl, ?_, fun hz => ?_, fun h => hc (.inr h), rfl⟩
      · exact Classical.byContradiction fun h => hc (.inl (.inl h))
      · exact Classical.byContradiction fun h => hc (.inl (.inr ⟨hz, h⟩))
  · rintro ⟨s, hs, rfl, h1, h2, h3, rfl⟩
    refine ⟨s, hs, ?_⟩
    unfold Hi
    rw [if_neg (fun h => h.elim (fun h => h.elim (fun h => h h1) (fun h => h.2 (h2 h.1))) h3)]
theorem TU {wide : Int} {ps : List Int} {w : Int} (ho : FT wide ps w = 0) {p q : Int} (hp : 0 ≤ p ∧ p < ps.length) (hq : 0 ≤ q ∧ q < ps.length) :
    ∃ v, Fu wide ps w p q = some v ∧ (v = 0 ∨ (0 < v ∧ v ≤ 5 ∧ ps.getD p.toNat 0 ≠ 2 ∧ (q, v) ∈ Hf wide ps w p)) ∧ ∀ m, (q, m) ∈ Hf wide ps w p → ps.getD p.toNat 0 ≠ 2 → v = m := by
  obtain ⟨o1, o2, _, o4, o5, _⟩ := Fs ho
  have au : 0 ≤ ps.getD q.toNat 0 ∧ ps.getD q.toNat 0 ≤ 2 := o4 _ (by rw [List.getD_eq_getElem?_getD, List.getElem?_eq_getElem (by omega)]; exact List.getElem_mem _)
  unfold Fu
  simp only [MD, Ax]
  rw [BF (AT (by omega)), BF (AT (by omega)), if_neg (UW ⟨hq.1, by omega⟩), if_neg (UW ⟨hp.1, by omega⟩), FH _ hq.1 hq.2]
  have ai : Int.tdiv q wide = q / wide := Int.tdiv_eq_ediv_of_nonneg hq.1
  have aj : Int.tdiv p wide = p / wide := Int.tdiv_eq_ediv_of_nonneg hp.1
  have ak : Int.tmod q wide = q % wide := Int.tmod_eq_emod_of_nonneg hq.1
  have ao : Int.tmod p wide = p % wide := Int.tmod_eq_emod_of_nonneg hp.1
  have av : 0 ≤ q / wide ∧ q / wide ≤ 29 := ⟨Int.ediv_nonneg hq.1 (by omega), Int.le_trans (Int.ediv_le_self _ hq.1) (by omega)⟩
  have aw : 0 ≤ p / wide ∧ p / wide ≤ 29 := ⟨Int.ediv_nonneg hp.1 (by omega), Int.le_trans (Int.ediv_le_self _ hp.1) (by omega)⟩
  have ax : 0 ≤ q % wide ∧ q % wide < wide := ⟨Int.emod_nonneg _ (by omega), Int.emod_lt_of_pos _ (by omega)⟩
  have ay : 0 ≤ p % wide ∧ p % wide < wide := ⟨Int.emod_nonneg _ (by omega), Int.emod_lt_of_pos _ (by omega)⟩
  by_cases h2 : ps.getD q.toNat 0 = 2
  · rw [if_pos h2, Ax, if_pos rfl]
    refine ⟨0, rfl, .inl rfl, fun m hm _ => ?_⟩
    obtain ⟨s, _, _, _, _, h, _⟩ := KF.1 hm
    exact absurd h2 h
  rw [if_neg h2, FH _ hp.1 hp.2, Ax]
  by_cases h3 : ps.getD p.toNat 0 = 2
  · rw [if_pos (decide_eq_true h3)]
    exact ⟨0, rfl, .inl rfl, fun m _ h => absurd h3 h⟩
  rw [if_neg (fun hc => h3 (of_decide_eq_true hc)), ai, aj, ak, ao]
  simp only [bv]
  rw [BF ⟨by omega, AT (by omega)⟩, BF ⟨by omega, AT (by omega)⟩, BF (AT (by omega)), BF (by omega), BF (by omega), BF (AT (by omega))]
  generalize hd : q / wide - p / wide = d
  generalize hr : q % wide - p % wide = r
  have ab : -30 ≤ d ∧ d ≤ 30 := by omega
  have ad : -30 ≤ r ∧ r ≤ 30 := by omega
  have sq : ∀ x : Int, -30 ≤ x ∧ x ≤ 30 → 0 ≤ x * x ∧ x * x ≤ 900 := fun x hx => by
    refine ⟨?_, ?_⟩
    · rcases Int.le_total 0 x with h | h
      · exact Int.mul_nonneg h h
      · exact Int.mul_nonneg_of_nonpos_of_nonpos h h
    · rcases Int.le_total 0 x with h | h
      · exact Int.le_trans (Int.mul_le_mul hx.2 hx.2 h (by omega)) (by omega)
      · have := Int.mul_le_mul (show -x ≤ 30 by omega) (show -x ≤ 30 by omega) (by omega) (by omega)
        rw [Int.neg_mul_neg] at this; omega
  have s1 := sq d ab
  have s2 := sq r ad
  rw [BF (AT (by omega)), BF (AT (by omega)), BF (AT (by omega))]
  by_cases hu : d * d + r * r = 1
  · rw [if_neg (not_not_intro hu)]
    have hs : (d, r) ∈ Jn := (unit ab ad).1 hu
    obtain ⟨aq, ar⟩ := (Yq o1 (by omega) (by omega) hs).2 ⟨hd, hr⟩
    have hk : 0 ≤ ps.getD q.toNat 0 ∧ ps.getD q.toNat 0 < 2 := by omega
    have ae : (b1 (if w = 1 then
        (gd (Cm (-d)) <|
        some (-d))
        else
        (if w = 2 then
        (some r)
        else
        (if w = 3 then
        (some d)
        else
        (if w = 4 then
        (gd (Cm (-r)) <|
        some (-r))
        else
        (some 0))))) fun along =>
        b1 (if along = 1 then
        (some 1)
        else
        (some 2)) fun n =>
        b1 (if along = (-1) then
        (some 4)
        else
        (some n)) fun n2 =>
        ix ps q fun x3 =>
        gd (Cm (n2 + (Int.tmod x3 2))) <|
        some (n2 + (Int.tmod x3 2))) = some (Vx w d r (ps.getD q.toNat 0)) := by
      rw [BF (AT (by omega)), BF (AT (by omega))]
      have e1 : (if w = 1 then some (-d) else if w = 2 then some r else if w = 3 then some d else if w = 4 then some (-r) else some 0) = some (if w = 1 then -d else if w = 2 then r else if w = 3 then d else if w = 4 then -r else 0) := by
        repeat' split
        all_goals rfl
      have e2 : ∀ al : Int, (if al = 1 then some (1 : Int) else some 2) = some (if al = 1 then 1 else 2) := fun al => by split <;> rfl
      have e3 : ∀ al n : Int, (if al = -1 then some (4 : Int) else some n) = some (if al = -1 then 4 else n) := fun al n => by split <;> rfl
      simp only [e1, e2, e3, Ax]
      rw [FH _ hq.1 hq.2]
      unfold Vx
      generalize (if w = 1 then -d else if w = 2 then r else if w = 3 then d else if w = 4 then -r else 0) = al
      have ht : Int.tmod (ps.getD q.toNat 0) 2 = ps.getD q.toNat 0 % 2 := Int.tmod_eq_emod_of_nonneg hk.1
      rw [ht, BF (AT (by repeat' split; all_goals omega))]
    rw [ae, VM o5 hs hk]
    have af := P5 w d r (ps.getD q.toNat 0)
    have ah : (q, KM w d r (ps.getD q.toNat 0)) ∈ Hf wide ps w p := KF.2 ⟨(d, r), hs, aq, ⟨hq.1, by omega⟩, ar, h2, rfl⟩
    refine ⟨_, rfl, .inr ⟨by show 0 < KM w d r _; omega, af.2, h3, ah⟩, fun m hm _ => ?_⟩
    obtain ⟨s, aa, e1, _, e2, _, e3⟩ := KF.1 hm
    obtain ⟨e4, e5⟩ := (Yq o1 (by omega) (by omega) aa).1 ⟨e1, e2⟩
    rw [e3, ← e4, ← e5, hd, hr]
  · rw [if_pos hu]
    refine ⟨0, rfl, .inl rfl, fun m hm _ => ?_⟩
    obtain ⟨s, aa, e1, _, e2, _, e3⟩ := KF.1 hm
    obtain ⟨e4, e5⟩ := (Yq o1 (by omega) (by omega) aa).1 ⟨e1, e2⟩
    exfalso
    refine hu ((unit ab ad).2 ?_)
    rw [← hd, ← hr, e4, e5]; exact aa
end Go.Proofs.YtkfbbjiniapooaaGreat
namespace Go.Proofs.YtkfbbjiniapooaaGreat
open Go.PL Go.Hear
theorem Pk.Xe {wide : Int} {ps : List Int} {w s : Int} (hs : ps.getD s.toNat 0 ≠ 2) {p d : Int} (h : Pk (Hf wide ps w) s p d) : ps.getD p.toNat 0 ≠ 2 := by
  cases h with
  | here => exact hs
  | step _ h2 =>
    obtain ⟨_, _, _, _, _, h, _⟩ := KF.1 h2
    exact h
section
variable {n : Nat} {E : Int → List (Int × Int)} {s : Int}
theorem better (hE : Tz n E) {p q m : Int} (hp : 0 ≤ p ∧ p < n) (hx : (q, m) ∈ E p) {out : List Int} (hW : Wk n E s out) (ab : EV out p ≠ -1) (hc : EV out q = -1 ∨ EV out p + m < EV out q) :
    Wk n E s (out.set q.toNat (EV out p + m)) ∧ mu n (out.set q.toNat (EV out p + m)) < mu n out := by
  let line := ((List.range n).map Int.ofNat).filter fun x => EV out x ≠ -1
  have aa : ∀ p' : Int, 0 ≤ p' → p' < n → EV out p' ≠ -1 → p' ∈ line := fun p' h0 h1 h2 =>
    List.mem_filter.2 ⟨List.mem_map.2 ⟨p'.toNat, List.mem_range.2 (by omega), by show ((p'.toNat : Nat) : Int) = p'; omega⟩, by simpa using h2⟩
  have hL : Ln n out line := ⟨fun p' ad => by
    obtain ⟨h1, h2⟩ := List.mem_filter.1 ad
    obtain ⟨k, h3, rfl⟩ := List.mem_map.1 h1
    have := List.mem_range.1 h3
    exact ⟨⟨Int.natCast_nonneg k, by show ((k : Nat) : Int) < n; omega⟩, by simpa using h2⟩⟩
  obtain ⟨h1, _, _, _, h5⟩ := RO hE hp hx hW hL ab (pre := []) (fun y hy => by simp at hy) (fun p' h0 h1 h2 => .inl (aa p' h0 h1 h2))
  have e : Jb p (out, line) (q, m) = (out.set q.toNat (EV out p + m), line ++ [q]) := if_pos hc
  rw [e] at h1 h5
  simp only [List.length_append, List.length_singleton] at h5
  exact ⟨h1, by omega⟩
end
theorem TN (n : Nat) (hn : n ≤ 1000) (fu : Nat) : ∀ k : Nat, k ≤ n → n - k < fu → Dc fu (IK n k) (k : Int) = some (IK n n) := by
  induction fu with
  | zero => intro k hk h; omega
  | succ fu ih =>
    intro k hk h
    unfold Dc
    have hl : (IK n k).length = n := by simp [IK]; omega
    by_cases aa : k = n
    · subst aa
      rw [if_neg (by rw [hl]; omega)]
    · rw [if_pos (by rw [hl]; omega), FH _ (by omega) (by rw [hl]; omega)]
      rw [Nx]
      rw [BF (AT (by omega)), show (k : Int).toNat = k from rfl, Qf (by omega)]
      exact ih (k + 1) (by omega) (by omega)
def UG (wide : Int) (ps : List Int) (w : Int) (out : List Int) (p q : Int) : Prop := EV out p ≠ -1 → ∀ m, (q, m) ∈ Hf wide ps w p → LN out p (q, m)
section
variable {wide : Int} {ps : List Int} {w s : Int}
theorem NP (ho : FT wide ps w = 0) (hs : ps.getD s.toNat 0 ≠ 2) {p : Int} (hp : 0 ≤ p ∧ p < ps.length) : ∀ (fu : Nat) (out : List Int) (ch : Bool) (q : Nat), q ≤ ps.length → ps.length - q < fu → Wk ps.length (Hf wide ps w) s out →
    ∃ aa ab, Di wide ps w p fu out ch (q : Int) = some (aa, ab) ∧ Wk ps.length (Hf wide ps w) s aa ∧
      ((ab = ch ∧ aa = out ∧ ∀ q' : Int, (q : Int) ≤ q' → q' < ps.length → UG wide ps w out p q') ∨ (ab = true ∧ mu ps.length aa < mu ps.length out))
  | 0, _, _, _, _, h, _ => by omega
  | fu + 1, out, ch, q, hq, h, hW => by
    have hn := (Fs ho).2.1
    have hl := hW.len
    unfold Di
    by_cases ai : q = ps.length
    · subst ai
      rw [if_neg (by rw [hl]; omega)]
      exact ⟨out, ch, rfl, hW, .inl ⟨rfl, rfl, fun q' h1 h2 => by omega⟩⟩
    · have ad : 0 ≤ (q : Int) ∧ (q : Int) < ps.length := by omega
      obtain ⟨v, hv, af, aj⟩ := TU ho hp ad
      rw [if_pos (by rw [hl]; omega), hv, Ax]
      have r1 := hW.Wq hp.1 hp.2
      have r2 := hW.Wq ad.1 ad.2
      have ao : 0 ≤ v ∧ v ≤ 5 := by rcases af with rfl | af <;> omega
      -- what is decided
      have ae : (if 0 < v then
          (ix out p fun x3 =>
          if 0 ≤ x3 then
          (ix out (q : Int) fun x4 =>
          if x4 < 0 then
          (some true)
          else
          (gd (Cm (x3 + v)) <|
          some (decide ((x3 + v) < x4))))
          else
          (some false))
          else
          (some false)) = some (decide (0 < v ∧ EV out p ≠ -1 ∧ (EV out q = -1 ∨ EV out p + v < EV out q))) := by
        unfold EV
        rw [FH _ hp.1 (by rw [hl]; exact hp.2), FH _ ad.1 (by rw [hl]; exact ad.2), BF (AT (by omega))]
        by_cases c0 : 0 < v
        · rw [if_pos c0]
          by_cases c1 : 0 ≤ out.getD p.toNat 0
          · rw [if_pos c1]
            by_cases c2 : out.getD (q : Int).toNat 0 < 0
            · rw [if_pos c2, decide_eq_true ⟨c0, by omega, .inl (by omega)⟩]
            · rw [if_neg c2]; congr 1; rw [decide_eq_decide]; omega
          · rw [if_neg c1, decide_eq_false (by omega)]
        · rw [if_neg c0, decide_eq_false (fun h => c0 h.1)]
      rw [ae, Ax, FH _ hp.1 (by rw [hl]; exact hp.2), FH _ ad.1 (by rw [hl]; exact ad.2), BF (AT (by omega))]
      rw [Nx]
      rw [BF (AT (x := (q : Int) + 1) (by omega)), BF (AT (x := (q : Int) + 1) (by omega)), show ((q : Int) + 1) = ((q + 1 : Nat) : Int) from rfl]
      by_cases hc : 0 < v ∧ EV out p ≠ -1 ∧ (EV out q = -1 ∨ EV out p + v < EV out q)
      · rw [if_pos (decide_eq_true hc)]
        have hE := JM ho
        have hm := (af.resolve_left (by omega)).2.2.2
        obtain ⟨h1, h2⟩ := better hE hp hm hW hc.2.1 hc.2.2
        obtain ⟨aa, ab, h3, h4, h5⟩ := NP ho hs hp fu _ true (q + 1) (by omega) (by omega) h1
        refine ⟨aa, ab, h3, h4, .inr ?_⟩
        rcases h5 with ⟨rfl, rfl, _⟩ | ⟨rfl, h6⟩
        · exact ⟨rfl, h2⟩
        · exact ⟨rfl, Nat.lt_trans h6 h2⟩
      · rw [if_neg (fun h => hc (of_decide_eq_true h))]
        obtain ⟨aa, ab, h3, h4, h5⟩ := NP ho hs hp fu out ch (q + 1) (by omega) (by omega) hW
        refine ⟨aa, ab, h3, h4, ?_⟩
        rcases h5 with ⟨rfl, rfl, h6⟩ | h6
        · refine .inl ⟨rfl, rfl, fun q' h7 h8 => ?_⟩
          by_cases he : q' = q
          · subst he
            intro ah m hm
            have ak : ps.getD p.toNat 0 ≠ 2 := by
              rcases hW.ge p hp.1 hp.2 with h9 | h9
              · exact absurd h9 ah
              · exact Pk.Xe hs h9.2.2
            have e := aj m hm ak
            subst e
            have hE := JM ho p _ _ hm
            show EV aa (q : Int) ≠ -1 ∧ EV aa (q : Int) ≤ EV aa p + v
            refine ⟨fun h => hc ⟨by omega, ah, .inl h⟩, ?_⟩
            exact Int.not_lt.1 fun h => hc ⟨by omega, ah, .inr h⟩
          · exact h6 q' (by omega) h8
        · exact .inr h6
theorem Qh (ho : FT wide ps w = 0) (hs : ps.getD s.toNat 0 ≠ 2) (ab : List Int → Bool → Option (List Int)) : ∀ (fu : Nat) (out : List Int) (ch : Bool) (p : Nat), p ≤ ps.length → ps.length - p < fu → Wk ps.length (Hf wide ps w) s out →
    ∃ aa ad, DM wide ps w ab fu out ch (p : Int) = ab aa ad ∧ Wk ps.length (Hf wide ps w) s aa ∧
      ((ad = ch ∧ aa = out ∧ ∀ p' : Int, (p : Int) ≤ p' → p' < ps.length → ∀ q' : Int, 0 ≤ q' → q' < ps.length → UG wide ps w out p' q') ∨ (ad = true ∧ mu ps.length aa < mu ps.length out))
  | 0, _, _, _, _, h, _ => by omega
  | fu + 1, out, ch, p, hp, h, hW => by
    have hn := (Fs ho).2.1
    have hl := hW.len
    unfold DM
    by_cases af : p = ps.length
    · subst af
      rw [if_neg (by rw [hl]; omega)]
      exact ⟨out, ch, rfl, hW, .inl ⟨rfl, rfl, fun q' h1 h2 => by omega⟩⟩
    · obtain ⟨o1, c1, h1, h2, h3⟩ := NP ho hs (p := (p : Int)) (by omega) FU out ch 0 (by omega) (by unfold FU; omega) hW
      rw [if_pos (by rw [hl]; omega), show (0 : Int) = ((0 : Nat) : Int) from rfl, h1, Dt, BF (AT (by omega))]
      obtain ⟨o2, c2, h4, h5, h6⟩ := Qh ho hs ab fu o1 c1 (p + 1) (by omega) (by omega) h2
      refine ⟨o2, c2, h4, h5, ?_⟩
      rcases h3 with ⟨rfl, rfl, h3⟩ | ⟨rfl, h3⟩
      · rcases h6 with ⟨rfl, rfl, h6⟩ | h6
        · refine .inl ⟨rfl, rfl, fun p' h7 h8 q' h9 ae => ?_⟩
          by_cases he : p' = p
          · subst he; exact h3 q' (by omega) ae
          · exact h6 p' (by omega) h8 q' h9 ae
        · exact .inr h6
      · rcases h6 with ⟨rfl, rfl, _⟩ | ⟨rfl, h6⟩
        · exact .inr ⟨rfl, h3⟩
        · exact .inr ⟨rfl, Nat.lt_trans h6 h3⟩
theorem PX (ho : FT wide ps w = 0) (hs : ps.getD s.toNat 0 ≠ 2) : ∀ (fu : Nat) (out : List Int), Wk ps.length (Hf wide ps w) s out → mu ps.length out + 1 < fu →
    ∃ t, Co wide ps w fu out true = some t ∧ RK ps.length (Hf wide ps w) s t
  | 0, _, _, h => by omega
  | fu + 1, out, hW, h => by
    have hn := (Fs ho).2.1
    unfold Co
    rw [if_pos rfl]
    obtain ⟨o2, c2, h4, h5, h6⟩ := Qh ho hs (Co wide ps w fu) FU out false 0 (by omega) (by unfold FU; omega) hW
    rw [show (0 : Int) = ((0 : Nat) : Int) from rfl, h4]
    rcases h6 with ⟨rfl, rfl, h6⟩ | ⟨rfl, h6⟩
    · refine ⟨o2, ?_, RK.of h5 fun p h0 aa ab => .inr fun x hx => ?_⟩
      · cases fu with
        | zero => omega
        | succ fu => unfold Co; rw [if_neg (by decide)]
      · have hE := JM ho p x.1 x.2 hx
        exact h6 p (by omega) aa x.1 hE.1.1 hE.1.2 ab x.2 hx
    · exact PX ho hs fu o2 h5 (by omega)
end
theorem Tu {wide : Int} {ps : List Int} (hn : ps.length ≤ 1000) (w stand : Int) : EM wide ps w stand = some (if La wide ps w stand = 0 then tb wide ps w stand else [], La wide ps w stand) := by
  unfold EM
  rw [TL hn, Ax]
  by_cases h : La wide ps w stand = 0
  · obtain ⟨ho, hs, hk⟩ := Th h
    have aa := (Fs ho).2.1
    rw [if_neg (not_not_intro h), if_pos h, BF (by omega)]
    rw [Nx, Int.toNat_natCast]
    have h0 : Dc FU (List.replicate ps.length 0) 0 = some (IK ps.length ps.length) := by
      have := TN ps.length hn FU 0 (by omega) (by unfold FU; omega)
      rw [Pj] at this; exact this
    rw [h0, Ax, FH _ hs.1 (by simp [IK]; omega), Po]
    obtain ⟨h1, _, _⟩ := OP (E := Hf wide ps w) hs
    have h4 := RF aa.2 hs
    obtain ⟨t, ht, hT⟩ := PX ho (s := stand) (by rw [hk]; decide) FU _ h1 (by unfold FU; omega)
    rw [Nx, ht, Ax, hT.unique (JM ho) hs (SC ho hs), h]
  · rw [if_pos h, if_neg h]
end Go.Proofs.YtkfbbjiniapooaaGreat
namespace Go.Proofs.YtkfbbjiniapooaaGreat
open Go.PL Go.Hear
open Classical
theorem RI {α : Type} {l : List α} {z : α} : W1 (List.replicate l.length z) l = l := by simp [W1]
theorem UA {l : List Int} (h : l.length ≤ 1000000) : Ga l = some l := by
  unfold Ga
  rw [BF (by omega), Nx, Int.toNat_natCast, RI, Nx]
theorem copy_eq {l : List Int} (h : l.length ≤ 1000000) : DT l = some l := by
  unfold DT
  rw [BF (by omega), Nx, Int.toNat_natCast, RI, Nx]
theorem WW {wide : Int} {ps : List Int} (h : ps.length ≤ 1000) : D0 wide ps = some (wide, ps) := by
  unfold D0
  rw [UA (by omega), Ax]
theorem P0 : ∀ (l acc : List Int), acc.length + l.length ≤ 1000000 → CS l acc = some (acc ++ l)
  | [], acc, _ => by simp [CS]
  | x :: l, acc, h => by
    unfold CS
    simp only [List.length_cons] at h
    rw [Lp (by simp; omega), P0 l (acc ++ [x]) (by simp; omega)]
    simp
theorem Tk {wide : Int} {ps : List Int} (h : ps.length ≤ 1000) : CG wide ps = some (wide, ps) := by
  unfold CG
  rw [P0 ps [] (by simp; omega), Ax]; rfl
theorem O1 (f : List Int → Int → Option Bool) (b : List Int) (hf : ∀ l k, f l k = match l with | [] => some true | x :: tl => ix b k fun y => if x ≠ y then some false else f tl (k + 1)) :
    ∀ (l pre : List Int) (k : Int), k = pre.length → pre.length + l.length = b.length → f l k = some (decide (l = b.drop pre.length))
  | [], pre, k, _, h => by
    rw [hf, List.drop_eq_nil_of_le (by simp at h; omega)]; rfl
  | x :: l, pre, k, hk, h => by
    simp only [List.length_cons] at h
    have hd : b.drop pre.length = b.getD pre.length 0 :: b.drop (pre.length + 1) := by
      rw [List.drop_eq_getElem_cons (by omega), List.getD_eq_getElem?_getD, List.getElem?_eq_getElem (by omega)]; rfl
    have aa : k.toNat = pre.length := by omega
    rw [hf, hd]
    show ix b k _ = _
    rw [FH _ (by omega) (by omega), aa]
    by_cases hx : x = b.getD pre.length 0
    · rw [if_neg (not_not_intro hx), O1 f b hf l (pre ++ [x]) (k + 1) (by simp; omega) (by simp; omega)]
      simp only [List.length_append, List.length_singleton]
      congr 1; rw [decide_eq_decide]
      constructor
      · intro h; rw [h, hx]
      · intro h; exact (List.cons.inj h).2
    · rw [if_pos hx]
      congr 1; symm; rw [decide_eq_false_iff_not]
      intro h; exact hx (List.cons.inj h).1
theorem Om (a b : List Int) : Bk a b = some (decide (a = b)) := by
  unfold Bk FR
  by_cases h : (a.length : Int) = b.length
  · rw [if_neg (not_not_intro h), O1 (C4 b) b (fun l k => by cases l <;> rfl) a [] 0 rfl (by simp; omega), Ax]
    simp
  · rw [if_pos h, Ax]
    congr 1; symm; rw [decide_eq_false_iff_not]
    rintro rfl; exact h rfl
theorem T1 (a b : List Int) : FV a b = some (decide (a = b)) := by
  unfold FV CX
  by_cases h : (a.length : Int) = b.length
  · rw [if_neg (not_not_intro h), O1 (BE b) b (fun l k => by cases l <;> rfl) a [] 0 rfl (by simp; omega), Ax]
    simp
  · rw [if_pos h, Ax]
    congr 1; symm; rw [decide_eq_false_iff_not]
    rintro rfl; exact h rfl
theorem VY (wide : Int) (ps : List Int) : Dz wide ps wide ps = some true := by
  unfold Dz
  rw [if_pos rfl, T1, Ax]; simp
theorem RX (wide : Int) (ps : List Int) : Ed wide ps = some (decide (40 < (ps.length : Int))) := rfl
section
variable {wide : Int} {ps : List Int} {w : Int} {t : List Int}
end
theorem Tf : BL = some true := by decide +kernel
end Go.Proofs.YtkfbbjiniapooaaGreat
namespace Go.Proofs.YtkfbbjiniapooaaGreat
open Go.PL Go.Hear
end Go.Proofs.YtkfbbjiniapooaaGreat
namespace Go.Proofs.YtkfbbjiniapooaaGreat
open Go.PL Go.Hear
section
variable {wide : Int} {ps : List Int} {w : Int} {HR : List Int}
theorem KK {l r : List Int} {x : Int} {k : Nat} (h : l.drop k = x :: r) : k < l.length ∧ l.getD k 0 = x ∧ l.drop (k + 1) = r := by
  have hk : k < l.length := by
    by_cases hk : k < l.length
    · exact hk
    · rw [List.drop_eq_nil_of_le (by omega)] at h; cases h
  rw [List.drop_eq_getElem_cons hk] at h
  refine ⟨hk, ?_, (List.cons.inj h).2⟩
  rw [List.getD_eq_getElem?_getD, List.getElem?_eq_getElem hk]
  exact (List.cons.inj h).1
theorem SE {ps : List Int} {p kind : Int} (h : PZ ps p kind = 0) : (0 ≤ p ∧ p < ps.length) ∧ ps.getD p.toNat 0 = kind := by
  unfold PZ at h
  split at h
  · cases h
  · rename_i h1
    split at h
    · cases h
    · rename_i h2
      have aa := Classical.not_not.1 h1
      exact ⟨⟨aa.1, by omega⟩, Classical.not_not.1 h2⟩
end
end Go.Proofs.YtkfbbjiniapooaaGreat
namespace Go.Proofs.YtkfbbjiniapooaaGreat
open Go.PL Go.Hear
section
variable {E E' : Int → List (Int × Int)} {s : Int} {n : Nat}
end
section
variable {wide : Int} {ps : List Int} {w : Int}
theorem Ro (hc : PU wide ps = 0) (hw : okW w) : FT wide ps w = 0 := by
  unfold FT; rw [if_neg (not_not_intro hc), if_neg (not_not_intro hw)]
theorem WE {p kind : Int} (hp : 0 ≤ p ∧ p < ps.length) (h : ps.getD p.toNat 0 = kind) : PZ ps p kind = 0 := by
  unfold PZ; rw [if_neg (not_not_intro ⟨hp.1, by omega⟩), if_neg (not_not_intro h)]
theorem TG (ho : FT wide ps w = 0) {p : Int} (hp : 0 ≤ p ∧ p < ps.length) (h : ps.getD p.toNat 0 = 0) : La wide ps w p = 0 := by
  unfold La; rw [if_neg (not_not_intro ho), WE hp h]
end
end Go.Proofs.YtkfbbjiniapooaaGreat
namespace Go.Proofs.YtkfbbjiniapooaaGreat
open Go.PL Go.Hear
def IP (P : Nat → Bool) (n : Nat) : List Int := ((List.range n).filter P).map Int.ofNat
theorem IY (P : Nat → Bool) (n : Nat) : IP P (n + 1) = IP P n ++ if P n = true then [(n : Int)] else [] := by
  unfold IP
  rw [List.range_succ, List.filter_append, List.map_append]
  cases h : P n <;> simp [h]
theorem LM (P : Nat → Bool) (n : Nat) : (IP P n).length ≤ n := by
  unfold IP
  rw [List.length_map]
  exact Nat.le_trans (List.length_filter_le ..) (by simp)
theorem Pg {P Q : Nat → Bool} {n : Nat} (h : ∀ i, i < n → P i = Q i) : IP P n = IP Q n := by
  unfold IP
  congr 1
  exact List.filter_congr fun i hi => h i (List.mem_range.1 hi)
theorem OU {P : Nat → Bool} {n : Nat} {x : Int} : x ∈ IP P n ↔ (0 ≤ x ∧ x < n) ∧ P x.toNat = true := by
  unfold IP
  rw [List.mem_map]
  constructor
  · rintro ⟨i, hi, rfl⟩
    obtain ⟨h1, h2⟩ := List.mem_filter.1 hi
    have := List.mem_range.1 h1
    exact ⟨⟨Int.natCast_nonneg i, by show (i : Int) < n; omega⟩, h2⟩
  · rintro ⟨h1, h2⟩
    exact ⟨x.toNat, List.mem_filter.2 ⟨List.mem_range.2 (by omega), h2⟩, by show ((x.toNat : Nat) : Int) = x; omega⟩
theorem Uo {P : Nat → Bool} {n : Nat} : IP P n = [] ↔ ∀ i, i < n → P i = false := by
  constructor
  · intro h i hi
    cases hP : P i with
    | false => rfl
    | true =>
      have : (i : Int) ∈ IP P n := OU.2 ⟨by omega, by simpa using hP⟩
      rw [h] at this; simp at this
  · intro h
    rw [Pg (Q := fun _ => false) h]
    simp [IP]
def GU {β : Type} (f : Nat → β) (n : Nat) : List β := (List.range n).map f
theorem IN {β : Type} (f : Nat → β) (n : Nat) : (GU f n).length = n := by simp [GU]
theorem Hk {β : Type} (f : Nat → β) {n i : Nat} (h : i < n) : (GU f n)[i]? = some (f i) := by
  unfold GU; rw [List.getElem?_map, List.getElem?_range h]; rfl
theorem EL {β : Type} {f g : Nat → β} {n : Nat} (h : ∀ i, i < n → f i = g i) : GU f n = GU g n := by
  unfold GU
  exact List.map_congr_left fun i hi => h i (List.mem_range.1 hi)
theorem Pp {β : Type} (f : Nat → β) {n j : Nat} (y : β) : (GU f n).set j y = GU (fun p => if p = j then y else f p) n := by
  apply List.ext_getElem?
  intro i
  rw [List.getElem?_set, IN]
  by_cases hi : i < n
  · rw [Hk _ hi, Hk _ hi]
    by_cases hj : j = i
    · subst hj; rw [if_pos rfl, if_pos hi, if_pos rfl]
    · rw [if_neg hj, if_neg (fun h => hj h.symm)]
  · have h1 : (GU f n)[i]? = none := List.getElem?_eq_none (by rw [IN]; omega)
    have h2 : (GU (fun p => if p = j then y else f p) n)[i]? = none := List.getElem?_eq_none (by rw [IN]; omega)
    rw [h1, h2]
    by_cases hj : j = i
    · rw [if_pos hj, if_neg (by omega)]
    · rw [if_neg hj]
section
variable {wide : Int} {ps : List Int} {w v : Int}
def MQ (wide : Int) (ps : List Int) (w v : Int) (s p : Nat) : Bool := decide (ps.getD s 0 = 0) && (decide (ps.getD p 0 = 1) && decide (0 ≤ (tb wide ps w s).getD p 0 ∧ (tb wide ps w s).getD p 0 ≤ v))
def XB (ps T : List Int) (v : Int) (p : Nat) : Bool := decide (ps.getD p 0 = 1) && decide (0 ≤ T.getD p 0 ∧ T.getD p 0 ≤ v)
theorem U7 {s : Nat} (h : ps.getD s 0 = 0) (p : Nat) : MQ wide ps w v s p = XB ps (tb wide ps w s) v p := by
  unfold MQ XB; rw [decide_eq_true h, Bool.true_and]
theorem Sg {s : Nat} (h : ps.getD s 0 ≠ 0) (p : Nat) : MQ wide ps w v s p = false := by
  unfold MQ; rw [decide_eq_false h, Bool.false_and]
def Is (wide : Int) (ps : List Int) (w v : Int) (k p : Nat) : List Bool := GU (fun s => decide (s < k) && MQ wide ps w v s p) 30
theorem UC {k p : Nat} (h : MQ wide ps w v k p = true) : (Is wide ps w v k p).set k true = Is wide ps w v (k + 1) p := by
  unfold Is
  rw [Pp]
  refine EL fun s _ => ?_
  by_cases hs : s = k
  · subst hs; rw [if_pos rfl, h, decide_eq_true (by omega)]; rfl
  · rw [if_neg hs]; congr 1; rw [decide_eq_decide]; omega
theorem SR {k p : Nat} (h : MQ wide ps w v k p = false) : Is wide ps w v k p = Is wide ps w v (k + 1) p := by
  unfold Is
  refine EL fun s _ => ?_
  by_cases hs : s = k
  · subst hs; rw [h, Bool.and_false, Bool.and_false]
  · congr 1; rw [decide_eq_decide]; omega
theorem RE (hn : ps.length ≤ 30) {k : Nat} (hk : k < ps.length) (hz : ps.getD k 0 = 0) {T : List Int} (hT : T = tb wide ps w k) (hl : T.length = ps.length) : ∀ (r : List Int) (j : Nat), T.drop j = r → Cq ps v (k : Int) r (j : Int) (GU (fun p => Is wide ps w v (if p < j then k + 1 else k) p) ps.length) = some (GU (Is wide ps w v (k + 1)) ps.length)
  | [], j, hr => by
    have : ps.length ≤ j := by
      have := congrArg List.length hr
      rw [List.length_drop, List.length_nil] at this; omega
    unfold Cq
    congr 1
    exact EL fun p hp => by rw [if_pos (by omega)]
  | x :: r, j, hr => by
    obtain ⟨hj, hx, aa⟩ := KK hr
    have ih := RE hn hk hz hT hl r (j + 1) aa
    have e : (if ps.getD (j : Int).toNat 0 = 1 then b1 (GM x 0 v) fun ok => some ok else some false) = some (MQ wide ps w v k j) := by
      rw [PO, Ax, U7 hz, ← hT]
      unfold XB
      rw [Int.toNat_natCast, hx]
      by_cases h : ps.getD j 0 = 1
      · rw [if_pos h, decide_eq_true h, Bool.true_and]
      · rw [if_neg h, decide_eq_false h, Bool.false_and]
    unfold Cq
    rw [FH _ (by omega) (by omega), e, Ax]
    have ek : ((j : Int) + 1) = ((j + 1 : Nat) : Int) := rfl
    cases hb : MQ wide ps w v k j with
    | true =>
      rw [if_pos rfl, Na (x := Is wide ps w v k j) (by omega) (by rw [Int.toNat_natCast, Hk _ (by omega), if_neg (Nat.lt_irrefl _)]), Na (x := false) (by omega) (by
        unfold Is
        rw [Int.toNat_natCast, Hk _ (by omega), decide_eq_false (Nat.lt_irrefl _), Bool.false_and]), Nx, Int.toNat_natCast, Int.toNat_natCast, UC hb, Pp, ek]
      rw [← ih]
      congr 1
      refine EL fun p _ => ?_
      by_cases hp : p = j
      · subst hp; rw [if_pos rfl, if_pos (by omega)]
      · rw [if_neg hp]; congr 1
        by_cases h2 : p < j
        · rw [if_pos h2, if_pos (by omega)]
        · rw [if_neg h2, if_neg (by omega)]
    | false =>
      rw [if_neg (by decide), ek, ← ih]
      congr 1
      refine EL fun p _ => ?_
      by_cases hp : p = j
      · subst hp; rw [if_neg (Nat.lt_irrefl _), if_pos (by omega), SR hb]
      · congr 1
        by_cases h2 : p < j
        · rw [if_pos h2, if_pos (by omega)]
        · rw [if_neg h2, if_neg (by omega)]
theorem Q7 (ho : FT wide ps w = 0) : ∀ (r : List Int) (k : Nat), ps.drop k = r → k ≤ ps.length → Df wide ps (Ju w) (Jv w) (LK w) v r (k : Int) (GU (Is wide ps w v k) ps.length) = some (GU (Is wide ps w v ps.length) ps.length)
  | [], k, hr, hk => by
    have h := congrArg List.length hr
    rw [List.length_drop, List.length_nil] at h
    have : k = ps.length := by omega
    subst this; rfl
  | x :: r, k, hr, _ => by
    have hn := (Fs ho).2.1
    obtain ⟨hk, hx, aa⟩ := KK hr
    have ih := Q7 ho r (k + 1) aa (by omega)
    have ek : ((k : Int) + 1) = ((k + 1 : Nat) : Int) := rfl
    unfold Df
    by_cases hz : x = 0
    · rw [if_neg (not_not_intro hz), VP ho (by omega), Ax]
      have h2 := RE (v := v) (w := w) (wide := wide) hn.2 hk (by rw [hx]; exact hz) rfl (SC ho (stand := (k : Int)) (by omega)).len (tb wide ps w k) 0 rfl
      have e0 : GU (fun p => Is wide ps w v (if p < 0 then k + 1 else k) p) ps.length = GU (Is wide ps w v k) ps.length := EL fun p _ => by rw [if_neg (by omega)]
      rw [e0] at h2
      have ab : Cq ps v (k : Int) (tb wide ps w k) 0 (GU (Is wide ps w v k) ps.length) = _ := h2
      rw [ab, Ax, ek, ih]
    · rw [if_pos hz, Ax, ek, ← ih]
      congr 1
      exact EL fun p _ => SR (Sg (by rw [hx]; exact hz) p)
def T4 (wide : Int) (ps : List Int) (w v : Int) : List (List Bool) := GU (Is wide ps w v ps.length) ps.length
theorem Vb (ho : FT wide ps w = 0) : GZ wide ps (Ju w) (Jv w) (LK w) v = some (T4 wide ps w v) := by
  have hn := (Fs ho).2.1
  unfold GZ
  rw [BF (by omega), Nx, Int.toNat_natCast]
  have e : List.replicate ps.length (List.replicate 30 false) = GU (Is wide ps w v 0) ps.length := by
    symm
    rw [List.eq_replicate_iff]
    refine ⟨IN .., fun b hb => ?_⟩
    unfold GU at hb
    obtain ⟨p, _, rfl⟩ := List.mem_map.1 hb
    unfold Is
    rw [List.eq_replicate_iff]
    refine ⟨IN .., fun c hc => ?_⟩
    unfold GU at hc
    obtain ⟨s, _, rfl⟩ := List.mem_map.1 hc
    rfl
  rw [e]
  have := Q7 (v := v) ho ps 0 rfl (Nat.zero_le _)
  have h1 : Df wide ps (Ju w) (Jv w) (LK w) v ps 0 (GU (Is wide ps w v 0) ps.length) = _ := this
  rw [h1, Ax]; rfl
def KX (wide : Int) (ps : List Int) (w v : Int) : Int := if PU wide ps ≠ 0 then PU wide ps else PJ w v
theorem Tg (h : KX wide ps w v = 0) : PU wide ps = 0 ∧ PJ w v = 0 ∧ FT wide ps w = 0 ∧ 1 ≤ v ∧ v ≤ 40 := by
  unfold KX at h
  by_cases h1 : PU wide ps = 0
  · rw [if_neg (not_not_intro h1)] at h
    have h2 := h
    unfold PJ at h2
    by_cases h3 : (¬ okW w) ∨ ¬ (1 ≤ v ∧ v ≤ 40)
    · rw [if_pos h3] at h2; cases h2
    · have h4 : okW w := Classical.byContradiction fun h => h3 (.inl h)
      have h5 : 1 ≤ v ∧ v ≤ 40 := Classical.byContradiction fun h => h3 (.inr h)
      exact ⟨h1, h, Ro h1 h4, h5.1, h5.2⟩
  · rw [if_pos h1] at h; exact absurd h h1
theorem U2 (hn : ps.length ≤ 1000) : Ib wide ps w v = some (if KX wide ps w v = 0 then T4 wide ps w v else [], KX wide ps w v) := by
  unfold Ib
  rw [RD hn, Ax]
  by_cases h : KX wide ps w v = 0
  · obtain ⟨h1, h2, ho, _⟩ := Tg h
    rw [if_neg (not_not_intro h1), NY, Ax, if_neg (not_not_intro h2), TC hn, ho, if_pos rfl, Dt]
    unfold XX
    rw [VF, Vb ho, Ax, if_pos h, h]
  · rw [if_neg h]
    by_cases h1 : PU wide ps = 0
    · have h2 : KX wide ps w v = PJ w v := by unfold KX; rw [if_neg (not_not_intro h1)]
      rw [if_neg (not_not_intro h1), NY, Ax, if_pos (by rw [← h2]; exact h), h2]
    · have h2 : KX wide ps w v = PU wide ps := by unfold KX; rw [if_pos h1]
      rw [if_pos h1, h2]
theorem SU {f : Nat → Bool} : ∀ (fu k : Nat), k + fu = 30 → C1 (GU f 30) fu (k : Int) (IP f k) = some (IP f 30)
  | 0, k, h => by
    have : k = 30 := by omega
    subst this; rfl
  | fu + 1, k, h => by
    have ih := SU (f := f) fu (k + 1) (by omega)
    have hlen := LM f k
    unfold C1
    rw [Na (x := f k) (by omega) (by rw [Int.toNat_natCast, Hk _ (by omega)]), show ((k : Int) + 1) = ((k + 1 : Nat) : Int) from rfl, ← ih, IY]
    cases hf : f k with
    | true => rw [if_pos rfl, if_pos rfl, Lp (by simp; omega)]
    | false => rw [if_neg (by decide), if_neg (by decide), List.append_nil]
theorem RS {f : Nat → Bool} : Fp (GU f 30) = some (IP f 30) := by
  unfold Fp
  rw [BF ⟨by decide, by decide⟩]
  have := SU (f := f) (Int.toNat (30 - 0)) 0 (by decide)
  have h1 : C1 (GU f 30) (Int.toNat (30 - 0)) 0 [] = _ := this
  rw [h1, Ax]
theorem Vv {f : Nat → Bool} {n m : Nat} (h : n ≤ m) : IP (fun s => decide (s < n) && f s) m = IP f n := by
  obtain ⟨d, rfl⟩ : ∃ d, m = n + d := ⟨m - n, by omega⟩
  clear h
  induction d with
  | zero => exact Pg fun i hi => by rw [decide_eq_true (show i < n by omega), Bool.true_and]
  | succ d ih =>
    rw [show n + (d + 1) = (n + d) + 1 from rfl, IY, ih, decide_eq_false (by omega), Bool.false_and]
    simp
theorem PW (hn : ps.length ≤ 30) {p : Nat} : Is wide ps w v ps.length p = List.replicate 30 false ↔ IP (fun s => MQ wide ps w v s p) ps.length = [] := by
  rw [Uo, List.eq_replicate_iff]
  unfold Is
  constructor
  · rintro ⟨_, h⟩ i hi
    have := h (decide (i < ps.length) && MQ wide ps w v i p) (List.mem_map.2 ⟨i, List.mem_range.2 (by omega), rfl⟩)
    rwa [decide_eq_true hi, Bool.true_and] at this
  · intro h
    refine ⟨IN .., fun b hb => ?_⟩
    unfold GU at hb
    obtain ⟨s, _, rfl⟩ := List.mem_map.1 hb
    by_cases hs : s < ps.length
    · rw [h s hs, Bool.and_false]
    · rw [decide_eq_false hs, Bool.false_and]
def LV (wide : Int) (ps : List Int) (w v : Int) (k p : Nat) : List Int := IP (fun s => MQ wide ps w v s p) k
theorem Sx (hn : ps.length ≤ 30) {k : Nat} (hk : k < ps.length) (hz : ps.getD k 0 = 0) {T : List Int} (hT : T = tb wide ps w k) (hl : T.length = ps.length) : ∀ (r : List Int) (j : Nat), T.drop j = r → CI ps v (k : Int) r (j : Int) (GU (fun p => LV wide ps w v (if p < j then k + 1 else k) p) ps.length) = some (GU (LV wide ps w v (k + 1)) ps.length)
  | [], j, hr => by
    have : ps.length ≤ j := by
      have := congrArg List.length hr
      rw [List.length_drop, List.length_nil] at this; omega
    unfold CI
    congr 1
    exact EL fun p hp => by rw [if_pos (by omega)]
  | x :: r, j, hr => by
    obtain ⟨hj, hx, aa⟩ := KK hr
    have ih := Sx hn hk hz hT hl r (j + 1) aa
    have e : (if ps.getD (j : Int).toNat 0 = 1 then (if 0 ≤ x then some (decide (x ≤ v)) else some false) else some false) = some (MQ wide ps w v k j) := by
      rw [U7 hz, ← hT]
      unfold XB
      rw [Int.toNat_natCast, hx]
      by_cases h : ps.getD j 0 = 1
      · rw [if_pos h, decide_eq_true h, Bool.true_and]
        by_cases h0 : 0 ≤ x
        · rw [if_pos h0]; congr 1; rw [decide_eq_decide]; exact ⟨fun h => ⟨h0, h⟩, fun h => h.2⟩
        · rw [if_neg h0, decide_eq_false (fun h => h0 h.1)]
      · rw [if_neg h, decide_eq_false h, Bool.false_and]
    have hlen := LM (fun s => MQ wide ps w v s j) k
    unfold CI
    rw [FH _ (by omega) (by omega), e, Ax]
    have ek : ((j : Int) + 1) = ((j + 1 : Nat) : Int) := rfl
    cases hb : MQ wide ps w v k j with
    | true =>
      rw [if_pos rfl, Na (x := LV wide ps w v k j) (by omega) (by rw [Int.toNat_natCast, Hk _ (by omega), if_neg (Nat.lt_irrefl _)])]
      unfold LV at *
      rw [Lp (by simp; omega), Nx, Int.toNat_natCast, Pp, ek, ← ih]
      congr 1
      refine EL fun p _ => ?_
      by_cases hp : p = j
      · subst hp; rw [if_pos rfl, if_pos (by omega), IY, hb, if_pos rfl]
      · rw [if_neg hp]; congr 1
        by_cases h2 : p < j
        · rw [if_pos h2, if_pos (by omega)]
        · rw [if_neg h2, if_neg (by omega)]
    | false =>
      rw [if_neg (by decide), ek, ← ih]
      congr 1
      refine EL fun p _ => ?_
      by_cases hp : p = j
      · subst hp; rw [if_neg (Nat.lt_irrefl _), if_pos (by omega)]
        unfold LV
        rw [IY, hb, if_neg (by decide), List.append_nil]
      · congr 1
        by_cases h2 : p < j
        · rw [if_pos h2, if_pos (by omega)]
        · rw [if_neg h2, if_neg (by omega)]
theorem SF (ho : FT wide ps w = 0) : ∀ (r : List Int) (k : Nat), ps.drop k = r → k ≤ ps.length → Du wide ps w v r (k : Int) (GU (LV wide ps w v k) ps.length) = some (GU (LV wide ps w v ps.length) ps.length)
  | [], k, hr, hk => by
    have h := congrArg List.length hr
    rw [List.length_drop, List.length_nil] at h
    have : k = ps.length := by omega
    subst this; rfl
  | x :: r, k, hr, _ => by
    have hn := (Fs ho).2.1
    obtain ⟨hk, hx, aa⟩ := KK hr
    have ih := SF ho r (k + 1) aa (by omega)
    have ek : ((k : Int) + 1) = ((k + 1 : Nat) : Int) := rfl
    unfold Du
    by_cases hz : x = 0
    · have ab : ps.getD (k : Int).toNat 0 = 0 := by rw [Int.toNat_natCast, hx]; exact hz
      rw [if_neg (not_not_intro hz), Tu (by omega), TG ho (by omega) ab, if_pos rfl, Dt]
      have h2 := Sx (v := v) (w := w) (wide := wide) hn.2 hk (by rw [hx]; exact hz) rfl (SC ho (stand := (k : Int)) (by omega)).len (tb wide ps w k) 0 rfl
      have e0 : GU (fun p => LV wide ps w v (if p < 0 then k + 1 else k) p) ps.length = GU (LV wide ps w v k) ps.length := EL fun p _ => by rw [if_neg (by omega)]
      rw [e0] at h2
      have ad : CI ps v (k : Int) (tb wide ps w k) 0 (GU (LV wide ps w v k) ps.length) = _ := h2
      rw [ad, Ax, ek, ih]
    · rw [if_pos hz, Ax, ek, ← ih]
      congr 1
      refine EL fun p _ => ?_
      unfold LV
      rw [IY, Sg (by rw [hx]; exact hz), if_neg (by decide), List.append_nil]
def Im (wide : Int) (ps : List Int) (w v : Int) : List (List Int) := GU (LV wide ps w v ps.length) ps.length
theorem QB (ho : FT wide ps w = 0) : D6 wide ps w v = some (Im wide ps w v) := by
  have hn := (Fs ho).2.1
  unfold D6
  rw [BF (by omega), Nx, Int.toNat_natCast]
  have e : List.replicate ps.length ([] : List Int) = GU (LV wide ps w v 0) ps.length := by
    symm
    rw [List.eq_replicate_iff]
    refine ⟨IN .., fun b hb => ?_⟩
    unfold GU at hb
    obtain ⟨p, _, rfl⟩ := List.mem_map.1 hb
    rfl
  rw [e]
  have := SF (v := v) ho ps 0 rfl (Nat.zero_le _)
  have h1 : Du wide ps w v ps 0 (GU (LV wide ps w v 0) ps.length) = _ := this
  rw [h1, Ax]; rfl
end
end Go.Proofs.YtkfbbjiniapooaaGreat
