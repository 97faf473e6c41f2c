/- Layer 1: who hears whom; HearHouses. -/
import Derived.Test.YtfmapnhfamoecabGreatZQMA
namespace Go.Proofs.YtfmapnhfamoecabGreat
open Go.PL Go.Hear
def Dc (P : Nat → Bool) (n : Nat) : List Int := ((List.range n).filter P).map Int.ofNat
theorem Io (P : Nat → Bool) (n : Nat) : Dc P (n + 1) = Dc P n ++ if P n = true then [(n : Int)] else [] := by
  unfold Dc
  rw [List.range_succ, List.filter_append, List.map_append]
  cases h : P n <;> simp [h]
theorem KY (P : Nat → Bool) (n : Nat) : (Dc P n).length ≤ n := by
  unfold Dc
  rw [List.length_map]
  exact Nat.le_trans (List.length_filter_le ..) (by simp)
theorem Jm {P Q : Nat → Bool} {n : Nat} (h : ∀ i, i < n → P i = Q i) : Dc P n = Dc Q n := by
  unfold Dc
  congr 1
  exact List.filter_congr fun i hi => h i (List.mem_range.1 hi)
theorem JZ {P : Nat → Bool} {n : Nat} {x : Int} : x ∈ Dc P n ↔ (0 ≤ x ∧ x < n) ∧ P x.toNat = true := by
  unfold Dc
  rw [List.mem_map]
  constructor
  · rintro ⟨i, hi, rfl⟩
    obtain ⟨h1, h2⟩ := List.mem_filter.1 hi
    have := List.mem_range.1 h1
    exact ⟨⟨Int.natCast_nonneg i, by show (i : Int) < n; omega⟩, h2⟩
  · rintro ⟨h1, h2⟩
    exact ⟨x.toNat, List.mem_filter.2 ⟨List.mem_range.2 (by omega), h2⟩, by show ((x.toNat : Nat) : Int) = x; omega⟩
theorem UI {P : Nat → Bool} {n : Nat} : Dc P n = [] ↔ ∀ i, i < n → P i = false := by
  constructor
  · intro h i hi
    cases hP : P i with
    | false => rfl
    | true =>
      have : (i : Int) ∈ Dc P n := JZ.2 ⟨by omega, by simpa using hP⟩
      rw [h] at this; simp at this
  · intro h
    rw [Jm (Q := fun _ => false) h]
    simp [Dc]
def Ia {β : Type} (f : Nat → β) (n : Nat) : List β := (List.range n).map f
theorem Jd {β : Type} (f : Nat → β) (n : Nat) : (Ia f n).length = n := by simp [Ia]
theorem HV {β : Type} (f : Nat → β) {n i : Nat} (h : i < n) : (Ia f n)[i]? = some (f i) := by
  unfold Ia; rw [List.getElem?_map, List.getElem?_range h]; rfl
theorem Ho {β : Type} {f g : Nat → β} {n : Nat} (h : ∀ i, i < n → f i = g i) : Ia f n = Ia g n := by
  unfold Ia
  exact List.map_congr_left fun i hi => h i (List.mem_range.1 hi)
theorem RN {β : Type} (f : Nat → β) {n j : Nat} (y : β) : (Ia f n).set j y = Ia (fun p => if p = j then y else f p) n := by
  apply List.ext_getElem?
  intro i
  rw [List.getElem?_set, Jd]
  by_cases hi : i < n
  · rw [HV _ hi, HV _ hi]
    by_cases hj : j = i
    · subst hj; rw [if_pos rfl, if_pos hi, if_pos rfl]
    · rw [if_neg hj, if_neg (fun h => hj h.symm)]
  · have h1 : (Ia f n)[i]? = none := List.getElem?_eq_none (by rw [Jd]; omega)
    have h2 : (Ia (fun p => if p = j then y else f p) n)[i]? = none := List.getElem?_eq_none (by rw [Jd]; omega)
    rw [h1, h2]
    by_cases hj : j = i
    · rw [if_pos hj, if_neg (by omega)]
    · rw [if_neg hj]
section
variable {wide : Int} {ps : List Int} {w v : Int}
def Mw (wide : Int) (ps : List Int) (w v : Int) (s p : Nat) : Bool := decide (ps.getD s 0 = 0) && (decide (ps.getD p 0 = 1) && decide (0 ≤ (tb wide ps w s).getD p 0 ∧ (tb wide ps w s).getD p 0 ≤ v))
def WB (ps T : List Int) (v : Int) (p : Nat) : Bool := decide (ps.getD p 0 = 1) && decide (0 ≤ T.getD p 0 ∧ T.getD p 0 ≤ v)
theorem UW {s : Nat} (h : ps.getD s 0 = 0) (p : Nat) : Mw wide ps w v s p = WB ps (tb wide ps w s) v p := by
  unfold Mw WB; rw [decide_eq_true h, Bool.true_and]
theorem Xx {s : Nat} (h : ps.getD s 0 ≠ 0) (p : Nat) : Mw wide ps w v s p = false := by
  unfold Mw; rw [decide_eq_false h, Bool.false_and]
def HH (wide : Int) (ps : List Int) (w v : Int) (k p : Nat) : List Bool := Ia (fun s => decide (s < k) && Mw wide ps w v s p) 30
theorem VN {k p : Nat} (h : Mw wide ps w v k p = true) : (HH wide ps w v k p).set k true = HH wide ps w v (k + 1) p := by
  unfold HH
  rw [RN]
  refine Ho fun s _ => ?_
  by_cases hs : s = k
  · subst hs; rw [if_pos rfl, h, decide_eq_true (by omega)]; rfl
  · rw [if_neg hs]; congr 1; rw [decide_eq_decide]; omega
theorem TF {k p : Nat} (h : Mw wide ps w v k p = false) : HH wide ps w v k p = HH wide ps w v (k + 1) p := by
  unfold HH
  refine Ho fun s _ => ?_
  by_cases hs : s = k
  · subst hs; rw [h, Bool.and_false, Bool.and_false]
  · congr 1; rw [decide_eq_decide]; omega
theorem MZ (hn : ps.length ≤ 30) {k : Nat} (hk : k < ps.length) (hz : ps.getD k 0 = 0) {T : List Int} (hT : T = tb wide ps w k) (hl : T.length = ps.length) : ∀ (r : List Int) (j : Nat), T.drop j = r → CF ps v (k : Int) r (j : Int) (Ia (fun p => HH wide ps w v (if p < j then k + 1 else k) p) ps.length) = some (Ia (HH wide ps w v (k + 1)) ps.length)
  | [], j, hr => by
    have : ps.length ≤ j := by
      have := congrArg List.length hr
      rw [List.length_drop, List.length_nil] at this; omega
    unfold CF
    congr 1
    exact Ho fun p hp => by rw [if_pos (by omega)]
  | x :: r, j, hr => by
    obtain ⟨hj, hx, aa⟩ := MS hr
    have ih := MZ hn hk hz hT hl r (j + 1) aa
    have e : (if ps.getD (j : Int).toNat 0 = 1 then b1 (Gu x 0 v) fun ok => some ok else some false) = some (Mw wide ps w v k j) := by
      rw [IM, Aw, UW hz, ← hT]
      unfold WB
      rw [Int.toNat_natCast, hx]
      by_cases h : ps.getD j 0 = 1
      · rw [if_pos h, decide_eq_true h, Bool.true_and]
      · rw [if_neg h, decide_eq_false h, Bool.false_and]
    unfold CF
    rw [H7 _ (by omega) (by omega), e, Aw]
    have ek : ((j : Int) + 1) = ((j + 1 : Nat) : Int) := rfl
    cases hb : Mw wide ps w v k j with
    | true =>
      rw [if_pos rfl, LQ (x := HH wide ps w v k j) (by omega) (by rw [Int.toNat_natCast, HV _ (by omega), if_neg (Nat.lt_irrefl _)]), LQ (x := false) (by omega) (by
        unfold HH
        rw [Int.toNat_natCast, HV _ (by omega), decide_eq_false (Nat.lt_irrefl _), Bool.false_and]), J2, Int.toNat_natCast, Int.toNat_natCast, VN hb, RN, ek]
      rw [← ih]
      congr 1
      refine Ho fun p _ => ?_
      by_cases hp : p = j
      · subst hp; rw [if_pos rfl, if_pos (by omega)]
      · rw [if_neg hp]; congr 1
        by_cases h2 : p < j
        · rw [if_pos h2, if_pos (by omega)]
        · rw [if_neg h2, if_neg (by omega)]
    | false =>
      rw [if_neg (by decide), ek, ← ih]
      congr 1
      refine Ho fun p _ => ?_
      by_cases hp : p = j
      · subst hp; rw [if_neg (Nat.lt_irrefl _), if_pos (by omega), TF hb]
      · congr 1
        by_cases h2 : p < j
        · rw [if_pos h2, if_pos (by omega)]
        · rw [if_neg h2, if_neg (by omega)]
theorem MM (ho : GY wide ps w = 0) : ∀ (r : List Int) (k : Nat), ps.drop k = r → k ≤ ps.length → Dn wide ps (IQ w) (IP w) (Lj w) v r (k : Int) (Ia (HH wide ps w v k) ps.length) = some (Ia (HH wide ps w v ps.length) ps.length)
  | [], k, hr, hk => by
    have h := congrArg List.length hr
    rw [List.length_drop, List.length_nil] at h
    have : k = ps.length := by omega
    subst this; rfl
  | x :: r, k, hr, _ => by
    have hn := (HY ho).2.1
    obtain ⟨hk, hx, aa⟩ := MS hr
    have ih := MM ho r (k + 1) aa (by omega)
    have ek : ((k : Int) + 1) = ((k + 1 : Nat) : Int) := rfl
    unfold Dn
    by_cases hz : x = 0
    · rw [if_neg (not_not_intro hz), TM ho (by omega), Aw]
      have h2 := MZ (v := v) (w := w) (wide := wide) hn.2 hk (by rw [hx]; exact hz) rfl (VV ho (stand := (k : Int)) (by omega)).len (tb wide ps w k) 0 rfl
      have e0 : Ia (fun p => HH wide ps w v (if p < 0 then k + 1 else k) p) ps.length = Ia (HH wide ps w v k) ps.length := Ho fun p _ => by rw [if_neg (by omega)]
      rw [e0] at h2
      have ab : CF ps v (k : Int) (tb wide ps w k) 0 (Ia (HH wide ps w v k) ps.length) = _ := h2
      rw [ab, Aw, ek, ih]
    · rw [if_pos hz, Aw, ek, ← ih]
      congr 1
      exact Ho fun p _ => TF (Xx (by rw [hx]; exact hz) p)
def PS (wide : Int) (ps : List Int) (w v : Int) : List (List Bool) := Ia (HH wide ps w v ps.length) ps.length
theorem V4 (ho : GY wide ps w = 0) : Ge wide ps (IQ w) (IP w) (Lj w) v = some (PS wide ps w v) := by
  have hn := (HY ho).2.1
  unfold Ge
  rw [Bp (by omega), J2, Int.toNat_natCast]
  have e : List.replicate ps.length (List.replicate 30 false) = Ia (HH wide ps w v 0) ps.length := by
    symm
    rw [List.eq_replicate_iff]
    refine ⟨Jd .., fun b hb => ?_⟩
    unfold Ia at hb
    obtain ⟨p, _, rfl⟩ := List.mem_map.1 hb
    unfold HH
    rw [List.eq_replicate_iff]
    refine ⟨Jd .., fun c hc => ?_⟩
    unfold Ia at hc
    obtain ⟨s, _, rfl⟩ := List.mem_map.1 hc
    rfl
  rw [e]
  have := MM (v := v) ho ps 0 rfl (Nat.zero_le _)
  have h1 : Dn wide ps (IQ w) (IP w) (Lj w) v ps 0 (Ia (HH wide ps w v 0) ps.length) = _ := this
  rw [h1, Aw]; rfl
def Hm (wide : Int) (ps : List Int) (w v : Int) : Int := if Mv wide ps ≠ 0 then Mv wide ps else RI w v
theorem Oj (h : Hm wide ps w v = 0) : Mv wide ps = 0 ∧ RI w v = 0 ∧ GY wide ps w = 0 ∧ 1 ≤ v ∧ v ≤ 40 := by
  unfold Hm at h
  by_cases h1 : Mv wide ps = 0
  · rw [if_neg (not_not_intro h1)] at h
    have h2 := h
    unfold RI at h2
    by_cases h3 : (¬ okW w) ∨ ¬ (1 ≤ v ∧ v ≤ 40)
    · rw [if_pos h3] at h2; cases h2
    · have h4 : okW w := Classical.byContradiction fun h => h3 (.inl h)
      have h5 : 1 ≤ v ∧ v ≤ 40 := Classical.byContradiction fun h => h3 (.inr h)
      exact ⟨h1, h, Sr h1 h4, h5.1, h5.2⟩
  · rw [if_pos h1] at h; exact absurd h h1
theorem OZ (hn : ps.length ≤ 1000) : Hu wide ps w v = some (if Hm wide ps w v = 0 then PS wide ps w v else [], Hm wide ps w v) := by
  unfold Hu
  rw [Ld hn, Aw]
  by_cases h : Hm wide ps w v = 0
  · obtain ⟨h1, h2, ho, _⟩ := Oj h
    rw [if_neg (not_not_intro h1), Jy, Aw, if_neg (not_not_intro h2), Ns hn, ho, if_pos rfl, BY]
    unfold Yj
    rw [TX, V4 ho, Aw, if_pos h, h]
  · rw [if_neg h]
    by_cases h1 : Mv wide ps = 0
    · have h2 : Hm wide ps w v = RI w v := by unfold Hm; rw [if_neg (not_not_intro h1)]
      rw [if_neg (not_not_intro h1), Jy, Aw, if_pos (by rw [← h2]; exact h), h2]
    · have h2 : Hm wide ps w v = Mv wide ps := by unfold Hm; rw [if_pos h1]
      rw [if_pos h1, h2]
theorem P4 {T : List Int} (hl : T.length = ps.length) (hn : ps.length ≤ 1000) : ∀ (r : List Int) (k : Nat), T.drop k = r → k ≤ ps.length → D6 ps v r (k : Int) (Dc (WB ps T v) k) = some (Dc (WB ps T v) ps.length)
  | [], k, hr, hk => by
    have h := congrArg List.length hr
    rw [List.length_drop, List.length_nil] at h
    have : k = ps.length := by omega
    subst this; rfl
  | x :: r, k, hr, _ => by
    obtain ⟨hk, hx, aa⟩ := MS hr
    have ih := P4 hl hn r (k + 1) aa (by omega)
    have hlen := KY (WB ps T v) k
    have e : (if ps.getD (k : Int).toNat 0 = 1 then b1 (Gu x 0 v) fun ok => some ok else some false) = some (WB ps T v k) := by
      rw [IM, Aw, Int.toNat_natCast]
      unfold WB
      rw [hx]
      by_cases h : ps.getD k 0 = 1
      · rw [if_pos h, decide_eq_true h, Bool.true_and]
      · rw [if_neg h, decide_eq_false h, Bool.false_and]
    unfold D6
    rw [H7 _ (by omega) (by omega), e, Aw, show ((k : Int) + 1) = ((k + 1 : Nat) : Int) from rfl, ← ih]
    rw [Io]
    cases h : WB ps T v k with
    | true => rw [if_pos rfl, if_pos rfl, Iv (by simp; omega)]
    | false => rw [if_neg (by decide), if_neg (by decide), List.append_nil]
def RZ (wide : Int) (ps : List Int) (w v stand : Int) : Int := if Hm wide ps w v ≠ 0 then Hm wide ps w v else PJ ps stand 0
theorem Un (hn : ps.length ≤ 1000) (stand : Int) : Iw wide ps w v stand = some (if RZ wide ps w v stand = 0 then Dc (Mw wide ps w v stand.toNat) ps.length else [], RZ wide ps w v stand) := by
  unfold Iw RZ
  rw [Ld hn, Aw]
  by_cases h : Hm wide ps w v = 0
  · obtain ⟨h1, h2, ho, _⟩ := Oj h
    rw [if_neg (not_not_intro h1), Jy, Aw, if_neg (not_not_intro h2), VD hn, BY, if_neg (not_not_intro h)]
    have H9 : JI wide ps w stand = PJ ps stand 0 := by unfold JI; rw [if_neg (not_not_intro ho)]
    rw [H9]
    by_cases h3 : PJ ps stand 0 = 0
    · obtain ⟨hs, hk⟩ := Rc h3
      rw [if_neg (not_not_intro h3), if_pos h3, if_pos h3]
      have h4 := P4 (v := v) (VV ho hs).len hn (tb wide ps w stand) 0 rfl (Nat.zero_le _)
      have h5 : D6 ps v (tb wide ps w stand) 0 [] = _ := h4
      rw [h5, Aw, h3]
      congr 2
      refine Jm fun p _ => ?_
      rw [UW hk, Int.toNat_of_nonneg hs.1]
    · rw [if_pos h3, if_neg h3]
  · by_cases h1 : Mv wide ps = 0
    · have h2 : Hm wide ps w v = RI w v := by unfold Hm; rw [if_neg (not_not_intro h1)]
      rw [h2] at h ⊢
      rw [if_neg (not_not_intro h1), Jy, Aw, if_pos h, if_pos h, if_neg h]
    · have h2 : Hm wide ps w v = Mv wide ps := by unfold Hm; rw [if_pos h1]
      rw [h2, if_pos h1, if_pos h1, if_neg h1]
theorem TW {f : Nat → Bool} : ∀ (fu k : Nat), k + fu = 30 → Db (Ia f 30) fu (k : Int) (Dc f k) = some (Dc f 30)
  | 0, k, h => by
    have : k = 30 := by omega
    subst this; rfl
  | fu + 1, k, h => by
    have ih := TW (f := f) fu (k + 1) (by omega)
    have hlen := KY f k
    unfold Db
    rw [LQ (x := f k) (by omega) (by rw [Int.toNat_natCast, HV _ (by omega)]), show ((k : Int) + 1) = ((k + 1 : Nat) : Int) from rfl, ← ih, Io]
    cases hf : f k with
    | true => rw [if_pos rfl, if_pos rfl, Iv (by simp; omega)]
    | false => rw [if_neg (by decide), if_neg (by decide), List.append_nil]
theorem Ru {f : Nat → Bool} : GB (Ia f 30) = some (Dc f 30) := by
  unfold GB
  rw [Bp ⟨by decide, by decide⟩]
  have := TW (f := f) (Int.toNat (30 - 0)) 0 (by decide)
  have h1 : Db (Ia f 30) (Int.toNat (30 - 0)) 0 [] = _ := this
  rw [h1, Aw]
theorem Wt {f : Nat → Bool} {n m : Nat} (h : n ≤ m) : Dc (fun s => decide (s < n) && f s) m = Dc f n := by
  obtain ⟨d, rfl⟩ : ∃ d, m = n + d := ⟨m - n, by omega⟩
  clear h
  induction d with
  | zero => exact Jm fun i hi => by rw [decide_eq_true (show i < n by omega), Bool.true_and]
  | succ d ih =>
    rw [show n + (d + 1) = (n + d) + 1 from rfl, Io, ih, decide_eq_false (by omega), Bool.false_and]
    simp
def Sm (wide : Int) (ps : List Int) (w v Co : Int) : Int := if Hm wide ps w v ≠ 0 then Hm wide ps w v else PJ ps Co 1
theorem Um (hn : ps.length ≤ 1000) (Co : Int) : Iu wide ps w v Co = some (if Sm wide ps w v Co = 0 then Dc (fun s => Mw wide ps w v s Co.toNat) ps.length else [], Sm wide ps w v Co) := by
  unfold Iu Sm
  rw [OZ hn, BY]
  by_cases h : Hm wide ps w v = 0
  · obtain ⟨_, _, ho, _⟩ := Oj h
    have aa := (HY ho).2.1
    rw [if_neg (not_not_intro h), if_neg (not_not_intro h), if_pos h, VO hn, Aw]
    by_cases h3 : PJ ps Co 1 = 0
    · obtain ⟨hp, _⟩ := Rc h3
      rw [if_neg (not_not_intro h3), if_pos h3]
      unfold PS
      rw [LQ (x := HH wide ps w v ps.length Co.toNat) hp.1 (HV _ (by omega))]
      unfold HH
      rw [Ru, Aw, Wt aa.2, h3]
    · rw [if_pos h3, if_neg h3]
  · rw [if_pos h, if_pos h, if_neg h]
def L9 (wide : Int) (ps : List Int) (w v : Int) (p : Nat) : Bool := decide (ps.getD p 0 = 1) && decide (Dc (fun s => Mw wide ps w v s p) ps.length = [])
theorem NN (hn : ps.length ≤ 30) {p : Nat} : HH wide ps w v ps.length p = List.replicate 30 false ↔ Dc (fun s => Mw wide ps w v s p) ps.length = [] := by
  rw [UI, List.eq_replicate_iff]
  unfold HH
  constructor
  · rintro ⟨_, h⟩ i hi
    have := h (decide (i < ps.length) && Mw wide ps w v i p) (List.mem_map.2 ⟨i, List.mem_range.2 (by omega), rfl⟩)
    rwa [decide_eq_true hi, Bool.true_and] at this
  · intro h
    refine ⟨Jd .., fun b hb => ?_⟩
    unfold Ia at hb
    obtain ⟨s, _, rfl⟩ := List.mem_map.1 hb
    by_cases hs : s < ps.length
    · rw [h s hs, Bool.and_false]
    · rw [decide_eq_false hs, Bool.false_and]
theorem TP (hn : ps.length ≤ 30) : ∀ (r : List Int) (k : Nat), ps.drop k = r → k ≤ ps.length → EO (PS wide ps w v) r (k : Int) (Dc (L9 wide ps w v) k) = some (Dc (L9 wide ps w v) ps.length)
  | [], k, hr, hk => by
    have h := congrArg List.length hr
    rw [List.length_drop, List.length_nil] at h
    have : k = ps.length := by omega
    subst this; rfl
  | x :: r, k, hr, _ => by
    obtain ⟨hk, hx, aa⟩ := MS hr
    have ih := TP hn r (k + 1) aa (by omega)
    have hlen := KY (L9 wide ps w v) k
    have e : (if x = 1 then ix (PS wide ps w v) (k : Int) fun x2 => some (decide (x2 = List.replicate 30 false)) else some false) = some (L9 wide ps w v k) := by
      unfold PS L9
      rw [LQ (x := HH wide ps w v ps.length k) (by omega) (by rw [Int.toNat_natCast, HV _ hk]), hx]
      by_cases h : x = 1
      · rw [if_pos h, decide_eq_true h, Bool.true_and]
        congr 1; rw [decide_eq_decide]; exact NN hn
      · rw [if_neg h, decide_eq_false h, Bool.false_and]
    unfold EO
    rw [e, Aw, show ((k : Int) + 1) = ((k + 1 : Nat) : Int) from rfl, ← ih, Io]
    cases h : L9 wide ps w v k with
    | true => rw [if_pos rfl, if_pos rfl, Iv (by simp; omega)]
    | false => rw [if_neg (by decide), if_neg (by decide), List.append_nil]
theorem W7 (hn : ps.length ≤ 1000) : JN wide ps w v = some (if Hm wide ps w v = 0 then Dc (L9 wide ps w v) ps.length else [], Hm wide ps w v) := by
  unfold JN
  rw [OZ hn, BY]
  by_cases h : Hm wide ps w v = 0
  · obtain ⟨_, _, ho, _⟩ := Oj h
    have aa := (HY ho).2.1
    rw [if_neg (not_not_intro h), if_pos h, if_pos h]
    have := TP (wide := wide) (w := w) (v := v) aa.2 ps 0 rfl (Nat.zero_le _)
    have h1 : EO (PS wide ps w v) ps 0 [] = _ := this
    rw [h1, Aw, h]
  · rw [if_pos h, if_neg h]
end
end Go.Proofs.YtfmapnhfamoecabGreat
namespace Go.Hear
def GF (u : List Bool) : Nat := u.countP id
def I5 (a b : List Bool) : List Bool := List.zipWith (· || ·) a b
theorem Ow {a b : List Bool} (h : a.length = b.length) : (I5 a b).length = a.length := by
  unfold I5; rw [List.length_zipWith, h]; exact Nat.min_self _
theorem P6 : ∀ (u : List Bool), I5 u (List.replicate u.length false) = u
  | [] => rfl
  | b :: u => by
    have := P6 u
    unfold I5 at *
    rw [List.length_cons, List.replicate_succ, List.zipWith_cons_cons, this, Bool.or_false]
def M9 : Nat → List Nat → Prop
  | _, [] => True
  | a, s :: L => (a ≤ s ∧ s < 30) ∧ M9 (s + 1) L
theorem M9.WT : ∀ {a b : Nat} {L : List Nat}, a ≤ b → M9 b L → M9 a L
  | _, _, [], _, _ => trivial
  | _, _, _ :: _, h, ⟨⟨h1, h2⟩, h3⟩ => ⟨⟨Nat.le_trans h h1, h2⟩, h3⟩
theorem M9.mem : ∀ {a : Nat} {L : List Nat}, M9 a L → ∀ s ∈ L, a ≤ s ∧ s < 30
  | _, [], _, s, hs => by simp at hs
  | a, t :: L, ⟨h1, h2⟩, s, hs => by
    rcases List.mem_cons.1 hs with rfl | hs
    · exact h1
    · have := h2.mem s hs; omega
theorem M9.filter {p : Nat → Bool} : ∀ {a : Nat} {L : List Nat}, M9 a L → M9 a (L.filter p)
  | _, [], _ => trivial
  | a, t :: L, ⟨h1, h2⟩ => by
    rw [List.filter_cons]
    split
    · exact ⟨h1, h2.filter⟩
    · exact (M9.WT (by omega) h2.filter)
theorem M9.len : ∀ {a : Nat} {L : List Nat}, a ≤ 30 → M9 a L → L.length + a ≤ 30
  | _, [], h, _ => by simpa using h
  | a, t :: L, _, ⟨h1, h2⟩ => by
    have := h2.len (by omega)
    rw [List.length_cons]; omega
section
variable {S : Nat → List Bool}
def N2 (S : Nat → List Bool) : List Bool → List Nat → List Bool
  | u, [] => u
  | u, s :: L => N2 S (I5 u (S s)) L
def HC (S : Nat → List Bool) : Nat → Nat → List Bool → Nat
  | 0, _, u => GF u
  | _ + 1, 0, u => GF u
  | d + 1, l + 1, u => max (HC S d (l + 1) u) (HC S d l (I5 u (S (29 - d))))
theorem RK (d : Nat) (u : List Bool) : HC S d 0 u = GF u := by cases d <;> rfl
theorem JD : ∀ (d l : Nat) (u : List Bool) (L : List Nat), d ≤ 30 → M9 (30 - d) L → L.length ≤ l → GF (N2 S u L) ≤ HC S d l u
  | 0, l, u, [], _, _, _ => Nat.le_refl _
  | 0, l, u, s :: L, _, ⟨h, _⟩, _ => by omega
  | d + 1, 0, u, [], _, _, _ => Nat.le_refl _
  | d + 1, 0, u, s :: L, _, _, h => by simp at h
  | d + 1, l + 1, u, [], hd, _, _ => by
    unfold HC
    exact Nat.le_trans (JD d (l + 1) u [] (by omega) trivial (by simp)) (Nat.le_max_left ..)
  | d + 1, l + 1, u, s :: L, hd, ⟨h1, h2⟩, h3 => by
    unfold HC
    by_cases hs : s = 29 - d
    · subst hs
      have h4 : 29 - d + 1 = 30 - d := by omega
      rw [h4] at h2
      exact Nat.le_trans (JD d l _ L (by omega) h2 (by simpa using h3)) (Nat.le_max_right ..)
    · exact Nat.le_trans (JD d (l + 1) u (s :: L) (by omega) ⟨by omega, h2⟩ h3) (Nat.le_max_left ..)
theorem O1 : ∀ (d l : Nat) (u : List Bool), d ≤ 30 → ∃ L, M9 (30 - d) L ∧ L.length ≤ l ∧ GF (N2 S u L) = HC S d l u
  | 0, l, u, _ => ⟨[], trivial, Nat.zero_le _, rfl⟩
  | d + 1, 0, u, _ => ⟨[], trivial, Nat.zero_le _, rfl⟩
  | d + 1, l + 1, u, hd => by
    obtain ⟨L1, a1, a2, a3⟩ := O1 d (l + 1) u (by omega)
    obtain ⟨L2, b1, b2, b3⟩ := O1 d l (I5 u (S (29 - d))) (by omega)
    unfold HC
    by_cases h : HC S d l (I5 u (S (29 - d))) ≤ HC S d (l + 1) u
    · exact ⟨L1, M9.WT (by omega) a1, a2, by rw [a3, Nat.max_eq_left h]⟩
    · refine ⟨(29 - d) :: L2, ⟨by omega, ?_⟩, by simpa using b2, ?_⟩
      · have h4 : 29 - d + 1 = 30 - d := by omega
        rw [h4]; exact b1
      · show GF (N2 S (I5 u (S (29 - d))) L2) = _
        rw [b3, Nat.max_eq_right (by omega)]
theorem Vq {d l l' : Nat} (hd : d ≤ 30) (h : l ≤ l') (u : List Bool) : HC S d l u ≤ HC S d l' u := by
  obtain ⟨L, h1, h2, h3⟩ := O1 (S := S) d l u hd
  rw [← h3]; exact JD d l' u L hd h1 (Nat.le_trans h2 h)
inductive Wl (S : Nat → List Bool) (all : Nat) : Nat → Nat → List Bool → List Nat → Prop
  | nil {a : Nat} {u : List Bool} : Wl S all a 0 u []
  | cons {a l s : Nat} {u : List Bool} {L : List Nat} : a ≤ s → s < 30 → (∀ t, a ≤ t → t < s → HC S (30 - (t + 1)) l (I5 u (S t)) < all) → all ≤ HC S (30 - (s + 1)) l (I5 u (S s)) → Wl S all (s + 1) l (I5 u (S s)) L → Wl S all a (l + 1) u (s :: L)
theorem VY {all a l : Nat} {u : List Bool} (ha : a ≤ 30) (aa : HC S (30 - a) l u < all) (ab : all ≤ HC S (30 - a) (l + 1) u) : ∃ s, a ≤ s ∧ s < 30 ∧ all ≤ HC S (30 - (s + 1)) l (I5 u (S s)) := by
  obtain ⟨L, h1, h2, h3⟩ := O1 (S := S) (30 - a) (l + 1) u (by omega)
  have e : 30 - (30 - a) = a := by omega
  rw [e] at h1
  cases L with
  | nil =>
    have := JD (S := S) (30 - a) l u [] (by omega) trivial (Nat.zero_le _)
    have h4 : GF (N2 S u []) = HC S (30 - a) (l + 1) u := h3
    omega
  | cons s L =>
    obtain ⟨h5, h6⟩ := h1
    refine ⟨s, h5.1, h5.2, ?_⟩
    have e2 : 30 - (30 - (s + 1)) = s + 1 := by omega
    have := JD (S := S) (30 - (s + 1)) l (I5 u (S s)) L (by omega) (by rw [e2]; exact h6) (by simpa using h2)
    have h7 : GF (N2 S (I5 u (S s)) L) = HC S (30 - a) (l + 1) u := h3
    omega
theorem VM {all a l s : Nat} {u : List Bool} (ha : a ≤ s) (hs : s < 30) (aa : HC S (30 - a) (l + 1) u < all) : HC S (30 - (s + 1)) l (I5 u (S s)) < all := by
  obtain ⟨L, h1, h2, h3⟩ := O1 (S := S) (30 - (s + 1)) l (I5 u (S s)) (by omega)
  have e2 : 30 - (30 - (s + 1)) = s + 1 := by omega
  rw [e2] at h1
  have := JD (S := S) (30 - a) (l + 1) u (s :: L) (by omega) ⟨by omega, h1⟩ (by simpa using h2)
  have h4 : GF (N2 S u (s :: L)) = HC S (30 - (s + 1)) l (I5 u (S s)) := h3
  omega
theorem Wl.spec {all : Nat} : ∀ {a l : Nat} {u : List Bool} {L : List Nat}, Wl S all a l u L → all ≤ HC S (30 - a) l u → L.length = l ∧ M9 a L ∧ all ≤ GF (N2 S u L)
  | a, _, u, _, .nil, h => ⟨rfl, trivial, by rw [RK] at h; exact h⟩
  | a, _, u, _, .cons h1 h2 _ h4 h5, _ => by
    obtain ⟨e1, e2, e3⟩ := h5.spec h4
    exact ⟨by simp [e1], ⟨⟨h1, h2⟩, e2⟩, e3⟩
def Tl : List Nat → List Nat → Prop
  | [], _ => True
  | _ :: _, [] => False
  | a :: l, b :: l' => a < b ∨ (a = b ∧ Tl l l')
theorem Wl.first {all : Nat} : ∀ {a l : Nat} {u : List Bool} {L : List Nat}, Wl S all a l u L → ∀ {L' : List Nat}, M9 a L' → L'.length = l → all ≤ GF (N2 S u L') → Tl L L'
  | a, _, u, _, .nil, _, _, _, _ => trivial
  | a, _, u, _, .cons (s := s) (l := l) h1 h2 h3 h4 h5, [], _, h, _ => by simp at h
  | a, _, u, _, .cons (s := s) (l := l) h1 h2 h3 h4 h5, t :: L', ⟨g1, g2⟩, h, hc => by
    by_cases aa : t < s
    · exfalso
      have := h3 t g1.1 aa
      have e2 : 30 - (30 - (t + 1)) = t + 1 := by omega
      have h6 := JD (S := S) (30 - (t + 1)) l (I5 u (S t)) L' (by omega) (by rw [e2]; exact g2) (by simp at h; omega)
      have h7 : all ≤ GF (N2 S (I5 u (S t)) L') := hc
      omega
    · by_cases he : s = t
      · subst he
        exact .inr ⟨rfl, h5.first g2 (by simpa using h) hc⟩
      · exact .inl (by omega)
theorem Me {m : Nat} (hS : ∀ s, (S s).length = m) {p : Nat → Bool} (hp : ∀ s, p s = false → S s = List.replicate m false) : ∀ (L : List Nat) (u : List Bool), u.length = m → N2 S u (L.filter p) = N2 S u L
  | [], _, _ => rfl
  | s :: L, u, hu => by
    rw [List.filter_cons]
    cases h : p s with
    | true => exact Me hS hp L _ (by rw [Ow (by rw [hu, hS]), hu])
    | false =>
      rw [if_neg (by decide), Me hS hp L u hu]
      show _ = N2 S (I5 u (S s)) L
      have := P6 u
      rw [hu] at this
      rw [hp s h, this]
structure SP (S : Nat → List Bool) (ok : Nat → Bool) (u : List Bool) (most : Nat) (L : List Nat) (n : Nat) : Prop where
  inc : M9 0 L
  Zc : ∀ s ∈ L, ok s = true
  len : L.length ≤ most
  val : GF (N2 S u L) = n
  max : ∀ L', M9 0 L' → (∀ s ∈ L', ok s = true) → L'.length ≤ most → GF (N2 S u L') ≤ n
  short : ∀ L', M9 0 L' → (∀ s ∈ L', ok s = true) → GF (N2 S u L') = n → L.length ≤ L'.length
  fst : ∀ L', M9 0 L' → (∀ s ∈ L', ok s = true) → GF (N2 S u L') = n → L'.length = L.length → Tl L L'
theorem Wl.Q6 {m most l : Nat} {u : List Bool} {L : List Nat} (hS : ∀ s, (S s).length = m) (hu : u.length = m) {p : Nat → Bool} (hp : ∀ s, p s = false → S s = List.replicate m false)
    (hl : l ≤ most) (ad : HC S 30 most u ≤ HC S 30 l u) (ae : ∀ l', l' < l → HC S 30 l' u < HC S 30 most u) (h : Wl S (HC S 30 most u) 0 l u L) : SP S p u most L (HC S 30 most u) := by
  obtain ⟨h1, h2, h3⟩ := h.spec ad
  have af : ∀ L', M9 0 L' → L'.length ≤ most → GF (N2 S u L') ≤ HC S 30 most u := fun L' i ab => JD 30 most u L' (Nat.le_refl _) i ab
  have aa : GF (N2 S u L) = HC S 30 most u := Nat.le_antisymm (af L h2 (by omega)) h3
  have ah : ∀ L', M9 0 L' → GF (N2 S u L') = HC S 30 most u → l ≤ L'.length := fun L' i hc => by
    apply Classical.byContradiction
    intro hn
    have := ae L'.length (by omega)
    have h5 := JD (S := S) 30 L'.length u L' (Nat.le_refl _) i (Nat.le_refl _)
    omega
  refine ⟨h2, fun s hs => ?_, by omega, aa, fun L' i _ ab => af L' i ab, fun L' i _ hc => by rw [h1]; exact ah L' i hc, fun L' i _ hc ab => h.first i (by omega) (by omega)⟩
  -- a stand that nobody hears would be one too many
  apply Classical.byContradiction
  intro hf
  have ai : p s = false := by simpa using hf
  have e := Me hS hp L u hu
  have h5 := ah (L.filter p) h2.filter (by rw [e]; exact aa)
  have h6 : (L.filter p).length < L.length := by
    rcases Nat.lt_or_ge (L.filter p).length L.length with h | h
    · exact h
    · exfalso
      have h7 := List.length_filter_le p L
      have h8 : (L.filter p).length = L.length := by omega
      have := (List.length_filter_eq_length_iff.1 h8) s hs
      rw [ai] at this; cases this
  omega
end
end Go.Hear
namespace Go.Proofs.YtfmapnhfamoecabGreat
open Go.PL Go.Hear
def Gy : List Bool → Nat
  | [] => 0
  | b :: u => (if b = true then 1 else 0) + 2 * Gy u
theorem UY : ∀ u : List Bool, Gy u < 2 ^ u.length
  | [] => by decide
  | b :: u => by
    have := UY u
    unfold Gy
    rw [List.length_cons, Nat.pow_succ]
    split <;> omega
theorem LL {u : List Bool} (h : u.length ≤ 60) : Gy u < 9223372036854775808 :=
  Nat.lt_of_lt_of_le (UY u) (Nat.le_trans (Nat.pow_le_pow_right (by decide) h) (by decide))
theorem QU : ∀ {u v : List Bool}, u.length = v.length → Gy u = Gy v → u = v
  | [], [], _, _ => rfl
  | [], _ :: _, h, _ => by simp at h
  | _ :: _, [], h, _ => by simp at h
  | a :: u, b :: v, h, he => by
    unfold Gy at he
    have h1 : Gy u = Gy v := by split at he <;> split at he <;> omega
    have h2 : a = b := by
      cases a <;> cases b <;> simp at he <;> first | rfl | omega
    rw [h2, QU (by simpa using h) h1]
theorem Oo : ∀ (u : List Bool) (i : Nat), (Gy u).testBit i = u.getD i false
  | [], i => by unfold Gy; simp
  | b :: u, 0 => by
    unfold Gy
    rw [Nat.testBit_zero, List.getD_cons_zero]
    cases b <;> simp
  | b :: u, i + 1 => by
    unfold Gy
    rw [Nat.testBit_succ, List.getD_cons_succ, ← Oo u i]
    congr 1
    split <;> omega
theorem Th : ∀ {a b : List Bool} (i : Nat), a.length = b.length → (I5 a b).getD i false = (a.getD i false || b.getD i false)
  | [], [], i, _ => by simp [I5]
  | [], _ :: _, _, h => by simp at h
  | _ :: _, [], _, h => by simp at h
  | x :: a, y :: b, 0, _ => by simp [I5]
  | x :: a, y :: b, i + 1, h => by
    have := Th (a := a) (b := b) i (by simpa using h)
    unfold I5 at *
    rw [List.zipWith_cons_cons, List.getD_cons_succ, List.getD_cons_succ, List.getD_cons_succ, this]
theorem XE {a b : List Bool} (h : a.length = b.length) : Gy a ||| Gy b = Gy (I5 a b) := by
  apply Nat.eq_of_testBit_eq
  intro i
  rw [Nat.testBit_or, Oo, Oo, Oo, Th i h]
theorem Qm {x y : Nat} (hx : x < 9223372036854775808) (hy : y < 9223372036854775808) : LR (x : Int) (y : Int) = ((x ||| y : Nat) : Int) := by
  have ho : x ||| y < 2 ^ 63 := Nat.or_lt_two_pow hx hy
  unfold LR
  rw [BitVec.ofInt_natCast, BitVec.ofInt_natCast]
  have e : (BitVec.ofNat 64 x ||| BitVec.ofNat 64 y).toNat = x ||| y := by
    rw [BitVec.toNat_or, BitVec.toNat_ofNat, BitVec.toNat_ofNat, Nat.mod_eq_of_lt (by omega), Nat.mod_eq_of_lt (by omega)]
  rw [BitVec.toInt_eq_toNat_of_lt (by rw [e]; omega), e]
theorem QO {a b : List Bool} (h : a.length = b.length) (aa : a.length ≤ 60) : LR (Gy a : Int) (Gy b : Int) = (Gy (I5 a b) : Int) := by
  rw [Qm (LL aa) (LL (by omega)), XE h]
theorem Oe : ∀ (u v : List Bool), Gy (u ++ v) = Gy u + 2 ^ u.length * Gy v
  | [], v => by simp [Gy]
  | b :: u, v => by
    have e1 : Gy (b :: u ++ v) = (if b = true then 1 else 0) + 2 * Gy (u ++ v) := rfl
    have e2 : Gy (b :: u) = (if b = true then 1 else 0) + 2 * Gy u := rfl
    rw [e1, e2, Oe u v, List.length_cons, Nat.pow_succ, Nat.mul_comm (2 ^ u.length) 2, Nat.mul_assoc]
    generalize 2 ^ u.length * Gy v = z
    omega
theorem K4 : ∀ k : Nat, Gy (List.replicate k false) = 0
  | 0 => rfl
  | k + 1 => by
    rw [List.replicate_succ]; unfold Gy; rw [K4 k]; rfl
theorem Rs : ∀ (u : List Bool), I5 (u ++ [false]) (List.replicate u.length false ++ [true]) = u ++ [true]
  | [] => rfl
  | b :: u => by
    have := Rs u
    unfold I5 at *
    rw [List.cons_append, List.length_cons, List.replicate_succ, List.cons_append, List.zipWith_cons_cons, this, Bool.or_false]; rfl
theorem WI (u : List Bool) (h : u.length ≤ 59) : LR (Gy u : Int) ((2 ^ u.length : Nat) : Int) = (Gy (u ++ [true]) : Int) := by
  have h1 : Gy u = Gy (u ++ [false]) := by rw [Oe]; simp [Gy]
  have h2 : 2 ^ u.length = Gy (List.replicate u.length false ++ [true]) := by rw [Oe, K4]; simp [Gy]
  rw [h2, h1, QO (by simp) (by simp; omega), Rs]
def DF (rows : List (List Bool)) (s : Nat) : List Bool := rows.map (·.getD s false)
theorem Js (rows : List (List Bool)) (s : Nat) : (DF rows s).length = rows.length := by simp [DF]
theorem Xe {stand : Int} (h0 : 0 ≤ stand) (h1 : stand < 30) : ∀ (rows : List (List Bool)) (pre : List Bool), (∀ r ∈ rows, r.length = 30) → pre.length + rows.length ≤ 50 → CH stand rows (pre.length : Int) (Gy pre : Int) = some (Gy (pre ++ DF rows stand.toNat) : Int)
  | [], pre, _, _ => by
    unfold CH DF; simp
  | x :: rows, pre, hr, hl => by
    simp only [List.length_cons] at hl
    have hx := hr x (List.mem_cons_self ..)
    have aa : x[stand.toNat]? = some (x.getD stand.toNat false) := Iq (by omega)
    have hc : DF (x :: rows) stand.toNat = x.getD stand.toNat false :: DF rows stand.toNat := rfl
    unfold CH
    rw [LQ h0 aa, hc]
    have ih := fun b => Xe h0 h1 rows (pre ++ [b]) (fun r ab => hr r (List.mem_cons_of_mem _ ab)) (by simp; omega)
    cases hb : x.getD stand.toNat false with
    | true =>
      have e : shl 1 (pre.length : Int) = ((2 ^ pre.length : Nat) : Int) := by unfold shl; simp
      have hp : (2 ^ pre.length : Nat) ≤ 1125899906842624 := Nat.le_trans (Nat.pow_le_pow_right (by decide) (show pre.length ≤ 50 by omega)) (by decide)
      have ad : C8 ((2 ^ pre.length : Nat) : Int) := by
        generalize 2 ^ pre.length = z at hp
        unfold C8; omega
      rw [if_pos rfl, e, Bp ⟨by omega, ad⟩, WI pre (by omega)]
      have := ih true
      rw [List.length_append, List.length_singleton, List.append_assoc] at this
      exact this
    | false =>
      rw [if_neg (by decide)]
      have := ih false
      have h2 : Gy (pre ++ [false]) = Gy pre := by rw [Oe]; simp [Gy]
      rw [List.length_append, List.length_singleton, List.append_assoc, h2] at this
      exact this
theorem U1 {rows : List (List Bool)} {count : Int → Option Int} (hr : ∀ r ∈ rows, r.length = 30) (hl : rows.length ≤ 50) {s : Nat} (hs : s < 30) : EI rows count (s : Int) = some (Gy (DF rows s) : Int) := by
  unfold EI
  have := Xe (stand := (s : Int)) (by omega) (by omega) rows [] hr (by simpa using hl)
  have h1 : CH (s : Int) rows 0 0 = _ := this
  rw [h1, Aw]; rfl
theorem RR : ∀ {u : List Bool}, Gy u = 0 → GF u = 0
  | [], _ => rfl
  | b :: u, h => by
    unfold Gy at h
    have h1 : Gy u = 0 := by split at h <;> omega
    have h2 : b = false := by cases b <;> simp at h <;> rfl
    have := RR h1
    unfold GF at *
    rw [List.countP_cons, this, h2]; rfl
theorem Tg : ∀ (fu : Nat) (u : List Bool) (n : Int), u.length < fu → u.length ≤ 60 → 0 ≤ n → n + (u.length : Int) ≤ 1000 → Fk fu (Gy u : Int) n = some (n + (GF u : Int))
  | 0, u, _, h, _, _, _ => absurd h (Nat.not_lt_zero _)
  | fu + 1, [], n, _, _, _, _ => by
    have e0 : ((Gy [] : Nat) : Int) = 0 := rfl
    have e1 : (n + (GF [] : Int)) = n := Int.add_zero n
    rw [e0, e1]
    unfold Fk
    rw [if_neg (Int.lt_irrefl 0)]
  | fu + 1, b :: u, n, h, aa, h0, hn => by
    simp only [List.length_cons] at h aa hn
    unfold Fk
    by_cases hz : Gy (b :: u) = 0
    · have := RR hz
      rw [hz, this, if_neg (by decide)]; simp
    · have ab := LL (u := b :: u) (by simpa using aa)
      have ec : Gy (b :: u) = (if b = true then 1 else 0) + 2 * Gy u := rfl
      have e1 : Int.tmod (Gy (b :: u) : Int) 2 = (if b = true then 1 else 0) := by
        rw [Int.tmod_eq_emod_of_nonneg (by omega), ec]; split <;> omega
      have e2 : Int.tdiv (Gy (b :: u) : Int) 2 = (Gy u : Int) := by
        rw [Int.tdiv_eq_ediv_of_nonneg (by omega), ec]; split <;> omega
      have ad := LL (u := u) (by omega)
      rw [if_pos (by omega), e1, e2, Bp (AJ (by split <;> omega)), Bp ⟨by decide, by unfold C8; omega⟩]
      rw [Tg fu u _ (by omega) (by omega) (by split <;> omega) (by split <;> omega)]
      congr 1
      unfold GF
      rw [List.countP_cons]
      cases b <;> simp <;> omega
theorem Wy {u : List Bool} (h : u.length ≤ 60) : HB (Gy u : Int) = some (GF u : Int) := by
  unfold HB
  rw [Tg FU u 0 (by unfold FU; omega) h (by omega) (by omega), Aw, Int.zero_add]
section
variable {rows : List (List Bool)} {count : Int → Option Int}
abbrev Rx := List ((Int × Int × Int) × Int)
def Wo (rows : List (List Bool)) (met : Rx) : Prop := ∀ (a l : Nat) (u : List Bool) (n : Int), a ≤ 30 → u.length = rows.length → AZ met ((a : Int), (l : Int), (Gy u : Int)) = some n → n = (HC (DF rows) (30 - a) l u : Int)
theorem M4 (hr : ∀ r ∈ rows, r.length = 30) (hl : rows.length ≤ 50) (hc : ∀ u : List Bool, u.length = rows.length → count (Gy u : Int) = some (GF u : Int)) : ∀ (fu d l : Nat) (u : List Bool) (met : Rx), d ≤ 30 → d < fu → l ≤ 1000 → u.length = rows.length → Wo rows met →
    ∃ aa, BA fu ((30 - d : Nat) : Int) (l : Int) (Gy u : Int) rows count met = some ((HC (DF rows) d l u : Int), aa) ∧ Wo rows aa
  | 0, _, _, _, _, _, h, _, _, _ => by omega
  | fu + 1, d, l, u, met, hd, al, ak, hu, hm => by
    unfold BA ER
    by_cases h0 : l = 0 ∨ d = 0
    · have e : (if (l : Int) = 0 then some true else some (decide (((30 - d : Nat) : Int) = 30))) = some true := by
        by_cases hz : l = 0
        · rw [if_pos (by omega)]
        · rw [if_neg (by omega), decide_eq_true (by omega)]
      refine ⟨met, ?_, hm⟩
      rw [e, Aw, if_pos rfl, hc u hu, Aw]
      have : HC (DF rows) d l u = GF u := by
        rcases h0 with rfl | rfl
        · exact RK d u
        · rfl
      rw [this]
    · have ao : l ≠ 0 := fun h => h0 (.inl h)
      have aq : d ≠ 0 := fun h => h0 (.inr h)
      obtain ⟨l', rfl⟩ : ∃ l', l = l' + 1 := ⟨l - 1, by omega⟩
      obtain ⟨d', rfl⟩ : ∃ d', d = d' + 1 := ⟨d - 1, by omega⟩
      have e : (if ((l' + 1 : Nat) : Int) = 0 then some true else some (decide (((30 - (d' + 1) : Nat) : Int) = 30))) = some false := by
        rw [if_neg (by omega), decide_eq_false (by omega)]
      rw [e, Aw, if_neg (by decide), J2]
      cases hg : AZ met (((30 - (d' + 1) : Nat) : Int), ((l' + 1 : Nat) : Int), (Gy u : Int)) with
      | some n =>
        have := hm (30 - (d' + 1)) (l' + 1) u n (by omega) hu hg
        rw [show 30 - (30 - (d' + 1)) = d' + 1 by omega] at this
        exact ⟨met, by rw [if_pos (show (some n).isSome = true from rfl), this]; rfl, hm⟩
      | none =>
        have ef : ((30 - (d' + 1) : Nat) : Int) + 1 = ((30 - d' : Nat) : Int) := by omega
        have el : ((l' + 1 : Nat) : Int) - 1 = (l' : Int) := by omega
        rw [if_neg (by decide), Bp (AJ (by omega)), ef]
        obtain ⟨m2, g1, g2⟩ := M4 hr hl hc fu d' (l' + 1) u met (by omega) (by omega) ak hu hm
        rw [g1, BY, U1 hr hl (by omega), Aw, QO (by rw [hu, Js]) (by omega)]
        have af : (I5 u (DF rows (30 - (d' + 1)))).length = rows.length := by rw [Ow (by rw [hu, Js]), hu]
        have key : ∃ m3, (if ((Gy (I5 u (DF rows (30 - (d' + 1)))) : Nat) : Int) ≠ (Gy u : Int) then
            gd (C8 ((30 - d' : Nat) : Int)) <| gd (C8 (((l' + 1 : Nat) : Int) - 1)) <|
              b2 (BA fu ((30 - d' : Nat) : Int) (((l' + 1 : Nat) : Int) - 1) (Gy (I5 u (DF rows (30 - (d' + 1)))) : Int) rows count m2) fun n6 ae => some (ae, if n6 > (HC (DF rows) d' (l' + 1) u : Int) then n6 else (HC (DF rows) d' (l' + 1) u : Int))
            else some (m2, (HC (DF rows) d' (l' + 1) u : Int))) = some (m3, (HC (DF rows) (d' + 1) (l' + 1) u : Int)) ∧ Wo rows m3 := by
          have ev : HC (DF rows) (d' + 1) (l' + 1) u = max (HC (DF rows) d' (l' + 1) u) (HC (DF rows) d' l' (I5 u (DF rows (29 - d')))) := rfl
          have ah : 30 - (d' + 1) = 29 - d' := by omega
          by_cases hs : Gy (I5 u (DF rows (30 - (d' + 1)))) = Gy u
          · have ab := QU (by rw [af, hu]) hs
            refine ⟨m2, ?_, g2⟩
            rw [if_neg (by rw [hs]; exact fun h => h rfl), ev, ← ah, ab, Nat.max_eq_left (Vq (by omega) (Nat.le_succ _) u)]
          · obtain ⟨m3, g3, g4⟩ := M4 hr hl hc fu d' l' (I5 u (DF rows (30 - (d' + 1)))) m2 (by omega) (by omega) (by omega) af g2
            refine ⟨m3, ?_, g4⟩
            rw [if_pos (fun h => hs (by omega)), Bp (AJ (by omega)), Bp (AJ (by omega)), el, g3, BY, ev, ← ah]
            congr 2
            by_cases ai : (HC (DF rows) d' l' (I5 u (DF rows (30 - (d' + 1)))) : Int) > (HC (DF rows) d' (l' + 1) u : Int)
            · rw [if_pos ai, Nat.max_eq_right (by omega)]
            · rw [if_neg ai, Nat.max_eq_left (by omega)]
        obtain ⟨m3, k1, k2⟩ := key
        rw [k1, BY, J2]
        refine ⟨_, rfl, fun a l u' n ha aj ad => ?_⟩
        rw [HA] at ad
        by_cases hk : (((30 - (d' + 1) : Nat) : Int), ((l' + 1 : Nat) : Int), (Gy u : Int)) = ((a : Int), (l : Int), (Gy u' : Int))
        · rw [if_pos hk] at ad
          rw [Prod.mk.injEq, Prod.mk.injEq] at hk
          obtain ⟨k3, k4, k5⟩ := hk
          have e1 : a = 30 - (d' + 1) := by omega
          have e2 : l = l' + 1 := by omega
          have e3 : u' = u := (QU (by rw [hu, aj]) (by omega)).symm
          subst e1 e2 e3
          rw [← Option.some.inj ad, show 30 - (30 - (d' + 1)) = d' + 1 by omega]
        · rw [if_neg hk] at ad
          exact k2 a l u' n ha aj ad
theorem I6 (hr : ∀ r ∈ rows, r.length = 30) (hl : rows.length ≤ 50) (hc : ∀ u : List Bool, u.length = rows.length → count (Gy u : Int) = some (GF u : Int)) {all most : Nat} (ae : all ≤ HC (DF rows) 30 most (List.replicate rows.length false)) (aa : most ≤ 100) :
    ∀ (fu l : Nat) (met : Rx), l ≤ most → most - l < fu → Wo rows met → (∀ l', l' < l → HC (DF rows) 30 l' (List.replicate rows.length false) < all) →
      ∃ ab l2, Cs rows count (all : Int) fu met (l : Int) = some (ab, ((l2 : Nat) : Int)) ∧ Wo rows ab ∧ l2 ≤ most ∧ all ≤ HC (DF rows) 30 l2 (List.replicate rows.length false) ∧ ∀ l', l' < l2 → HC (DF rows) 30 l' (List.replicate rows.length false) < all
  | 0, _, _, _, h, _, _ => by omega
  | fu + 1, l, met, h1, h2, hm, ad => by
    unfold Cs
    obtain ⟨m2, g1, g2⟩ := M4 hr hl hc FU 30 l (List.replicate rows.length false) met (Nat.le_refl _) (by unfold FU; omega) (by omega) (by simp) hm
    rw [K4] at g1
    have af : BA FU 0 (l : Int) 0 rows count met = some ((HC (DF rows) 30 l (List.replicate rows.length false) : Int), m2) := g1
    rw [af, BY]
    by_cases ah : HC (DF rows) 30 l (List.replicate rows.length false) < all
    · have GV : l ≠ most := fun h => by subst h; omega
      rw [if_pos (by omega), Bp (AJ (by omega)), show ((l : Int) + 1) = ((l + 1 : Nat) : Int) from rfl]
      exact I6 hr hl hc ae aa fu (l + 1) m2 (by omega) (by omega) g2 fun l' ai => by
        by_cases he : l' = l
        · rw [he]; exact ah
        · exact ad l' (by omega)
    · rw [if_neg (by omega)]
      exact ⟨m2, l, rfl, g2, h1, by omega, ad⟩
theorem Qb (hr : ∀ r ∈ rows, r.length = 30) (hl : rows.length ≤ 50) (hc : ∀ u : List Bool, u.length = rows.length → count (Gy u : Int) = some (GF u : Int)) {all l s : Nat} {u : List Bool} (hu : u.length = rows.length) (ad : l ≤ 100) (hs : s < 30) (ae : all ≤ HC (DF rows) (30 - (s + 1)) l (I5 u (DF rows s))) {a0 : Nat} :
    ∀ (fu a : Nat) (met : Rx), a0 ≤ a → a ≤ s → s - a < fu → Wo rows met → (∀ t, a0 ≤ t → t < a → HC (DF rows) (30 - (t + 1)) l (I5 u (DF rows t)) < all) →
      ∃ aa s2, CX rows count (all : Int) ((l + 1 : Nat) : Int) (Gy u : Int) fu met (a : Int) = some (aa, ((s2 : Nat) : Int)) ∧ Wo rows aa ∧ a0 ≤ s2 ∧ s2 < 30 ∧ all ≤ HC (DF rows) (30 - (s2 + 1)) l (I5 u (DF rows s2)) ∧ ∀ t, a0 ≤ t → t < s2 → HC (DF rows) (30 - (t + 1)) l (I5 u (DF rows t)) < all
  | 0, _, _, _, _, h, _, _ => by omega
  | fu + 1, a, met, h0, h1, h2, hm, ab => by
    unfold CX
    have el : ((l + 1 : Nat) : Int) - 1 = (l : Int) := by omega
    have af : (I5 u (DF rows a)).length = rows.length := by rw [Ow (by rw [hu, Js]), hu]
    obtain ⟨m2, g1, g2⟩ := M4 hr hl hc FU (30 - (a + 1)) l (I5 u (DF rows a)) met (by omega) (by unfold FU; omega) (by omega) af hm
    have ea : ((30 - (30 - (a + 1)) : Nat) : Int) = (a : Int) + 1 := by omega
    rw [ea] at g1
    rw [Bp (AJ (by omega)), Bp (AJ (by omega)), U1 hr hl (by omega), Aw, QO (by rw [hu, Js]) (by omega), el, g1, BY]
    by_cases ah : HC (DF rows) (30 - (a + 1)) l (I5 u (DF rows a)) < all
    · have GV : a ≠ s := fun h => by subst h; omega
      rw [if_pos (by omega), Bp (AJ (by omega)), show ((a : Int) + 1) = ((a + 1 : Nat) : Int) from rfl]
      exact Qb hr hl hc hu ad hs ae fu (a + 1) m2 (by omega) (by omega) (by omega) g2 fun t ai aj => by
        by_cases he : t = a
        · rw [he]; exact ah
        · exact ab t ai (by omega)
    · rw [if_neg (by omega)]
      exact ⟨m2, a, rfl, g2, h0, by omega, by omega, ab⟩
theorem Qe (hr : ∀ r ∈ rows, r.length = 30) (hl : rows.length ≤ 50) (hc : ∀ u : List Bool, u.length = rows.length → count (Gy u : Int) = some (GF u : Int)) {all : Nat} :
    ∀ (fu l a : Nat) (u : List Bool) (met : Rx) (acc : List Int), l < fu → l ≤ 100 → a ≤ 30 → u.length = rows.length → Wo rows met → acc.length + l ≤ 1000 → all ≤ HC (DF rows) (30 - a) l u → (∀ l', l = l' + 1 → HC (DF rows) (30 - a) l' u < all) →
      ∃ L, B9 rows count (all : Int) fu met (a : Int) (l : Int) (Gy u : Int) acc = some (acc ++ L.map Int.ofNat) ∧ Wl (DF rows) all a l u L
  | 0, _, _, _, _, _, h, _, _, _, _, _, _, _ => by omega
  | fu + 1, 0, a, u, met, acc, _, _, _, _, _, _, _, _ => by
    unfold B9
    rw [if_neg (by omega)]
    exact ⟨[], by simp, .nil⟩
  | fu + 1, l + 1, a, u, met, acc, af, ah, ha, hu, hm, ai, ab, aa => by
    unfold B9
    obtain ⟨s, s1, s2, s3⟩ := VY ha (aa l rfl) ab
    obtain ⟨m2, t, g1, g2, g3, g4, g5, g6⟩ := Qb hr hl hc hu (by omega) s2 s3 FU a met (Nat.le_refl _) s1 (by unfold FU; omega) hm (fun t h1 h2 => by omega)
    have ad : (I5 u (DF rows t)).length = rows.length := by rw [Ow (by rw [hu, Js]), hu]
    have el : ((l + 1 : Nat) : Int) - 1 = (l : Int) := by omega
    rw [if_pos (by omega), g1, BY, Iv (by simp; omega), Bp (AJ (by omega)), Bp (AJ (by omega)), U1 hr hl g4, Aw, QO (by rw [hu, Js]) (by omega), el, show ((t : Int) + 1) = ((t + 1 : Nat) : Int) from rfl]
    obtain ⟨L, k1, k2⟩ := Qe hr hl hc fu l (t + 1) (I5 u (DF rows t)) m2 (acc ++ [(t : Int)]) (by omega) (by omega) (by omega) ad g2 (by simp; omega) g5 (fun l' ae => by
      subst ae; exact VM g3 g4 (aa _ rfl))
    exact ⟨t :: L, by rw [k1]; simp, .cons g3 g4 g6 g5 k2⟩
theorem P1 (hr : ∀ r ∈ rows, r.length = 30) (hl : rows.length ≤ 50) (hc : ∀ u : List Bool, u.length = rows.length → count (Gy u : Int) = some (GF u : Int)) {most : Nat} (hm : most ≤ 100) :
    ∃ L n, EN rows count (most : Int) = some (L.map Int.ofNat, ((n : Nat) : Int)) ∧ ∀ p : Nat → Bool, (∀ s, p s = false → DF rows s = List.replicate rows.length false) → SP (DF rows) p (List.replicate rows.length false) (min most rows.length) L n := by
  have hM : Wo rows [] := fun a l u n _ _ h => by rw [R1] at h; cases h
  have aa : Jf (most : Int) [(rows.length : Int)] = some ((min most rows.length : Nat) : Int) := by
    unfold Jf Fu Fu
    rw [Aw]
    congr 1
    by_cases h : (rows.length : Int) < (most : Int)
    · rw [if_pos h, Nat.min_eq_right (by omega)]
    · rw [if_neg h, Nat.min_eq_left (by omega)]
  have ab : min most rows.length ≤ 100 := Nat.le_trans (Nat.min_le_left ..) hm
  generalize hq : min most rows.length = q at *
  unfold EN
  obtain ⟨m1, g1, g2⟩ := M4 hr hl hc FU 30 q (List.replicate rows.length false) [] (Nat.le_refl _) (by unfold FU; omega) (by omega) (by simp) hM
  rw [K4] at g1
  have ad : BA FU 0 (q : Int) 0 rows count [] = some ((HC (DF rows) 30 q (List.replicate rows.length false) : Int), m1) := g1
  rw [aa, Aw, ad, BY]
  obtain ⟨m2, l, k1, k2, k3, k4, k5⟩ := I6 hr hl hc (Nat.le_refl (HC (DF rows) 30 q (List.replicate rows.length false))) ab FU 0 m1 (Nat.zero_le _) (by unfold FU; omega) g2 (fun l' h => by omega)
  have ae : Cs rows count (HC (DF rows) 30 q (List.replicate rows.length false) : Int) FU m1 0 = some (m2, (l : Int)) := k1
  rw [ae, BY]
  obtain ⟨L, j1, j2⟩ := Qe (all := HC (DF rows) 30 q (List.replicate rows.length false)) hr hl hc FU l 0 (List.replicate rows.length false) m2 [] (by unfold FU; omega) (by omega) (by omega) (by simp) k2 (by simp; omega) k4 (fun l' h => k5 l' (by omega))
  rw [K4] at j1
  have af : B9 rows count (HC (DF rows) 30 q (List.replicate rows.length false) : Int) FU m2 0 (l : Int) 0 [] = some ([] ++ L.map Int.ofNat) := j1
  rw [af, Aw, List.nil_append]
  exact ⟨L, _, rfl, fun p hp => j2.Q6 (Js rows) (by simp) hp k3 k4 k5⟩
end
end Go.Proofs.YtfmapnhfamoecabGreat
namespace Go.Hear
theorem TR {α : Type} (g f : α → Bool) : ∀ H : List α, I5 (H.map g) (H.map f) = H.map fun h => g h || f h
  | [] => rfl
  | h :: H => by
    have := TR g f H
    unfold I5 at *
    rw [List.map_cons, List.map_cons, List.zipWith_cons_cons, this]; rfl
theorem QF {α : Type} {f : Nat → α → Bool} {H : List α} : ∀ (L : List Nat) (g : α → Bool), N2 (fun s => H.map (f s)) (H.map g) L = H.map fun h => g h || L.any fun s => f s h
  | [], g => by simp [N2]
  | s :: L, g => by
    show N2 _ (I5 (H.map g) (H.map (f s))) L = _
    rw [TR, QF L]
    congr 1
    funext h
    rw [List.any_cons, Bool.or_assoc]
theorem Tr {α : Type} (g : α → Bool) (H : List α) : GF (H.map g) = H.countP g := by
  unfold GF
  rw [List.countP_map]; rfl
end Go.Hear
namespace Go.Proofs.YtfmapnhfamoecabGreat
open Go.PL Go.Hear
section
variable {wide : Int} {ps : List Int} {w v : Int}
def US (ps : List Int) : List Int → List Int → Int
  | _, [] => 0
  | pre, x :: r => if PJ ps x 1 ≠ 0 then PJ ps x 1 else if x ∈ pre then 5 else US ps (pre ++ [x]) r
theorem Ts (v : Int) : ∀ (l : List Int) (k : Int), 0 ≤ k → ∃ n, Bq v l k = some n ∧ (0 ≤ n ↔ v ∈ l)
  | [], k, _ => ⟨-1, rfl, by simp⟩
  | x :: l, k, hk => by
    unfold Bq
    by_cases h : v = x
    · exact ⟨k, if_pos h, by simp [h, hk]⟩
    · obtain ⟨n, h1, h2⟩ := Ts v l (k + 1) (by omega)
      exact ⟨n, by rw [if_neg h]; exact h1, by rw [h2]; simp [h]⟩
theorem Q4 (l : List Int) (v : Int) : Bl l v = some (decide (v ∈ l)) := by
  unfold Bl Dp
  obtain ⟨n, h1, h2⟩ := Ts v l 0 (Int.le_refl _)
  rw [h1, Aw]; congr 1; rw [decide_eq_decide]; exact h2
theorem WW (l : List Int) (k : Nat) : sl l 0 (k : Int) = l.take k := by
  unfold sl; rw [Int.toNat_natCast]; rfl
theorem Sa (hn : ps.length ≤ 1000) (H : List Int) : ∀ (r pre : List Int), H = pre ++ r → DM wide ps H r (pre.length : Int) = some (US ps pre r)
  | [], pre, _ => rfl
  | x :: r, pre, h => by
    unfold DM US
    have ih := Sa hn H r (pre ++ [x]) (by rw [h]; simp)
    rw [List.length_append, List.length_singleton] at ih
    have e : ((pre.length : Int) + 1) = ((pre.length + 1 : Nat) : Int) := rfl
    rw [VO hn, Aw]
    by_cases h1 : PJ ps x 1 = 0
    · rw [if_neg (not_not_intro h1), if_neg (not_not_intro h1), Bp ⟨by omega, by rw [h, List.length_append]; omega⟩, J2, WW, h, List.take_left, ← h, Q4, Aw, e, ih]
      by_cases h2 : x ∈ pre
      · rw [if_pos (decide_eq_true h2), if_pos h2]
      · rw [if_neg (fun h => h2 (of_decide_eq_true h)), if_neg h2]
    · rw [if_pos h1, if_pos h1]
theorem VJ : ∀ {r pre : List Int}, US ps pre r = 0 → ∀ x ∈ r, (0 ≤ x ∧ x < ps.length) ∧ ps.getD x.toNat 0 = 1
  | [], _, _, x, hx => by simp at hx
  | y :: r, pre, h, x, hx => by
    unfold US at h
    by_cases h1 : PJ ps y 1 = 0
    · rw [if_neg (not_not_intro h1)] at h
      by_cases h2 : y ∈ pre
      · rw [if_pos h2] at h; cases h
      · rw [if_neg h2] at h
        rcases List.mem_cons.1 hx with rfl | hx
        · exact Rc h1
        · exact VJ h x hx
    · rw [if_pos h1] at h; exact absurd h h1
def O2 (wide : Int) (ps : List Int) (w v : Int) (H : List Int) : Int := if Hm wide ps w v ≠ 0 then Hm wide ps w v else US ps [] H
def Jc (wide : Int) (ps : List Int) (w v : Int) (H : List Int) : List (List Bool) := H.map fun h => HH wide ps w v ps.length h.toNat
theorem RP : ∀ (r : List Int) (acc : List (List Bool)), (∀ x ∈ r, 0 ≤ x ∧ x < ps.length) → acc.length + r.length ≤ 100000 → ET (PS wide ps w v) r acc = some (acc ++ Jc wide ps w v r)
  | [], acc, _, _ => by unfold ET Jc; simp
  | x :: r, acc, h, hl => by
    simp only [List.length_cons] at hl
    have hx := h x (List.mem_cons_self ..)
    unfold ET PS
    rw [LQ (x := HH wide ps w v ps.length x.toNat) hx.1 (HV _ (by omega)), Iv (by simp; omega)]
    have := RP r (acc ++ [HH wide ps w v ps.length x.toNat]) (fun y hy => h y (List.mem_cons_of_mem _ hy)) (by simp; omega)
    unfold PS at this
    rw [this]
    unfold Jc
    simp
theorem Wg (hn : ps.length ≤ 1000) (H : List Int) (hH : H.length ≤ 1000) : Jr wide ps w v H = some (if O2 wide ps w v H = 0 then Jc wide ps w v H else [], decide (O2 wide ps w v H = 0), O2 wide ps w v H) := by
  unfold Jr
  rw [OZ hn, BY]
  by_cases h : Hm wide ps w v = 0
  · have e : O2 wide ps w v H = US ps [] H := by unfold O2; rw [if_neg (not_not_intro h)]
    have aa : Hh wide ps H = some (US ps [] H) := Sa hn H H [] rfl
    rw [if_neg (not_not_intro h), if_pos h, aa, Aw, e]
    by_cases h2 : US ps [] H = 0
    · rw [if_neg (not_not_intro h2), if_pos h2, RP H [] (fun x hx => (VJ h2 x hx).1) (by simpa using Nat.le_trans hH (by decide)), Aw, decide_eq_true h2, h2]; rfl
    · rw [if_pos h2, if_neg h2, decide_eq_false h2]
  · have e : O2 wide ps w v H = Hm wide ps w v := by unfold O2; rw [if_pos h]
    rw [if_pos h, e, if_neg h, decide_eq_false h]
end
end Go.Proofs.YtfmapnhfamoecabGreat
namespace Go.Proofs.YtfmapnhfamoecabGreat
open Go.PL Go.Hear
def Jt (p : List Bool) : List (List Bool) → List (List Bool)
  | [] => []
  | y :: l => if y = p then Jt p l else y :: Jt y l
def Sv : List (List Bool) → List (List Bool)
  | [] => []
  | x :: l => x :: Jt x l
theorem OU {z : List Bool} : ∀ {p : List Bool} {l : List (List Bool)}, (z ∈ Jt p l ∨ z = p) ↔ (z ∈ l ∨ z = p)
  | p, [] => by simp [Jt]
  | p, y :: l => by
    unfold Jt
    by_cases h : y = p
    · rw [if_pos h, OU, List.mem_cons]
      constructor
      · rintro (h1 | h1)
        · exact .inl (.inr h1)
        · exact .inr h1
      · rintro ((h1 | h1) | h1)
        · exact .inr (h1.trans h)
        · exact .inl h1
        · exact .inr h1
    · have ih := OU (z := z) (p := y) (l := l)
      rw [if_neg h, List.mem_cons, List.mem_cons]
      constructor
      · rintro ((h1 | h1) | h1)
        · exact .inl (.inl h1)
        · rcases ih.1 (.inl h1) with h2 | h2
          · exact .inl (.inr h2)
          · exact .inl (.inl h2)
        · exact .inr h1
      · rintro ((h1 | h1) | h1)
        · exact .inl (.inl h1)
        · rcases ih.2 (.inl h1) with h2 | h2
          · exact .inl (.inr h2)
          · exact .inl (.inl h2)
        · exact .inr h1
theorem Nd {z : List Bool} : ∀ {l : List (List Bool)}, z ∈ Sv l ↔ z ∈ l
  | [] => Iff.rfl
  | x :: l => by
    have h := OU (z := z) (p := x) (l := l)
    unfold Sv
    rw [List.mem_cons, List.mem_cons, or_comm, h, or_comm]
theorem Pa : ∀ (p : List Bool) (l : List (List Bool)), (Jt p l).length ≤ l.length
  | _, [] => Nat.le_refl _
  | p, y :: l => by
    unfold Jt
    split
    · have := Pa p l; rw [List.length_cons]; omega
    · have := Pa y l; rw [List.length_cons, List.length_cons]; omega
theorem Tt : ∀ l : List (List Bool), (Sv l).length ≤ l.length
  | [] => Nat.le_refl _
  | x :: l => by have := Pa x l; unfold Sv; rw [List.length_cons, List.length_cons]; omega
theorem YP {l : List (List Bool)} {i : Nat} (h : i < l.length) : l[i]? = some (l.getD i []) := Iq h
theorem Yh {β : Type} {xs : List (List Bool)} {i : Nat} (f : List Bool → Option β) (h : i < xs.length) : ix xs (i : Int) f = f (xs.getD i []) := LQ (by omega) (by rw [Int.toNat_natCast]; exact YP h)
theorem Oz {o : List (List Bool)} {k : Nat} (hk : k < o.length) (hn : o.length ≤ 100000) : ∀ (rest : List (List Bool)) (fu j : Nat) (s A : List (List Bool)), rest.length < fu → o.drop (k + j) = rest → 1 ≤ j → s.length = o.length → s.take A.length = A → s.drop A.length = o.drop A.length → A.length + 1 ≤ k + j → k ≤ A.length →
    ∃ s' B, A6 (k : Int) fu s (A.length : Int) (j : Int) = some (s', (B.length : Int)) ∧ B = A ++ Jt (o.getD (k + j - 1) []) rest ∧ s'.length = o.length ∧ s'.take B.length = B ∧ B.length ≤ o.length
  | _, 0, _, _, _, h, _, _, _, _, _, _, _ => absurd h (Nat.not_lt_zero _)
  | [], fu + 1, j, s, A, _, hd, hj, hs, h1, h2, h3, h4 => by
    have hle : o.length ≤ k + j := List.drop_eq_nil_iff.1 hd
    have hA : A.length ≤ s.length := by
      have := congrArg List.length h1
      rw [List.length_take] at this; omega
    refine ⟨s, A, ?_, by simp [Jt], hs, h1, by omega⟩
    unfold A6
    rw [Int.toNat_natCast, if_neg (by omega)]
  | x :: rest, fu + 1, j, s, A, hf, hd, hj, hs, h1, h2, h3, h4 => by
    rw [List.length_cons] at hf
    have aa : k + j < o.length := by
      rcases Nat.lt_or_ge (k + j) o.length with h' | h'
      · exact h'
      · rw [List.drop_eq_nil_of_le h'] at hd; cases hd
    have hg : o.getD (k + j) [] = x := by
      rw [List.drop_eq_getElem_cons aa] at hd
      rw [List.getD_eq_getElem?_getD, List.getElem?_eq_getElem aa]
      exact (List.cons.inj hd).1
    have ab : o.drop (k + (j + 1)) = rest := by
      rw [List.drop_eq_getElem_cons aa] at hd
      rw [show k + (j + 1) = k + j + 1 by omega]
      exact (List.cons.inj hd).2
    have hA : A.length ≤ s.length := by
      have := congrArg List.length h1
      rw [List.length_take] at this; omega
    have rd : ∀ i, A.length ≤ i → s.getD i [] = o.getD i [] := fun i hi => by
      have e1 : s.getD i [] = (s.drop A.length).getD (i - A.length) [] := by
        rw [List.getD_eq_getElem?_getD, List.getD_eq_getElem?_getD, List.getElem?_drop, show A.length + (i - A.length) = i by omega]
      have e2 : o.getD i [] = (o.drop A.length).getD (i - A.length) [] := by
        rw [List.getD_eq_getElem?_getD, List.getD_eq_getElem?_getD, List.getElem?_drop, show A.length + (i - A.length) = i by omega]
      rw [e1, e2, h2]
    have ad : ∀ i, A.length ≤ k + i → (s.drop k).getD i [] = o.getD (k + i) [] := fun i hi => by
      rw [List.getD_eq_getElem?_getD, List.getElem?_drop, ← List.getD_eq_getElem?_getD, rd _ hi]
    have hlen : (s.drop k).length = o.length - k := by rw [List.length_drop, hs]
    have ih := Oz hk hn rest fu (j + 1)
    unfold A6
    rw [Int.toNat_natCast, if_pos (by rw [hs]; omega), Yh _ (by omega), Bp (AJ (by omega)), show (j : Int) - 1 = ((j - 1 : Nat) : Int) by omega, Yh _ (by omega), ad j (by omega), ad (j - 1) (by omega), hg, show k + (j - 1) = k + j - 1 by omega]
    by_cases hx : x = o.getD (k + j - 1) []
    · have e : Jt (o.getD (k + j - 1) []) (x :: rest) = Jt (o.getD (k + (j + 1) - 1) []) rest := by
        rw [show k + (j + 1) - 1 = k + j by omega, hg]
        show (if x = _ then _ else _) = _
        rw [if_pos hx, ← hx]
      obtain ⟨s', B, q1, q2, q3⟩ := ih s A (by omega) ab (by omega) hs h1 h2 (by omega) h4
      rw [if_neg (fun h => h hx), Bp (AJ (by omega)), show (j : Int) + 1 = ((j + 1 : Nat) : Int) by omega]
      exact ⟨s', B, q1, by rw [q2, e], q3⟩
    · have e : Jt (o.getD (k + j - 1) []) (x :: rest) = x :: Jt (o.getD (k + (j + 1) - 1) []) rest := by
        rw [show k + (j + 1) - 1 = k + j by omega, hg]
        show (if x = _ then _ else _) = _
        rw [if_neg hx]
      have ae : A.length < s.length := by omega
      obtain ⟨s', B, q1, q2, q3⟩ := ih (s.set A.length x) (A ++ [x]) (by omega) ab (by omega) (by rw [List.length_set]; exact hs) (by
        rw [List.length_append, List.length_singleton, List.take_add_one, List.getElem?_set_self ae, List.take_set_of_le (Nat.le_refl _), h1]; rfl) (by
        rw [List.length_append, List.length_singleton, List.drop_set_of_lt (by omega)]
        have := congrArg (List.drop 1) h2
        rw [List.drop_drop, List.drop_drop] at this
        exact this) (by simp; omega) (by simp; omega)
      rw [List.length_append, List.length_singleton] at q1
      rw [if_pos hx, Yh _ ae, J2, Int.toNat_natCast, Bp (AJ (by omega)), Bp (AJ (by omega)), show (j : Int) + 1 = ((j + 1 : Nat) : Int) by omega, show (A.length : Int) + 1 = ((A.length + 1 : Nat) : Int) by omega]
      exact ⟨s', B, q1, by rw [q2, e, List.append_assoc]; rfl, q3⟩
theorem Pg {o : List (List Bool)} (hn : o.length ≤ 100000) : ∀ (fu k : Nat), 1 ≤ k → k + fu = o.length → Ba o fu (k : Int) = some (o.take k ++ Jt (o.getD (k - 1) []) (o.drop k))
  | 0, k, _, hf => by
    unfold Ba CJ
    rw [List.drop_eq_nil_of_le (by omega), List.take_of_length_le (by omega)]
    simp [Jt]
  | fu + 1, k, h1, hf => by
    have hk : k < o.length := by omega
    have hd : o.drop k = o.getD k [] :: o.drop (k + 1) := by
      rw [List.drop_eq_getElem_cons hk, List.getD_eq_getElem?_getD, List.getElem?_eq_getElem hk]; rfl
    unfold Ba
    rw [Yh _ hk, Bp (AJ (by omega)), show (k : Int) - 1 = ((k - 1 : Nat) : Int) by omega, Yh _ (by omega)]
    by_cases hx : o.getD k [] = o.getD (k - 1) []
    · obtain ⟨s', B, q1, q2, q3, q4, q5⟩ := Oz hk hn (o.drop (k + 1)) FU 1 o (o.take k) (by rw [List.length_drop]; unfold FU; omega) rfl (Nat.le_refl _) rfl (by rw [List.length_take, Nat.min_eq_left (by omega)]) (by rw [List.length_take, Nat.min_eq_left (by omega)]) (by rw [List.length_take]; omega) (by rw [List.length_take]; omega)
      rw [List.length_take, Nat.min_eq_left (by omega)] at q1
      have aa : A6 (k : Int) FU o (k : Int) 1 = some (s', (B.length : Int)) := q1
      have e : Jt (o.getD (k - 1) []) (o.drop k) = Jt (o.getD (k + 1 - 1) []) (o.drop (k + 1)) := by
        rw [hd, show k + 1 - 1 = k by omega]
        show (if _ = _ then _ else _) = _
        rw [if_pos hx, hx]
      rw [if_pos hx, Bp ⟨by omega, by omega⟩, aa, BY, Bp ⟨by omega, by omega⟩, J2, Int.toNat_natCast, Bp ⟨⟨Int.le_refl _, by omega⟩, by rw [List.length_append, List.length_take, List.length_replicate]; omega⟩, J2, q4]
      have ab : sl (B ++ List.replicate (s'.length - B.length) (List.replicate 30 false)) 0 (B.length : Int) = B := by
        unfold sl
        rw [Int.toNat_natCast, List.take_left]; rfl
      rw [ab, q2, e]
    · have e : o.take k ++ Jt (o.getD (k - 1) []) (o.drop k) = o.take (k + 1) ++ Jt (o.getD (k + 1 - 1) []) (o.drop (k + 1)) := by
        rw [hd, show k + 1 - 1 = k by omega, List.take_add_one, List.getElem?_eq_getElem hk]
        have e2 : Jt (o.getD (k - 1) []) (o.getD k [] :: o.drop (k + 1)) = o.getD k [] :: Jt (o.getD k []) (o.drop (k + 1)) := by
          show (if _ = _ then _ else _) = _
          rw [if_neg hx]
        rw [e2, List.append_assoc]
        have e3 : o.getD k [] = o[k] := by rw [List.getD_eq_getElem?_getD, List.getElem?_eq_getElem hk]; rfl
        rw [e3]; rfl
      rw [if_neg hx]
      unfold CL
      rw [show (((k : Nat) : Int) + 1) = ((k + 1 : Nat) : Int) by omega, e]
      exact Pg hn fu (k + 1) (by omega) (by omega)
theorem S3 {o : List (List Bool)} (hn : o.length ≤ 100000) : Ch o = some (Sv o) := by
  unfold Ch
  by_cases h : (o.length : Int) < 2
  · rw [if_pos h]
    match o, h with
    | [], _ => rfl
    | [x], _ => rfl
    | _ :: _ :: _, h => simp at h; omega
  · rw [if_neg h, Bp ⟨AJ (by omega), AJ (by omega)⟩, show Int.toNat ((o.length : Int) - 1) = o.length - 1 by omega, show (1 : Int) = ((1 : Nat) : Int) from rfl, Pg hn (o.length - 1) 1 (Nat.le_refl _) (by omega)]
    match o, h with
    | x :: l, _ => rfl
    | [], h => simp at h
theorem UA {xs : List (List Bool)} (h : xs.length ≤ 1000000) : CB xs = some xs := by
  unfold CB P5
  rw [Iv (by simp; omega), List.nil_append]
  by_cases h1 : xs = []
  · rw [if_pos h1, h1]; rfl
  · rw [if_neg h1]
def T7 (R : List (List Bool)) (L : List Nat) : Prop := ∀ r ∈ R, ∃ s ∈ L, r.getD s false = true
theorem Qr (R : List (List Bool)) (L : List Nat) : GF (N2 (DF R) (List.replicate R.length false) L) = R.length ↔ T7 R L := by
  have e0 : List.replicate R.length false = R.map fun _ => false := by
    rw [List.map_const']
  have e1 : DF R = fun s => R.map fun r => r.getD s false := rfl
  rw [e0, e1, QF, Tr]
  simp only [Bool.false_or]
  rw [List.countP_eq_length]
  constructor
  · intro h r hr
    have := h r hr
    rw [List.any_eq_true] at this
    exact this
  · intro h r hr
    rw [List.any_eq_true]
    exact h r hr
theorem T7.Sv {R : List (List Bool)} {L : List Nat} : T7 (Sv R) L ↔ T7 R L :=
  ⟨fun h r hr => h r (Nd.2 hr), fun h r hr => h r (Nd.1 hr)⟩
structure Ly (R : List (List Bool)) (L : List Nat) : Prop where
  inc : M9 0 L
  all : T7 R L
  len : L.length ≤ R.length
  min : ∀ L', M9 0 L' → T7 R L' → L.length < L'.length ∨ (L.length = L'.length ∧ Tl L L')
  use : ∀ p : Nat → Bool, (∀ s, p s = false → DF R s = List.replicate R.length false) → ∀ s ∈ L, p s = true
theorem SL {p : Nat → Bool} : ∀ (n a : Nat), a + n ≤ 30 → M9 a ((List.range' a n).filter p)
  | 0, _, _ => trivial
  | n + 1, a, h => by
    have ih := SL (p := p) n (a + 1) (by omega)
    rw [List.range'_succ]
    cases hp : p a with
    | true => rw [List.filter_cons_of_pos hp]; exact ⟨⟨Nat.le_refl _, by omega⟩, ih⟩
    | false => rw [List.filter_cons_of_neg (by rw [hp]; decide)]; exact ih.WT (by omega)
theorem XI {R : List (List Bool)} (h : ∀ r ∈ R, ∃ s, s < 30 ∧ r.getD s false = true) : ∃ L, M9 0 L ∧ L.length ≤ R.length ∧ T7 R L := by
  have key : ∀ R : List (List Bool), (∀ r ∈ R, ∃ s, s < 30 ∧ r.getD s false = true) → ∃ C : List Nat, C.length = R.length ∧ (∀ s ∈ C, s < 30) ∧ T7 R C := by
    intro R
    induction R with
    | nil => intro _; exact ⟨[], rfl, (fun _ h => nomatch h), fun _ h => nomatch h⟩
    | cons r R ih =>
      intro h
      obtain ⟨C, h1, h2, h3⟩ := ih fun x hx => h x (List.mem_cons_of_mem _ hx)
      obtain ⟨s, h4, h5⟩ := h r (List.mem_cons_self ..)
      refine ⟨s :: C, by rw [List.length_cons, h1, List.length_cons], fun x hx => ?_, fun x hx => ?_⟩
      · rcases List.mem_cons.1 hx with rfl | hx
        · exact h4
        · exact h2 x hx
      · rcases List.mem_cons.1 hx with rfl | hx
        · exact ⟨s, List.mem_cons_self .., h5⟩
        · obtain ⟨t, ht, h6⟩ := h3 x hx
          exact ⟨t, List.mem_cons_of_mem _ ht, h6⟩
  obtain ⟨C, h1, h2, h3⟩ := key R h
  refine ⟨(List.range' 0 30).filter fun s => decide (s ∈ C), SL 30 0 (by omega), ?_, fun r hr => ?_⟩
  · rw [← h1]
    have aa : ((List.range' 0 30).filter fun s => decide (s ∈ C)).Nodup := List.Pairwise.filter _ (List.nodup_range' ..)
    exact aa.length_le_of_subset fun s hs => by
      rw [List.mem_filter] at hs
      exact of_decide_eq_true hs.2
  · obtain ⟨s, hs, h4⟩ := h3 r hr
    refine ⟨s, ?_, h4⟩
    rw [List.mem_filter]
    refine ⟨?_, decide_eq_true hs⟩
    rw [List.mem_range']
    exact ⟨s, h2 s hs, by omega⟩
theorem XX {R : List (List Bool)} {L : List Nat} {n : Nat} (h : ∀ r ∈ R, ∃ s, s < 30 ∧ r.getD s false = true) (hb : ∀ p : Nat → Bool, (∀ s, p s = false → DF R s = List.replicate R.length false) → SP (DF R) p (List.replicate R.length false) (min R.length R.length) L n) : n = R.length ∧ Ly R L := by
  have b := hb (fun _ => true) (fun _ h => nomatch h)
  obtain ⟨L0, k1, k2, k3⟩ := XI h
  have ab := (Qr R L0).2 k3
  have h1 := b.max L0 k1 (fun _ _ => rfl) (by omega)
  have h2 := b.val
  have h3 : GF (N2 (DF R) (List.replicate R.length false) L) ≤ R.length := by
    have e0 : List.replicate R.length false = R.map fun _ => false := by rw [List.map_const']
    have e1 : DF R = fun s => R.map fun r => r.getD s false := rfl
    rw [e0, e1, QF, Tr]
    exact List.countP_le_length
  have hn : n = R.length := by omega
  refine ⟨hn, b.inc, (Qr R L).1 (by omega), by have := b.len; omega, fun L' i aa => ?_, fun p hp => (hb p hp).Zc⟩
  have hc := (Qr R L').2 aa
  have h4 := b.short L' i (fun _ _ => rfl) (by omega)
  rcases Nat.lt_or_ge L.length L'.length with h5 | h5
  · exact .inl h5
  · exact .inr ⟨by omega, b.fst L' i (fun _ _ => rfl) (by omega) (by omega)⟩
theorem Ly.Sv {R : List (List Bool)} {L : List Nat} (h : Ly (Sv R) L) : Ly R L := by
  refine ⟨h.inc, T7.Sv.1 h.all, Nat.le_trans h.len (Tt R), fun L' i aa => h.min L' i (T7.Sv.2 aa), fun p hp => h.use p fun s hs => ?_⟩
  have h1 := hp s hs
  unfold DF at h1 ⊢
  rw [List.eq_replicate_iff]
  refine ⟨List.length_map .., fun b hb => ?_⟩
  obtain ⟨r, hr, rfl⟩ := List.mem_map.1 hb
  exact (List.eq_replicate_iff.1 h1).2 _ (List.mem_map.2 ⟨r, Nd.1 hr, rfl⟩)
section
variable {wide : Int} {ps : List Int} {w v : Int}
theorem U6 (wide : Int) (ps : List Int) (w v : Int) (H : List Int) : (Jc wide ps w v H).length = H.length := by unfold Jc; rw [List.length_map]
theorem Wx (H : List Int) : ∀ r ∈ Jc wide ps w v H, r.length = 30 := fun r hr => by
  unfold Jc at hr
  obtain ⟨h, _, rfl⟩ := List.mem_map.1 hr
  exact Jd ..
theorem Tp {v : List Bool} : ∀ (l : List (List Bool)) (k : Int), 0 ≤ k → ∃ n, Bv v l k = some n ∧ (0 ≤ n ↔ v ∈ l)
  | [], k, _ => ⟨-1, rfl, by simp⟩
  | x :: l, k, hk => by
    unfold Bv
    by_cases hx : v = x
    · exact ⟨k, by rw [if_pos hx], by simp [hx, hk]⟩
    · obtain ⟨n, h1, h2⟩ := Tp (v := v) l (k + 1) (by omega)
      refine ⟨n, by rw [if_neg hx]; exact h1, ?_⟩
      rw [h2, List.mem_cons]; simp [hx]
theorem VA (R : List (List Bool)) (f : Int → Option Int) : Fl R f = some (decide (List.replicate 30 false ∈ R)) := by
  unfold Fl CR Da
  obtain ⟨n, h1, h2⟩ := Tp (v := List.replicate 30 false) R 0 (Int.le_refl _)
  rw [h1, Aw, Aw]
  congr 1
  rw [decide_eq_decide]
  exact h2
theorem V8 {r : List Bool} (hl : r.length = 30) (h : r ≠ List.replicate 30 false) : ∃ s, s < 30 ∧ r.getD s false = true := by
  apply Classical.byContradiction
  intro hn
  apply h
  rw [List.eq_replicate_iff]
  refine ⟨hl, fun b hb => ?_⟩
  obtain ⟨i, hi, rfl⟩ := List.getElem_of_mem hb
  cases hc : r[i] with
  | false => rfl
  | true => exact absurd ⟨i, by omega, by rw [List.getD_eq_getElem?_getD, List.getElem?_eq_getElem hi]; exact hc⟩ hn
theorem Uc (hn : ps.length ≤ 1000) {H : List Int} (hH : H.length ≤ 40) (ha : O2 wide ps w v H = 0) :
    (List.replicate 30 false ∈ Jc wide ps w v H ∧ FT wide ps w v H = some ([], 6)) ∨ ((¬ List.replicate 30 false ∈ Jc wide ps w v H) ∧ ∃ L, FT wide ps w v H = some (L.map Int.ofNat, 0) ∧ Ly (Jc wide ps w v H) L) := by
  have hl := U6 wide ps w v H
  have ab := Wx (wide := wide) (ps := ps) (w := w) (v := v) H
  unfold FT
  rw [Wg hn H (by omega), ha, Dg, if_neg (fun h => h rfl), Bp (decide_eq_true rfl), if_pos rfl, VA, Aw]
  by_cases hd : List.replicate 30 false ∈ Jc wide ps w v H
  · exact .inl ⟨hd, by rw [if_pos (decide_eq_true hd)]⟩
  · refine .inr ⟨hd, ?_⟩
    have ad := Tt (Jc wide ps w v H)
    have aa : ∀ r ∈ Sv (Jc wide ps w v H), r.length = 30 := fun r hr => ab r (Nd.1 hr)
    obtain ⟨L, n, h1, h2⟩ := P1 (rows := Sv (Jc wide ps w v H)) (count := fun x : Int => HB x) aa (by omega) (fun u hu => Wy (by omega)) (most := (Sv (Jc wide ps w v H)).length) (by omega)
    obtain ⟨_, h3⟩ := XX (R := Sv (Jc wide ps w v H)) (fun r hr => V8 (aa r hr) fun he => hd (by rw [← he]; exact Nd.1 hr)) h2
    refine ⟨L, ?_, h3.Sv⟩
    rw [if_neg (by rw [decide_eq_true_iff]; exact hd), UA (by omega), Aw, S3 (by omega), Aw, h1, BY]
theorem W3 (_hn : ps.length ≤ 30) {s : Nat} (hs : s < 30) (p : Nat) : (HH wide ps w v ps.length p).getD s false = (decide (s < ps.length) && Mw wide ps w v s p) := by
  unfold HH
  rw [List.getD_eq_getElem?_getD, HV _ hs]; rfl
end
end Go.Proofs.YtfmapnhfamoecabGreat
namespace Go.Proofs.YtfmapnhfamoecabGreat
open Go.PL Go.Hear
theorem O4 (x y : Int) : FY x y = some (decide (x < y)) := by
  unfold FY Gl
  simp
theorem Vt {a : List Int} {x : Int} {tl : List Int} : (a ++ x :: tl).getD a.length 0 = x := by
  rw [List.getD_eq_getElem?_getD, List.getElem?_append_right (Nat.le_refl _), Nat.sub_self]; rfl
theorem UX {a : List Int} {x y : Int} {tl : List Int} : (a ++ x :: tl).set a.length y = a ++ y :: tl := by
  rw [List.set_append_right (h := Nat.le_refl _), Nat.sub_self, List.set_cons_zero]
theorem Ri {β : Type} {xs : List Int} {i : Nat} (f : Int → Option β) (h : i < xs.length) : ix xs (i : Int) f = f (xs.getD i 0) := LQ (by omega) (by rw [Int.toNat_natCast]; exact Iq h)
theorem OT {x : Int} {tl : List Int} : ∀ (n fu : Nat) (A B : List Int), A.length = n → n < fu → n + B.length + tl.length ≤ 100000 → (A ++ B).Pairwise (· ≤ ·) → (∀ b ∈ B, x ≤ b) → ∃ R, A7 0 fu (A ++ x :: (B ++ tl)) (n : Int) = some (R ++ tl) ∧ R.Perm (A ++ x :: B) ∧ R.Pairwise (· ≤ ·)
  | _, 0, _, _, _, h, _, _, _ => absurd h (Nat.not_lt_zero _)
  | 0, fu + 1, A, B, hA, _, _, hs, hB => by
    have : A = [] := List.eq_nil_of_length_eq_zero hA
    subst this
    refine ⟨x :: B, ?_, .refl _, List.pairwise_cons.2 ⟨hB, hs⟩⟩
    unfold A7
    rw [if_neg (by omega), Aw, if_neg (by decide)]; rfl
  | n + 1, fu + 1, A, B, hA, hf, hl, hs, hB => by
    have GV : A ≠ [] := fun h => by rw [h] at hA; simp at hA
    obtain ⟨A0, y, rfl⟩ : ∃ A0 y, A = A0 ++ [y] := ⟨A.dropLast, A.getLast GV, (List.dropLast_concat_getLast GV).symm⟩
    have aa : A0.length = n := by simpa using hA
    have e1 : A0 ++ [y] ++ x :: (B ++ tl) = A0 ++ y :: x :: (B ++ tl) := by simp
    have g1 : (A0 ++ [y] ++ x :: (B ++ tl)).getD (n + 1) 0 = x := by
      have := Vt (a := A0 ++ [y]) (x := x) (tl := B ++ tl)
      rw [List.length_append, List.length_singleton, aa] at this
      exact this
    have g2 : (A0 ++ [y] ++ x :: (B ++ tl)).getD n 0 = y := by
      rw [e1, ← aa]; exact Vt
    have hlen : (A0 ++ [y] ++ x :: (B ++ tl)).length = n + 1 + 1 + B.length + tl.length := by simp [aa]; omega
    have s1 : (A0 ++ [y] ++ x :: (B ++ tl)).set (n + 1) y = A0 ++ y :: y :: (B ++ tl) := by
      have := UX (a := A0 ++ [y]) (x := x) (y := y) (tl := B ++ tl)
      rw [List.length_append, List.length_singleton, aa] at this
      rw [this]; simp
    have s2 : (A0 ++ y :: y :: (B ++ tl)).set n x = A0 ++ x :: ((y :: B) ++ tl) := by
      rw [← aa]; exact UX
    have KP := List.pairwise_append.1 hs
    have ab := List.pairwise_append.1 KP.1
    unfold A7
    rw [if_pos (by omega), Ri _ (by omega), g1, Bp (AJ (by omega)), show ((n + 1 : Nat) : Int) - 1 = (n : Int) by omega, Ri _ (by omega), g2, O4, Aw, Aw]
    by_cases hc : x < y
    · have ad : (A0 ++ (y :: B)).Pairwise (· ≤ ·) := by
        have : A0 ++ (y :: B) = A0 ++ [y] ++ B := by simp
        rw [this]; exact hs
      obtain ⟨R, r1, r2, r3⟩ := OT (x := x) (tl := tl) n fu A0 (y :: B) aa (by omega) (by rw [List.length_cons]; omega) ad (fun b hb => by
        rcases List.mem_cons.1 hb with rfl | hb
        · omega
        · exact hB b hb)
      refine ⟨R, ?_, r2.trans ?_, r3⟩
      · rw [if_pos (decide_eq_true hc), Bp (AJ (by omega)), Bp (AJ (by omega)), Ri _ (by omega), g2, Ri _ (by omega), g1, J2, Int.toNat_natCast, s1, Ri _ (by simp [aa]), J2, Int.toNat_natCast, s2, Bp (AJ (by omega)), r1]
      · rw [List.append_assoc]
        exact (List.Perm.swap y x B).append_left A0
    · refine ⟨A0 ++ [y] ++ x :: B, ?_, .refl _, ?_⟩
      · rw [if_neg (by rw [decide_eq_true_iff]; exact hc)]
        simp
      · refine List.pairwise_append.2 ⟨KP.1, List.pairwise_cons.2 ⟨hB, KP.2.1⟩, fun a ha b hb => ?_⟩
        rcases List.mem_cons.1 hb with rfl | hb
        · have : a ≤ y := by
            rcases List.mem_append.1 ha with h | h
            · exact ab.2.2 a h y (List.mem_singleton.2 rfl)
            · rw [List.mem_singleton] at h; omega
          omega
        · exact KP.2.2 a ha b hb
theorem Pq : ∀ (tl P : List Int), P.length + tl.length ≤ 10000 → P.Pairwise (· ≤ ·) → ∃ R, Bf 0 tl.length (P.length : Int) (P ++ tl) = some R ∧ R.Perm (P ++ tl) ∧ R.Pairwise (· ≤ ·)
  | [], P, _, hs => ⟨P, by rw [List.append_nil]; rfl, by rw [List.append_nil], hs⟩
  | x :: tl, P, hl, hs => by
    rw [List.length_cons] at hl
    obtain ⟨R, r1, r2, r3⟩ := OT (x := x) (tl := tl) P.length FU P [] rfl (by unfold FU; omega) (by simp; omega) (by rw [List.append_nil]; exact hs) (fun _ h => nomatch h)
    rw [List.nil_append] at r1
    have aa : R.length = P.length + 1 := by rw [r2.length_eq]; simp
    obtain ⟨S, q1, q2, q3⟩ := Pq tl R (by omega) r3
    refine ⟨S, ?_, q2.trans ?_, q3⟩
    · rw [List.length_cons]; unfold Bf
      rw [r1, Aw, show (P.length : Int) + 1 = (R.length : Int) by omega]
      exact q1
    · have := r2.append_right tl
      rw [List.append_assoc] at this
      exact this
theorem S9 {s : List Int} (hl : s.length ≤ 10000) : ∃ R, BJ s 0 (s.length : Int) = some R ∧ R.Perm s ∧ R.Pairwise (· ≤ ·) := by
  unfold BJ
  rw [Bp (AJ (by omega)), Bp ⟨AJ (by omega), AJ (by omega)⟩]
  match s, hl with
  | [], _ => exact ⟨[], rfl, .refl _, List.Pairwise.nil⟩
  | x :: tl, hl =>
    rw [List.length_cons] at hl
    obtain ⟨R, r1, r2, r3⟩ := Pq tl [x] (by simp; omega) (by simp)
    refine ⟨R, ?_, r2, r3⟩
    rw [show Int.toNat (((x :: tl).length : Int) - (0 + 1)) = tl.length by rw [List.length_cons]; omega]
    exact r1
theorem S1 {s : List Int} (hl : s.length ≤ 12) (fu : Nat) (aa : Int) : ∃ R, Bo (fu + 1) s 0 (s.length : Int) aa = some R ∧ R.Perm s ∧ R.Pairwise (· ≤ ·) := by
  obtain ⟨R, r1, r2, r3⟩ := S9 (s := s) (by omega)
  refine ⟨R, ?_, r2, r3⟩
  unfold Bo Dh
  show BD s 0 (s.length : Int) (18446744073709551615 + 1) = some R
  unfold BD
  rw [Bp (AJ (by omega)), Bp (by omega), r1, Aw]
def Ord (n : Nat) (l : List Int) : Prop := l.length = n ∧ l.Nodup ∧ ∀ x ∈ l, 0 ≤ x ∧ x < (n : Int)
theorem Mg {l : List Int} {i j : Nat} (hi : i < l.length) (hj : j < l.length) (h : l.Nodup) : ((l.set i (l.getD j 0)).set j (l.getD i 0)).Nodup := by
  have gi : l.getD i 0 = l[i] := by rw [List.getD_eq_getElem?_getD, List.getElem?_eq_getElem hi]; rfl
  have gj : l.getD j 0 = l[j] := by rw [List.getD_eq_getElem?_getD, List.getElem?_eq_getElem hj]; rfl
  rw [gi, gj, List.Nodup, List.pairwise_iff_getElem]
  have hp := List.pairwise_iff_getElem.1 h
  have inj : ∀ a b (ha : a < l.length) (hb : b < l.length), l[a] = l[b] → a = b := fun a b ha hb he => by
    rcases Nat.lt_trichotomy a b with h1 | h1 | h1
    · exact absurd he (hp a b ha hb h1)
    · exact h1
    · exact absurd he.symm (hp b a hb ha h1)
  have val : ∀ a (ha : a < ((l.set i l[j]).set j l[i]).length), ∃ b, ∃ hb : b < l.length, ((l.set i l[j]).set j l[i])[a] = l[b] ∧ b = if a = j then i else if a = i then j else a := fun a ha => by
    simp only [List.length_set] at ha
    by_cases h1 : a = j
    · subst h1
      exact ⟨i, hi, by rw [List.getElem_set_self], by rw [if_pos rfl]⟩
    · by_cases h2 : a = i
      · subst h2
        exact ⟨j, hj, by rw [List.getElem_set_ne (fun e => h1 e.symm), List.getElem_set_self], by rw [if_neg h1, if_pos rfl]⟩
      · exact ⟨a, ha, by rw [List.getElem_set_ne (fun e => h1 e.symm), List.getElem_set_ne (fun e => h2 e.symm)], by rw [if_neg h1, if_neg h2]⟩
  intro a b ha hb ad he
  obtain ⟨a', aa, e1, e2⟩ := val a ha
  obtain ⟨b', ab, e3, e4⟩ := val b hb
  have := inj a' b' aa ab (by rw [← e1, ← e3]; exact he)
  rw [e2, e4] at this
  repeat (first | omega | split at this)
theorem Pe {l : List Int} {i j : Nat} (hi : i < l.length) (hj : j < l.length) {x : Int} (h : x ∈ (l.set i (l.getD j 0)).set j (l.getD i 0)) : x ∈ l := by
  have gi : l.getD i 0 ∈ l := by rw [List.getD_eq_getElem?_getD, List.getElem?_eq_getElem hi]; exact List.getElem_mem _
  have gj : l.getD j 0 ∈ l := by rw [List.getD_eq_getElem?_getD, List.getElem?_eq_getElem hj]; exact List.getElem_mem _
  rcases List.mem_or_eq_of_mem_set h with h | rfl
  · rcases List.mem_or_eq_of_mem_set h with h | rfl
    · exact h
    · exact gj
  · exact gi
section
variable {metal : List Int}
theorem Nk (hm : (metal.length : Int) ≤ 9223372036854775807) : ∀ (fu k : Nat) (a t : Int) (out : List Int), (0 ≤ a ∧ a ≤ metal.length) → Ord k out → k + fu ≤ 100000 → ∃ r a' t', BV metal fu (k : Int) a t out = some (r, a', t') ∧ Ord (k + fu) r ∧ (0 ≤ a' ∧ a' ≤ metal.length)
  | 0, k, a, t, out, ha, ho, _ => ⟨out, a, t, rfl, ho, ha⟩
  | fu + 1, k, a, t, out, ha, ho, hk => by
    obtain ⟨h1, h2, h3⟩ := ho
    obtain ⟨n, a1, t1, e1, g1, g2, g3⟩ := Hz (t := t) (n := (k : Int)) ha hm (by omega)
    obtain ⟨n, rfl⟩ := Int.eq_ofNat_of_zero_le g1
    have hn : n ≤ k := by omega
    have hl : (out ++ [(k : Int)]).length = k + 1 := by simp [h1]
    have ab : (out ++ [(k : Int)]).Nodup := by
      rw [List.nodup_append]
      refine ⟨h2, by simp, fun x hx y hy he => ?_⟩
      rw [List.mem_singleton] at hy
      have := h3 x hx
      omega
    have aa : ∀ x ∈ out ++ [(k : Int)], 0 ≤ x ∧ x < ((k + 1 : Nat) : Int) := fun x hx => by
      rcases List.mem_append.1 hx with h | h
      · have := h3 x h; omega
      · rw [List.mem_singleton] at h; omega
    have hO : Ord (k + 1) (((out ++ [(k : Int)]).set n ((out ++ [(k : Int)]).getD k 0)).set k ((out ++ [(k : Int)]).getD n 0)) :=
      ⟨by simp [h1], Mg (by omega) (by omega) ab, fun x hx => aa x (Pe (by omega) (by omega) hx)⟩
    obtain ⟨r, a2, t2, q1, q2, q3⟩ := Nk hm fu (k + 1) a1 t1 _ g3 hO (by omega)
    refine ⟨r, a2, t2, ?_, by rw [show k + (fu + 1) = k + 1 + fu by omega]; exact q2, q3⟩
    unfold BV
    rw [e1, Dg, Iv (by omega), Ri _ (by omega), Ri _ (by omega), J2, Int.toNat_natCast, Ri _ (by rw [List.length_set]; omega), J2, Int.toNat_natCast, show (k : Int) + 1 = ((k + 1 : Nat) : Int) by omega]
    exact q1
theorem TC (hm : (metal.length : Int) ≤ 9223372036854775807) {a t : Int} (ha : 0 ≤ a ∧ a ≤ metal.length) {n : Nat} (hn : n ≤ 1000) : ∃ r a' t', D8 metal a t (n : Int) = some (r, a', t') ∧ Ord n r ∧ (0 ≤ a' ∧ a' ≤ metal.length) := by
  obtain ⟨r, a', t', h1, h2, h3⟩ := Nk hm n 0 a t [] ha ⟨rfl, List.nodup_nil, fun _ h => nomatch h⟩ (by omega)
  rw [Nat.zero_add] at h2
  refine ⟨r, a', t', ?_, h2, h3⟩
  have e : (if (n : Int) > 0 then (n : Int) else 0) = (n : Int) := by split <;> omega
  have aa : BV metal n 0 a t [] = some (r, a', t') := h1
  unfold D8
  rw [e, Bp ⟨AJ (by omega), AJ (by omega)⟩, show Int.toNat ((n : Int) - 0) = n by omega, aa, Dg]
end
section
variable {wide : Int} {ps : List Int} {w v : Int}
end
end Go.Proofs.YtfmapnhfamoecabGreat
namespace Go.Proofs.YtfmapnhfamoecabGreat
open Go.PL Go.Hear
section
variable {n : Nat} {E E' : Int → List (Int × Int)} {s : Int} {to : Int → Int}
end
section
variable {down : Bool} {wide rows w : Int} {ps : List Int}
end
end Go.Proofs.YtfmapnhfamoecabGreat
namespace Go.Proofs.YtfmapnhfamoecabGreat
open Go.PL Go.Hear
def Gd (Yb : Nat → Nat → Bool) (hi : Nat) : Nat → List Nat → List Nat → Prop
  | _, _, [] => True
  | f, l, x :: t => (f ≤ x ∧ x < hi) ∧ (l.all fun k => !Yb k x) = true ∧ Gd Yb hi (x + 1) (l ++ [x]) t
section
variable {Yb : Nat → Nat → Bool}
theorem Gd.WT {hi f g : Nat} {l t : List Nat} (h : Gd Yb hi g l t) (hf : f ≤ g) : Gd Yb hi f l t := by
  cases t with
  | nil => trivial
  | cons x t => exact ⟨⟨by have := h.1; omega, h.1.2⟩, h.2⟩
end
def Uz (x y : List Bool) : Bool := (List.range 30).any fun s => x.getD s false && y.getD s false
theorem OD {x y : List Bool} : Uz x y = false ↔ ∀ s, s < 30 → ¬ (x.getD s false = true ∧ y.getD s false = true) := by
  unfold Uz
  rw [List.any_eq_false]
  constructor
  · intro h s hs hc
    exact h s (List.mem_range.2 hs) (by rw [hc.1, hc.2]; rfl)
  · intro h s hs hc
    rw [Bool.and_eq_true] at hc
    exact h s (List.mem_range.1 hs) hc
structure U8 (f : Int → List Bool) (H A : List Int) : Prop where
  nd : A.Nodup
  sub : ∀ h ∈ A, h ∈ H
  ap : A.Pairwise fun h k => Uz (f h) (f k) = false
  max : ∀ S : List Int, S.Nodup → (∀ h ∈ S, h ∈ H) → (S.Pairwise fun h k => Uz (f h) (f k) = false) → S.length ≤ A.length
section
variable {f : Int → List Bool} {H A H' A' : List Int}
theorem U8.map_le {f' : Int → List Bool} {to : Int → Int} (h : U8 f H A) (h' : U8 f' H' A') (aa : ∀ x ∈ H, ∀ y ∈ H, to x = to y → x = y) (ab : ∀ x ∈ H, to x ∈ H') (hc : ∀ x ∈ H, ∀ y ∈ H, Uz (f x) (f y) = false → Uz (f' (to x)) (f' (to y)) = false) : A.length ≤ A'.length := by
  have := h'.max (A.map to) ?_ (fun x hx => ?_) ?_
  · rwa [List.length_map] at this
  · rw [List.Nodup, List.pairwise_map]
    exact List.Pairwise.imp_of_mem (fun {a b} ha hb ad he => ad (aa a (h.sub a ha) b (h.sub b hb) he)) h.nd
  · obtain ⟨y, hy, rfl⟩ := List.mem_map.1 hx
    exact ab y (h.sub y hy)
  · rw [List.pairwise_map]
    exact List.Pairwise.imp_of_mem (fun {a b} ha hb ad => hc a (h.sub a ha) b (h.sub b hb) ad) h.ap
end
def Wi (C : List Nat) : List Nat := (List.range' 0 30).filter fun s => decide (s ∈ C)
theorem QR {C : List Nat} {s : Nat} : s ∈ Wi C ↔ s < 30 ∧ s ∈ C := by
  unfold Wi
  rw [List.mem_filter, List.mem_range', decide_eq_true_iff]
  constructor
  · rintro ⟨⟨i, h1, rfl⟩, h2⟩; exact ⟨by omega, h2⟩
  · rintro ⟨h1, h2⟩; exact ⟨⟨s, h1, by omega⟩, h2⟩
theorem TS (C : List Nat) : M9 0 (Wi C) := SL 30 0 (by omega)
theorem Tw (C : List Nat) : (Wi C).length ≤ C.length := by
  have aa : (Wi C).Nodup := List.Pairwise.filter _ (List.nodup_range' ..)
  exact aa.length_le_of_subset fun s hs => (QR.1 hs).2
theorem Tk {R : List (List Bool)} {C : List Nat} (h : ∀ r ∈ R, ∃ s ∈ C, s < 30 ∧ r.getD s false = true) : T7 R (Wi C) := fun r hr => by
  obtain ⟨s, h1, h2, h3⟩ := h r hr
  exact ⟨s, QR.2 ⟨h2, h1⟩, h3⟩
theorem pick {R : List (List Bool)} {C : List Nat} (h : ∀ r ∈ R, ∃ s ∈ C, s < 30 ∧ r.getD s false = true) : ∃ L, M9 0 L ∧ T7 R L ∧ L.length ≤ R.length ∧ L.length ≤ C.length ∧ ∀ s ∈ L, s ∈ C := by
  have key : ∀ R : List (List Bool), (∀ r ∈ R, ∃ s ∈ C, s < 30 ∧ r.getD s false = true) → ∃ D : List Nat, D.length = R.length ∧ (∀ s ∈ D, s ∈ C ∧ s < 30) ∧ T7 R D := by
    intro R
    induction R with
    | nil => intro _; exact ⟨[], rfl, (fun _ h => by cases h), fun _ h => by cases h⟩
    | cons r R ih =>
      intro h
      obtain ⟨D, h1, h2, h3⟩ := ih fun x hx => h x (List.mem_cons_of_mem _ hx)
      obtain ⟨s, h4, h5, h6⟩ := h r (List.mem_cons_self ..)
      refine ⟨s :: D, by rw [List.length_cons, h1, List.length_cons], fun x hx => ?_, fun x hx => ?_⟩
      · rcases List.mem_cons.1 hx with rfl | hx
        · exact ⟨h4, h5⟩
        · exact h2 x hx
      · rcases List.mem_cons.1 hx with rfl | hx
        · exact ⟨s, List.mem_cons_self .., h6⟩
        · obtain ⟨t, ht, h7⟩ := h3 x hx
          exact ⟨t, List.mem_cons_of_mem _ ht, h7⟩
  obtain ⟨D, h1, h2, h3⟩ := key R h
  have hm : ∀ s ∈ Wi D, s ∈ C := fun s hs => (h2 s (QR.1 hs).2).1
  refine ⟨Wi D, TS D, Tk fun r hr => ?_, by rw [← h1]; exact Tw D, ?_, hm⟩
  · obtain ⟨s, hs, h4⟩ := h3 r hr
    exact ⟨s, hs, (h2 s hs).2, h4⟩
  · have aa : (Wi D).Nodup := List.Pairwise.filter _ (List.nodup_range' ..)
    exact aa.length_le_of_subset hm
theorem Ly.le {R : List (List Bool)} {L : List Nat} (h : Ly R L) {C : List Nat} (hC : ∀ r ∈ R, ∃ s ∈ C, s < 30 ∧ r.getD s false = true) : L.length ≤ C.length := by
  have := h.min (Wi C) (TS C) (Tk hC)
  have := Tw C
  omega
end Go.Proofs.YtfmapnhfamoecabGreat
namespace Go.Proofs.YtfmapnhfamoecabGreat
open Go.PL Go.Hear
theorem Pr : ((List.range 256).all fun k : Nat => (Ft ((k : Int) % 18446744073709551616)).isSome) = true := by decide +kernel
theorem Qk {k : Nat} (h : k < 256) : ∃ n, Ft ((k : Int) % 18446744073709551616) = some n := by
  have := (List.all_eq_true.1 Pr) k (List.mem_range.2 h)
  exact Option.isSome_iff_exists.1 this
theorem Qy {s : List Int} (hl : s.length ≤ 12) : ∃ R, Dw s = some R ∧ R.Perm s ∧ R.Pairwise (· ≤ ·) := by
  obtain ⟨n, hn⟩ := Qk (k := s.length) (by omega)
  obtain ⟨R, h1, h2⟩ := S1 hl 18446744073709551615 n
  refine ⟨R, ?_, h2⟩
  have aa : Bo FU s 0 (s.length : Int) n = some R := h1
  unfold Dw
  rw [hn, Aw, aa, Aw]
theorem values_eq : ∀ l : List Int, Ci l = some l := fun l => by
  have key : ∀ l : List Int, BF l = some l := fun l => by
    induction l with
    | nil => rfl
    | cons x l ih => unfold BF; rw [ih]; rfl
  unfold Ci DP
  rw [key, Aw]
theorem J0 : ∀ (l acc : List Int), acc.length + l.length ≤ 100000 → Bi l acc = some (acc ++ l)
  | [], acc, _ => by simp [Bi]
  | x :: l, acc, h => by
    rw [List.length_cons] at h
    unfold Bi
    rw [Iv (by simp; omega), J0 l (acc ++ [x]) (by simp; omega)]
    simp
theorem Pu {s : List Int} (hl : s.length ≤ 12) : ∃ R, (b1 (Ci s) fun y => D7 y) = some R ∧ R.Perm s ∧ R.Pairwise (· ≤ ·) := by
  obtain ⟨R, h1, h2⟩ := Qy hl
  refine ⟨R, ?_, h2⟩
  unfold D7 EY DB
  rw [values_eq, Aw, J0 s [] (by simp; omega), Aw, Aw, List.nil_append, Aw, h1, Aw]
theorem Od {f : Int → Option Bool} {p : Int → Bool} : ∀ (l : List Int) (k : Int), (∀ x ∈ l, f x = some (p x)) → 0 ≤ k → ∃ n, Bw f l k = some n ∧ (0 ≤ n ↔ l.any p = true)
  | [], k, _, _ => ⟨-1, rfl, by simp⟩
  | x :: l, k, h, hk => by
    obtain ⟨n, h1, h2⟩ := Od l (k + 1) (fun y hy => h y (List.mem_cons_of_mem _ hy)) (by omega)
    unfold Bw
    rw [h x (List.mem_cons_self ..), Aw]
    cases hp : p x with
    | true => exact ⟨k, by rw [if_pos rfl], by simp [hp, hk]⟩
    | false => exact ⟨n, by rw [if_neg (by decide)]; exact h1, by rw [h2]; simp [hp]⟩
end Go.Proofs.YtfmapnhfamoecabGreat
namespace Go.Proofs.YtfmapnhfamoecabGreat
open Go.PL Go.Hear
section
variable {wide : Int} {ps : List Int} {w v : Int}
theorem Tm : ∀ {r pre : List Int}, US ps pre r = 0 ↔ (∀ x ∈ r, PJ ps x 1 = 0) ∧ (∀ x ∈ r, x ∉ pre) ∧ r.Nodup
  | [], pre => by
    constructor
    · intro _; exact ⟨(fun _ h => by cases h), (fun _ h => by cases h), List.Pairwise.nil⟩
    · intro _; rfl
  | y :: r, pre => by
    have ih := Tm (r := r) (pre := pre ++ [y])
    unfold US
    by_cases h1 : PJ ps y 1 = 0
    · rw [if_neg (not_not_intro h1)]
      by_cases h2 : y ∈ pre
      · rw [if_pos h2]
        constructor
        · intro h; cases h
        · rintro ⟨_, h, _⟩; exact absurd h2 (h y (List.mem_cons_self ..))
      · rw [if_neg h2, ih, List.nodup_cons]
        constructor
        · rintro ⟨a, b, c⟩
          refine ⟨fun x hx => ?_, fun x hx => ?_, fun hy => ?_, c⟩
          · rcases List.mem_cons.1 hx with rfl | hx
            · exact h1
            · exact a x hx
          · rcases List.mem_cons.1 hx with rfl | hx
            · exact h2
            · exact fun hp => b x hx (List.mem_append.2 (.inl hp))
          · exact b y hy (List.mem_append.2 (.inr (List.mem_singleton.2 rfl)))
        · rintro ⟨a, b, c, d⟩
          refine ⟨fun x hx => a x (List.mem_cons_of_mem _ hx), fun x hx hp => ?_, d⟩
          rcases List.mem_append.1 hp with hp | hp
          · exact b x (List.mem_cons_of_mem _ hx) hp
          · rw [List.mem_singleton] at hp; subst hp; exact c hx
    · rw [if_pos h1]
      constructor
      · intro h; exact absurd h h1
      · rintro ⟨h, _, _⟩; exact absurd (h y (List.mem_cons_self ..)) h1
theorem Vb {H : List Int} : O2 wide ps w v H = 0 ↔ Hm wide ps w v = 0 ∧ (∀ x ∈ H, PJ ps x 1 = 0) ∧ H.Nodup := by
  unfold O2
  by_cases h : Hm wide ps w v = 0
  · rw [if_neg (not_not_intro h), Tm]
    constructor
    · rintro ⟨a, _, b⟩; exact ⟨h, a, b⟩
    · rintro ⟨_, a, b⟩; exact ⟨a, (fun _ _ h => by cases h), b⟩
  · rw [if_pos h]
    constructor
    · intro h'; exact absurd h' h
    · rintro ⟨h', _⟩; exact absurd h' h
def T6 (wide : Int) (ps : List Int) (w v : Int) (h : Int) : List Bool := HH wide ps w v ps.length h.toNat
theorem TV (H : List Int) : Jc wide ps w v H = H.map (T6 wide ps w v) := rfl
section
variable {R : List (List Bool)} {own : List Int} {count : Int → Option Int}
end
end
end Go.Proofs.YtfmapnhfamoecabGreat
namespace Go.Proofs.YtfmapnhfamoecabGreat
open Go.PL Go.Hear
theorem Sg {kind : Int} : ∀ (l : List Int) (k : Int), (JV kind l k).Pairwise (· < ·)
  | [], _ => List.Pairwise.nil
  | y :: l, k => by
    have ih := Sg (kind := kind) l (k + 1)
    unfold JV
    by_cases hy : y = kind
    · rw [if_pos hy, List.pairwise_cons]
      refine ⟨fun x hx => ?_, ih⟩
      have := (Nq l (k + 1) x).1 hx
      omega
    · rw [if_neg hy]; exact ih
theorem Se {kind : Int} (l : List Int) (k : Int) : (JV kind l k).Nodup := (Sg l k).imp fun h => by omega
theorem NX : ∀ (l : List Int) (k : Int), (JV 1 l k).length = HK l
  | [], _ => rfl
  | y :: l, k => by
    have ih := NX l (k + 1)
    unfold JV
    unfold HK at ih ⊢
    by_cases hy : y = 1
    · rw [if_pos hy, List.length_cons, ih, List.filter_cons_of_pos (by simpa using hy)]; rfl
    · rw [if_neg hy, ih, List.filter_cons_of_neg (by simpa using hy)]
theorem Xi {kind : Int} {ps : List Int} {x : Int} : x ∈ JV kind ps 0 ↔ (0 ≤ x ∧ x < ps.length) ∧ ps.getD x.toNat 0 = kind := by
  rw [Nq, Int.sub_zero, Int.zero_add]
  constructor
  · rintro ⟨a, b, c⟩; exact ⟨⟨a, b⟩, c⟩
  · rintro ⟨⟨a, b⟩, c⟩; exact ⟨a, b, c⟩
theorem SA {ps : List Int} {p kind : Int} (h : (0 ≤ p ∧ p < ps.length) ∧ ps.getD p.toNat 0 = kind) : PJ ps p kind = 0 := by
  unfold PJ
  rw [if_neg (not_not_intro ⟨h.1.1, by omega⟩), if_neg (not_not_intro h.2)]
section
variable {wide : Int} {ps : List Int} {w v : Int}
theorem Oa (hc : Mv wide ps = 0) (hw : okW w) (hv : 1 ≤ v ∧ v ≤ 40) : Hm wide ps w v = 0 := by
  unfold Hm RI
  rw [if_neg (not_not_intro hc), if_neg]
  rintro (h | h)
  · exact h hw
  · exact h hv
structure Hs (wide : Int) (ps : List Int) (w v : Int) (H : List Int) : Prop where
  ck : Mv wide ps = 0
  ww : okW w
  vv : 1 ≤ v ∧ v ≤ 40
  is : ∀ x ∈ H, (0 ≤ x ∧ x < ps.length) ∧ ps.getD x.toNat 0 = 1
  nd : H.Nodup
theorem Hs.Zd {H : List Int} (h : Hs wide ps w v H) : Hm wide ps w v = 0 := Oa h.ck h.ww h.vv
theorem Hs.ask {H : List Int} (h : Hs wide ps w v H) : O2 wide ps w v H = 0 := Vb.2 ⟨h.Zd, fun x hx => SA (h.is x hx), h.nd⟩
theorem Hs.open {H : List Int} (h : Hs wide ps w v H) : GY wide ps w = 0 := Sr h.ck h.ww
theorem Hs.RD {H : List Int} (h : Hs wide ps w v H) : ps.length ≤ 30 := (HY h.open).2.1.2
theorem Hs.all (hc : Mv wide ps = 0) (hw : okW w) (hv : 1 ≤ v ∧ v ≤ 40) : Hs wide ps w v (JV 1 ps 0) := ⟨hc, hw, hv, fun _ hx => Xi.1 hx, Se ps 0⟩
theorem Hs.sub {H H' : List Int} (h : Hs wide ps w v H) (hs : ∀ x ∈ H', x ∈ H) (hn : H'.Nodup) : Hs wide ps w v H' := ⟨h.ck, h.ww, h.vv, fun x hx => h.is x (hs x hx), hn⟩
theorem Hs.len {H : List Int} (h : Hs wide ps w v H) : H.length ≤ 10 := by
  have h1 : H.length ≤ (JV 1 ps 0).length := h.nd.length_le_of_subset fun x hx => Xi.2 (h.is x hx)
  rw [NX] at h1
  have := (HY h.open).2.2.2.2.2
  omega
theorem Hs.Cf {H : List Int} (h : Hs wide ps w v H) {v' : Int} (hv : 1 ≤ v' ∧ v' ≤ 40) : Hs wide ps w v' H := ⟨h.ck, h.ww, hv, h.is, h.nd⟩
theorem TB (P : Nat → Bool) (n : Nat) : (Dc P n).Pairwise (· < ·) := by
  unfold Dc
  rw [List.pairwise_map]
  exact (List.pairwise_lt_range.filter P).imp fun h => by simp only [Int.ofNat_eq_natCast]; omega
def UG (wide : Int) (ps : List Int) (w v : Int) (h : Int) : List Int := Dc (fun s => Mw wide ps w v s h.toNat) ps.length
theorem VI (hn : ps.length ≤ 30) {s : Nat} (hs : s < 30) (h : Int) : (T6 wide ps w v h).getD s false = (decide (s < ps.length) && Mw wide ps w v s h.toNat) := W3 hn hs h.toNat
theorem Uu (hn : ps.length ≤ 30) {s : Nat} (hs : s < 30) {h : Int} : (T6 wide ps w v h).getD s false = true ↔ s < ps.length ∧ Mw wide ps w v s h.toNat = true := by
  rw [VI hn hs, Bool.and_eq_true, decide_eq_true_iff]
theorem Ur {s p : Nat} (h : Mw wide ps w v s p = true) : ps.getD s 0 = 0 := by
  unfold Mw at h
  rw [Bool.and_eq_true, decide_eq_true_iff] at h
  exact h.1
theorem Sh (hn : ps.length ≤ 30) {H : List Int} : List.replicate 30 false ∈ Jc wide ps w v H ↔ ∃ h ∈ H, UG wide ps w v h = [] := by
  rw [TV, List.mem_map]
  constructor
  · rintro ⟨h, h1, h2⟩; exact ⟨h, h1, (NN hn).1 h2⟩
  · rintro ⟨h, h1, h2⟩; exact ⟨h, h1, (NN hn).2 h2⟩
theorem Lz {h : Int} {s : Int} : s ∈ UG wide ps w v h ↔ (0 ≤ s ∧ s < ps.length) ∧ Mw wide ps w v s.toNat h.toNat = true := JZ
end
end Go.Proofs.YtfmapnhfamoecabGreat
namespace Go.Proofs.YtfmapnhfamoecabGreat
open Go.PL Go.Hear
def Xy (f : Int → List Bool) (k : Nat) (H : List Int) : Prop := ∃ C : List Nat, C.length ≤ k ∧ ∀ h ∈ H, ∃ s ∈ C, s < 30 ∧ (f h).getD s false = true
section
variable {wide : Int} {ps : List Int} {w v : Int}
theorem UQ {C : List Nat} {H : List Int} : (∀ r ∈ Jc wide ps w v H, ∃ s ∈ C, s < 30 ∧ r.getD s false = true) ↔ ∀ h ∈ H, ∃ s ∈ C, s < 30 ∧ (T6 wide ps w v h).getD s false = true := by
  rw [TV]
  constructor
  · intro h x hx; exact h _ (List.mem_map.2 ⟨x, hx, rfl⟩)
  · intro h r hr
    obtain ⟨x, hx, rfl⟩ := List.mem_map.1 hr
    exact h x hx
theorem XD {H : List Int} (hH : Hs wide ps w v H) : ((∃ h ∈ H, UG wide ps w v h = []) ∧ FT wide ps w v H = some ([], 6)) ∨ ((∀ h ∈ H, UG wide ps w v h ≠ []) ∧ ∃ L, FT wide ps w v H = some (L.map Int.ofNat, 0) ∧ Ly (Jc wide ps w v H) L) := by
  have hn := hH.RD
  have hl := hH.len
  rcases Uc (by omega) (by omega) hH.ask with ⟨h1, h2⟩ | ⟨h1, h2⟩
  · exact .inl ⟨(Sh hn).1 h1, h2⟩
  · exact .inr ⟨fun h hh he => h1 ((Sh hn).2 ⟨h, hh, he⟩), h2⟩
theorem Ly.XH {H : List Int} {L : List Nat} (h : Ly (Jc wide ps w v H) L) : ∀ x ∈ H, ∃ s ∈ L, s < 30 ∧ (T6 wide ps w v x).getD s false = true := UQ.1 fun r hr => by
  obtain ⟨s, h1, h2⟩ := h.all r hr
  exact ⟨s, h1, (h.inc.mem s h1).2, h2⟩
theorem Wp {H : List Int} {L : List Nat} (h : Ly (Jc wide ps w v H) L) {k : Nat} : L.length ≤ k ↔ Xy (T6 wide ps w v) k H := by
  constructor
  · intro hk; exact ⟨L, hk, h.XH⟩
  · rintro ⟨C, h1, h2⟩
    exact Nat.le_trans (h.le (UQ.2 h2)) h1
end
structure MP (f f' : Int → List Bool) (H H' : List Int) (to : Int → Int) (ts : Nat → Nat) : Prop where
  sub : ∀ h ∈ H, to h ∈ H'
  back : ∀ h' ∈ H', ∃ h ∈ H, to h = h'
  inj : ∀ x ∈ H, ∀ y ∈ H, to x = to y → x = y
  row : ∀ h ∈ H, ∀ s, s < 30 → (f h).getD s false = true → ts s < 30 ∧ (f' (to h)).getD (ts s) false = true
  Y4 : ∀ h ∈ H, ∀ s, s < 30 → (f' (to h)).getD s false = true → ts s < 30 ∧ (f h).getD (ts s) false = true
section
variable {f f' : Int → List Bool} {H H' : List Int} {to : Int → Int} {ts : Nat → Nat}
theorem MP.can (h : MP f f' H H' to ts) {k : Nat} (hc : Xy f k H) : Xy f' k H' := by
  obtain ⟨C, c1, c2⟩ := hc
  refine ⟨C.map ts, by rw [List.length_map]; exact c1, fun x hx => ?_⟩
  obtain ⟨y, hy, rfl⟩ := h.back x hx
  obtain ⟨s, s1, s2, s3⟩ := c2 y hy
  obtain ⟨r1, r2⟩ := h.row y hy s s2 s3
  exact ⟨ts s, List.mem_map.2 ⟨s, s1, rfl⟩, r1, r2⟩
theorem MP.ap (h : MP f f' H H' to ts) {A A' : List Int} (ha : U8 f H A) (aa : U8 f' H' A') : A.length ≤ A'.length := by
  refine ha.map_le aa h.inj h.sub fun x hx y hy hc => OD.2 fun s hs hb => ?_
  obtain ⟨r1, r2⟩ := h.Y4 x hx s hs hb.1
  obtain ⟨_, r3⟩ := h.Y4 y hy s hs hb.2
  exact OD.1 hc (ts s) r1 ⟨r2, r3⟩
end
section
variable {down : Bool} {wide rows w v : Int} {ps : List Int}
end
end Go.Proofs.YtfmapnhfamoecabGreat
