/- Layer 1: who hears whom; HearHouses. -/
import Derived.Test.YtfmapnhfamoecaaGreatZRMA
namespace Go.Proofs.YtfmapnhfamoecaaGreat
open Go.PL Go.Hear
def CJ (P : Nat → Bool) (n : Nat) : List Int := ((List.range n).filter P).map Int.ofNat
theorem Ld (P : Nat → Bool) (n : Nat) : CJ P (n + 1) = CJ P n ++ if P n = true then [(n : Int)] else [] := by
  unfold CJ
  rw [List.range_succ, List.filter_append, List.map_append]
  cases h : P n <;> simp [h]
theorem QV (P : Nat → Bool) (n : Nat) : (CJ P n).length ≤ n := by
  unfold CJ
  rw [List.length_map]
  exact Nat.le_trans (List.length_filter_le ..) (by simp)
theorem Nt {P Q : Nat → Bool} {n : Nat} (h : ∀ i, i < n → P i = Q i) : CJ P n = CJ Q n := by
  unfold CJ
  congr 1
  exact List.filter_congr fun i hi => h i (List.mem_range.1 hi)
theorem K4 {P : Nat → Bool} {n : Nat} {x : Int} : x ∈ CJ P n ↔ (0 ≤ x ∧ x < n) ∧ P x.toNat = true := by
  unfold CJ
  rw [List.mem_map]
  constructor
  · rintro ⟨i, hi, rfl⟩
    obtain ⟨h1, h2⟩ := List.mem_filter.1 hi
    have := List.mem_range.1 h1
    exact ⟨⟨Int.natCast_nonneg i, by show (i : Int) < n; omega⟩, h2⟩
  · rintro ⟨h1, h2⟩
    exact ⟨x.toNat, List.mem_filter.2 ⟨List.mem_range.2 (by omega), h2⟩, by show ((x.toNat : Nat) : Int) = x; omega⟩
theorem Tb {P : Nat → Bool} {n : Nat} : CJ P n = [] ↔ ∀ i, i < n → P i = false := by
  constructor
  · intro h i hi
    cases hP : P i with
    | false => rfl
    | true =>
      have : (i : Int) ∈ CJ P n := K4.2 ⟨by omega, by simpa using hP⟩
      rw [h] at this; simp at this
  · intro h
    rw [Nt (Q := fun _ => false) h]
    simp [CJ]
def DR {β : Type} (f : Nat → β) (n : Nat) : List β := (List.range n).map f
theorem DJ {β : Type} (f : Nat → β) (n : Nat) : (DR f n).length = n := by simp [DR]
theorem Jf {β : Type} (f : Nat → β) {n i : Nat} (h : i < n) : (DR f n)[i]? = some (f i) := by
  unfold DR; rw [List.getElem?_map, List.getElem?_range h]; rfl
theorem H8 {β : Type} {f g : Nat → β} {n : Nat} (h : ∀ i, i < n → f i = g i) : DR f n = DR g n := by
  unfold DR
  exact List.map_congr_left fun i hi => h i (List.mem_range.1 hi)
theorem S5 {β : Type} (f : Nat → β) {n j : Nat} (y : β) : (DR f n).set j y = DR (fun p => if p = j then y else f p) n := by
  apply List.ext_getElem?
  intro i
  rw [List.getElem?_set, DJ]
  by_cases hi : i < n
  · rw [Jf _ hi, Jf _ hi]
    by_cases hj : j = i
    · subst hj; rw [if_pos rfl, if_pos hi, if_pos rfl]
    · rw [if_neg hj, if_neg (fun h => hj h.symm)]
  · have h1 : (DR f n)[i]? = none := List.getElem?_eq_none (by rw [DJ]; omega)
    have h2 : (DR (fun p => if p = j then y else f p) n)[i]? = none := List.getElem?_eq_none (by rw [DJ]; omega)
    rw [h1, h2]
    by_cases hj : j = i
    · rw [if_pos hj, if_neg (by omega)]
    · rw [if_neg hj]
section
variable {wide : Int} {ps : List Int} {w v : Int}
def OC (wide : Int) (ps : List Int) (w v : Int) (s p : Nat) : Bool := decide (ps.getD s 0 = 0) && (decide (ps.getD p 0 = 1) && decide (0 ≤ (tb wide ps w s).getD p 0 ∧ (tb wide ps w s).getD p 0 ≤ v))
def bZ (ps T : List Int) (v : Int) (p : Nat) : Bool := decide (ps.getD p 0 = 1) && decide (0 ≤ T.getD p 0 ∧ T.getD p 0 ≤ v)
theorem Z8 {s : Nat} (h : ps.getD s 0 = 0) (p : Nat) : OC wide ps w v s p = bZ ps (tb wide ps w s) v p := by
  unfold OC bZ; rw [decide_eq_true h, Bool.true_and]
theorem W2 {s : Nat} (h : ps.getD s 0 ≠ 0) (p : Nat) : OC wide ps w v s p = false := by
  unfold OC; rw [decide_eq_false h, Bool.false_and]
def IN (wide : Int) (ps : List Int) (w v : Int) (k p : Nat) : List Bool := DR (fun s => decide (s < k) && OC wide ps w v s p) 30
theorem Xf {k p : Nat} (h : OC wide ps w v k p = true) : (IN wide ps w v k p).set k true = IN wide ps w v (k + 1) p := by
  unfold IN
  rw [S5]
  refine H8 fun s _ => ?_
  by_cases hs : s = k
  · subst hs; rw [if_pos rfl, h, decide_eq_true (by omega)]; rfl
  · rw [if_neg hs]; congr 1; rw [decide_eq_decide]; omega
theorem UY {k p : Nat} (h : OC wide ps w v k p = false) : IN wide ps w v k p = IN wide ps w v (k + 1) p := by
  unfold IN
  refine H8 fun s _ => ?_
  by_cases hs : s = k
  · subst hs; rw [h, Bool.and_false, Bool.and_false]
  · congr 1; rw [decide_eq_decide]; omega
theorem SY (hn : ps.length ≤ 30) {k : Nat} (hk : k < ps.length) (hz : ps.getD k 0 = 0) {T : List Int} (hT : T = tb wide ps w k) (hl : T.length = ps.length) : ∀ (r : List Int) (j : Nat), T.drop j = r → CL ps v (k : Int) r (j : Int) (DR (fun p => IN wide ps w v (if p < j then k + 1 else k) p) ps.length) = some (DR (IN wide ps w v (k + 1)) ps.length)
  | [], j, hr => by
    have : ps.length ≤ j := by
      have := congrArg List.length hr
      rw [List.length_drop, List.length_nil] at this; omega
    unfold CL
    congr 1
    exact H8 fun p hp => by rw [if_pos (by omega)]
  | x :: r, j, hr => by
    obtain ⟨hj, hx, aa⟩ := QC hr
    have ih := SY hn hk hz hT hl r (j + 1) aa
    have e : (if ps.getD (j : Int).toNat 0 = 1 then b1 (H3 x 0 v) fun ok => some ok else some false) = some (OC wide ps w v k j) := by
      rw [Kf, Ap, Z8 hz, ← hT]
      unfold bZ
      rw [Int.toNat_natCast, hx]
      by_cases h : ps.getD j 0 = 1
      · rw [if_pos h, decide_eq_true h, Bool.true_and]
      · rw [if_neg h, decide_eq_false h, Bool.false_and]
    unfold CL
    rw [Ia _ (by omega) (by omega), e, Ap]
    have ek : ((j : Int) + 1) = ((j + 1 : Nat) : Int) := rfl
    cases hb : OC wide ps w v k j with
    | true =>
      rw [if_pos rfl, NV (x := IN wide ps w v k j) (by omega) (by rw [Int.toNat_natCast, Jf _ (by omega), if_neg (Nat.lt_irrefl _)]), NV (x := false) (by omega) (by
        unfold IN
        rw [Int.toNat_natCast, Jf _ (by omega), decide_eq_false (Nat.lt_irrefl _), Bool.false_and]), Lv, Int.toNat_natCast, Int.toNat_natCast, Xf hb, S5, ek]
      rw [← ih]
      congr 1
      refine H8 fun p _ => ?_
      by_cases hp : p = j
      · subst hp; rw [if_pos rfl, if_pos (by omega)]
      · rw [if_neg hp]; congr 1
        by_cases h2 : p < j
        · rw [if_pos h2, if_pos (by omega)]
        · rw [if_neg h2, if_neg (by omega)]
    | false =>
      rw [if_neg (by decide), ek, ← ih]
      congr 1
      refine H8 fun p _ => ?_
      by_cases hp : p = j
      · subst hp; rw [if_neg (Nat.lt_irrefl _), if_pos (by omega), UY hb]
      · congr 1
        by_cases h2 : p < j
        · rw [if_pos h2, if_pos (by omega)]
        · rw [if_neg h2, if_neg (by omega)]
theorem To (ho : FF wide ps w = 0) : ∀ (r : List Int) (k : Nat), ps.drop k = r → k ≤ ps.length → Dv wide ps (JC w) (Jv w) (Mm w) v r (k : Int) (DR (IN wide ps w v k) ps.length) = some (DR (IN wide ps w v ps.length) ps.length)
  | [], k, hr, hk => by
    have h := congrArg List.length hr
    rw [List.length_drop, List.length_nil] at h
    have : k = ps.length := by omega
    subst this; rfl
  | x :: r, k, hr, _ => by
    have hn := (IL ho).2.1
    obtain ⟨hk, hx, aa⟩ := QC hr
    have ih := To ho r (k + 1) aa (by omega)
    have ek : ((k : Int) + 1) = ((k + 1 : Nat) : Int) := rfl
    unfold Dv
    by_cases hz : x = 0
    · rw [if_neg (not_not_intro hz), Vk ho (by omega), Ap]
      have h2 := SY (v := v) (w := w) (wide := wide) hn.2 hk (by rw [hx]; exact hz) rfl (Pt ho (stand := (k : Int)) (by omega)).len (tb wide ps w k) 0 rfl
      have e0 : DR (fun p => IN wide ps w v (if p < 0 then k + 1 else k) p) ps.length = DR (IN wide ps w v k) ps.length := H8 fun p _ => by rw [if_neg (by omega)]
      rw [e0] at h2
      have ab : CL ps v (k : Int) (tb wide ps w k) 0 (DR (IN wide ps w v k) ps.length) = _ := h2
      rw [ab, Ap, ek, ih]
    · rw [if_pos hz, Ap, ek, ← ih]
      congr 1
      exact H8 fun p _ => UY (W2 (by rw [hx]; exact hz) p)
def R6 (wide : Int) (ps : List Int) (w v : Int) : List (List Bool) := DR (IN wide ps w v ps.length) ps.length
theorem WK (ho : FF wide ps w = 0) : GL wide ps (JC w) (Jv w) (Mm w) v = some (R6 wide ps w v) := by
  have hn := (IL ho).2.1
  unfold GL
  rw [Bz (by omega), Lv, Int.toNat_natCast]
  have e : List.replicate ps.length (List.replicate 30 false) = DR (IN wide ps w v 0) ps.length := by
    symm
    rw [List.eq_replicate_iff]
    refine ⟨DJ .., fun b hb => ?_⟩
    unfold DR at hb
    obtain ⟨p, _, rfl⟩ := List.mem_map.1 hb
    unfold IN
    rw [List.eq_replicate_iff]
    refine ⟨DJ .., fun c hc => ?_⟩
    unfold DR at hc
    obtain ⟨s, _, rfl⟩ := List.mem_map.1 hc
    rfl
  rw [e]
  have := To (v := v) ho ps 0 rfl (Nat.zero_le _)
  have h1 : Dv wide ps (JC w) (Jv w) (Mm w) v ps 0 (DR (IN wide ps w v 0) ps.length) = _ := this
  rw [h1, Ap]; rfl
def KC (wide : Int) (ps : List Int) (w v : Int) : Int := if LL wide ps ≠ 0 then LL wide ps else Uv w v
theorem Vu (h : KC wide ps w v = 0) : LL wide ps = 0 ∧ Uv w v = 0 ∧ FF wide ps w = 0 ∧ 1 ≤ v ∧ v ≤ 40 := by
  unfold KC at h
  by_cases h1 : LL wide ps = 0
  · rw [if_neg (not_not_intro h1)] at h
    have h2 := h
    unfold Uv at h2
    by_cases h3 : (¬ okW w) ∨ ¬ (1 ≤ v ∧ v ≤ 40)
    · rw [if_pos h3] at h2; cases h2
    · have h4 : okW w := Classical.byContradiction fun h => h3 (.inl h)
      have h5 : 1 ≤ v ∧ v ≤ 40 := Classical.byContradiction fun h => h3 (.inr h)
      exact ⟨h1, h, IC h1 h4, h5.1, h5.2⟩
  · rw [if_pos h1] at h; exact absurd h h1
theorem S9 (hn : ps.length ≤ 1000) : I2 wide ps w v = some (if KC wide ps w v = 0 then R6 wide ps w v else [], KC wide ps w v) := by
  unfold I2
  rw [Mv hn, Ap]
  by_cases h : KC wide ps w v = 0
  · obtain ⟨h1, h2, ho, _⟩ := Vu h
    rw [if_neg (not_not_intro h1), Pg, Ap, if_neg (not_not_intro h2), K0 hn, ho, if_pos rfl, B2]
    unfold aY
    rw [Vz, WK ho, Ap, if_pos h, h]
  · rw [if_neg h]
    by_cases h1 : LL wide ps = 0
    · have h2 : KC wide ps w v = Uv w v := by unfold KC; rw [if_neg (not_not_intro h1)]
      rw [if_neg (not_not_intro h1), Pg, Ap, if_pos (by rw [← h2]; exact h), h2]
    · have h2 : KC wide ps w v = LL wide ps := by unfold KC; rw [if_pos h1]
      rw [if_pos h1, h2]
def Nc (wide : Int) (ps : List Int) (w v : Int) (p : Nat) : Bool := decide (ps.getD p 0 = 1) && decide (CJ (fun s => OC wide ps w v s p) ps.length = [])
theorem O9 (hn : ps.length ≤ 30) {p : Nat} : IN wide ps w v ps.length p = List.replicate 30 false ↔ CJ (fun s => OC wide ps w v s p) ps.length = [] := by
  rw [Tb, List.eq_replicate_iff]
  unfold IN
  constructor
  · rintro ⟨_, h⟩ i hi
    have := h (decide (i < ps.length) && OC wide ps w v i p) (List.mem_map.2 ⟨i, List.mem_range.2 (by omega), rfl⟩)
    rwa [decide_eq_true hi, Bool.true_and] at this
  · intro h
    refine ⟨DJ .., fun b hb => ?_⟩
    unfold DR at hb
    obtain ⟨s, _, rfl⟩ := List.mem_map.1 hb
    by_cases hs : s < ps.length
    · rw [h s hs, Bool.and_false]
    · rw [decide_eq_false hs, Bool.false_and]
theorem UZ (hn : ps.length ≤ 30) : ∀ (r : List Int) (k : Nat), ps.drop k = r → k ≤ ps.length → EV (R6 wide ps w v) r (k : Int) (CJ (Nc wide ps w v) k) = some (CJ (Nc wide ps w v) ps.length)
  | [], k, hr, hk => by
    have h := congrArg List.length hr
    rw [List.length_drop, List.length_nil] at h
    have : k = ps.length := by omega
    subst this; rfl
  | x :: r, k, hr, _ => by
    obtain ⟨hk, hx, aa⟩ := QC hr
    have ih := UZ hn r (k + 1) aa (by omega)
    have hlen := QV (Nc wide ps w v) k
    have e : (if x = 1 then ix (R6 wide ps w v) (k : Int) fun x2 => some (decide (x2 = List.replicate 30 false)) else some false) = some (Nc wide ps w v k) := by
      unfold R6 Nc
      rw [NV (x := IN wide ps w v ps.length k) (by omega) (by rw [Int.toNat_natCast, Jf _ hk]), hx]
      by_cases h : x = 1
      · rw [if_pos h, decide_eq_true h, Bool.true_and]
        congr 1; rw [decide_eq_decide]; exact O9 hn
      · rw [if_neg h, decide_eq_false h, Bool.false_and]
    unfold EV
    rw [e, Ap, show ((k : Int) + 1) = ((k + 1 : Nat) : Int) from rfl, ← ih, Ld]
    cases h : Nc wide ps w v k with
    | true => rw [if_pos rfl, if_pos rfl, Km (by simp; omega)]
    | false => rw [if_neg (by decide), if_neg (by decide), List.append_nil]
theorem YQ (hn : ps.length ≤ 1000) : I5 wide ps w v = some (if KC wide ps w v = 0 then CJ (Nc wide ps w v) ps.length else [], KC wide ps w v) := by
  unfold I5
  rw [S9 hn, B2]
  by_cases h : KC wide ps w v = 0
  · obtain ⟨_, _, ho, _⟩ := Vu h
    have aa := (IL ho).2.1
    rw [if_neg (not_not_intro h), if_pos h, if_pos h]
    have := UZ (wide := wide) (w := w) (v := v) aa.2 ps 0 rfl (Nat.zero_le _)
    have h1 : EV (R6 wide ps w v) ps 0 [] = _ := this
    rw [h1, Ap, h]
  · rw [if_pos h, if_neg h]
end
end Go.Proofs.YtfmapnhfamoecaaGreat
namespace Go.Hear
def Hj (u : List Bool) : Nat := u.countP id
def JR (a b : List Bool) : List Bool := List.zipWith (· || ·) a b
theorem PR {a b : List Bool} (h : a.length = b.length) : (JR a b).length = a.length := by
  unfold JR; rw [List.length_zipWith, h]; exact Nat.min_self _
theorem RJ : ∀ (u : List Bool), JR u (List.replicate u.length false) = u
  | [] => rfl
  | b :: u => by
    have := RJ u
    unfold JR at *
    rw [List.length_cons, List.replicate_succ, List.zipWith_cons_cons, this, Bool.or_false]
def Oa : Nat → List Nat → Prop
  | _, [] => True
  | a, s :: L => (a ≤ s ∧ s < 30) ∧ Oa (s + 1) L
theorem Oa.YS : ∀ {a b : Nat} {L : List Nat}, a ≤ b → Oa b L → Oa a L
  | _, _, [], _, _ => trivial
  | _, _, _ :: _, h, ⟨⟨h1, h2⟩, h3⟩ => ⟨⟨Nat.le_trans h h1, h2⟩, h3⟩
theorem Oa.mem : ∀ {a : Nat} {L : List Nat}, Oa a L → ∀ s ∈ L, a ≤ s ∧ s < 30
  | _, [], _, s, hs => by simp at hs
  | a, t :: L, ⟨h1, h2⟩, s, hs => by
    rcases List.mem_cons.1 hs with rfl | hs
    · exact h1
    · have := h2.mem s hs; omega
theorem Oa.filter {p : Nat → Bool} : ∀ {a : Nat} {L : List Nat}, Oa a L → Oa a (L.filter p)
  | _, [], _ => trivial
  | a, t :: L, ⟨h1, h2⟩ => by
    rw [List.filter_cons]
    split
    · exact ⟨h1, h2.filter⟩
    · exact (Oa.YS (by omega) h2.filter)
theorem Oa.len : ∀ {a : Nat} {L : List Nat}, a ≤ 30 → Oa a L → L.length + a ≤ 30
  | _, [], h, _ => by simpa using h
  | a, t :: L, _, ⟨h1, h2⟩ => by
    have := h2.len (by omega)
    rw [List.length_cons]; omega
section
variable {S : Nat → List Bool}
def PE (S : Nat → List Bool) : List Bool → List Nat → List Bool
  | u, [] => u
  | u, s :: L => PE S (JR u (S s)) L
def Ij (S : Nat → List Bool) : Nat → Nat → List Bool → Nat
  | 0, _, u => Hj u
  | _ + 1, 0, u => Hj u
  | d + 1, l + 1, u => max (Ij S d (l + 1) u) (Ij S d l (JR u (S (29 - d))))
theorem T1 (d : Nat) (u : List Bool) : Ij S d 0 u = Hj u := by cases d <;> rfl
theorem Kz : ∀ (d l : Nat) (u : List Bool) (L : List Nat), d ≤ 30 → Oa (30 - d) L → L.length ≤ l → Hj (PE S u L) ≤ Ij S d l u
  | 0, l, u, [], _, _, _ => Nat.le_refl _
  | 0, l, u, s :: L, _, ⟨h, _⟩, _ => by omega
  | d + 1, 0, u, [], _, _, _ => Nat.le_refl _
  | d + 1, 0, u, s :: L, _, _, h => by simp at h
  | d + 1, l + 1, u, [], hd, _, _ => by
    unfold Ij
    exact Nat.le_trans (Kz d (l + 1) u [] (by omega) trivial (by simp)) (Nat.le_max_left ..)
  | d + 1, l + 1, u, s :: L, hd, ⟨h1, h2⟩, h3 => by
    unfold Ij
    by_cases hs : s = 29 - d
    · subst hs
      have h4 : 29 - d + 1 = 30 - d := by omega
      rw [h4] at h2
      exact Nat.le_trans (Kz d l _ L (by omega) h2 (by simpa using h3)) (Nat.le_max_right ..)
    · exact Nat.le_trans (Kz d (l + 1) u (s :: L) (by omega) ⟨by omega, h2⟩ h3) (Nat.le_max_left ..)
theorem P6 : ∀ (d l : Nat) (u : List Bool), d ≤ 30 → ∃ L, Oa (30 - d) L ∧ L.length ≤ l ∧ Hj (PE S u L) = Ij S d l u
  | 0, l, u, _ => ⟨[], trivial, Nat.zero_le _, rfl⟩
  | d + 1, 0, u, _ => ⟨[], trivial, Nat.zero_le _, rfl⟩
  | d + 1, l + 1, u, hd => by
    obtain ⟨L1, a1, a2, a3⟩ := P6 d (l + 1) u (by omega)
    obtain ⟨L2, b1, b2, b3⟩ := P6 d l (JR u (S (29 - d))) (by omega)
    unfold Ij
    by_cases h : Ij S d l (JR u (S (29 - d))) ≤ Ij S d (l + 1) u
    · exact ⟨L1, Oa.YS (by omega) a1, a2, by rw [a3, Nat.max_eq_left h]⟩
    · refine ⟨(29 - d) :: L2, ⟨by omega, ?_⟩, by simpa using b2, ?_⟩
      · have h4 : 29 - d + 1 = 30 - d := by omega
        rw [h4]; exact b1
      · show Hj (PE S (JR u (S (29 - d))) L2) = _
        rw [b3, Nat.max_eq_right (by omega)]
theorem Xs {d l l' : Nat} (hd : d ≤ 30) (h : l ≤ l') (u : List Bool) : Ij S d l u ≤ Ij S d l' u := by
  obtain ⟨L, h1, h2, h3⟩ := P6 (S := S) d l u hd
  rw [← h3]; exact Kz d l' u L hd h1 (Nat.le_trans h2 h)
inductive X5 (S : Nat → List Bool) (all : Nat) : Nat → Nat → List Bool → List Nat → Prop
  | nil {a : Nat} {u : List Bool} : X5 S all a 0 u []
  | cons {a l s : Nat} {u : List Bool} {L : List Nat} : a ≤ s → s < 30 → (∀ t, a ≤ t → t < s → Ij S (30 - (t + 1)) l (JR u (S t)) < all) → all ≤ Ij S (30 - (s + 1)) l (JR u (S s)) → X5 S all (s + 1) l (JR u (S s)) L → X5 S all a (l + 1) u (s :: L)
theorem XG {all a l : Nat} {u : List Bool} (ha : a ≤ 30) (aa : Ij S (30 - a) l u < all) (ab : all ≤ Ij S (30 - a) (l + 1) u) : ∃ s, a ≤ s ∧ s < 30 ∧ all ≤ Ij S (30 - (s + 1)) l (JR u (S s)) := by
  obtain ⟨L, h1, h2, h3⟩ := P6 (S := S) (30 - a) (l + 1) u (by omega)
  have e : 30 - (30 - a) = a := by omega
  rw [e] at h1
  cases L with
  | nil =>
    have := Kz (S := S) (30 - a) l u [] (by omega) trivial (Nat.zero_le _)
    have h4 : Hj (PE S u []) = Ij S (30 - a) (l + 1) u := h3
    omega
  | cons s L =>
    obtain ⟨h5, h6⟩ := h1
    refine ⟨s, h5.1, h5.2, ?_⟩
    have e2 : 30 - (30 - (s + 1)) = s + 1 := by omega
    have := Kz (S := S) (30 - (s + 1)) l (JR u (S s)) L (by omega) (by rw [e2]; exact h6) (by simpa using h2)
    have h7 : Hj (PE S (JR u (S s)) L) = Ij S (30 - a) (l + 1) u := h3
    omega
theorem Xc {all a l s : Nat} {u : List Bool} (ha : a ≤ s) (hs : s < 30) (aa : Ij S (30 - a) (l + 1) u < all) : Ij S (30 - (s + 1)) l (JR u (S s)) < all := by
  obtain ⟨L, h1, h2, h3⟩ := P6 (S := S) (30 - (s + 1)) l (JR u (S s)) (by omega)
  have e2 : 30 - (30 - (s + 1)) = s + 1 := by omega
  rw [e2] at h1
  have := Kz (S := S) (30 - a) (l + 1) u (s :: L) (by omega) ⟨by omega, h1⟩ (by simpa using h2)
  have h4 : Hj (PE S u (s :: L)) = Ij S (30 - (s + 1)) l (JR u (S s)) := h3
  omega
theorem X5.spec {all : Nat} : ∀ {a l : Nat} {u : List Bool} {L : List Nat}, X5 S all a l u L → all ≤ Ij S (30 - a) l u → L.length = l ∧ Oa a L ∧ all ≤ Hj (PE S u L)
  | a, _, u, _, .nil, h => ⟨rfl, trivial, by rw [T1] at h; exact h⟩
  | a, _, u, _, .cons h1 h2 _ h4 h5, _ => by
    obtain ⟨e1, e2, e3⟩ := h5.spec h4
    exact ⟨by simp [e1], ⟨⟨h1, h2⟩, e2⟩, e3⟩
def Vi : List Nat → List Nat → Prop
  | [], _ => True
  | _ :: _, [] => False
  | a :: l, b :: l' => a < b ∨ (a = b ∧ Vi l l')
theorem X5.first {all : Nat} : ∀ {a l : Nat} {u : List Bool} {L : List Nat}, X5 S all a l u L → ∀ {L' : List Nat}, Oa a L' → L'.length = l → all ≤ Hj (PE S u L') → Vi L L'
  | a, _, u, _, .nil, _, _, _, _ => trivial
  | a, _, u, _, .cons (s := s) (l := l) h1 h2 h3 h4 h5, [], _, h, _ => by simp at h
  | a, _, u, _, .cons (s := s) (l := l) h1 h2 h3 h4 h5, t :: L', ⟨g1, g2⟩, h, hc => by
    by_cases aa : t < s
    · exfalso
      have := h3 t g1.1 aa
      have e2 : 30 - (30 - (t + 1)) = t + 1 := by omega
      have h6 := Kz (S := S) (30 - (t + 1)) l (JR u (S t)) L' (by omega) (by rw [e2]; exact g2) (by simp at h; omega)
      have h7 : all ≤ Hj (PE S (JR u (S t)) L') := hc
      omega
    · by_cases he : s = t
      · subst he
        exact .inr ⟨rfl, h5.first g2 (by simpa using h) hc⟩
      · exact .inl (by omega)
theorem Nn {m : Nat} (hS : ∀ s, (S s).length = m) {p : Nat → Bool} (hp : ∀ s, p s = false → S s = List.replicate m false) : ∀ (L : List Nat) (u : List Bool), u.length = m → PE S u (L.filter p) = PE S u L
  | [], _, _ => rfl
  | s :: L, u, hu => by
    rw [List.filter_cons]
    cases h : p s with
    | true => exact Nn hS hp L _ (by rw [PR (by rw [hu, hS]), hu])
    | false =>
      rw [if_neg (by decide), Nn hS hp L u hu]
      show _ = PE S (JR u (S s)) L
      have := RJ u
      rw [hu] at this
      rw [hp s h, this]
structure UM (S : Nat → List Bool) (ok : Nat → Bool) (u : List Bool) (most : Nat) (L : List Nat) (n : Nat) : Prop where
  inc : Oa 0 L
  dD : ∀ s ∈ L, ok s = true
  len : L.length ≤ most
  val : Hj (PE S u L) = n
  max : ∀ L', Oa 0 L' → (∀ s ∈ L', ok s = true) → L'.length ≤ most → Hj (PE S u L') ≤ n
  short : ∀ L', Oa 0 L' → (∀ s ∈ L', ok s = true) → Hj (PE S u L') = n → L.length ≤ L'.length
  fst : ∀ L', Oa 0 L' → (∀ s ∈ L', ok s = true) → Hj (PE S u L') = n → L'.length = L.length → Vi L L'
theorem X5.ZH {m most l : Nat} {u : List Bool} {L : List Nat} (hS : ∀ s, (S s).length = m) (hu : u.length = m) {p : Nat → Bool} (hp : ∀ s, p s = false → S s = List.replicate m false)
    (hl : l ≤ most) (ad : Ij S 30 most u ≤ Ij S 30 l u) (ae : ∀ l', l' < l → Ij S 30 l' u < Ij S 30 most u) (h : X5 S (Ij S 30 most u) 0 l u L) : UM S p u most L (Ij S 30 most u) := by
  obtain ⟨h1, h2, h3⟩ := h.spec ad
  have af : ∀ L', Oa 0 L' → L'.length ≤ most → Hj (PE S u L') ≤ Ij S 30 most u := fun L' i ab => Kz 30 most u L' (Nat.le_refl _) i ab
  have aa : Hj (PE S u L) = Ij S 30 most u := Nat.le_antisymm (af L h2 (by omega)) h3
  have ah : ∀ L', Oa 0 L' → Hj (PE S u L') = Ij S 30 most u → l ≤ L'.length := fun L' i hc => by
    apply Classical.byContradiction
    intro hn
    have := ae L'.length (by omega)
    have h5 := Kz (S := S) 30 L'.length u L' (Nat.le_refl _) i (Nat.le_refl _)
    omega
  refine ⟨h2, fun s hs => ?_, by omega, aa, fun L' i _ ab => af L' i ab, fun L' i _ hc => by rw [h1]; exact ah L' i hc, fun L' i _ hc ab => h.first i (by omega) (by omega)⟩
  -- a stand that nobody hears would be one too many
  apply Classical.byContradiction
  intro hf
  have ai : p s = false := by simpa using hf
  have e := Nn hS hp L u hu
  have h5 := ah (L.filter p) h2.filter (by rw [e]; exact aa)
  have h6 : (L.filter p).length < L.length := by
    rcases Nat.lt_or_ge (L.filter p).length L.length with h | h
    · exact h
    · exfalso
      have h7 := List.length_filter_le p L
      have h8 : (L.filter p).length = L.length := by omega
      have := (List.length_filter_eq_length_iff.1 h8) s hs
      rw [ai] at this; cases this
  omega
end
end Go.Hear
namespace Go.Proofs.YtfmapnhfamoecaaGreat
open Go.PL Go.Hear
def G9 : List Bool → Nat
  | [] => 0
  | b :: u => (if b = true then 1 else 0) + 2 * G9 u
theorem Wu : ∀ u : List Bool, G9 u < 2 ^ u.length
  | [] => by decide
  | b :: u => by
    have := Wu u
    unfold G9
    rw [List.length_cons, Nat.pow_succ]
    split <;> omega
theorem MJ {u : List Bool} (h : u.length ≤ 60) : G9 u < 9223372036854775808 :=
  Nat.lt_of_lt_of_le (Wu u) (Nat.le_trans (Nat.pow_le_pow_right (by decide) h) (by decide))
theorem R5 : ∀ {u v : List Bool}, u.length = v.length → G9 u = G9 v → u = v
  | [], [], _, _ => rfl
  | [], _ :: _, h, _ => by simp at h
  | _ :: _, [], h, _ => by simp at h
  | a :: u, b :: v, h, he => by
    unfold G9 at he
    have h1 : G9 u = G9 v := by split at he <;> split at he <;> omega
    have h2 : a = b := by
      cases a <;> cases b <;> simp at he <;> first | rfl | omega
    rw [h2, R5 (by simpa using h) h1]
theorem PV : ∀ (u : List Bool) (i : Nat), (G9 u).testBit i = u.getD i false
  | [], i => by unfold G9; simp
  | b :: u, 0 => by
    unfold G9
    rw [Nat.testBit_zero, List.getD_cons_zero]
    cases b <;> simp
  | b :: u, i + 1 => by
    unfold G9
    rw [Nat.testBit_succ, List.getD_cons_succ, ← PV u i]
    congr 1
    split <;> omega
theorem Vp : ∀ {a b : List Bool} (i : Nat), a.length = b.length → (JR a b).getD i false = (a.getD i false || b.getD i false)
  | [], [], i, _ => by simp [JR]
  | [], _ :: _, _, h => by simp at h
  | _ :: _, [], _, h => by simp at h
  | x :: a, y :: b, 0, _ => by simp [JR]
  | x :: a, y :: b, i + 1, h => by
    have := Vp (a := a) (b := b) i (by simpa using h)
    unfold JR at *
    rw [List.zipWith_cons_cons, List.getD_cons_succ, List.getD_cons_succ, List.getD_cons_succ, this]
theorem ZZ {a b : List Bool} (h : a.length = b.length) : G9 a ||| G9 b = G9 (JR a b) := by
  apply Nat.eq_of_testBit_eq
  intro i
  rw [Nat.testBit_or, PV, PV, PV, Vp i h]
theorem R2 {x y : Nat} (hx : x < 9223372036854775808) (hy : y < 9223372036854775808) : OD (x : Int) (y : Int) = ((x ||| y : Nat) : Int) := by
  have ho : x ||| y < 2 ^ 63 := Nat.or_lt_two_pow hx hy
  unfold OD
  rw [BitVec.ofInt_natCast, BitVec.ofInt_natCast]
  have e : (BitVec.ofNat 64 x ||| BitVec.ofNat 64 y).toNat = x ||| y := by
    rw [BitVec.toNat_or, BitVec.toNat_ofNat, BitVec.toNat_ofNat, Nat.mod_eq_of_lt (by omega), Nat.mod_eq_of_lt (by omega)]
  rw [BitVec.toInt_eq_toNat_of_lt (by rw [e]; omega), e]
theorem R9 {a b : List Bool} (h : a.length = b.length) (aa : a.length ≤ 60) : OD (G9 a : Int) (G9 b : Int) = (G9 (JR a b) : Int) := by
  rw [R2 (MJ aa) (MJ (by omega)), ZZ h]
theorem PW : ∀ (u v : List Bool), G9 (u ++ v) = G9 u + 2 ^ u.length * G9 v
  | [], v => by simp [G9]
  | b :: u, v => by
    have e1 : G9 (b :: u ++ v) = (if b = true then 1 else 0) + 2 * G9 (u ++ v) := rfl
    have e2 : G9 (b :: u) = (if b = true then 1 else 0) + 2 * G9 u := rfl
    rw [e1, e2, PW u v, List.length_cons, Nat.pow_succ, Nat.mul_comm (2 ^ u.length) 2, Nat.mul_assoc]
    generalize 2 ^ u.length * G9 v = z
    omega
theorem L4 : ∀ k : Nat, G9 (List.replicate k false) = 0
  | 0 => rfl
  | k + 1 => by
    rw [List.replicate_succ]; unfold G9; rw [L4 k]; rfl
theorem SS : ∀ (u : List Bool), JR (u ++ [false]) (List.replicate u.length false ++ [true]) = u ++ [true]
  | [] => rfl
  | b :: u => by
    have := SS u
    unfold JR at *
    rw [List.cons_append, List.length_cons, List.replicate_succ, List.cons_append, List.zipWith_cons_cons, this, Bool.or_false]; rfl
theorem Ya (u : List Bool) (h : u.length ≤ 59) : OD (G9 u : Int) ((2 ^ u.length : Nat) : Int) = (G9 (u ++ [true]) : Int) := by
  have h1 : G9 u = G9 (u ++ [false]) := by rw [PW]; simp [G9]
  have h2 : 2 ^ u.length = G9 (List.replicate u.length false ++ [true]) := by rw [PW, L4]; simp [G9]
  rw [h2, h1, R9 (by simp) (by simp; omega), SS]
def D0 (rows : List (List Bool)) (s : Nat) : List Bool := rows.map (·.getD s false)
theorem J2 (rows : List (List Bool)) (s : Nat) : (D0 rows s).length = rows.length := by simp [D0]
theorem YY {stand : Int} (h0 : 0 ≤ stand) (h1 : stand < 30) : ∀ (rows : List (List Bool)) (pre : List Bool), (∀ r ∈ rows, r.length = 30) → pre.length + rows.length ≤ 50 → CK stand rows (pre.length : Int) (G9 pre : Int) = some (G9 (pre ++ D0 rows stand.toNat) : Int)
  | [], pre, _, _ => by
    unfold CK D0; simp
  | x :: rows, pre, hr, hl => by
    simp only [List.length_cons] at hl
    have hx := hr x (List.mem_cons_self ..)
    have aa : x[stand.toNat]? = some (x.getD stand.toNat false) := I6 (by omega)
    have hc : D0 (x :: rows) stand.toNat = x.getD stand.toNat false :: D0 rows stand.toNat := rfl
    unfold CK
    rw [NV h0 aa, hc]
    have ih := fun b => YY h0 h1 rows (pre ++ [b]) (fun r ab => hr r (List.mem_cons_of_mem _ ab)) (by simp; omega)
    cases hb : x.getD stand.toNat false with
    | true =>
      have e : shl 1 (pre.length : Int) = ((2 ^ pre.length : Nat) : Int) := by unfold shl; simp
      have hp : (2 ^ pre.length : Nat) ≤ 1125899906842624 := Nat.le_trans (Nat.pow_le_pow_right (by decide) (show pre.length ≤ 50 by omega)) (by decide)
      have ad : Dh ((2 ^ pre.length : Nat) : Int) := by
        generalize 2 ^ pre.length = z at hp
        unfold Dh; omega
      rw [if_pos rfl, e, Bz ⟨by omega, ad⟩, Ya pre (by omega)]
      have := ih true
      rw [List.length_append, List.length_singleton, List.append_assoc] at this
      exact this
    | false =>
      rw [if_neg (by decide)]
      have := ih false
      have h2 : G9 (pre ++ [false]) = G9 pre := by rw [PW]; simp [G9]
      rw [List.length_append, List.length_singleton, List.append_assoc, h2] at this
      exact this
theorem W6 {rows : List (List Bool)} {count : Int → Option Int} (hr : ∀ r ∈ rows, r.length = 30) (hl : rows.length ≤ 50) {s : Nat} (hs : s < 30) : EO rows count (s : Int) = some (G9 (D0 rows s) : Int) := by
  unfold EO
  have := YY (stand := (s : Int)) (by omega) (by omega) rows [] hr (by simpa using hl)
  have h1 : CK (s : Int) rows 0 0 = _ := this
  rw [h1, Ap]; rfl
theorem TC : ∀ {u : List Bool}, G9 u = 0 → Hj u = 0
  | [], _ => rfl
  | b :: u, h => by
    unfold G9 at h
    have h1 : G9 u = 0 := by split at h <;> omega
    have h2 : b = false := by cases b <;> simp at h <;> rfl
    have := TC h1
    unfold Hj at *
    rw [List.countP_cons, this, h2]; rfl
theorem Vt : ∀ (fu : Nat) (u : List Bool) (n : Int), u.length < fu → u.length ≤ 60 → 0 ≤ n → n + (u.length : Int) ≤ 1000 → FA fu (G9 u : Int) n = some (n + (Hj u : Int))
  | 0, u, _, h, _, _, _ => absurd h (Nat.not_lt_zero _)
  | fu + 1, [], n, _, _, _, _ => by
    have e0 : ((G9 [] : Nat) : Int) = 0 := rfl
    have e1 : (n + (Hj [] : Int)) = n := Int.add_zero n
    rw [e0, e1]
    unfold FA
    rw [if_neg (Int.lt_irrefl 0)]
  | fu + 1, b :: u, n, h, aa, h0, hn => by
    simp only [List.length_cons] at h aa hn
    unfold FA
    by_cases hz : G9 (b :: u) = 0
    · have := TC hz
      rw [hz, this, if_neg (by decide)]; simp
    · have ab := MJ (u := b :: u) (by simpa using aa)
      have ec : G9 (b :: u) = (if b = true then 1 else 0) + 2 * G9 u := rfl
      have e1 : Int.tmod (G9 (b :: u) : Int) 2 = (if b = true then 1 else 0) := by
        rw [Int.tmod_eq_emod_of_nonneg (by omega), ec]; split <;> omega
      have e2 : Int.tdiv (G9 (b :: u) : Int) 2 = (G9 u : Int) := by
        rw [Int.tdiv_eq_ediv_of_nonneg (by omega), ec]; split <;> omega
      have ad := MJ (u := u) (by omega)
      rw [if_pos (by omega), e1, e2, Bz (AJ (by split <;> omega)), Bz ⟨by decide, by unfold Dh; omega⟩]
      rw [Vt fu u _ (by omega) (by omega) (by split <;> omega) (by split <;> omega)]
      congr 1
      unfold Hj
      rw [List.countP_cons]
      cases b <;> simp <;> omega
theorem YJ {u : List Bool} (h : u.length ≤ 60) : Ig (G9 u : Int) = some (Hj u : Int) := by
  unfold Ig
  rw [Vt FU u 0 (by unfold FU; omega) h (by omega) (by omega), Ap, Int.zero_add]
section
variable {rows : List (List Bool)} {count : Int → Option Int}
abbrev Tv := List ((Int × Int × Int) × Int)
def YP (rows : List (List Bool)) (met : Tv) : Prop := ∀ (a l : Nat) (u : List Bool) (n : Int), a ≤ 30 → u.length = rows.length → A7 met ((a : Int), (l : Int), (G9 u : Int)) = some n → n = (Ij (D0 rows) (30 - a) l u : Int)
theorem N7 (hr : ∀ r ∈ rows, r.length = 30) (hl : rows.length ≤ 50) (hc : ∀ u : List Bool, u.length = rows.length → count (G9 u : Int) = some (Hj u : Int)) : ∀ (fu d l : Nat) (u : List Bool) (met : Tv), d ≤ 30 → d < fu → l ≤ 1000 → u.length = rows.length → YP rows met →
    ∃ aa, BK fu ((30 - d : Nat) : Int) (l : Int) (G9 u : Int) rows count met = some ((Ij (D0 rows) d l u : Int), aa) ∧ YP rows aa
  | 0, _, _, _, _, _, h, _, _, _ => by omega
  | fu + 1, d, l, u, met, hd, al, ak, hu, hm => by
    unfold BK EX
    by_cases h0 : l = 0 ∨ d = 0
    · have e : (if (l : Int) = 0 then some true else some (decide (((30 - d : Nat) : Int) = 30))) = some true := by
        by_cases hz : l = 0
        · rw [if_pos (by omega)]
        · rw [if_neg (by omega), decide_eq_true (by omega)]
      refine ⟨met, ?_, hm⟩
      rw [e, Ap, if_pos rfl, hc u hu, Ap]
      have : Ij (D0 rows) d l u = Hj u := by
        rcases h0 with rfl | rfl
        · exact T1 d u
        · rfl
      rw [this]
    · have ao : l ≠ 0 := fun h => h0 (.inl h)
      have aq : d ≠ 0 := fun h => h0 (.inr h)
      obtain ⟨l', rfl⟩ : ∃ l', l = l' + 1 := ⟨l - 1, by omega⟩
      obtain ⟨d', rfl⟩ : ∃ d', d = d' + 1 := ⟨d - 1, by omega⟩
      have e : (if ((l' + 1 : Nat) : Int) = 0 then some true else some (decide (((30 - (d' + 1) : Nat) : Int) = 30))) = some false := by
        rw [if_neg (by omega), decide_eq_false (by omega)]
      rw [e, Ap, if_neg (by decide), Lv]
      cases hg : A7 met (((30 - (d' + 1) : Nat) : Int), ((l' + 1 : Nat) : Int), (G9 u : Int)) with
      | some n =>
        have := hm (30 - (d' + 1)) (l' + 1) u n (by omega) hu hg
        rw [show 30 - (30 - (d' + 1)) = d' + 1 by omega] at this
        exact ⟨met, by rw [if_pos (show (some n).isSome = true from rfl), this]; rfl, hm⟩
      | none =>
        have ef : ((30 - (d' + 1) : Nat) : Int) + 1 = ((30 - d' : Nat) : Int) := by omega
        have el : ((l' + 1 : Nat) : Int) - 1 = (l' : Int) := by omega
        rw [if_neg (by decide), Bz (AJ (by omega)), ef]
        obtain ⟨m2, g1, g2⟩ := N7 hr hl hc fu d' (l' + 1) u met (by omega) (by omega) ak hu hm
        rw [g1, B2, W6 hr hl (by omega), Ap, R9 (by rw [hu, J2]) (by omega)]
        have af : (JR u (D0 rows (30 - (d' + 1)))).length = rows.length := by rw [PR (by rw [hu, J2]), hu]
        have key : ∃ m3, (if ((G9 (JR u (D0 rows (30 - (d' + 1)))) : Nat) : Int) ≠ (G9 u : Int) then
            gd (Dh ((30 - d' : Nat) : Int)) <| gd (Dh (((l' + 1 : Nat) : Int) - 1)) <|
              b2 (BK fu ((30 - d' : Nat) : Int) (((l' + 1 : Nat) : Int) - 1) (G9 (JR u (D0 rows (30 - (d' + 1)))) : Int) rows count m2) fun n6 ae => some (ae, if n6 > (Ij (D0 rows) d' (l' + 1) u : Int) then n6 else (Ij (D0 rows) d' (l' + 1) u : Int))
            else some (m2, (Ij (D0 rows) d' (l' + 1) u : Int))) = some (m3, (Ij (D0 rows) (d' + 1) (l' + 1) u : Int)) ∧ YP rows m3 := by
          have ev : Ij (D0 rows) (d' + 1) (l' + 1) u = max (Ij (D0 rows) d' (l' + 1) u) (Ij (D0 rows) d' l' (JR u (D0 rows (29 - d')))) := rfl
          have ah : 30 - (d' + 1) = 29 - d' := by omega
          by_cases hs : G9 (JR u (D0 rows (30 - (d' + 1)))) = G9 u
          · have ab := R5 (by rw [af, hu]) hs
            refine ⟨m2, ?_, g2⟩
            rw [if_neg (by rw [hs]; exact fun h => h rfl), ev, ← ah, ab, Nat.max_eq_left (Xs (by omega) (Nat.le_succ _) u)]
          · obtain ⟨m3, g3, g4⟩ := N7 hr hl hc fu d' l' (JR u (D0 rows (30 - (d' + 1)))) m2 (by omega) (by omega) (by omega) af g2
            refine ⟨m3, ?_, g4⟩
            rw [if_pos (fun h => hs (by omega)), Bz (AJ (by omega)), Bz (AJ (by omega)), el, g3, B2, ev, ← ah]
            congr 2
            by_cases ai : (Ij (D0 rows) d' l' (JR u (D0 rows (30 - (d' + 1)))) : Int) > (Ij (D0 rows) d' (l' + 1) u : Int)
            · rw [if_pos ai, Nat.max_eq_right (by omega)]
            · rw [if_neg ai, Nat.max_eq_left (by omega)]
        obtain ⟨m3, k1, k2⟩ := key
        rw [k1, B2, Lv]
        refine ⟨_, rfl, fun a l u' n ha aj ad => ?_⟩
        rw [Ih] at ad
        by_cases hk : (((30 - (d' + 1) : Nat) : Int), ((l' + 1 : Nat) : Int), (G9 u : Int)) = ((a : Int), (l : Int), (G9 u' : Int))
        · rw [if_pos hk] at ad
          rw [Prod.mk.injEq, Prod.mk.injEq] at hk
          obtain ⟨k3, k4, k5⟩ := hk
          have e1 : a = 30 - (d' + 1) := by omega
          have e2 : l = l' + 1 := by omega
          have e3 : u' = u := (R5 (by rw [hu, aj]) (by omega)).symm
          subst e1 e2 e3
          rw [← Option.some.inj ad, show 30 - (30 - (d' + 1)) = d' + 1 by omega]
        · rw [if_neg hk] at ad
          exact k2 a l u' n ha aj ad
theorem RE (hr : ∀ r ∈ rows, r.length = 30) (hl : rows.length ≤ 50) (hc : ∀ u : List Bool, u.length = rows.length → count (G9 u : Int) = some (Hj u : Int)) {all most : Nat} (ae : all ≤ Ij (D0 rows) 30 most (List.replicate rows.length false)) (aa : most ≤ 100) :
    ∀ (fu l : Nat) (met : Tv), l ≤ most → most - l < fu → YP rows met → (∀ l', l' < l → Ij (D0 rows) 30 l' (List.replicate rows.length false) < all) →
      ∃ ab l2, CI rows count (all : Int) fu met (l : Int) = some (ab, ((l2 : Nat) : Int)) ∧ YP rows ab ∧ l2 ≤ most ∧ all ≤ Ij (D0 rows) 30 l2 (List.replicate rows.length false) ∧ ∀ l', l' < l2 → Ij (D0 rows) 30 l' (List.replicate rows.length false) < all
  | 0, _, _, _, h, _, _ => by omega
  | fu + 1, l, met, h1, h2, hm, ad => by
    unfold CI
    obtain ⟨m2, g1, g2⟩ := N7 hr hl hc FU 30 l (List.replicate rows.length false) met (Nat.le_refl _) (by unfold FU; omega) (by omega) (by simp) hm
    rw [L4] at g1
    have af : BK FU 0 (l : Int) 0 rows count met = some ((Ij (D0 rows) 30 l (List.replicate rows.length false) : Int), m2) := g1
    rw [af, B2]
    by_cases ah : Ij (D0 rows) 30 l (List.replicate rows.length false) < all
    · have GK : l ≠ most := fun h => by subst h; omega
      rw [if_pos (by omega), Bz (AJ (by omega)), show ((l : Int) + 1) = ((l + 1 : Nat) : Int) from rfl]
      exact RE hr hl hc ae aa fu (l + 1) m2 (by omega) (by omega) g2 fun l' ai => by
        by_cases he : l' = l
        · rw [he]; exact ah
        · exact ad l' (by omega)
    · rw [if_neg (by omega)]
      exact ⟨m2, l, rfl, g2, h1, by omega, ad⟩
theorem RG (hr : ∀ r ∈ rows, r.length = 30) (hl : rows.length ≤ 50) (hc : ∀ u : List Bool, u.length = rows.length → count (G9 u : Int) = some (Hj u : Int)) {all l s : Nat} {u : List Bool} (hu : u.length = rows.length) (ad : l ≤ 100) (hs : s < 30) (ae : all ≤ Ij (D0 rows) (30 - (s + 1)) l (JR u (D0 rows s))) {a0 : Nat} :
    ∀ (fu a : Nat) (met : Tv), a0 ≤ a → a ≤ s → s - a < fu → YP rows met → (∀ t, a0 ≤ t → t < a → Ij (D0 rows) (30 - (t + 1)) l (JR u (D0 rows t)) < all) →
      ∃ aa s2, C7 rows count (all : Int) ((l + 1 : Nat) : Int) (G9 u : Int) fu met (a : Int) = some (aa, ((s2 : Nat) : Int)) ∧ YP rows aa ∧ a0 ≤ s2 ∧ s2 < 30 ∧ all ≤ Ij (D0 rows) (30 - (s2 + 1)) l (JR u (D0 rows s2)) ∧ ∀ t, a0 ≤ t → t < s2 → Ij (D0 rows) (30 - (t + 1)) l (JR u (D0 rows t)) < all
  | 0, _, _, _, _, h, _, _ => by omega
  | fu + 1, a, met, h0, h1, h2, hm, ab => by
    unfold C7
    have el : ((l + 1 : Nat) : Int) - 1 = (l : Int) := by omega
    have af : (JR u (D0 rows a)).length = rows.length := by rw [PR (by rw [hu, J2]), hu]
    obtain ⟨m2, g1, g2⟩ := N7 hr hl hc FU (30 - (a + 1)) l (JR u (D0 rows a)) met (by omega) (by unfold FU; omega) (by omega) af hm
    have ea : ((30 - (30 - (a + 1)) : Nat) : Int) = (a : Int) + 1 := by omega
    rw [ea] at g1
    rw [Bz (AJ (by omega)), Bz (AJ (by omega)), W6 hr hl (by omega), Ap, R9 (by rw [hu, J2]) (by omega), el, g1, B2]
    by_cases ah : Ij (D0 rows) (30 - (a + 1)) l (JR u (D0 rows a)) < all
    · have GK : a ≠ s := fun h => by subst h; omega
      rw [if_pos (by omega), Bz (AJ (by omega)), show ((a : Int) + 1) = ((a + 1 : Nat) : Int) from rfl]
      exact RG hr hl hc hu ad hs ae fu (a + 1) m2 (by omega) (by omega) (by omega) g2 fun t ai aj => by
        by_cases he : t = a
        · rw [he]; exact ah
        · exact ab t ai (by omega)
    · rw [if_neg (by omega)]
      exact ⟨m2, a, rfl, g2, h0, by omega, by omega, ab⟩
theorem RB (hr : ∀ r ∈ rows, r.length = 30) (hl : rows.length ≤ 50) (hc : ∀ u : List Bool, u.length = rows.length → count (G9 u : Int) = some (Hj u : Int)) {all : Nat} :
    ∀ (fu l a : Nat) (u : List Bool) (met : Tv) (acc : List Int), l < fu → l ≤ 100 → a ≤ 30 → u.length = rows.length → YP rows met → acc.length + l ≤ 1000 → all ≤ Ij (D0 rows) (30 - a) l u → (∀ l', l = l' + 1 → Ij (D0 rows) (30 - a) l' u < all) →
      ∃ L, Cg rows count (all : Int) fu met (a : Int) (l : Int) (G9 u : Int) acc = some (acc ++ L.map Int.ofNat) ∧ X5 (D0 rows) all a l u L
  | 0, _, _, _, _, _, h, _, _, _, _, _, _, _ => by omega
  | fu + 1, 0, a, u, met, acc, _, _, _, _, _, _, _, _ => by
    unfold Cg
    rw [if_neg (by omega)]
    exact ⟨[], by simp, .nil⟩
  | fu + 1, l + 1, a, u, met, acc, af, ah, ha, hu, hm, ai, ab, aa => by
    unfold Cg
    obtain ⟨s, s1, s2, s3⟩ := XG ha (aa l rfl) ab
    obtain ⟨m2, t, g1, g2, g3, g4, g5, g6⟩ := RG hr hl hc hu (by omega) s2 s3 FU a met (Nat.le_refl _) s1 (by unfold FU; omega) hm (fun t h1 h2 => by omega)
    have ad : (JR u (D0 rows t)).length = rows.length := by rw [PR (by rw [hu, J2]), hu]
    have el : ((l + 1 : Nat) : Int) - 1 = (l : Int) := by omega
    rw [if_pos (by omega), g1, B2, Km (by simp; omega), Bz (AJ (by omega)), Bz (AJ (by omega)), W6 hr hl g4, Ap, R9 (by rw [hu, J2]) (by omega), el, show ((t : Int) + 1) = ((t + 1 : Nat) : Int) from rfl]
    obtain ⟨L, k1, k2⟩ := RB hr hl hc fu l (t + 1) (JR u (D0 rows t)) m2 (acc ++ [(t : Int)]) (by omega) (by omega) (by omega) ad g2 (by simp; omega) g5 (fun l' ae => by
      subst ae; exact Xc g3 g4 (aa _ rfl))
    exact ⟨t :: L, by rw [k1]; simp, .cons g3 g4 g6 g5 k2⟩
theorem VK (hr : ∀ r ∈ rows, r.length = 30) (hl : rows.length ≤ 50) (hc : ∀ u : List Bool, u.length = rows.length → count (G9 u : Int) = some (Hj u : Int)) {most : Nat} (hm : most ≤ 100) :
    ∃ L n, ES rows count (most : Int) = some (L.map Int.ofNat, ((n : Nat) : Int)) ∧ ∀ p : Nat → Bool, (∀ s, p s = false → D0 rows s = List.replicate rows.length false) → UM (D0 rows) p (List.replicate rows.length false) (min most rows.length) L n := by
  have hM : YP rows [] := fun a l u n _ _ h => by rw [TX] at h; cases h
  have aa : J0 (most : Int) [(rows.length : Int)] = some ((min most rows.length : Nat) : Int) := by
    unfold J0 FQ FQ
    rw [Ap]
    congr 1
    by_cases h : (rows.length : Int) < (most : Int)
    · rw [if_pos h, Nat.min_eq_right (by omega)]
    · rw [if_neg h, Nat.min_eq_left (by omega)]
  have ab : min most rows.length ≤ 100 := Nat.le_trans (Nat.min_le_left ..) hm
  generalize hq : min most rows.length = q at *
  unfold ES
  obtain ⟨m1, g1, g2⟩ := N7 hr hl hc FU 30 q (List.replicate rows.length false) [] (Nat.le_refl _) (by unfold FU; omega) (by omega) (by simp) hM
  rw [L4] at g1
  have ad : BK FU 0 (q : Int) 0 rows count [] = some ((Ij (D0 rows) 30 q (List.replicate rows.length false) : Int), m1) := g1
  rw [aa, Ap, ad, B2]
  obtain ⟨m2, l, k1, k2, k3, k4, k5⟩ := RE hr hl hc (Nat.le_refl (Ij (D0 rows) 30 q (List.replicate rows.length false))) ab FU 0 m1 (Nat.zero_le _) (by unfold FU; omega) g2 (fun l' h => by omega)
  have ae : CI rows count (Ij (D0 rows) 30 q (List.replicate rows.length false) : Int) FU m1 0 = some (m2, (l : Int)) := k1
  rw [ae, B2]
  obtain ⟨L, j1, j2⟩ := RB (all := Ij (D0 rows) 30 q (List.replicate rows.length false)) hr hl hc FU l 0 (List.replicate rows.length false) m2 [] (by unfold FU; omega) (by omega) (by omega) (by simp) k2 (by simp; omega) k4 (fun l' h => k5 l' (by omega))
  rw [L4] at j1
  have af : Cg rows count (Ij (D0 rows) 30 q (List.replicate rows.length false) : Int) FU m2 0 (l : Int) 0 [] = some ([] ++ L.map Int.ofNat) := j1
  rw [af, Ap, List.nil_append]
  exact ⟨L, _, rfl, fun p hp => j2.ZH (J2 rows) (by simp) hp k3 k4 k5⟩
end
end Go.Proofs.YtfmapnhfamoecaaGreat
namespace Go.Hear
theorem VA {α : Type} (g f : α → Bool) : ∀ H : List α, JR (H.map g) (H.map f) = H.map fun h => g h || f h
  | [] => rfl
  | h :: H => by
    have := VA g f H
    unfold JR at *
    rw [List.map_cons, List.map_cons, List.zipWith_cons_cons, this]; rfl
theorem SK {α : Type} {f : Nat → α → Bool} {H : List α} : ∀ (L : List Nat) (g : α → Bool), PE (fun s => H.map (f s)) (H.map g) L = H.map fun h => g h || L.any fun s => f s h
  | [], g => by simp [PE]
  | s :: L, g => by
    show PE _ (JR (H.map g) (H.map (f s))) L = _
    rw [VA, SK L]
    congr 1
    funext h
    rw [List.any_cons, Bool.or_assoc]
theorem VG {α : Type} (g : α → Bool) (H : List α) : Hj (H.map g) = H.countP g := by
  unfold Hj
  rw [List.countP_map]; rfl
end Go.Hear
namespace Go.Proofs.YtfmapnhfamoecaaGreat
open Go.PL Go.Hear
section
variable {wide : Int} {ps : List Int} {w v : Int}
def Wp (ps : List Int) : List Int → List Int → Int
  | _, [] => 0
  | pre, x :: r => if Rm ps x 1 ≠ 0 then Rm ps x 1 else if x ∈ pre then 5 else Wp ps (pre ++ [x]) r
theorem U1 (v : Int) : ∀ (l : List Int) (k : Int), 0 ≤ k → ∃ n, B6 v l k = some n ∧ (0 ≤ n ↔ v ∈ l)
  | [], k, _ => ⟨-1, rfl, by simp⟩
  | x :: l, k, hk => by
    unfold B6
    by_cases h : v = x
    · exact ⟨k, if_pos h, by simp [h, hk]⟩
    · obtain ⟨n, h1, h2⟩ := U1 v l (k + 1) (by omega)
      exact ⟨n, by rw [if_neg h]; exact h1, by rw [h2]; simp [h]⟩
theorem Sq (l : List Int) (v : Int) : Bv l v = some (decide (v ∈ l)) := by
  unfold Bv EE
  obtain ⟨n, h1, h2⟩ := U1 v l 0 (Int.le_refl _)
  rw [h1, Ap]; congr 1; rw [decide_eq_decide]; exact h2
theorem YT (l : List Int) (k : Nat) : sl l 0 (k : Int) = l.take k := by
  unfold sl; rw [Int.toNat_natCast]; rfl
theorem SU (hn : ps.length ≤ 1000) (H : List Int) : ∀ (r pre : List Int), H = pre ++ r → D3 wide ps H r (pre.length : Int) = some (Wp ps pre r)
  | [], pre, _ => rfl
  | x :: r, pre, h => by
    unfold D3 Wp
    have ih := SU hn H r (pre ++ [x]) (by rw [h]; simp)
    rw [List.length_append, List.length_singleton] at ih
    have e : ((pre.length : Int) + 1) = ((pre.length + 1 : Nat) : Int) := rfl
    rw [WZ hn, Ap]
    by_cases h1 : Rm ps x 1 = 0
    · rw [if_neg (not_not_intro h1), if_neg (not_not_intro h1), Bz ⟨by omega, by rw [h, List.length_append]; omega⟩, Lv, YT, h, List.take_left, ← h, Sq, Ap, e, ih]
      by_cases h2 : x ∈ pre
      · rw [if_pos (decide_eq_true h2), if_pos h2]
      · rw [if_neg (fun h => h2 (of_decide_eq_true h)), if_neg h2]
    · rw [if_pos h1, if_pos h1]
theorem WM : ∀ {r pre : List Int}, Wp ps pre r = 0 → ∀ x ∈ r, (0 ≤ x ∧ x < ps.length) ∧ ps.getD x.toNat 0 = 1
  | [], _, _, x, hx => by simp at hx
  | y :: r, pre, h, x, hx => by
    unfold Wp at h
    by_cases h1 : Rm ps y 1 = 0
    · rw [if_neg (not_not_intro h1)] at h
      by_cases h2 : y ∈ pre
      · rw [if_pos h2] at h; cases h
      · rw [if_neg h2] at h
        rcases List.mem_cons.1 hx with rfl | hx
        · exact Yc h1
        · exact WM h x hx
    · rw [if_pos h1] at h; exact absurd h h1
def QU (wide : Int) (ps : List Int) (w v : Int) (H : List Int) : Int := if KC wide ps w v ≠ 0 then KC wide ps w v else Wp ps [] H
def J6 (wide : Int) (ps : List Int) (w v : Int) (H : List Int) : List (List Bool) := H.map fun h => IN wide ps w v ps.length h.toNat
theorem Tl : ∀ (r : List Int) (acc : List (List Bool)), (∀ x ∈ r, 0 ≤ x ∧ x < ps.length) → acc.length + r.length ≤ 100000 → EZ (R6 wide ps w v) r acc = some (acc ++ J6 wide ps w v r)
  | [], acc, _, _ => by unfold EZ J6; simp
  | x :: r, acc, h, hl => by
    simp only [List.length_cons] at hl
    have hx := h x (List.mem_cons_self ..)
    unfold EZ R6
    rw [NV (x := IN wide ps w v ps.length x.toNat) hx.1 (Jf _ (by omega)), Km (by simp; omega)]
    have := Tl r (acc ++ [IN wide ps w v ps.length x.toNat]) (fun y hy => h y (List.mem_cons_of_mem _ hy)) (by simp; omega)
    unfold R6 at this
    rw [this]
    unfold J6
    simp
theorem XR (hn : ps.length ≤ 1000) (H : List Int) (hH : H.length ≤ 1000) : Kl wide ps w v H = some (if QU wide ps w v H = 0 then J6 wide ps w v H else [], decide (QU wide ps w v H = 0), QU wide ps w v H) := by
  unfold Kl
  rw [S9 hn, B2]
  by_cases h : KC wide ps w v = 0
  · have e : QU wide ps w v H = Wp ps [] H := by unfold QU; rw [if_neg (not_not_intro h)]
    have aa : H2 wide ps H = some (Wp ps [] H) := SU hn H H [] rfl
    rw [if_neg (not_not_intro h), if_pos h, aa, Ap, e]
    by_cases h2 : Wp ps [] H = 0
    · rw [if_neg (not_not_intro h2), if_pos h2, Tl H [] (fun x hx => (WM h2 x hx).1) (by simpa using Nat.le_trans hH (by decide)), Ap, decide_eq_true h2, h2]; rfl
    · rw [if_pos h2, if_neg h2, decide_eq_false h2]
  · have e : QU wide ps w v H = KC wide ps w v := by unfold QU; rw [if_pos h]
    rw [if_pos h, e, if_neg h, decide_eq_false h]
end
end Go.Proofs.YtfmapnhfamoecaaGreat
namespace Go.Proofs.YtfmapnhfamoecaaGreat
open Go.PL Go.Hear
def Kp (p : List Bool) : List (List Bool) → List (List Bool)
  | [] => []
  | y :: l => if y = p then Kp p l else y :: Kp y l
def Ud : List (List Bool) → List (List Bool)
  | [] => []
  | x :: l => x :: Kp x l
theorem QN {z : List Bool} : ∀ {p : List Bool} {l : List (List Bool)}, (z ∈ Kp p l ∨ z = p) ↔ (z ∈ l ∨ z = p)
  | p, [] => by simp [Kp]
  | p, y :: l => by
    unfold Kp
    by_cases h : y = p
    · rw [if_pos h, QN, List.mem_cons]
      constructor
      · rintro (h1 | h1)
        · exact .inl (.inr h1)
        · exact .inr h1
      · rintro ((h1 | h1) | h1)
        · exact .inr (h1.trans h)
        · exact .inl h1
        · exact .inr h1
    · have ih := QN (z := z) (p := y) (l := l)
      rw [if_neg h, List.mem_cons, List.mem_cons]
      constructor
      · rintro ((h1 | h1) | h1)
        · exact .inl (.inl h1)
        · rcases ih.1 (.inl h1) with h2 | h2
          · exact .inl (.inr h2)
          · exact .inl (.inl h2)
        · exact .inr h1
      · rintro ((h1 | h1) | h1)
        · exact .inl (.inl h1)
        · rcases ih.2 (.inl h1) with h2 | h2
          · exact .inl (.inr h2)
          · exact .inl (.inl h2)
        · exact .inr h1
theorem NU {z : List Bool} : ∀ {l : List (List Bool)}, z ∈ Ud l ↔ z ∈ l
  | [] => Iff.rfl
  | x :: l => by
    have h := QN (z := z) (p := x) (l := l)
    unfold Ud
    rw [List.mem_cons, List.mem_cons, or_comm, h, or_comm]
theorem QK : ∀ (p : List Bool) (l : List (List Bool)), (Kp p l).length ≤ l.length
  | _, [] => Nat.le_refl _
  | p, y :: l => by
    unfold Kp
    split
    · have := QK p l; rw [List.length_cons]; omega
    · have := QK y l; rw [List.length_cons, List.length_cons]; omega
theorem Vx : ∀ l : List (List Bool), (Ud l).length ≤ l.length
  | [] => Nat.le_refl _
  | x :: l => by have := QK x l; unfold Ud; rw [List.length_cons, List.length_cons]; omega
theorem cF {l : List (List Bool)} {i : Nat} (h : i < l.length) : l[i]? = some (l.getD i []) := I6 h
theorem aL {β : Type} {xs : List (List Bool)} {i : Nat} (f : List Bool → Option β) (h : i < xs.length) : ix xs (i : Int) f = f (xs.getD i []) := NV (by omega) (by rw [Int.toNat_natCast]; exact cF h)
theorem Qd {o : List (List Bool)} {k : Nat} (hk : k < o.length) (hn : o.length ≤ 100000) : ∀ (rest : List (List Bool)) (fu j : Nat) (s A : List (List Bool)), rest.length < fu → o.drop (k + j) = rest → 1 ≤ j → s.length = o.length → s.take A.length = A → s.drop A.length = o.drop A.length → A.length + 1 ≤ k + j → k ≤ A.length →
    ∃ s' B, Bc (k : Int) fu s (A.length : Int) (j : Int) = some (s', (B.length : Int)) ∧ B = A ++ Kp (o.getD (k + j - 1) []) rest ∧ s'.length = o.length ∧ s'.take B.length = B ∧ B.length ≤ o.length
  | _, 0, _, _, _, h, _, _, _, _, _, _, _ => absurd h (Nat.not_lt_zero _)
  | [], fu + 1, j, s, A, _, hd, hj, hs, h1, h2, h3, h4 => by
    have hle : o.length ≤ k + j := List.drop_eq_nil_iff.1 hd
    have hA : A.length ≤ s.length := by
      have := congrArg List.length h1
      rw [List.length_take] at this; omega
    refine ⟨s, A, ?_, by simp [Kp], hs, h1, by omega⟩
    unfold Bc
    rw [Int.toNat_natCast, if_neg (by omega)]
  | x :: rest, fu + 1, j, s, A, hf, hd, hj, hs, h1, h2, h3, h4 => by
    rw [List.length_cons] at hf
    have aa : k + j < o.length := by
      rcases Nat.lt_or_ge (k + j) o.length with h' | h'
      · exact h'
      · rw [List.drop_eq_nil_of_le h'] at hd; cases hd
    have hg : o.getD (k + j) [] = x := by
      rw [List.drop_eq_getElem_cons aa] at hd
      rw [List.getD_eq_getElem?_getD, List.getElem?_eq_getElem aa]
      exact (List.cons.inj hd).1
    have ab : o.drop (k + (j + 1)) = rest := by
      rw [List.drop_eq_getElem_cons aa] at hd
      rw [show k + (j + 1) = k + j + 1 by omega]
      exact (List.cons.inj hd).2
    have hA : A.length ≤ s.length := by
      have := congrArg List.length h1
      rw [List.length_take] at this; omega
    have rd : ∀ i, A.length ≤ i → s.getD i [] = o.getD i [] := fun i hi => by
      have e1 : s.getD i [] = (s.drop A.length).getD (i - A.length) [] := by
        rw [List.getD_eq_getElem?_getD, List.getD_eq_getElem?_getD, List.getElem?_drop, show A.length + (i - A.length) = i by omega]
      have e2 : o.getD i [] = (o.drop A.length).getD (i - A.length) [] := by
        rw [List.getD_eq_getElem?_getD, List.getD_eq_getElem?_getD, List.getElem?_drop, show A.length + (i - A.length) = i by omega]
      rw [e1, e2, h2]
    have ad : ∀ i, A.length ≤ k + i → (s.drop k).getD i [] = o.getD (k + i) [] := fun i hi => by
      rw [List.getD_eq_getElem?_getD, List.getElem?_drop, ← List.getD_eq_getElem?_getD, rd _ hi]
    have hlen : (s.drop k).length = o.length - k := by rw [List.length_drop, hs]
    have ih := Qd hk hn rest fu (j + 1)
    unfold Bc
    rw [Int.toNat_natCast, if_pos (by rw [hs]; omega), aL _ (by omega), Bz (AJ (by omega)), show (j : Int) - 1 = ((j - 1 : Nat) : Int) by omega, aL _ (by omega), ad j (by omega), ad (j - 1) (by omega), hg, show k + (j - 1) = k + j - 1 by omega]
    by_cases hx : x = o.getD (k + j - 1) []
    · have e : Kp (o.getD (k + j - 1) []) (x :: rest) = Kp (o.getD (k + (j + 1) - 1) []) rest := by
        rw [show k + (j + 1) - 1 = k + j by omega, hg]
        show (if x = _ then _ else _) = _
        rw [if_pos hx, ← hx]
      obtain ⟨s', B, q1, q2, q3⟩ := ih s A (by omega) ab (by omega) hs h1 h2 (by omega) h4
      rw [if_neg (fun h => h hx), Bz (AJ (by omega)), show (j : Int) + 1 = ((j + 1 : Nat) : Int) by omega]
      exact ⟨s', B, q1, by rw [q2, e], q3⟩
    · have e : Kp (o.getD (k + j - 1) []) (x :: rest) = x :: Kp (o.getD (k + (j + 1) - 1) []) rest := by
        rw [show k + (j + 1) - 1 = k + j by omega, hg]
        show (if x = _ then _ else _) = _
        rw [if_neg hx]
      have ae : A.length < s.length := by omega
      obtain ⟨s', B, q1, q2, q3⟩ := ih (s.set A.length x) (A ++ [x]) (by omega) ab (by omega) (by rw [List.length_set]; exact hs) (by
        rw [List.length_append, List.length_singleton, List.take_add_one, List.getElem?_set_self ae, List.take_set_of_le (Nat.le_refl _), h1]; rfl) (by
        rw [List.length_append, List.length_singleton, List.drop_set_of_lt (by omega)]
        have := congrArg (List.drop 1) h2
        rw [List.drop_drop, List.drop_drop] at this
        exact this) (by simp; omega) (by simp; omega)
      rw [List.length_append, List.length_singleton] at q1
      rw [if_pos hx, aL _ ae, Lv, Int.toNat_natCast, Bz (AJ (by omega)), Bz (AJ (by omega)), show (j : Int) + 1 = ((j + 1 : Nat) : Int) by omega, show (A.length : Int) + 1 = ((A.length + 1 : Nat) : Int) by omega]
      exact ⟨s', B, q1, by rw [q2, e, List.append_assoc]; rfl, q3⟩
theorem Q7 {o : List (List Bool)} (hn : o.length ≤ 100000) : ∀ (fu k : Nat), 1 ≤ k → k + fu = o.length → Bh o fu (k : Int) = some (o.take k ++ Kp (o.getD (k - 1) []) (o.drop k))
  | 0, k, _, hf => by
    unfold Bh CM
    rw [List.drop_eq_nil_of_le (by omega), List.take_of_length_le (by omega)]
    simp [Kp]
  | fu + 1, k, h1, hf => by
    have hk : k < o.length := by omega
    have hd : o.drop k = o.getD k [] :: o.drop (k + 1) := by
      rw [List.drop_eq_getElem_cons hk, List.getD_eq_getElem?_getD, List.getElem?_eq_getElem hk]; rfl
    unfold Bh
    rw [aL _ hk, Bz (AJ (by omega)), show (k : Int) - 1 = ((k - 1 : Nat) : Int) by omega, aL _ (by omega)]
    by_cases hx : o.getD k [] = o.getD (k - 1) []
    · obtain ⟨s', B, q1, q2, q3, q4, q5⟩ := Qd hk hn (o.drop (k + 1)) FU 1 o (o.take k) (by rw [List.length_drop]; unfold FU; omega) rfl (Nat.le_refl _) rfl (by rw [List.length_take, Nat.min_eq_left (by omega)]) (by rw [List.length_take, Nat.min_eq_left (by omega)]) (by rw [List.length_take]; omega) (by rw [List.length_take]; omega)
      rw [List.length_take, Nat.min_eq_left (by omega)] at q1
      have aa : Bc (k : Int) FU o (k : Int) 1 = some (s', (B.length : Int)) := q1
      have e : Kp (o.getD (k - 1) []) (o.drop k) = Kp (o.getD (k + 1 - 1) []) (o.drop (k + 1)) := by
        rw [hd, show k + 1 - 1 = k by omega]
        show (if _ = _ then _ else _) = _
        rw [if_pos hx, hx]
      rw [if_pos hx, Bz ⟨by omega, by omega⟩, aa, B2, Bz ⟨by omega, by omega⟩, Lv, Int.toNat_natCast, Bz ⟨⟨Int.le_refl _, by omega⟩, by rw [List.length_append, List.length_take, List.length_replicate]; omega⟩, Lv, q4]
      have ab : sl (B ++ List.replicate (s'.length - B.length) (List.replicate 30 false)) 0 (B.length : Int) = B := by
        unfold sl
        rw [Int.toNat_natCast, List.take_left]; rfl
      rw [ab, q2, e]
    · have e : o.take k ++ Kp (o.getD (k - 1) []) (o.drop k) = o.take (k + 1) ++ Kp (o.getD (k + 1 - 1) []) (o.drop (k + 1)) := by
        rw [hd, show k + 1 - 1 = k by omega, List.take_add_one, List.getElem?_eq_getElem hk]
        have e2 : Kp (o.getD (k - 1) []) (o.getD k [] :: o.drop (k + 1)) = o.getD k [] :: Kp (o.getD k []) (o.drop (k + 1)) := by
          show (if _ = _ then _ else _) = _
          rw [if_neg hx]
        rw [e2, List.append_assoc]
        have e3 : o.getD k [] = o[k] := by rw [List.getD_eq_getElem?_getD, List.getElem?_eq_getElem hk]; rfl
        rw [e3]; rfl
      rw [if_neg hx]
      unfold CO
      rw [show (((k : Nat) : Int) + 1) = ((k + 1 : Nat) : Int) by omega, e]
      exact Q7 hn fu (k + 1) (by omega) (by omega)
theorem UG {o : List (List Bool)} (hn : o.length ≤ 100000) : Cp o = some (Ud o) := by
  unfold Cp
  by_cases h : (o.length : Int) < 2
  · rw [if_pos h]
    match o, h with
    | [], _ => rfl
    | [x], _ => rfl
    | _ :: _ :: _, h => simp at h; omega
  · rw [if_neg h, Bz ⟨AJ (by omega), AJ (by omega)⟩, show Int.toNat ((o.length : Int) - 1) = o.length - 1 by omega, show (1 : Int) = ((1 : Nat) : Int) from rfl, Q7 hn (o.length - 1) 1 (Nat.le_refl _) (by omega)]
    match o, h with
    | x :: l, _ => rfl
    | [], h => simp at h
theorem VX {xs : List (List Bool)} (h : xs.length ≤ 1000000) : CA xs = some xs := by
  unfold CA QL
  rw [Km (by simp; omega), List.nil_append]
  by_cases h1 : xs = []
  · rw [if_pos h1, h1]; rfl
  · rw [if_neg h1]
def VV (R : List (List Bool)) (L : List Nat) : Prop := ∀ r ∈ R, ∃ s ∈ L, r.getD s false = true
theorem R8 (R : List (List Bool)) (L : List Nat) : Hj (PE (D0 R) (List.replicate R.length false) L) = R.length ↔ VV R L := by
  have e0 : List.replicate R.length false = R.map fun _ => false := by
    rw [List.map_const']
  have e1 : D0 R = fun s => R.map fun r => r.getD s false := rfl
  rw [e0, e1, SK, VG]
  simp only [Bool.false_or]
  rw [List.countP_eq_length]
  constructor
  · intro h r hr
    have := h r hr
    rw [List.any_eq_true] at this
    exact this
  · intro h r hr
    rw [List.any_eq_true]
    exact h r hr
theorem VV.Ud {R : List (List Bool)} {L : List Nat} : VV (Ud R) L ↔ VV R L :=
  ⟨fun h r hr => h r (NU.2 hr), fun h r hr => h r (NU.1 hr)⟩
structure Ma (R : List (List Bool)) (L : List Nat) : Prop where
  inc : Oa 0 L
  all : VV R L
  len : L.length ≤ R.length
  min : ∀ L', Oa 0 L' → VV R L' → L.length < L'.length ∨ (L.length = L'.length ∧ Vi L L')
  use : ∀ p : Nat → Bool, (∀ s, p s = false → D0 R s = List.replicate R.length false) → ∀ s ∈ L, p s = true
theorem Uh {p : Nat → Bool} : ∀ (n a : Nat), a + n ≤ 30 → Oa a ((List.range' a n).filter p)
  | 0, _, _ => trivial
  | n + 1, a, h => by
    have ih := Uh (p := p) n (a + 1) (by omega)
    rw [List.range'_succ]
    cases hp : p a with
    | true => rw [List.filter_cons_of_pos hp]; exact ⟨⟨Nat.le_refl _, by omega⟩, ih⟩
    | false => rw [List.filter_cons_of_neg (by rw [hp]; decide)]; exact ih.YS (by omega)
theorem Zu {R : List (List Bool)} (h : ∀ r ∈ R, ∃ s, s < 30 ∧ r.getD s false = true) : ∃ L, Oa 0 L ∧ L.length ≤ R.length ∧ VV R L := by
  have key : ∀ R : List (List Bool), (∀ r ∈ R, ∃ s, s < 30 ∧ r.getD s false = true) → ∃ C : List Nat, C.length = R.length ∧ (∀ s ∈ C, s < 30) ∧ VV R C := by
    intro R
    induction R with
    | nil => intro _; exact ⟨[], rfl, (fun _ h => nomatch h), fun _ h => nomatch h⟩
    | cons r R ih =>
      intro h
      obtain ⟨C, h1, h2, h3⟩ := ih fun x hx => h x (List.mem_cons_of_mem _ hx)
      obtain ⟨s, h4, h5⟩ := h r (List.mem_cons_self ..)
      refine ⟨s :: C, by rw [List.length_cons, h1, List.length_cons], fun x hx => ?_, fun x hx => ?_⟩
      · rcases List.mem_cons.1 hx with rfl | hx
        · exact h4
        · exact h2 x hx
      · rcases List.mem_cons.1 hx with rfl | hx
        · exact ⟨s, List.mem_cons_self .., h5⟩
        · obtain ⟨t, ht, h6⟩ := h3 x hx
          exact ⟨t, List.mem_cons_of_mem _ ht, h6⟩
  obtain ⟨C, h1, h2, h3⟩ := key R h
  refine ⟨(List.range' 0 30).filter fun s => decide (s ∈ C), Uh 30 0 (by omega), ?_, fun r hr => ?_⟩
  · rw [← h1]
    have aa : ((List.range' 0 30).filter fun s => decide (s ∈ C)).Nodup := List.Pairwise.filter _ (List.nodup_range' ..)
    exact aa.length_le_of_subset fun s hs => by
      rw [List.mem_filter] at hs
      exact of_decide_eq_true hs.2
  · obtain ⟨s, hs, h4⟩ := h3 r hr
    refine ⟨s, ?_, h4⟩
    rw [List.mem_filter]
    refine ⟨?_, decide_eq_true hs⟩
    rw [List.mem_range']
    exact ⟨s, h2 s hs, by omega⟩
theorem Z5 {R : List (List Bool)} {L : List Nat} {n : Nat} (h : ∀ r ∈ R, ∃ s, s < 30 ∧ r.getD s false = true) (hb : ∀ p : Nat → Bool, (∀ s, p s = false → D0 R s = List.replicate R.length false) → UM (D0 R) p (List.replicate R.length false) (min R.length R.length) L n) : n = R.length ∧ Ma R L := by
  have b := hb (fun _ => true) (fun _ h => nomatch h)
  obtain ⟨L0, k1, k2, k3⟩ := Zu h
  have ab := (R8 R L0).2 k3
  have h1 := b.max L0 k1 (fun _ _ => rfl) (by omega)
  have h2 := b.val
  have h3 : Hj (PE (D0 R) (List.replicate R.length false) L) ≤ R.length := by
    have e0 : List.replicate R.length false = R.map fun _ => false := by rw [List.map_const']
    have e1 : D0 R = fun s => R.map fun r => r.getD s false := rfl
    rw [e0, e1, SK, VG]
    exact List.countP_le_length
  have hn : n = R.length := by omega
  refine ⟨hn, b.inc, (R8 R L).1 (by omega), by have := b.len; omega, fun L' i aa => ?_, fun p hp => (hb p hp).dD⟩
  have hc := (R8 R L').2 aa
  have h4 := b.short L' i (fun _ _ => rfl) (by omega)
  rcases Nat.lt_or_ge L.length L'.length with h5 | h5
  · exact .inl h5
  · exact .inr ⟨by omega, b.fst L' i (fun _ _ => rfl) (by omega) (by omega)⟩
theorem Ma.Ud {R : List (List Bool)} {L : List Nat} (h : Ma (Ud R) L) : Ma R L := by
  refine ⟨h.inc, VV.Ud.1 h.all, Nat.le_trans h.len (Vx R), fun L' i aa => h.min L' i (VV.Ud.2 aa), fun p hp => h.use p fun s hs => ?_⟩
  have h1 := hp s hs
  unfold D0 at h1 ⊢
  rw [List.eq_replicate_iff]
  refine ⟨List.length_map .., fun b hb => ?_⟩
  obtain ⟨r, hr, rfl⟩ := List.mem_map.1 hb
  exact (List.eq_replicate_iff.1 h1).2 _ (List.mem_map.2 ⟨r, NU.1 hr, rfl⟩)
section
variable {wide : Int} {ps : List Int} {w v : Int}
theorem XQ (wide : Int) (ps : List Int) (w v : Int) (H : List Int) : (J6 wide ps w v H).length = H.length := by unfold J6; rw [List.length_map]
theorem YR (H : List Int) : ∀ r ∈ J6 wide ps w v H, r.length = 30 := fun r hr => by
  unfold J6 at hr
  obtain ⟨h, _, rfl⟩ := List.mem_map.1 hr
  exact DJ ..
theorem VB {v : List Bool} : ∀ (l : List (List Bool)) (k : Int), 0 ≤ k → ∃ n, BG v l k = some n ∧ (0 ≤ n ↔ v ∈ l)
  | [], k, _ => ⟨-1, rfl, by simp⟩
  | x :: l, k, hk => by
    unfold BG
    by_cases hx : v = x
    · exact ⟨k, by rw [if_pos hx], by simp [hx, hk]⟩
    · obtain ⟨n, h1, h2⟩ := VB (v := v) l (k + 1) (by omega)
      refine ⟨n, by rw [if_neg hx]; exact h1, ?_⟩
      rw [h2, List.mem_cons]; simp [hx]
theorem XT (R : List (List Bool)) (f : Int → Option Int) : FD R f = some (decide (List.replicate 30 false ∈ R)) := by
  unfold FD CY Di
  obtain ⟨n, h1, h2⟩ := VB (v := List.replicate 30 false) R 0 (Int.le_refl _)
  rw [h1, Ap, Ap]
  congr 1
  rw [decide_eq_decide]
  exact h2
theorem XS {r : List Bool} (hl : r.length = 30) (h : r ≠ List.replicate 30 false) : ∃ s, s < 30 ∧ r.getD s false = true := by
  apply Classical.byContradiction
  intro hn
  apply h
  rw [List.eq_replicate_iff]
  refine ⟨hl, fun b hb => ?_⟩
  obtain ⟨i, hi, rfl⟩ := List.getElem_of_mem hb
  cases hc : r[i] with
  | false => rfl
  | true => exact absurd ⟨i, by omega, by rw [List.getD_eq_getElem?_getD, List.getElem?_eq_getElem hi]; exact hc⟩ hn
theorem V2 (hn : ps.length ≤ 1000) {H : List Int} (hH : H.length ≤ 40) (ha : QU wide ps w v H = 0) :
    (List.replicate 30 false ∈ J6 wide ps w v H ∧ Gw wide ps w v H = some ([], 6)) ∨ ((¬ List.replicate 30 false ∈ J6 wide ps w v H) ∧ ∃ L, Gw wide ps w v H = some (L.map Int.ofNat, 0) ∧ Ma (J6 wide ps w v H) L) := by
  have hl := XQ wide ps w v H
  have ab := YR (wide := wide) (ps := ps) (w := w) (v := v) H
  unfold Gw
  rw [XR hn H (by omega), ha, En, if_neg (fun h => h rfl), Bz (decide_eq_true rfl), if_pos rfl, XT, Ap]
  by_cases hd : List.replicate 30 false ∈ J6 wide ps w v H
  · exact .inl ⟨hd, by rw [if_pos (decide_eq_true hd)]⟩
  · refine .inr ⟨hd, ?_⟩
    have ad := Vx (J6 wide ps w v H)
    have aa : ∀ r ∈ Ud (J6 wide ps w v H), r.length = 30 := fun r hr => ab r (NU.1 hr)
    obtain ⟨L, n, h1, h2⟩ := VK (rows := Ud (J6 wide ps w v H)) (count := fun x : Int => Ig x) aa (by omega) (fun u hu => YJ (by omega)) (most := (Ud (J6 wide ps w v H)).length) (by omega)
    obtain ⟨_, h3⟩ := Z5 (R := Ud (J6 wide ps w v H)) (fun r hr => XS (aa r hr) fun he => hd (by rw [← he]; exact NU.1 hr)) h2
    refine ⟨L, ?_, h3.Ud⟩
    rw [if_neg (by rw [decide_eq_true_iff]; exact hd), VX (by omega), Ap, UG (by omega), Ap, h1, B2]
theorem Yi (_hn : ps.length ≤ 30) {s : Nat} (hs : s < 30) (p : Nat) : (IN wide ps w v ps.length p).getD s false = (decide (s < ps.length) && OC wide ps w v s p) := by
  unfold IN
  rw [List.getD_eq_getElem?_getD, Jf _ hs]; rfl
end
end Go.Proofs.YtfmapnhfamoecaaGreat
namespace Go.Proofs.YtfmapnhfamoecaaGreat
open Go.PL Go.Hear
theorem QZ (x y : Int) : GH x y = some (decide (x < y)) := by
  unfold GH GV
  simp
theorem W8 {a : List Int} {x : Int} {tl : List Int} : (a ++ x :: tl).getD a.length 0 = x := by
  rw [List.getD_eq_getElem?_getD, List.getElem?_append_right (Nat.le_refl _), Nat.sub_self]; rfl
theorem WI {a : List Int} {x y : Int} {tl : List Int} : (a ++ x :: tl).set a.length y = a ++ y :: tl := by
  rw [List.set_append_right (h := Nat.le_refl _), Nat.sub_self, List.set_cons_zero]
theorem Wm {β : Type} {xs : List Int} {i : Nat} (f : Int → Option β) (h : i < xs.length) : ix xs (i : Int) f = f (xs.getD i 0) := NV (by omega) (by rw [Int.toNat_natCast]; exact I6 h)
theorem Qg {x : Int} {tl : List Int} : ∀ (n fu : Nat) (A B : List Int), A.length = n → n < fu → n + B.length + tl.length ≤ 100000 → (A ++ B).Pairwise (· ≤ ·) → (∀ b ∈ B, x ≤ b) → ∃ R, Be 0 fu (A ++ x :: (B ++ tl)) (n : Int) = some (R ++ tl) ∧ R.Perm (A ++ x :: B) ∧ R.Pairwise (· ≤ ·)
  | _, 0, _, _, _, h, _, _, _ => absurd h (Nat.not_lt_zero _)
  | 0, fu + 1, A, B, hA, _, _, hs, hB => by
    have : A = [] := List.eq_nil_of_length_eq_zero hA
    subst this
    refine ⟨x :: B, ?_, .refl _, List.pairwise_cons.2 ⟨hB, hs⟩⟩
    unfold Be
    rw [if_neg (by omega), Ap, if_neg (by decide)]; rfl
  | n + 1, fu + 1, A, B, hA, hf, hl, hs, hB => by
    have GK : A ≠ [] := fun h => by rw [h] at hA; simp at hA
    obtain ⟨A0, y, rfl⟩ : ∃ A0 y, A = A0 ++ [y] := ⟨A.dropLast, A.getLast GK, (List.dropLast_concat_getLast GK).symm⟩
    have aa : A0.length = n := by simpa using hA
    have e1 : A0 ++ [y] ++ x :: (B ++ tl) = A0 ++ y :: x :: (B ++ tl) := by simp
    have g1 : (A0 ++ [y] ++ x :: (B ++ tl)).getD (n + 1) 0 = x := by
      have := W8 (a := A0 ++ [y]) (x := x) (tl := B ++ tl)
      rw [List.length_append, List.length_singleton, aa] at this
      exact this
    have g2 : (A0 ++ [y] ++ x :: (B ++ tl)).getD n 0 = y := by
      rw [e1, ← aa]; exact W8
    have hlen : (A0 ++ [y] ++ x :: (B ++ tl)).length = n + 1 + 1 + B.length + tl.length := by simp [aa]; omega
    have s1 : (A0 ++ [y] ++ x :: (B ++ tl)).set (n + 1) y = A0 ++ y :: y :: (B ++ tl) := by
      have := WI (a := A0 ++ [y]) (x := x) (y := y) (tl := B ++ tl)
      rw [List.length_append, List.length_singleton, aa] at this
      rw [this]; simp
    have s2 : (A0 ++ y :: y :: (B ++ tl)).set n x = A0 ++ x :: ((y :: B) ++ tl) := by
      rw [← aa]; exact WI
    have Mw := List.pairwise_append.1 hs
    have ab := List.pairwise_append.1 Mw.1
    unfold Be
    rw [if_pos (by omega), Wm _ (by omega), g1, Bz (AJ (by omega)), show ((n + 1 : Nat) : Int) - 1 = (n : Int) by omega, Wm _ (by omega), g2, QZ, Ap, Ap]
    by_cases hc : x < y
    · have G6 : (A0 ++ (y :: B)).Pairwise (· ≤ ·) := by
        have : A0 ++ (y :: B) = A0 ++ [y] ++ B := by simp
        rw [this]; exact hs
      obtain ⟨R, r1, r2, r3⟩ := Qg (x := x) (tl := tl) n fu A0 (y :: B) aa (by omega) (by rw [List.length_cons]; omega) G6 (fun b hb => by
        rcases List.mem_cons.1 hb with rfl | hb
        · omega
        · exact hB b hb)
      refine ⟨R, ?_, r2.trans ?_, r3⟩
      · rw [if_pos (decide_eq_true hc), Bz (AJ (by omega)), Bz (AJ (by omega)), Wm _ (by omega), g2, Wm _ (by omega), g1, Lv, Int.toNat_natCast, s1, Wm _ (by simp [aa]), Lv, Int.toNat_natCast, s2, Bz (AJ (by omega)), r1]
      · rw [List.append_assoc]
        exact (List.Perm.swap y x B).append_left A0
    · refine ⟨A0 ++ [y] ++ x :: B, ?_, .refl _, ?_⟩
      · rw [if_neg (by rw [decide_eq_true_iff]; exact hc)]
        simp
      · refine List.pairwise_append.2 ⟨Mw.1, List.pairwise_cons.2 ⟨hB, Mw.2.1⟩, fun a ha b hb => ?_⟩
        rcases List.mem_cons.1 hb with rfl | hb
        · have : a ≤ y := by
            rcases List.mem_append.1 ha with h | h
            · exact ab.2.2 a h y (List.mem_singleton.2 rfl)
            · rw [List.mem_singleton] at h; omega
          omega
        · exact Mw.2.2 a ha b hb
theorem QS : ∀ (tl P : List Int), P.length + tl.length ≤ 10000 → P.Pairwise (· ≤ ·) → ∃ R, Bn 0 tl.length (P.length : Int) (P ++ tl) = some R ∧ R.Perm (P ++ tl) ∧ R.Pairwise (· ≤ ·)
  | [], P, _, hs => ⟨P, by rw [List.append_nil]; rfl, by rw [List.append_nil], hs⟩
  | x :: tl, P, hl, hs => by
    rw [List.length_cons] at hl
    obtain ⟨R, r1, r2, r3⟩ := Qg (x := x) (tl := tl) P.length FU P [] rfl (by unfold FU; omega) (by simp; omega) (by rw [List.append_nil]; exact hs) (fun _ h => nomatch h)
    rw [List.nil_append] at r1
    have aa : R.length = P.length + 1 := by rw [r2.length_eq]; simp
    obtain ⟨S, q1, q2, q3⟩ := QS tl R (by omega) r3
    refine ⟨S, ?_, q2.trans ?_, q3⟩
    · rw [List.length_cons]; unfold Bn
      rw [r1, Ap, show (P.length : Int) + 1 = (R.length : Int) by omega]
      exact q1
    · have := r2.append_right tl
      rw [List.append_assoc] at this
      exact this
theorem UC {s : List Int} (hl : s.length ≤ 10000) : ∃ R, BS s 0 (s.length : Int) = some R ∧ R.Perm s ∧ R.Pairwise (· ≤ ·) := by
  unfold BS
  rw [Bz (AJ (by omega)), Bz ⟨AJ (by omega), AJ (by omega)⟩]
  match s, hl with
  | [], _ => exact ⟨[], rfl, .refl _, List.Pairwise.nil⟩
  | x :: tl, hl =>
    rw [List.length_cons] at hl
    obtain ⟨R, r1, r2, r3⟩ := QS tl [x] (by simp; omega) (by simp)
    refine ⟨R, ?_, r2, r3⟩
    rw [show Int.toNat (((x :: tl).length : Int) - (0 + 1)) = tl.length by rw [List.length_cons]; omega]
    exact r1
theorem Ug {s : List Int} (hl : s.length ≤ 12) (fu : Nat) (aa : Int) : ∃ R, BD (fu + 1) s 0 (s.length : Int) aa = some R ∧ R.Perm s ∧ R.Pairwise (· ≤ ·) := by
  obtain ⟨R, r1, r2, r3⟩ := UC (s := s) (by omega)
  refine ⟨R, ?_, r2, r3⟩
  unfold BD Du
  show BM s 0 (s.length : Int) (18446744073709551615 + 1) = some R
  unfold BM
  rw [Bz (AJ (by omega)), Bz (by omega), r1, Ap]
section
variable {metal : List Int}
end
section
variable {wide : Int} {ps : List Int} {w v : Int}
end
end Go.Proofs.YtfmapnhfamoecaaGreat
namespace Go.Proofs.YtfmapnhfamoecaaGreat
open Go.PL Go.Hear
section
variable {n : Nat} {E E' : Int → List (Int × Int)} {s : Int} {to : Int → Int}
theorem YM (hE : TG n E) (HY : ∀ p q m : Int, (0 ≤ p ∧ p < n) → (q, m) ∈ E p → (to q, m) ∈ E' (to p)) (hs : 0 ≤ s ∧ s < n) {p d : Int} (h : PG E s p d) : PG E' (to s) (to p) d := by
  induction h with
  | here => exact .here
  | step h1 h2 ih => exact .step ih (HY _ _ _ (h1.K8 hE hs).1 h2)
theorem ZV (hE : TG n E) (aa : TG n E') (HY : ∀ p q m : Int, (0 ≤ p ∧ p < n) → (q, m) ∈ E p → (to q, m) ∈ E' (to p)) (hs : 0 ≤ s ∧ s < n) (G6 : 0 ≤ to s ∧ to s < n) {t t' : List Int} (hT : Ri n E s t) (ab : Ri n E' (to s) t') {p : Int} (hp : 0 ≤ p ∧ p < n) (h : Ge t p ≠ -1) : Ge t' (to p) ≠ -1 ∧ Ge t' (to p) ≤ Ge t p := by
  rcases hT.sound p hp.1 hp.2 with h1 | ⟨_, _, h1⟩
  · exact absurd h1 h
  · exact ab.below aa G6 (YM hE HY hs h1)
end
section
variable {down : Bool} {wide rows w : Int} {ps : List Int}
theorem V5 (h : LL wide ps = 0) : (1 ≤ wide ∧ wide ≤ 6) ∧ (1 ≤ ps.length ∧ ps.length ≤ 30) ∧ (ps.length : Int) % wide = 0 ∧ (∀ x ∈ ps, 0 ≤ x ∧ x ≤ 2) ∧ Hf ps ≤ 10 := by
  have ho : FF wide ps 0 = 0 := IC h (by unfold okW; omega)
  obtain ⟨h1, h2, h3, h4, _, h5⟩ := IL ho
  exact ⟨h1, h2, h3, h4, h5⟩
theorem Zl (hw : 1 ≤ wide ∧ wide ≤ 6) (hl : 1 ≤ ps.length ∧ ps.length ≤ 30) (hm : (ps.length : Int) % wide = 0) (hk : ∀ x ∈ ps, 0 ≤ x ∧ x ≤ 2) (hc : Hf ps ≤ 10) : LL wide ps = 0 := by
  unfold LL
  rw [if_neg (by omega), if_neg, if_neg (by omega)]
  rw [Decidable.not_not, List.all_eq_true]
  intro x hx
  exact decide_eq_true (hk x hx)
theorem VN {k : Nat} (ps : List Int) {p q m : Int} (h : (q, m) ∈ La wide (ps.set k 2) w p) : (q, m) ∈ La wide ps w p := by
  unfold La at h ⊢
  rw [List.mem_filterMap] at h ⊢
  obtain ⟨s, hs, he⟩ := h
  refine ⟨s, hs, ?_⟩
  unfold HI at he ⊢
  rw [List.length_set] at he
  split at he
  · cases he
  · rename_i hc
    have GK : k ≠ (p + s.1 * wide + s.2).toNat := fun h1 => by
      refine hc (.inr ?_)
      rw [← h1]
      have hq : 0 ≤ p + s.1 * wide + s.2 ∧ p + s.1 * wide + s.2 ≤ (ps.length : Int) - 1 := by
        refine Classical.byContradiction fun hn => hc (.inl (.inl hn))
      rw [Jk (by omega), if_pos rfl]
    have hg : (ps.set k 2).getD (p + s.1 * wide + s.2).toNat 0 = ps.getD (p + s.1 * wide + s.2).toNat 0 := by
      rw [List.getD_eq_getElem?_getD, List.getElem?_set_ne GK, ← List.getD_eq_getElem?_getD]
    rw [hg] at he hc
    rw [if_neg hc]
    exact he
theorem U8 (ho : FF wide ps w = 0) {k : Nat} (aa : FF wide (ps.set k 2) w = 0) {s p : Int} (hs : 0 ≤ s ∧ s < ps.length) (hp : 0 ≤ p ∧ p < ps.length) (h : (tb wide (ps.set k 2) w s).getD p.toNat 0 ≠ -1) : (tb wide ps w s).getD p.toNat 0 ≠ -1 ∧ (tb wide ps w s).getD p.toNat 0 ≤ (tb wide (ps.set k 2) w s).getD p.toNat 0 := by
  have ad : TG ps.length (La wide (ps.set k 2) w) := by
    have := K6 aa
    rwa [List.length_set] at this
  have ab := Pt aa (stand := s) (by rw [List.length_set]; exact hs)
  rw [List.length_set] at ab
  exact ZV (to := fun x => x) ad (K6 ho) (fun p q m _ hx => VN ps hx) hs hs ab (Pt ho hs) hp h
theorem RC : ∀ (xs : List Int) (i : Nat), xs.getD i 0 = 0 → i < xs.length → Hf (xs.set i 2) = Hf xs
  | [], _, _, h => by simp at h
  | x :: xs, 0, h, _ => by
    have : x = 0 := h
    subst this
    unfold Hf; simp
  | x :: xs, i + 1, h, hi => by
    have ih := RC xs i h (by simpa using hi)
    unfold Hf at ih ⊢
    rw [List.set_cons_succ, List.filter_cons, List.filter_cons]
    split
    · rw [List.length_cons, List.length_cons, ih]
    · exact ih
theorem WY (h : LL wide ps = 0) {k : Nat} (hk : k < ps.length) (h0 : ps.getD k 0 = 0) : LL wide (ps.set k 2) = 0 := by
  obtain ⟨h1, h2, h3, h4, h5⟩ := V5 h
  refine Zl h1 (by rw [List.length_set]; exact h2) (by rw [List.length_set]; exact h3) (fun x hx => ?_) (by rw [RC ps k h0 hk]; exact h5)
  rcases List.mem_or_eq_of_mem_set hx with h | rfl
  · exact h4 x h
  · omega
end
end Go.Proofs.YtfmapnhfamoecaaGreat
namespace Go.Proofs.YtfmapnhfamoecaaGreat
open Go.PL Go.Hear
def Gd (bC : Nat → Nat → Bool) (hi : Nat) : Nat → List Nat → List Nat → Prop
  | _, _, [] => True
  | f, l, x :: t => (f ≤ x ∧ x < hi) ∧ (l.all fun k => !bC k x) = true ∧ Gd bC hi (x + 1) (l ++ [x]) t
section
variable {bC : Nat → Nat → Bool}
theorem Gd.YS {hi f g : Nat} {l t : List Nat} (h : Gd bC hi g l t) (hf : f ≤ g) : Gd bC hi f l t := by
  cases t with
  | nil => trivial
  | cons x t => exact ⟨⟨by have := h.1; omega, h.1.2⟩, h.2⟩
end
def V3 (x y : List Bool) : Bool := (List.range 30).any fun s => x.getD s false && y.getD s false
theorem P5 {x y : List Bool} : V3 x y = false ↔ ∀ s, s < 30 → ¬ (x.getD s false = true ∧ y.getD s false = true) := by
  unfold V3
  rw [List.any_eq_false]
  constructor
  · intro h s hs hc
    exact h s (List.mem_range.2 hs) (by rw [hc.1, hc.2]; rfl)
  · intro h s hs hc
    rw [Bool.and_eq_true] at hc
    exact h s (List.mem_range.1 hs) hc
structure Xm (f : Int → List Bool) (H A : List Int) : Prop where
  nd : A.Nodup
  sub : ∀ h ∈ A, h ∈ H
  ap : A.Pairwise fun h k => V3 (f h) (f k) = false
  max : ∀ S : List Int, S.Nodup → (∀ h ∈ S, h ∈ H) → (S.Pairwise fun h k => V3 (f h) (f k) = false) → S.length ≤ A.length
section
variable {f : Int → List Bool} {H A H' A' : List Int}
theorem Xm.map_le {f' : Int → List Bool} {to : Int → Int} (h : Xm f H A) (h' : Xm f' H' A') (aa : ∀ x ∈ H, ∀ y ∈ H, to x = to y → x = y) (ab : ∀ x ∈ H, to x ∈ H') (hc : ∀ x ∈ H, ∀ y ∈ H, V3 (f x) (f y) = false → V3 (f' (to x)) (f' (to y)) = false) : A.length ≤ A'.length := by
  have := h'.max (A.map to) ?_ (fun x hx => ?_) ?_
  · rwa [List.length_map] at this
  · rw [List.Nodup, List.pairwise_map]
    exact List.Pairwise.imp_of_mem (fun {a b} ha hb ad he => ad (aa a (h.sub a ha) b (h.sub b hb) he)) h.nd
  · obtain ⟨y, hy, rfl⟩ := List.mem_map.1 hx
    exact ab y (h.sub y hy)
  · rw [List.pairwise_map]
    exact List.Pairwise.imp_of_mem (fun {a b} ha hb ad => hc a (h.sub a ha) b (h.sub b hb) ad) h.ap
end
def X7 (C : List Nat) : List Nat := (List.range' 0 30).filter fun s => decide (s ∈ C)
theorem Sd {C : List Nat} {s : Nat} : s ∈ X7 C ↔ s < 30 ∧ s ∈ C := by
  unfold X7
  rw [List.mem_filter, List.mem_range', decide_eq_true_iff]
  constructor
  · rintro ⟨⟨i, h1, rfl⟩, h2⟩; exact ⟨by omega, h2⟩
  · rintro ⟨h1, h2⟩; exact ⟨⟨s, h1, by omega⟩, h2⟩
theorem Vr (C : List Nat) : Oa 0 (X7 C) := Uh 30 0 (by omega)
theorem U9 (C : List Nat) : (X7 C).length ≤ C.length := by
  have aa : (X7 C).Nodup := List.Pairwise.filter _ (List.nodup_range' ..)
  exact aa.length_le_of_subset fun s hs => (Sd.1 hs).2
theorem Vo {R : List (List Bool)} {C : List Nat} (h : ∀ r ∈ R, ∃ s ∈ C, s < 30 ∧ r.getD s false = true) : VV R (X7 C) := fun r hr => by
  obtain ⟨s, h1, h2, h3⟩ := h r hr
  exact ⟨s, Sd.2 ⟨h2, h1⟩, h3⟩
theorem pick {R : List (List Bool)} {C : List Nat} (h : ∀ r ∈ R, ∃ s ∈ C, s < 30 ∧ r.getD s false = true) : ∃ L, Oa 0 L ∧ VV R L ∧ L.length ≤ R.length ∧ L.length ≤ C.length ∧ ∀ s ∈ L, s ∈ C := by
  have key : ∀ R : List (List Bool), (∀ r ∈ R, ∃ s ∈ C, s < 30 ∧ r.getD s false = true) → ∃ D : List Nat, D.length = R.length ∧ (∀ s ∈ D, s ∈ C ∧ s < 30) ∧ VV R D := by
    intro R
    induction R with
    | nil => intro _; exact ⟨[], rfl, (fun _ h => by cases h), fun _ h => by cases h⟩
    | cons r R ih =>
      intro h
      obtain ⟨D, h1, h2, h3⟩ := ih fun x hx => h x (List.mem_cons_of_mem _ hx)
      obtain ⟨s, h4, h5, h6⟩ := h r (List.mem_cons_self ..)
      refine ⟨s :: D, by rw [List.length_cons, h1, List.length_cons], fun x hx => ?_, fun x hx => ?_⟩
      · rcases List.mem_cons.1 hx with rfl | hx
        · exact ⟨h4, h5⟩
        · exact h2 x hx
      · rcases List.mem_cons.1 hx with rfl | hx
        · exact ⟨s, List.mem_cons_self .., h6⟩
        · obtain ⟨t, ht, h7⟩ := h3 x hx
          exact ⟨t, List.mem_cons_of_mem _ ht, h7⟩
  obtain ⟨D, h1, h2, h3⟩ := key R h
  have hm : ∀ s ∈ X7 D, s ∈ C := fun s hs => (h2 s (Sd.1 hs).2).1
  refine ⟨X7 D, Vr D, Vo fun r hr => ?_, by rw [← h1]; exact U9 D, ?_, hm⟩
  · obtain ⟨s, hs, h4⟩ := h3 r hr
    exact ⟨s, hs, (h2 s hs).2, h4⟩
  · have aa : (X7 D).Nodup := List.Pairwise.filter _ (List.nodup_range' ..)
    exact aa.length_le_of_subset hm
theorem Ma.le {R : List (List Bool)} {L : List Nat} (h : Ma R L) {C : List Nat} (hC : ∀ r ∈ R, ∃ s ∈ C, s < 30 ∧ r.getD s false = true) : L.length ≤ C.length := by
  have := h.min (X7 C) (Vr C) (Vo hC)
  have := U9 C
  omega
end Go.Proofs.YtfmapnhfamoecaaGreat
namespace Go.Proofs.YtfmapnhfamoecaaGreat
open Go.PL Go.Hear
theorem Qt : ((List.range 256).all fun k : Nat => (FP ((k : Int) % 18446744073709551616)).isSome) = true := by decide +kernel
theorem SJ {k : Nat} (h : k < 256) : ∃ n, FP ((k : Int) % 18446744073709551616) = some n := by
  have := (List.all_eq_true.1 Qt) k (List.mem_range.2 h)
  exact Option.isSome_iff_exists.1 this
theorem SO {s : List Int} (hl : s.length ≤ 12) : ∃ R, DM s = some R ∧ R.Perm s ∧ R.Pairwise (· ≤ ·) := by
  obtain ⟨n, hn⟩ := SJ (k := s.length) (by omega)
  obtain ⟨R, h1, h2⟩ := Ug hl 18446744073709551615 n
  refine ⟨R, ?_, h2⟩
  have aa : BD FU s 0 (s.length : Int) n = some R := h1
  unfold DM
  rw [hn, Ap, aa, Ap]
theorem values_eq : ∀ l : List Int, Cr l = some l := fun l => by
  have key : ∀ l : List Int, BN l = some l := fun l => by
    induction l with
    | nil => rfl
    | cons x l ih => unfold BN; rw [ih]; rfl
  unfold Cr D6
  rw [key, Ap]
theorem K9 : ∀ (l acc : List Int), acc.length + l.length ≤ 100000 → Bt l acc = some (acc ++ l)
  | [], acc, _ => by simp [Bt]
  | x :: l, acc, h => by
    rw [List.length_cons] at h
    unfold Bt
    rw [Km (by simp; omega), K9 l (acc ++ [x]) (by simp; omega)]
    simp
theorem P3 {s : List Int} (hl : s.length ≤ 12) : ∃ R, (b1 (Cr s) fun y => Eh y) = some R ∧ R.Perm s ∧ R.Pairwise (· ≤ ·) := by
  obtain ⟨R, h1, h2⟩ := SO hl
  refine ⟨R, ?_, h2⟩
  unfold Eh Ff DT
  rw [values_eq, Ap, K9 s [] (by simp; omega), Ap, Ap, List.nil_append, Ap, h1, Ap]
end Go.Proofs.YtfmapnhfamoecaaGreat
namespace Go.Proofs.YtfmapnhfamoecaaGreat
open Go.PL Go.Hear
section
variable {wide : Int} {ps : List Int} {w v : Int}
theorem U6 : ∀ {r pre : List Int}, Wp ps pre r = 0 ↔ (∀ x ∈ r, Rm ps x 1 = 0) ∧ (∀ x ∈ r, x ∉ pre) ∧ r.Nodup
  | [], pre => by
    constructor
    · intro _; exact ⟨(fun _ h => by cases h), (fun _ h => by cases h), List.Pairwise.nil⟩
    · intro _; rfl
  | y :: r, pre => by
    have ih := U6 (r := r) (pre := pre ++ [y])
    unfold Wp
    by_cases h1 : Rm ps y 1 = 0
    · rw [if_neg (not_not_intro h1)]
      by_cases h2 : y ∈ pre
      · rw [if_pos h2]
        constructor
        · intro h; cases h
        · rintro ⟨_, h, _⟩; exact absurd h2 (h y (List.mem_cons_self ..))
      · rw [if_neg h2, ih, List.nodup_cons]
        constructor
        · rintro ⟨a, b, c⟩
          refine ⟨fun x hx => ?_, fun x hx => ?_, fun hy => ?_, c⟩
          · rcases List.mem_cons.1 hx with rfl | hx
            · exact h1
            · exact a x hx
          · rcases List.mem_cons.1 hx with rfl | hx
            · exact h2
            · exact fun hp => b x hx (List.mem_append.2 (.inl hp))
          · exact b y hy (List.mem_append.2 (.inr (List.mem_singleton.2 rfl)))
        · rintro ⟨a, b, c, d⟩
          refine ⟨fun x hx => a x (List.mem_cons_of_mem _ hx), fun x hx hp => ?_, d⟩
          rcases List.mem_append.1 hp with hp | hp
          · exact b x (List.mem_cons_of_mem _ hx) hp
          · rw [List.mem_singleton] at hp; subst hp; exact c hx
    · rw [if_pos h1]
      constructor
      · intro h; exact absurd h h1
      · rintro ⟨h, _, _⟩; exact absurd (h y (List.mem_cons_self ..)) h1
theorem WO {H : List Int} : QU wide ps w v H = 0 ↔ KC wide ps w v = 0 ∧ (∀ x ∈ H, Rm ps x 1 = 0) ∧ H.Nodup := by
  unfold QU
  by_cases h : KC wide ps w v = 0
  · rw [if_neg (not_not_intro h), U6]
    constructor
    · rintro ⟨a, _, b⟩; exact ⟨h, a, b⟩
    · rintro ⟨_, a, b⟩; exact ⟨a, (fun _ _ h => by cases h), b⟩
  · rw [if_pos h]
    constructor
    · intro h'; exact absurd h' h
    · rintro ⟨h', _⟩; exact absurd h' h
def Wd (wide : Int) (ps : List Int) (w v : Int) (h : Int) : List Bool := IN wide ps w v ps.length h.toNat
theorem U7 (H : List Int) : J6 wide ps w v H = H.map (Wd wide ps w v) := rfl
section
variable {R : List (List Bool)} {own : List Int} {count : Int → Option Int}
end
end
end Go.Proofs.YtfmapnhfamoecaaGreat
namespace Go.Proofs.YtfmapnhfamoecaaGreat
open Go.PL Go.Hear
theorem TM {kind : Int} : ∀ (l : List Int) (k : Int), (KT kind l k).Pairwise (· < ·)
  | [], _ => List.Pairwise.nil
  | y :: l, k => by
    have ih := TM (kind := kind) l (k + 1)
    unfold KT
    by_cases hy : y = kind
    · rw [if_pos hy, List.pairwise_cons]
      refine ⟨fun x hx => ?_, ih⟩
      have := (O2 l (k + 1) x).1 hx
      omega
    · rw [if_neg hy]; exact ih
theorem T5 {kind : Int} (l : List Int) (k : Int) : (KT kind l k).Nodup := (TM l k).imp fun h => by omega
theorem Po : ∀ (l : List Int) (k : Int), (KT 1 l k).length = Hf l
  | [], _ => rfl
  | y :: l, k => by
    have ih := Po l (k + 1)
    unfold KT
    unfold Hf at ih ⊢
    by_cases hy : y = 1
    · rw [if_pos hy, List.length_cons, ih, List.filter_cons_of_pos (by simpa using hy)]; rfl
    · rw [if_neg hy, ih, List.filter_cons_of_neg (by simpa using hy)]
theorem Y3 {kind : Int} {ps : List Int} {x : Int} : x ∈ KT kind ps 0 ↔ (0 ≤ x ∧ x < ps.length) ∧ ps.getD x.toNat 0 = kind := by
  rw [O2, Int.sub_zero, Int.zero_add]
  constructor
  · rintro ⟨a, b, c⟩; exact ⟨⟨a, b⟩, c⟩
  · rintro ⟨⟨a, b⟩, c⟩; exact ⟨a, b, c⟩
theorem R1 {ps : List Int} {p kind : Int} (h : (0 ≤ p ∧ p < ps.length) ∧ ps.getD p.toNat 0 = kind) : Rm ps p kind = 0 := by
  unfold Rm
  rw [if_neg (not_not_intro ⟨h.1.1, by omega⟩), if_neg (not_not_intro h.2)]
section
variable {wide : Int} {ps : List Int} {w v : Int}
theorem Vy (hc : LL wide ps = 0) (hw : okW w) (hv : 1 ≤ v ∧ v ≤ 40) : KC wide ps w v = 0 := by
  unfold KC Uv
  rw [if_neg (not_not_intro hc), if_neg]
  rintro (h | h)
  · exact h hw
  · exact h hv
structure Hs (wide : Int) (ps : List Int) (w v : Int) (H : List Int) : Prop where
  ck : LL wide ps = 0
  ww : okW w
  vv : 1 ≤ v ∧ v ≤ 40
  is : ∀ x ∈ H, (0 ≤ x ∧ x < ps.length) ∧ ps.getD x.toNat 0 = 1
  nd : H.Nodup
theorem Hs.dB {H : List Int} (h : Hs wide ps w v H) : KC wide ps w v = 0 := Vy h.ck h.ww h.vv
theorem Hs.ask {H : List Int} (h : Hs wide ps w v H) : QU wide ps w v H = 0 := WO.2 ⟨h.dB, fun x hx => R1 (h.is x hx), h.nd⟩
theorem Hs.open {H : List Int} (h : Hs wide ps w v H) : FF wide ps w = 0 := IC h.ck h.ww
theorem Hs.Qw {H : List Int} (h : Hs wide ps w v H) : ps.length ≤ 30 := (IL h.open).2.1.2
theorem Hs.all (hc : LL wide ps = 0) (hw : okW w) (hv : 1 ≤ v ∧ v ≤ 40) : Hs wide ps w v (KT 1 ps 0) := ⟨hc, hw, hv, fun _ hx => Y3.1 hx, T5 ps 0⟩
theorem Hs.sub {H H' : List Int} (h : Hs wide ps w v H) (hs : ∀ x ∈ H', x ∈ H) (hn : H'.Nodup) : Hs wide ps w v H' := ⟨h.ck, h.ww, h.vv, fun x hx => h.is x (hs x hx), hn⟩
theorem Hs.len {H : List Int} (h : Hs wide ps w v H) : H.length ≤ 10 := by
  have h1 : H.length ≤ (KT 1 ps 0).length := h.nd.length_le_of_subset fun x hx => Y3.2 (h.is x hx)
  rw [Po] at h1
  have := (IL h.open).2.2.2.2.2
  omega
theorem Hs.BI {H : List Int} (h : Hs wide ps w v H) {v' : Int} (hv : 1 ≤ v' ∧ v' ≤ 40) : Hs wide ps w v' H := ⟨h.ck, h.ww, hv, h.is, h.nd⟩
theorem PT (P : Nat → Bool) (n : Nat) : (CJ P n).Pairwise (· < ·) := by
  unfold CJ
  rw [List.pairwise_map]
  exact (List.pairwise_lt_range.filter P).imp fun h => by simp only [Int.ofNat_eq_natCast]; omega
def ZW (wide : Int) (ps : List Int) (w v : Int) (h : Int) : List Int := CJ (fun s => OC wide ps w v s h.toNat) ps.length
theorem Wz (hn : ps.length ≤ 30) {s : Nat} (hs : s < 30) (h : Int) : (Wd wide ps w v h).getD s false = (decide (s < ps.length) && OC wide ps w v s h.toNat) := Yi hn hs h.toNat
theorem VT (hn : ps.length ≤ 30) {s : Nat} (hs : s < 30) {h : Int} : (Wd wide ps w v h).getD s false = true ↔ s < ps.length ∧ OC wide ps w v s h.toNat = true := by
  rw [Wz hn hs, Bool.and_eq_true, decide_eq_true_iff]
theorem VL {s p : Nat} (h : OC wide ps w v s p = true) : ps.getD s 0 = 0 := by
  unfold OC at h
  rw [Bool.and_eq_true, decide_eq_true_iff] at h
  exact h.1
theorem Tw (hn : ps.length ≤ 30) {H : List Int} : List.replicate 30 false ∈ J6 wide ps w v H ↔ ∃ h ∈ H, ZW wide ps w v h = [] := by
  rw [U7, List.mem_map]
  constructor
  · rintro ⟨h, h1, h2⟩; exact ⟨h, h1, (O9 hn).1 h2⟩
  · rintro ⟨h, h1, h2⟩; exact ⟨h, h1, (O9 hn).2 h2⟩
theorem O6 {h : Int} {s : Int} : s ∈ ZW wide ps w v h ↔ (0 ≤ s ∧ s < ps.length) ∧ OC wide ps w v s.toNat h.toNat = true := K4
end
end Go.Proofs.YtfmapnhfamoecaaGreat
namespace Go.Proofs.YtfmapnhfamoecaaGreat
open Go.PL Go.Hear
def ZX (f : Int → List Bool) (k : Nat) (H : List Int) : Prop := ∃ C : List Nat, C.length ≤ k ∧ ∀ h ∈ H, ∃ s ∈ C, s < 30 ∧ (f h).getD s false = true
section
variable {wide : Int} {ps : List Int} {w v : Int}
theorem Wx {C : List Nat} {H : List Int} : (∀ r ∈ J6 wide ps w v H, ∃ s ∈ C, s < 30 ∧ r.getD s false = true) ↔ ∀ h ∈ H, ∃ s ∈ C, s < 30 ∧ (Wd wide ps w v h).getD s false = true := by
  rw [U7]
  constructor
  · intro h x hx; exact h _ (List.mem_map.2 ⟨x, hx, rfl⟩)
  · intro h r hr
    obtain ⟨x, hx, rfl⟩ := List.mem_map.1 hr
    exact h x hx
theorem Z1 {H : List Int} (hH : Hs wide ps w v H) : ((∃ h ∈ H, ZW wide ps w v h = []) ∧ Gw wide ps w v H = some ([], 6)) ∨ ((∀ h ∈ H, ZW wide ps w v h ≠ []) ∧ ∃ L, Gw wide ps w v H = some (L.map Int.ofNat, 0) ∧ Ma (J6 wide ps w v H) L) := by
  have hn := hH.Qw
  have hl := hH.len
  rcases V2 (by omega) (by omega) hH.ask with ⟨h1, h2⟩ | ⟨h1, h2⟩
  · exact .inl ⟨(Tw hn).1 h1, h2⟩
  · exact .inr ⟨fun h hh he => h1 ((Tw hn).2 ⟨h, hh, he⟩), h2⟩
theorem Ma.ZA {H : List Int} {L : List Nat} (h : Ma (J6 wide ps w v H) L) : ∀ x ∈ H, ∃ s ∈ L, s < 30 ∧ (Wd wide ps w v x).getD s false = true := Wx.1 fun r hr => by
  obtain ⟨s, h1, h2⟩ := h.all r hr
  exact ⟨s, h1, (h.inc.mem s h1).2, h2⟩
theorem YK {H : List Int} {L : List Nat} (h : Ma (J6 wide ps w v H) L) {k : Nat} : L.length ≤ k ↔ ZX (Wd wide ps w v) k H := by
  constructor
  · intro hk; exact ⟨L, hk, h.ZA⟩
  · rintro ⟨C, h1, h2⟩
    exact Nat.le_trans (h.le (Wx.2 h2)) h1
end
structure MP (f f' : Int → List Bool) (H H' : List Int) (to : Int → Int) (ts : Nat → Nat) : Prop where
  sub : ∀ h ∈ H, to h ∈ H'
  back : ∀ h' ∈ H', ∃ h ∈ H, to h = h'
  inj : ∀ x ∈ H, ∀ y ∈ H, to x = to y → x = y
  row : ∀ h ∈ H, ∀ s, s < 30 → (f h).getD s false = true → ts s < 30 ∧ (f' (to h)).getD (ts s) false = true
  dA : ∀ h ∈ H, ∀ s, s < 30 → (f' (to h)).getD s false = true → ts s < 30 ∧ (f h).getD (ts s) false = true
section
variable {f f' : Int → List Bool} {H H' : List Int} {to : Int → Int} {ts : Nat → Nat}
theorem MP.can (h : MP f f' H H' to ts) {k : Nat} (hc : ZX f k H) : ZX f' k H' := by
  obtain ⟨C, c1, c2⟩ := hc
  refine ⟨C.map ts, by rw [List.length_map]; exact c1, fun x hx => ?_⟩
  obtain ⟨y, hy, rfl⟩ := h.back x hx
  obtain ⟨s, s1, s2, s3⟩ := c2 y hy
  obtain ⟨r1, r2⟩ := h.row y hy s s2 s3
  exact ⟨ts s, List.mem_map.2 ⟨s, s1, rfl⟩, r1, r2⟩
theorem MP.ap (h : MP f f' H H' to ts) {A A' : List Int} (ha : Xm f H A) (aa : Xm f' H' A') : A.length ≤ A'.length := by
  refine ha.map_le aa h.inj h.sub fun x hx y hy hc => P5.2 fun s hs hb => ?_
  obtain ⟨r1, r2⟩ := h.dA x hx s hs hb.1
  obtain ⟨_, r3⟩ := h.dA y hy s hs hb.2
  exact P5.1 hc (ts s) r1 ⟨r2, r3⟩
end
section
variable {down : Bool} {wide rows w v : Int} {ps : List Int}
end
end Go.Proofs.YtfmapnhfamoecaaGreat
