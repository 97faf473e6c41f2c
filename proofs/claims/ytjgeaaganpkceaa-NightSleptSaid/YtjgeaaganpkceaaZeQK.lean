/- Layer 5: verdicts; who surely slept (NightSlept); in plain Lean. -/
import Derived.Test.YtjgeaaganpkceaaZeQI
namespace Go.Proofs.Ytjgeaaganpkceaa.Nt
open Go.PL Rv
/-- What is known of a man in an hour. -/
def vrd (ls : List (List Int)) (ms : List Int) (i : Nat) : Int := if ((fitL ls ms).any fun a => a.testBit i) = false then 2 else if ((fitL ls ms).all fun a => a.testBit i) = true then 1 else 0
def vrdL (ls : List (List Int)) (ms : List Int) : List Int := (List.range ls.length).map (vrd ls ms)
section
variable {ls hs : List (List Int)}
theorem verd_l2 {n : Nat} (hn : n ≤ 6) : ∀ (l : List Nat) (s a : Nat), s < 2 ^ n → a < 2 ^ n → (∀ x ∈ l, x < 2 ^ n) → night_Verdicts_l2 (natL l) (s : Int) (a : Int) = some (((l.foldl (· ||| ·) s : Nat) : Int), ((l.foldl (· &&& ·) a : Nat) : Int))
  | [], s, a, _, _, _ => rfl
  | x :: l, s, a, hs, ha, hl => by
    have hx := hl x (List.mem_cons_self ..)
    rw [natL_cons]; unfold night_Verdicts_l2
    rw [bor_nat (lt63 hs hn) (lt63 hx hn), band_nat (lt63 ha hn) (lt63 hx hn)]
    exact verd_l2 hn l _ _ (Nat.or_lt_two_pow hs hx) (Nat.lt_of_le_of_lt Nat.and_le_left ha) (fun y hy => hl y (List.mem_cons_of_mem _ hy))
theorem or_bits : ∀ (l : List Nat) (s i : Nat), (l.foldl (· ||| ·) s).testBit i = (s.testBit i || l.any fun a => a.testBit i)
  | [], s, i => by simp
  | x :: l, s, i => by rw [List.foldl_cons, or_bits l, Nat.testBit_or, List.any_cons, Bool.or_assoc]
theorem and_bits : ∀ (l : List Nat) (s i : Nat), (l.foldl (· &&& ·) s).testBit i = (s.testBit i && l.all fun a => a.testBit i)
  | [], s, i => by simp
  | x :: l, s, i => by rw [List.foldl_cons, and_bits l, Nat.testBit_and, List.all_cons, Bool.and_assoc]
theorem or_lt {n : Nat} : ∀ (l : List Nat) (s : Nat), s < 2 ^ n → (∀ x ∈ l, x < 2 ^ n) → l.foldl (· ||| ·) s < 2 ^ n
  | [], _, h, _ => h
  | x :: l, s, h, hl => by
    rw [List.foldl_cons]
    exact or_lt l _ (Nat.or_lt_two_pow h (hl x (List.mem_cons_self ..))) (fun y hy => hl y (List.mem_cons_of_mem _ hy))
theorem and_lt {n : Nat} : ∀ (l : List Nat) (s : Nat), s < 2 ^ n → l.foldl (· &&& ·) s < 2 ^ n
  | [], _, h => h
  | x :: l, s, h => by
    rw [List.foldl_cons]
    exact and_lt l _ (Nat.lt_of_le_of_lt Nat.and_le_left h)
theorem verd_l3 {ms : List Int} {s a n : Nat} (hn : n ≤ 6) (hs : s < 2 ^ n) (ha : a < 2 ^ n) (h1 : ∀ i, i < n → s.testBit i = (fitL ls ms).any fun a => a.testBit i) (h2 : ∀ i, i < n → a.testBit i = (fitL ls ms).all fun a => a.testBit i) : ∀ (tl : List (List Int)) (k : Nat), k + tl.length = n → night_Verdicts_l3 (s : Int) (a : Int) tl (k : Int) ((List.range k).map (vrd ls ms)) = some ((List.range n).map (vrd ls ms))
  | [], k, hk => by
    simp at hk
    subst hk; rfl
  | x :: tl, k, hk => by
    rw [List.length_cons] at hk
    have e : (if band (shr (a : Int) (k : Int)) 1 = 1 then some (1 : Int) else some 0) = some (if a.testBit k = true then 1 else 0) := by
      by_cases h : a.testBit k = true
      · rw [if_pos ((bit_one (lt63 ha hn) k).2 h), if_pos h]
      · rw [if_neg (fun q => h ((bit_one (lt63 ha hn) k).1 q)), if_neg h]
    have e2 : ∀ v : Int, (if band (shr (s : Int) (k : Int)) 1 = 0 then some (2 : Int) else some v) = some (if s.testBit k = false then 2 else v) := fun v => by
      by_cases h : s.testBit k = true
      · rw [if_neg (fun q => (bit_zero (lt63 hs hn) k).1 q h), if_neg (by rw [h]; decide)]
      · rw [if_pos ((bit_zero (lt63 hs hn) k).2 h), if_pos (by simpa using h)]
    have e3 : (List.range k).map (vrd ls ms) ++ [if s.testBit k = false then (2 : Int) else if a.testBit k = true then 1 else 0] = (List.range (k + 1)).map (vrd ls ms) := by
      rw [List.range_succ, List.map_append, List.map_singleton]
      unfold vrd
      rw [h1 k (by omega), h2 k (by omega)]
    unfold night_Verdicts_l3
    rw [gd_t ⟨by omega, by omega⟩, e, b1_some, gd_t ⟨by omega, by omega⟩, e2, b1_some, ap_t (by simp; omega), e3, show (k : Int) + 1 = ((k + 1 : Nat) : Int) by omega]
    exact verd_l3 hn hs ha h1 h2 tl (k + 1) (by omega)
theorem cloneV_eq {xs : List Int} (h : xs.length ≤ 1000000) : slices_Clone_night_Verdict_night_Verdict xs = some xs := by
  unfold slices_Clone_night_Verdict_night_Verdict nilIf
  rw [ap_t (by simp; omega), List.nil_append]
  by_cases h1 : xs = []
  · rw [if_pos h1, h1]; rfl
  · rw [if_neg h1]
theorem vrdL_len (ls : List (List Int)) (ms : List Int) : (vrdL ls ms).length = ls.length := by simp [vrdL]
theorem rowOf_fit {ms ms' : List Int} (h6 : ls.length ≤ 6) (h : rowOf ls ms = rowOf ls ms') : fitL ls ms = fitL ls ms' := by
  have hp := pow_le64 h6
  unfold fitL
  apply List.filter_congr
  intro a ha
  have ha2 := List.mem_range.1 ha
  have e : ∀ ms, (rowOf ls ms).getD a false = fitB ls ms a := fun ms => by
    unfold rowOf rowP
    rw [List.getD_eq_getElem?_getD, List.getElem?_map, List.getElem?_range (by omega)]
    simp [ha2]
  rw [← e ms, ← e ms', h]
theorem verd_l1 (g : GoodW ls hs) : ∀ (tl : List (List Int)) (k : Nat), hs.drop k = tl → night_Verdicts_l1 ls ls hs (hs.map (rowOf ls)) tl (k : Int) ((hs.take k).map (vrdL ls)) = some (hs.map (vrdL ls))
  | [], k, hd => by
    have : hs.length ≤ k := List.drop_eq_nil_iff.1 hd
    rw [List.take_of_length_le this]; rfl
  | ms :: tl, k, hd => by
    have h6 := g.n6
    have h8 := g.h8
    have hp := pow_le64 g.n6
    have hk : k < hs.length := by
      rcases Nat.lt_or_ge k hs.length with h' | h'
      · exact h'
      · rw [List.drop_eq_nil_of_le h'] at hd; cases hd
    have hg : hs.getD k [] = ms := by
      rw [List.drop_eq_getElem_cons hk] at hd
      rw [List.getD_eq_getElem?_getD, List.getElem?_eq_getElem hk]
      exact (List.cons.inj hd).1
    have hd2 : hs.drop (k + 1) = tl := by
      rw [List.drop_eq_getElem_cons hk] at hd
      exact (List.cons.inj hd).2
    have etk : (hs.take k).map (vrdL ls) ++ [vrdL ls ms] = (hs.take (k + 1)).map (vrdL ls) := by
      rw [List.take_add_one, List.getElem?_eq_getElem hk, List.map_append]
      rw [List.getD_eq_getElem?_getD, List.getElem?_eq_getElem hk, Option.getD_some] at hg
      rw [hg]; rfl
    have hlen : ((hs.take k).map (vrdL ls)).length = k := by rw [List.length_map, List.length_take]; omega
    have ih := verd_l1 g tl (k + 1) hd2
    have fresh : (b1 (night_desk_sets ls hs) fun n2 => gd (R64 (n2 - 1)) <| b2 (b1 (night_desk_fit ls hs (hs.map (rowOf ls)) (k : Int)) fun y => night_Verdicts_l2 y 0 (n2 - 1)) fun some_ all_ => b1 (night_Verdicts_l3 some_ all_ ls 0 []) fun l2 => ap ((hs.take k).map (vrdL ls)) [l2] fun out5 => some out5) = some ((hs.take (k + 1)).map (vrdL ls)) := by
      have hp0 : 0 < 2 ^ ls.length := Nat.pow_pos (by decide)
      have hfl : ∀ x ∈ fitL ls ms, x < 2 ^ ls.length := fun x hx => (mem_fitL.1 hx).1
      have h2 := verd_l2 h6 (fitL ls ms) 0 (2 ^ ls.length - 1) hp0 (by omega) hfl
      have h3 := verd_l3 (ls := ls) (ms := ms) (s := (fitL ls ms).foldl (· ||| ·) 0) (a := (fitL ls ms).foldl (· &&& ·) (2 ^ ls.length - 1)) h6 (or_lt _ _ hp0 hfl) (and_lt _ _ (by omega)) (fun i _ => by rw [or_bits, Nat.zero_testBit, Bool.false_or]) (fun i hi => by rw [and_bits, Nat.testBit_two_pow_sub_one, decide_eq_true hi, Bool.true_and]) ls 0 (by omega)
      have h2' : night_Verdicts_l2 (natL (fitL ls ms)) 0 ((2 ^ ls.length - 1 : Nat) : Int) = _ := h2
      have h3' : night_Verdicts_l3 _ _ ls 0 [] = some (vrdL ls ms) := h3
      rw [sets_eq (by omega), b1_some, gd_t (r64_nat1 (by omega)), fit_eq g hk, b1_some, hg, show ((2 ^ ls.length : Nat) : Int) - 1 = ((2 ^ ls.length - 1 : Nat) : Int) by omega, h2', b2_some, h3', b1_some, ap_t (by simp; omega), etk]
    unfold night_Verdicts_l1
    have e0 : (b1 (if 0 < (k : Int) then (ix (hs.map (rowOf ls)) (k : Int) fun x2 => gd (R64 ((k : Int) - 1)) <| ix (hs.map (rowOf ls)) ((k : Int) - 1) fun x3 => some (decide (x2 = x3))) else some false) fun k2 => if k2 = true then (gd (R64 ((k : Int) - 1)) <| ix ((hs.take k).map (vrdL ls)) ((k : Int) - 1) fun x4 => b1 (slices_Clone_night_Verdict_night_Verdict x4) fun l => ap ((hs.take k).map (vrdL ls)) [l] fun out4 => some out4) else (b1 (night_desk_sets ls hs) fun n2 => gd (R64 (n2 - 1)) <| b2 (b1 (night_desk_fit ls hs (hs.map (rowOf ls)) (k : Int)) fun y => night_Verdicts_l2 y 0 (n2 - 1)) fun some_ all_ => b1 (night_Verdicts_l3 some_ all_ ls 0 []) fun l2 => ap ((hs.take k).map (vrdL ls)) [l2] fun out5 => some out5)) = some ((hs.take (k + 1)).map (vrdL ls)) := by
      rw [fresh]
      by_cases h0 : k = 0
      · rw [if_neg (by omega), b1_some, if_neg (by decide)]
      · rw [if_pos (by omega), ixN [] _ (by rw [List.length_map]; exact hk), rows_get hk, gd_t (r64_small (by omega)), show (k : Int) - 1 = ((k - 1 : Nat) : Int) by omega, ixN [] _ (by rw [List.length_map]; omega), rows_get (by omega), b1_some]
        by_cases hr : rowOf ls (hs.getD k []) = rowOf ls (hs.getD (k - 1) [])
        · have hv : vrdL ls (hs.getD (k - 1) []) = vrdL ls ms := by
            rw [← hg]
            unfold vrdL vrd
            rw [rowOf_fit h6 hr]
          have hget : ((hs.take k).map (vrdL ls)).getD (k - 1) [] = vrdL ls ms := by
            rw [List.getD_eq_getElem?_getD, List.getElem?_map, List.getElem?_take, if_pos (by omega), List.getElem?_eq_getElem (by omega), ← hv, List.getD_eq_getElem?_getD, List.getElem?_eq_getElem (by omega)]; rfl
          rw [if_pos (decide_eq_true hr), gd_t (r64_small (by omega)), ixN [] _ (by omega), hget, cloneV_eq (by rw [vrdL_len]; omega), b1_some, ap_t (by simp; omega), etk]
        · rw [if_neg (fun h => hr (of_decide_eq_true h))]
    rw [e0, b1_some, show (k : Int) + 1 = ((k + 1 : Nat) : Int) by omega]
    exact ih
theorem Verdicts_ok (g : GoodW ls hs) {s : List Nat} (he : Expl ls hs s) : night_Verdicts ls hs = some (hs.map (vrdL ls), 0) := by
  obtain ⟨c, h1⟩ := told_ok g he
  have h := verd_l1 g hs 0 rfl
  have h' : night_Verdicts_l1 ls ls hs (hs.map (rowOf ls)) hs 0 [] = some (hs.map (vrdL ls)) := h
  unfold night_Verdicts
  rw [h1, b2_some, if_neg (by decide), b4_some, h', b1_some]
theorem vrd_slept {ms : List Int} {i a : Nat} (ha : a ∈ fitL ls ms) (h : vrd ls ms i = 1) : a.testBit i = true := by
  unfold vrd at h
  split at h
  · cases h
  · split at h
    · rename_i h2; exact List.all_eq_true.1 h2 a ha
    · cases h
theorem vrd_woke {ms : List Int} {i a : Nat} (ha : a ∈ fitL ls ms) (h : vrd ls ms i = 2) : ¬ a.testBit i = true := by
  unfold vrd at h
  split at h
  · rename_i h2
    rw [List.any_eq_false] at h2
    exact h2 a ha
  · split at h <;> cases h
theorem fitF_get {c : Nat} : ∀ {ms : List Int} {k i : Nat} {m : Int}, fitF c ms k = true → ms[i]? = some m → markB c m (k + i) = true
  | [], _, _, _, _, h => by simp at h
  | x :: ms, k, i, m, h, hi => by
    unfold fitF at h
    rw [Bool.and_eq_true] at h
    cases i with
    | zero => simp at hi; subst hi; exact h.1
    | succ i =>
      have := fitF_get h.2 (i := i) (by simpa using hi)
      rwa [show k + 1 + i = k + (i + 1) by omega] at this
/-- Who is heard is awake. -/
theorem heard_awake {ms : List Int} {a i : Nat} (ha : a ∈ fitL ls ms) (hi : ms[i]? = some 1) : ¬ a.testBit i = true := by
  have h1 := (mem_fitL.1 ha).2
  have h2 := fitF_get (i := i) h1 hi
  rw [Nat.zero_add] at h2
  unfold markB at h2
  have h3 : (cryS ls a).testBit i = true := by
    cases h : (cryS ls a).testBit i with
    | true => rfl
    | false => rw [h] at h2; simp at h2
  exact cryF_disj ls 0 0 (fun j hj => by rw [Nat.zero_testBit] at hj; cases hj) i h3
def uni : List Nat → Nat
  | [] => 0
  | a :: s => a ||| uni s
theorem uni_bit (i : Nat) : ∀ s : List Nat, (uni s).testBit i = s.any fun a => a.testBit i
  | [] => Nat.zero_testBit i
  | a :: s => by
    unfold uni
    rw [Nat.testBit_or, uni_bit i s, List.any_cons]
theorem fil_or {p q r : Nat → Bool} (h : ∀ i, p i = true → q i = true ∨ r i = true) (l : List Nat) : (l.filter p).length ≤ (l.filter q).length + (l.filter r).length := by
  induction l with
  | nil => simp
  | cons x l ih =>
    have := h x
    cases hp : p x <;> cases hq : q x <;> cases hr : r x <;> simp [hp, hq, hr] at this ⊢ <;> omega
theorem uni_naps : ∀ (b : Nat) (s : List Nat), pop (dif (uni s) b) ≤ napsF b s
  | b, [] => by
    have : dif 0 b = 0 := by
      apply Nat.eq_of_testBit_eq
      intro i
      rw [bit_dif, Nat.zero_testBit]; rfl
    show pop (dif 0 b) ≤ 0
    rw [this]; decide
  | b, a :: s => by
    have ih := uni_naps a s
    have e : pop (dif (uni (a :: s)) b) ≤ pop (dif a b) + pop (dif (uni s) a) := by
      rw [pop_dif, pop_dif, pop_dif]
      refine fil_or (fun i hi => ?_) _
      have e2 : (uni (a :: s)).testBit i = (a.testBit i || (uni s).testBit i) := Nat.testBit_or ..
      rw [e2] at hi
      cases ha : a.testBit i <;> cases hb : b.testBit i <;> cases hu : (uni s).testBit i <;> simp [ha, hb, hu] at hi ⊢
    show _ ≤ pop (dif a b) + napsF a s
    omega
theorem uni_lt {n : Nat} : ∀ s : List Nat, (∀ a ∈ s, a < 2 ^ n) → uni s < 2 ^ n
  | [], _ => Nat.pow_pos (by decide)
  | a :: s, h => Nat.or_lt_two_pow (h a (List.mem_cons_self ..)) (uni_lt s fun x hx => h x (List.mem_cons_of_mem _ hx))
/-- The men who slept at some hour. -/
def who (n : Nat) (s : List Nat) : List Nat := (List.range n).filter fun i => (uni s).testBit i
theorem mem_who {n i : Nat} {s : List Nat} : i ∈ who n s ↔ i < n ∧ (uni s).testBit i = true := by
  unfold who; rw [List.mem_filter, List.mem_range]
theorem who_up (n : Nat) (s : List Nat) : Up n 0 (who n s) :=
  ⟨List.Pairwise.filter _ List.pairwise_lt_range, fun _ hi => ⟨Nat.zero_le _, (mem_who.1 hi).1⟩⟩
theorem who_naps {n : Nat} (hn : n ≤ 6) (s : List Nat) : (who n s).length ≤ napsF 0 s := by
  have h := uni_naps 0 s
  have e : dif (uni s) 0 = uni s := by
    apply Nat.eq_of_testBit_eq
    intro i
    rw [bit_dif, Nat.zero_testBit]; simp
  rw [e] at h
  refine Nat.le_trans ?_ h
  unfold who pop
  exact ((List.range_sublist.2 hn).filter _).length_le
theorem menB_iff (g : GoodW ls hs) {c : List Nat} : menB ls hs c = true ↔ ∃ s, Expl ls hs s ∧ ∀ a ∈ s, dif a (setL c 0) = 0 := by
  unfold menB
  have h := rest100 (ok := subB (setL c 0)) g
  constructor
  · intro h2
    have h3 : ¬ restV ls (subB (setL c 0)) hs 0 = 100 := fun h4 => by rw [decide_eq_true h4] at h2; cases h2
    rw [h] at h3
    simp only [Classical.not_forall, Classical.not_not] at h3
    obtain ⟨s, h4⟩ := h3
    exact ⟨s, h4.1, fun a ha => of_decide_eq_true (h4.2 a ha)⟩
  · rintro ⟨s, h2, h3⟩
    have h4 : ¬ restV ls (subB (setL c 0)) hs 0 = 100 := fun h4 => h.1 h4 s ⟨h2, fun a ha => decide_eq_true (h3 a ha)⟩
    rw [decide_eq_false h4]; rfl
theorem who_menB (g : GoodW ls hs) {s : List Nat} (he : Expl ls hs s) : menB ls hs (who ls.length s) = true := by
  refine (menB_iff g).2 ⟨s, he, fun a ha => dif_zero fun i hi => ?_⟩
  have h1 : a < 2 ^ ls.length := he.mem a ha
  have h2 : i < ls.length := by
    rcases Nat.lt_or_ge i ls.length with h | h
    · exact h
    · rw [Nat.testBit_lt_two_pow (Nat.lt_of_lt_of_le h1 (Nat.pow_le_pow_right (by decide) h))] at hi; cases hi
  rw [setL_bit, Nat.zero_testBit, Bool.false_or]
  exact decide_eq_true (mem_who.2 ⟨h2, by rw [uni_bit]; exact List.any_eq_true.2 ⟨a, ha, hi⟩⟩)
/-- The fewest men: some explanation is theirs; no other one has fewer, or as few who come before. -/
theorem menL_ok (g : GoodW ls hs) {s0 : List Nat} (he0 : Expl ls hs s0) : Up ls.length 0 (menL ls hs) ∧ menB ls hs (menL ls hs) = true ∧ ∀ s, Expl ls hs s → (menL ls hs).length < (who ls.length s).length ∨ ((menL ls hs).length = (who ls.length s).length ∧ lex (menL ls hs) (who ls.length s)) := by
  unfold menL
  cases h : firstL ls.length (menB ls hs) (ls.length + 1) 0 with
  | none =>
    have h1 := (who_up ls.length s0).len
    have := firstL_none h _ (who_up ls.length s0) (Nat.zero_le _) (by omega)
    rw [who_menB g he0] at this; cases this
  | some d =>
    obtain ⟨h1, h2, _, h4⟩ := firstL_some h
    exact ⟨h1, h2, fun s hs2 => h4 _ (who_up ls.length s) (Nat.zero_le _) (who_menB g hs2)⟩
theorem lex_le : ∀ {s t : List Nat}, lex s t → lexLe s t
  | [], _, _ => trivial
  | _ :: _, [], h => h
  | _ :: _, _ :: _, h => h.imp id fun h => ⟨h.1, lex_le h.2⟩
theorem mem_sureL (g : GoodW ls hs) {i : Nat} : i ∈ sureL ls hs ↔ i < ls.length ∧ ∀ s, Expl ls hs s → ∃ a ∈ s, a.testBit i = true := by
  unfold sureL
  rw [List.mem_filter, List.mem_range]
  have h := rest100 (ok := woB i) g
  refine and_congr Iff.rfl ?_
  unfold sureB
  rw [decide_eq_true_iff, h]
  constructor
  · intro h2 s hs2
    apply Classical.byContradiction
    intro h3
    refine h2 s ⟨hs2, fun a ha => ?_⟩
    unfold woB
    cases hb : a.testBit i with
    | false => rfl
    | true => exact absurd ⟨a, ha, hb⟩ h3
  · rintro h2 s ⟨h3, h4⟩
    obtain ⟨a, ha, hb⟩ := h2 s h3
    have := h4 a ha
    unfold woB at this
    rw [hb] at this; cases this
theorem sure_who (g : GoodW ls hs) {s : List Nat} (he : Expl ls hs s) : ∀ i ∈ sureL ls hs, i ∈ who ls.length s := fun i hi => by
  obtain ⟨h1, h2⟩ := (mem_sureL g).1 hi
  obtain ⟨a, ha, hb⟩ := h2 s he
  exact mem_who.2 ⟨h1, by rw [uni_bit]; exact List.any_eq_true.2 ⟨a, ha, hb⟩⟩
theorem sure_men (g : GoodW ls hs) {s0 : List Nat} (he0 : Expl ls hs s0) : ∀ i ∈ sureL ls hs, i ∈ menL ls hs := fun i hi => by
  obtain ⟨h1, h2⟩ := (mem_sureL g).1 hi
  obtain ⟨s, h3, h4⟩ := (menB_iff g).1 (menL_ok g he0).2.1
  obtain ⟨a, ha, hb⟩ := h2 s h3
  have h5 := h4 a ha
  have h6 : (dif a (setL (menL ls hs) 0)).testBit i = false := by rw [h5, Nat.zero_testBit]
  rw [bit_dif, hb, Bool.true_and, setL_bit, Nat.zero_testBit, Bool.false_or] at h6
  simpa using h6
theorem natL_mem {l : List Nat} {i : Nat} : ((i : Nat) : Int) ∈ natL l ↔ i ∈ l := by
  unfold natL
  rw [List.mem_map]
  constructor
  · rintro ⟨x, hx, h⟩
    have : x = i := by omega
    rwa [← this]
  · intro h; exact ⟨i, h, rfl⟩
/-- All of one list are in another one. -/
theorem all_in {f : Int → List Int → Option Bool} (hf : ∀ x m, f x m = some (!decide (x ∈ m))) {a m : List Nat} (h : ∀ i ∈ a, i ∈ m) : slices_ContainsFunc_int_int (natL a) (fun xx_ : Int => f xx_ (natL m)) = some false := by
  rw [contains_eq (g := fun x => !decide (x ∈ natL m)) (fun x _ => hf x (natL m))]
  congr 1
  rw [List.any_eq_false]
  intro x hx
  obtain ⟨i, hi, rfl⟩ := List.mem_map.1 hx
  simp [natL_mem, h i hi]
theorem slept1 (x : Int) (m : List Int) : oyezlaw05_NightSlept_1 x m = some (!decide (x ∈ m)) := by
  unfold oyezlaw05_NightSlept_1; rw [contains_int, b1_some]
theorem slept2 (x : Int) (m : List Int) : oyezlaw05_NightSlept_2 x m = some (!decide (x ∈ m)) := by
  unfold oyezlaw05_NightSlept_2; rw [contains_int, b1_some]
theorem less_eq (x y : Int) : cmp_Less_int x y = some (decide (x < y)) := by
  unfold cmp_Less_int cmp_isNaN_int
  simp
theorem sorted_l2 {l : List Nat} (hs : l.Pairwise (· < ·)) (hl : l.length ≤ 1000) : ∀ (k fu : Nat), k < fu → k < l.length ∨ k = 0 → slices_IsSorted_int_int_l2 (natL l) fu (k : Int) = some true
  | _, 0, h, _ => absurd h (Nat.not_lt_zero _)
  | 0, fu + 1, _, _ => by
    unfold slices_IsSorted_int_int_l2
    rw [if_neg (by omega)]; rfl
  | k + 1, fu + 1, h, hk => by
    have hk1 : k + 1 < l.length := by omega
    have e : ∀ j (hj : j < l.length), (natL l).getD j 0 = (l[j] : Int) := fun j hj => by
      unfold natL
      rw [List.getD_eq_getElem?_getD, List.getElem?_map, List.getElem?_eq_getElem hj]; rfl
    have hlt := List.pairwise_iff_getElem.1 hs k (k + 1) (by omega) hk1 (by omega)
    unfold slices_IsSorted_int_int_l2
    rw [if_pos (by omega), ixN 0 _ (by rw [natL_len]; exact hk1), gd_t (r64_small (by omega)), show ((k + 1 : Nat) : Int) - 1 = (k : Int) by omega, ixN 0 _ (by rw [natL_len]; omega), less_eq, b1_some, e _ hk1, e _ (by omega), if_neg (by rw [decide_eq_true_iff]; omega), gd_t (r64_small (by omega))]
    exact sorted_l2 hs hl k fu (by omega) (by omega)
theorem sorted_ok {l : List Nat} (hs : l.Pairwise (· < ·)) (hl : l.length ≤ 1000) : slices_IsSorted_int_int (natL l) = some true := by
  unfold slices_IsSorted_int_int
  rw [gd_t (r64_small (by rw [natL_len]; omega)), natL_len]
  by_cases h0 : l.length = 0
  · rw [h0]
    show slices_IsSorted_int_int_l2 (natL l) FU (-1) = some true
    unfold FU slices_IsSorted_int_int_l2
    rw [if_neg (by decide)]; rfl
  · rw [show (l.length : Int) - 1 = ((l.length - 1 : Nat) : Int) by omega]
    exact sorted_l2 hs hl (l.length - 1) FU (by unfold FU; omega) (by omega)
theorem slept_l8 {ms : List Int} {a n : Nat} (hn : n ≤ 6) (ha2 : a < 2 ^ n) (ha : a ∈ fitL ls ms) {some2 k4 : Int} {rec6 : Int → Int → Option Bool} : ∀ (tl : List Nat) (k : Nat), tl = List.range' k tl.length → k + tl.length ≤ 10 → oyezlaw05_NightSlept_l8 some2 k4 (a : Int) rec6 (tl.map (vrd ls ms)) (k : Int) = rec6 (k4 + 1) (bor some2 (a : Int))
  | [], k, _, _ => rfl
  | x :: tl, k, he, hk => by
    rw [List.length_cons] at he hk
    rw [List.range'_succ] at he
    obtain ⟨rfl, he2⟩ := List.cons.inj he
    have ih := slept_l8 hn ha2 ha (some2 := some2) (k4 := k4) (rec6 := rec6) tl (x + 1) he2 (by omega)
    rw [List.map_cons]; unfold oyezlaw05_NightSlept_l8
    have hg : 0 ≤ (x : Int) ∧ (x : Int) < 64 := by omega
    have e : (if vrd ls ms x = 1 then (gd (0 ≤ (x : Int) ∧ (x : Int) < 64) <| if band (shr (a : Int) (x : Int)) 1 = 0 then some true else (if vrd ls ms x = 2 then (gd (0 ≤ (x : Int) ∧ (x : Int) < 64) <| some (decide (band (shr (a : Int) (x : Int)) 1 = 1))) else some false)) else (if vrd ls ms x = 2 then (gd (0 ≤ (x : Int) ∧ (x : Int) < 64) <| some (decide (band (shr (a : Int) (x : Int)) 1 = 1))) else some false)) = some false := by
      rw [gd_t hg, gd_t hg]
      have h2 : ¬ vrd ls ms x = 1 → (if vrd ls ms x = 2 then some (decide (band (shr (a : Int) (x : Int)) 1 = 1)) else some false) = some false := fun _ => by
        by_cases hv : vrd ls ms x = 2
        · rw [if_pos hv, decide_eq_false (fun q => vrd_woke ha hv ((bit_one (lt63 ha2 hn) x).1 q))]
        · rw [if_neg hv]
      by_cases hv : vrd ls ms x = 1
      · rw [if_pos hv, if_neg (fun q => (bit_zero (lt63 ha2 hn) x).1 q (vrd_slept ha hv)), if_neg (by rw [hv]; decide)]
      · rw [if_neg hv, h2 hv]
    rw [e, b1_some, if_neg (by decide), show (x : Int) + 1 = ((x + 1 : Nat) : Int) by omega]
    exact ih
theorem slept_l9 {u n : Nat} (hn : n ≤ 6) (hu : u < 2 ^ n) : ∀ (tl : List (List Int)) (k : Nat) (pre : List Nat), k + tl.length ≤ 10 → pre.length ≤ k → oyezlaw05_NightSlept_l9 (u : Int) tl (k : Int) (natL pre) = some (natL (pre ++ (List.range' k tl.length).filter fun i => u.testBit i))
  | [], k, pre, _, _ => by simp [oyezlaw05_NightSlept_l9]
  | x :: tl, k, pre, hk, hp => by
    rw [List.length_cons] at hk ⊢
    unfold oyezlaw05_NightSlept_l9
    rw [gd_t ⟨by omega, by omega⟩, List.range'_succ]
    by_cases h : u.testBit k = true
    · have e : natL pre ++ [(k : Int)] = natL (pre ++ [k]) := natL_app pre [k]
      rw [if_pos ((bit_one (lt63 hu hn) k).2 h), ap_t (by rw [List.length_append, natL_len]; simp; omega), e, show (k : Int) + 1 = ((k + 1 : Nat) : Int) by omega, slept_l9 hn hu tl (k + 1) _ (by omega) (by simp; omega), List.filter_cons_of_pos (by simpa using h), List.append_assoc]; rfl
    · rw [if_neg (fun q => h ((bit_one (lt63 hu hn) k).1 q)), show (k : Int) + 1 = ((k + 1 : Nat) : Int) by omega, slept_l9 hn hu tl (k + 1) _ (by omega) (by omega), List.filter_cons_of_neg (by simpa using h)]
theorem slept_j5 (g : GoodW ls hs) {s : List Nat} (he : Expl ls hs s) {rec3 : Option Bool} : oyezlaw05_NightSlept_j5 ls (natL (sureL ls hs)) (natL (menL ls hs)) rec3 (uni s : Int) = rec3 := by
  have h6 := g.n6
  have h9 := slept_l9 (n := ls.length) h6 (uni_lt s he.mem) ls 0 [] (by omega) (by simp)
  rw [List.nil_append, ← List.range_eq_range'] at h9
  have h9' : oyezlaw05_NightSlept_l9 (uni s : Int) ls 0 [] = some (natL (who ls.length s)) := h9
  have hm := (menL_ok g he).2.2 s he
  have hi := all_in slept2 (sure_who g he)
  unfold oyezlaw05_NightSlept_j5
  rw [h9', b1_some, natL_len, natL_len, if_neg (by omega), hi, b1_some]
  by_cases hc : ((who ls.length s).length : Int) = ((menL ls hs).length : Int)
  · have h2 : lex (menL ls hs) (who ls.length s) := by
      rcases hm with h | h
      · omega
      · exact h.2
    obtain ⟨n, h3, h4⟩ := compare_ge (s := who ls.length s) (t := menL ls hs) (by omega) (lex_le h2)
    rw [if_pos hc, h4, b1_some, if_neg (by omega), b1_some, if_neg (by decide)]; rfl
  · rw [if_neg hc, b1_some, if_neg (by decide)]; rfl
theorem uni_snoc (pre : List Nat) (a : Nat) : uni (pre ++ [a]) = uni pre ||| a := by
  apply Nat.eq_of_testBit_eq
  intro i
  rw [Nat.testBit_or, uni_bit, uni_bit, List.any_append]
  simp
theorem slept_l6 (g : GoodW ls hs) {s : List Nat} (he : Expl ls hs s) {rec3 : Option Bool} : ∀ (tl pre : List Nat) (htl : List (List Int)), s = pre ++ tl → hs.drop pre.length = htl → Expl ls htl tl → oyezlaw05_NightSlept_l6 ls (hs.map (vrdL ls)) (natL (sureL ls hs)) (natL (menL ls hs)) rec3 (natL tl) (pre.length : Int) (uni pre : Int) = rec3
  | [], pre, _, hs2, _, _ => by
    rw [List.append_nil] at hs2
    rw [← hs2]
    exact slept_j5 g he
  | a :: tl, pre, [], _, _, h => h.elim
  | a :: tl, pre, ms :: htl, hs2, hd, hx => by
    have h6 := g.n6
    have hk : pre.length < hs.length := by
      rcases Nat.lt_or_ge pre.length hs.length with h' | h'
      · exact h'
      · rw [List.drop_eq_nil_of_le h'] at hd; cases hd
    have hg : hs.getD pre.length [] = ms := by
      rw [List.drop_eq_getElem_cons hk] at hd
      rw [List.getD_eq_getElem?_getD, List.getElem?_eq_getElem hk]
      exact (List.cons.inj hd).1
    have hd2 : hs.drop (pre.length + 1) = htl := by
      rw [List.drop_eq_getElem_cons hk] at hd
      exact (List.cons.inj hd).2
    have hgv : (hs.map (vrdL ls)).getD pre.length [] = vrdL ls ms := by
      rw [← hg, List.getD_eq_getElem?_getD, List.getElem?_map, List.getElem?_eq_getElem hk, List.getD_eq_getElem?_getD, List.getElem?_eq_getElem hk]; rfl
    have ha := hx.1.1
    have hpre : ∀ x ∈ pre, x < 2 ^ ls.length := fun x hxp => he.mem x (by rw [hs2]; exact List.mem_append_left _ hxp)
    have h8 := slept_l8 (ls := ls) (ms := ms) (a := a) h6 ha (mem_fitL.2 hx.1) (some2 := (uni pre : Int)) (k4 := (pre.length : Int)) (rec6 := oyezlaw05_NightSlept_l6 ls (hs.map (vrdL ls)) (natL (sureL ls hs)) (natL (menL ls hs)) rec3 (natL tl)) (List.range ls.length) 0 (by rw [List.length_range, List.range_eq_range']) (by rw [List.length_range]; omega)
    have h8' : oyezlaw05_NightSlept_l8 (uni pre : Int) (pre.length : Int) (a : Int) (oyezlaw05_NightSlept_l6 ls (hs.map (vrdL ls)) (natL (sureL ls hs)) (natL (menL ls hs)) rec3 (natL tl)) (vrdL ls ms) 0 = _ := h8
    have ih := slept_l6 g he (rec3 := rec3) tl (pre ++ [a]) htl (by rw [hs2, List.append_assoc]; rfl) (by rw [List.length_append]; exact hd2) hx.2
    rw [natL_cons]; unfold oyezlaw05_NightSlept_l6
    rw [ixN [] _ (by rw [List.length_map]; exact hk), hgv, vrdL_len, if_neg (fun h => h rfl), h8', bor_nat (lt63 (uni_lt pre hpre) h6) (lt63 ha h6), ← uni_snoc, show (pre.length : Int) + 1 = ((pre ++ [a]).length : Int) by simp]
    exact ih
theorem slept_l13 (g : GoodW ls hs) {h : Nat} (hh : h < hs.length) (hne : ∃ a, a ∈ fitL ls (hs.getD h [])) {rec11 : Int → Option Bool} : ∀ (tl : List Nat) (k : Nat), tl = List.range' k tl.length → k + tl.length = ls.length → oyezlaw05_NightSlept_l13 hs (natL (sureL ls hs)) (h : Int) rec11 (tl.map (vrd ls (hs.getD h []))) (k : Int) = rec11 ((h : Int) + 1)
  | [], k, _, _ => rfl
  | x :: tl, k, he, hk => by
    have h6 := g.n6
    rw [List.length_cons] at he hk
    rw [List.range'_succ] at he
    obtain ⟨rfl, he2⟩ := List.cons.inj he
    have ih := slept_l13 g hh hne (rec11 := rec11) tl (x + 1) he2 (by omega)
    have hms : hs.getD h [] ∈ hs := by rw [List.getD_eq_getElem?_getD, List.getElem?_eq_getElem hh]; exact List.getElem_mem _
    have hw := g.wid _ hms
    obtain ⟨a0, ha0⟩ := hne
    have hopen : vrd ls (hs.getD h []) x = 0 → ¬ (hs.getD h []).getD x 0 = 1 := fun hv hc => by
      have hxl : x < (hs.getD h []).length := by omega
      have hx1 : (hs.getD h [])[x]? = some 1 := by
        rw [List.getD_eq_getElem?_getD (l := hs.getD h []), List.getElem?_eq_getElem hxl] at hc
        rw [List.getElem?_eq_getElem hxl]
        exact congrArg some hc
      unfold vrd at hv
      have : ((fitL ls (hs.getD h [])).any fun a => a.testBit x) = false := by
        rw [List.any_eq_false]
        intro a ha
        exact heard_awake ha hx1
      rw [if_pos this] at hv
      cases hv
    have hsure : vrd ls (hs.getD h []) x = 1 → (x : Int) ∈ natL (sureL ls hs) := fun hv => by
      rw [natL_mem, mem_sureL g]
      refine ⟨by omega, fun s hs2 => ?_⟩
      have hl := hs2.len
      have key : ∀ (H : List (List Int)) (s : List Nat) (k : Nat), Expl ls H s → k < H.length → ∃ a ∈ s, a ∈ fitL ls (H.getD k []) := by
        intro H
        induction H with
        | nil => intro s k _ h; simp at h
        | cons m H ihH =>
          intro s k hx hk
          cases s with
          | nil => exact hx.elim
          | cons a s =>
            cases k with
            | zero => exact ⟨a, List.mem_cons_self .., mem_fitL.2 hx.1⟩
            | succ k =>
              obtain ⟨b, h1, h2⟩ := ihH s k hx.2 (by simpa using hk)
              exact ⟨b, List.mem_cons_of_mem _ h1, h2⟩
      obtain ⟨a, h1, h2⟩ := key hs s h hs2 hh
      exact ⟨a, h1, vrd_slept h2 hv⟩
    rw [List.map_cons]; unfold oyezlaw05_NightSlept_l13
    have e : (if vrd ls (hs.getD h []) x = 1 then (b1 (slices_Contains_int_int (natL (sureL ls hs)) (x : Int)) fun ok6 => if (!ok6) = true then some true else (if vrd ls (hs.getD h []) x = 0 then (ix hs (h : Int) fun x8 => ix x8 (x : Int) fun x9 => some (decide (x9 = 1))) else some false)) else (if vrd ls (hs.getD h []) x = 0 then (ix hs (h : Int) fun x10 => ix x10 (x : Int) fun x11 => some (decide (x11 = 1))) else some false)) = some false := by
      by_cases hv : vrd ls (hs.getD h []) x = 1
      · rw [if_pos hv, contains_int, b1_some, decide_eq_true (hsure hv), if_neg (by decide), if_neg (by rw [hv]; decide)]
      · rw [if_neg hv]
        by_cases hv0 : vrd ls (hs.getD h []) x = 0
        · rw [if_pos hv0, ixN [] _ hh, ixN 0 _ (by omega), decide_eq_false (hopen hv0)]
        · rw [if_neg hv0]
    rw [e, b1_some, if_neg (by decide), show (x : Int) + 1 = ((x + 1 : Nat) : Int) by omega]
    exact ih
theorem expl_at : ∀ {H : List (List Int)} {s : List Nat} {k : Nat}, Expl ls H s → k < H.length → ∃ a, a ∈ fitL ls (H.getD k [])
  | [], _, _, _, h => by simp at h
  | m :: H, [], _, hx, _ => hx.elim
  | m :: H, a :: s, 0, hx, _ => ⟨a, mem_fitL.2 hx.1⟩
  | m :: H, a :: s, k + 1, hx, hk => expl_at (H := H) (s := s) (k := k) hx.2 (by simpa using hk)
theorem slept_l11 (g : GoodW ls hs) {s : List Nat} (he : Expl ls hs s) : ∀ (tl : List (List Int)) (k : Nat), hs.drop k = tl → oyezlaw05_NightSlept_l11 hs (natL (sureL ls hs)) (tl.map (vrdL ls)) (k : Int) = some true
  | [], k, _ => by
    rw [List.map_nil]; unfold oyezlaw05_NightSlept_l11 oyezlaw05_NightSlept_j10
    rw [awake_true]; rfl
  | ms :: tl, k, hd => by
    have hk : k < hs.length := by
      rcases Nat.lt_or_ge k hs.length with h' | h'
      · exact h'
      · rw [List.drop_eq_nil_of_le h'] at hd; cases hd
    have hg : hs.getD k [] = ms := by
      rw [List.drop_eq_getElem_cons hk] at hd
      rw [List.getD_eq_getElem?_getD, List.getElem?_eq_getElem hk]
      exact (List.cons.inj hd).1
    have hd2 : hs.drop (k + 1) = tl := by
      rw [List.drop_eq_getElem_cons hk] at hd
      exact (List.cons.inj hd).2
    rw [List.map_cons]; unfold oyezlaw05_NightSlept_l11
    have h13 := slept_l13 g hk (expl_at he hk) (rec11 := oyezlaw05_NightSlept_l11 hs (natL (sureL ls hs)) (tl.map (vrdL ls))) (List.range ls.length) 0 (by rw [List.length_range, List.range_eq_range']) (by rw [List.length_range]; omega)
    rw [hg] at h13
    have h13' : oyezlaw05_NightSlept_l13 hs (natL (sureL ls hs)) (k : Int) (oyezlaw05_NightSlept_l11 hs (natL (sureL ls hs)) (tl.map (vrdL ls))) (vrdL ls ms) 0 = _ := h13
    rw [h13', show (k : Int) + 1 = ((k + 1 : Nat) : Int) by omega]
    exact slept_l11 g he tl (k + 1) hd2
theorem slept_l3 (g : GoodW ls hs) {s0 : List Nat} (he0 : Expl ls hs s0) : ∀ (L : List (List Nat)), (∀ s ∈ L, Expl ls hs s) → oyezlaw05_NightSlept_l3 ls hs (hs.map (vrdL ls)) (natL (sureL ls hs)) (natL (menL ls hs)) (L.map natL) = some true
  | [], _ => by
    rw [List.map_nil]; unfold oyezlaw05_NightSlept_l3 oyezlaw05_NightSlept_j2
    exact slept_l11 g he0 hs 0 rfl
  | s :: L, h => by
    have he := h s (List.mem_cons_self ..)
    have h6 := slept_l6 g he (rec3 := oyezlaw05_NightSlept_l3 ls hs (hs.map (vrdL ls)) (natL (sureL ls hs)) (natL (menL ls hs)) (L.map natL)) s [] hs rfl rfl he
    rw [List.map_cons]; unfold oyezlaw05_NightSlept_l3
    have h6' : oyezlaw05_NightSlept_l6 ls (hs.map (vrdL ls)) (natL (sureL ls hs)) (natL (menL ls hs)) (oyezlaw05_NightSlept_l3 ls hs (hs.map (vrdL ls)) (natL (sureL ls hs)) (natL (menL ls hs)) (L.map natL)) (natL s) 0 0 = _ := h6
    rw [h6']
    exact slept_l3 g he0 L (fun x hx => h x (List.mem_cons_of_mem _ hx))
variable {metal : List Int}
theorem slept_l1 (g : GoodW ls hs) (hm : (metal.length : Int) ≤ 9223372036854775807) : ∀ (fu : Nat) (a t : Int) (L : List (List Nat)), BellA metal a → L.length + fu ≤ 100 → (∀ s ∈ L, Expl ls hs s) → ∃ L' : List (List Nat), oyezlaw05_NightSlept_l1 ls hs metal fu a t (L.map natL) = some (L'.map natL) ∧ ∀ s ∈ L', Expl ls hs s
  | 0, a, t, L, _, _, h => ⟨L, rfl, h⟩
  | fu + 1, a, t, L, ha, hl, h => by
    unfold oyezlaw05_NightSlept_l1
    obtain ⟨s', ok, a1, t1, e1, g1, g2⟩ := tried_ok (t := t) g hm ha
    rw [e1, b4_some]
    cases ok with
    | true =>
      have e2 : L.map natL ++ [natL s'] = (L ++ [s']).map natL := by simp
      rw [if_pos rfl, ap_t (by simp; omega), e2]
      exact slept_l1 g hm fu a1 t1 (L ++ [s']) g1 (by simp; omega) (fun x hx => by
        rcases List.mem_append.1 hx with h1 | h1
        · exact h x h1
        · rw [List.mem_singleton] at h1; rw [h1]; exact g2 rfl)
    | false => rw [if_neg (by decide)]; exact slept_l1 g hm fu a1 t1 L g1 (by omega) h
end
/-- NightSlept. -/
theorem slept_true {numbers tries : List Int} (h1 : (numbers.length : Int) ≤ 9223372036854775807) (h2 : (tries.length : Int) ≤ 9223372036854775807) : oyezlaw05_NightSlept numbers tries = some true := by
  unfold oyezlaw05_NightSlept oyezkit_Hang
  obtain ⟨ls, hs, real, a, t, e, g, he, _⟩ := made_ok (metal := numbers) (t := 0) (a := 0) (men := 5) (hours := 6) ⟨by omega, by omega⟩ h1 (by omega) (by omega)
  obtain ⟨l, h3⟩ := Fewest_n g he
  obtain ⟨q1, q2, q3⟩ := menL_ok g he
  have h6 := g.n6
  have hlen : (menL ls hs).length ≤ restV ls allB hs 0 := by
    obtain ⟨s1, p1, p2⟩ := restV_of ls allB hs 0 (expl_rest g he)
    have := who_naps h6 s1
    have := q3 s1 p1.1
    omega
  have hml := q1.len
  have hways : 1 ≤ waysN ls hs := by
    obtain ⟨s1, p1, p2⟩ := restV_of ls allB hs 0 (expl_rest g he)
    exact List.countP_pos_iff.2 ⟨s1, mem_allX.2 p1.1, decide_eq_true p2⟩
  obtain ⟨L, e1, k1⟩ := slept_l1 g h2 (Int.toNat (5 - 0)) 0 0 [real] ⟨by omega, by omega⟩ (by simp) (fun s hs => by rw [List.mem_singleton] at hs; rw [hs]; exact he)
  have e1' : oyezlaw05_NightSlept_l1 ls hs tries (Int.toNat (5 - 0)) 0 0 [natL real] = some (L.map natL) := e1
  rw [b3_some, e, b5_some, b3_some, Verdicts_ok g he, b2_some, Sure_ok g he, b2_some, Men_ok g he, b2_some, h3, b3_some, Ways_ok g he, b2_some, if_neg (fun h => h rfl), if_neg (fun h => h rfl), if_neg (fun h => h rfl), if_neg (fun h => h rfl), if_neg (fun h => h rfl), if_neg (by simp), if_neg (by rw [natL_len]; omega), if_neg (by omega), sorted_ok q1.1 (by omega), b1_some, if_neg (by decide), all_in slept1 (sure_men g he), b1_some, b1_some, if_neg (by decide), gd_t ⟨by unfold R64; omega, by unfold R64; omega⟩, e1', b1_some]
  exact slept_l3 g he L k1
end Go.Proofs.Ytjgeaaganpkceaa.Nt
