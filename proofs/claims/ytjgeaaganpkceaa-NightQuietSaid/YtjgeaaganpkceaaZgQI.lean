/- Layer 5: who surely slept, the fewest men; a night the other way round (NightTurned); in plain Lean. -/
import Derived.Test.YtjgeaaganpkceaaZgQH
import Derived.Test.YtjgeaaganpkceaaZgRv
namespace Go.Proofs.Ytjgeaaganpkceaa.Nt
open Go.PL Rv
section
variable {ls hs : List (List Int)} {ok : Nat → Bool} {okF : Int → Option Bool}
theorem rest100 (g : GoodW ls hs) : restV ls ok hs 0 = 100 ↔ ∀ s, ¬ ExplO ls ok hs s := by
  constructor
  · intro h s hs2
    have h1 := restV_le ls ok hs 0 s hs2
    have h2 := napsF_le 0 s
    have h3 := hs2.1.len
    have h4 := g.h8
    omega
  · intro h
    have h1 := restV_100 ls ok hs 0
    rcases Nat.lt_or_ge (restV ls ok hs 0) 100 with h2 | h2
    · obtain ⟨s, h3, _⟩ := restV_of ls ok hs 0 h2
      exact absurd h3 (h s)
    · omega
theorem natL_nil {l : List Nat} : natL l = [] ↔ l = [] := by
  cases l <;> simp [natL]
/-- Whether there is an explanation of sets that count. -/
theorem first_is (g : GoodW ls hs) (hok : ∀ a : Nat, a < 2 ^ ls.length → okF (a : Int) = some (ok a)) : ∃ (l : List Int) (n : Int), night_desk_first ls hs (hs.map (rowOf ls)) okF = some (l, n) ∧ (l = [] ↔ restV ls ok hs 0 = 100) := by
  have h1 := restV_100 ls ok hs 0
  rcases Nat.lt_or_ge (restV ls ok hs 0) 100 with h2 | h2
  · obtain ⟨s, h3, h4⟩ := first_some g hok h2
    refine ⟨_, _, h3, ?_⟩
    have h5 := h4.ex.1.len
    have h6 := g.h1
    rw [natL_nil]
    constructor
    · intro h; rw [h] at h5; simp at h5; omega
    · intro h; omega
  · have h3 : restV ls ok hs 0 = 100 := by omega
    exact ⟨_, _, first_none g hok h3, by simp [h3]⟩
theorem natL_app (a b : List Nat) : natL a ++ natL b = natL (a ++ b) := by simp [natL]
theorem natL_len (a : List Nat) : (natL a).length = a.length := by simp [natL]
/-- Sets of these men. -/
def subB (s a : Nat) : Bool := decide (dif a s = 0)
theorem subB_ok {s n : Nat} (hs : s < 2 ^ n) (hn : n ≤ 6) : ∀ a : Nat, a < 2 ^ n → (fun xx_ : Int => night_Men_1_1 xx_ (s : Int)) (a : Int) = some (subB s a) := fun a ha => by
  show night_Men_1_1 (a : Int) (s : Int) = _
  unfold night_Men_1_1 subB
  rw [bandn_nat (lt63 ha hn) (lt63 hs hn)]
  congr 1
  by_cases h : dif a s = 0
  · rw [decide_eq_true h]; exact decide_eq_true (by rw [h]; rfl)
  · rw [decide_eq_false h]; exact decide_eq_false (by omega)
/-- Is there an explanation in which nobody else slept? -/
def menB (ls hs : List (List Int)) (c : List Nat) : Bool := !decide (restV ls (subB (setL c 0)) hs 0 = 100)
def menS (ls hs : List (List Int)) (s : Nat) : Bool := !decide (restV ls (subB s) hs 0 = 100)
theorem clone_eq {xs : List Int} (h : xs.length ≤ 1000000) : slices_Clone_int_int xs = some xs := by
  unfold slices_Clone_int_int nilIf
  rw [ap_t (by simp; omega), List.nil_append]
  by_cases h1 : xs = []
  · rw [if_pos h1, h1]; rfl
  · rw [if_neg h1]
def pickR (l out : List Nat) (r : Option (List Nat)) : Bool × List Int := match r with
  | some c => (true, natL (l ++ c))
  | none => (false, natL out)
theorem men_pick (g : GoodW ls hs) : ∀ (fu many : Nat), many < fu → ∀ (l out : List Nat) (s f : Nat), s < 2 ^ ls.length → l.length + many ≤ 100 → f ≤ 100 → night_Men_1 fu (natL l) (s : Int) (f : Int) (many : Int) ls hs (hs.map (rowOf ls)) (natL out) ls hs = some (pickR l out ((combs ls.length many f).find? fun c => menS ls hs (setL c s)))
  | 0, _, h, _, _, _, _, _, _, _ => absurd h (Nat.not_lt_zero _)
  | fu + 1, 0, _, l, out, s, f, hs2, hl, hf => by
    have h6 := g.n6
    obtain ⟨l2, n, h1, h2⟩ := first_is (ok := subB s) (okF := fun xx_ : Int => night_Men_1_1 xx_ (s : Int)) g (subB_ok hs2 h6)
    unfold night_Men_1 night_Men_1B
    rw [if_pos (show ((0 : Nat) : Int) = 0 from rfl), h1, b2_some]
    have e : (combs ls.length 0 f).find? (fun c => menS ls hs (setL c s)) = if menS ls hs s = true then some [] else none := by
      unfold combs
      rw [List.find?_cons]
      show (match menS ls hs s with | true => some [] | false => List.find? _ []) = _
      cases menS ls hs s <;> rfl
    rw [e]
    by_cases h3 : restV ls (subB s) hs 0 = 100
    · have h4 : ¬ menS ls hs s = true := by unfold menS; rw [decide_eq_true h3]; decide
      rw [if_pos (h2.2 h3), if_neg h4]; rfl
    · have h4 : menS ls hs s = true := by unfold menS; rw [decide_eq_false h3]; rfl
      rw [if_neg (fun h => h3 (h2.1 h)), if_pos h4]
      show _ = some (true, natL (l ++ []))
      rw [List.append_nil]
  | fu + 1, many + 1, hm, l, out, s, f, hs2, hl, hf => by
    have h6 := g.n6
    have ih := men_pick g fu many (by omega)
    have loop : ∀ (fu2 i : Nat), (i + fu2 = ls.length ∨ fu2 = 0) → night_Men_1B_l2 (natL l) (s : Int) ((many + 1 : Nat) : Int) ls hs (hs.map (rowOf ls)) ls hs (night_Men_1 fu) fu2 (i : Int) (natL out) = some (pickR l out (((List.range' i fu2).flatMap fun i => (combs ls.length many (i + 1)).map (i :: ·)).find? fun c => menS ls hs (setL c s))) := by
      intro fu2
      induction fu2 with
      | zero => intro i _; rfl
      | succ fu2 ih2 =>
        intro i hi
        have hi2 : i < ls.length := by omega
        have h2i : 2 ^ i < 2 ^ ls.length := Nat.pow_lt_pow_right (by decide) hi2
        have e : natL l ++ [(i : Int)] = natL (l ++ [i]) := natL_app l [i]
        unfold night_Men_1B_l2
        rw [gd_t (shl_r (by omega)), gd_t (r64_small (by omega)), clone_eq (by rw [natL_len]; omega), b1_some, ap_t (by rw [List.length_append, natL_len]; simp; omega), e, shl_nat, bor_nat (lt63 hs2 h6) (lt63 h2i h6), show (i : Int) + 1 = ((i + 1 : Nat) : Int) by omega, show ((many + 1 : Nat) : Int) - 1 = (many : Int) by omega, ih (l ++ [i]) out (s ||| 2 ^ i) (i + 1) (Nat.or_lt_two_pow hs2 h2i) (by simp; omega) (by omega), List.range'_succ, List.flatMap_cons, List.find?_append, List.find?_map]
        have e2 : ((fun c => menS ls hs (setL c s)) ∘ fun x => i :: x) = fun c => menS ls hs (setL c (s ||| 2 ^ i)) := rfl
        rw [e2]
        cases hc : (combs ls.length many (i + 1)).find? (fun c => menS ls hs (setL c (s ||| 2 ^ i))) with
        | some c =>
          show b2 (some (true, natL (l ++ [i] ++ c))) _ = _
          rw [b2_some, if_pos rfl, List.append_assoc]; rfl
        | none =>
          show b2 (some (false, natL out)) _ = _
          rw [b2_some, if_neg (by decide), ih2 (i + 1) (by omega)]; rfl
    unfold night_Men_1 night_Men_1B
    have e : Int.toNat ((ls.length : Int) - (f : Int)) = ls.length - f := by omega
    rw [if_neg (by omega), gd_t ⟨r64_small (by omega), r64_small (by omega)⟩, e, loop (ls.length - f) f (by omega)]; rfl
theorem men_l1 (g : GoodW ls hs) : ∀ (fu k : Nat), k + fu ≤ 50 → night_Men_l1 ls hs ls hs (hs.map (rowOf ls)) fu (k : Int) (natL []) = some (natL ((firstL ls.length (menB ls hs) fu k).getD []))
  | 0, k, _ => rfl
  | fu + 1, k, hk => by
    have h6 := g.n6
    have h := men_pick g FU k (by unfold FU; omega) [] [] 0 0 (Nat.pow_pos (by decide)) (by simp; omega) (by omega)
    unfold night_Men_l1 firstL
    rw [show ([] : List Int) = natL [] from rfl, show (0 : Int) = ((0 : Nat) : Int) from rfl, h]
    have e : (fun c => menS ls hs (setL c 0)) = menB ls hs := rfl
    rw [e]
    cases hc : (combs ls.length k 0).find? (menB ls hs) with
    | some c =>
      show b2 (some (true, natL ([] ++ c))) _ = _
      rw [b2_some, if_pos rfl]; rfl
    | none =>
      show b2 (some (false, natL [])) _ = _
      rw [b2_some, if_neg (by decide), show (k : Int) + 1 = ((k + 1 : Nat) : Int) by omega, men_l1 g fu (k + 1) (by omega)]
/-- The fewest men. -/
def menL (ls hs : List (List Int)) : List Nat := (firstL ls.length (menB ls hs) (ls.length + 1) 0).getD []
theorem Men_ok (g : GoodW ls hs) {s : List Nat} (he : Expl ls hs s) : night_Men ls hs = some (natL (menL ls hs), 0) := by
  obtain ⟨c, h1⟩ := told_ok g he
  have h6 := g.n6
  unfold night_Men
  have := men_l1 g (ls.length + 1) 0 (by omega)
  rw [h1, b2_some, if_neg (by decide), gd_t (r64_small (by omega)), b4_some, gd_t ⟨r64_small (by omega), r64_small (by omega)⟩, show Int.toNat ((ls.length : Int) + 1 - 0) = ls.length + 1 by omega, show (0 : Int) = ((0 : Nat) : Int) from rfl, show ([] : List Int) = natL [] from rfl, this, b1_some]; rfl
end
theorem cpy_eq {α : Type} (z : α) (l : List α) : cpy (List.replicate l.length z) l = l := by
  unfold cpy; simp
theorem copyI_eq {l : List Int} (h : l.length ≤ 1000000) : oyezkit_Copy_int l = some l := by
  unfold oyezkit_Copy_int
  rw [gd_t ⟨by omega, by omega⟩, bvE, bvE, Int.toNat_natCast, cpy_eq]
theorem copyM_eq {l : List Int} (h : l.length ≤ 1000000) : oyezkit_Copy_Mark l = some l := by
  unfold oyezkit_Copy_Mark
  rw [gd_t ⟨by omega, by omega⟩, bvE, bvE, Int.toNat_natCast, cpy_eq]
theorem set_app {α : Type} (a : List α) (n : Nat) (z x : α) : (a ++ List.replicate (n + 1) z).set a.length x = a ++ [x] ++ List.replicate n z := by
  rw [List.set_append_right (h := Nat.le_refl _), Nat.sub_self, List.replicate_succ, List.set_cons_zero, List.append_assoc]; rfl
theorem copyRowsI_l1 : ∀ (tl a : List (List Int)), (∀ l ∈ tl, l.length ≤ 1000000) → oyezkit_CopyRows_int_l1 tl (a.length : Int) (a ++ List.replicate tl.length []) = some (a ++ tl)
  | [], a, _ => by simp [oyezkit_CopyRows_int_l1]
  | x :: tl, a, h => by
    unfold oyezkit_CopyRows_int_l1
    have ih := copyRowsI_l1 tl (a ++ [x]) (fun l hl => h l (List.mem_cons_of_mem _ hl))
    rw [copyI_eq (h x (List.mem_cons_self ..)), b1_some, ixN [] _ (by simp), bvE, Int.toNat_natCast, List.length_cons, set_app]
    rw [List.length_append] at ih
    simpa using ih
theorem copyRowsM_l1 : ∀ (tl a : List (List Int)), (∀ l ∈ tl, l.length ≤ 1000000) → oyezkit_CopyRows_Mark_l1 tl (a.length : Int) (a ++ List.replicate tl.length []) = some (a ++ tl)
  | [], a, _ => by simp [oyezkit_CopyRows_Mark_l1]
  | x :: tl, a, h => by
    unfold oyezkit_CopyRows_Mark_l1
    have ih := copyRowsM_l1 tl (a ++ [x]) (fun l hl => h l (List.mem_cons_of_mem _ hl))
    rw [copyM_eq (h x (List.mem_cons_self ..)), b1_some, ixN [] _ (by simp), bvE, Int.toNat_natCast, List.length_cons, set_app]
    rw [List.length_append] at ih
    simpa using ih
theorem lis_len {ls hs : List (List Int)} (g : GoodW ls hs) : ∀ l ∈ ls, l.length ≤ 6 := fun l hl => by
  obtain ⟨i, hi, he⟩ := List.getElem_of_mem hl
  have := nodup_len i l (g.nd l hl) (g.lis i l (by rw [List.getElem?_eq_getElem hi, he]))
  have := g.n6
  omega
theorem copyRowsI_eq {L : List (List Int)} (h : L.length ≤ 1000000) (h2 : ∀ l ∈ L, l.length ≤ 1000000) : oyezkit_CopyRows_int L = some L := by
  have e1 := copyRowsI_l1 L [] h2
  rw [List.nil_append, List.nil_append, List.length_nil] at e1
  unfold oyezkit_CopyRows_int
  rw [gd_t ⟨by omega, by omega⟩, bvE, Int.toNat_natCast, show (0 : Int) = ((0 : Nat) : Int) from rfl, e1, b1_some]
theorem copyRowsM_eq {L : List (List Int)} (h : L.length ≤ 1000000) (h2 : ∀ l ∈ L, l.length ≤ 1000000) : oyezkit_CopyRows_Mark L = some L := by
  have e1 := copyRowsM_l1 L [] h2
  rw [List.nil_append, List.nil_append, List.length_nil] at e1
  unfold oyezkit_CopyRows_Mark
  rw [gd_t ⟨by omega, by omega⟩, bvE, Int.toNat_natCast, show (0 : Int) = ((0 : Nat) : Int) from rfl, e1, b1_some]
theorem Own_ok {ls hs : List (List Int)} (g : GoodW ls hs) : oyezlaw05_Own ls hs = some (ls, hs) := by
  have h6 := g.n6; have h8 := g.h8
  unfold oyezlaw05_Own
  rw [copyRowsI_eq (by omega) (fun l hl => by have := lis_len g l hl; omega), b1_some, copyRowsM_eq (by omega) (fun l hl => by have := g.le50 l hl; omega), b1_some]
section
variable {ls hs : List (List Int)}
end
end Go.Proofs.Ytjgeaaganpkceaa.Nt
