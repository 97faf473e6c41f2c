/- Layer 1: what Sort, Clone, Compact, DeleteFunc, Apart, Must and some answer; in plain Lean. -/
import Derived.Test.YtejkgppikpkkpaaGreatZCHU
namespace Go.Proofs.YtejkgppikpkkpaaGreat
open Go.PL Go.Hear
theorem bits_all : ((List.range 256).all fun k : Nat => (math_bits_Len ((k : Int) % 18446744073709551616)).isSome) = true := by decide +kernel
theorem bits_ok {k : Nat} (h : k < 256) : ∃ n, math_bits_Len ((k : Int) % 18446744073709551616) = some n := by
  have := (List.all_eq_true.1 bits_all) k (List.mem_range.2 h)
  exact Option.isSome_iff_exists.1 this
theorem sort_eq {s : List Int} (hl : s.length ≤ 12) : ∃ R, slices_Sort_int_int s = some R ∧ R.Perm s ∧ R.Pairwise (· ≤ ·) := by
  obtain ⟨n, hn⟩ := bits_ok (k := s.length) (by omega)
  obtain ⟨R, h1, h2⟩ := pdq_eq hl 18446744073709551615 n
  refine ⟨R, ?_, h2⟩
  have h1' : slices_pdqsortOrdered_int FU s 0 (s.length : Int) n = some R := h1
  unfold slices_Sort_int_int
  rw [hn, b1_some, h1', b1_some]
theorem values_eq : ∀ l : List Int, slices_Values_int_int l = some l := fun l => by
  have key : ∀ l : List Int, slices_Values_int_int_1_l1 l = some l := fun l => by
    induction l with
    | nil => rfl
    | cons x l ih => unfold slices_Values_int_int_1_l1; rw [ih]; rfl
  unfold slices_Values_int_int slices_Values_int_int_1
  rw [key, b1_some]
theorem appSeq_l1 : ∀ (l acc : List Int), acc.length + l.length ≤ 100000 → slices_AppendSeq_int_int_l1 l acc = some (acc ++ l)
  | [], acc, _ => by simp [slices_AppendSeq_int_int_l1]
  | x :: l, acc, h => by
    rw [List.length_cons] at h
    unfold slices_AppendSeq_int_int_l1
    rw [ap_t (by simp; omega), appSeq_l1 l (acc ++ [x]) (by simp; omega)]
    simp
theorem sortedS_eq {s : List Int} (hl : s.length ≤ 12) : ∃ R, (b1 (slices_Values_int_int s) fun y => slices_Sorted_int y) = some R ∧ R.Perm s ∧ R.Pairwise (· ≤ ·) := by
  obtain ⟨R, h1, h2⟩ := sort_eq hl
  refine ⟨R, ?_, h2⟩
  unfold slices_Sorted_int slices_Collect_int slices_AppendSeq_int_int
  rw [values_eq, b1_some, appSeq_l1 s [] (by simp; omega), b1_some, b1_some, List.nil_append, b1_some, h1, b1_some]
theorem cloneI_eq {l : List Int} (h : l.length ≤ 100000) : slices_Clone_int_int l = some l := by
  unfold slices_Clone_int_int nilIf
  rw [ap_t (by simp; omega), List.nil_append]
  by_cases h1 : l = []
  · rw [if_pos h1, h1]; rfl
  · rw [if_neg h1]
theorem idxF_l2 {f : Int → Option Bool} {p : Int → Bool} : ∀ (l : List Int) (k : Int), (∀ x ∈ l, f x = some (p x)) → 0 ≤ k → ∃ n, slices_IndexFunc_int_int_l2 f l k = some n ∧ (0 ≤ n ↔ l.any p = true)
  | [], k, _, _ => ⟨-1, rfl, by simp⟩
  | x :: l, k, h, hk => by
    obtain ⟨n, h1, h2⟩ := idxF_l2 l (k + 1) (fun y hy => h y (List.mem_cons_of_mem _ hy)) (by omega)
    unfold slices_IndexFunc_int_int_l2
    rw [h x (List.mem_cons_self ..), b1_some]
    cases hp : p x with
    | true => exact ⟨k, by rw [if_pos rfl], by simp [hp, hk]⟩
    | false => exact ⟨n, by rw [if_neg (by decide)]; exact h1, by rw [h2]; simp [hp]⟩
theorem contF_eq {f : Int → Option Bool} {p : Int → Bool} {l : List Int} (h : ∀ x ∈ l, f x = some (p x)) : slices_ContainsFunc_int_int l f = some (l.any p) := by
  obtain ⟨n, h1, h2⟩ := idxF_l2 l 0 h (Int.le_refl _)
  unfold slices_ContainsFunc_int_int slices_IndexFunc_int_int
  rw [h1, b1_some]
  congr 1
  rw [Bool.eq_iff_iff, decide_eq_true_iff]
  exact h2
theorem everyI_eq {f : Int → Option Bool} {p : Int → Bool} {l : List Int} (h : ∀ x ∈ l, f x = some (p x)) : hear_every_int l f = some (l.all p) := by
  unfold hear_every_int
  rw [contF_eq (p := fun x => !p x) (fun x hx => by unfold hear_every_int_1; rw [h x hx, b1_some]), b1_some]
  congr 1
  rw [List.all_eq_not_any_not]
end Go.Proofs.YtejkgppikpkkpaaGreat
