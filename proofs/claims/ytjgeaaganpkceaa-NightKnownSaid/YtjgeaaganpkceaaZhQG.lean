/- Layer 5: a night the other way round, explanations counted, ways; in plain Lean. -/
import Derived.Test.YtjgeaaganpkceaaZhQF
namespace Go.Proofs.Ytjgeaaganpkceaa.Nt
open Go.PL
section
variable {ls hs : List (List Int)} {ok : Nat → Bool}
theorem Fewest_n (g : GoodW ls hs) {s : List Nat} (he : Expl ls hs s) : ∃ l, night_Fewest ls hs = some (l, (restV ls allB hs 0 : Int), 0) := by
  obtain ⟨s1, h1, h2⟩ := Fewest_ok g he
  exact ⟨natL s1, by rw [h1, h2.naps]⟩
end
def allX (ls : List (List Int)) : List (List Int) → List (List Nat)
  | [] => [[]]
  | ms :: tl => (fitL ls ms).flatMap fun a => (allX ls tl).map (a :: ·)
section
variable {ls hs : List (List Int)}
theorem mem_allX : ∀ {hs : List (List Int)} {s : List Nat}, s ∈ allX ls hs ↔ Expl ls hs s
  | [], [] => by simp [allX, Expl]
  | [], _ :: _ => by simp [allX, Expl]
  | _ :: _, [] => by simp [allX, Expl]
  | ms :: tl, a :: s => by
    unfold allX
    rw [List.mem_flatMap]
    constructor
    · rintro ⟨b, hb, h⟩
      rw [List.mem_map] at h
      obtain ⟨t, ht, he⟩ := h
      obtain ⟨rfl, rfl⟩ := List.cons.inj he
      exact ⟨mem_fitL.1 hb, mem_allX.1 ht⟩
    · intro h
      exact ⟨a, mem_fitL.2 h.1, List.mem_map.2 ⟨s, mem_allX.2 h.2, rfl⟩⟩
theorem flat_len (L : List (List Nat)) : ∀ l : List Nat, (l.flatMap fun a => L.map (a :: ·)).length = l.length * L.length
  | [] => by simp
  | a :: l => by
    rw [List.flatMap_cons, List.length_append, List.length_map, flat_len L l, List.length_cons, Nat.succ_mul]; omega
theorem len_allX (ms : List Int) (tl : List (List Int)) : (allX ls (ms :: tl)).length = (fitL ls ms).length * (allX ls tl).length := flat_len _ _
theorem fitL_len (ls : List (List Int)) (ms : List Int) : (fitL ls ms).length ≤ 2 ^ ls.length := by
  have : (fitL ls ms).length ≤ (List.range (2 ^ ls.length)).length := List.length_filter_le ..
  simpa using this
theorem r64_big {x : Nat} (h : x ≤ 4611686018427387904) : R64 (x : Int) := by unfold R64; omega
theorem r64_big' {x : Int} (h0 : 0 ≤ x) (h : x ≤ 4611686018427387904) : R64 x := by unfold R64; omega
theorem count_l2 : ∀ (l : List Nat) (k : Nat), k + l.length ≤ 1000000 → night_desk_count_l2 (natL l) (k : Int) = some ((k + l.length : Nat) : Int)
  | [], k, _ => rfl
  | a :: l, k, h => by
    rw [List.length_cons] at h
    rw [natL_cons]; unfold night_desk_count_l2
    rw [gd_t (r64_small (by omega)), show (k : Int) + 1 = ((k + 1 : Nat) : Int) by omega, count_l2 l (k + 1) (by omega), List.length_cons, show k + 1 + l.length = k + (l.length + 1) by omega]
theorem count_l1 (g : GoodW ls hs) : ∀ (tl : List (List Int)) (h n : Nat), hs.drop h = tl → n * 64 ^ tl.length ≤ 4611686018427387904 → night_desk_count_l1 ls hs (hs.map (rowOf ls)) tl (h : Int) (n : Int) = some ((n * (allX ls tl).length : Nat) : Int)
  | [], h, n, _, _ => by
    show some (n : Int) = _
    simp [allX]
  | ms :: tl, h, n, hd, hn => by
    have hp := pow_le64 g.n6
    have hk : h < hs.length := by
      rcases Nat.lt_or_ge h hs.length with h' | h'
      · exact h'
      · rw [List.drop_eq_nil_of_le h'] at hd; cases hd
    have hg : hs.getD h [] = ms := by
      rw [List.drop_eq_getElem_cons hk] at hd
      rw [List.getD_eq_getElem?_getD, List.getElem?_eq_getElem hk]
      exact (List.cons.inj hd).1
    have hd2 : hs.drop (h + 1) = tl := by
      rw [List.drop_eq_getElem_cons hk] at hd
      exact (List.cons.inj hd).2
    have hf := fitL_len ls ms
    have h1 : n * (fitL ls ms).length * 64 ^ tl.length ≤ 4611686018427387904 := by
      refine Nat.le_trans ?_ hn
      rw [List.length_cons, Nat.pow_succ, Nat.mul_comm (64 ^ tl.length) 64, ← Nat.mul_assoc]
      exact Nat.mul_le_mul_right _ (Nat.mul_le_mul_left _ (by omega))
    have h2 : n * (fitL ls ms).length ≤ n * (fitL ls ms).length * 64 ^ tl.length := Nat.le_mul_of_pos_right _ (Nat.pow_pos (by decide))
    unfold night_desk_count_l1
    rw [fit_eq g hk, b1_some, hg, show (0 : Int) = ((0 : Nat) : Int) from rfl, count_l2 _ 0 (by omega), b1_some, Nat.zero_add, show (n : Int) * ((fitL ls ms).length : Int) = ((n * (fitL ls ms).length : Nat) : Int) by rw [Int.natCast_mul], gd_t (r64_big (by omega)), b1_some, show (h : Int) + 1 = ((h + 1 : Nat) : Int) by omega, count_l1 g tl (h + 1) _ hd2 h1, len_allX, Nat.mul_assoc]
theorem pow8 {n : Nat} (h : n ≤ 8) : 64 ^ n ≤ 281474976710656 := Nat.le_trans (Nat.pow_le_pow_right (n := 64) (by decide) h) (by decide)
theorem count_eq (g : GoodW ls hs) : night_desk_count ls hs (hs.map (rowOf ls)) = some ((allX ls hs).length : Int) := by
  unfold night_desk_count
  have h := count_l1 g hs 0 1 rfl (by have := pow8 g.h8; omega)
  rw [Nat.one_mul] at h
  rw [show (0 : Int) = ((0 : Nat) : Int) from rfl, show (1 : Int) = ((1 : Nat) : Int) from rfl, h, b1_some]
theorem Count_ok (g : GoodW ls hs) : night_Count ls hs = some (((allX ls hs).length : Int), 0) := by
  obtain ⟨c, h1, _⟩ := opened_ok g
  unfold night_Count
  rw [h1, b2_some, if_neg (by decide), b4_some, count_eq g, b1_some]
theorem allX_le (ls : List (List Int)) (h6 : ls.length ≤ 6) : ∀ hs : List (List Int), (allX ls hs).length ≤ 64 ^ hs.length
  | [] => by simp [allX]
  | ms :: tl => by
    have hp := pow_le64 h6
    rw [len_allX, List.length_cons, Nat.pow_succ, Nat.mul_comm]
    exact Nat.mul_le_mul (allX_le ls h6 tl) (Nat.le_trans (fitL_len ls ms) hp)
end
end Go.Proofs.Ytjgeaaganpkceaa.Nt
