/- Layer 5: a night the other way round, explanations counted, ways; in plain Lean. -/
import Derived.Test.YtjgeaaganpkceaaZgQF
namespace Go.Proofs.Ytjgeaaganpkceaa.Nt
open Go.PL
theorem fil_split (p q : Nat → Bool) (l : List Nat) : (l.filter fun i => p i && !q i).length + (l.filter fun i => q i).length = (l.filter fun i => q i && !p i).length + (l.filter fun i => p i).length := by
  induction l with
  | nil => rfl
  | cons x l ih =>
    cases hp : p x <;> cases hq : q x <;> simp [hp, hq] <;> omega
theorem pop_dif (x y : Nat) : pop (dif x y) = ((List.range 6).filter fun i => x.testBit i && !y.testBit i).length := by
  unfold pop
  congr 1
  apply List.filter_congr
  intro i _
  rw [bit_dif]
theorem fal_pop (a b : Nat) : fal a b + pop a = fal b a + pop b := by
  unfold fal
  rw [pop_dif, pop_dif]
  exact fil_split (fun i => b.testBit i) (fun i => a.testBit i) _
theorem napsR_cons : ∀ (s : List Nat) (b : Nat), napsR (b :: s) = pop b + napsF b s
  | [], b => by
    show fal 0 b + 0 = pop b + 0
    rw [pop_fal]
  | a :: s, b => by
    have h1 : napsR (b :: a :: s) = fal a b + napsR (a :: s) := rfl
    have h2 : napsF b (a :: s) = fal b a + napsF a s := rfl
    have h3 := napsR_cons s a
    have h4 := fal_pop a b
    omega
theorem napsR_eq (s : List Nat) : napsR s = napsF 0 s := by
  cases s with
  | nil => rfl
  | cons b s => rw [napsR_cons, pop_fal]; rfl
theorem napsF_reverse (s : List Nat) : napsF 0 s.reverse = napsF 0 s := by
  rw [napsF_rev s, napsR_eq]
theorem GoodW.rev {ls hs : List (List Int)} (g : GoodW ls hs) : GoodW ls hs.reverse :=
  ⟨g.n1, g.n6, by rw [List.length_reverse]; exact g.h1, by rw [List.length_reverse]; exact g.h8, fun ms h => g.wid ms (List.mem_reverse.1 h), fun ms h => g.mks ms (List.mem_reverse.1 h), g.lis, g.nd⟩
section
variable {ls hs : List (List Int)} {ok : Nat → Bool}
theorem ExplO.rev {s : List Nat} (h : ExplO ls ok hs s) : ExplO ls ok hs.reverse s.reverse :=
  ⟨h.1.rev, fun a ha => h.2 a (List.mem_reverse.1 ha)⟩
theorem rest_rev_le (ls hs : List (List Int)) (ok : Nat → Bool) : restV ls ok hs.reverse 0 ≤ restV ls ok hs 0 := by
  have h1 := restV_100 ls ok hs.reverse 0
  have h2 := restV_100 ls ok hs 0
  rcases Nat.lt_or_ge (restV ls ok hs 0) 100 with h | h
  · obtain ⟨s, h3, h4⟩ := restV_of ls ok hs 0 h
    have h5 := restV_le ls ok hs.reverse 0 s.reverse h3.rev
    rw [napsF_reverse] at h5
    omega
  · omega
theorem rest_rev (ls hs : List (List Int)) (ok : Nat → Bool) : restV ls ok hs.reverse 0 = restV ls ok hs 0 := by
  have h1 := rest_rev_le ls hs ok
  have h2 := rest_rev_le ls hs.reverse ok
  rw [List.reverse_reverse] at h2
  omega
theorem Fewest_n (g : GoodW ls hs) {s : List Nat} (he : Expl ls hs s) : ∃ l, night_Fewest ls hs = some (l, (restV ls allB hs 0 : Int), 0) := by
  obtain ⟨s1, h1, h2⟩ := Fewest_ok g he
  exact ⟨natL s1, by rw [h1, h2.naps]⟩
end
section
variable {ls hs : List (List Int)}
theorem nodup_fitL (ls : List (List Int)) (ms : List Int) : (fitL ls ms).Nodup := (sorted_fitL ls ms).imp fun h => Nat.ne_of_lt h
theorem flat_len (L : List (List Nat)) : ∀ l : List Nat, (l.flatMap fun a => L.map (a :: ·)).length = l.length * L.length
  | [] => by simp
  | a :: l => by
    rw [List.flatMap_cons, List.length_append, List.length_map, flat_len L l, List.length_cons, Nat.succ_mul]; omega
theorem set_getD {l : List Int} {i : Nat} (h : i < l.length) : l.set i (l.getD i 0) = l := by
  apply List.ext_getElem?
  intro j
  rw [List.getElem?_set]
  by_cases hj : i = j
  · subst hj
    rw [if_pos rfl, if_pos h, List.getD_eq_getElem?_getD, List.getElem?_eq_getElem h]; rfl
  · rw [if_neg hj]
theorem tabT_at {h a : Nat} (hh : h < hs.length) (ha : a ∈ fitL ls (hs.getD h [])) : ((tabT ls hs hs.length).getD h []).getD a 0 = (tabV ls (hs.take (h + 1)).reverse a : Int) := by
  rw [tabT_get hh, take_rev hh, tRow_get (mem_fitL.1 ha).1, if_pos ha]
theorem tabT_row {h : Nat} (hh : h < hs.length) : ((tabT ls hs hs.length).getD h []).length = 2 ^ ls.length := by
  rw [tabT_get hh, take_rev hh, tRow_len]
theorem repl_get (a : Nat) : (List.replicate 64 (0 : Int)).getD a 0 = 0 := by
  rw [List.getD_eq_getElem?_getD, List.getElem?_replicate]
  split <;> rfl
/-- The last hour, and those ahead of it. -/
theorem last_rev (g : GoodW ls hs) : hs.reverse = hs.getD (hs.length - 1) [] :: (hs.take (hs.length - 1)).reverse := by
  have h1 := g.h1
  have := take_rev (hs := hs) (h := hs.length - 1) (by omega)
  rwa [show hs.length - 1 + 1 = hs.length by omega, List.take_length] at this
theorem min_rest (g : GoodW ls hs) {s : List Nat} (he : Expl ls hs s) : minF (tabV ls hs.reverse) (fitL ls (hs.getD (hs.length - 1) [])) 100 = restV ls allB hs 0 := by
  have h1 := g.h1
  rw [← tab_rest g he]
  unfold shownV
  have key : ∀ (f k : Nat → Nat) (l : List Nat) (v : Nat), (∀ a ∈ l, f a = k a) → minF f l v = minF k l v := fun f k l => by
    induction l with
    | nil => intro v _; rfl
    | cons x l ih =>
      intro v h
      show minF f l (min v (f x)) = minF k l (min v (k x))
      rw [h x (List.mem_cons_self ..)]
      exact ih _ (fun a ha => h a (List.mem_cons_of_mem _ ha))
  refine key _ _ _ _ fun a ha => ?_
  rw [tabT_at (by omega) ha, Int.toNat_natCast, show hs.length - 1 + 1 = hs.length by omega, List.take_length]
end
end Go.Proofs.Ytjgeaaganpkceaa.Nt
