/- Layer 5: the naps of one man in the explanations with the fewest; in plain Lean. -/
import Derived.Test.YtjgeaaganpkceaaZhQG
namespace Go.Proofs.Ytjgeaaganpkceaa.Nt
open Go.PL
def bitN (man x : Nat) : Nat := if x.testBit man = true then 1 else 0
theorem bitN_le (man x : Nat) : bitN man x ≤ 1 := by unfold bitN; split <;> omega
theorem bitN_zero (man a : Nat) : bitN man (dif a 0) = bitN man a := by
  unfold bitN
  rw [bit_dif, Nat.zero_testBit]; simp
def ownF (man : Nat) : Nat → List Nat → Nat
  | _, [] => 0
  | b, a :: s => bitN man (dif a b) + ownF man a s
def ownR (man : Nat) : List Nat → Nat
  | [] => 0
  | a :: r => bitN man (dif a (r.headD 0)) + ownR man r
theorem ownR_le (man : Nat) : ∀ s : List Nat, ownR man s ≤ s.length
  | [] => Nat.le_refl _
  | a :: r => by
    have := ownR_le man r
    have := bitN_le man (dif a (r.headD 0))
    unfold ownR; rw [List.length_cons]; omega
def loF (c : Nat → Bool) (f : Nat → Nat) (l : List Nat) (v : Nat) : Nat := l.foldl (fun v b => if c b = true then min v (f b) else v) v
def hiF (c : Nat → Bool) (f : Nat → Nat) (l : List Nat) (v : Nat) : Nat := l.foldl (fun v b => if c b = true then max v (f b) else v) v
section
variable {c : Nat → Bool} {f : Nat → Nat}
theorem loF_cons (b : Nat) (l : List Nat) (v : Nat) : loF c f (b :: l) v = loF c f l (if c b = true then min v (f b) else v) := rfl
theorem hiF_cons (b : Nat) (l : List Nat) (v : Nat) : hiF c f (b :: l) v = hiF c f l (if c b = true then max v (f b) else v) := rfl
theorem loF_le : ∀ (l : List Nat) (v : Nat), loF c f l v ≤ v
  | [], v => Nat.le_refl _
  | b :: l, v => by
    rw [loF_cons]
    refine Nat.le_trans (loF_le l _) ?_
    split
    · exact Nat.min_le_left ..
    · exact Nat.le_refl _
theorem hiF_ge : ∀ (l : List Nat) (v : Nat), v ≤ hiF c f l v
  | [], v => Nat.le_refl _
  | b :: l, v => by
    rw [hiF_cons]
    refine Nat.le_trans ?_ (hiF_ge l _)
    split
    · exact Nat.le_max_left ..
    · exact Nat.le_refl _
theorem loF_mem : ∀ (l : List Nat) (v b : Nat), b ∈ l → c b = true → loF c f l v ≤ f b
  | [], _, _, h, _ => nomatch h
  | y :: l, v, b, h, hc => by
    rw [loF_cons]
    rcases List.mem_cons.1 h with rfl | h
    · rw [if_pos hc]; exact Nat.le_trans (loF_le l _) (Nat.min_le_right ..)
    · exact loF_mem l _ b h hc
theorem hiF_mem : ∀ (l : List Nat) (v b : Nat), b ∈ l → c b = true → f b ≤ hiF c f l v
  | [], _, _, h, _ => nomatch h
  | y :: l, v, b, h, hc => by
    rw [hiF_cons]
    rcases List.mem_cons.1 h with rfl | h
    · rw [if_pos hc]; exact Nat.le_trans (Nat.le_max_right ..) (hiF_ge l _)
    · exact hiF_mem l _ b h hc
theorem loF_of : ∀ (l : List Nat) (v : Nat), loF c f l v = v ∨ ∃ b ∈ l, c b = true ∧ loF c f l v = f b
  | [], _ => .inl rfl
  | y :: l, v => by
    rw [loF_cons]
    rcases loF_of l (if c y = true then min v (f y) else v) with h | ⟨x, hx, h1, h2⟩
    · by_cases hy : c y = true
      · rw [if_pos hy] at h ⊢
        rcases Nat.le_total v (f y) with h3 | h3
        · exact .inl (by rw [h, Nat.min_eq_left h3])
        · exact .inr ⟨y, List.mem_cons_self .., hy, by rw [h, Nat.min_eq_right h3]⟩
      · rw [if_neg hy] at h ⊢; exact .inl h
    · exact .inr ⟨x, List.mem_cons_of_mem _ hx, h1, h2⟩
theorem hiF_of : ∀ (l : List Nat) (v : Nat), hiF c f l v = v ∨ ∃ b ∈ l, c b = true ∧ hiF c f l v = f b
  | [], _ => .inl rfl
  | y :: l, v => by
    rw [hiF_cons]
    rcases hiF_of l (if c y = true then max v (f y) else v) with h | ⟨x, hx, h1, h2⟩
    · by_cases hy : c y = true
      · rw [if_pos hy] at h ⊢
        rcases Nat.le_total (f y) v with h3 | h3
        · exact .inl (by rw [h, Nat.max_eq_left h3])
        · exact .inr ⟨y, List.mem_cons_self .., hy, by rw [h, Nat.max_eq_right h3]⟩
      · rw [if_neg hy] at h ⊢; exact .inl h
    · exact .inr ⟨x, List.mem_cons_of_mem _ hx, h1, h2⟩
/-- Both are met, if any is. -/
theorem lohi_of {g : Nat → Nat} {l : List Nat} (h : ∃ b ∈ l, c b = true) (hf : ∀ b ∈ l, f b < 100) : (∃ b ∈ l, c b = true ∧ loF c f l 100 = f b) ∧ ∃ b ∈ l, c b = true ∧ hiF c g l 0 = g b := by
  obtain ⟨b, hb, hc⟩ := h
  constructor
  · rcases loF_of (c := c) (f := f) l 100 with h1 | h1
    · have h2 := loF_mem (c := c) (f := f) l 100 b hb hc
      have := hf b hb
      omega
    · exact h1
  · rcases hiF_of (c := c) (f := g) l 0 with h1 | h1
    · have h2 := hiF_mem (c := c) (f := g) l 0 b hb hc
      exact ⟨b, hb, hc, by omega⟩
    · exact h1
end
section
variable {ls hs : List (List Int)} {man : Nat}
/-- x and y are the least and the greatest number of his naps up to an hour, if a set sleeps in it and there are as few naps as can be. -/
structure MM (ls : List (List Int)) (man : Nat) (m0 : List Int) (r : List (List Int)) (a x y : Nat) : Prop where
  lo : ∃ s, Expl ls r s ∧ napsR (a :: s) = tabV ls (m0 :: r) a ∧ ownR man (a :: s) = x
  hi : ∃ s, Expl ls r s ∧ napsR (a :: s) = tabV ls (m0 :: r) a ∧ ownR man (a :: s) = y
  all : ∀ s, Expl ls r s → napsR (a :: s) = tabV ls (m0 :: r) a → x ≤ ownR man (a :: s) ∧ ownR man (a :: s) ≤ y
theorem MM.le {m0 : List Int} {r : List (List Int)} {a x y : Nat} (h : MM ls man m0 r a x y) : x ≤ r.length + 1 ∧ y ≤ r.length + 1 := by
  obtain ⟨s, h1, _, h2⟩ := h.lo
  obtain ⟨t, h3, _, h4⟩ := h.hi
  have a1 := ownR_le man (a :: s)
  have a2 := ownR_le man (a :: t)
  rw [List.length_cons, h1.len] at a1
  rw [List.length_cons, h3.len] at a2
  omega
theorem MM.first (m0 : List Int) (a : Nat) : MM ls man m0 [] a (bitN man a) (bitN man a) := by
  have e : napsR [a] = tabV ls [m0] a := by show fal 0 a + 0 = pop a; rw [pop_fal]; omega
  have e2 : ownR man [a] = bitN man a := by show bitN man (dif a 0) + 0 = _; rw [bitN_zero]; omega
  refine ⟨⟨[], trivial, e, e2⟩, ⟨[], trivial, e, e2⟩, fun s hs _ => ?_⟩
  cases s with
  | nil => omega
  | cons _ _ => exact hs.elim
def cF (ls : List (List Int)) (m0 ms : List Int) (r : List (List Int)) (a b : Nat) : Bool := decide (tabV ls (ms :: r) b + fal b a = tabV ls (m0 :: ms :: r) a)
theorem MM.step {m0 ms : List Int} {r : List (List Int)} {a : Nat} {lf hf : Nat → Nat} (h : ∀ b ∈ fitL ls ms, MM ls man ms r b (lf b) (hf b)) (hr : r.length ≤ 50) (ht : tabV ls (m0 :: ms :: r) a < 100) :
    MM ls man m0 (ms :: r) a (loF (cF ls m0 ms r a) (fun b => lf b + bitN man (dif a b)) (fitL ls ms) 100) (hiF (cF ls m0 ms r a) (fun b => hf b + bitN man (dif a b)) (fitL ls ms) 0) := by
  have hex : ∃ b ∈ fitL ls ms, cF ls m0 ms r a b = true := by
    rcases minF_of (fun b => tabV ls (ms :: r) b + fal b a) (fitL ls ms) 100 with h1 | ⟨b, hb, h1⟩
    · have e : tabV ls (m0 :: ms :: r) a = 100 := h1
      omega
    · exact ⟨b, hb, decide_eq_true h1.symm⟩
  obtain ⟨⟨b1, k1, k2, k3⟩, ⟨b2, k4, k5, k6⟩⟩ := lohi_of (f := fun b => lf b + bitN man (dif a b)) (g := fun b => hf b + bitN man (dif a b)) hex (fun b hb => by
    have := (h b hb).le
    have := bitN_le man (dif a b)
    show lf b + bitN man (dif a b) < 100
    omega)
  have join : ∀ b ∈ fitL ls ms, cF ls m0 ms r a b = true → ∀ s, Expl ls r s → napsR (b :: s) = tabV ls (ms :: r) b → Expl ls (ms :: r) (b :: s) ∧ napsR (a :: b :: s) = tabV ls (m0 :: ms :: r) a ∧ ownR man (a :: b :: s) = ownR man (b :: s) + bitN man (dif a b) := fun b hb hc s h1 h2 => by
    refine ⟨⟨mem_fitL.1 hb, h1⟩, ?_, ?_⟩
    · show fal b a + napsR (b :: s) = _
      have := of_decide_eq_true hc
      omega
    · show bitN man (dif a b) + ownR man (b :: s) = _
      omega
  refine ⟨?_, ?_, fun s hs hn => ?_⟩
  · obtain ⟨s, h1, h2, h3⟩ := (h b1 k1).lo
    obtain ⟨j1, j2, j3⟩ := join b1 k1 k2 s h1 h2
    exact ⟨b1 :: s, j1, j2, by rw [j3, h3, k3]⟩
  · obtain ⟨s, h1, h2, h3⟩ := (h b2 k4).hi
    obtain ⟨j1, j2, j3⟩ := join b2 k4 k5 s h1 h2
    exact ⟨b2 :: s, j1, j2, by rw [j3, h3, k6]⟩
  · cases s with
    | nil => exact hs.elim
    | cons b s =>
      have hb : b ∈ fitL ls ms := mem_fitL.2 hs.1
      have h1 := tabV_le r ms b s hs.2
      have h2 : fal b a + napsR (b :: s) = tabV ls (m0 :: ms :: r) a := hn
      have h3 : tabV ls (m0 :: ms :: r) a ≤ tabV ls (ms :: r) b + fal b a := minF_mem (fun b => tabV ls (ms :: r) b + fal b a) (fitL ls ms) 100 b hb
      have hc : cF ls m0 ms r a b = true := decide_eq_true (by omega)
      have h4 := (h b hb).all s hs.2 (by omega)
      have h5 := loF_mem (f := fun b => lf b + bitN man (dif a b)) (fitL ls ms) 100 b hb hc
      have h6 := hiF_mem (f := fun b => hf b + bitN man (dif a b)) (fitL ls ms) 0 b hb hc
      have h7 : ownR man (a :: b :: s) = bitN man (dif a b) + ownR man (b :: s) := rfl
      have h5' : loF (cF ls m0 ms r a) (fun b => lf b + bitN man (dif a b)) (fitL ls ms) 100 ≤ lf b + bitN man (dif a b) := h5
      have h6' : hf b + bitN man (dif a b) ≤ hiF (cF ls m0 ms r a) (fun b => hf b + bitN man (dif a b)) (fitL ls ms) 0 := h6
      omega
/-- lo and hi are the least and the greatest number of his naps in the explanations with the fewest naps. -/
structure MostOK (ls hs : List (List Int)) (man x y : Nat) : Prop where
  lo : ∃ s, Expl ls hs s ∧ napsF 0 s = restV ls allB hs 0 ∧ ownF man 0 s = x
  hi : ∃ s, Expl ls hs s ∧ napsF 0 s = restV ls allB hs 0 ∧ ownF man 0 s = y
  all : ∀ s, Expl ls hs s → napsF 0 s = restV ls allB hs 0 → x ≤ ownF man 0 s ∧ ownF man 0 s ≤ y
end
end Go.Proofs.Ytjgeaaganpkceaa.Nt
