/- Layer 5: the naps of one man in the explanations with the fewest; in plain Lean. -/
import Derived.Test.YtjgeaaganpkceaaZgQG
namespace Go.Proofs.Ytjgeaaganpkceaa.Nt
open Go.PL
def bitN (man x : Nat) : Nat := if x.testBit man = true then 1 else 0
theorem bitN_le (man x : Nat) : bitN man x ≤ 1 := by unfold bitN; split <;> omega
theorem bit_bitN {x : Nat} (hx : x < 9223372036854775808) (k : Nat) : band (shr (x : Int) (k : Int)) 1 = (bitN k x : Int) := by
  rw [bit_nat hx]; unfold bitN; split <;> rfl
theorem bitN_swap (man a b : Nat) : bitN man (dif b a) + bitN man a = bitN man (dif a b) + bitN man b := by
  unfold bitN
  rw [bit_dif, bit_dif]
  cases a.testBit man <;> cases b.testBit man <;> rfl
theorem bitN_zero (man a : Nat) : bitN man (dif a 0) = bitN man a := by
  unfold bitN
  rw [bit_dif, Nat.zero_testBit]; simp
def ownF (man : Nat) : Nat → List Nat → Nat
  | _, [] => 0
  | b, a :: s => bitN man (dif a b) + ownF man a s
def ownR (man : Nat) : List Nat → Nat
  | [] => 0
  | a :: r => bitN man (dif a (r.headD 0)) + ownR man r
theorem ownR_app (man : Nat) : ∀ (s pre : List Nat), ownR man (s.reverse ++ pre) = ownF man (pre.headD 0) s + ownR man pre
  | [], pre => by simp [ownF]
  | a :: s, pre => by
    rw [List.reverse_cons, List.append_assoc, List.singleton_append, ownR_app man s (a :: pre)]
    show ownF man a s + (bitN man (dif a (pre.headD 0)) + ownR man pre) = bitN man (dif a (pre.headD 0)) + ownF man a s + ownR man pre
    omega
theorem ownF_rev (man : Nat) (s : List Nat) : ownF man 0 s = ownR man s.reverse := by
  have := ownR_app man s []
  rw [List.append_nil] at this
  rw [this]; rfl
theorem ownR_cons (man : Nat) : ∀ (s : List Nat) (b : Nat), ownR man (b :: s) = bitN man b + ownF man b s
  | [], b => by
    show bitN man (dif b 0) + 0 = bitN man b + 0
    rw [bitN_zero]
  | a :: s, b => by
    have h1 : ownR man (b :: a :: s) = bitN man (dif b a) + ownR man (a :: s) := rfl
    have h2 : ownF man b (a :: s) = bitN man (dif a b) + ownF man a s := rfl
    have h3 := ownR_cons man s a
    have h4 := bitN_swap man a b
    omega
theorem ownR_eq (man : Nat) (s : List Nat) : ownR man s = ownF man 0 s := by
  cases s with
  | nil => rfl
  | cons b s =>
    rw [ownR_cons]
    show _ = bitN man (dif b 0) + ownF man b s
    rw [bitN_zero]
theorem ownF_reverse (man : Nat) (s : List Nat) : ownF man 0 s.reverse = ownF man 0 s := by
  rw [ownF_rev man s, ownR_eq]
theorem ownR_le (man : Nat) : ∀ s : List Nat, ownR man s ≤ s.length
  | [] => Nat.le_refl _
  | a :: r => by
    have := ownR_le man r
    have := bitN_le man (dif a (r.headD 0))
    unfold ownR; rw [List.length_cons]; omega
def loF (c : Nat → Bool) (f : Nat → Nat) (l : List Nat) (v : Nat) : Nat := l.foldl (fun v b => if c b = true then min v (f b) else v) v
def hiF (c : Nat → Bool) (f : Nat → Nat) (l : List Nat) (v : Nat) : Nat := l.foldl (fun v b => if c b = true then max v (f b) else v) v
section
variable {c : Nat → Bool} {f : Nat → Nat}
theorem loF_cons (b : Nat) (l : List Nat) (v : Nat) : loF c f (b :: l) v = loF c f l (if c b = true then min v (f b) else v) := rfl
theorem hiF_cons (b : Nat) (l : List Nat) (v : Nat) : hiF c f (b :: l) v = hiF c f l (if c b = true then max v (f b) else v) := rfl
theorem loF_le : ∀ (l : List Nat) (v : Nat), loF c f l v ≤ v
  | [], v => Nat.le_refl _
  | b :: l, v => by
    rw [loF_cons]
    refine Nat.le_trans (loF_le l _) ?_
    split
    · exact Nat.min_le_left ..
    · exact Nat.le_refl _
theorem hiF_ge : ∀ (l : List Nat) (v : Nat), v ≤ hiF c f l v
  | [], v => Nat.le_refl _
  | b :: l, v => by
    rw [hiF_cons]
    refine Nat.le_trans ?_ (hiF_ge l _)
    split
    · exact Nat.le_max_left ..
    · exact Nat.le_refl _
theorem loF_mem : ∀ (l : List Nat) (v b : Nat), b ∈ l → c b = true → loF c f l v ≤ f b
  | [], _, _, h, _ => nomatch h
  | y :: l, v, b, h, hc => by
    rw [loF_cons]
    rcases List.mem_cons.1 h with rfl | h
    · rw [if_pos hc]; exact Nat.le_trans (loF_le l _) (Nat.min_le_right ..)
    · exact loF_mem l _ b h hc
theorem hiF_mem : ∀ (l : List Nat) (v b : Nat), b ∈ l → c b = true → f b ≤ hiF c f l v
  | [], _, _, h, _ => nomatch h
  | y :: l, v, b, h, hc => by
    rw [hiF_cons]
    rcases List.mem_cons.1 h with rfl | h
    · rw [if_pos hc]; exact Nat.le_trans (Nat.le_max_right ..) (hiF_ge l _)
    · exact hiF_mem l _ b h hc
theorem loF_of : ∀ (l : List Nat) (v : Nat), loF c f l v = v ∨ ∃ b ∈ l, c b = true ∧ loF c f l v = f b
  | [], _ => .inl rfl
  | y :: l, v => by
    rw [loF_cons]
    rcases loF_of l (if c y = true then min v (f y) else v) with h | ⟨x, hx, h1, h2⟩
    · by_cases hy : c y = true
      · rw [if_pos hy] at h ⊢
        rcases Nat.le_total v (f y) with h3 | h3
        · exact .inl (by rw [h, Nat.min_eq_left h3])
        · exact .inr ⟨y, List.mem_cons_self .., hy, by rw [h, Nat.min_eq_right h3]⟩
      · rw [if_neg hy] at h ⊢; exact .inl h
    · exact .inr ⟨x, List.mem_cons_of_mem _ hx, h1, h2⟩
theorem hiF_of : ∀ (l : List Nat) (v : Nat), hiF c f l v = v ∨ ∃ b ∈ l, c b = true ∧ hiF c f l v = f b
  | [], _ => .inl rfl
  | y :: l, v => by
    rw [hiF_cons]
    rcases hiF_of l (if c y = true then max v (f y) else v) with h | ⟨x, hx, h1, h2⟩
    · by_cases hy : c y = true
      · rw [if_pos hy] at h ⊢
        rcases Nat.le_total (f y) v with h3 | h3
        · exact .inl (by rw [h, Nat.max_eq_left h3])
        · exact .inr ⟨y, List.mem_cons_self .., hy, by rw [h, Nat.max_eq_right h3]⟩
      · rw [if_neg hy] at h ⊢; exact .inl h
    · exact .inr ⟨x, List.mem_cons_of_mem _ hx, h1, h2⟩
/-- Both are met, if any is. -/
theorem lohi_of {g : Nat → Nat} {l : List Nat} (h : ∃ b ∈ l, c b = true) (hf : ∀ b ∈ l, f b < 100) : (∃ b ∈ l, c b = true ∧ loF c f l 100 = f b) ∧ ∃ b ∈ l, c b = true ∧ hiF c g l 0 = g b := by
  obtain ⟨b, hb, hc⟩ := h
  constructor
  · rcases loF_of (c := c) (f := f) l 100 with h1 | h1
    · have h2 := loF_mem (c := c) (f := f) l 100 b hb hc
      have := hf b hb
      omega
    · exact h1
  · rcases hiF_of (c := c) (f := g) l 0 with h1 | h1
    · have h2 := hiF_mem (c := c) (f := g) l 0 b hb hc
      exact ⟨b, hb, hc, by omega⟩
    · exact h1
end
theorem max_eq' {x y w : Nat} : (if (x : Int) + (y : Int) > (w : Int) then (x : Int) + (y : Int) else (w : Int)) = ((max w (x + y) : Nat) : Int) := by
  split <;> omega
theorem max_eq2 {x w : Nat} : (if (x : Int) > (w : Int) then (x : Int) else (w : Int)) = ((max w x : Nat) : Int) := by
  split <;> omega
section
variable {ls hs : List (List Int)} {man : Nat}
/-- x and y are the least and the greatest number of his naps up to an hour, if a set sleeps in it and there are as few naps as can be. -/
structure MM (ls : List (List Int)) (man : Nat) (m0 : List Int) (r : List (List Int)) (a x y : Nat) : Prop where
  lo : ∃ s, Expl ls r s ∧ napsR (a :: s) = tabV ls (m0 :: r) a ∧ ownR man (a :: s) = x
  hi : ∃ s, Expl ls r s ∧ napsR (a :: s) = tabV ls (m0 :: r) a ∧ ownR man (a :: s) = y
  all : ∀ s, Expl ls r s → napsR (a :: s) = tabV ls (m0 :: r) a → x ≤ ownR man (a :: s) ∧ ownR man (a :: s) ≤ y
theorem MM.le {m0 : List Int} {r : List (List Int)} {a x y : Nat} (h : MM ls man m0 r a x y) : x ≤ r.length + 1 ∧ y ≤ r.length + 1 := by
  obtain ⟨s, h1, _, h2⟩ := h.lo
  obtain ⟨t, h3, _, h4⟩ := h.hi
  have a1 := ownR_le man (a :: s)
  have a2 := ownR_le man (a :: t)
  rw [List.length_cons, h1.len] at a1
  rw [List.length_cons, h3.len] at a2
  omega
theorem MM.first (m0 : List Int) (a : Nat) : MM ls man m0 [] a (bitN man a) (bitN man a) := by
  have e : napsR [a] = tabV ls [m0] a := by show fal 0 a + 0 = pop a; rw [pop_fal]; omega
  have e2 : ownR man [a] = bitN man a := by show bitN man (dif a 0) + 0 = _; rw [bitN_zero]; omega
  refine ⟨⟨[], trivial, e, e2⟩, ⟨[], trivial, e, e2⟩, fun s hs _ => ?_⟩
  cases s with
  | nil => omega
  | cons _ _ => exact hs.elim
def cF (ls : List (List Int)) (m0 ms : List Int) (r : List (List Int)) (a b : Nat) : Bool := decide (tabV ls (ms :: r) b + fal b a = tabV ls (m0 :: ms :: r) a)
theorem MM.step {m0 ms : List Int} {r : List (List Int)} {a : Nat} {lf hf : Nat → Nat} (h : ∀ b ∈ fitL ls ms, MM ls man ms r b (lf b) (hf b)) (hr : r.length ≤ 50) (ht : tabV ls (m0 :: ms :: r) a < 100) :
    MM ls man m0 (ms :: r) a (loF (cF ls m0 ms r a) (fun b => lf b + bitN man (dif a b)) (fitL ls ms) 100) (hiF (cF ls m0 ms r a) (fun b => hf b + bitN man (dif a b)) (fitL ls ms) 0) := by
  have hex : ∃ b ∈ fitL ls ms, cF ls m0 ms r a b = true := by
    rcases minF_of (fun b => tabV ls (ms :: r) b + fal b a) (fitL ls ms) 100 with h1 | ⟨b, hb, h1⟩
    · have e : tabV ls (m0 :: ms :: r) a = 100 := h1
      omega
    · exact ⟨b, hb, decide_eq_true h1.symm⟩
  obtain ⟨⟨b1, k1, k2, k3⟩, ⟨b2, k4, k5, k6⟩⟩ := lohi_of (f := fun b => lf b + bitN man (dif a b)) (g := fun b => hf b + bitN man (dif a b)) hex (fun b hb => by
    have := (h b hb).le
    have := bitN_le man (dif a b)
    show lf b + bitN man (dif a b) < 100
    omega)
  have join : ∀ b ∈ fitL ls ms, cF ls m0 ms r a b = true → ∀ s, Expl ls r s → napsR (b :: s) = tabV ls (ms :: r) b → Expl ls (ms :: r) (b :: s) ∧ napsR (a :: b :: s) = tabV ls (m0 :: ms :: r) a ∧ ownR man (a :: b :: s) = ownR man (b :: s) + bitN man (dif a b) := fun b hb hc s h1 h2 => by
    refine ⟨⟨mem_fitL.1 hb, h1⟩, ?_, ?_⟩
    · show fal b a + napsR (b :: s) = _
      have := of_decide_eq_true hc
      omega
    · show bitN man (dif a b) + ownR man (b :: s) = _
      omega
  refine ⟨?_, ?_, fun s hs hn => ?_⟩
  · obtain ⟨s, h1, h2, h3⟩ := (h b1 k1).lo
    obtain ⟨j1, j2, j3⟩ := join b1 k1 k2 s h1 h2
    exact ⟨b1 :: s, j1, j2, by rw [j3, h3, k3]⟩
  · obtain ⟨s, h1, h2, h3⟩ := (h b2 k4).hi
    obtain ⟨j1, j2, j3⟩ := join b2 k4 k5 s h1 h2
    exact ⟨b2 :: s, j1, j2, by rw [j3, h3, k6]⟩
  · cases s with
    | nil => exact hs.elim
    | cons b s =>
      have hb : b ∈ fitL ls ms := mem_fitL.2 hs.1
      have h1 := tabV_le r ms b s hs.2
      have h2 : fal b a + napsR (b :: s) = tabV ls (m0 :: ms :: r) a := hn
      have h3 : tabV ls (m0 :: ms :: r) a ≤ tabV ls (ms :: r) b + fal b a := minF_mem (fun b => tabV ls (ms :: r) b + fal b a) (fitL ls ms) 100 b hb
      have hc : cF ls m0 ms r a b = true := decide_eq_true (by omega)
      have h4 := (h b hb).all s hs.2 (by omega)
      have h5 := loF_mem (f := fun b => lf b + bitN man (dif a b)) (fitL ls ms) 100 b hb hc
      have h6 := hiF_mem (f := fun b => hf b + bitN man (dif a b)) (fitL ls ms) 0 b hb hc
      have h7 : ownR man (a :: b :: s) = bitN man (dif a b) + ownR man (b :: s) := rfl
      have h5' : loF (cF ls m0 ms r a) (fun b => lf b + bitN man (dif a b)) (fitL ls ms) 100 ≤ lf b + bitN man (dif a b) := h5
      have h6' : hf b + bitN man (dif a b) ≤ hiF (cF ls m0 ms r a) (fun b => hf b + bitN man (dif a b)) (fitL ls ms) 0 := h6
      omega
theorem most_l3 (g : GoodW ls hs) (hman : man < 64) {h a : Nat} {ms ms' : List Int} {r : List (List Int)} (hh : h + 1 < hs.length) (e1 : (hs.take (h + 1 + 1)).reverse = ms :: ms' :: r) (e2 : (hs.take (h + 1)).reverse = ms' :: r) (e3 : hs.getD (h + 1) [] = ms) (e4 : hs.getD h [] = ms') (ha : a ∈ fitL ls ms) {low high lo hi : List Int} (hr : low.length = 64) (hr2 : high.length = 64) (hlo : lo.length = 64) (hhi : hi.length = 64) {lf hf : Nat → Nat} (hv : ∀ b ∈ fitL ls ms', lo.getD b 0 = (lf b : Int) ∧ hi.getD b 0 = (hf b : Int) ∧ lf b ≤ 100 ∧ hf b ≤ 100) {rec2 : List Int → List Int → Option (List Int × List Int)} :
    ∀ (l : List Nat) (v w : Nat), (∀ b ∈ l, b ∈ fitL ls ms') → night_Most_l3 (man : Int) (tabT ls hs hs.length) lo hi ((h + 1 : Nat) : Int) (a : Int) rec2 (natL l) (low.set a (v : Int)) (high.set a (w : Int)) = rec2 (low.set a ((loF (cF ls ms ms' r a) (fun b => lf b + bitN man (dif a b)) l v : Nat) : Int)) (high.set a ((hiF (cF ls ms ms' r a) (fun b => hf b + bitN man (dif a b)) l w : Nat) : Int))
  | [], v, w, _ => rfl
  | b :: l, v, w, hl => by
    have hp := pow_le64 g.n6
    have h8 := g.h8
    have hb := hl b (List.mem_cons_self ..)
    have hb2 := (mem_fitL.1 hb).1
    have ha2 := (mem_fitL.1 ha).1
    obtain ⟨v1, v2, v3, v4⟩ := hv b hb
    have h1 := tabV_100 (ls := ls) (ms' :: r) b
    have h2 := fal_le b a
    have hbit := bitN_le man (dif a b)
    have hdif : dif a b < 64 := dif_lt (n := 6) (by omega)
    have ih := most_l3 g hman hh e1 e2 e3 e4 ha hr hr2 hlo hhi hv (rec2 := rec2) l
    have t1 : ((tabT ls hs hs.length).getD h []).getD b 0 = (tabV ls (ms' :: r) b : Int) := by rw [tabT_at (by omega) (by rw [e4]; exact hb), e2]
    have t2 : ((tabT ls hs hs.length).getD (h + 1) []).getD a 0 = (tabV ls (ms :: ms' :: r) a : Int) := by rw [tabT_at hh (by rw [e3]; exact ha), e1]
    rw [natL_cons]; unfold night_Most_l3
    rw [gd_t (r64_small (by omega)), show ((h + 1 : Nat) : Int) - 1 = (h : Int) by omega, ixN [] _ (by rw [tabT_len]; omega), ixN 0 _ (by rw [tabT_row (by omega)]; exact hb2), t1, fallen_eq (by omega) (by omega), b1_some, gd_t (r64_small (by omega)), ixN [] _ (by rw [tabT_len]; omega), ixN 0 _ (by rw [tabT_row (by omega)]; exact ha2), t2, loF_cons, hiF_cons]
    by_cases hc : tabV ls (ms' :: r) b + fal b a = tabV ls (ms :: ms' :: r) a
    · have hc2 : cF ls ms ms' r a b = true := decide_eq_true hc
      rw [if_pos (by omega), if_pos hc2, if_pos hc2, gd_t ⟨by omega, by omega⟩, bvE, bandn_nat (by omega) (by omega), bit_bitN (by omega), ixN 0 _ (by rw [List.length_set]; omega), getD_set_same (by omega), ixN 0 _ (by omega), v1, gd_t (r64_small (by omega)), ixN 0 _ (by rw [List.length_set]; omega), getD_set_same (by omega), ixN 0 _ (by omega), v2, gd_t (r64_small (by omega)), least_eq', b1_some, bvE, bvE, Int.toNat_natCast, set_set, set_set, max_eq']
      exact ih _ _ (fun x hx => hl x (List.mem_cons_of_mem _ hx))
    · have hc2 : ¬ cF ls ms ms' r a b = true := fun h => hc (of_decide_eq_true h)
      rw [if_neg (by omega), if_neg hc2, if_neg hc2]
      exact ih _ _ (fun x hx => hl x (List.mem_cons_of_mem _ hx))
/-- What the rows of an hour are. -/
def RowMM (ls : List (List Int)) (man : Nat) : List (List Int) → List Int → List Int → Prop
  | [], _, _ => True
  | ms :: r, lo, hi => ∀ a ∈ fitL ls ms, ∃ x y : Nat, lo.getD a 0 = (x : Int) ∧ hi.getD a 0 = (y : Int) ∧ MM ls man ms r a x y
theorem most_l2 (g : GoodW ls hs) {s0 : List Nat} (he : Expl ls hs s0) (hman : man < 64) {h : Nat} {ms : List Int} (hh : h < hs.length) (e3 : hs.getD h [] = ms) {lo hi : List Int} (hlo : lo.length = 64) (hhi : hi.length = 64) (hR : RowMM ls man (hs.take h).reverse lo hi) :
    ∀ (l : List Nat) (low high : List Int), (∀ a ∈ l, a ∈ fitL ls ms) → l.Nodup → (∀ a ∈ l, high.getD a 0 = 0) → low.length = 64 → high.length = 64 →
    ∃ low' high', night_Most_l2 (man : Int) ls hs (hs.map (rowOf ls)) (tabT ls hs hs.length) lo hi (h : Int) (natL l) low high = some (low', high') ∧ low'.length = 64 ∧ high'.length = 64 ∧ (∀ a ∈ l, ∃ x y : Nat, low'.getD a 0 = (x : Int) ∧ high'.getD a 0 = (y : Int) ∧ MM ls man ms (hs.take h).reverse a x y) ∧ (∀ a, a ∉ l → low'.getD a 0 = low.getD a 0 ∧ high'.getD a 0 = high.getD a 0)
  | [], low, high, _, _, _, hr, hr2 => ⟨low, high, rfl, hr, hr2, (fun _ h => nomatch h), fun _ _ => ⟨rfl, rfl⟩⟩
  | a :: l, low, high, hl, hn, hz, hr, hr2 => by
    have hp := pow_le64 g.n6
    have h6 := g.n6
    have h8 := g.h8
    have ha := hl a (List.mem_cons_self ..)
    have ha2 := (mem_fitL.1 ha).1
    rw [List.nodup_cons] at hn
    have hl2 : ∀ x ∈ l, x ∈ fitL ls ms := fun x hx => hl x (List.mem_cons_of_mem _ hx)
    have ih : ∀ x y : Nat, MM ls man ms (hs.take h).reverse a x y → ∃ low' high', night_Most_l2 (man : Int) ls hs (hs.map (rowOf ls)) (tabT ls hs hs.length) lo hi (h : Int) (natL l) (low.set a (x : Int)) (high.set a (y : Int)) = some (low', high') ∧ low'.length = 64 ∧ high'.length = 64 ∧ (∀ b ∈ a :: l, ∃ x y : Nat, low'.getD b 0 = (x : Int) ∧ high'.getD b 0 = (y : Int) ∧ MM ls man ms (hs.take h).reverse b x y) ∧ (∀ b, b ∉ a :: l → low'.getD b 0 = low.getD b 0 ∧ high'.getD b 0 = high.getD b 0) := fun x y hM => by
      obtain ⟨low', high', i1, i2, i3, i4, i5⟩ := most_l2 g he hman hh e3 hlo hhi hR l (low.set a (x : Int)) (high.set a (y : Int)) hl2 hn.2 (fun b hb => by
        rw [getD_set_ne (fun he => hn.1 (by rw [he]; exact hb))]
        exact hz b (List.mem_cons_of_mem _ hb)) (by rw [List.length_set]; exact hr) (by rw [List.length_set]; exact hr2)
      refine ⟨low', high', i1, i2, i3, fun b hb => ?_, fun b hb => ?_⟩
      · by_cases hbl : b ∈ l
        · exact i4 b hbl
        · rcases List.mem_cons.1 hb with rfl | hb
          · obtain ⟨j1, j2⟩ := i5 b hbl
            exact ⟨x, y, by rw [j1, getD_set_same (by omega)], by rw [j2, getD_set_same (by omega)], hM⟩
          · exact absurd hb hbl
      · have h1 : b ≠ a := fun he => hb (by rw [he]; exact List.mem_cons_self ..)
        obtain ⟨j1, j2⟩ := i5 b (fun h => hb (List.mem_cons_of_mem _ h))
        rw [getD_set_ne (Ne.symm h1)] at j1 j2
        exact ⟨j1, j2⟩
    rw [natL_cons]; unfold night_Most_l2
    by_cases h0 : h = 0
    · subst h0
      have := ih (bitN man a) (bitN man a) (MM.first ms a)
      rw [if_pos (show ((0 : Nat) : Int) = 0 from rfl), gd_t ⟨by omega, by omega⟩, ixN 0 _ (by omega), bvE, Int.toNat_natCast, bit_bitN (by omega), ixN 0 _ (by rw [List.length_set]; omega), getD_set_same (by omega), ixN 0 _ (by omega), bvE]
      exact this
    · have hpos : h = (h - 1) + 1 := by omega
      have e2 := take_rev (hs := hs) (h := h - 1) (by omega)
      have e1 := take_rev (hs := hs) (h := h) hh
      rw [← hpos] at e2
      rw [e2] at hR
      have hlen : ((hs.take (h - 1)).reverse).length ≤ 50 := by rw [List.length_reverse, List.length_take]; omega
      have hv : ∀ b ∈ fitL ls (hs.getD (h - 1) []), MM ls man (hs.getD (h - 1) []) (hs.take (h - 1)).reverse b ((lo.getD b 0).toNat) ((hi.getD b 0).toNat) ∧ lo.getD b 0 = ((lo.getD b 0).toNat : Int) ∧ hi.getD b 0 = ((hi.getD b 0).toNat : Int) := fun b hb => by
        obtain ⟨x, y, k1, k2, k3⟩ := hR b hb
        rw [k1, k2, Int.toNat_natCast, Int.toNat_natCast]
        exact ⟨k3, rfl, rfl⟩
      have hts := tab_small g he hh a
      rw [e1, e3, e2] at hts
      have hM := MM.step (m0 := ms) (a := a) (fun b hb => (hv b hb).1) hlen (by omega)
      have h3 := most_l3 (h := h - 1) (a := a) (ms := ms) (ms' := hs.getD (h - 1) []) (r := (hs.take (h - 1)).reverse) (low := low) (high := high) (lf := fun b => (lo.getD b 0).toNat) (hf := fun b => (hi.getD b 0).toNat) (rec2 := night_Most_l2 (man : Int) ls hs (hs.map (rowOf ls)) (tabT ls hs hs.length) lo hi (h : Int) (natL l)) g hman (by omega) (by rw [← hpos, e1, e2, e3]) (by rw [← hpos, e2]) (by rw [← hpos]; exact e3) rfl ha hr hr2 hlo hhi (fun b hb => by
        obtain ⟨k1, k2, k3⟩ := hv b hb
        have := k1.le
        exact ⟨k2, k3, by omega, by omega⟩) (fitL ls (hs.getD (h - 1) [])) 100 0 (fun b hb => hb)
      rw [← hpos] at h3
      have hrow : high.set a ((0 : Nat) : Int) = high := by
        have := set_getD (l := high) (i := a) (by omega)
        rw [hz a (List.mem_cons_self ..)] at this
        exact this
      rw [hrow] at h3
      rw [if_neg (by omega), ixN 0 _ (by omega), bvE, Int.toNat_natCast, gd_t (r64_small (by omega)), show (h : Int) - 1 = ((h - 1 : Nat) : Int) by omega, fit_eq g (by omega), b1_some, show (100 : Int) = ((100 : Nat) : Int) from rfl, h3]
      rw [e2] at ih ⊢
      exact ih _ _ hM
theorem most_l1 (g : GoodW ls hs) {s0 : List Nat} (he : Expl ls hs s0) (hman : man < 64) : ∀ (fu h : Nat) (lo hi : List Int), h + fu = hs.length → lo.length = 64 → hi.length = 64 → RowMM ls man (hs.take h).reverse lo hi →
    ∃ lo' hi', night_Most_l1 (man : Int) ls hs (hs.map (rowOf ls)) (tabT ls hs hs.length) fu (h : Int) lo hi = some (lo', hi') ∧ lo'.length = 64 ∧ hi'.length = 64 ∧ RowMM ls man hs.reverse lo' hi'
  | 0, h, lo, hi, hf, h1, h2, h3 => ⟨lo, hi, rfl, h1, h2, by rw [show h = hs.length by omega, List.take_length] at h3; exact h3⟩
  | fu + 1, h, lo, hi, hf, h1, h2, h3 => by
    obtain ⟨low', high', i1, i2, i3, i4, _⟩ := most_l2 g he hman (by omega) rfl h1 h2 h3 (fitL ls (hs.getD h [])) (List.replicate 64 0) (List.replicate 64 0) (fun a ha => ha) (nodup_fitL ..) (fun a _ => repl_get a) (by simp) (by simp)
    obtain ⟨lo', hi', j1, j2, j3, j4⟩ := most_l1 g he hman fu (h + 1) low' high' (by omega) i2 i3 (by rw [take_rev (by omega)]; exact i4)
    refine ⟨lo', hi', ?_, j2, j3, j4⟩
    unfold night_Most_l1
    rw [fit_eq g (by omega), b1_some, i1, b2_some, b2_some, show (h : Int) + 1 = ((h + 1 : Nat) : Int) by omega, j1]
theorem most_l4 {T : List (List Int)} {lo hi : List Int} {n m : Nat} (hT : T.length = n + 1) (hn : n ≤ 100) {f lf hf : Nat → Nat} : ∀ (l : List Nat) (v w : Nat), (∀ a ∈ l, a < (T.getD n []).length ∧ (T.getD n []).getD a 0 = (f a : Int) ∧ a < lo.length ∧ lo.getD a 0 = (lf a : Int) ∧ a < hi.length ∧ hi.getD a 0 = (hf a : Int)) →
    night_Most_l4 T lo hi (m : Int) (natL l) (v : Int) (w : Int) = some ((loF (fun a => decide (f a = m)) lf l v : Int), (hiF (fun a => decide (f a = m)) hf l w : Int))
  | [], v, w, _ => rfl
  | a :: l, v, w, h => by
    obtain ⟨h1, h2, h3, h4, h5, h6⟩ := h a (List.mem_cons_self ..)
    have ih := most_l4 (m := m) (lf := lf) (hf := hf) (f := f) (lo := lo) (hi := hi) hT hn l
    rw [natL_cons]; unfold night_Most_l4
    rw [gd_t (r64_small (by omega)), show (T.length : Int) - 1 = (n : Int) by omega, ixN [] _ (by omega), ixN 0 _ h1, h2, loF_cons, hiF_cons]
    by_cases hc : f a = m
    · rw [if_pos (by omega), if_pos (decide_eq_true hc), if_pos (decide_eq_true hc), ixN 0 _ h3, h4, ixN 0 _ h5, h6, least_eq, b1_some, max_eq2]
      exact ih _ _ (fun x hx => h x (List.mem_cons_of_mem _ hx))
    · have hc2 : ¬ decide (f a = m) = true := fun h => hc (of_decide_eq_true h)
      rw [if_neg (by omega), if_neg hc2, if_neg hc2]
      exact ih _ _ (fun x hx => h x (List.mem_cons_of_mem _ hx))
/-- lo and hi are the least and the greatest number of his naps in the explanations with the fewest naps. -/
structure MostOK (ls hs : List (List Int)) (man x y : Nat) : Prop where
  lo : ∃ s, Expl ls hs s ∧ napsF 0 s = restV ls allB hs 0 ∧ ownF man 0 s = x
  hi : ∃ s, Expl ls hs s ∧ napsF 0 s = restV ls allB hs 0 ∧ ownF man 0 s = y
  all : ∀ s, Expl ls hs s → napsF 0 s = restV ls allB hs 0 → x ≤ ownF man 0 s ∧ ownF man 0 s ≤ y
theorem MostOK.rev {lo hi : Nat} (h : MostOK ls hs man lo hi) : MostOK ls hs.reverse man lo hi := by
  refine ⟨?_, ?_, fun s h1 h2 => ?_⟩
  · obtain ⟨s, h1, h2, h3⟩ := h.lo
    exact ⟨s.reverse, h1.rev, by rw [napsF_reverse, rest_rev, h2], by rw [ownF_reverse, h3]⟩
  · obtain ⟨s, h1, h2, h3⟩ := h.hi
    exact ⟨s.reverse, h1.rev, by rw [napsF_reverse, rest_rev, h2], by rw [ownF_reverse, h3]⟩
  · have := h.all s.reverse h1.of_rev (by rw [napsF_reverse, ← rest_rev, h2])
    rwa [ownF_reverse] at this
theorem Most_ok (g : GoodW ls hs) {s0 : List Nat} (he : Expl ls hs s0) (hman : man < ls.length) : ∃ lo hi : Nat, night_Most ls hs (man : Int) = some ((lo : Int), (hi : Int), 0) ∧ MostOK ls hs man lo hi := by
  obtain ⟨c, h1, _⟩ := opened_ok g
  have hh1 := g.h1; have h8 := g.h8; have h6 := g.n6
  have hp := pow_le64 g.n6
  have e := last_rev g
  obtain ⟨lo, hi, l1', l2, l3, l4⟩ := most_l1 (man := man) g he (by omega) hs.length 0 (List.replicate 64 0) (List.replicate 64 0) (by omega) (by simp) (by simp) trivial
  rw [e] at l4
  have l1 : night_Most_l1 (man : Int) ls hs (hs.map (rowOf ls)) (tabT ls hs hs.length) hs.length 0 (List.replicate 64 0) (List.replicate 64 0) = some (lo, hi) := l1'
  have hv : ∀ a ∈ fitL ls (hs.getD (hs.length - 1) []), MM ls man (hs.getD (hs.length - 1) []) (hs.take (hs.length - 1)).reverse a ((lo.getD a 0).toNat) ((hi.getD a 0).toNat) ∧ lo.getD a 0 = ((lo.getD a 0).toNat : Int) ∧ hi.getD a 0 = ((hi.getD a 0).toNat : Int) := fun a ha => by
    obtain ⟨x, y, k1, k2, k3⟩ := l4 a ha
    rw [k1, k2, Int.toNat_natCast, Int.toNat_natCast]
    exact ⟨k3, rfl, rfl⟩
  have hx : ∀ a ∈ fitL ls (hs.getD (hs.length - 1) []), a < ((tabT ls hs hs.length).getD (hs.length - 1) []).length ∧ ((tabT ls hs hs.length).getD (hs.length - 1) []).getD a 0 = (tabV ls hs.reverse a : Int) ∧ a < lo.length ∧ lo.getD a 0 = ((lo.getD a 0).toNat : Int) ∧ a < hi.length ∧ hi.getD a 0 = ((hi.getD a 0).toNat : Int) := fun a ha => by
    have ha2 := (mem_fitL.1 ha).1
    obtain ⟨_, k2, k3⟩ := hv a ha
    refine ⟨by rw [tabT_row (by omega)]; exact ha2, ?_, by omega, k2, by omega, k3⟩
    rw [tabT_at (by omega) ha, show hs.length - 1 + 1 = hs.length by omega, List.take_length]
  obtain ⟨f1, f2, f3⟩ := first_some (okF := fun xx_ : Int => night_all_1 xx_) g allB_ok (expl_rest g he)
  have hm := min_rest g he
  have hlt := expl_rest g he
  have hlen : ((hs.take (hs.length - 1)).reverse).length ≤ 50 := by rw [List.length_reverse, List.length_take]; omega
  have hr : night_Most ls hs (man : Int) = some ((loF (fun a => decide (tabV ls hs.reverse a = restV ls allB hs 0)) (fun a => (lo.getD a 0).toNat) (fitL ls (hs.getD (hs.length - 1) [])) 100 : Int), (hiF (fun a => decide (tabV ls hs.reverse a = restV ls allB hs 0)) (fun a => (hi.getD a 0).toNat) (fitL ls (hs.getD (hs.length - 1) [])) 0 : Int), 0) := by
    have h4' := most_l4 (T := tabT ls hs hs.length) (n := hs.length - 1) (m := restV ls allB hs 0) (by rw [tabT_len]; omega) (by omega) (fitL ls (hs.getD (hs.length - 1) [])) 100 0 hx
    have h4 : night_Most_l4 (tabT ls hs hs.length) lo hi (restV ls allB hs 0 : Int) (natL (fitL ls (hs.getD (hs.length - 1) []))) 100 0 = _ := h4'
    unfold night_Most
    rw [h1, b2_some, if_neg (by decide), gd_t (r64_nat1 (by omega)), in_eq, b1_some, if_neg (in_set hman), b4_some, clash_false g he, b1_some, if_neg (by decide), table_eq g, b1_some, gd_t ⟨r64_small (by omega), r64_small (by omega)⟩, toNat_sub00, l1, b2_some]
    unfold night_all
    rw [b1_some, gd_t rfl, f2, b2_some, tabT_len, gd_t (r64_small (by omega)), show (hs.length : Int) - 1 = ((hs.length - 1 : Nat) : Int) by omega, fit_eq g (by omega), b1_some, f3.naps, h4, b2_some]
  refine ⟨_, _, hr, ?_⟩
  generalize hms : hs.getD (hs.length - 1) [] = ms at hm e hv ⊢
  generalize hrr : (hs.take (hs.length - 1)).reverse = r at e hv hlen
  rw [e] at hm ⊢
  have hex : ∃ b ∈ fitL ls ms, decide (tabV ls (ms :: r) b = restV ls allB hs 0) = true := by
    rcases minF_of (tabV ls (ms :: r)) (fitL ls ms) 100 with k1 | ⟨b, hb, k1⟩
    · omega
    · exact ⟨b, hb, decide_eq_true (by omega)⟩
  obtain ⟨⟨b1, k1, k2, k3⟩, ⟨b2, k4, k5, k6⟩⟩ := lohi_of (c := fun a => decide (tabV ls (ms :: r) a = restV ls allB hs 0)) (f := fun a => (lo.getD a 0).toNat) (g := fun a => (hi.getD a 0).toNat) hex (fun b hb => by
    have := (hv b hb).1.le
    show (lo.getD b 0).toNat < 100
    omega)
  have conv : ∀ b s, b ∈ fitL ls ms → Expl ls r s → Expl ls hs (b :: s).reverse ∧ napsF 0 (b :: s).reverse = napsR (b :: s) ∧ ownF man 0 (b :: s).reverse = ownR man (b :: s) := fun b s hb hs2 => by
    refine ⟨Expl.of_rev (by rw [e]; exact ⟨mem_fitL.1 hb, hs2⟩), by rw [napsF_rev, List.reverse_reverse], by rw [ownF_rev, List.reverse_reverse]⟩
  refine ⟨?_, ?_, fun s hs2 hn => ?_⟩
  · obtain ⟨s, j1, j2, j3⟩ := (hv b1 k1).1.lo
    obtain ⟨c1, c2, c3⟩ := conv b1 s k1 j1
    exact ⟨_, c1, by rw [c2, j2]; exact of_decide_eq_true k2, by rw [c3, j3, k3]⟩
  · obtain ⟨s, j1, j2, j3⟩ := (hv b2 k4).1.hi
    obtain ⟨c1, c2, c3⟩ := conv b2 s k4 j1
    exact ⟨_, c1, by rw [c2, j2]; exact of_decide_eq_true k5, by rw [c3, j3, k6]⟩
  · have h2 := hs2.rev
    rw [e] at h2
    rw [napsF_rev] at hn
    rw [ownF_rev]
    cases hsr : s.reverse with
    | nil => rw [hsr] at h2; exact h2.elim
    | cons b t =>
      rw [hsr] at h2 hn
      have hb : b ∈ fitL ls ms := mem_fitL.2 h2.1
      have t1 := tabV_le r ms b t h2.2
      have t2 := minF_mem (tabV ls (ms :: r)) (fitL ls ms) 100 b hb
      have hc : decide (tabV ls (ms :: r) b = restV ls allB hs 0) = true := decide_eq_true (by omega)
      have q := (hv b hb).1.all t h2.2 (by have := of_decide_eq_true hc; omega)
      have q1 := loF_mem (c := fun a => decide (tabV ls (ms :: r) a = restV ls allB hs 0)) (f := fun a => (lo.getD a 0).toNat) (fitL ls ms) 100 b hb hc
      have q2 := hiF_mem (c := fun a => decide (tabV ls (ms :: r) a = restV ls allB hs 0)) (f := fun a => (hi.getD a 0).toNat) (fitL ls ms) 0 b hb hc
      exact ⟨Nat.le_trans q1 q.1, Nat.le_trans q.2 q2⟩
end
end Go.Proofs.Ytjgeaaganpkceaa.Nt
