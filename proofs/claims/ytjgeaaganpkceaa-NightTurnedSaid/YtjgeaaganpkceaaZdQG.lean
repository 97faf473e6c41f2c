/- Layer 5: a night the other way round, explanations counted, ways; in plain Lean. -/
import Derived.Test.YtjgeaaganpkceaaZdQF
namespace Go.Proofs.Ytjgeaaganpkceaa.Nt
open Go.PL
theorem fil_split (p q : Nat → Bool) (l : List Nat) : (l.filter fun i => p i && !q i).length + (l.filter fun i => q i).length = (l.filter fun i => q i && !p i).length + (l.filter fun i => p i).length := by
  induction l with
  | nil => rfl
  | cons x l ih =>
    cases hp : p x <;> cases hq : q x <;> simp [hp, hq] <;> omega
theorem pop_dif (x y : Nat) : pop (dif x y) = ((List.range 6).filter fun i => x.testBit i && !y.testBit i).length := by
  unfold pop
  congr 1
  apply List.filter_congr
  intro i _
  rw [bit_dif]
theorem fal_pop (a b : Nat) : fal a b + pop a = fal b a + pop b := by
  unfold fal
  rw [pop_dif, pop_dif]
  exact fil_split (fun i => b.testBit i) (fun i => a.testBit i) _
theorem napsR_cons : ∀ (s : List Nat) (b : Nat), napsR (b :: s) = pop b + napsF b s
  | [], b => by
    show fal 0 b + 0 = pop b + 0
    rw [pop_fal]
  | a :: s, b => by
    have h1 : napsR (b :: a :: s) = fal a b + napsR (a :: s) := rfl
    have h2 : napsF b (a :: s) = fal b a + napsF a s := rfl
    have h3 := napsR_cons s a
    have h4 := fal_pop a b
    omega
theorem napsR_eq (s : List Nat) : napsR s = napsF 0 s := by
  cases s with
  | nil => rfl
  | cons b s => rw [napsR_cons, pop_fal]; rfl
theorem napsF_reverse (s : List Nat) : napsF 0 s.reverse = napsF 0 s := by
  rw [napsF_rev s, napsR_eq]
theorem GoodW.rev {ls hs : List (List Int)} (g : GoodW ls hs) : GoodW ls hs.reverse :=
  ⟨g.n1, g.n6, by rw [List.length_reverse]; exact g.h1, by rw [List.length_reverse]; exact g.h8, fun ms h => g.wid ms (List.mem_reverse.1 h), fun ms h => g.mks ms (List.mem_reverse.1 h), g.lis, g.nd⟩
section
variable {ls hs : List (List Int)} {ok : Nat → Bool}
theorem ExplO.rev {s : List Nat} (h : ExplO ls ok hs s) : ExplO ls ok hs.reverse s.reverse :=
  ⟨h.1.rev, fun a ha => h.2 a (List.mem_reverse.1 ha)⟩
theorem rest_rev_le (ls hs : List (List Int)) (ok : Nat → Bool) : restV ls ok hs.reverse 0 ≤ restV ls ok hs 0 := by
  have h1 := restV_100 ls ok hs.reverse 0
  have h2 := restV_100 ls ok hs 0
  rcases Nat.lt_or_ge (restV ls ok hs 0) 100 with h | h
  · obtain ⟨s, h3, h4⟩ := restV_of ls ok hs 0 h
    have h5 := restV_le ls ok hs.reverse 0 s.reverse h3.rev
    rw [napsF_reverse] at h5
    omega
  · omega
theorem rest_rev (ls hs : List (List Int)) (ok : Nat → Bool) : restV ls ok hs.reverse 0 = restV ls ok hs 0 := by
  have h1 := rest_rev_le ls hs ok
  have h2 := rest_rev_le ls hs.reverse ok
  rw [List.reverse_reverse] at h2
  omega
theorem Fewest_n (g : GoodW ls hs) {s : List Nat} (he : Expl ls hs s) : ∃ l, night_Fewest ls hs = some (l, (restV ls allB hs 0 : Int), 0) := by
  obtain ⟨s1, h1, h2⟩ := Fewest_ok g he
  exact ⟨natL s1, by rw [h1, h2.naps]⟩
end
def allX (ls : List (List Int)) : List (List Int) → List (List Nat)
  | [] => [[]]
  | ms :: tl => (fitL ls ms).flatMap fun a => (allX ls tl).map (a :: ·)
section
variable {ls hs : List (List Int)}
theorem mem_allX : ∀ {hs : List (List Int)} {s : List Nat}, s ∈ allX ls hs ↔ Expl ls hs s
  | [], [] => by simp [allX, Expl]
  | [], _ :: _ => by simp [allX, Expl]
  | _ :: _, [] => by simp [allX, Expl]
  | ms :: tl, a :: s => by
    unfold allX
    rw [List.mem_flatMap]
    constructor
    · rintro ⟨b, hb, h⟩
      rw [List.mem_map] at h
      obtain ⟨t, ht, he⟩ := h
      obtain ⟨rfl, rfl⟩ := List.cons.inj he
      exact ⟨mem_fitL.1 hb, mem_allX.1 ht⟩
    · intro h
      exact ⟨a, mem_fitL.2 h.1, List.mem_map.2 ⟨s, mem_allX.2 h.2, rfl⟩⟩
theorem nodup_fitL (ls : List (List Int)) (ms : List Int) : (fitL ls ms).Nodup := (sorted_fitL ls ms).imp fun h => Nat.ne_of_lt h
theorem nodup_allX (ls : List (List Int)) : ∀ hs : List (List Int), (allX ls hs).Nodup
  | [] => by simp [allX]
  | ms :: tl => by
    unfold allX
    rw [List.Nodup, List.pairwise_flatMap]
    refine ⟨fun a _ => ?_, (nodup_fitL ls ms).imp fun hab x hx y hy he => ?_⟩
    · rw [List.pairwise_map]
      exact (nodup_allX ls tl).imp fun h he => h (List.cons.inj he).2
    · rw [List.mem_map] at hx hy
      obtain ⟨_, _, rfl⟩ := hx
      obtain ⟨_, _, rfl⟩ := hy
      exact hab (List.cons.inj he).1
theorem flat_len (L : List (List Nat)) : ∀ l : List Nat, (l.flatMap fun a => L.map (a :: ·)).length = l.length * L.length
  | [] => by simp
  | a :: l => by
    rw [List.flatMap_cons, List.length_append, List.length_map, flat_len L l, List.length_cons, Nat.succ_mul]; omega
theorem len_allX (ms : List Int) (tl : List (List Int)) : (allX ls (ms :: tl)).length = (fitL ls ms).length * (allX ls tl).length := flat_len _ _
theorem fitL_len (ls : List (List Int)) (ms : List Int) : (fitL ls ms).length ≤ 2 ^ ls.length := by
  have : (fitL ls ms).length ≤ (List.range (2 ^ ls.length)).length := List.length_filter_le ..
  simpa using this
theorem allX_rev (ls hs : List (List Int)) : (allX ls hs.reverse).Perm ((allX ls hs).map List.reverse) := by
  refine (List.perm_ext_iff_of_nodup (nodup_allX ls _) ?_).2 fun s => ?_
  · rw [List.Nodup, List.pairwise_map]
    exact (nodup_allX ls hs).imp fun h he => h (List.reverse_inj.1 he)
  · rw [mem_allX, List.mem_map]
    constructor
    · intro h
      exact ⟨s.reverse, mem_allX.2 h.of_rev, List.reverse_reverse s⟩
    · rintro ⟨t, ht, rfl⟩
      exact (mem_allX.1 ht).rev
theorem len_rev (ls hs : List (List Int)) : (allX ls hs.reverse).length = (allX ls hs).length := by
  rw [(allX_rev ls hs).length_eq, List.length_map]
theorem r64_big {x : Nat} (h : x ≤ 4611686018427387904) : R64 (x : Int) := by unfold R64; omega
theorem count_l2 : ∀ (l : List Nat) (k : Nat), k + l.length ≤ 1000000 → night_desk_count_l2 (natL l) (k : Int) = some ((k + l.length : Nat) : Int)
  | [], k, _ => rfl
  | a :: l, k, h => by
    rw [List.length_cons] at h
    rw [natL_cons]; unfold night_desk_count_l2
    rw [gd_t (r64_small (by omega)), show (k : Int) + 1 = ((k + 1 : Nat) : Int) by omega, count_l2 l (k + 1) (by omega), List.length_cons, show k + 1 + l.length = k + (l.length + 1) by omega]
theorem count_l1 (g : GoodW ls hs) : ∀ (tl : List (List Int)) (h n : Nat), hs.drop h = tl → n * 64 ^ tl.length ≤ 4611686018427387904 → night_desk_count_l1 ls hs (hs.map (rowOf ls)) tl (h : Int) (n : Int) = some ((n * (allX ls tl).length : Nat) : Int)
  | [], h, n, _, _ => by
    show some (n : Int) = _
    simp [allX]
  | ms :: tl, h, n, hd, hn => by
    have hp := pow_le64 g.n6
    have hk : h < hs.length := by
      rcases Nat.lt_or_ge h hs.length with h' | h'
      · exact h'
      · rw [List.drop_eq_nil_of_le h'] at hd; cases hd
    have hg : hs.getD h [] = ms := by
      rw [List.drop_eq_getElem_cons hk] at hd
      rw [List.getD_eq_getElem?_getD, List.getElem?_eq_getElem hk]
      exact (List.cons.inj hd).1
    have hd2 : hs.drop (h + 1) = tl := by
      rw [List.drop_eq_getElem_cons hk] at hd
      exact (List.cons.inj hd).2
    have hf := fitL_len ls ms
    have h1 : n * (fitL ls ms).length * 64 ^ tl.length ≤ 4611686018427387904 := by
      refine Nat.le_trans ?_ hn
      rw [List.length_cons, Nat.pow_succ, Nat.mul_comm (64 ^ tl.length) 64, ← Nat.mul_assoc]
      exact Nat.mul_le_mul_right _ (Nat.mul_le_mul_left _ (by omega))
    have h2 : n * (fitL ls ms).length ≤ n * (fitL ls ms).length * 64 ^ tl.length := Nat.le_mul_of_pos_right _ (Nat.pow_pos (by decide))
    unfold night_desk_count_l1
    rw [fit_eq g hk, b1_some, hg, show (0 : Int) = ((0 : Nat) : Int) from rfl, count_l2 _ 0 (by omega), b1_some, Nat.zero_add, show (n : Int) * ((fitL ls ms).length : Int) = ((n * (fitL ls ms).length : Nat) : Int) by rw [Int.natCast_mul], gd_t (r64_big (by omega)), b1_some, show (h : Int) + 1 = ((h + 1 : Nat) : Int) by omega, count_l1 g tl (h + 1) _ hd2 h1, len_allX, Nat.mul_assoc]
theorem pow8 {n : Nat} (h : n ≤ 8) : 64 ^ n ≤ 281474976710656 := Nat.le_trans (Nat.pow_le_pow_right (n := 64) (by decide) h) (by decide)
theorem count_eq (g : GoodW ls hs) : night_desk_count ls hs (hs.map (rowOf ls)) = some ((allX ls hs).length : Int) := by
  unfold night_desk_count
  have h := count_l1 g hs 0 1 rfl (by have := pow8 g.h8; omega)
  rw [Nat.one_mul] at h
  rw [show (0 : Int) = ((0 : Nat) : Int) from rfl, show (1 : Int) = ((1 : Nat) : Int) from rfl, h, b1_some]
theorem Count_ok (g : GoodW ls hs) : night_Count ls hs = some (((allX ls hs).length : Int), 0) := by
  obtain ⟨c, h1, _⟩ := opened_ok g
  unfold night_Count
  rw [h1, b2_some, if_neg (by decide), b4_some, count_eq g, b1_some]
theorem allX_le (ls : List (List Int)) (h6 : ls.length ≤ 6) : ∀ hs : List (List Int), (allX ls hs).length ≤ 64 ^ hs.length
  | [] => by simp [allX]
  | ms :: tl => by
    have hp := pow_le64 h6
    rw [len_allX, List.length_cons, Nat.pow_succ, Nat.mul_comm]
    exact Nat.mul_le_mul (allX_le ls h6 tl) (Nat.le_trans (fitL_len ls ms) hp)
/-- How many ways lead to a set with as few naps as can be; the hours from this one back. -/
def wayV (ls : List (List Int)) : List (List Int) → Nat → Nat
  | [], _ => 0
  | [_], _ => 1
  | m0 :: ms :: r, a => (fitL ls ms).foldl (fun v b => if tabV ls (ms :: r) b + fal b a = tabV ls (m0 :: ms :: r) a then v + wayV ls (ms :: r) b else v) 0
theorem fold_sum (c : Nat → Prop) [DecidablePred c] (f : Nat → Nat) : ∀ (l : List Nat) (v : Nat), l.foldl (fun v b => if c b then v + f b else v) v = v + (l.map fun b => if c b then f b else 0).sum
  | [], v => by simp
  | b :: l, v => by
    rw [List.foldl_cons, fold_sum c f l, List.map_cons, List.sum_cons]
    split <;> omega
theorem countP_cons (p : List Nat → Bool) (tl : List (List Int)) (ms : List Int) : (allX ls (ms :: tl)).countP p = ((fitL ls ms).map fun a => (allX ls tl).countP fun s => p (a :: s)).sum := by
  show ((fitL ls ms).flatMap fun a => (allX ls tl).map (a :: ·)).countP p = _
  rw [List.countP_flatMap]
  congr 1
  apply List.map_congr_left
  intro a _
  simp only [Function.comp, List.countP_map]
  rfl
theorem way_part {m a n : Nat} {r : List (List Int)} {m0 : List Int} (hw : wayV ls (m0 :: r) a = (allX ls r).countP fun s => decide (napsR (a :: s) = tabV ls (m0 :: r) a)) (x : Nat) (hle : m ≤ tabV ls (m0 :: r) a + n) (he : ∀ s, Expl ls r s → x = n) : (if tabV ls (m0 :: r) a + n = m then wayV ls (m0 :: r) a else 0) = (allX ls r).countP fun s => decide (x + napsR (a :: s) = m) := by
  by_cases hc : tabV ls (m0 :: r) a + n = m
  · rw [if_pos hc, hw]
    apply List.countP_congr
    intro s hs
    have := he s (mem_allX.1 hs)
    rw [decide_eq_true_iff, decide_eq_true_iff]
    omega
  · rw [if_neg hc]
    symm
    rw [List.countP_eq_zero]
    intro s hs
    have h1 := mem_allX.1 hs
    have h2 := tabV_le r m0 a s h1
    have := he s h1
    rw [decide_eq_true_iff]
    omega
theorem wayV_eq : ∀ (r : List (List Int)) (m0 : List Int) (a : Nat), wayV ls (m0 :: r) a = (allX ls r).countP fun s => decide (napsR (a :: s) = tabV ls (m0 :: r) a)
  | [], m0, a => by
    show 1 = [[]].countP _
    have : napsR [a] = tabV ls [m0] a := by show fal 0 a + 0 = pop a; rw [pop_fal]; omega
    simp [this]
  | ms :: r, m0, a => by
    rw [countP_cons]
    unfold wayV
    rw [fold_sum, Nat.zero_add]
    congr 1
    apply List.map_congr_left
    intro b hb
    refine way_part (wayV_eq r ms b) (fal b a) ?_ (fun _ _ => rfl)
    exact minF_mem (fun b => tabV ls (ms :: r) b + fal b a) (fitL ls ms) 100 b hb
theorem wayV_le (h6 : ls.length ≤ 6) (r : List (List Int)) (m0 : List Int) (a : Nat) : wayV ls (m0 :: r) a ≤ 64 ^ r.length := by
  rw [wayV_eq]
  exact Nat.le_trans List.countP_le_length (allX_le ls h6 r)
/-- A row of ways. -/
def wRow (ls : List (List Int)) : List (List Int) → List Int
  | [] => List.replicate 64 0
  | ms :: r => (fitL ls ms).foldl (fun row a => row.set a (wayV ls (ms :: r) a : Int)) (List.replicate 64 0)
theorem wRow_len {r : List (List Int)} : (wRow ls r).length = 64 := by
  cases r with
  | nil => simp [wRow]
  | cons ms r => unfold wRow; rw [foldset_len, List.length_replicate]
theorem wRow_get {ms : List Int} {r : List (List Int)} {a : Nat} (ha : a < 64) : (wRow ls (ms :: r)).getD a 0 = if a ∈ fitL ls ms then (wayV ls (ms :: r) a : Int) else 0 := by
  unfold wRow
  rw [foldset_get _ _ _ _ (by rw [List.length_replicate]; exact ha)]
  congr 1
  rw [List.getD_eq_getElem?_getD, List.getElem?_replicate_of_lt ha]; rfl
theorem set_getD {l : List Int} {i : Nat} (h : i < l.length) : l.set i (l.getD i 0) = l := by
  apply List.ext_getElem?
  intro j
  rw [List.getElem?_set]
  by_cases hj : i = j
  · subst hj
    rw [if_pos rfl, if_pos h, List.getD_eq_getElem?_getD, List.getElem?_eq_getElem h]; rfl
  · rw [if_neg hj]
theorem tabT_at {h a : Nat} (hh : h < hs.length) (ha : a ∈ fitL ls (hs.getD h [])) : ((tabT ls hs hs.length).getD h []).getD a 0 = (tabV ls (hs.take (h + 1)).reverse a : Int) := by
  rw [tabT_get hh, take_rev hh, tRow_get (mem_fitL.1 ha).1, if_pos ha]
theorem tabT_row {h : Nat} (hh : h < hs.length) : ((tabT ls hs hs.length).getD h []).length = 2 ^ ls.length := by
  rw [tabT_get hh, take_rev hh, tRow_len]
theorem ways_l3 (g : GoodW ls hs) {h a B : Nat} {ms ms' : List Int} {r : List (List Int)} (hh : h + 1 < hs.length) (e1 : (hs.take (h + 1 + 1)).reverse = ms :: ms' :: r) (e2 : (hs.take (h + 1)).reverse = ms' :: r) (e3 : hs.getD (h + 1) [] = ms) (e4 : hs.getD h [] = ms') (ha : a ∈ fitL ls ms) {row : List Int} (hr : row.length = 64) (hB : ∀ b, wayV ls (ms' :: r) b ≤ B) {rec2 : List Int → Option (List Int)} :
    ∀ (l : List Nat) (v : Nat), (∀ b ∈ l, b ∈ fitL ls ms') → v + l.length * B ≤ 4611686018427387904 → night_Ways_l3 (tabT ls hs hs.length) (wRow ls (ms' :: r)) ((h + 1 : Nat) : Int) (a : Int) rec2 (natL l) (row.set a (v : Int)) = rec2 (row.set a ((l.foldl (fun v b => if tabV ls (ms' :: r) b + fal b a = tabV ls (ms :: ms' :: r) a then v + wayV ls (ms' :: r) b else v) v : Nat) : Int))
  | [], v, _, _ => rfl
  | b :: l, v, hl, hv => by
    have hp := pow_le64 g.n6
    have h8 := g.h8
    have hb := hl b (List.mem_cons_self ..)
    have hb2 := (mem_fitL.1 hb).1
    have ha2 := (mem_fitL.1 ha).1
    have h1 := tabV_100 (ls := ls) (ms' :: r) b
    have h2 := fal_le b a
    have h3 := hB b
    have ih := ways_l3 g hh e1 e2 e3 e4 ha hr hB (rec2 := rec2) l
    rw [List.length_cons, Nat.succ_mul] at hv
    have t1 : ((tabT ls hs hs.length).getD h []).getD b 0 = (tabV ls (ms' :: r) b : Int) := by rw [tabT_at (by omega) (by rw [e4]; exact hb), e2]
    have t2 : ((tabT ls hs hs.length).getD (h + 1) []).getD a 0 = (tabV ls (ms :: ms' :: r) a : Int) := by rw [tabT_at hh (by rw [e3]; exact ha), e1]
    rw [natL_cons]; unfold night_Ways_l3
    rw [gd_t (r64_small (by omega)), show ((h + 1 : Nat) : Int) - 1 = (h : Int) by omega, ixN [] _ (by rw [tabT_len]; omega), ixN 0 _ (by rw [tabT_row (by omega)]; exact hb2), t1, fallen_eq (by omega) (by omega), b1_some, gd_t (r64_small (by omega)), ixN [] _ (by rw [tabT_len]; omega), ixN 0 _ (by rw [tabT_row (by omega)]; exact ha2), t2, List.foldl_cons]
    by_cases hc : tabV ls (ms' :: r) b + fal b a = tabV ls (ms :: ms' :: r) a
    · rw [if_pos (by omega), if_pos hc, ixN 0 _ (by rw [List.length_set]; omega), getD_set_same (by omega), ixN 0 _ (by rw [wRow_len]; omega), wRow_get (by omega), if_pos hb, show (v : Int) + (wayV ls (ms' :: r) b : Int) = ((v + wayV ls (ms' :: r) b : Nat) : Int) by omega, gd_t (r64_big (by omega)), bvE, Int.toNat_natCast, set_set]
      exact ih _ (fun x hx => hl x (List.mem_cons_of_mem _ hx)) (by omega)
    · rw [if_neg (by omega), if_neg hc]
      exact ih _ (fun x hx => hl x (List.mem_cons_of_mem _ hx)) (by omega)
theorem ways_l2 (g : GoodW ls hs) {h : Nat} {ms : List Int} (hh : h < hs.length) (e3 : hs.getD h [] = ms) :
    ∀ (l : List Nat) (row : List Int), (∀ a ∈ l, a ∈ fitL ls ms) → l.Nodup → (∀ a ∈ l, row.getD a 0 = 0) → row.length = 64 → night_Ways_l2 ls hs (hs.map (rowOf ls)) (tabT ls hs hs.length) (wRow ls (hs.take h).reverse) (h : Int) (natL l) row = some (l.foldl (fun row a => row.set a (wayV ls (ms :: (hs.take h).reverse) a : Int)) row)
  | [], row, _, _, _, _ => rfl
  | a :: l, row, hl, hn, hz, hr => by
    have hp := pow_le64 g.n6
    have h6 := g.n6
    have h8 := g.h8
    have ha := hl a (List.mem_cons_self ..)
    have ha2 := (mem_fitL.1 ha).1
    rw [List.nodup_cons] at hn
    have ih := ways_l2 g hh e3 l
    have hz2 : ∀ v : Int, ∀ x ∈ l, (row.set a v).getD x 0 = 0 := fun v x hx => by
      rw [getD_set_ne (fun he => hn.1 (by rw [he]; exact hx))]
      exact hz x (List.mem_cons_of_mem _ hx)
    have hl2 : ∀ x ∈ l, x ∈ fitL ls ms := fun x hx => hl x (List.mem_cons_of_mem _ hx)
    rw [natL_cons, List.foldl_cons]; unfold night_Ways_l2
    by_cases h0 : h = 0
    · subst h0
      have e : wayV ls (ms :: (hs.take 0).reverse) a = 1 := rfl
      rw [if_pos (show ((0 : Nat) : Int) = 0 from rfl), ixN 0 _ (by omega), bvE, Int.toNat_natCast, e]
      exact ih _ hl2 hn.2 (hz2 _) (by rw [List.length_set]; exact hr)
    · have hpos : h = (h - 1) + 1 := by omega
      have e2 := take_rev (hs := hs) (h := h - 1) (by omega)
      have e1 := take_rev (hs := hs) (h := h) hh
      rw [← hpos] at e2
      have hB : ∀ b, wayV ls (hs.getD (h - 1) [] :: (hs.take (h - 1)).reverse) b ≤ 281474976710656 := fun b => by
        refine Nat.le_trans (wayV_le h6 _ _ b) (pow8 ?_)
        rw [List.length_reverse, List.length_take]; omega
      have hfl := fitL_len ls (hs.getD (h - 1) [])
      have h3 := ways_l3 (h := h - 1) (a := a) (B := 281474976710656) (ms := ms) (ms' := hs.getD (h - 1) []) (r := (hs.take (h - 1)).reverse) (row := row) (rec2 := night_Ways_l2 ls hs (hs.map (rowOf ls)) (tabT ls hs hs.length) (wRow ls (hs.take h).reverse) (h : Int) (natL l)) g (by omega) (by rw [← hpos, e1, e2, e3]) (by rw [← hpos, e2]) (by rw [← hpos]; exact e3) rfl ha hr hB (fitL ls (hs.getD (h - 1) [])) 0 (fun b hb => hb) (by
        have : (fitL ls (hs.getD (h - 1) [])).length * 281474976710656 ≤ 64 * 281474976710656 := Nat.mul_le_mul_right _ (by omega)
        omega)
      rw [← hpos] at h3
      have hrow : row.set a ((0 : Nat) : Int) = row := by
        have := set_getD (l := row) (i := a) (by omega)
        rw [hz a (List.mem_cons_self ..)] at this
        exact this
      rw [hrow] at h3
      rw [if_neg (by omega), gd_t (r64_small (by omega)), show (h : Int) - 1 = ((h - 1 : Nat) : Int) by omega, fit_eq g (by omega), b1_some]
      have e5 : wayV ls (ms :: (hs.take h).reverse) a = (fitL ls (hs.getD (h - 1) [])).foldl (fun v b => if tabV ls (hs.getD (h - 1) [] :: (hs.take (h - 1)).reverse) b + fal b a = tabV ls (ms :: hs.getD (h - 1) [] :: (hs.take (h - 1)).reverse) a then v + wayV ls (hs.getD (h - 1) [] :: (hs.take (h - 1)).reverse) b else v) 0 := by rw [e2]; rfl
      rw [← e5, ← e2] at h3
      rw [h3]
      exact ih _ hl2 hn.2 (hz2 _) (by rw [List.length_set]; exact hr)
theorem repl_get (a : Nat) : (List.replicate 64 (0 : Int)).getD a 0 = 0 := by
  rw [List.getD_eq_getElem?_getD, List.getElem?_replicate]
  split <;> rfl
theorem ways_l1 (g : GoodW ls hs) : ∀ (fu h : Nat), h + fu = hs.length → night_Ways_l1 ls hs (hs.map (rowOf ls)) (tabT ls hs hs.length) fu (h : Int) (wRow ls (hs.take h).reverse) = some (wRow ls hs.reverse)
  | 0, h, hf => by rw [show h = hs.length by omega, List.take_length]; rfl
  | fu + 1, h, hf => by
    have hp := pow_le64 g.n6
    unfold night_Ways_l1
    rw [fit_eq g (by omega), b1_some, ways_l2 g (by omega) rfl _ _ (fun a ha => ha) (nodup_fitL ..) (fun a _ => repl_get a) (by simp), b1_some, b1_some]
    have e : (fitL ls (hs.getD h [])).foldl (fun row a => row.set a (wayV ls (hs.getD h [] :: (hs.take h).reverse) a : Int)) (List.replicate 64 0) = wRow ls (hs.take (h + 1)).reverse := by rw [take_rev (by omega)]; rfl
    rw [e, show (h : Int) + 1 = ((h + 1 : Nat) : Int) by omega]
    exact ways_l1 g fu (h + 1) (by omega)
theorem ways_l4 {x10 : List Int} {f : Nat → Nat} : ∀ (l : List Nat) (v : Nat), (∀ a ∈ l, a < x10.length ∧ x10.getD a 0 = (f a : Int)) → night_Ways_l4 x10 (natL l) (v : Int) = some (minF f l v : Int)
  | [], v, _ => rfl
  | a :: l, v, h => by
    obtain ⟨h1, h2⟩ := h a (List.mem_cons_self ..)
    rw [natL_cons]; unfold night_Ways_l4
    rw [ixN 0 _ h1, h2, least_eq, b1_some, ways_l4 l _ (fun x hx => h x (List.mem_cons_of_mem _ hx))]
    rfl
theorem ways_l5 {x10 W : List Int} {f w : Nat → Nat} {m B : Nat} : ∀ (l : List Nat) (v : Nat), (∀ a ∈ l, a < x10.length ∧ x10.getD a 0 = (f a : Int) ∧ a < W.length ∧ W.getD a 0 = (w a : Int) ∧ w a ≤ B) → v + l.length * B ≤ 4611686018427387904 → night_Ways_l5 W x10 (m : Int) (natL l) (v : Int) = some ((l.foldl (fun v b => if f b = m then v + w b else v) v : Nat) : Int)
  | [], v, _, _ => rfl
  | a :: l, v, h, hv => by
    obtain ⟨h1, h2, h3, h4, h5⟩ := h a (List.mem_cons_self ..)
    rw [List.length_cons, Nat.succ_mul] at hv
    rw [natL_cons]; unfold night_Ways_l5
    rw [ixN 0 _ h1, h2, List.foldl_cons]
    by_cases hc : f a = m
    · rw [if_pos (by omega), if_pos hc, ixN 0 _ h3, h4, show (v : Int) + (w a : Int) = ((v + w a : Nat) : Int) by omega, gd_t (r64_big (by omega)), ways_l5 l _ (fun x hx => h x (List.mem_cons_of_mem _ hx)) (by omega)]
    · rw [if_neg (by omega), if_neg hc, ways_l5 l _ (fun x hx => h x (List.mem_cons_of_mem _ hx)) (by omega)]
/-- How many explanations have the fewest naps. -/
def waysN (ls hs : List (List Int)) : Nat := (allX ls hs).countP fun s => decide (napsF 0 s = restV ls allB hs 0)
theorem waysN_rev (ls hs : List (List Int)) : waysN ls hs.reverse = waysN ls hs := by
  unfold waysN
  rw [(allX_rev ls hs).countP_eq, List.countP_map, rest_rev]
  apply List.countP_congr
  intro s _
  simp only [Function.comp, napsF_reverse]
/-- The last hour, and those ahead of it. -/
theorem last_rev (g : GoodW ls hs) : hs.reverse = hs.getD (hs.length - 1) [] :: (hs.take (hs.length - 1)).reverse := by
  have h1 := g.h1
  have := take_rev (hs := hs) (h := hs.length - 1) (by omega)
  rwa [show hs.length - 1 + 1 = hs.length by omega, List.take_length] at this
theorem min_rest (g : GoodW ls hs) {s : List Nat} (he : Expl ls hs s) : minF (tabV ls hs.reverse) (fitL ls (hs.getD (hs.length - 1) [])) 100 = restV ls allB hs 0 := by
  have h1 := g.h1
  rw [← tab_rest g he]
  unfold shownV
  have key : ∀ (f k : Nat → Nat) (l : List Nat) (v : Nat), (∀ a ∈ l, f a = k a) → minF f l v = minF k l v := fun f k l => by
    induction l with
    | nil => intro v _; rfl
    | cons x l ih =>
      intro v h
      show minF f l (min v (f x)) = minF k l (min v (k x))
      rw [h x (List.mem_cons_self ..)]
      exact ih _ (fun a ha => h a (List.mem_cons_of_mem _ ha))
  refine key _ _ _ _ fun a ha => ?_
  rw [tabT_at (by omega) ha, Int.toNat_natCast, show hs.length - 1 + 1 = hs.length by omega, List.take_length]
theorem waysN_eq (g : GoodW ls hs) {s : List Nat} (he : Expl ls hs s) : (fitL ls (hs.getD (hs.length - 1) [])).foldl (fun v b => if tabV ls hs.reverse b = restV ls allB hs 0 then v + wayV ls hs.reverse b else v) 0 = waysN ls hs := by
  have hm := min_rest g he
  rw [← waysN_rev]
  unfold waysN
  rw [rest_rev, fold_sum, Nat.zero_add]
  have e := last_rev g
  generalize restV ls allB hs 0 = m at hm ⊢
  generalize hms : hs.getD (hs.length - 1) [] = ms at hm e ⊢
  generalize (hs.take (hs.length - 1)).reverse = r at e
  rw [e, countP_cons]
  congr 1
  apply List.map_congr_left
  intro b hb
  rw [e] at hm
  have h1 := minF_mem (tabV ls (ms :: r)) (fitL ls ms) 100 b hb
  have h2 := way_part (ls := ls) (m := m) (n := 0) (wayV_eq r ms b) 0 (by omega) (fun _ _ => rfl)
  rw [Nat.add_zero] at h2
  rw [h2]
  apply List.countP_congr
  intro t _
  rw [decide_eq_true_iff, decide_eq_true_iff, napsR_eq, Nat.zero_add]
theorem Ways_ok (g : GoodW ls hs) {s : List Nat} (he : Expl ls hs s) : night_Ways ls hs = some ((waysN ls hs : Int), 0) := by
  obtain ⟨c, h1, _⟩ := opened_ok g
  have hh1 := g.h1; have h8 := g.h8; have h6 := g.n6
  have hp := pow_le64 g.n6
  have e := last_rev g
  have hx : ∀ a ∈ fitL ls (hs.getD (hs.length - 1) []), a < ((tabT ls hs hs.length).getD (hs.length - 1) []).length ∧ ((tabT ls hs hs.length).getD (hs.length - 1) []).getD a 0 = (tabV ls hs.reverse a : Int) := fun a ha => by
    refine ⟨by rw [tabT_row (by omega)]; exact (mem_fitL.1 ha).1, ?_⟩
    rw [tabT_at (by omega) ha, show hs.length - 1 + 1 = hs.length by omega, List.take_length]
  have hw : ∀ a ∈ fitL ls (hs.getD (hs.length - 1) []), a < (wRow ls hs.reverse).length ∧ (wRow ls hs.reverse).getD a 0 = (wayV ls hs.reverse a : Int) ∧ wayV ls hs.reverse a ≤ 281474976710656 := fun a ha => by
    have ha2 := (mem_fitL.1 ha).1
    refine ⟨by rw [wRow_len]; omega, by rw [e, wRow_get (by omega), if_pos ha], ?_⟩
    rw [e]
    refine Nat.le_trans (wayV_le h6 _ _ a) (pow8 ?_)
    rw [List.length_reverse, List.length_take]; omega
  have hl1 : night_Ways_l1 ls hs (hs.map (rowOf ls)) (tabT ls hs hs.length) hs.length 0 (List.replicate 64 0) = some (wRow ls hs.reverse) := ways_l1 g hs.length 0 (by omega)
  have hfl := fitL_len ls (hs.getD (hs.length - 1) [])
  unfold night_Ways
  rw [h1, b2_some, if_neg (by decide), b4_some, clash_false g he, b1_some, if_neg (by decide), table_eq g, b1_some, gd_t ⟨r64_small (by omega), r64_small (by omega)⟩, toNat_sub00]
  rw [hl1, b1_some, tabT_len, gd_t (r64_small (by omega)), show (hs.length : Int) - 1 = ((hs.length - 1 : Nat) : Int) by omega, ixN [] _ (by rw [tabT_len]; omega), gd_t (r64_nat (by omega)), fit_eq g (by omega), b1_some, show (100 : Int) = ((100 : Nat) : Int) from rfl, ways_l4 _ _ hx, b1_some, gd_t (r64_nat (by omega)), min_rest g he, b1_some, show (0 : Int) = ((0 : Nat) : Int) from rfl, ways_l5 (f := tabV ls hs.reverse) (w := wayV ls hs.reverse) (B := 281474976710656) _ 0 (fun a ha => ⟨(hx a ha).1, (hx a ha).2, hw a ha⟩) (by
    have : (fitL ls (hs.getD (hs.length - 1) [])).length * 281474976710656 ≤ 64 * 281474976710656 := Nat.mul_le_mul_right _ (by omega)
    omega), b1_some, waysN_eq g he]
end
end Go.Proofs.Ytjgeaaganpkceaa.Nt
