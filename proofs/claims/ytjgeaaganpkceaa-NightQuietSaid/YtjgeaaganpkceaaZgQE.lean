/- Layer 5: tables of naps, what they show; in plain Lean. -/
import Derived.Test.YtjgeaaganpkceaaZgQD
namespace Go.Proofs.Ytjgeaaganpkceaa.Nt
open Go.PL
def napsR : List Nat → Nat
  | [] => 0
  | a :: r => fal (r.headD 0) a + napsR r
theorem napsR_app : ∀ (s pre : List Nat), napsR (s.reverse ++ pre) = napsF (pre.headD 0) s + napsR pre
  | [], pre => by simp [napsF]
  | a :: s, pre => by
    rw [List.reverse_cons, List.append_assoc, List.singleton_append, napsR_app s (a :: pre)]
    show napsF a s + (fal (pre.headD 0) a + napsR pre) = fal (pre.headD 0) a + napsF a s + napsR pre
    omega
theorem napsF_rev (s : List Nat) : napsF 0 s = napsR s.reverse := by
  have := napsR_app s []
  rw [List.append_nil] at this
  rw [this]; rfl
theorem Expl.app {ls : List (List Int)} {hs2 : List (List Int)} {s2 : List Nat} (h2 : Expl ls hs2 s2) : ∀ {hs : List (List Int)} {s : List Nat}, Expl ls hs s → Expl ls (hs ++ hs2) (s ++ s2)
  | [], [], _ => h2
  | _ :: _, _ :: _, h => ⟨h.1, Expl.app h2 h.2⟩
  | [], _ :: _, h => h.elim
  | _ :: _, [], h => h.elim
theorem Expl.rev {ls : List (List Int)} : ∀ {hs : List (List Int)} {s : List Nat}, Expl ls hs s → Expl ls hs.reverse s.reverse
  | [], [], _ => trivial
  | _ :: _, _ :: _, h => by
    rw [List.reverse_cons, List.reverse_cons]
    exact Expl.app (hs2 := [_]) (s2 := [_]) ⟨h.1, trivial⟩ (Expl.rev h.2)
  | [], _ :: _, h => h.elim
  | _ :: _, [], h => h.elim
theorem Expl.of_rev {ls : List (List Int)} {hs : List (List Int)} {s : List Nat} (h : Expl ls hs.reverse s) : Expl ls hs s.reverse := by
  have := h.rev
  rwa [List.reverse_reverse] at this
def minF (f : Nat → Nat) (l : List Nat) (v : Nat) : Nat := l.foldl (fun v x => min v (f x)) v
theorem minF_le (f : Nat → Nat) : ∀ (l : List Nat) (v : Nat), minF f l v ≤ v
  | [], _ => Nat.le_refl _
  | x :: l, v => Nat.le_trans (minF_le f l (min v (f x))) (Nat.min_le_left ..)
theorem minF_mem (f : Nat → Nat) : ∀ (l : List Nat) (v x : Nat), x ∈ l → minF f l v ≤ f x
  | [], _, _, h => nomatch h
  | y :: l, v, x, h => by
    rcases List.mem_cons.1 h with rfl | h
    · exact Nat.le_trans (minF_le f l (min v (f x))) (Nat.min_le_right ..)
    · exact minF_mem f l (min v (f y)) x h
theorem minF_of (f : Nat → Nat) : ∀ (l : List Nat) (v : Nat), minF f l v = v ∨ ∃ x ∈ l, minF f l v = f x
  | [], _ => .inl rfl
  | y :: l, v => by
    show minF f l (min v (f y)) = v ∨ ∃ x ∈ y :: l, minF f l (min v (f y)) = f x
    rcases minF_of f l (min v (f y)) with h | ⟨x, hx, h⟩
    · rcases Nat.le_total v (f y) with h3 | h3
      · exact .inl (by rw [h, Nat.min_eq_left h3])
      · exact .inr ⟨y, List.mem_cons_self .., by rw [h, Nat.min_eq_right h3]⟩
    · exact .inr ⟨x, List.mem_cons_of_mem _ hx, h⟩
theorem pop_fal (a : Nat) : pop a = fal 0 a := by
  unfold fal
  congr 1
  apply Nat.eq_of_testBit_eq
  intro i
  rw [bit_dif, Nat.zero_testBit]; simp
/-- The fewest naps up to an hour, if a set sleeps in it; the hours from this one back. -/
def tabV (ls : List (List Int)) : List (List Int) → Nat → Nat
  | [], _ => 0
  | [_], a => pop a
  | _ :: ms :: r, a => minF (fun b => tabV ls (ms :: r) b + fal b a) (fitL ls ms) 100
theorem tabV_le {ls : List (List Int)} : ∀ (r : List (List Int)) (ms : List Int) (a : Nat) (s : List Nat), Expl ls r s → tabV ls (ms :: r) a ≤ napsR (a :: s)
  | [], ms, a, [], _ => by
    show pop a ≤ fal 0 a + 0
    rw [pop_fal]; omega
  | ms' :: r, ms, a, b :: s, h => by
    have h1 := minF_mem (fun b => tabV ls (ms' :: r) b + fal b a) (fitL ls ms') 100 b (mem_fitL.2 h.1)
    have h2 := tabV_le r ms' b s h.2
    show minF (fun b => tabV ls (ms' :: r) b + fal b a) (fitL ls ms') 100 ≤ fal b a + napsR (b :: s)
    have h1' : minF (fun b => tabV ls (ms' :: r) b + fal b a) (fitL ls ms') 100 ≤ tabV ls (ms' :: r) b + fal b a := h1
    omega
  | [], _, _, _ :: _, h => h.elim
  | _ :: _, _, _, [], h => h.elim
theorem tabV_of {ls : List (List Int)} : ∀ (r : List (List Int)) (ms : List Int) (a : Nat), tabV ls (ms :: r) a < 100 → ∃ s, Expl ls r s ∧ napsR (a :: s) = tabV ls (ms :: r) a
  | [], ms, a, _ => ⟨[], trivial, by show fal 0 a + 0 = pop a; rw [pop_fal]; omega⟩
  | ms' :: r, ms, a, h => by
    have e : tabV ls (ms :: ms' :: r) a = minF (fun b => tabV ls (ms' :: r) b + fal b a) (fitL ls ms') 100 := rfl
    rcases minF_of (fun b => tabV ls (ms' :: r) b + fal b a) (fitL ls ms') 100 with h1 | ⟨b, hb, h1⟩
    · rw [e, h1] at h; omega
    · rw [← e] at h1
      obtain ⟨s, h2, h3⟩ := tabV_of (ls := ls) r ms' b (by omega)
      exact ⟨b :: s, ⟨mem_fitL.1 hb, h2⟩, by
        show fal b a + napsR (b :: s) = _
        rw [h3, h1]; omega⟩
theorem tabV_100 {ls : List (List Int)} : ∀ (r : List (List Int)) (a : Nat), tabV ls r a ≤ 100
  | [], _ => by unfold tabV; omega
  | [_], a => by unfold tabV; have := pop_le a; omega
  | _ :: _ :: _, _ => minF_le _ _ _
/-- A row of the table. -/
def tRow (ls : List (List Int)) : List (List Int) → List Int
  | [] => []
  | ms :: r => (fitL ls ms).foldl (fun row a => row.set a (tabV ls (ms :: r) a : Int)) (List.replicate (2 ^ ls.length) 0)
theorem foldset_len (f : Nat → Int) : ∀ (l : List Nat) (z : List Int), (l.foldl (fun row a => row.set a (f a)) z).length = z.length
  | [], _ => rfl
  | a :: l, z => by rw [List.foldl_cons, foldset_len f l, List.length_set]
theorem foldset_get (f : Nat → Int) : ∀ (l : List Nat) (z : List Int) (i : Nat), i < z.length → (l.foldl (fun row a => row.set a (f a)) z).getD i 0 = if i ∈ l then f i else z.getD i 0
  | [], _, _, _ => by simp
  | a :: l, z, i, hi => by
    rw [List.foldl_cons, foldset_get f l _ i (by rw [List.length_set]; exact hi)]
    by_cases h1 : i ∈ l
    · rw [if_pos h1, if_pos (List.mem_cons_of_mem _ h1)]
    · rw [if_neg h1]
      by_cases h2 : a = i
      · subst h2
        rw [getD_set_same hi, if_pos (List.mem_cons_self ..)]
      · rw [getD_set_ne h2, if_neg (fun h => by
          rcases List.mem_cons.1 h with h | h
          · exact h2 h.symm
          · exact h1 h)]
theorem tRow_len {ls : List (List Int)} {ms : List Int} {r : List (List Int)} : (tRow ls (ms :: r)).length = 2 ^ ls.length := by
  unfold tRow; rw [foldset_len, List.length_replicate]
theorem tRow_get {ls : List (List Int)} {ms : List Int} {r : List (List Int)} {a : Nat} (ha : a < 2 ^ ls.length) : (tRow ls (ms :: r)).getD a 0 = if a ∈ fitL ls ms then (tabV ls (ms :: r) a : Int) else 0 := by
  unfold tRow
  rw [foldset_get _ _ _ _ (by rw [List.length_replicate]; exact ha)]
  congr 1
  rw [List.getD_eq_getElem?_getD, List.getElem?_replicate_of_lt ha]; rfl
theorem natL_cons (a : Nat) (l : List Nat) : natL (a :: l) = (a : Int) :: natL l := rfl
section
variable {ls hs : List (List Int)}
theorem table_l3 (g : GoodW ls hs) {out : List (List Int)} {h a : Nat} {ms' : List Int} {r : List (List Int)} (ho : out.length = h + 1) (hh : h < 100) (hR : out.getD h [] = tRow ls (ms' :: r)) (ha : a < 2 ^ ls.length) {row : List Int} (hr : row.length = 2 ^ ls.length) {rec2 : List Int → Option (List Int)} :
    ∀ (l : List Nat) (v : Nat), (∀ b ∈ l, b ∈ fitL ls ms') → night_desk_table_l3 out ((h + 1 : Nat) : Int) (a : Int) rec2 (natL l) (row.set a (v : Int)) = rec2 (row.set a ((minF (fun b => tabV ls (ms' :: r) b + fal b a) l v : Nat) : Int))
  | [], v, _ => rfl
  | b :: l, v, hl => by
    have hp := pow_le64 g.n6
    have hb := hl b (List.mem_cons_self ..)
    have hb2 := (mem_fitL.1 hb).1
    have h1 := tabV_100 (ls := ls) (ms' :: r) b
    have h2 := fal_le b a
    rw [natL_cons]; unfold night_desk_table_l3
    rw [ixN 0 _ (by rw [List.length_set]; omega), getD_set_same (by omega), gd_t (r64_small (by omega)), show ((h + 1 : Nat) : Int) - 1 = (h : Int) by omega, ixN [] _ (by omega), hR, ixN 0 _ (by rw [tRow_len]; exact hb2), tRow_get hb2, if_pos hb, fallen_eq (by omega) (by omega), b1_some, gd_t (r64_small (by omega)), least_eq', b1_some, bvE, Int.toNat_natCast, set_set]
    exact table_l3 g ho hh hR ha hr l _ (fun x hx => hl x (List.mem_cons_of_mem _ hx))
theorem table_l2 (g : GoodW ls hs) {out : List (List Int)} {h : Nat} {ms : List Int} {r : List (List Int)} (hh : h < hs.length) (ho : out.length = h) (h0 : r = [] → h = 0) (hR : ∀ ms' r', r = ms' :: r' → 0 < h ∧ hs.getD (h - 1) [] = ms' ∧ out.getD (h - 1) [] = tRow ls r) :
    ∀ (l : List Nat) (row : List Int), (∀ a ∈ l, a < 2 ^ ls.length) → row.length = 2 ^ ls.length → night_desk_table_l2 ls hs (hs.map (rowOf ls)) out (h : Int) (natL l) row = some (l.foldl (fun row a => row.set a (tabV ls (ms :: r) a : Int)) row)
  | [], row, _, _ => rfl
  | a :: l, row, hl, hr => by
    have hp := pow_le64 g.n6
    have h8 := g.h8
    have ha := hl a (List.mem_cons_self ..)
    have ih := table_l2 (ms := ms) g hh ho h0 hR l
    rw [natL_cons, List.foldl_cons]; unfold night_desk_table_l2
    cases r with
    | nil =>
      rw [if_pos (by have := h0 rfl; omega), ones_eq (by omega), b1_some, ixN 0 _ (by omega), bvE, Int.toNat_natCast, ih _ (fun x hx => hl x (List.mem_cons_of_mem _ hx)) (by rw [List.length_set]; exact hr)]
      rfl
    | cons ms' r' =>
      obtain ⟨p1, p2, p3⟩ := hR ms' r' rfl
      have hpos : h = (h - 1) + 1 := by omega
      have h3 := table_l3 (out := out) (h := h - 1) (a := a) (row := row) (rec2 := night_desk_table_l2 ls hs (hs.map (rowOf ls)) out (h : Int) (natL l)) g (by omega) (by omega) p3 ha hr (fitL ls ms') 100 (fun b hb => hb)
      rw [← hpos] at h3
      rw [if_neg (by omega), ixN 0 _ (by omega), bvE, Int.toNat_natCast, gd_t (r64_small (by omega)), show (h : Int) - 1 = ((h - 1 : Nat) : Int) by omega, fit_eq g (by omega), b1_some, p2, show (100 : Int) = ((100 : Nat) : Int) from rfl, h3]
      exact ih _ (fun x hx => hl x (List.mem_cons_of_mem _ hx)) (by rw [List.length_set]; exact hr)
/-- The table of the hours up to one. -/
def tabT (ls hs : List (List Int)) (m : Nat) : List (List Int) := (List.range m).map fun h => tRow ls (hs.take (h + 1)).reverse
theorem tabT_len (ls hs : List (List Int)) (m : Nat) : (tabT ls hs m).length = m := by simp [tabT]
theorem tabT_get {h m : Nat} (hh : h < m) : (tabT ls hs m).getD h [] = tRow ls (hs.take (h + 1)).reverse := by
  unfold tabT
  rw [List.getD_eq_getElem?_getD, List.getElem?_map, List.getElem?_range hh]; rfl
theorem take_rev {h : Nat} (hh : h < hs.length) : (hs.take (h + 1)).reverse = hs.getD h [] :: (hs.take h).reverse := by
  rw [List.take_add_one, List.getElem?_eq_getElem hh, List.reverse_append, List.getD_eq_getElem?_getD, List.getElem?_eq_getElem hh]; rfl
theorem table_l1 (g : GoodW ls hs) : ∀ (tl : List (List Int)) (h : Nat), hs.drop h = tl → night_desk_table_l1 ls hs (hs.map (rowOf ls)) tl (h : Int) (tabT ls hs h) = some (tabT ls hs (h + tl.length))
  | [], h, _ => rfl
  | ms :: tl, h, hd => by
    have hp := pow_le64 g.n6
    have h6 := g.n6
    have h8 := g.h8
    have hk : h < hs.length := by
      rcases Nat.lt_or_ge h hs.length with h' | h'
      · exact h'
      · rw [List.drop_eq_nil_of_le h'] at hd; cases hd
    have hg : hs.getD h [] = ms := by
      rw [List.drop_eq_getElem_cons hk] at hd
      rw [List.getD_eq_getElem?_getD, List.getElem?_eq_getElem hk]
      exact (List.cons.inj hd).1
    have hd2 : hs.drop (h + 1) = tl := by
      rw [List.drop_eq_getElem_cons hk] at hd
      exact (List.cons.inj hd).2
    have h2 := table_l2 (out := tabT ls hs h) (ms := ms) (r := (hs.take h).reverse) g hk (tabT_len ..) (fun he => by
      have : (hs.take h).length = 0 := by rw [← List.length_reverse, he]; rfl
      rw [List.length_take] at this; omega) (fun ms' r' he => by
      have hpos : 0 < h := by
        rcases Nat.eq_zero_or_pos h with h0 | h0
        · subst h0; simp at he
        · exact h0
      have e := take_rev (hs := hs) (h := h - 1) (by omega)
      rw [show h - 1 + 1 = h by omega] at e
      refine ⟨hpos, ?_, ?_⟩
      · rw [e] at he; exact (List.cons.inj he).1
      · rw [tabT_get (by omega), show h - 1 + 1 = h by omega]) (fitL ls ms) (List.replicate (2 ^ ls.length) 0) (fun a ha => (mem_fitL.1 ha).1) List.length_replicate
    unfold night_desk_table_l1
    rw [sets_eq (by omega), b1_some, gd_t ⟨Int.natCast_nonneg _, by omega⟩, bvE, Int.toNat_natCast, fit_eq g hk, b1_some, hg, h2, b1_some, ap_t (by simp [tabT_len]; omega), b1_some]
    have e2 : tabT ls hs h ++ [(fitL ls ms).foldl (fun row a => row.set a (tabV ls (ms :: (hs.take h).reverse) a : Int)) (List.replicate (2 ^ ls.length) 0)] = tabT ls hs (h + 1) := by
      unfold tabT
      rw [List.range_succ, List.map_append, List.map_singleton, take_rev hk, hg]; rfl
    rw [e2, show (h : Int) + 1 = ((h + 1 : Nat) : Int) by omega, table_l1 g tl (h + 1) hd2, List.length_cons, show h + 1 + tl.length = h + (tl.length + 1) by omega]
theorem table_eq (g : GoodW ls hs) : night_desk_table ls hs (hs.map (rowOf ls)) = some (tabT ls hs hs.length) := by
  unfold night_desk_table
  have := table_l1 g hs 0 rfl
  rw [Nat.zero_add] at this
  rw [show (0 : Int) = ((0 : Nat) : Int) from rfl, show ([] : List (List Int)) = tabT ls hs 0 from rfl, this, b1_some]
/-- Does the table hold at a set of an hour? -/
def okAt (ls hs : List (List Int)) (T : List (List Int)) (h a : Nat) : Bool :=
  if h = 0 then decide ((T.getD h []).getD a 0 ≤ (pop a : Int)) else (fitL ls (hs.getD (h - 1) [])).all fun b => decide ((T.getD h []).getD a 0 ≤ (T.getD (h - 1) []).getD b 0 + (fal b a : Int))
structure Shape (ls hs : List (List Int)) (T : List (List Int)) : Prop where
  len : T.length = hs.length
  wid : ∀ r ∈ T, r.length = 2 ^ ls.length
  rng : ∀ r ∈ T, ∀ x ∈ r, 0 ≤ x ∧ x ≤ 99
variable {T : List (List Int)}
theorem Shape.row (t : Shape ls hs T) {h : Nat} (hh : h < hs.length) : (T.getD h []).length = 2 ^ ls.length := by
  have hl : h < T.length := by rw [t.len]; exact hh
  rw [List.getD_eq_getElem?_getD, List.getElem?_eq_getElem hl]
  exact t.wid _ (List.getElem_mem hl)
theorem Shape.val (t : Shape ls hs T) {h a : Nat} (hh : h < hs.length) (ha : a < 2 ^ ls.length) : 0 ≤ (T.getD h []).getD a 0 ∧ (T.getD h []).getD a 0 ≤ 99 := by
  have hl : h < T.length := by rw [t.len]; exact hh
  have hr := t.row hh
  refine t.rng (T.getD h []) ?_ _ ?_
  · rw [List.getD_eq_getElem?_getD, List.getElem?_eq_getElem hl]; exact List.getElem_mem hl
  · rw [List.getD_eq_getElem?_getD (l := T.getD h []), List.getElem?_eq_getElem (by omega)]; exact List.getElem_mem _
def holdsB (ls hs : List (List Int)) (T : List (List Int)) (h : Nat) : Bool := (fitL ls (hs.getD h [])).all (okAt ls hs T h)
/-- The least number of the last hour. -/
def shownV (ls hs : List (List Int)) (T : List (List Int)) : Nat := minF (fun a => ((T.getD (hs.length - 1) []).getD a 0).toNat) (fitL ls (hs.getD (hs.length - 1) [])) 100
def holdsT (ls hs : List (List Int)) (T : List (List Int)) : Bool := (List.range hs.length).all (holdsB ls hs T)
/-- No table that holds shows more than an explanation has. -/
theorem holds_le (g : GoodW ls hs) (t : Shape ls hs T) (hT : holdsT ls hs T = true) : ∀ (h : Nat), h < hs.length → ∀ (a : Nat) (s : List Nat), Expl ls (hs.take (h + 1)).reverse (a :: s) → (T.getD h []).getD a 0 ≤ (napsR (a :: s) : Int)
  | 0, hh, a, s, he => by
    have h1 := List.all_eq_true.1 hT 0 (List.mem_range.2 hh)
    rw [take_rev hh] at he
    have h2 := List.all_eq_true.1 h1 a (mem_fitL.2 he.1)
    have h3 : (T.getD 0 []).getD a 0 ≤ (pop a : Int) := of_decide_eq_true h2
    have h4 : s = [] := by
      have := he.2.len
      simp at this; exact this
    rw [h4]
    show _ ≤ ((fal 0 a + 0 : Nat) : Int)
    rw [← pop_fal]; omega
  | h + 1, hh, a, s, he => by
    have h1 := List.all_eq_true.1 hT (h + 1) (List.mem_range.2 hh)
    rw [take_rev hh] at he
    have h2 := List.all_eq_true.1 h1 a (mem_fitL.2 he.1)
    unfold okAt at h2
    rw [if_neg (by omega)] at h2
    cases s with
    | nil =>
      have := he.2.len
      rw [List.length_reverse, List.length_take] at this
      simp at this
      omega
    | cons b s =>
      have he2 := he.2
      have hb : b ∈ fitL ls (hs.getD h []) := by
        rw [take_rev (by omega)] at he2
        exact mem_fitL.2 he2.1
      have h3 := of_decide_eq_true (List.all_eq_true.1 h2 b hb)
      have h4 := holds_le g t hT h (by omega) b s he2
      rw [Nat.add_sub_cancel] at h3
      show _ ≤ ((fal b a + napsR (b :: s) : Nat) : Int)
      omega
theorem shown_le (g : GoodW ls hs) (t : Shape ls hs T) (hT : holdsT ls hs T = true) {s : List Nat} (he : Expl ls hs s) : shownV ls hs T ≤ napsF 0 s := by
  have h1 := g.h1
  have hr := he.rev
  have hl : hs.reverse = (hs.take (hs.length - 1 + 1)).reverse := by rw [show hs.length - 1 + 1 = hs.length by omega, List.take_length]
  rw [hl] at hr
  cases hc : s.reverse with
  | nil =>
    have := he.len
    have h2 : s.length = 0 := by rw [← List.length_reverse, hc]; rfl
    omega
  | cons a r =>
    rw [hc] at hr
    have h3 := holds_le g t hT (hs.length - 1) (by omega) a r hr
    rw [take_rev (by omega)] at hr
    have h4 := minF_mem (fun a => ((T.getD (hs.length - 1) []).getD a 0).toNat) (fitL ls (hs.getD (hs.length - 1) [])) 100 a (mem_fitL.2 hr.1)
    have h5 := t.val (h := hs.length - 1) (by omega) (mem_fitL.1 (mem_fitL.2 hr.1)).1
    rw [napsF_rev, hc]
    unfold shownV
    have h4' : minF (fun a => ((T.getD (hs.length - 1) []).getD a 0).toNat) (fitL ls (hs.getD (hs.length - 1) [])) 100 ≤ ((T.getD (hs.length - 1) []).getD a 0).toNat := h4
    omega
/-- With an explanation of all hours each number of the table is small. -/
theorem tab_small (g : GoodW ls hs) {s : List Nat} (he : Expl ls hs s) {h : Nat} (hh : h < hs.length) (a : Nat) : tabV ls (hs.take (h + 1)).reverse a ≤ 48 := by
  have h8 := g.h8
  rw [take_rev hh]
  have hpre : ∀ (hs : List (List Int)) (s : List Nat) (m : Nat), Expl ls hs s → Expl ls (hs.take m) (s.take m) := by
    intro hs
    induction hs with
    | nil => intro s m h; cases s with
      | nil => rw [List.take_nil, List.take_nil]; exact trivial
      | cons _ _ => exact h.elim
    | cons ms hs ih => intro s m h; cases s with
      | nil => exact h.elim
      | cons x s =>
        cases m with
        | zero => exact trivial
        | succ m => exact ⟨h.1, ih s m h.2⟩
  have h1 := (hpre hs s h he).rev
  have h2 := tabV_le (ls := ls) _ (hs.getD h []) a _ h1
  have hR : ∀ s : List Nat, napsR s ≤ 6 * s.length := fun s => by
    induction s with
    | nil => exact Nat.le_refl _
    | cons x s ih => have := fal_le (s.headD 0) x; unfold napsR; rw [List.length_cons]; omega
  have h3 := hR (a :: (s.take h).reverse)
  rw [List.length_cons, List.length_reverse, List.length_take] at h3
  omega
theorem tab_shape (g : GoodW ls hs) {s : List Nat} (he : Expl ls hs s) : Shape ls hs (tabT ls hs hs.length) := by
  refine ⟨tabT_len .., fun r hr => ?_, fun r hr x hx => ?_⟩
  · unfold tabT at hr
    obtain ⟨h, hh, rfl⟩ := List.mem_map.1 hr
    rw [take_rev (List.mem_range.1 hh), tRow_len]
  · unfold tabT at hr
    obtain ⟨h, hh, rfl⟩ := List.mem_map.1 hr
    have hh2 := List.mem_range.1 hh
    have hs2 := tab_small g he hh2
    rw [take_rev hh2] at hx hs2
    obtain ⟨i, hi, e⟩ := List.getElem_of_mem hx
    have hi2 : i < 2 ^ ls.length := by rw [tRow_len] at hi; exact hi
    have h3 := tRow_get (ls := ls) (ms := hs.getD h []) (r := (hs.take h).reverse) hi2
    rw [List.getD_eq_getElem?_getD, List.getElem?_eq_getElem hi, Option.getD_some, e] at h3
    rw [h3]
    have := hs2 i
    split <;> omega
theorem tab_holds (_g : GoodW ls hs) : holdsT ls hs (tabT ls hs hs.length) = true := by
  refine List.all_eq_true.2 fun h hh => List.all_eq_true.2 fun a ha => ?_
  have hh2 := List.mem_range.1 hh
  have ha2 := (mem_fitL.1 ha).1
  unfold okAt
  have e1 : ((tabT ls hs hs.length).getD h []).getD a 0 = (tabV ls (hs.take (h + 1)).reverse a : Int) := by
    rw [tabT_get hh2, take_rev hh2, tRow_get ha2, if_pos ha]
  by_cases h0 : h = 0
  · subst h0
    rw [if_pos rfl, e1, take_rev hh2]
    exact decide_eq_true (by show ((pop a : Nat) : Int) ≤ _; omega)
  · rw [if_neg h0]
    refine List.all_eq_true.2 fun b hb => decide_eq_true ?_
    have hb2 := (mem_fitL.1 hb).1
    have e2 : ((tabT ls hs hs.length).getD (h - 1) []).getD b 0 = (tabV ls (hs.take (h - 1 + 1)).reverse b : Int) := by
      rw [tabT_get (by omega), take_rev (by omega), tRow_get hb2, if_pos hb]
    rw [e1, e2, take_rev hh2]
    have e3 : (hs.take h).reverse = hs.getD (h - 1) [] :: (hs.take (h - 1)).reverse := by
      have := take_rev (hs := hs) (h := h - 1) (by omega)
      rwa [show h - 1 + 1 = h by omega] at this
    rw [show h - 1 + 1 = h by omega, e3]
    have := minF_mem (fun b => tabV ls (hs.getD (h - 1) [] :: (hs.take (h - 1)).reverse) b + fal b a) (fitL ls (hs.getD (h - 1) [])) 100 b hb
    have h4 : tabV ls (hs.getD h [] :: hs.getD (h - 1) [] :: (hs.take (h - 1)).reverse) a ≤ tabV ls (hs.getD (h - 1) [] :: (hs.take (h - 1)).reverse) b + fal b a := this
    omega
theorem tab_shown (g : GoodW ls hs) {s : List Nat} (he : Expl ls hs s) : ∃ s1, Expl ls hs s1 ∧ napsF 0 s1 = shownV ls hs (tabT ls hs hs.length) := by
  have h1 := g.h1
  have hsm := shown_le g (tab_shape g he) (tab_holds g) he
  have h2 := napsF_le 0 s
  have h3 := he.len
  have h8 := g.h8
  rcases minF_of (fun a => (((tabT ls hs hs.length).getD (hs.length - 1) []).getD a 0).toNat) (fitL ls (hs.getD (hs.length - 1) [])) 100 with h4 | ⟨a, ha, h4⟩
  · have h5 : shownV ls hs (tabT ls hs hs.length) = 100 := h4
    omega
  · have h5 : shownV ls hs (tabT ls hs hs.length) = (((tabT ls hs hs.length).getD (hs.length - 1) []).getD a 0).toNat := h4
    rw [tabT_get (by omega), take_rev (by omega), tRow_get (mem_fitL.1 ha).1, if_pos ha, Int.toNat_natCast] at h5
    obtain ⟨r, h6, h7⟩ := tabV_of (ls := ls) (hs.take (hs.length - 1)).reverse (hs.getD (hs.length - 1) []) a (by omega)
    have h8 : Expl ls (hs.getD (hs.length - 1) [] :: (hs.take (hs.length - 1)).reverse) (a :: r) := ⟨mem_fitL.1 ha, h6⟩
    rw [← take_rev (by omega), show hs.length - 1 + 1 = hs.length by omega, List.take_length] at h8
    refine ⟨(a :: r).reverse, Expl.of_rev h8, ?_⟩
    rw [napsF_rev, List.reverse_reverse, h7, h5]
theorem tab_rest (g : GoodW ls hs) {s : List Nat} (he : Expl ls hs s) : shownV ls hs (tabT ls hs hs.length) = restV ls allB hs 0 := by
  obtain ⟨s1, h1, h2⟩ := tab_shown g he
  have h3 := restV_le ls allB hs 0 s1 ⟨h1, fun _ _ => rfl⟩
  obtain ⟨s2, h4, h5⟩ := restV_of ls allB hs 0 (expl_rest g he)
  have h6 := shown_le g (tab_shape g he) (tab_holds g) h4.1
  omega
end
end Go.Proofs.Ytjgeaaganpkceaa.Nt
