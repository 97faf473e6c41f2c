/- Layer 5: explanations that are tried; the fewest naps are told (NightExplained); in plain Lean. -/
import Derived.Test.YtjgeaaganpkceaaZbQE
namespace Go.Proofs.Ytjgeaaganpkceaa.Nt
open Go.PL
theorem lones_all : ∀ x : Fin 64, oyezlaw05_ones ((x.val : Nat) : Int) = some ((pop x.val : Nat) : Int) := by decide +kernel
theorem lones_eq {x : Nat} (h : x < 64) : oyezlaw05_ones (x : Int) = some (pop x : Int) := lones_all ⟨x, h⟩
theorem lnaps_l1 : ∀ (s : List Nat) (n b : Nat), b < 64 → (∀ a ∈ s, a < 64) → n + 6 * s.length ≤ 10000 → oyezlaw05_naps_l1 (natL s) (n : Int) (b : Int) = some ((n + napsF b s : Nat) : Int)
  | [], n, b, _, _, _ => rfl
  | a :: s, n, b, hb, hl, hn => by
    have ha := hl a (List.mem_cons_self ..)
    have hf := fal_le b a
    rw [List.length_cons] at hn
    rw [natL_cons]; unfold oyezlaw05_naps_l1
    rw [bandn_nat (by omega) (by omega), lones_eq (dif_lt (n := 6) ha), b1_some]
    have e : ((n : Int) + ((pop (dif a b) : Nat) : Int)) = ((n + fal b a : Nat) : Int) := by
      show _ = ((n + pop (dif a b) : Nat) : Int)
      omega
    rw [e, gd_t (r64_nat (by omega)), lnaps_l1 s _ a ha (fun x hx => hl x (List.mem_cons_of_mem _ hx)) (by omega)]
    show some ((n + fal b a + napsF a s : Nat) : Int) = some ((n + (fal b a + napsF a s) : Nat) : Int)
    rw [Nat.add_assoc]
theorem lnaps_eq {s : List Nat} (hl : ∀ a ∈ s, a < 64) (h : s.length ≤ 100) : oyezlaw05_naps (natL s) = some (napsF 0 s : Int) := by
  unfold oyezlaw05_naps
  have := lnaps_l1 s 0 0 (by decide) hl (by omega)
  rw [Nat.zero_add] at this
  rw [show (0 : Int) = ((0 : Nat) : Int) from rfl, this, b1_some]
theorem Expl.mem {ls : List (List Int)} : ∀ {hs : List (List Int)} {s : List Nat}, Expl ls hs s → ∀ a ∈ s, a < 2 ^ ls.length
  | [], [], _, _, h => nomatch h
  | _ :: _, _ :: _, h, a, ha => by
    rcases List.mem_cons.1 ha with rfl | ha
    · exact h.1.1
    · exact Expl.mem h.2 a ha
  | [], _ :: _, h, _, _ => h.elim
  | _ :: _, [], h, _, _ => h.elim
section
variable {ls hs : List (List Int)}
theorem naps_l2 (g : GoodW ls hs) : ∀ (tl : List (List Int)) (s : List Nat) (h n b : Nat), hs.drop h = tl → Expl ls tl s → b < 64 → n + 6 * s.length ≤ 10000 → night_Naps_l2 ls hs (hs.map (rowOf ls)) (natL s) (h : Int) (n : Int) (b : Int) = some (((n + napsF b s : Nat) : Int), 0)
  | [], [], h, n, b, _, _, _, _ => rfl
  | ms :: tl, a :: s, h, n, b, hd, he, hb, hn => by
    have hp := pow_le64 g.n6
    have h6 := g.n6
    have hk : h < hs.length := by
      rcases Nat.lt_or_ge h hs.length with h' | h'
      · exact h'
      · rw [List.drop_eq_nil_of_le h'] at hd; cases hd
    have hg : hs.getD h [] = ms := by
      rw [List.drop_eq_getElem_cons hk] at hd
      rw [List.getD_eq_getElem?_getD, List.getElem?_eq_getElem hk]
      exact (List.cons.inj hd).1
    have hd2 : hs.drop (h + 1) = tl := by
      rw [List.drop_eq_getElem_cons hk] at hd
      exact (List.cons.inj hd).2
    have hf := fal_le b a
    have ha := he.1.1
    rw [List.length_cons] at hn
    rw [natL_cons]; unfold night_Naps_l2
    rw [sets_eq (by omega), b1_some, gd_t (r64_nat1 (by omega)), in_eq, b1_some, if_neg (in_set ha), desk_fits g hk ha, b1_some, hg, he.1.2, if_neg (by decide), fallen_eq hb (by omega), b1_some, gd_t (r64_small (by omega)), show (h : Int) + 1 = ((h + 1 : Nat) : Int) by omega, show (n : Int) + (fal b a : Int) = ((n + fal b a : Nat) : Int) by omega, naps_l2 g tl s (h + 1) _ a hd2 he.2 (by omega) (by omega)]
    show some (((n + fal b a + napsF a s : Nat) : Int), (0 : Int)) = some (((n + (fal b a + napsF a s) : Nat) : Int), 0)
    rw [Nat.add_assoc]
  | [], _ :: _, _, _, _, _, h, _, _ => h.elim
  | _ :: _, [], _, _, _, _, h, _, _ => h.elim
theorem Naps_ok (g : GoodW ls hs) {s : List Nat} (he : Expl ls hs s) : night_Naps ls hs (natL s) = some ((napsF 0 s : Int), 0) := by
  obtain ⟨c, h1, _⟩ := opened_ok g
  have h8 := g.h8
  have hl := he.len
  have := naps_l2 g hs s 0 0 0 rfl he (by decide) (by omega)
  rw [Nat.zero_add] at this
  unfold night_Naps
  rw [h1, b2_some, if_neg (by decide), if_neg (by simp [natL]; omega), b4_some, show (0 : Int) = ((0 : Nat) : Int) from rfl, this]; rfl
theorem tried_l4 (g : GoodW ls hs) {x : List Int} (hx : x.length ≤ 50) : ∀ (fu a : Nat), a < 2 ^ ls.length → ∃ a' : Nat, a' < 2 ^ ls.length ∧ oyezlaw05_tried_l4 ls hs x fu (a : Int) = some (a' : Int)
  | 0, a, ha => ⟨a, ha, rfl⟩
  | fu + 1, a, ha => by
    have hp := pow_le64 g.n6
    have h6 := g.n6
    have hp0 : 0 < 2 ^ ls.length := Nat.pow_pos (by decide)
    unfold oyezlaw05_tried_l4
    rw [lfits_eq (lt63 ha h6) g.small (by omega) hx, b1_some]
    by_cases hf : fitB ls x a = true
    · rw [if_pos hf]; exact ⟨a, ha, rfl⟩
    · have e : Int.tmod ((a : Int) + 1) (((2 ^ ls.length : Nat) : Int)) = (((a + 1) % 2 ^ ls.length : Nat) : Int) := by
        rw [show (a : Int) + 1 = ((a + 1 : Nat) : Int) by omega, Int.tmod_eq_emod_of_nonneg (Int.natCast_nonneg _), ← Int.natCast_emod]
      rw [if_neg hf, gd_t (r64_small (by omega)), gd_t (shl_r (by omega)), shl_nat, gd_t (by omega), bvE, e]
      exact tried_l4 g hx fu _ (Nat.mod_lt _ hp0)
variable {metal : List Int}
theorem tried_l2 (g : GoodW ls hs) (hm : (metal.length : Int) ≤ 9223372036854775807) : ∀ (tl pre : List (List Int)) (a t : Int) (s : List Nat) (b : Nat), hs = pre ++ tl → BellA metal a → Expl ls pre s → b < 2 ^ ls.length →
    ∃ s' ok a' t', oyezlaw05_tried_l2 metal ls hs tl a t (natL s) (b : Int) = some (natL s', ok, a', t') ∧ BellA metal a' ∧ (ok = true → Expl ls hs s')
  | [], pre, a, t, s, b, hd, ha, he, _ => ⟨s, true, a, t, rfl, ha, fun _ => by rw [hd, List.append_nil]; exact he⟩
  | ms :: tl, pre, a, t, s, b, hd, ha, he, hb => by
    have hp := pow_le64 g.n6
    have h6 := g.n6
    have h8 := g.h8
    have hp0 : 0 < 2 ^ ls.length := Nat.pow_pos (by decide)
    have hms : ms ∈ hs := by rw [hd]; simp
    have hl := he.len
    have hlen : pre.length + (tl.length + 1) = hs.length := by rw [hd]; simp
    unfold oyezlaw05_tried_l2
    obtain ⟨v, a1, t1, e1, g1⟩ := seldom_ok (t := t) (n := 3) ha hm (by omega)
    have key : ∃ a2 t2 c, (b3 (oyezkit_Bell_Seldom metal a t 3) fun ok at_2 turn2 => if ok = true then (gd ((0 ≤ ((ls.length : Int) : Int) ∧ ((ls.length : Int) : Int) < 64) ∧ R64 (shl 1 (ls.length : Int))) <| gd (R64 ((shl 1 (ls.length : Int)) - 1)) <| b3 (oyezkit_Bell_Stroke metal at_2 turn2 ((shl 1 (ls.length : Int)) - 1)) fun n at_3 turn3 => some (at_3, turn3, n)) else some (at_2, turn2, (b : Int))) = some (a2, t2, ((c : Nat) : Int)) ∧ BellA metal a2 ∧ c < 2 ^ ls.length := by
      rw [e1, b3_some]
      cases v with
      | true =>
        rw [if_pos rfl, gd_t (shl_r (by omega)), shl_nat, gd_t (r64_nat1 (by omega))]
        obtain ⟨n, a2, t2, e2, k1, k2, k3⟩ := stroke_ok (t := t1) (n := ((2 ^ ls.length : Nat) : Int) - 1) g1 hm (by omega)
        obtain ⟨n, rfl⟩ := Int.eq_ofNat_of_zero_le k1
        rw [e2, b3_some]
        exact ⟨a2, t2, n, rfl, k3, by omega⟩
      | false => exact ⟨a1, t1, b, if_neg (by decide), g1, hb⟩
    obtain ⟨a2, t2, c, e2, k1, k2⟩ := key
    obtain ⟨c2, k3, e3⟩ := tried_l4 g (x := ms) (g.le50 ms hms) (2 ^ ls.length) c k2
    rw [e2, b3_some, gd_t (shl_r (by omega)), shl_nat, gd_t ⟨r64_small (by omega), r64_nat (by omega)⟩, toNat_sub00, e3, b1_some, lfits_eq (lt63 k3 h6) g.small (by omega) (g.le50 ms hms), b1_some]
    cases hf : fitB ls ms c2 with
    | false => rw [if_pos (by decide)]; exact ⟨[], false, a2, t2, rfl, k1, fun h => nomatch h⟩
    | true =>
      rw [if_neg (by decide), ap_t (by simp [natL]; omega)]
      unfold oyezlaw05_tried_j3
      have e4 : natL s ++ [(c2 : Int)] = natL (s ++ [c2]) := by simp [natL]
      rw [e4]
      exact tried_l2 g hm tl (pre ++ [ms]) a2 t2 (s ++ [c2]) c2 (by rw [hd]; simp) k1 (Expl.snoc ⟨k3, hf⟩ he) k3
theorem tried_ok (g : GoodW ls hs) (hm : (metal.length : Int) ≤ 9223372036854775807) {a t : Int} (ha : BellA metal a) : ∃ s' ok a' t', oyezlaw05_tried metal a t ls hs = some (natL s', ok, a', t') ∧ BellA metal a' ∧ (ok = true → Expl ls hs s') := by
  unfold oyezlaw05_tried
  exact tried_l2 g hm hs [] a t [] 0 rfl ha trivial (Nat.pow_pos (by decide))
end
theorem cmp_eq (x y : Int) : cmp_Compare_int x y = some (if x < y then -1 else if y < x then 1 else 0) := by
  unfold cmp_Compare_int cmp_isNaN_int
  rw [b1_some, b1_some, if_neg (by simp), if_neg (by simp)]
  split
  · rfl
  · split <;> rfl
theorem compare_l2 {s1 s2 : List Nat} (hl : s1.length = s2.length) : ∀ (tl u : List Nat) (k : Nat), s2.drop k = u → tl.length = u.length → lexLe u tl → ∃ n : Int, 0 ≤ n ∧ slices_Compare_int_int_l2 (natL s1) (natL s2) (natL tl) (k : Int) = some n
  | [], u, k, _, _, _ => by
    refine ⟨0, Int.le_refl _, ?_⟩
    show slices_Compare_int_int_l2 (natL s1) (natL s2) [] (k : Int) = some 0
    unfold slices_Compare_int_int_l2 slices_Compare_int_int_j1
    rw [if_neg (by simp [natL]; omega)]
  | x :: tl, [], k, _, h, _ => by simp at h
  | x :: tl, y :: u, k, hd, hu, hx => by
    have hk : k < s2.length := by
      rcases Nat.lt_or_ge k s2.length with h' | h'
      · exact h'
      · rw [List.drop_eq_nil_of_le h'] at hd; cases hd
    have hg : (natL s2)[k]? = some (y : Int) := by
      rw [List.drop_eq_getElem_cons hk] at hd
      unfold natL
      rw [List.getElem?_map, List.getElem?_eq_getElem hk, (List.cons.inj hd).1]; rfl
    have hd2 : s2.drop (k + 1) = u := by
      rw [List.drop_eq_getElem_cons hk] at hd
      exact (List.cons.inj hd).2
    rw [natL_cons]; unfold slices_Compare_int_int_l2
    rw [if_neg (by simp [natL]; omega), ix_t (by omega) (by rw [Int.toNat_natCast]; exact hg), cmp_eq, b1_some]
    rcases hx with h | ⟨h, h2⟩
    · refine ⟨1, by omega, ?_⟩
      have ev : (if (x : Int) < (y : Int) then (-1 : Int) else if (y : Int) < (x : Int) then 1 else 0) = 1 := by rw [if_neg (by omega), if_pos (by omega)]
      rw [ev, if_pos (by decide)]
    · obtain ⟨n, h3, h4⟩ := compare_l2 hl tl u (k + 1) hd2 (by simpa using hu) h2
      refine ⟨n, h3, ?_⟩
      have ev : (if (x : Int) < (y : Int) then (-1 : Int) else if (y : Int) < (x : Int) then 1 else 0) = 0 := by rw [if_neg (by omega), if_neg (by omega)]
      rw [ev, if_neg (by decide), show (k : Int) + 1 = ((k + 1 : Nat) : Int) by omega]
      exact h4
theorem compare_ge {s t : List Nat} (hl : s.length = t.length) (h : lexLe t s) : ∃ n : Int, 0 ≤ n ∧ slices_Compare_int_int (natL s) (natL t) = some n := by
  unfold slices_Compare_int_int
  exact compare_l2 hl s t 0 rfl hl h
section
variable {ls hs : List (List Int)} {metal : List Int}
theorem expl_l3 (g : GoodW ls hs) (hm : (metal.length : Int) ≤ 9223372036854775807) : ∀ (fu : Nat) (a t : Int) (L : List (List Nat)), BellA metal a → L.length + fu ≤ 100 → (∀ s ∈ L, Expl ls hs s) → ∃ L' : List (List Nat), oyezlaw05_NightExplained_l3 ls hs metal fu a t (L.map natL) = some (L'.map natL) ∧ ∀ s ∈ L', Expl ls hs s
  | 0, a, t, L, _, _, h => ⟨L, rfl, h⟩
  | fu + 1, a, t, L, ha, hl, h => by
    unfold oyezlaw05_NightExplained_l3
    obtain ⟨s', ok, a1, t1, e1, g1, g2⟩ := tried_ok (t := t) g hm ha
    rw [e1, b4_some]
    cases ok with
    | true =>
      have e2 : L.map natL ++ [natL s'] = (L ++ [s']).map natL := by simp
      rw [if_pos rfl, ap_t (by simp; omega), e2]
      exact expl_l3 g hm fu a1 t1 (L ++ [s']) g1 (by simp; omega) (fun x hx => by
        rcases List.mem_append.1 hx with h1 | h1
        · exact h x h1
        · rw [List.mem_singleton] at h1; rw [h1]; exact g2 rfl)
    | false => rw [if_neg (by decide)]; exact expl_l3 g hm fu a1 t1 L g1 (by omega) h
theorem expl_l5 (g : GoodW ls hs) {s1 : List Nat} (f : FirstOK ls allB hs 0 s1) : ∀ (L : List (List Nat)), (∀ s ∈ L, Expl ls hs s) → oyezlaw05_NightExplained_l5 ls hs (natL s1) (napsF 0 s1 : Int) (L.map natL) = some true
  | [], _ => by
    rw [List.map_nil]; unfold oyezlaw05_NightExplained_l5 oyezlaw05_NightExplained_j4
    rw [awake_true]; rfl
  | s :: L, h => by
    have hp := pow_le64 g.n6
    have h8 := g.h8
    have he := h s (List.mem_cons_self ..)
    have h1 := restV_le ls allB hs 0 s ⟨he, fun _ _ => rfl⟩
    have hl := he.len
    have hl1 := f.ex.1.len
    rw [List.map_cons]; unfold oyezlaw05_NightExplained_l5
    rw [Naps_ok g he, b2_some, if_neg (by decide), lnaps_eq (fun a ha => by have := he.mem a ha; omega) (by omega), b1_some, if_neg (by simp), if_neg (by have := f.naps; omega)]
    by_cases hc : ((napsF 0 s : Nat) : Int) = ((napsF 0 s1 : Nat) : Int)
    · obtain ⟨n, h2, h3⟩ := compare_ge (s := s) (t := s1) (by omega) (f.lex s ⟨he, fun _ _ => rfl⟩ (by have := f.naps; omega))
      rw [if_pos hc, h3, b1_some, b1_some, if_neg (by rw [decide_eq_true_iff]; omega)]
      exact expl_l5 g f L (fun x hx => h x (List.mem_cons_of_mem _ hx))
    · rw [if_neg hc, b1_some, if_neg (by decide)]
      exact expl_l5 g f L (fun x hx => h x (List.mem_cons_of_mem _ hx))
theorem expl_j1 (g : GoodW ls hs) (hm : (metal.length : Int) ≤ 9223372036854775807) {a t : Int} (ha : BellA metal a) {real s1 : List Nat} (he : Expl ls hs real) (f : FirstOK ls allB hs 0 s1) : oyezlaw05_NightExplained_j1 ls hs (natL real) metal a t (natL s1) (napsF 0 s1 : Int) (tabT ls hs hs.length) = some true := by
  obtain ⟨L, e1, h1⟩ := expl_l3 g hm (Int.toNat (6 - 0)) a t [real] ha (by simp) (fun s hs => by rw [List.mem_singleton] at hs; rw [hs]; exact he)
  unfold oyezlaw05_NightExplained_j1
  rw [Shows_ok g (tab_shape g he) he, if_pos (tab_holds g), b2_some, if_neg (by decide), tab_rest g he, b1_some, if_neg (by rw [decide_eq_true_iff, f.naps]; simp), gd_t ⟨by unfold R64; omega, by unfold R64; omega⟩]
  have e2 : [natL real] = [real].map natL := rfl
  rw [e2, e1, b1_some]
  exact expl_l5 g f L h1
theorem expl_l2 (g : GoodW ls hs) (hm : (metal.length : Int) ≤ 9223372036854775807) {a t : Int} (ha : BellA metal a) {real s1 : List Nat} (he : Expl ls hs real) (f : FirstOK ls allB hs 0 s1) : ∀ (tl : List (List Int)) (s : List Nat) (h : Nat), hs.drop h = tl → Expl ls tl s → oyezlaw05_NightExplained_l2 ls hs (natL real) metal a t (natL s1) (napsF 0 s1 : Int) (tabT ls hs hs.length) (natL s) (h : Int) = some true
  | [], [], h, _, _ => by
    show oyezlaw05_NightExplained_l2 ls hs (natL real) metal a t (natL s1) (napsF 0 s1 : Int) (tabT ls hs hs.length) [] (h : Int) = some true
    unfold oyezlaw05_NightExplained_l2
    exact expl_j1 g hm ha he f
  | ms :: tl, x :: s, h, hd, hx => by
    have hp := pow_le64 g.n6
    have h6 := g.n6
    have hk : h < hs.length := by
      rcases Nat.lt_or_ge h hs.length with h' | h'
      · exact h'
      · rw [List.drop_eq_nil_of_le h'] at hd; cases hd
    have hg : hs.getD h [] = ms := by
      rw [List.drop_eq_getElem_cons hk] at hd
      rw [List.getD_eq_getElem?_getD, List.getElem?_eq_getElem hk]
      exact (List.cons.inj hd).1
    have hd2 : hs.drop (h + 1) = tl := by
      rw [List.drop_eq_getElem_cons hk] at hd
      exact (List.cons.inj hd).2
    have hmem : ms ∈ hs := by rw [← hg, List.getD_eq_getElem?_getD, List.getElem?_eq_getElem hk]; exact List.getElem_mem hk
    have hxa := hx.1.1
    rw [natL_cons]; unfold oyezlaw05_NightExplained_l2
    rw [if_neg (by omega), gd_t (shl_r (by omega)), shl_nat, if_neg (by omega), ixN [] _ hk, hg, lfits_eq (lt63 hxa h6) g.small (by omega) (g.le50 ms hmem), b1_some, hx.1.2, b1_some, if_neg (by decide), show (h : Int) + 1 = ((h + 1 : Nat) : Int) by omega]
    exact expl_l2 g hm ha he f tl s (h + 1) hd2 hx.2
  | [], _ :: _, _, _, h => h.elim
  | _ :: _, [], _, _, h => h.elim
end
/-- NightExplained. -/
theorem explained_true {numbers tries : List Int} (h1 : (numbers.length : Int) ≤ 9223372036854775807) (h2 : (tries.length : Int) ≤ 9223372036854775807) : oyezlaw05_NightExplained numbers tries = some true := by
  unfold oyezlaw05_NightExplained oyezkit_Hang
  obtain ⟨ls, hs, real, a, t, e, g, he, _⟩ := made_ok (metal := numbers) (t := 0) (a := 0) (men := 5) (hours := 7) ⟨by omega, by omega⟩ h1 (by omega) (by omega)
  obtain ⟨s1, h3, f⟩ := Fewest_ok g he
  have hp := pow_le64 g.n6
  have h8 := g.h8
  have hl := f.ex.1.len
  rw [b3_some, e, b5_some, b3_some, h3, b3_some, Table_ok g he, b2_some, if_neg (by decide), if_neg (by decide), if_neg (by simp [natL]; omega), lnaps_eq (fun a ha => by have := f.ex.1.mem a ha; omega) (by omega), b1_some, b1_some, if_neg (by simp), show (0 : Int) = ((0 : Nat) : Int) from rfl]
  exact expl_l2 g h2 ⟨by omega, by omega⟩ he f hs s1 0 rfl f.ex.1
end Go.Proofs.Ytjgeaaganpkceaa.Nt
