/- Layer 5: tables that are changed (NightTabled); in plain Lean. -/
import Derived.Test.YtjgeaaganpkceaaZcQI
namespace Go.Proofs.Ytjgeaaganpkceaa.Nt
open Go.PL
section
variable {ls hs : List (List Int)} {T : List (List Int)}
theorem Shape.mem (t : Shape ls hs T) {h : Nat} (hh : h < hs.length) : T.getD h [] ∈ T := by
  have hl : h < T.length := by rw [t.len]; exact hh
  rw [List.getD_eq_getElem?_getD, List.getElem?_eq_getElem hl]
  exact List.getElem_mem hl
theorem Shape.set (t : Shape ls hs T) {h a : Nat} (hh : h < hs.length) {x : Int} (hx : 0 ≤ x ∧ x ≤ 99) : Shape ls hs (T.set h ((T.getD h []).set a x)) := by
  refine ⟨by rw [List.length_set, t.len], fun r hr => ?_, fun r hr y hy => ?_⟩
  · rcases List.mem_or_eq_of_mem_set hr with h1 | rfl
    · exact t.wid r h1
    · rw [List.length_set, t.row hh]
  · rcases List.mem_or_eq_of_mem_set hr with h1 | rfl
    · exact t.rng r h1 y hy
    · rcases List.mem_or_eq_of_mem_set hy with h2 | rfl
      · exact t.rng _ (t.mem hh) y h2
      · exact hx
variable {metal : List Int}
theorem tabled_l6 (g : GoodW ls hs) (hm : (metal.length : Int) ≤ 9223372036854775807) : ∀ (fu : Nat) (a t : Int) (T : List (List Int)), BellA metal a → Shape ls hs T → ∃ a' t' T', oyezlaw05_NightTabled_l6 metal fu a t T = some (a', t', T') ∧ BellA metal a' ∧ Shape ls hs T'
  | 0, a, t, T, ha, hT => ⟨a, t, T, rfl, ha, hT⟩
  | fu + 1, a, t, T, ha, hT => by
    have h1 := g.h1; have h8 := g.h8
    have hp := pow_le64 g.n6
    have hp0 : 0 < 2 ^ ls.length := Nat.pow_pos (by decide)
    have hl := hT.len
    obtain ⟨n, a1, t1, e1, f1, f2, f3⟩ := stroke_ok (t := t) (n := (T.length : Int) - 1) ha hm (by omega)
    obtain ⟨n, rfl⟩ := Int.eq_ofNat_of_zero_le f1
    have hn : n < hs.length := by omega
    have hr := hT.row hn
    obtain ⟨m, a2, t2, e2, k1, k2, k3⟩ := stroke_ok (t := t1) (n := ((T.getD n []).length : Int) - 1) f3 hm (by omega)
    obtain ⟨m, rfl⟩ := Int.eq_ofNat_of_zero_le k1
    have hmn : m < 2 ^ ls.length := by omega
    have hv := hT.val hn hmn
    obtain ⟨x, a3, t3, e3, j1, j2, j3⟩ := strike_ok (t := t2) (lo := -2) (hi := 2) k3 hm (by omega) (by omega)
    unfold oyezlaw05_NightTabled_l6
    rw [gd_t (r64_small (by omega)), e1, b3_some, ixN [] _ (by omega), gd_t (r64_small (by omega)), e2, b3_some, ixN 0 _ (by omega), e3, b3_some, gd_t (r64_small (by omega)), bvE, bvE, Int.toNat_natCast, Int.toNat_natCast]
    exact tabled_l6 g hm fu a3 t3 _ j3 (hT.set hn (by split <;> split at * <;> omega))
theorem tabled_l7 (g : GoodW ls hs) (t : Shape ls hs T) : ∀ (tl : List Int) (k v : Nat), (T.getD (hs.length - 1) []).drop k = tl → oyezlaw05_NightTabled_l7 ls hs T tl (k : Int) (v : Int) = some ((minF (fun a => ((T.getD (hs.length - 1) []).getD a 0).toNat) ((List.range' k tl.length).filter (fitB ls (hs.getD (hs.length - 1) []))) v : Nat) : Int)
  | [], k, v, _ => rfl
  | x :: tl, k, v, hd => by
    have h1 := g.h1; have h8 := g.h8; have h6 := g.n6
    have hp := pow_le64 g.n6
    have hl := t.len
    have hr := t.row (h := hs.length - 1) (by omega)
    have hk : k < (T.getD (hs.length - 1) []).length := by
      rcases Nat.lt_or_ge k (T.getD (hs.length - 1) []).length with h' | h'
      · exact h'
      · rw [List.drop_eq_nil_of_le h'] at hd; cases hd
    have hg : (T.getD (hs.length - 1) []).getD k 0 = x := by
      rw [List.drop_eq_getElem_cons hk] at hd
      rw [List.getD_eq_getElem?_getD, List.getElem?_eq_getElem hk]
      exact (List.cons.inj hd).1
    have hd2 : (T.getD (hs.length - 1) []).drop (k + 1) = tl := by
      rw [List.drop_eq_getElem_cons hk] at hd
      exact (List.cons.inj hd).2
    have hv := t.val (h := hs.length - 1) (a := k) (by omega) (by omega)
    have hmem : hs.getD (hs.length - 1) [] ∈ hs := by rw [List.getD_eq_getElem?_getD, List.getElem?_eq_getElem (by omega)]; exact List.getElem_mem _
    unfold oyezlaw05_NightTabled_l7
    rw [gd_t (r64_small (by omega)), hl, show (hs.length : Int) - 1 = ((hs.length - 1 : Nat) : Int) by omega, ixN [] _ (by omega), lfits_eq (by omega) g.small (by omega) (g.le50 _ hmem), b1_some, List.length_cons, List.range'_succ, show (k : Int) + 1 = ((k + 1 : Nat) : Int) by omega]
    by_cases hf : fitB ls (hs.getD (hs.length - 1) []) k = true
    · obtain ⟨y, hy⟩ := Int.eq_ofNat_of_zero_le hv.1
      have e : (if x < (v : Int) then x else (v : Int)) = ((min v ((T.getD (hs.length - 1) []).getD k 0).toNat : Nat) : Int) := by
        rw [← hg, hy, Int.toNat_natCast]
        split <;> omega
      rw [if_pos hf, bvE, e, tabled_l7 g t tl (k + 1) _ hd2, List.filter_cons_of_pos hf]; rfl
    · rw [if_neg hf, tabled_l7 g t tl (k + 1) v hd2, List.filter_cons_of_neg hf]
theorem minF_cap {f : Nat → Nat} {l : List Nat} {v w : Nat} (hl : ∃ x, x ∈ l) (hv : ∀ x ∈ l, f x ≤ v) (hw : ∀ x ∈ l, f x ≤ w) : minF f l v = minF f l w := by
  have key : ∀ v, (∀ x ∈ l, f x ≤ v) → ∃ x ∈ l, minF f l v = f x := fun v hv => by
    rcases minF_of f l v with h | h
    · obtain ⟨x, hx⟩ := hl
      have := minF_mem f l v x hx
      have := hv x hx
      exact ⟨x, hx, by omega⟩
    · exact h
  obtain ⟨x, h1, h2⟩ := key v hv
  obtain ⟨y, h3, h4⟩ := key w hw
  have := minF_mem f l v y h3
  have := minF_mem f l w x h1
  omega
theorem tabled_l4 (g : GoodW ls hs) {s : List Nat} (he : Expl ls hs s) (hm : (metal.length : Int) ≤ 9223372036854775807) : ∀ (fu : Nat) (a t : Int), BellA metal a → oyezlaw05_NightTabled_l4 ls hs metal (restV ls allB hs 0 : Int) (tabT ls hs hs.length) fu a t = some true
  | 0, a, t, _ => by
    unfold oyezlaw05_NightTabled_l4 oyezlaw05_NightTabled_j3
    rw [awake_true]; rfl
  | fu + 1, a, t, ha => by
    have h1 := g.h1; have h8 := g.h8
    have hp := pow_le64 g.n6
    have hS := tab_shape g he
    have e0 := copyRowsI_eq (L := tabT ls hs hs.length) (by rw [tabT_len]; omega) (fun l hl => by rw [hS.wid l hl]; omega)
    obtain ⟨n, a1, t1, e1, f1, f2, f3⟩ := strike_ok (t := t) (lo := 1) (hi := 5) ha hm (by omega) (by omega)
    obtain ⟨a2, t2, T, e2, f4, hT⟩ := tabled_l6 g hm (Int.toNat (n - 0)) a1 t1 (tabT ls hs hs.length) f3 hS
    have hl := hT.len
    have ih := tabled_l4 g he hm fu a2 t2 f4
    unfold oyezlaw05_NightTabled_l4
    rw [e0, b1_some, e1, b3_some, gd_t ⟨r64_small (by omega), r64_small (by omega)⟩, e2, b3_some, Shows_ok g hT he]
    by_cases hh : holdsT ls hs T = true
    · obtain ⟨s1, q1, q2⟩ := restV_of ls allB hs 0 (expl_rest g he)
      have q3 := shown_le g hT hh q1.1
      have hr := hT.row (h := hs.length - 1) (by omega)
      have hcap : minF (fun a => ((T.getD (hs.length - 1) []).getD a 0).toNat) (fitL ls (hs.getD (hs.length - 1) [])) 99 = shownV ls hs T := by
        have hval : ∀ x ∈ fitL ls (hs.getD (hs.length - 1) []), ((T.getD (hs.length - 1) []).getD x 0).toNat ≤ 99 := fun x hx => by
          have := hT.val (h := hs.length - 1) (by omega) (mem_fitL.1 hx).1
          omega
        refine minF_cap ?_ hval (fun x hx => Nat.le_trans (hval x hx) (by decide))
        have hrev := he.rev
        rw [last_rev g] at hrev
        cases hc : s.reverse with
        | nil => rw [hc] at hrev; exact hrev.elim
        | cons x r => rw [hc] at hrev; exact ⟨x, mem_fitL.2 hrev.1⟩
      have h7 := tabled_l7 g hT (T.getD (hs.length - 1) []) 0 99 rfl
      rw [hr, ← List.range_eq_range'] at h7
      have h7' : oyezlaw05_NightTabled_l7 ls hs T (T.getD (hs.length - 1) []) 0 99 = some (shownV ls hs T : Int) := by rw [← hcap]; exact h7
      rw [if_pos hh, b2_some, if_neg (fun h => h rfl), gd_t (r64_small (by omega)), show (T.length : Int) - 1 = ((hs.length - 1 : Nat) : Int) by omega, ixN [] _ (by omega), h7', b1_some, if_neg (by omega), b1_some, if_neg (by simp)]
      exact ih
    · rw [if_neg hh, b2_some, if_pos (by decide), if_neg (by decide)]
      exact ih
theorem tabled_l2 (g : GoodW ls hs) {s : List Nat} (he : Expl ls hs s) (hm : (metal.length : Int) ≤ 9223372036854775807) {a t : Int} (ha : BellA metal a) : ∀ tl : List (List Int), (∀ r ∈ tl, r.length = 2 ^ ls.length) → oyezlaw05_NightTabled_l2 ls hs metal a t (restV ls allB hs 0 : Int) (tabT ls hs hs.length) tl = some true
  | [], _ => by
    unfold oyezlaw05_NightTabled_l2 oyezlaw05_NightTabled_j1
    rw [gd_t ⟨by unfold R64; omega, by unfold R64; omega⟩]
    exact tabled_l4 g he hm _ a t ha
  | r :: tl, h => by
    have h6 := g.n6
    have hr := h r (List.mem_cons_self ..)
    unfold oyezlaw05_NightTabled_l2
    rw [gd_t (shl_r (by omega)), shl_nat, if_neg (by omega)]
    exact tabled_l2 g he hm ha tl (fun x hx => h x (List.mem_cons_of_mem _ hx))
end
/-- NightTabled. -/
theorem tabled_true {numbers changes : List Int} (h1 : (numbers.length : Int) ≤ 9223372036854775807) (h2 : (changes.length : Int) ≤ 9223372036854775807) : oyezlaw05_NightTabled numbers changes = some true := by
  unfold oyezlaw05_NightTabled oyezkit_Hang
  obtain ⟨ls, hs, real, a, t, e, g, he, _⟩ := made_ok (metal := numbers) (t := 0) (a := 0) (men := 4) (hours := 6) ⟨by omega, by omega⟩ h1 (by omega) (by omega)
  obtain ⟨l, h3⟩ := Fewest_n g he
  rw [b3_some, e, b5_some, b3_some, h3, b3_some, Table_ok g he, b2_some, if_neg (fun h => h rfl), if_neg (fun h => h rfl), tabT_len, b1_some, if_neg (by simp)]
  exact tabled_l2 g he h2 ⟨by omega, by omega⟩ _ (tab_shape g he).wid
end Go.Proofs.Ytjgeaaganpkceaa.Nt
