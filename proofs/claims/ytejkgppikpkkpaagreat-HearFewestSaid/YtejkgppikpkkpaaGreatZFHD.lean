/- Layer 1: the reference's tables. -/
import Derived.Test.YtejkgppikpkkpaaGreatZFHC
namespace Go.Proofs.YtejkgppikpkkpaaGreat
open Go.PL Go.Hear
/-- Plots that are told are no walls. -/
theorem Walk.open' {wide : Int} {ps : List Int} {w s : Int} (hs : ps.getD s.toNat 0 ≠ 2) {p d : Int} (h : Walk (nextL wide ps w) s p d) : ps.getD p.toNat 0 ≠ 2 := by
  cases h with
  | here => exact hs
  | step _ h2 =>
    obtain ⟨_, _, _, _, _, h, _⟩ := mem_nextL.1 h2
    exact h
section
variable {n : Nat} {E : Int → List (Int × Int)} {s : Int}
/-- A step that betters a table. -/
theorem better (hE : EOK n E) {p q m : Int} (hp : 0 ≤ p ∧ p < n) (hx : (q, m) ∈ E p) {out : List Int} (hW : Wk n E s out) (hpo : at' out p ≠ -1) (hc : at' out q = -1 ∨ at' out p + m < at' out q) :
    Wk n E s (out.set q.toNat (at' out p + m)) ∧ mu n (out.set q.toNat (at' out p + m)) < mu n out := by
  let line := ((List.range n).map Int.ofNat).filter fun x => at' out x ≠ -1
  have hmem : ∀ p' : Int, 0 ≤ p' → p' < n → at' out p' ≠ -1 → p' ∈ line := fun p' h0 h1 h2 =>
    List.mem_filter.2 ⟨List.mem_map.2 ⟨p'.toNat, List.mem_range.2 (by omega), by show ((p'.toNat : Nat) : Int) = p'; omega⟩, by simpa using h2⟩
  have hL : Ln n out line := ⟨fun p' hp' => by
    obtain ⟨h1, h2⟩ := List.mem_filter.1 hp'
    obtain ⟨k, h3, rfl⟩ := List.mem_map.1 h1
    have := List.mem_range.1 h3
    exact ⟨⟨Int.natCast_nonneg k, by show ((k : Nat) : Int) < n; omega⟩, by simpa using h2⟩⟩
  obtain ⟨h1, _, _, _, h5⟩ := relax_ok hE hp hx hW hL hpo (pre := []) (fun y hy => by simp at hy) (fun p' h0 h1 h2 => .inl (hmem p' h0 h1 h2))
  have e : relax p (out, line) (q, m) = (out.set q.toNat (at' out p + m), line ++ [q]) := if_pos hc
  rw [e] at h1 h5
  simp only [List.length_append, List.length_singleton] at h5
  exact ⟨h1, by omega⟩
end
theorem rneeds_l1 (n : Nat) (hn : n ≤ 1000) (fu : Nat) : ∀ k : Nat, k ≤ n → n - k < fu → oyezref01_Needs_l1 fu (fillN n k) (k : Int) = some (fillN n n) := by
  induction fu with
  | zero => intro k hk h; omega
  | succ fu ih =>
    intro k hk h
    unfold oyezref01_Needs_l1
    have hl : (fillN n k).length = n := by simp [fillN]; omega
    by_cases hkn : k = n
    · subst hkn
      rw [if_neg (by rw [hl]; omega)]
    · rw [if_pos (by rw [hl]; omega), ix_get _ (by omega) (by rw [hl]; omega)]
      rw [bvE]
      rw [gd_t (r64_small (by omega)), show (k : Int).toNat = k from rfl, fillN_set (by omega)]
      exact ih (k + 1) (by omega) (by omega)
/-- What a step from p to q would better. -/
def okPair (wide : Int) (ps : List Int) (w : Int) (out : List Int) (p q : Int) : Prop := at' out p ≠ -1 → ∀ m, (q, m) ∈ nextL wide ps w p → okStep out p (q, m)
section
variable {wide : Int} {ps : List Int} {w s : Int}
theorem rneeds_l4 (ho : openE wide ps w = 0) (hs : ps.getD s.toNat 0 ≠ 2) {p : Int} (hp : 0 ≤ p ∧ p < ps.length) : ∀ (fu : Nat) (out : List Int) (ch : Bool) (q : Nat), q ≤ ps.length → ps.length - q < fu → Wk ps.length (nextL wide ps w) s out →
    ∃ out' ch', oyezref01_Needs_l4 wide ps w p fu out ch (q : Int) = some (out', ch') ∧ Wk ps.length (nextL wide ps w) s out' ∧
      ((ch' = ch ∧ out' = out ∧ ∀ q' : Int, (q : Int) ≤ q' → q' < ps.length → okPair wide ps w out p q') ∨ (ch' = true ∧ mu ps.length out' < mu ps.length out))
  | 0, _, _, _, _, h, _ => by omega
  | fu + 1, out, ch, q, hq, h, hW => by
    have hn := (openE_ok ho).2.1
    have hl := hW.len
    unfold oyezref01_Needs_l4
    by_cases hqn : q = ps.length
    · subst hqn
      rw [if_neg (by rw [hl]; omega)]
      exact ⟨out, ch, rfl, hW, .inl ⟨rfl, rfl, fun q' h1 h2 => by omega⟩⟩
    · have hq' : 0 ≤ (q : Int) ∧ (q : Int) < ps.length := by omega
      obtain ⟨v, hv, hv1, hv2⟩ := step_spec ho hp hq'
      rw [if_pos (by rw [hl]; omega), hv, b1_some]
      have r1 := hW.rng' hp.1 hp.2
      have r2 := hW.rng' hq'.1 hq'.2
      have hvb : 0 ≤ v ∧ v ≤ 5 := by rcases hv1 with rfl | hv1 <;> omega
      -- what is decided
      have hcond : (if 0 < v then
          (ix out p fun x3 =>
          if 0 ≤ x3 then
          (ix out (q : Int) fun x4 =>
          if x4 < 0 then
          (some true)
          else
          (gd (R64 (x3 + v)) <|
          some (decide ((x3 + v) < x4))))
          else
          (some false))
          else
          (some false)) = some (decide (0 < v ∧ at' out p ≠ -1 ∧ (at' out q = -1 ∨ at' out p + v < at' out q))) := by
        unfold at'
        rw [ix_get _ hp.1 (by rw [hl]; exact hp.2), ix_get _ hq'.1 (by rw [hl]; exact hq'.2), gd_t (r64_small (by omega))]
        by_cases c0 : 0 < v
        · rw [if_pos c0]
          by_cases c1 : 0 ≤ out.getD p.toNat 0
          · rw [if_pos c1]
            by_cases c2 : out.getD (q : Int).toNat 0 < 0
            · rw [if_pos c2, decide_eq_true ⟨c0, by omega, .inl (by omega)⟩]
            · rw [if_neg c2]; congr 1; rw [decide_eq_decide]; omega
          · rw [if_neg c1, decide_eq_false (by omega)]
        · rw [if_neg c0, decide_eq_false (fun h => c0 h.1)]
      rw [hcond, b1_some, ix_get _ hp.1 (by rw [hl]; exact hp.2), ix_get _ hq'.1 (by rw [hl]; exact hq'.2), gd_t (r64_small (by omega))]
      rw [bvE]
      rw [gd_t (r64_small (x := (q : Int) + 1) (by omega)), gd_t (r64_small (x := (q : Int) + 1) (by omega)), show ((q : Int) + 1) = ((q + 1 : Nat) : Int) from rfl]
      by_cases hc : 0 < v ∧ at' out p ≠ -1 ∧ (at' out q = -1 ∨ at' out p + v < at' out q)
      · rw [if_pos (decide_eq_true hc)]
        have hE := nextL_ok ho
        have hm := (hv1.resolve_left (by omega)).2.2.2
        obtain ⟨h1, h2⟩ := better hE hp hm hW hc.2.1 hc.2.2
        obtain ⟨out', ch', h3, h4, h5⟩ := rneeds_l4 ho hs hp fu _ true (q + 1) (by omega) (by omega) h1
        refine ⟨out', ch', h3, h4, .inr ?_⟩
        rcases h5 with ⟨rfl, rfl, _⟩ | ⟨rfl, h6⟩
        · exact ⟨rfl, h2⟩
        · exact ⟨rfl, Nat.lt_trans h6 h2⟩
      · rw [if_neg (fun h => hc (of_decide_eq_true h))]
        obtain ⟨out', ch', h3, h4, h5⟩ := rneeds_l4 ho hs hp fu out ch (q + 1) (by omega) (by omega) hW
        refine ⟨out', ch', h3, h4, ?_⟩
        rcases h5 with ⟨rfl, rfl, h6⟩ | h6
        · refine .inl ⟨rfl, rfl, fun q' h7 h8 => ?_⟩
          by_cases he : q' = q
          · subst he
            intro hpo m hm
            have hop : ps.getD p.toNat 0 ≠ 2 := by
              rcases hW.ge p hp.1 hp.2 with h9 | h9
              · exact absurd h9 hpo
              · exact Walk.open' hs h9.2.2
            have e := hv2 m hm hop
            subst e
            have hE := nextL_ok ho p _ _ hm
            show at' out' (q : Int) ≠ -1 ∧ at' out' (q : Int) ≤ at' out' p + v
            refine ⟨fun h => hc ⟨by omega, hpo, .inl h⟩, ?_⟩
            exact Int.not_lt.1 fun h => hc ⟨by omega, hpo, .inr h⟩
          · exact h6 q' (by omega) h8
        · exact .inr h6
theorem rneeds_l3 (ho : openE wide ps w = 0) (hs : ps.getD s.toNat 0 ≠ 2) (rec2 : List Int → Bool → Option (List Int)) : ∀ (fu : Nat) (out : List Int) (ch : Bool) (p : Nat), p ≤ ps.length → ps.length - p < fu → Wk ps.length (nextL wide ps w) s out →
    ∃ out' ch', oyezref01_Needs_l3 wide ps w rec2 fu out ch (p : Int) = rec2 out' ch' ∧ Wk ps.length (nextL wide ps w) s out' ∧
      ((ch' = ch ∧ out' = out ∧ ∀ p' : Int, (p : Int) ≤ p' → p' < ps.length → ∀ q' : Int, 0 ≤ q' → q' < ps.length → okPair wide ps w out p' q') ∨ (ch' = true ∧ mu ps.length out' < mu ps.length out))
  | 0, _, _, _, _, h, _ => by omega
  | fu + 1, out, ch, p, hp, h, hW => by
    have hn := (openE_ok ho).2.1
    have hl := hW.len
    unfold oyezref01_Needs_l3
    by_cases hpn : p = ps.length
    · subst hpn
      rw [if_neg (by rw [hl]; omega)]
      exact ⟨out, ch, rfl, hW, .inl ⟨rfl, rfl, fun q' h1 h2 => by omega⟩⟩
    · obtain ⟨o1, c1, h1, h2, h3⟩ := rneeds_l4 ho hs (p := (p : Int)) (by omega) FU out ch 0 (by omega) (by unfold FU; omega) hW
      rw [if_pos (by rw [hl]; omega), show (0 : Int) = ((0 : Nat) : Int) from rfl, h1, b2_some, gd_t (r64_small (by omega))]
      obtain ⟨o2, c2, h4, h5, h6⟩ := rneeds_l3 ho hs rec2 fu o1 c1 (p + 1) (by omega) (by omega) h2
      refine ⟨o2, c2, h4, h5, ?_⟩
      rcases h3 with ⟨rfl, rfl, h3⟩ | ⟨rfl, h3⟩
      · rcases h6 with ⟨rfl, rfl, h6⟩ | h6
        · refine .inl ⟨rfl, rfl, fun p' h7 h8 q' h9 h10 => ?_⟩
          by_cases he : p' = p
          · subst he; exact h3 q' (by omega) h10
          · exact h6 p' (by omega) h8 q' h9 h10
        · exact .inr h6
      · rcases h6 with ⟨rfl, rfl, _⟩ | ⟨rfl, h6⟩
        · exact .inr ⟨rfl, h3⟩
        · exact .inr ⟨rfl, Nat.lt_trans h6 h3⟩
theorem rneeds_l2 (ho : openE wide ps w = 0) (hs : ps.getD s.toNat 0 ≠ 2) : ∀ (fu : Nat) (out : List Int), Wk ps.length (nextL wide ps w) s out → mu ps.length out + 1 < fu →
    ∃ t, oyezref01_Needs_l2 wide ps w fu out true = some t ∧ Tab ps.length (nextL wide ps w) s t
  | 0, _, _, h => by omega
  | fu + 1, out, hW, h => by
    have hn := (openE_ok ho).2.1
    unfold oyezref01_Needs_l2
    rw [if_pos rfl]
    obtain ⟨o2, c2, h4, h5, h6⟩ := rneeds_l3 ho hs (oyezref01_Needs_l2 wide ps w fu) FU out false 0 (by omega) (by unfold FU; omega) hW
    rw [show (0 : Int) = ((0 : Nat) : Int) from rfl, h4]
    rcases h6 with ⟨rfl, rfl, h6⟩ | ⟨rfl, h6⟩
    · refine ⟨o2, ?_, Tab.of h5 fun p h0 hpn hpo => .inr fun x hx => ?_⟩
      · cases fu with
        | zero => omega
        | succ fu => unfold oyezref01_Needs_l2; rw [if_neg (by decide)]
      · have hE := nextL_ok ho p x.1 x.2 hx
        exact h6 p (by omega) hpn x.1 hE.1.1 hE.1.2 hpo x.2 hx
    · exact rneeds_l2 ho hs fu o2 h5 (by omega)
end
theorem rNeeds_eq {wide : Int} {ps : List Int} (hn : ps.length ≤ 1000) (w stand : Int) : oyezref01_Needs wide ps w stand = some (if standE wide ps w stand = 0 then tb wide ps w stand else [], standE wide ps w stand) := by
  unfold oyezref01_Needs
  rw [rstand_eq hn, b1_some]
  by_cases h : standE wide ps w stand = 0
  · obtain ⟨ho, hs, hk⟩ := standE_ok h
    have hnn := (openE_ok ho).2.1
    rw [if_neg (not_not_intro h), if_pos h, gd_t (by omega)]
    rw [bvE, Int.toNat_natCast]
    have h0 : oyezref01_Needs_l1 FU (List.replicate ps.length 0) 0 = some (fillN ps.length ps.length) := by
      have := rneeds_l1 ps.length hn FU 0 (by omega) (by unfold FU; omega)
      rw [fillN_zero] at this; exact this
    rw [h0, b1_some, ix_get _ hs.1 (by simp [fillN]; omega), fillN_full]
    obtain ⟨h1, _, _⟩ := start_ok (E := nextL wide ps w) hs
    have h4 := start_mu hnn.2 hs
    obtain ⟨t, ht, hT⟩ := rneeds_l2 ho (s := stand) (by rw [hk]; decide) FU _ h1 (by unfold FU; omega)
    rw [bvE, ht, b1_some, hT.unique (nextL_ok ho) hs (tb_ok ho hs), h]
  · rw [if_pos h, if_neg h]
end Go.Proofs.YtejkgppikpkkpaaGreat
