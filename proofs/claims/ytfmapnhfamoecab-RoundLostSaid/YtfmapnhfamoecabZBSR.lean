/- The round that serves a set and ends first; in plain Lean. -/
import Derived.Test.YtfmapnhfamoecabZBSQ
import Derived.Test.YtfmapnhfamoecabZBRv
namespace Go.Proofs.Ytfmapnhfamoecab.Rd
open Go.PL Go.Proofs.Ytfmapnhfamoecab.Rv
theorem rev_l1 {xs : List (Int × Int)} (hn : xs.length ≤ 1000) : ∀ (m fu k : Nat), xs.length - 2 * k ≤ m → m < fu → k ≤ xs.length →
    slices_Reverse_round_Cry_round_Cry_l1 fu (revK (0, 0) xs k) (k : Int) ((xs.length : Int) - 1 - (k : Int)) = some xs.reverse
  | _, 0, _, _, h, _ => by omega
  | m, fu + 1, k, h1, h2, h3 => by
    unfold slices_Reverse_round_Cry_round_Cry_l1
    by_cases c : (k : Int) < (xs.length : Int) - 1 - (k : Int)
    · obtain ⟨j, hj⟩ : ∃ j : Nat, j = xs.length - 1 - k := ⟨_, rfl⟩
      have hji : (xs.length : Int) - 1 - (k : Int) = (j : Int) := by omega
      have hl := revK_len ((0, 0) : Int × Int) xs k
      have hl2 : ((revK ((0, 0) : Int × Int) xs k).set k ((revK ((0, 0) : Int × Int) xs k).getD j (0, 0))).length = xs.length := by rw [List.length_set, hl]
      have hx3 : ∀ w : Int × Int, (w.1, w.2) = w := fun w => rfl
      rw [if_pos c, hji, ixN (0, 0) _ (by omega), ixN (0, 0) _ (by omega), hx3, hx3, bvE, Int.toNat_natCast, ixN (0, 0) _ (by omega), bvE, Int.toNat_natCast, revK_step (d := (0, 0)) hj (by omega), gd_t (r64_small (by omega)), gd_t (r64_small (by omega)), show (k : Int) + 1 = ((k + 1 : Nat) : Int) from rfl, show (j : Int) - 1 = (xs.length : Int) - 1 - ((k + 1 : Nat) : Int) by omega]
      cases m with
      | zero => omega
      | succ m => exact rev_l1 hn m fu (k + 1) (by omega) (by omega) (by omega)
    · rw [if_neg c, revK_end (by omega)]
theorem reverse_eq {xs : List (Int × Int)} (hn : xs.length ≤ 1000) : slices_Reverse_round_Cry_round_Cry xs = some xs.reverse := by
  unfold slices_Reverse_round_Cry_round_Cry
  have h := rev_l1 hn xs.length FU 0 (by omega) (by unfold FU; omega) (Nat.zero_le _)
  rw [revK_zero] at h
  rw [gd_t (r64_small (by omega))]
  rw [show (xs.length : Int) - 1 - ((0 : Nat) : Int) = (xs.length : Int) - 1 by omega] at h
  exact h
section
variable {ws hs : List (List Int)} {H st : Int} {ns : List (List Int × Int × Int)} {c : List Int} {ps : List (Int × Int)} {hit : List Int} {bd : Nat → Int} {ok : Int × Int → Option Bool} {v0 : Nat}
theorem Pth.len {S : Nat} {start : Int} {l : List (Int × Int)} {s : Int} {v : Nat} {t : Int} (h : Pth c ns hit bd S start v0 l s v t) : l.length + v ≤ v0 := by
  induction h with
  | nil => simp
  | snoc h hk hs hn hne hv ih =>
    rename_i l k v s n t
    have := dif_le v (hb hit s n)
    simp only [List.length_append, List.length_singleton]
    omega
/-- What serve answers: none, if no such round leaves nothing; else one that ends first. -/
theorem serve_eq (h : BtOK ws hs H st ns) (hc : CrOK hs ns c ps hit) (hbd : ∀ n, bd n ≤ 1000) (hok : ∀ (n : Nat) (m : Int), n < ns.length → ok ((n : Int), m) = some (decide (m ≤ bd n))) (hv0 : v0 < 512) :
    (round_crier_serve ws hs H st ns c ps hit (v0 : Int) ok = some ([], 0, false) ∧ ∀ l s t, ¬ Pth c ns hit bd hs.length st v0 l s 0 t) ∨
    ∃ l s t, round_crier_serve ws hs H st ns c ps hit (v0 : Int) ok = some (l, t, true) ∧ Pth c ns hit bd hs.length st v0 l s 0 t ∧ ∀ l' s' t', Pth c ns hit bd hs.length st v0 l' s' 0 t' → t ≤ t' := by
  obtain ⟨met, e1, hi⟩ := serve_l1 h hc hbd hok hv0 v0 FU _ (by unfold FU; omega) (Nat.le_refl _) (inv_first (c := c) (ns := ns) (hit := hit) (bd := bd) (hs := hs) (v0 := v0) h.hst)
  obtain ⟨es, mn, e2, h2⟩ := serve_l4 (fun k r hr => (hi.rng _ _ hr).2.2.1) (hs := hs) hs 0 (-1) (-1) rfl (.inl ⟨rfl, fun k hk => absurd hk (Nat.not_lt_zero _)⟩) (Nat.zero_le _)
  have e2' : round_crier_serve_l4 met hs 0 (-1) (-1) = some (es, mn) := e2
  have hat : ∀ (l : List (Int × Int)) (s t : Int), Pth c ns hit bd hs.length st v0 l s 0 t → ∃ (k : Nat) (r : Rec), k < hs.length ∧ mget met ((k : Int), 0) = some r ∧ r.1 ≤ t := fun l s t hp => by
    obtain ⟨r, hr, hle⟩ := hi.best hp
    obtain ⟨⟨a, b⟩, _⟩ := hi.rng _ _ hr
    have a' : 0 ≤ s := a
    have b' : s < (hs.length : Int) := b
    refine ⟨s.toNat, r, by omega, ?_, hle⟩
    rw [show ((s.toNat : Nat) : Int) = s by omega]
    exact hr
  unfold round_crier_serve
  rw [bvE, e1, b1_some, e2', b2_some]
  rcases h2 with ⟨a, b⟩ | ⟨⟨r, hr, hmn⟩, b, d⟩
  · rw [if_pos a]
    refine .inl ⟨rfl, fun l s t hp => ?_⟩
    obtain ⟨k, r, hk, hr, _⟩ := hat l s t hp
    rw [b k hk] at hr; cases hr
  · rw [if_neg (by omega)]
    obtain ⟨l, hp, e3⟩ := serve_l5 hi v0 FU es 0 r [] (by omega) (by unfold FU; omega) (by simp; omega) (Nat.zero_le _) hr
    have e3' : round_crier_serve_l5 (v0 : Int) met FU es 0 [] = some ([] ++ l.reverse) := e3
    have hl := hp.len
    rw [e3', b1_some, List.nil_append, reverse_eq (by rw [List.length_reverse]; omega), b1_some, List.reverse_reverse]
    refine .inr ⟨l, es, mn, rfl, by rw [← hmn]; exact hp, fun l' s' t' hp' => ?_⟩
    obtain ⟨k, r', hk, hr', hle⟩ := hat l' s' t' hp'
    have := d k r' hk hr'
    omega
end
end Go.Proofs.Ytfmapnhfamoecab.Rd
