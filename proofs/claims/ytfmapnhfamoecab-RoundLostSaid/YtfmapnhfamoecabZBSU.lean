/- When the cries of a round end; in plain Lean. -/
import Derived.Test.YtfmapnhfamoecabZBST
namespace Go.Proofs.Ytfmapnhfamoecab.Rd
open Go.PL
/-- When each cry of a round ends, from a place and a minute on; none if there is no walk. -/
def endsF (c : List Int) (ns : List (List Int × Int × Int)) : Int → Int → List (Int × Int) → Option (List Int)
  | _, _, [] => some []
  | k, m, x :: l => if en c k.toNat x.1.toNat = -1 then none else (endsF c ns x.1 (m + en c k.toNat x.1.toNat + wrd ns x.2.toNat) l).map ((m + en c k.toNat x.1.toNat + wrd ns x.2.toNat) :: ·)
/-- The cries of a round are of the beat. -/
def CryOK (S N : Nat) (l : List (Int × Int)) : Prop := ∀ x ∈ l, (0 ≤ x.1 ∧ x.1 < (S : Int)) ∧ (0 ≤ x.2 ∧ x.2 < (N : Int))
section
variable {ws hs : List (List Int)} {H st : Int} {ns : List (List Int × Int × Int)} {c : List Int} {ps : List (Int × Int)} {hit : List Int}
theorem gone_l2 (h : BtOK ws hs H st ns) (hc : CrOK hs ns c ps hit) : ∀ (l : List (Int × Int)) (k m : Int) (out : List Int), CryOK hs.length ns.length l → (0 ≤ k ∧ k < (hs.length : Int)) → out.length + l.length ≤ 100 → (0 ≤ m ∧ m + (l.length : Int) * 1000000005 ≤ 1000000000000) →
    round_gone_l2 ws hs H st ns (some (ws, hs, H, st, ns, c, ps, hit)) l k m out = some (match endsF c ns k m l with | some es => (some (ws, hs, H, st, ns, c, ps, hit), out ++ es, 0) | none => (none, [], 6))
  | [], k, m, out, _, _, _, _ => by
    unfold round_gone_l2 round_gone_j1 endsF
    simp
  | x :: l, k, m, out, hl, hk, ho, hm => by
    have h5 := h.hs1.2
    obtain ⟨h1, h2⟩ := hl x (by simp)
    simp only [List.length_cons] at ho hm
    have hr := hc.fin.rng k.toNat x.1.toNat (by omega) (by omega)
    have hN := (h.note _ (getD_mem (d := ([], 0, 0)) (i := x.2.toNat) (by omega))).2.1
    have hw : 1 ≤ wrd ns x.2.toNat ∧ wrd ns x.2.toNat ≤ 5 := hN
    have ex : ∀ {β : Type} (f : Int → Option β), ix c (k * 5 + x.1) f = f (en c k.toNat x.1.toNat) := fun f => by
      have q := ixE (w := c) hc.fin.len (i := k.toNat) (k := x.1.toNat) (by omega) (by omega) f
      rwa [show ((k.toNat : Nat) : Int) = k by omega, show ((x.1.toNat : Nat) : Int) = x.1 by omega] at q
    unfold round_gone_l2 endsF
    rw [stand_eq h, b1_some, decide_eq_true h1, if_neg (by decide), notice_eq h, b1_some, decide_eq_true h2, b1_some, if_neg (by decide), b8_some, gd_t (by omega), gd_t (by omega)]
    rw [ex]
    by_cases e : en c k.toNat x.1.toNat = -1
    · rw [if_pos e, if_pos e]
    · rw [if_neg e, if_neg e, gd_t (by unfold R64; omega), ixD ([], 0, 0) _ h2.1 h2.2]
      show gd (R64 (m + en c k.toNat x.1.toNat + wrd ns x.2.toNat)) _ = _
      rw [gd_t (by unfold R64; omega), ap_t (by simp; omega)]
      have ih := gone_l2 h hc l x.1 (m + en c k.toNat x.1.toNat + wrd ns x.2.toNat) (out ++ [m + en c k.toNat x.1.toNat + wrd ns x.2.toNat]) (fun z hz => hl z (by simp [hz])) h1 (by simp; omega) (by omega)
      refine ih.trans ?_
      cases endsF c ns x.1 (m + en c k.toNat x.1.toNat + wrd ns x.2.toNat) l with
      | none => rfl
      | some es => simp
theorem gone_eq (h : BtOK ws hs H st ns) (e : round_opened ws hs H st ns = some (some (ws, hs, H, st, ns, c, ps, hit), 0)) (hc : CrOK hs ns c ps hit) {l : List (Int × Int)} (hl : CryOK hs.length ns.length l) (h20 : l.length ≤ 20) :
    round_gone ws hs H st ns l = some (match endsF c ns st 0 l with | some es => (some (ws, hs, H, st, ns, c, ps, hit), es, 0) | none => (none, [], 6)) := by
  unfold round_gone
  rw [e, b2_some, if_neg (by decide), if_neg (by omega), gone_l2 h hc l st 0 [] hl h.hst (by simp; omega) (by omega)]
  simp
end
end Go.Proofs.Ytfmapnhfamoecab.Rd
