/- Any round is no sooner than one of which each cry serves something; in plain Lean. -/
import Derived.Test.YtfmapnhfamoecabZBSV
namespace Go.Proofs.Ytfmapnhfamoecab.Rd
open Go.PL
/-- What a round leaves of a set, by the hours. -/
def remF (c : List Int) (ns : List (List Int × Int × Int)) (hit : List Int) (bd : Nat → Int) : Int → Int → Nat → List (Int × Int) → Nat
  | _, _, v, [] => v
  | k, m, v, x :: l => remF c ns hit bd x.1 (m + en c k.toNat x.1.toNat + wrd ns x.2.toNat) (if m + en c k.toNat x.1.toNat + wrd ns x.2.toNat ≤ bd x.2.toNat then dif v (hb hit x.1.toNat x.2.toNat) else v) l
section
variable {c : List Int} {ns : List (List Int × Int × Int)} {hit : List Int} {bd : Nat → Int} {S : Nat} {start : Int} {v0 : Nat} {H : Int}
theorem shorten (hc : Fin5 S c) (hS : S ≤ 5) (hw : ∀ x ∈ ns, NOK H x) : ∀ (l : List (Int × Int)) (k m : Int) (v s : Nat) (t : Int) (lp : List (Int × Int)) (es : List Int), CryOK S ns.length l → (0 ≤ k ∧ k < (S : Int)) → endsF c ns k m l = some es → Pth c ns hit bd S start v0 lp (s : Int) v t → s < S → en c s k.toNat ≠ -1 → t + en c s k.toNat ≤ m →
    ∃ lp' s' t', Pth c ns hit bd S start v0 lp' s' (remF c ns hit bd k m v l) t' ∧ t' ≤ es.getLastD m
  | [], k, m, v, s, t, lp, es, _, hk, he, hp, hs, h1, h2 => by
    obtain rfl : [] = es := Option.some.inj he
    have := hc.rng s k.toNat (by omega) (by omega)
    exact ⟨lp, s, t, hp, by show t ≤ m; omega⟩
  | x :: l, k, m, v, s, t, lp, es, hl, hk, he, hp, hs, h1, h2 => by
    obtain ⟨a1, a2⟩ := hl x (by simp)
    unfold endsF at he
    by_cases e : en c k.toNat x.1.toNat = -1
    · rw [if_pos e] at he; cases he
    · rw [if_neg e] at he
      cases h3 : endsF c ns x.1 (m + en c k.toNat x.1.toNat + wrd ns x.2.toNat) l with
      | none => rw [h3] at he; cases he
      | some es2 =>
        rw [h3] at he
        obtain rfl := Option.some.inj he
        have hN := (hw _ (getD_mem (d := ([], 0, 0)) (i := x.2.toNat) (by omega))).2.1
        have hwr : 1 ≤ wrd ns x.2.toNat ∧ wrd ns x.2.toNat ≤ 5 := hN
        obtain ⟨t1, t2⟩ := hc.tri s k.toNat x.1.toNat (by omega) (by omega) (by omega) h1 e
        have hr := hc.rng k.toNat x.1.toNat (by omega) (by omega)
        have hl' : CryOK S ns.length l := fun z hz => hl z (by simp [hz])
        have hgl : ((m + en c k.toNat x.1.toNat + wrd ns x.2.toNat) :: es2).getLastD m = es2.getLastD (m + en c k.toNat x.1.toNat + wrd ns x.2.toNat) := by rw [List.getLastD_cons]
        show ∃ lp' s' t', Pth c ns hit bd S start v0 lp' s' (remF c ns hit bd k m v (x :: l)) t' ∧ t' ≤ ((m + en c k.toNat x.1.toNat + wrd ns x.2.toNat) :: es2).getLastD m
        rw [hgl]
        unfold remF
        by_cases b : m + en c k.toNat x.1.toNat + wrd ns x.2.toNat ≤ bd x.2.toNat
        · rw [if_pos b]
          by_cases d : dif v (hb hit x.1.toNat x.2.toNat) = v
          · rw [d]
            exact shorten hc hS hw l x.1 _ v s t lp es2 hl' a1 h3 hp hs t1 (by omega)
          · have hp' := Pth.snoc hp hs (s := x.1.toNat) (n := x.2.toNat) (by omega) (by omega) d ⟨t1, by omega⟩
            have hd := hc.shp.diag x.1.toNat (by omega) (by omega)
            exact shorten hc hS hw l x.1 _ _ x.1.toNat _ _ es2 hl' a1 h3 hp' (by omega) (by omega) (by omega)
        · rw [if_neg b]
          exact shorten hc hS hw l x.1 _ v s t lp es2 hl' a1 h3 hp hs t1 (by omega)
/-- A round that leaves nothing ends no sooner than one of which each cry serves something. -/
theorem shorten0 {ws hs : List (List Int)} {st : Int} {ps : List (Int × Int)} (h : BtOK ws hs H st ns) (hc : CrOK hs ns c ps hit) {l : List (Int × Int)} {es : List Int} {v : Nat} (hl : CryOK hs.length ns.length l) (he : endsF c ns st 0 l = some es) (hr : remF c ns hit bd st 0 v l = 0) : ∃ l' t, Ser c ns hit hs st bd v l' t ∧ t ≤ es.getLastD 0 := by
  have h1 := h.hst
  have h5 := h.hs1.2
  have hp : Pth c ns hit bd hs.length st v [] ((st.toNat : Nat) : Int) v 0 := by
    rw [show ((st.toNat : Nat) : Int) = st by omega]; exact .nil
  have hd := hc.fin.shp.diag st.toNat (by omega) (by omega)
  obtain ⟨l', s', t', h2, h3⟩ := shorten hc.fin h5 h.note l st 0 v st.toNat 0 [] es hl h1 he hp (by omega) (by omega) (by omega)
  rw [hr] at h2
  exact ⟨l', t', ⟨s', h2⟩, h3⟩
end
end Go.Proofs.Ytfmapnhfamoecab.Rd
