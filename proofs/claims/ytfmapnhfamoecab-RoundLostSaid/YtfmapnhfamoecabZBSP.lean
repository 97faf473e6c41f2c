/- Rounds of which each cry serves something, and the table of places; in plain Lean. -/
import Derived.Test.YtfmapnhfamoecabZBSO
namespace Go.Proofs.Ytfmapnhfamoecab.Rd
open Go.PL
/-- A round of which each cry serves something, in time: where it ends, what is left, and when. -/
inductive Pth (c : List Int) (ns : List (List Int × Int × Int)) (hit : List Int) (bd : Nat → Int) (S : Nat) (start : Int) (v0 : Nat) : List (Int × Int) → Int → Nat → Int → Prop
  | nil : Pth c ns hit bd S start v0 [] start v0 0
  | snoc {l : List (Int × Int)} {k v s n : Nat} {t : Int} (h : Pth c ns hit bd S start v0 l (k : Int) v t) (hk : k < S) (hs : s < S) (hn : n < ns.length) (hne : dif v (hb hit s n) ≠ v) (hv : Val c ns bd t k s n) : Pth c ns hit bd S start v0 (l ++ [((s : Int), (n : Int))]) (s : Int) (dif v (hb hit s n)) (t + en c k s + wrd ns n)
section
variable {c : List Int} {ns : List (List Int × Int × Int)} {hit : List Int} {bd : Nat → Int} {S : Nat} {start : Int} {v0 : Nat} {met : Met}
theorem Inv.last (hi : Inv c ns hit bd S start v0 0 met) {s : Int} {r : Rec} (hr : mget met (s, (v0 : Int)) = some r) : s = start ∧ r.1 = 0 := by
  rcases hi.sound _ r hr with ⟨e, h0⟩ | ⟨v, k, s', n, y, _, _, hst, e, _⟩
  · exact ⟨(Prod.mk.inj e).1, h0⟩
  · obtain ⟨_, ⟨u, e1, e2, _⟩, _⟩ := hi.rng _ _ hst.1
    have h1 := (Prod.mk.inj e).2
    have h2 := dif_le v (hb hit s' n)
    have h3 := hst.2.2.2.1
    have : (v : Int) = (u : Int) := e1
    omega
/-- No such round is at a place sooner. -/
theorem Inv.best (hi : Inv c ns hit bd S start v0 0 met) {l : List (Int × Int)} {s : Int} {v : Nat} {t : Int} (h : Pth c ns hit bd S start v0 l s v t) : ∃ r, mget met (s, (v : Int)) = some r ∧ r.1 ≤ t := by
  induction h with
  | nil =>
    obtain ⟨r, hr⟩ := hi.first
    exact ⟨r, hr, by rw [(hi.last hr).2]; exact Int.le_refl _⟩
  | @snoc l k v s n t h hk hs hn hne hv ih =>
    obtain ⟨y, hy, hle⟩ := ih
    have hv0 : 0 < v := Nat.pos_of_ne_zero fun h0 => hne (by
      rw [h0]
      exact Nat.le_zero.1 (dif_le 0 _))
    have hst : Stp c ns hit bd S met v k s n y := ⟨hy, hs, hn, hne, hv.1, by have := hv.2; omega⟩
    obtain ⟨r', q1, q2⟩ := hi.full v k s n y hv0 hk hst
    exact ⟨r', q1, by omega⟩
end
end Go.Proofs.Ytfmapnhfamoecab.Rd
