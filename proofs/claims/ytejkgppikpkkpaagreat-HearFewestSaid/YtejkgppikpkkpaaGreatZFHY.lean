/- Layer 1: Fewest, Best and Louder, in terms of who can be served; HearMirrored; in plain Lean. -/
import Derived.Test.YtejkgppikpkkpaaGreatZFHX
namespace Go.Proofs.YtejkgppikpkkpaaGreat
open Go.PL Go.Hear
section
variable {wide : Int} {ps : List Int} {w v : Int}
theorem Few_eq {H : List Int} (hH : Hs wide ps w v H) : ((∃ h ∈ H, stL wide ps w v h = []) ∧ hear_Fewest wide ps w v H = some ([], 6)) ∨ ((∀ h ∈ H, stL wide ps w v h ≠ []) ∧ ∃ L, hear_Fewest wide ps w v H = some (L.map Int.ofNat, 0) ∧ IsFew (askR wide ps w v H) L) := by
  have hn := hH.n30
  have hl := hH.len
  rcases Fewest_eq (by omega) (by omega) hH.ask with ⟨h1, h2⟩ | ⟨h1, h2⟩
  · exact .inl ⟨(deaf_iff hn).1 h1, h2⟩
  · exact .inr ⟨fun h hh he => h1 ((deaf_iff hn).2 ⟨h, hh, he⟩), h2⟩
end
structure MP (f f' : Int → List Bool) (H H' : List Int) (to : Int → Int) (ts : Nat → Nat) : Prop where
  sub : ∀ h ∈ H, to h ∈ H'
  back : ∀ h' ∈ H', ∃ h ∈ H, to h = h'
  inj : ∀ x ∈ H, ∀ y ∈ H, to x = to y → x = y
  row : ∀ h ∈ H, ∀ s, s < 30 → (f h).getD s false = true → ts s < 30 ∧ (f' (to h)).getD (ts s) false = true
  wor : ∀ h ∈ H, ∀ s, s < 30 → (f' (to h)).getD s false = true → ts s < 30 ∧ (f h).getD (ts s) false = true
section
variable {f f' : Int → List Bool} {H H' : List Int} {to : Int → Int} {ts : Nat → Nat}
theorem MP.ap (h : MP f f' H H' to ts) {A A' : List Int} (ha : IsAp f H A) (ha' : IsAp f' H' A') : A.length ≤ A'.length := by
  refine ha.map_le ha' h.inj h.sub fun x hx y hy hc => comB_false.2 fun s hs hb => ?_
  obtain ⟨r1, r2⟩ := h.wor x hx s hs hb.1
  obtain ⟨_, r3⟩ := h.wor y hy s hs hb.2
  exact comB_false.1 hc (ts s) r1 ⟨r2, r3⟩
end
section
variable {down : Bool} {wide rows w v : Int} {ps : List Int}
end
end Go.Proofs.YtejkgppikpkkpaaGreat
