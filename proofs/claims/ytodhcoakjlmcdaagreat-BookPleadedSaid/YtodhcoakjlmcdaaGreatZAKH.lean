/- Layer 7: a cry more; BookCried; in plain Lean. -/
import Derived.Test.YtodhcoakjlmcdaaGreatZAKG
namespace Go.Proofs.YtodhcoakjlmcdaaGreat.Bk
open Go.PL
section
variable {n n2 : Int} {hs : List (List (List Int))} {rs : List Int} {cs : List (Int × Int × Int)}
theorem BOK.more (h : BOK n n2 hs rs cs) {xs : List (Int × Int × Int)} (hl : cs.length + xs.length ≤ 12) (hx : ∀ c ∈ xs, (0 ≤ c.1 ∧ c.1 < (rs.length : Int)) ∧ (0 ≤ c.2.1 ∧ c.2.1 < (hs.length : Int)) ∧ (0 ≤ c.2.2 ∧ c.2.2 < n2)) : BOK n n2 hs rs (cs ++ xs) :=
  ⟨h.hn, h.hn2, h.hh, h.hr, by rw [List.length_append]; exact hl, h.h8, h.hl, h.rr, fun c hc => (List.mem_append.1 hc).elim (h.cc c) (hx c)⟩
theorem heardB_app (cs xs : List (Int × Int × Int)) (c : List Int) (x q : Int) : heardB hs (cs ++ xs) c x q = (heardB hs cs c x q || heardB hs xs c x q) := by unfold heardB; rw [List.any_append]
end
end Go.Proofs.YtodhcoakjlmcdaaGreat.Bk
