/- Layer 5: explanations that are tried; the fewest naps are told (NightExplained); in plain Lean. -/
import Derived.Test.YtjgeaaganpkceaaZgQE
namespace Go.Proofs.Ytjgeaaganpkceaa.Nt
open Go.PL
theorem Expl.mem {ls : List (List Int)} : ∀ {hs : List (List Int)} {s : List Nat}, Expl ls hs s → ∀ a ∈ s, a < 2 ^ ls.length
  | [], [], _, _, h => nomatch h
  | _ :: _, _ :: _, h, a, ha => by
    rcases List.mem_cons.1 ha with rfl | ha
    · exact h.1.1
    · exact Expl.mem h.2 a ha
  | [], _ :: _, h, _, _ => h.elim
  | _ :: _, [], h, _, _ => h.elim
section
variable {ls hs : List (List Int)}
variable {metal : List Int}
end
section
variable {ls hs : List (List Int)} {metal : List Int}
end
end Go.Proofs.Ytjgeaaganpkceaa.Nt
