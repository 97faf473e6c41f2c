/-
  No cell of these rows narrows 'for every input' (looked for: loops, veiled, ifaces, maps, wideKeys, modest, calm, conditions, laid).
  DERIVED. THE GIVEN ROWS OF THIS SEAT. 2 by the template 'for every input the law returns true; each argument reads behind the call as it read before'; 0 by the template 'total and deterministic' (their statements: YtejkgppikpkkpaaGreatTotals.lean).
  GIVEN WITH THE SEED: the statements are not yours to turn. If you find one false, say at which input.
  Laid BY PROGRAM, IN A SANDBOX (cutbox-rows.mjs): the forced cells as the released guide's own fill.sh prints them over the translation 4c26bd06248c465b… (all of the seat's roots in one cut). By AI agents, Wed Nov 11 2026. No macro, syntax, notation, axiom, sorry.
-/
import Derived.Test.YtejkgppikpkkpaaGreatChecked
import GoSem.Claim
import GoSem.ClaimJoined
import GoSem.ClaimMapViews
import Derived.JoinedTies
import Derived.KernelRfl
namespace Go.Proofs.YtejkgppikpkkpaaGreat
/- THE CELL 'sum', in the pinned program and in every row, IS THE sha256 OF THE DUMP (.gsa) THAT YtejkgppikpkkpaaGreatProg.lean LOADS. Nothing in Lean hashes anything: it is a label: what it is worth is what the hold of that sum in a sandbox is worth. -/
noncomputable def Tryz.pinned : Pinned := { name := "ytejkgppikpkkpaagreat", sum := "4c26bd06248c465b6ca1f07bd22fb89dd65f625e634d00c7d1bfac0861ba1b41", checked := Tryz.checked }
namespace Rows
def none {H : Type} : Left H := { results := [], args := [] }

/-- 'oyezlaw01.HearFewest': WHATEVER THE INPUT: true; the input reads as it did. -/
def hearFewestSpec : ChangeSpec := { name := "hearFewest", fn := fun _ => fun
  | [d1, d2, d3] => { results := [.lit (.bool true)], args := [d1, d2, d3] }
  | _ => none }
def hearFewestRow : OpenClaim := { program := "ytejkgppikpkkpaagreat", sum := "4c26bd06248c465b6ca1f07bd22fb89dd65f625e634d00c7d1bfac0861ba1b41", func := "oyez/oyezlaw01.HearFewest", spec := "hearFewest", unfollowed := true, recurses := true, plainKeys := false, apart := false }
def HearFewestSaid : Prop := hearFewestRow.holds Tryz.pinned (OpenSpec.ofChange hearFewestSpec)

/-- ITS FALSE NEIGHBOUR: 'it returns false'. Refute it at one input. -/
def hearFewestWrong : ChangeSpec := { name := "hearFewest", fn := fun _ => fun
  | [d1, d2, d3] => { results := [.lit (.bool false)], args := [d1, d2, d3] }
  | _ => none }
def HearFewestWrongFalsely : Prop := hearFewestRow.holds Tryz.pinned (OpenSpec.ofChange hearFewestWrong)

/-- 'oyezlaw01.HearReached': WHATEVER THE INPUT: true; the input reads as it did. -/
def hearReachedSpec : ChangeSpec := { name := "hearReached", fn := fun _ => fun
  | [d1, d2] => { results := [.lit (.bool true)], args := [d1, d2] }
  | _ => none }
def hearReachedRow : OpenClaim := { program := "ytejkgppikpkkpaagreat", sum := "4c26bd06248c465b6ca1f07bd22fb89dd65f625e634d00c7d1bfac0861ba1b41", func := "oyez/oyezlaw01.HearReached", spec := "hearReached", unfollowed := true, recurses := true, plainKeys := false, apart := false }
def HearReachedSaid : Prop := hearReachedRow.holds Tryz.pinned (OpenSpec.ofChange hearReachedSpec)

/-- ITS FALSE NEIGHBOUR: 'it returns false'. Refute it at one input. -/
def hearReachedWrong : ChangeSpec := { name := "hearReached", fn := fun _ => fun
  | [d1, d2] => { results := [.lit (.bool false)], args := [d1, d2] }
  | _ => none }
def HearReachedWrongFalsely : Prop := hearReachedRow.holds Tryz.pinned (OpenSpec.ofChange hearReachedWrong)

/- THE SECOND FORM. 'bulk': how many values and letters a reading holds, each counted each time it is reached (what is shared counts as often as it is met; a slice's spare places count too). A statement '..UptoSaid' is the law's where the arguments, and the package variables that the reading takes, are together of bulk at most 1048576: NARROWER than '..Said'. Prove '..Said' where nothing that the law and all that it calls make is longer than what came in: it says more and counts as full. Else prove '..UptoSaid'. A law counts once. -/
mutual
def uptoBulk {H : Type} : DataW H → Nat
  | .lit (.string bytes) => bytes.length + 1
  | .lit _ => 1
  | .nil => 1
  | .ptr d => uptoBulk d + 1
  | .slice elems spare => uptoBulkAll elems + uptoBulkAll spare + 1
  | .agg parts => uptoBulkAll parts + 1
  | .iface _ d => uptoBulk d + 1
  | .map entries => uptoBulkEntries entries + 1
  | .held _ => 1
def uptoBulkAll {H : Type} : List (DataW H) → Nat
  | [] => 0
  | d :: r => uptoBulk d + uptoBulkAll r
def uptoBulkEntries {H : Type} : List (Lit × DataW H) → Nat
  | [] => 0
  | x :: r => uptoBulkEntry x + uptoBulkEntries r
def uptoBulkEntry {H : Type} : Lit × DataW H → Nat
  | (.string bytes, d) => bytes.length + uptoBulk d + 1
  | (_, d) => uptoBulk d + 1
 end
def uptoSmall : (H : Type) → List (DataW H) → Bool := fun _ ds => decide (uptoBulkAll ds ≤ 1048576)
def OpenSpec.upto (s : _root_.Go.ChangeSpec) : _root_.Go.OpenSpec := { _root_.Go.OpenSpec.ofChange s with cond := some uptoSmall }

/-- 'oyezlaw01.HearFewest', WHERE WHAT IT READS IS OF BULK AT MOST 1048576: true; the input reads as it did. -/
def hearFewestUptoRow : OpenClaim := { program := "ytejkgppikpkkpaagreat", sum := "4c26bd06248c465b6ca1f07bd22fb89dd65f625e634d00c7d1bfac0861ba1b41", func := "oyez/oyezlaw01.HearFewest", spec := "hearFewest", unfollowed := true, recurses := true, plainKeys := false, apart := false, narrowed := true }
def HearFewestUptoSaid : Prop := hearFewestUptoRow.holds Tryz.pinned (OpenSpec.upto hearFewestSpec)

/-- 'oyezlaw01.HearReached', WHERE WHAT IT READS IS OF BULK AT MOST 1048576: true; the input reads as it did. -/
def hearReachedUptoRow : OpenClaim := { program := "ytejkgppikpkkpaagreat", sum := "4c26bd06248c465b6ca1f07bd22fb89dd65f625e634d00c7d1bfac0861ba1b41", func := "oyez/oyezlaw01.HearReached", spec := "hearReached", unfollowed := true, recurses := true, plainKeys := false, apart := false, narrowed := true }
def HearReachedUptoSaid : Prop := hearReachedUptoRow.holds Tryz.pinned (OpenSpec.upto hearReachedSpec)

end Rows
end Go.Proofs.YtejkgppikpkkpaaGreat
