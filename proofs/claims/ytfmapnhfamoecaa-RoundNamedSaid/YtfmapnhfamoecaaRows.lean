/-
  No cell of these rows narrows 'for every input' (looked for: loops, veiled, ifaces, maps, wideKeys, modest, calm, conditions, laid).
  DERIVED. THE GIVEN ROWS OF THIS SEAT. 3 by the template 'for every input the law returns true; each argument reads behind the call as it read before'; 0 by the template 'total and deterministic' (their statements: YtfmapnhfamoecaaTotals.lean).
  GIVEN WITH THE SEED: the statements are not yours to turn. If you find one false, say at which input.
  Laid BY PROGRAM, IN A SANDBOX (cutbox-rows.mjs): the forced cells as the released guide's own fill.sh prints them over the translation d98bcc43656a09d9… (all of the seat's roots in one cut). By AI agents, Wed Nov 11 2026. No macro, syntax, notation, axiom, sorry.
-/
import Derived.Test.YtfmapnhfamoecaaChecked
import GoSem.Claim
import GoSem.ClaimJoined
import GoSem.ClaimMapViews
import Derived.JoinedTies
import Derived.KernelRfl
namespace Go.Proofs.Ytfmapnhfamoecaa
/- THE CELL 'sum', in the pinned program and in every row, IS THE sha256 OF THE DUMP (.gsa) THAT YtfmapnhfamoecaaProg.lean LOADS. Nothing in Lean hashes anything: it is a label: what it is worth is what the hold of that sum in a sandbox is worth. -/
noncomputable def Try.pinned : Pinned := { name := "ytfmapnhfamoecaa", sum := "d98bcc43656a09d912afe909325bbafacc94960c6be9ac177949010adee2dad8", checked := Try.checked }
namespace Rows
def none {H : Type} : Left H := { results := [], args := [] }

/-- 'oyezlaw03.RoundShared': WHATEVER THE INPUT: true; the input reads as it did. -/
def roundSharedSpec : ChangeSpec := { name := "roundShared", fn := fun _ => fun
  | [d1, d2] => { results := [.lit (.bool true)], args := [d1, d2] }
  | _ => none }
def roundSharedRow : OpenClaim := { program := "ytfmapnhfamoecaa", sum := "d98bcc43656a09d912afe909325bbafacc94960c6be9ac177949010adee2dad8", func := "oyez/oyezlaw03.RoundShared", spec := "roundShared", unfollowed := true, recurses := true, plainKeys := false, apart := false }
def RoundSharedSaid : Prop := roundSharedRow.holds Try.pinned (OpenSpec.ofChange roundSharedSpec)

/-- ITS FALSE NEIGHBOUR: 'it returns false'. Refute it at one input. -/
def roundSharedWrong : ChangeSpec := { name := "roundShared", fn := fun _ => fun
  | [d1, d2] => { results := [.lit (.bool false)], args := [d1, d2] }
  | _ => none }
def RoundSharedWrongFalsely : Prop := roundSharedRow.holds Try.pinned (OpenSpec.ofChange roundSharedWrong)

/-- 'oyezlaw03.RoundServed': WHATEVER THE INPUT: true; the input reads as it did. -/
def roundServedSpec : ChangeSpec := { name := "roundServed", fn := fun _ => fun
  | [d1, d2] => { results := [.lit (.bool true)], args := [d1, d2] }
  | _ => none }
def roundServedRow : OpenClaim := { program := "ytfmapnhfamoecaa", sum := "d98bcc43656a09d912afe909325bbafacc94960c6be9ac177949010adee2dad8", func := "oyez/oyezlaw03.RoundServed", spec := "roundServed", unfollowed := true, recurses := true, plainKeys := false, apart := false }
def RoundServedSaid : Prop := roundServedRow.holds Try.pinned (OpenSpec.ofChange roundServedSpec)

/-- ITS FALSE NEIGHBOUR: 'it returns false'. Refute it at one input. -/
def roundServedWrong : ChangeSpec := { name := "roundServed", fn := fun _ => fun
  | [d1, d2] => { results := [.lit (.bool false)], args := [d1, d2] }
  | _ => none }
def RoundServedWrongFalsely : Prop := roundServedRow.holds Try.pinned (OpenSpec.ofChange roundServedWrong)

/-- 'oyezlaw03.RoundNamed': WHATEVER THE INPUT: true; the input reads as it did. -/
def roundNamedSpec : ChangeSpec := { name := "roundNamed", fn := fun _ => fun
  | [d1, d2] => { results := [.lit (.bool true)], args := [d1, d2] }
  | _ => none }
def roundNamedRow : OpenClaim := { program := "ytfmapnhfamoecaa", sum := "d98bcc43656a09d912afe909325bbafacc94960c6be9ac177949010adee2dad8", func := "oyez/oyezlaw03.RoundNamed", spec := "roundNamed", unfollowed := true, recurses := true, plainKeys := false, apart := false }
def RoundNamedSaid : Prop := roundNamedRow.holds Try.pinned (OpenSpec.ofChange roundNamedSpec)

/-- ITS FALSE NEIGHBOUR: 'it returns false'. Refute it at one input. -/
def roundNamedWrong : ChangeSpec := { name := "roundNamed", fn := fun _ => fun
  | [d1, d2] => { results := [.lit (.bool false)], args := [d1, d2] }
  | _ => none }
def RoundNamedWrongFalsely : Prop := roundNamedRow.holds Try.pinned (OpenSpec.ofChange roundNamedWrong)

/- THE SECOND FORM. 'bulk': how many values and letters a reading holds, each counted each time it is reached (what is shared counts as often as it is met; a slice's spare places count too). A statement '..UptoSaid' is the law's where the arguments, and the package variables that the reading takes, are together of bulk at most 1048576: NARROWER than '..Said'. Prove '..Said' where nothing that the law and all that it calls make is longer than what came in: it says more and counts as full. Else prove '..UptoSaid'. A law counts once. -/
mutual
def uptoBulk {H : Type} : DataW H → Nat
  | .lit (.string bytes) => bytes.length + 1
  | .lit _ => 1
  | .nil => 1
  | .ptr d => uptoBulk d + 1
  | .slice elems spare => uptoBulkAll elems + uptoBulkAll spare + 1
  | .agg parts => uptoBulkAll parts + 1
  | .iface _ d => uptoBulk d + 1
  | .map entries => uptoBulkEntries entries + 1
  | .held _ => 1
def uptoBulkAll {H : Type} : List (DataW H) → Nat
  | [] => 0
  | d :: r => uptoBulk d + uptoBulkAll r
def uptoBulkEntries {H : Type} : List (Lit × DataW H) → Nat
  | [] => 0
  | x :: r => uptoBulkEntry x + uptoBulkEntries r
def uptoBulkEntry {H : Type} : Lit × DataW H → Nat
  | (.string bytes, d) => bytes.length + uptoBulk d + 1
  | (_, d) => uptoBulk d + 1
 end
def uptoSmall : (H : Type) → List (DataW H) → Bool := fun _ ds => decide (uptoBulkAll ds ≤ 1048576)
def OpenSpec.upto (s : _root_.Go.ChangeSpec) : _root_.Go.OpenSpec := { _root_.Go.OpenSpec.ofChange s with cond := some uptoSmall }

/-- 'oyezlaw03.RoundShared', WHERE WHAT IT READS IS OF BULK AT MOST 1048576: true; the input reads as it did. -/
def roundSharedUptoRow : OpenClaim := { program := "ytfmapnhfamoecaa", sum := "d98bcc43656a09d912afe909325bbafacc94960c6be9ac177949010adee2dad8", func := "oyez/oyezlaw03.RoundShared", spec := "roundShared", unfollowed := true, recurses := true, plainKeys := false, apart := false, narrowed := true }
def RoundSharedUptoSaid : Prop := roundSharedUptoRow.holds Try.pinned (OpenSpec.upto roundSharedSpec)

/-- 'oyezlaw03.RoundServed', WHERE WHAT IT READS IS OF BULK AT MOST 1048576: true; the input reads as it did. -/
def roundServedUptoRow : OpenClaim := { program := "ytfmapnhfamoecaa", sum := "d98bcc43656a09d912afe909325bbafacc94960c6be9ac177949010adee2dad8", func := "oyez/oyezlaw03.RoundServed", spec := "roundServed", unfollowed := true, recurses := true, plainKeys := false, apart := false, narrowed := true }
def RoundServedUptoSaid : Prop := roundServedUptoRow.holds Try.pinned (OpenSpec.upto roundServedSpec)

/-- 'oyezlaw03.RoundNamed', WHERE WHAT IT READS IS OF BULK AT MOST 1048576: true; the input reads as it did. -/
def roundNamedUptoRow : OpenClaim := { program := "ytfmapnhfamoecaa", sum := "d98bcc43656a09d912afe909325bbafacc94960c6be9ac177949010adee2dad8", func := "oyez/oyezlaw03.RoundNamed", spec := "roundNamed", unfollowed := true, recurses := true, plainKeys := false, apart := false, narrowed := true }
def RoundNamedUptoSaid : Prop := roundNamedUptoRow.holds Try.pinned (OpenSpec.upto roundNamedSpec)

end Rows
end Go.Proofs.Ytfmapnhfamoecaa
