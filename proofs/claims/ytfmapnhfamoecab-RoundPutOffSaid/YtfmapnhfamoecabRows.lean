/-
  No cell of these rows narrows 'for every input' (looked for: loops, veiled, ifaces, maps, wideKeys, modest, calm, conditions, laid).
  DERIVED. THE GIVEN ROWS OF THIS SEAT. 3 by the template 'for every input the law returns true; each argument reads behind the call as it read before'; 0 by the template 'total and deterministic' (their statements: YtfmapnhfamoecabTotals.lean).
  GIVEN WITH THE SEED: the statements are not yours to turn. If you find one false, say at which input.
  Laid BY PROGRAM, IN A SANDBOX (cutbox-rows.mjs): the forced cells as the released guide's own fill.sh prints them over the translation 8012dad17fb27b97… (all of the seat's roots in one cut). By AI agents, Wed Nov 11 2026. No macro, syntax, notation, axiom, sorry.
-/
import Derived.Test.YtfmapnhfamoecabChecked
import GoSem.Claim
import GoSem.ClaimJoined
import GoSem.ClaimMapViews
import Derived.JoinedTies
import Derived.KernelRfl
namespace Go.Proofs.Ytfmapnhfamoecab
/- THE CELL 'sum', in the pinned program and in every row, IS THE sha256 OF THE DUMP (.gsa) THAT YtfmapnhfamoecabProg.lean LOADS. Nothing in Lean hashes anything: it is a label: what it is worth is what the hold of that sum in a sandbox is worth. -/
noncomputable def Try.pinned : Pinned := { name := "ytfmapnhfamoecab", sum := "8012dad17fb27b972ec2220e60623809ab1923d8f1fbccd077c0cf4faf668ed2", checked := Try.checked }
namespace Rows
def none {H : Type} : Left H := { results := [], args := [] }

/-- 'oyezlaw03.RoundSooner': WHATEVER THE INPUT: true; the input reads as it did. -/
def roundSoonerSpec : ChangeSpec := { name := "roundSooner", fn := fun _ => fun
  | [d1, d2] => { results := [.lit (.bool true)], args := [d1, d2] }
  | _ => none }
def roundSoonerRow : OpenClaim := { program := "ytfmapnhfamoecab", sum := "8012dad17fb27b972ec2220e60623809ab1923d8f1fbccd077c0cf4faf668ed2", func := "oyez/oyezlaw03.RoundSooner", spec := "roundSooner", unfollowed := true, recurses := true, plainKeys := false, apart := false }
def RoundSoonerSaid : Prop := roundSoonerRow.holds Try.pinned (OpenSpec.ofChange roundSoonerSpec)

/-- ITS FALSE NEIGHBOUR: 'it returns false'. Refute it at one input. -/
def roundSoonerWrong : ChangeSpec := { name := "roundSooner", fn := fun _ => fun
  | [d1, d2] => { results := [.lit (.bool false)], args := [d1, d2] }
  | _ => none }
def RoundSoonerWrongFalsely : Prop := roundSoonerRow.holds Try.pinned (OpenSpec.ofChange roundSoonerWrong)

/-- 'oyezlaw03.RoundLost': WHATEVER THE INPUT: true; the input reads as it did. -/
def roundLostSpec : ChangeSpec := { name := "roundLost", fn := fun _ => fun
  | [d1, d2] => { results := [.lit (.bool true)], args := [d1, d2] }
  | _ => none }
def roundLostRow : OpenClaim := { program := "ytfmapnhfamoecab", sum := "8012dad17fb27b972ec2220e60623809ab1923d8f1fbccd077c0cf4faf668ed2", func := "oyez/oyezlaw03.RoundLost", spec := "roundLost", unfollowed := true, recurses := true, plainKeys := false, apart := false }
def RoundLostSaid : Prop := roundLostRow.holds Try.pinned (OpenSpec.ofChange roundLostSpec)

/-- ITS FALSE NEIGHBOUR: 'it returns false'. Refute it at one input. -/
def roundLostWrong : ChangeSpec := { name := "roundLost", fn := fun _ => fun
  | [d1, d2] => { results := [.lit (.bool false)], args := [d1, d2] }
  | _ => none }
def RoundLostWrongFalsely : Prop := roundLostRow.holds Try.pinned (OpenSpec.ofChange roundLostWrong)

/-- 'oyezlaw03.RoundPutOff': WHATEVER THE INPUT: true; the input reads as it did. -/
def roundPutOffSpec : ChangeSpec := { name := "roundPutOff", fn := fun _ => fun
  | [d1, d2, d3] => { results := [.lit (.bool true)], args := [d1, d2, d3] }
  | _ => none }
def roundPutOffRow : OpenClaim := { program := "ytfmapnhfamoecab", sum := "8012dad17fb27b972ec2220e60623809ab1923d8f1fbccd077c0cf4faf668ed2", func := "oyez/oyezlaw03.RoundPutOff", spec := "roundPutOff", unfollowed := true, recurses := true, plainKeys := false, apart := false }
def RoundPutOffSaid : Prop := roundPutOffRow.holds Try.pinned (OpenSpec.ofChange roundPutOffSpec)

/-- ITS FALSE NEIGHBOUR: 'it returns false'. Refute it at one input. -/
def roundPutOffWrong : ChangeSpec := { name := "roundPutOff", fn := fun _ => fun
  | [d1, d2, d3] => { results := [.lit (.bool false)], args := [d1, d2, d3] }
  | _ => none }
def RoundPutOffWrongFalsely : Prop := roundPutOffRow.holds Try.pinned (OpenSpec.ofChange roundPutOffWrong)

/- THE SECOND FORM. 'bulk': how many values and letters a reading holds, each counted each time it is reached (what is shared counts as often as it is met; a slice's spare places count too). A statement '..UptoSaid' is the law's where the arguments, and the package variables that the reading takes, are together of bulk at most 1048576: NARROWER than '..Said'. Prove '..Said' where nothing that the law and all that it calls make is longer than what came in: it says more and counts as full. Else prove '..UptoSaid'. A law counts once. -/
mutual
def uptoBulk {H : Type} : DataW H → Nat
  | .lit (.string bytes) => bytes.length + 1
  | .lit _ => 1
  | .nil => 1
  | .ptr d => uptoBulk d + 1
  | .slice elems spare => uptoBulkAll elems + uptoBulkAll spare + 1
  | .agg parts => uptoBulkAll parts + 1
  | .iface _ d => uptoBulk d + 1
  | .map entries => uptoBulkEntries entries + 1
  | .held _ => 1
def uptoBulkAll {H : Type} : List (DataW H) → Nat
  | [] => 0
  | d :: r => uptoBulk d + uptoBulkAll r
def uptoBulkEntries {H : Type} : List (Lit × DataW H) → Nat
  | [] => 0
  | x :: r => uptoBulkEntry x + uptoBulkEntries r
def uptoBulkEntry {H : Type} : Lit × DataW H → Nat
  | (.string bytes, d) => bytes.length + uptoBulk d + 1
  | (_, d) => uptoBulk d + 1
 end
def uptoSmall : (H : Type) → List (DataW H) → Bool := fun _ ds => decide (uptoBulkAll ds ≤ 1048576)
def OpenSpec.upto (s : _root_.Go.ChangeSpec) : _root_.Go.OpenSpec := { _root_.Go.OpenSpec.ofChange s with cond := some uptoSmall }

/-- 'oyezlaw03.RoundSooner', WHERE WHAT IT READS IS OF BULK AT MOST 1048576: true; the input reads as it did. -/
def roundSoonerUptoRow : OpenClaim := { program := "ytfmapnhfamoecab", sum := "8012dad17fb27b972ec2220e60623809ab1923d8f1fbccd077c0cf4faf668ed2", func := "oyez/oyezlaw03.RoundSooner", spec := "roundSooner", unfollowed := true, recurses := true, plainKeys := false, apart := false, narrowed := true }
def RoundSoonerUptoSaid : Prop := roundSoonerUptoRow.holds Try.pinned (OpenSpec.upto roundSoonerSpec)

/-- 'oyezlaw03.RoundLost', WHERE WHAT IT READS IS OF BULK AT MOST 1048576: true; the input reads as it did. -/
def roundLostUptoRow : OpenClaim := { program := "ytfmapnhfamoecab", sum := "8012dad17fb27b972ec2220e60623809ab1923d8f1fbccd077c0cf4faf668ed2", func := "oyez/oyezlaw03.RoundLost", spec := "roundLost", unfollowed := true, recurses := true, plainKeys := false, apart := false, narrowed := true }
def RoundLostUptoSaid : Prop := roundLostUptoRow.holds Try.pinned (OpenSpec.upto roundLostSpec)

/-- 'oyezlaw03.RoundPutOff', WHERE WHAT IT READS IS OF BULK AT MOST 1048576: true; the input reads as it did. -/
def roundPutOffUptoRow : OpenClaim := { program := "ytfmapnhfamoecab", sum := "8012dad17fb27b972ec2220e60623809ab1923d8f1fbccd077c0cf4faf668ed2", func := "oyez/oyezlaw03.RoundPutOff", spec := "roundPutOff", unfollowed := true, recurses := true, plainKeys := false, apart := false, narrowed := true }
def RoundPutOffUptoSaid : Prop := roundPutOffUptoRow.holds Try.pinned (OpenSpec.upto roundPutOffSpec)

end Rows
end Go.Proofs.Ytfmapnhfamoecab
