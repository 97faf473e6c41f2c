/-
  No cell of these rows narrows 'for every input' (looked for: loops, veiled, ifaces, maps, wideKeys, modest, calm, conditions, laid).
  DERIVED. THE GIVEN ROWS OF THIS SEAT. 3 by the template 'for every input the law returns true; each argument reads behind the call as it read before'; 0 by the template 'total and deterministic' (their statements: YtfmapnhfamoecaaGreatTotals.lean).
  GIVEN WITH THE SEED: the statements are not yours to turn. If you find one false, say at which input.
  Laid BY PROGRAM, IN A SANDBOX (cutbox-rows.mjs): the forced cells as the released guide's own fill.sh prints them over the translation a583a06639d37788… (all of the seat's roots in one cut). By AI agents, Wed Nov 11 2026. No macro, syntax, notation, axiom, sorry.
-/
import Derived.Test.YtfmapnhfamoecaaGreatChecked
import GoSem.Claim
import GoSem.ClaimJoined
import GoSem.ClaimMapViews
import Derived.JoinedTies
import Derived.KernelRfl
namespace Go.Proofs.YtfmapnhfamoecaaGreat
/- THE CELL 'sum', in the pinned program and in every row, IS THE sha256 OF THE DUMP (.gsa) THAT YtfmapnhfamoecaaGreatProg.lean LOADS. Nothing in Lean hashes anything: it is a label: what it is worth is what the hold of that sum in a sandbox is worth. -/
noncomputable def Tryz.pinned : Pinned := { name := "ytfmapnhfamoecaagreat", sum := "a583a06639d37788cd48a0d82f713017b64b1a08f2f33705ba50dfd9a0034bc5", checked := Tryz.checked }
namespace Rows
def none {H : Type} : Left H := { results := [], args := [] }

/-- 'oyeztop.TopServed': WHATEVER THE INPUT: true; the input reads as it did. -/
def topServedSpec : ChangeSpec := { name := "topServed", fn := fun _ => fun
  | [d1, d2, d3, d4] => { results := [.lit (.bool true)], args := [d1, d2, d3, d4] }
  | _ => none }
def topServedRow : OpenClaim := { program := "ytfmapnhfamoecaagreat", sum := "a583a06639d37788cd48a0d82f713017b64b1a08f2f33705ba50dfd9a0034bc5", func := "oyez/oyeztop.TopServed", spec := "topServed", unfollowed := true, recurses := true, plainKeys := false, apart := false }
def TopServedSaid : Prop := topServedRow.holds Tryz.pinned (OpenSpec.ofChange topServedSpec)

/-- ITS FALSE NEIGHBOUR: 'it returns false'. Refute it at one input. -/
def topServedWrong : ChangeSpec := { name := "topServed", fn := fun _ => fun
  | [d1, d2, d3, d4] => { results := [.lit (.bool false)], args := [d1, d2, d3, d4] }
  | _ => none }
def TopServedWrongFalsely : Prop := topServedRow.holds Tryz.pinned (OpenSpec.ofChange topServedWrong)

/-- 'oyeztop.TopWitnessed': WHATEVER THE INPUT: true; the input reads as it did. -/
def topWitnessedSpec : ChangeSpec := { name := "topWitnessed", fn := fun _ => fun
  | [d1, d2] => { results := [.lit (.bool true)], args := [d1, d2] }
  | _ => none }
def topWitnessedRow : OpenClaim := { program := "ytfmapnhfamoecaagreat", sum := "a583a06639d37788cd48a0d82f713017b64b1a08f2f33705ba50dfd9a0034bc5", func := "oyez/oyeztop.TopWitnessed", spec := "topWitnessed", unfollowed := true, recurses := true, plainKeys := false, apart := false }
def TopWitnessedSaid : Prop := topWitnessedRow.holds Tryz.pinned (OpenSpec.ofChange topWitnessedSpec)

/-- ITS FALSE NEIGHBOUR: 'it returns false'. Refute it at one input. -/
def topWitnessedWrong : ChangeSpec := { name := "topWitnessed", fn := fun _ => fun
  | [d1, d2] => { results := [.lit (.bool false)], args := [d1, d2] }
  | _ => none }
def TopWitnessedWrongFalsely : Prop := topWitnessedRow.holds Tryz.pinned (OpenSpec.ofChange topWitnessedWrong)

/-- 'oyeztop.TopLeft': WHATEVER THE INPUT: true; the input reads as it did. -/
def topLeftSpec : ChangeSpec := { name := "topLeft", fn := fun _ => fun
  | [d1, d2] => { results := [.lit (.bool true)], args := [d1, d2] }
  | _ => none }
def topLeftRow : OpenClaim := { program := "ytfmapnhfamoecaagreat", sum := "a583a06639d37788cd48a0d82f713017b64b1a08f2f33705ba50dfd9a0034bc5", func := "oyez/oyeztop.TopLeft", spec := "topLeft", unfollowed := true, recurses := true, plainKeys := false, apart := false }
def TopLeftSaid : Prop := topLeftRow.holds Tryz.pinned (OpenSpec.ofChange topLeftSpec)

/-- ITS FALSE NEIGHBOUR: 'it returns false'. Refute it at one input. -/
def topLeftWrong : ChangeSpec := { name := "topLeft", fn := fun _ => fun
  | [d1, d2] => { results := [.lit (.bool false)], args := [d1, d2] }
  | _ => none }
def TopLeftWrongFalsely : Prop := topLeftRow.holds Tryz.pinned (OpenSpec.ofChange topLeftWrong)

/- THE SECOND FORM. 'bulk': how many values and letters a reading holds, each counted each time it is reached (what is shared counts as often as it is met; a slice's spare places count too). A statement '..UptoSaid' is the law's where the arguments, and the package variables that the reading takes, are together of bulk at most 1048576: NARROWER than '..Said'. Prove '..Said' where nothing that the law and all that it calls make is longer than what came in: it says more and counts as full. Else prove '..UptoSaid'. A law counts once. -/
mutual
def uptoBulk {H : Type} : DataW H → Nat
  | .lit (.string bytes) => bytes.length + 1
  | .lit _ => 1
  | .nil => 1
  | .ptr d => uptoBulk d + 1
  | .slice elems spare => uptoBulkAll elems + uptoBulkAll spare + 1
  | .agg parts => uptoBulkAll parts + 1
  | .iface _ d => uptoBulk d + 1
  | .map entries => uptoBulkEntries entries + 1
  | .held _ => 1
def uptoBulkAll {H : Type} : List (DataW H) → Nat
  | [] => 0
  | d :: r => uptoBulk d + uptoBulkAll r
def uptoBulkEntries {H : Type} : List (Lit × DataW H) → Nat
  | [] => 0
  | x :: r => uptoBulkEntry x + uptoBulkEntries r
def uptoBulkEntry {H : Type} : Lit × DataW H → Nat
  | (.string bytes, d) => bytes.length + uptoBulk d + 1
  | (_, d) => uptoBulk d + 1
 end
def uptoSmall : (H : Type) → List (DataW H) → Bool := fun _ ds => decide (uptoBulkAll ds ≤ 1048576)
def OpenSpec.upto (s : _root_.Go.ChangeSpec) : _root_.Go.OpenSpec := { _root_.Go.OpenSpec.ofChange s with cond := some uptoSmall }

/-- 'oyeztop.TopServed', WHERE WHAT IT READS IS OF BULK AT MOST 1048576: true; the input reads as it did. -/
def topServedUptoRow : OpenClaim := { program := "ytfmapnhfamoecaagreat", sum := "a583a06639d37788cd48a0d82f713017b64b1a08f2f33705ba50dfd9a0034bc5", func := "oyez/oyeztop.TopServed", spec := "topServed", unfollowed := true, recurses := true, plainKeys := false, apart := false, narrowed := true }
def TopServedUptoSaid : Prop := topServedUptoRow.holds Tryz.pinned (OpenSpec.upto topServedSpec)

/-- 'oyeztop.TopWitnessed', WHERE WHAT IT READS IS OF BULK AT MOST 1048576: true; the input reads as it did. -/
def topWitnessedUptoRow : OpenClaim := { program := "ytfmapnhfamoecaagreat", sum := "a583a06639d37788cd48a0d82f713017b64b1a08f2f33705ba50dfd9a0034bc5", func := "oyez/oyeztop.TopWitnessed", spec := "topWitnessed", unfollowed := true, recurses := true, plainKeys := false, apart := false, narrowed := true }
def TopWitnessedUptoSaid : Prop := topWitnessedUptoRow.holds Tryz.pinned (OpenSpec.upto topWitnessedSpec)

/-- 'oyeztop.TopLeft', WHERE WHAT IT READS IS OF BULK AT MOST 1048576: true; the input reads as it did. -/
def topLeftUptoRow : OpenClaim := { program := "ytfmapnhfamoecaagreat", sum := "a583a06639d37788cd48a0d82f713017b64b1a08f2f33705ba50dfd9a0034bc5", func := "oyez/oyeztop.TopLeft", spec := "topLeft", unfollowed := true, recurses := true, plainKeys := false, apart := false, narrowed := true }
def TopLeftUptoSaid : Prop := topLeftUptoRow.holds Tryz.pinned (OpenSpec.upto topLeftSpec)

end Rows
end Go.Proofs.YtfmapnhfamoecaaGreat
