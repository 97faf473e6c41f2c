/-
  No cell of these rows narrows 'for every input' (looked for: loops, veiled, ifaces, maps, wideKeys, modest, calm, conditions, laid).
  DERIVED. THE GIVEN ROWS OF THIS SEAT. 9 by the template 'for every input the law returns true; each argument reads behind the call as it read before'; 0 by the template 'total and deterministic' (their statements: YtjgeaaganpkceaaTotals.lean).
  GIVEN WITH THE SEED: the statements are not yours to turn. If you find one false, say at which input.
  Laid BY PROGRAM, IN A SANDBOX (cutbox-rows.mjs): the forced cells as the released guide's own fill.sh prints them over the translation 4a85364c11fc4c8a… (all of the seat's roots in one cut). By AI agents, Wed Nov 11 2026. No macro, syntax, notation, axiom, sorry.
-/
import Derived.Test.YtjgeaaganpkceaaChecked
import GoSem.Claim
import GoSem.ClaimJoined
import GoSem.ClaimMapViews
import Derived.JoinedTies
import Derived.KernelRfl
namespace Go.Proofs.Ytjgeaaganpkceaa
/- THE CELL 'sum', in the pinned program and in every row, IS THE sha256 OF THE DUMP (.gsa) THAT YtjgeaaganpkceaaProg.lean LOADS. Nothing in Lean hashes anything: it is a label: what it is worth is what the hold of that sum in a sandbox is worth. -/
noncomputable def Try.pinned : Pinned := { name := "ytjgeaaganpkceaa", sum := "4a85364c11fc4c8a7e2a12ad489bdb05176b8e39ba2f3c886e6f46f9d0c608f4", checked := Try.checked }
namespace Rows
def none {H : Type} : Left H := { results := [], args := [] }

/-- 'oyezlaw05.NightQuiet': WHATEVER THE INPUT: true; the input reads as it did. -/
def nightQuietSpec : ChangeSpec := { name := "nightQuiet", fn := fun _ => fun
  | [d1, d2] => { results := [.lit (.bool true)], args := [d1, d2] }
  | _ => none }
def nightQuietRow : OpenClaim := { program := "ytjgeaaganpkceaa", sum := "4a85364c11fc4c8a7e2a12ad489bdb05176b8e39ba2f3c886e6f46f9d0c608f4", func := "oyez/oyezlaw05.NightQuiet", spec := "nightQuiet", unfollowed := true, recurses := true, apart := false }
def NightQuietSaid : Prop := nightQuietRow.holds Try.pinned (OpenSpec.ofChange nightQuietSpec)

/-- ITS FALSE NEIGHBOUR: 'it returns false'. Refute it at one input. -/
def nightQuietWrong : ChangeSpec := { name := "nightQuiet", fn := fun _ => fun
  | [d1, d2] => { results := [.lit (.bool false)], args := [d1, d2] }
  | _ => none }
def NightQuietWrongFalsely : Prop := nightQuietRow.holds Try.pinned (OpenSpec.ofChange nightQuietWrong)

/-- 'oyezlaw05.NightFallen': WHATEVER THE INPUT: true; the input reads as it did. -/
def nightFallenSpec : ChangeSpec := { name := "nightFallen", fn := fun _ => fun
  | [d1, d2] => { results := [.lit (.bool true)], args := [d1, d2] }
  | _ => none }
def nightFallenRow : OpenClaim := { program := "ytjgeaaganpkceaa", sum := "4a85364c11fc4c8a7e2a12ad489bdb05176b8e39ba2f3c886e6f46f9d0c608f4", func := "oyez/oyezlaw05.NightFallen", spec := "nightFallen", unfollowed := true, recurses := true, apart := false }
def NightFallenSaid : Prop := nightFallenRow.holds Try.pinned (OpenSpec.ofChange nightFallenSpec)

/-- ITS FALSE NEIGHBOUR: 'it returns false'. Refute it at one input. -/
def nightFallenWrong : ChangeSpec := { name := "nightFallen", fn := fun _ => fun
  | [d1, d2] => { results := [.lit (.bool false)], args := [d1, d2] }
  | _ => none }
def NightFallenWrongFalsely : Prop := nightFallenRow.holds Try.pinned (OpenSpec.ofChange nightFallenWrong)

/-- 'oyezlaw05.NightTurned': WHATEVER THE INPUT: true; the input reads as it did. -/
def nightTurnedSpec : ChangeSpec := { name := "nightTurned", fn := fun _ => fun
  | [d] => { results := [.lit (.bool true)], args := [d] }
  | _ => none }
def nightTurnedRow : OpenClaim := { program := "ytjgeaaganpkceaa", sum := "4a85364c11fc4c8a7e2a12ad489bdb05176b8e39ba2f3c886e6f46f9d0c608f4", func := "oyez/oyezlaw05.NightTurned", spec := "nightTurned", unfollowed := true, recurses := true, apart := false }
def NightTurnedSaid : Prop := nightTurnedRow.holds Try.pinned (OpenSpec.ofChange nightTurnedSpec)

/-- ITS FALSE NEIGHBOUR: 'it returns false'. Refute it at one input. -/
def nightTurnedWrong : ChangeSpec := { name := "nightTurned", fn := fun _ => fun
  | [d] => { results := [.lit (.bool false)], args := [d] }
  | _ => none }
def NightTurnedWrongFalsely : Prop := nightTurnedRow.holds Try.pinned (OpenSpec.ofChange nightTurnedWrong)

/-- 'oyezlaw05.NightKnown': WHATEVER THE INPUT: true; the input reads as it did. -/
def nightKnownSpec : ChangeSpec := { name := "nightKnown", fn := fun _ => fun
  | [d1, d2] => { results := [.lit (.bool true)], args := [d1, d2] }
  | _ => none }
def nightKnownRow : OpenClaim := { program := "ytjgeaaganpkceaa", sum := "4a85364c11fc4c8a7e2a12ad489bdb05176b8e39ba2f3c886e6f46f9d0c608f4", func := "oyez/oyezlaw05.NightKnown", spec := "nightKnown", unfollowed := true, recurses := true, apart := false }
def NightKnownSaid : Prop := nightKnownRow.holds Try.pinned (OpenSpec.ofChange nightKnownSpec)

/-- ITS FALSE NEIGHBOUR: 'it returns false'. Refute it at one input. -/
def nightKnownWrong : ChangeSpec := { name := "nightKnown", fn := fun _ => fun
  | [d1, d2] => { results := [.lit (.bool false)], args := [d1, d2] }
  | _ => none }
def NightKnownWrongFalsely : Prop := nightKnownRow.holds Try.pinned (OpenSpec.ofChange nightKnownWrong)

/-- 'oyezlaw05.NightTabled': WHATEVER THE INPUT: true; the input reads as it did. -/
def nightTabledSpec : ChangeSpec := { name := "nightTabled", fn := fun _ => fun
  | [d1, d2] => { results := [.lit (.bool true)], args := [d1, d2] }
  | _ => none }
def nightTabledRow : OpenClaim := { program := "ytjgeaaganpkceaa", sum := "4a85364c11fc4c8a7e2a12ad489bdb05176b8e39ba2f3c886e6f46f9d0c608f4", func := "oyez/oyezlaw05.NightTabled", spec := "nightTabled", unfollowed := true, recurses := true, apart := false }
def NightTabledSaid : Prop := nightTabledRow.holds Try.pinned (OpenSpec.ofChange nightTabledSpec)

/-- ITS FALSE NEIGHBOUR: 'it returns false'. Refute it at one input. -/
def nightTabledWrong : ChangeSpec := { name := "nightTabled", fn := fun _ => fun
  | [d1, d2] => { results := [.lit (.bool false)], args := [d1, d2] }
  | _ => none }
def NightTabledWrongFalsely : Prop := nightTabledRow.holds Try.pinned (OpenSpec.ofChange nightTabledWrong)

/-- 'oyezlaw05.NightSlept': WHATEVER THE INPUT: true; the input reads as it did. -/
def nightSleptSpec : ChangeSpec := { name := "nightSlept", fn := fun _ => fun
  | [d1, d2] => { results := [.lit (.bool true)], args := [d1, d2] }
  | _ => none }
def nightSleptRow : OpenClaim := { program := "ytjgeaaganpkceaa", sum := "4a85364c11fc4c8a7e2a12ad489bdb05176b8e39ba2f3c886e6f46f9d0c608f4", func := "oyez/oyezlaw05.NightSlept", spec := "nightSlept", unfollowed := true, recurses := true, apart := false }
def NightSleptSaid : Prop := nightSleptRow.holds Try.pinned (OpenSpec.ofChange nightSleptSpec)

/-- ITS FALSE NEIGHBOUR: 'it returns false'. Refute it at one input. -/
def nightSleptWrong : ChangeSpec := { name := "nightSlept", fn := fun _ => fun
  | [d1, d2] => { results := [.lit (.bool false)], args := [d1, d2] }
  | _ => none }
def NightSleptWrongFalsely : Prop := nightSleptRow.holds Try.pinned (OpenSpec.ofChange nightSleptWrong)

/-- 'oyezlaw05.NightWrong': WHATEVER THE INPUT: true; the input reads as it did. -/
def nightWrongSpec : ChangeSpec := { name := "nightWrong", fn := fun _ => fun
  | [d1, d2] => { results := [.lit (.bool true)], args := [d1, d2] }
  | _ => none }
def nightWrongRow : OpenClaim := { program := "ytjgeaaganpkceaa", sum := "4a85364c11fc4c8a7e2a12ad489bdb05176b8e39ba2f3c886e6f46f9d0c608f4", func := "oyez/oyezlaw05.NightWrong", spec := "nightWrong", unfollowed := true, recurses := true, apart := false }
def NightWrongSaid : Prop := nightWrongRow.holds Try.pinned (OpenSpec.ofChange nightWrongSpec)

/-- ITS FALSE NEIGHBOUR: 'it returns false'. Refute it at one input. -/
def nightWrongWrong : ChangeSpec := { name := "nightWrong", fn := fun _ => fun
  | [d1, d2] => { results := [.lit (.bool false)], args := [d1, d2] }
  | _ => none }
def NightWrongWrongFalsely : Prop := nightWrongRow.holds Try.pinned (OpenSpec.ofChange nightWrongWrong)

/-- 'oyezlaw05.NightExplained': WHATEVER THE INPUT: true; the input reads as it did. -/
def nightExplainedSpec : ChangeSpec := { name := "nightExplained", fn := fun _ => fun
  | [d1, d2] => { results := [.lit (.bool true)], args := [d1, d2] }
  | _ => none }
def nightExplainedRow : OpenClaim := { program := "ytjgeaaganpkceaa", sum := "4a85364c11fc4c8a7e2a12ad489bdb05176b8e39ba2f3c886e6f46f9d0c608f4", func := "oyez/oyezlaw05.NightExplained", spec := "nightExplained", unfollowed := true, recurses := true, apart := false }
def NightExplainedSaid : Prop := nightExplainedRow.holds Try.pinned (OpenSpec.ofChange nightExplainedSpec)

/-- ITS FALSE NEIGHBOUR: 'it returns false'. Refute it at one input. -/
def nightExplainedWrong : ChangeSpec := { name := "nightExplained", fn := fun _ => fun
  | [d1, d2] => { results := [.lit (.bool false)], args := [d1, d2] }
  | _ => none }
def NightExplainedWrongFalsely : Prop := nightExplainedRow.holds Try.pinned (OpenSpec.ofChange nightExplainedWrong)

/-- 'oyezlaw05.NightChained': WHATEVER THE INPUT: true; the input reads as it did. -/
def nightChainedSpec : ChangeSpec := { name := "nightChained", fn := fun _ => fun
  | [d1, d2] => { results := [.lit (.bool true)], args := [d1, d2] }
  | _ => none }
def nightChainedRow : OpenClaim := { program := "ytjgeaaganpkceaa", sum := "4a85364c11fc4c8a7e2a12ad489bdb05176b8e39ba2f3c886e6f46f9d0c608f4", func := "oyez/oyezlaw05.NightChained", spec := "nightChained", unfollowed := true, recurses := true, apart := false }
def NightChainedSaid : Prop := nightChainedRow.holds Try.pinned (OpenSpec.ofChange nightChainedSpec)

/-- ITS FALSE NEIGHBOUR: 'it returns false'. Refute it at one input. -/
def nightChainedWrong : ChangeSpec := { name := "nightChained", fn := fun _ => fun
  | [d1, d2] => { results := [.lit (.bool false)], args := [d1, d2] }
  | _ => none }
def NightChainedWrongFalsely : Prop := nightChainedRow.holds Try.pinned (OpenSpec.ofChange nightChainedWrong)

/- THE SECOND FORM. 'bulk': how many values and letters a reading holds, each counted each time it is reached (what is shared counts as often as it is met; a slice's spare places count too). A statement '..UptoSaid' is the law's where the arguments, and the package variables that the reading takes, are together of bulk at most 1048576: NARROWER than '..Said'. Prove '..Said' where nothing that the law and all that it calls make is longer than what came in: it says more and counts as full. Else prove '..UptoSaid'. A law counts once. -/
mutual
def uptoBulk {H : Type} : DataW H → Nat
  | .lit (.string bytes) => bytes.length + 1
  | .lit _ => 1
  | .nil => 1
  | .ptr d => uptoBulk d + 1
  | .slice elems spare => uptoBulkAll elems + uptoBulkAll spare + 1
  | .agg parts => uptoBulkAll parts + 1
  | .iface _ d => uptoBulk d + 1
  | .map entries => uptoBulkEntries entries + 1
  | .held _ => 1
def uptoBulkAll {H : Type} : List (DataW H) → Nat
  | [] => 0
  | d :: r => uptoBulk d + uptoBulkAll r
def uptoBulkEntries {H : Type} : List (Lit × DataW H) → Nat
  | [] => 0
  | x :: r => uptoBulkEntry x + uptoBulkEntries r
def uptoBulkEntry {H : Type} : Lit × DataW H → Nat
  | (.string bytes, d) => bytes.length + uptoBulk d + 1
  | (_, d) => uptoBulk d + 1
 end
def uptoSmall : (H : Type) → List (DataW H) → Bool := fun _ ds => decide (uptoBulkAll ds ≤ 1048576)
def OpenSpec.upto (s : _root_.Go.ChangeSpec) : _root_.Go.OpenSpec := { _root_.Go.OpenSpec.ofChange s with cond := some uptoSmall }

/-- 'oyezlaw05.NightQuiet', WHERE WHAT IT READS IS OF BULK AT MOST 1048576: true; the input reads as it did. -/
def nightQuietUptoRow : OpenClaim := { program := "ytjgeaaganpkceaa", sum := "4a85364c11fc4c8a7e2a12ad489bdb05176b8e39ba2f3c886e6f46f9d0c608f4", func := "oyez/oyezlaw05.NightQuiet", spec := "nightQuiet", unfollowed := true, recurses := true, apart := false, narrowed := true }
def NightQuietUptoSaid : Prop := nightQuietUptoRow.holds Try.pinned (OpenSpec.upto nightQuietSpec)

/-- 'oyezlaw05.NightFallen', WHERE WHAT IT READS IS OF BULK AT MOST 1048576: true; the input reads as it did. -/
def nightFallenUptoRow : OpenClaim := { program := "ytjgeaaganpkceaa", sum := "4a85364c11fc4c8a7e2a12ad489bdb05176b8e39ba2f3c886e6f46f9d0c608f4", func := "oyez/oyezlaw05.NightFallen", spec := "nightFallen", unfollowed := true, recurses := true, apart := false, narrowed := true }
def NightFallenUptoSaid : Prop := nightFallenUptoRow.holds Try.pinned (OpenSpec.upto nightFallenSpec)

/-- 'oyezlaw05.NightTurned', WHERE WHAT IT READS IS OF BULK AT MOST 1048576: true; the input reads as it did. -/
def nightTurnedUptoRow : OpenClaim := { program := "ytjgeaaganpkceaa", sum := "4a85364c11fc4c8a7e2a12ad489bdb05176b8e39ba2f3c886e6f46f9d0c608f4", func := "oyez/oyezlaw05.NightTurned", spec := "nightTurned", unfollowed := true, recurses := true, apart := false, narrowed := true }
def NightTurnedUptoSaid : Prop := nightTurnedUptoRow.holds Try.pinned (OpenSpec.upto nightTurnedSpec)

/-- 'oyezlaw05.NightKnown', WHERE WHAT IT READS IS OF BULK AT MOST 1048576: true; the input reads as it did. -/
def nightKnownUptoRow : OpenClaim := { program := "ytjgeaaganpkceaa", sum := "4a85364c11fc4c8a7e2a12ad489bdb05176b8e39ba2f3c886e6f46f9d0c608f4", func := "oyez/oyezlaw05.NightKnown", spec := "nightKnown", unfollowed := true, recurses := true, apart := false, narrowed := true }
def NightKnownUptoSaid : Prop := nightKnownUptoRow.holds Try.pinned (OpenSpec.upto nightKnownSpec)

/-- 'oyezlaw05.NightTabled', WHERE WHAT IT READS IS OF BULK AT MOST 1048576: true; the input reads as it did. -/
def nightTabledUptoRow : OpenClaim := { program := "ytjgeaaganpkceaa", sum := "4a85364c11fc4c8a7e2a12ad489bdb05176b8e39ba2f3c886e6f46f9d0c608f4", func := "oyez/oyezlaw05.NightTabled", spec := "nightTabled", unfollowed := true, recurses := true, apart := false, narrowed := true }
def NightTabledUptoSaid : Prop := nightTabledUptoRow.holds Try.pinned (OpenSpec.upto nightTabledSpec)

/-- 'oyezlaw05.NightSlept', WHERE WHAT IT READS IS OF BULK AT MOST 1048576: true; the input reads as it did. -/
def nightSleptUptoRow : OpenClaim := { program := "ytjgeaaganpkceaa", sum := "4a85364c11fc4c8a7e2a12ad489bdb05176b8e39ba2f3c886e6f46f9d0c608f4", func := "oyez/oyezlaw05.NightSlept", spec := "nightSlept", unfollowed := true, recurses := true, apart := false, narrowed := true }
def NightSleptUptoSaid : Prop := nightSleptUptoRow.holds Try.pinned (OpenSpec.upto nightSleptSpec)

/-- 'oyezlaw05.NightWrong', WHERE WHAT IT READS IS OF BULK AT MOST 1048576: true; the input reads as it did. -/
def nightWrongUptoRow : OpenClaim := { program := "ytjgeaaganpkceaa", sum := "4a85364c11fc4c8a7e2a12ad489bdb05176b8e39ba2f3c886e6f46f9d0c608f4", func := "oyez/oyezlaw05.NightWrong", spec := "nightWrong", unfollowed := true, recurses := true, apart := false, narrowed := true }
def NightWrongUptoSaid : Prop := nightWrongUptoRow.holds Try.pinned (OpenSpec.upto nightWrongSpec)

/-- 'oyezlaw05.NightExplained', WHERE WHAT IT READS IS OF BULK AT MOST 1048576: true; the input reads as it did. -/
def nightExplainedUptoRow : OpenClaim := { program := "ytjgeaaganpkceaa", sum := "4a85364c11fc4c8a7e2a12ad489bdb05176b8e39ba2f3c886e6f46f9d0c608f4", func := "oyez/oyezlaw05.NightExplained", spec := "nightExplained", unfollowed := true, recurses := true, apart := false, narrowed := true }
def NightExplainedUptoSaid : Prop := nightExplainedUptoRow.holds Try.pinned (OpenSpec.upto nightExplainedSpec)

/-- 'oyezlaw05.NightChained', WHERE WHAT IT READS IS OF BULK AT MOST 1048576: true; the input reads as it did. -/
def nightChainedUptoRow : OpenClaim := { program := "ytjgeaaganpkceaa", sum := "4a85364c11fc4c8a7e2a12ad489bdb05176b8e39ba2f3c886e6f46f9d0c608f4", func := "oyez/oyezlaw05.NightChained", spec := "nightChained", unfollowed := true, recurses := true, apart := false, narrowed := true }
def NightChainedUptoSaid : Prop := nightChainedUptoRow.holds Try.pinned (OpenSpec.upto nightChainedSpec)

end Rows
end Go.Proofs.Ytjgeaaganpkceaa
