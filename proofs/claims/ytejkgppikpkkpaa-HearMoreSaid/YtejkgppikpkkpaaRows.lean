/-
  No cell of these rows narrows 'for every input' (looked for: loops, veiled, ifaces, maps, wideKeys, modest, calm, conditions, laid).
  DERIVED. THE GIVEN ROWS OF THIS SEAT. 4 by the template 'for every input the law returns true; each argument reads behind the call as it read before'; 0 by the template 'total and deterministic' (their statements: YtejkgppikpkkpaaTotals.lean).
  GIVEN WITH THE SEED: the statements are not yours to turn. If you find one false, say at which input.
  Laid BY PROGRAM, IN A SANDBOX (cutbox-rows.mjs): the forced cells as the released guide's own fill.sh prints them over the translation 14c67de8c1e9ff82… (all of the seat's roots in one cut). By AI agents, Wed Nov 11 2026. No macro, syntax, notation, axiom, sorry.
-/
import Derived.Test.YtejkgppikpkkpaaChecked
import GoSem.Claim
import GoSem.ClaimJoined
import GoSem.ClaimMapViews
import Derived.JoinedTies
import Derived.KernelRfl
namespace Go.Proofs.Ytejkgppikpkkpaa
/- THE CELL 'sum', in the pinned program and in every row, IS THE sha256 OF THE DUMP (.gsa) THAT YtejkgppikpkkpaaProg.lean LOADS. Nothing in Lean hashes anything: it is a label: what it is worth is what the hold of that sum in a sandbox is worth. -/
noncomputable def Try.pinned : Pinned := { name := "ytejkgppikpkkpaa", sum := "14c67de8c1e9ff828a3fc31ccb6770f864438900ba0f25e07975cc7a9be342cc", checked := Try.checked }
namespace Rows
def none {H : Type} : Left H := { results := [], args := [] }

/-- 'oyezlaw01.HearMirrored': WHATEVER THE INPUT: true; the input reads as it did. -/
def hearMirroredSpec : ChangeSpec := { name := "hearMirrored", fn := fun _ => fun
  | [d1, d2] => { results := [.lit (.bool true)], args := [d1, d2] }
  | _ => none }
def hearMirroredRow : OpenClaim := { program := "ytejkgppikpkkpaa", sum := "14c67de8c1e9ff828a3fc31ccb6770f864438900ba0f25e07975cc7a9be342cc", func := "oyez/oyezlaw01.HearMirrored", spec := "hearMirrored", unfollowed := true, recurses := true, plainKeys := false, apart := false }
def HearMirroredSaid : Prop := hearMirroredRow.holds Try.pinned (OpenSpec.ofChange hearMirroredSpec)

/-- ITS FALSE NEIGHBOUR: 'it returns false'. Refute it at one input. -/
def hearMirroredWrong : ChangeSpec := { name := "hearMirrored", fn := fun _ => fun
  | [d1, d2] => { results := [.lit (.bool false)], args := [d1, d2] }
  | _ => none }
def HearMirroredWrongFalsely : Prop := hearMirroredRow.holds Try.pinned (OpenSpec.ofChange hearMirroredWrong)

/-- 'oyezlaw01.HearLouder': WHATEVER THE INPUT: true; the input reads as it did. -/
def hearLouderSpec : ChangeSpec := { name := "hearLouder", fn := fun _ => fun
  | [d1, d2, d3] => { results := [.lit (.bool true)], args := [d1, d2, d3] }
  | _ => none }
def hearLouderRow : OpenClaim := { program := "ytejkgppikpkkpaa", sum := "14c67de8c1e9ff828a3fc31ccb6770f864438900ba0f25e07975cc7a9be342cc", func := "oyez/oyezlaw01.HearLouder", spec := "hearLouder", unfollowed := true, recurses := true, plainKeys := false, apart := false }
def HearLouderSaid : Prop := hearLouderRow.holds Try.pinned (OpenSpec.ofChange hearLouderSpec)

/-- ITS FALSE NEIGHBOUR: 'it returns false'. Refute it at one input. -/
def hearLouderWrong : ChangeSpec := { name := "hearLouder", fn := fun _ => fun
  | [d1, d2, d3] => { results := [.lit (.bool false)], args := [d1, d2, d3] }
  | _ => none }
def HearLouderWrongFalsely : Prop := hearLouderRow.holds Try.pinned (OpenSpec.ofChange hearLouderWrong)

/-- 'oyezlaw01.HearWalled': WHATEVER THE INPUT: true; the input reads as it did. -/
def hearWalledSpec : ChangeSpec := { name := "hearWalled", fn := fun _ => fun
  | [d1, d2] => { results := [.lit (.bool true)], args := [d1, d2] }
  | _ => none }
def hearWalledRow : OpenClaim := { program := "ytejkgppikpkkpaa", sum := "14c67de8c1e9ff828a3fc31ccb6770f864438900ba0f25e07975cc7a9be342cc", func := "oyez/oyezlaw01.HearWalled", spec := "hearWalled", unfollowed := true, recurses := true, plainKeys := false, apart := false }
def HearWalledSaid : Prop := hearWalledRow.holds Try.pinned (OpenSpec.ofChange hearWalledSpec)

/-- ITS FALSE NEIGHBOUR: 'it returns false'. Refute it at one input. -/
def hearWalledWrong : ChangeSpec := { name := "hearWalled", fn := fun _ => fun
  | [d1, d2] => { results := [.lit (.bool false)], args := [d1, d2] }
  | _ => none }
def HearWalledWrongFalsely : Prop := hearWalledRow.holds Try.pinned (OpenSpec.ofChange hearWalledWrong)

/-- 'oyezlaw01.HearMore': WHATEVER THE INPUT: true; the input reads as it did. -/
def hearMoreSpec : ChangeSpec := { name := "hearMore", fn := fun _ => fun
  | [d1, d2] => { results := [.lit (.bool true)], args := [d1, d2] }
  | _ => none }
def hearMoreRow : OpenClaim := { program := "ytejkgppikpkkpaa", sum := "14c67de8c1e9ff828a3fc31ccb6770f864438900ba0f25e07975cc7a9be342cc", func := "oyez/oyezlaw01.HearMore", spec := "hearMore", unfollowed := true, recurses := true, plainKeys := false, apart := false }
def HearMoreSaid : Prop := hearMoreRow.holds Try.pinned (OpenSpec.ofChange hearMoreSpec)

/-- ITS FALSE NEIGHBOUR: 'it returns false'. Refute it at one input. -/
def hearMoreWrong : ChangeSpec := { name := "hearMore", fn := fun _ => fun
  | [d1, d2] => { results := [.lit (.bool false)], args := [d1, d2] }
  | _ => none }
def HearMoreWrongFalsely : Prop := hearMoreRow.holds Try.pinned (OpenSpec.ofChange hearMoreWrong)

/- THE SECOND FORM. 'bulk': how many values and letters a reading holds, each counted each time it is reached (what is shared counts as often as it is met; a slice's spare places count too). A statement '..UptoSaid' is the law's where the arguments, and the package variables that the reading takes, are together of bulk at most 1048576: NARROWER than '..Said'. Prove '..Said' where nothing that the law and all that it calls make is longer than what came in: it says more and counts as full. Else prove '..UptoSaid'. A law counts once. -/
mutual
def uptoBulk {H : Type} : DataW H → Nat
  | .lit (.string bytes) => bytes.length + 1
  | .lit _ => 1
  | .nil => 1
  | .ptr d => uptoBulk d + 1
  | .slice elems spare => uptoBulkAll elems + uptoBulkAll spare + 1
  | .agg parts => uptoBulkAll parts + 1
  | .iface _ d => uptoBulk d + 1
  | .map entries => uptoBulkEntries entries + 1
  | .held _ => 1
def uptoBulkAll {H : Type} : List (DataW H) → Nat
  | [] => 0
  | d :: r => uptoBulk d + uptoBulkAll r
def uptoBulkEntries {H : Type} : List (Lit × DataW H) → Nat
  | [] => 0
  | x :: r => uptoBulkEntry x + uptoBulkEntries r
def uptoBulkEntry {H : Type} : Lit × DataW H → Nat
  | (.string bytes, d) => bytes.length + uptoBulk d + 1
  | (_, d) => uptoBulk d + 1
 end
def uptoSmall : (H : Type) → List (DataW H) → Bool := fun _ ds => decide (uptoBulkAll ds ≤ 1048576)
def OpenSpec.upto (s : _root_.Go.ChangeSpec) : _root_.Go.OpenSpec := { _root_.Go.OpenSpec.ofChange s with cond := some uptoSmall }

/-- 'oyezlaw01.HearMirrored', WHERE WHAT IT READS IS OF BULK AT MOST 1048576: true; the input reads as it did. -/
def hearMirroredUptoRow : OpenClaim := { program := "ytejkgppikpkkpaa", sum := "14c67de8c1e9ff828a3fc31ccb6770f864438900ba0f25e07975cc7a9be342cc", func := "oyez/oyezlaw01.HearMirrored", spec := "hearMirrored", unfollowed := true, recurses := true, plainKeys := false, apart := false, narrowed := true }
def HearMirroredUptoSaid : Prop := hearMirroredUptoRow.holds Try.pinned (OpenSpec.upto hearMirroredSpec)

/-- 'oyezlaw01.HearLouder', WHERE WHAT IT READS IS OF BULK AT MOST 1048576: true; the input reads as it did. -/
def hearLouderUptoRow : OpenClaim := { program := "ytejkgppikpkkpaa", sum := "14c67de8c1e9ff828a3fc31ccb6770f864438900ba0f25e07975cc7a9be342cc", func := "oyez/oyezlaw01.HearLouder", spec := "hearLouder", unfollowed := true, recurses := true, plainKeys := false, apart := false, narrowed := true }
def HearLouderUptoSaid : Prop := hearLouderUptoRow.holds Try.pinned (OpenSpec.upto hearLouderSpec)

/-- 'oyezlaw01.HearWalled', WHERE WHAT IT READS IS OF BULK AT MOST 1048576: true; the input reads as it did. -/
def hearWalledUptoRow : OpenClaim := { program := "ytejkgppikpkkpaa", sum := "14c67de8c1e9ff828a3fc31ccb6770f864438900ba0f25e07975cc7a9be342cc", func := "oyez/oyezlaw01.HearWalled", spec := "hearWalled", unfollowed := true, recurses := true, plainKeys := false, apart := false, narrowed := true }
def HearWalledUptoSaid : Prop := hearWalledUptoRow.holds Try.pinned (OpenSpec.upto hearWalledSpec)

/-- 'oyezlaw01.HearMore', WHERE WHAT IT READS IS OF BULK AT MOST 1048576: true; the input reads as it did. -/
def hearMoreUptoRow : OpenClaim := { program := "ytejkgppikpkkpaa", sum := "14c67de8c1e9ff828a3fc31ccb6770f864438900ba0f25e07975cc7a9be342cc", func := "oyez/oyezlaw01.HearMore", spec := "hearMore", unfollowed := true, recurses := true, plainKeys := false, apart := false, narrowed := true }
def HearMoreUptoSaid : Prop := hearMoreUptoRow.holds Try.pinned (OpenSpec.upto hearMoreSpec)

end Rows
end Go.Proofs.Ytejkgppikpkkpaa
