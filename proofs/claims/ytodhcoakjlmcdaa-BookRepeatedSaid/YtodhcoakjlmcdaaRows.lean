/-
  No cell of these rows narrows 'for every input' (looked for: loops, veiled, ifaces, maps, wideKeys, modest, calm, conditions, laid).
  DERIVED. THE GIVEN ROWS OF THIS SEAT. 6 by the template 'for every input the law returns true; each argument reads behind the call as it read before'; 0 by the template 'total and deterministic' (their statements: YtodhcoakjlmcdaaTotals.lean).
  GIVEN WITH THE SEED: the statements are not yours to turn. If you find one false, say at which input.
  Laid BY PROGRAM, IN A SANDBOX (cutbox-rows.mjs): the forced cells as the released guide's own fill.sh prints them over the translation 13ae69d8e9e39745… (all of the seat's roots in one cut). By AI agents, Wed Nov 11 2026. No macro, syntax, notation, axiom, sorry.
-/
import Derived.Test.YtodhcoakjlmcdaaChecked
import GoSem.Claim
import GoSem.ClaimJoined
import GoSem.ClaimMapViews
import Derived.JoinedTies
import Derived.KernelRfl
namespace Go.Proofs.Ytodhcoakjlmcdaa
/- THE CELL 'sum', in the pinned program and in every row, IS THE sha256 OF THE DUMP (.gsa) THAT YtodhcoakjlmcdaaProg.lean LOADS. Nothing in Lean hashes anything: it is a label: what it is worth is what the hold of that sum in a sandbox is worth. -/
noncomputable def Try.pinned : Pinned := { name := "ytodhcoakjlmcdaa", sum := "13ae69d8e9e39745cfe5f3776c845988ce76e92f35d8d2550db26b238e1088fb", checked := Try.checked }
namespace Rows
def none {H : Type} : Left H := { results := [], args := [] }

/-- 'oyezlaw07.BookCried': WHATEVER THE INPUT: true; the input reads as it did. -/
def bookCriedSpec : ChangeSpec := { name := "bookCried", fn := fun _ => fun
  | [d1, d2] => { results := [.lit (.bool true)], args := [d1, d2] }
  | _ => none }
def bookCriedRow : OpenClaim := { program := "ytodhcoakjlmcdaa", sum := "13ae69d8e9e39745cfe5f3776c845988ce76e92f35d8d2550db26b238e1088fb", func := "oyez/oyezlaw07.BookCried", spec := "bookCried", unfollowed := true, recurses := true, plainKeys := false, apart := false }
def BookCriedSaid : Prop := bookCriedRow.holds Try.pinned (OpenSpec.ofChange bookCriedSpec)

/-- ITS FALSE NEIGHBOUR: 'it returns false'. Refute it at one input. -/
def bookCriedWrong : ChangeSpec := { name := "bookCried", fn := fun _ => fun
  | [d1, d2] => { results := [.lit (.bool false)], args := [d1, d2] }
  | _ => none }
def BookCriedWrongFalsely : Prop := bookCriedRow.holds Try.pinned (OpenSpec.ofChange bookCriedWrong)

/-- 'oyezlaw07.BookCounted': WHATEVER THE INPUT: true; the input reads as it did. -/
def bookCountedSpec : ChangeSpec := { name := "bookCounted", fn := fun _ => fun
  | [d1, d2] => { results := [.lit (.bool true)], args := [d1, d2] }
  | _ => none }
def bookCountedRow : OpenClaim := { program := "ytodhcoakjlmcdaa", sum := "13ae69d8e9e39745cfe5f3776c845988ce76e92f35d8d2550db26b238e1088fb", func := "oyez/oyezlaw07.BookCounted", spec := "bookCounted", unfollowed := true, recurses := true, plainKeys := false, apart := false }
def BookCountedSaid : Prop := bookCountedRow.holds Try.pinned (OpenSpec.ofChange bookCountedSpec)

/-- ITS FALSE NEIGHBOUR: 'it returns false'. Refute it at one input. -/
def bookCountedWrong : ChangeSpec := { name := "bookCounted", fn := fun _ => fun
  | [d1, d2] => { results := [.lit (.bool false)], args := [d1, d2] }
  | _ => none }
def BookCountedWrongFalsely : Prop := bookCountedRow.holds Try.pinned (OpenSpec.ofChange bookCountedWrong)

/-- 'oyezlaw07.BookRepeated': WHATEVER THE INPUT: true; the input reads as it did. -/
def bookRepeatedSpec : ChangeSpec := { name := "bookRepeated", fn := fun _ => fun
  | [d1, d2, d3] => { results := [.lit (.bool true)], args := [d1, d2, d3] }
  | _ => none }
def bookRepeatedRow : OpenClaim := { program := "ytodhcoakjlmcdaa", sum := "13ae69d8e9e39745cfe5f3776c845988ce76e92f35d8d2550db26b238e1088fb", func := "oyez/oyezlaw07.BookRepeated", spec := "bookRepeated", unfollowed := true, recurses := true, plainKeys := false, apart := false }
def BookRepeatedSaid : Prop := bookRepeatedRow.holds Try.pinned (OpenSpec.ofChange bookRepeatedSpec)

/-- ITS FALSE NEIGHBOUR: 'it returns false'. Refute it at one input. -/
def bookRepeatedWrong : ChangeSpec := { name := "bookRepeated", fn := fun _ => fun
  | [d1, d2, d3] => { results := [.lit (.bool false)], args := [d1, d2, d3] }
  | _ => none }
def BookRepeatedWrongFalsely : Prop := bookRepeatedRow.holds Try.pinned (OpenSpec.ofChange bookRepeatedWrong)

/-- 'oyezlaw07.BookRead': WHATEVER THE INPUT: true; the input reads as it did. -/
def bookReadSpec : ChangeSpec := { name := "bookRead", fn := fun _ => fun
  | [d1, d2] => { results := [.lit (.bool true)], args := [d1, d2] }
  | _ => none }
def bookReadRow : OpenClaim := { program := "ytodhcoakjlmcdaa", sum := "13ae69d8e9e39745cfe5f3776c845988ce76e92f35d8d2550db26b238e1088fb", func := "oyez/oyezlaw07.BookRead", spec := "bookRead", unfollowed := true, recurses := true, plainKeys := false, apart := false }
def BookReadSaid : Prop := bookReadRow.holds Try.pinned (OpenSpec.ofChange bookReadSpec)

/-- ITS FALSE NEIGHBOUR: 'it returns false'. Refute it at one input. -/
def bookReadWrong : ChangeSpec := { name := "bookRead", fn := fun _ => fun
  | [d1, d2] => { results := [.lit (.bool false)], args := [d1, d2] }
  | _ => none }
def BookReadWrongFalsely : Prop := bookReadRow.holds Try.pinned (OpenSpec.ofChange bookReadWrong)

/-- 'oyezlaw07.BookTurned': WHATEVER THE INPUT: true; the input reads as it did. -/
def bookTurnedSpec : ChangeSpec := { name := "bookTurned", fn := fun _ => fun
  | [d1, d2, d3] => { results := [.lit (.bool true)], args := [d1, d2, d3] }
  | _ => none }
def bookTurnedRow : OpenClaim := { program := "ytodhcoakjlmcdaa", sum := "13ae69d8e9e39745cfe5f3776c845988ce76e92f35d8d2550db26b238e1088fb", func := "oyez/oyezlaw07.BookTurned", spec := "bookTurned", unfollowed := true, recurses := true, plainKeys := false, apart := false }
def BookTurnedSaid : Prop := bookTurnedRow.holds Try.pinned (OpenSpec.ofChange bookTurnedSpec)

/-- ITS FALSE NEIGHBOUR: 'it returns false'. Refute it at one input. -/
def bookTurnedWrong : ChangeSpec := { name := "bookTurned", fn := fun _ => fun
  | [d1, d2, d3] => { results := [.lit (.bool false)], args := [d1, d2, d3] }
  | _ => none }
def BookTurnedWrongFalsely : Prop := bookTurnedRow.holds Try.pinned (OpenSpec.ofChange bookTurnedWrong)

/-- 'oyezlaw07.BookTold': WHATEVER THE INPUT: true; the input reads as it did. -/
def bookToldSpec : ChangeSpec := { name := "bookTold", fn := fun _ => fun
  | [d1, d2] => { results := [.lit (.bool true)], args := [d1, d2] }
  | _ => none }
def bookToldRow : OpenClaim := { program := "ytodhcoakjlmcdaa", sum := "13ae69d8e9e39745cfe5f3776c845988ce76e92f35d8d2550db26b238e1088fb", func := "oyez/oyezlaw07.BookTold", spec := "bookTold", unfollowed := true, recurses := true, plainKeys := false, apart := false }
def BookToldSaid : Prop := bookToldRow.holds Try.pinned (OpenSpec.ofChange bookToldSpec)

/-- ITS FALSE NEIGHBOUR: 'it returns false'. Refute it at one input. -/
def bookToldWrong : ChangeSpec := { name := "bookTold", fn := fun _ => fun
  | [d1, d2] => { results := [.lit (.bool false)], args := [d1, d2] }
  | _ => none }
def BookToldWrongFalsely : Prop := bookToldRow.holds Try.pinned (OpenSpec.ofChange bookToldWrong)

/- THE SECOND FORM. 'bulk': how many values and letters a reading holds, each counted each time it is reached (what is shared counts as often as it is met; a slice's spare places count too). A statement '..UptoSaid' is the law's where the arguments, and the package variables that the reading takes, are together of bulk at most 1048576: NARROWER than '..Said'. Prove '..Said' where nothing that the law and all that it calls make is longer than what came in: it says more and counts as full. Else prove '..UptoSaid'. A law counts once. -/
mutual
def uptoBulk {H : Type} : DataW H → Nat
  | .lit (.string bytes) => bytes.length + 1
  | .lit _ => 1
  | .nil => 1
  | .ptr d => uptoBulk d + 1
  | .slice elems spare => uptoBulkAll elems + uptoBulkAll spare + 1
  | .agg parts => uptoBulkAll parts + 1
  | .iface _ d => uptoBulk d + 1
  | .map entries => uptoBulkEntries entries + 1
  | .held _ => 1
def uptoBulkAll {H : Type} : List (DataW H) → Nat
  | [] => 0
  | d :: r => uptoBulk d + uptoBulkAll r
def uptoBulkEntries {H : Type} : List (Lit × DataW H) → Nat
  | [] => 0
  | x :: r => uptoBulkEntry x + uptoBulkEntries r
def uptoBulkEntry {H : Type} : Lit × DataW H → Nat
  | (.string bytes, d) => bytes.length + uptoBulk d + 1
  | (_, d) => uptoBulk d + 1
 end
def uptoSmall : (H : Type) → List (DataW H) → Bool := fun _ ds => decide (uptoBulkAll ds ≤ 1048576)
def OpenSpec.upto (s : _root_.Go.ChangeSpec) : _root_.Go.OpenSpec := { _root_.Go.OpenSpec.ofChange s with cond := some uptoSmall }

/-- 'oyezlaw07.BookCried', WHERE WHAT IT READS IS OF BULK AT MOST 1048576: true; the input reads as it did. -/
def bookCriedUptoRow : OpenClaim := { program := "ytodhcoakjlmcdaa", sum := "13ae69d8e9e39745cfe5f3776c845988ce76e92f35d8d2550db26b238e1088fb", func := "oyez/oyezlaw07.BookCried", spec := "bookCried", unfollowed := true, recurses := true, plainKeys := false, apart := false, narrowed := true }
def BookCriedUptoSaid : Prop := bookCriedUptoRow.holds Try.pinned (OpenSpec.upto bookCriedSpec)

/-- 'oyezlaw07.BookCounted', WHERE WHAT IT READS IS OF BULK AT MOST 1048576: true; the input reads as it did. -/
def bookCountedUptoRow : OpenClaim := { program := "ytodhcoakjlmcdaa", sum := "13ae69d8e9e39745cfe5f3776c845988ce76e92f35d8d2550db26b238e1088fb", func := "oyez/oyezlaw07.BookCounted", spec := "bookCounted", unfollowed := true, recurses := true, plainKeys := false, apart := false, narrowed := true }
def BookCountedUptoSaid : Prop := bookCountedUptoRow.holds Try.pinned (OpenSpec.upto bookCountedSpec)

/-- 'oyezlaw07.BookRepeated', WHERE WHAT IT READS IS OF BULK AT MOST 1048576: true; the input reads as it did. -/
def bookRepeatedUptoRow : OpenClaim := { program := "ytodhcoakjlmcdaa", sum := "13ae69d8e9e39745cfe5f3776c845988ce76e92f35d8d2550db26b238e1088fb", func := "oyez/oyezlaw07.BookRepeated", spec := "bookRepeated", unfollowed := true, recurses := true, plainKeys := false, apart := false, narrowed := true }
def BookRepeatedUptoSaid : Prop := bookRepeatedUptoRow.holds Try.pinned (OpenSpec.upto bookRepeatedSpec)

/-- 'oyezlaw07.BookRead', WHERE WHAT IT READS IS OF BULK AT MOST 1048576: true; the input reads as it did. -/
def bookReadUptoRow : OpenClaim := { program := "ytodhcoakjlmcdaa", sum := "13ae69d8e9e39745cfe5f3776c845988ce76e92f35d8d2550db26b238e1088fb", func := "oyez/oyezlaw07.BookRead", spec := "bookRead", unfollowed := true, recurses := true, plainKeys := false, apart := false, narrowed := true }
def BookReadUptoSaid : Prop := bookReadUptoRow.holds Try.pinned (OpenSpec.upto bookReadSpec)

/-- 'oyezlaw07.BookTurned', WHERE WHAT IT READS IS OF BULK AT MOST 1048576: true; the input reads as it did. -/
def bookTurnedUptoRow : OpenClaim := { program := "ytodhcoakjlmcdaa", sum := "13ae69d8e9e39745cfe5f3776c845988ce76e92f35d8d2550db26b238e1088fb", func := "oyez/oyezlaw07.BookTurned", spec := "bookTurned", unfollowed := true, recurses := true, plainKeys := false, apart := false, narrowed := true }
def BookTurnedUptoSaid : Prop := bookTurnedUptoRow.holds Try.pinned (OpenSpec.upto bookTurnedSpec)

/-- 'oyezlaw07.BookTold', WHERE WHAT IT READS IS OF BULK AT MOST 1048576: true; the input reads as it did. -/
def bookToldUptoRow : OpenClaim := { program := "ytodhcoakjlmcdaa", sum := "13ae69d8e9e39745cfe5f3776c845988ce76e92f35d8d2550db26b238e1088fb", func := "oyez/oyezlaw07.BookTold", spec := "bookTold", unfollowed := true, recurses := true, plainKeys := false, apart := false, narrowed := true }
def BookToldUptoSaid : Prop := bookToldUptoRow.holds Try.pinned (OpenSpec.upto bookToldSpec)

end Rows
end Go.Proofs.Ytodhcoakjlmcdaa
