/-
  No cell of these rows narrows 'for every input' (looked for: loops, veiled, ifaces, maps, wideKeys, modest, calm, conditions, laid).
  DERIVED. THE GIVEN ROWS OF THIS SEAT. 11 by the template 'for every input the law returns true; each argument reads behind the call as it read before'; 0 by the template 'total and deterministic' (their statements: YtdnmaodkdhdacaaTotals.lean).
  GIVEN WITH THE SEED: the statements are not yours to turn. If you find one false, say at which input.
  Laid BY PROGRAM, IN A SANDBOX (cutbox-rows.mjs): the forced cells as the released guide's own fill.sh prints them over the translation 582699cfa268a142… (all of the seat's roots in one cut). By AI agents, Wed Nov 11 2026. No macro, syntax, notation, axiom, sorry.
-/
import Derived.Test.YtdnmaodkdhdacaaChecked
import GoSem.Claim
import GoSem.ClaimJoined
import GoSem.ClaimMapViews
import Derived.JoinedTies
import Derived.KernelRfl
namespace Go.Proofs.Ytdnmaodkdhdacaa
/- THE CELL 'sum', in the pinned program and in every row, IS THE sha256 OF THE DUMP (.gsa) THAT YtdnmaodkdhdacaaProg.lean LOADS. Nothing in Lean hashes anything: it is a label: what it is worth is what the hold of that sum in a sandbox is worth. -/
noncomputable def Try.pinned : Pinned := { name := "ytdnmaodkdhdacaa", sum := "582699cfa268a142757bf35ce1fa3cd5f352cd6f2090365beaf1394b3e976c78", checked := Try.checked }
namespace Rows
def none {H : Type} : Left H := { results := [], args := [] }

/-- 'oyezlaw01.HearNeeds': WHATEVER THE INPUT: true; the input reads as it did. -/
def hearNeedsSpec : ChangeSpec := { name := "hearNeeds", fn := fun _ => fun
  | [d1, d2, d3, d4, d5] => { results := [.lit (.bool true)], args := [d1, d2, d3, d4, d5] }
  | _ => none }
def hearNeedsRow : OpenClaim := { program := "ytdnmaodkdhdacaa", sum := "582699cfa268a142757bf35ce1fa3cd5f352cd6f2090365beaf1394b3e976c78", func := "oyez/oyezlaw01.HearNeeds", spec := "hearNeeds", unfollowed := true, recurses := true, plainKeys := false, apart := false }
def HearNeedsSaid : Prop := hearNeedsRow.holds Try.pinned (OpenSpec.ofChange hearNeedsSpec)

/-- ITS FALSE NEIGHBOUR: 'it returns false'. Refute it at one input. -/
def hearNeedsWrong : ChangeSpec := { name := "hearNeeds", fn := fun _ => fun
  | [d1, d2, d3, d4, d5] => { results := [.lit (.bool false)], args := [d1, d2, d3, d4, d5] }
  | _ => none }
def HearNeedsWrongFalsely : Prop := hearNeedsRow.holds Try.pinned (OpenSpec.ofChange hearNeedsWrong)

/-- 'oyezlaw01.HearBest': WHATEVER THE INPUT: true; the input reads as it did. -/
def hearBestSpec : ChangeSpec := { name := "hearBest", fn := fun _ => fun
  | [d1, d2, d3, d4] => { results := [.lit (.bool true)], args := [d1, d2, d3, d4] }
  | _ => none }
def hearBestRow : OpenClaim := { program := "ytdnmaodkdhdacaa", sum := "582699cfa268a142757bf35ce1fa3cd5f352cd6f2090365beaf1394b3e976c78", func := "oyez/oyezlaw01.HearBest", spec := "hearBest", unfollowed := true, recurses := true, plainKeys := false, apart := false }
def HearBestSaid : Prop := hearBestRow.holds Try.pinned (OpenSpec.ofChange hearBestSpec)

/-- ITS FALSE NEIGHBOUR: 'it returns false'. Refute it at one input. -/
def hearBestWrong : ChangeSpec := { name := "hearBest", fn := fun _ => fun
  | [d1, d2, d3, d4] => { results := [.lit (.bool false)], args := [d1, d2, d3, d4] }
  | _ => none }
def HearBestWrongFalsely : Prop := hearBestRow.holds Try.pinned (OpenSpec.ofChange hearBestWrong)

/-- 'oyezlaw01.HearTowns': WHATEVER THE INPUT: true; the input reads as it did. -/
def hearTownsSpec : ChangeSpec := { name := "hearTowns", fn := fun _ => fun
  | [d1, d2, d3] => { results := [.lit (.bool true)], args := [d1, d2, d3] }
  | _ => none }
def hearTownsRow : OpenClaim := { program := "ytdnmaodkdhdacaa", sum := "582699cfa268a142757bf35ce1fa3cd5f352cd6f2090365beaf1394b3e976c78", func := "oyez/oyezlaw01.HearTowns", spec := "hearTowns", unfollowed := true, recurses := true, plainKeys := false, apart := false }
def HearTownsSaid : Prop := hearTownsRow.holds Try.pinned (OpenSpec.ofChange hearTownsSpec)

/-- ITS FALSE NEIGHBOUR: 'it returns false'. Refute it at one input. -/
def hearTownsWrong : ChangeSpec := { name := "hearTowns", fn := fun _ => fun
  | [d1, d2, d3] => { results := [.lit (.bool false)], args := [d1, d2, d3] }
  | _ => none }
def HearTownsWrongFalsely : Prop := hearTownsRow.holds Try.pinned (OpenSpec.ofChange hearTownsWrong)

/-- 'oyezlaw01.HearBack': WHATEVER THE INPUT: true; the input reads as it did. -/
def hearBackSpec : ChangeSpec := { name := "hearBack", fn := fun _ => fun
  | [d] => { results := [.lit (.bool true)], args := [d] }
  | _ => none }
def hearBackRow : OpenClaim := { program := "ytdnmaodkdhdacaa", sum := "582699cfa268a142757bf35ce1fa3cd5f352cd6f2090365beaf1394b3e976c78", func := "oyez/oyezlaw01.HearBack", spec := "hearBack", unfollowed := true, recurses := true, plainKeys := false, apart := false }
def HearBackSaid : Prop := hearBackRow.holds Try.pinned (OpenSpec.ofChange hearBackSpec)

/-- ITS FALSE NEIGHBOUR: 'it returns false'. Refute it at one input. -/
def hearBackWrong : ChangeSpec := { name := "hearBack", fn := fun _ => fun
  | [d] => { results := [.lit (.bool false)], args := [d] }
  | _ => none }
def HearBackWrongFalsely : Prop := hearBackRow.holds Try.pinned (OpenSpec.ofChange hearBackWrong)

/-- 'oyezlaw01.HearWays': WHATEVER THE INPUT: true; the input reads as it did. -/
def hearWaysSpec : ChangeSpec := { name := "hearWays", fn := fun _ => fun
  | [d1, d2, d3, d4, d5] => { results := [.lit (.bool true)], args := [d1, d2, d3, d4, d5] }
  | _ => none }
def hearWaysRow : OpenClaim := { program := "ytdnmaodkdhdacaa", sum := "582699cfa268a142757bf35ce1fa3cd5f352cd6f2090365beaf1394b3e976c78", func := "oyez/oyezlaw01.HearWays", spec := "hearWays", unfollowed := true, recurses := true, plainKeys := false, apart := false }
def HearWaysSaid : Prop := hearWaysRow.holds Try.pinned (OpenSpec.ofChange hearWaysSpec)

/-- ITS FALSE NEIGHBOUR: 'it returns false'. Refute it at one input. -/
def hearWaysWrong : ChangeSpec := { name := "hearWays", fn := fun _ => fun
  | [d1, d2, d3, d4, d5] => { results := [.lit (.bool false)], args := [d1, d2, d3, d4, d5] }
  | _ => none }
def HearWaysWrongFalsely : Prop := hearWaysRow.holds Try.pinned (OpenSpec.ofChange hearWaysWrong)

/-- 'oyezlaw01.HearProved': WHATEVER THE INPUT: true; the input reads as it did. -/
def hearProvedSpec : ChangeSpec := { name := "hearProved", fn := fun _ => fun
  | [d1, d2] => { results := [.lit (.bool true)], args := [d1, d2] }
  | _ => none }
def hearProvedRow : OpenClaim := { program := "ytdnmaodkdhdacaa", sum := "582699cfa268a142757bf35ce1fa3cd5f352cd6f2090365beaf1394b3e976c78", func := "oyez/oyezlaw01.HearProved", spec := "hearProved", unfollowed := true, recurses := true, plainKeys := false, apart := false }
def HearProvedSaid : Prop := hearProvedRow.holds Try.pinned (OpenSpec.ofChange hearProvedSpec)

/-- ITS FALSE NEIGHBOUR: 'it returns false'. Refute it at one input. -/
def hearProvedWrong : ChangeSpec := { name := "hearProved", fn := fun _ => fun
  | [d1, d2] => { results := [.lit (.bool false)], args := [d1, d2] }
  | _ => none }
def HearProvedWrongFalsely : Prop := hearProvedRow.holds Try.pinned (OpenSpec.ofChange hearProvedWrong)

/-- 'oyezlaw01.HearHouses': WHATEVER THE INPUT: true; the input reads as it did. -/
def hearHousesSpec : ChangeSpec := { name := "hearHouses", fn := fun _ => fun
  | [d1, d2, d3, d4] => { results := [.lit (.bool true)], args := [d1, d2, d3, d4] }
  | _ => none }
def hearHousesRow : OpenClaim := { program := "ytdnmaodkdhdacaa", sum := "582699cfa268a142757bf35ce1fa3cd5f352cd6f2090365beaf1394b3e976c78", func := "oyez/oyezlaw01.HearHouses", spec := "hearHouses", unfollowed := true, recurses := true, plainKeys := false, apart := false }
def HearHousesSaid : Prop := hearHousesRow.holds Try.pinned (OpenSpec.ofChange hearHousesSpec)

/-- ITS FALSE NEIGHBOUR: 'it returns false'. Refute it at one input. -/
def hearHousesWrong : ChangeSpec := { name := "hearHouses", fn := fun _ => fun
  | [d1, d2, d3, d4] => { results := [.lit (.bool false)], args := [d1, d2, d3, d4] }
  | _ => none }
def HearHousesWrongFalsely : Prop := hearHousesRow.holds Try.pinned (OpenSpec.ofChange hearHousesWrong)

/-- 'oyezlaw01.HearMirrored': WHATEVER THE INPUT: true; the input reads as it did. -/
def hearMirroredSpec : ChangeSpec := { name := "hearMirrored", fn := fun _ => fun
  | [d1, d2] => { results := [.lit (.bool true)], args := [d1, d2] }
  | _ => none }
def hearMirroredRow : OpenClaim := { program := "ytdnmaodkdhdacaa", sum := "582699cfa268a142757bf35ce1fa3cd5f352cd6f2090365beaf1394b3e976c78", func := "oyez/oyezlaw01.HearMirrored", spec := "hearMirrored", unfollowed := true, recurses := true, plainKeys := false, apart := false }
def HearMirroredSaid : Prop := hearMirroredRow.holds Try.pinned (OpenSpec.ofChange hearMirroredSpec)

/-- ITS FALSE NEIGHBOUR: 'it returns false'. Refute it at one input. -/
def hearMirroredWrong : ChangeSpec := { name := "hearMirrored", fn := fun _ => fun
  | [d1, d2] => { results := [.lit (.bool false)], args := [d1, d2] }
  | _ => none }
def HearMirroredWrongFalsely : Prop := hearMirroredRow.holds Try.pinned (OpenSpec.ofChange hearMirroredWrong)

/-- 'oyezlaw01.HearLouder': WHATEVER THE INPUT: true; the input reads as it did. -/
def hearLouderSpec : ChangeSpec := { name := "hearLouder", fn := fun _ => fun
  | [d1, d2, d3] => { results := [.lit (.bool true)], args := [d1, d2, d3] }
  | _ => none }
def hearLouderRow : OpenClaim := { program := "ytdnmaodkdhdacaa", sum := "582699cfa268a142757bf35ce1fa3cd5f352cd6f2090365beaf1394b3e976c78", func := "oyez/oyezlaw01.HearLouder", spec := "hearLouder", unfollowed := true, recurses := true, plainKeys := false, apart := false }
def HearLouderSaid : Prop := hearLouderRow.holds Try.pinned (OpenSpec.ofChange hearLouderSpec)

/-- ITS FALSE NEIGHBOUR: 'it returns false'. Refute it at one input. -/
def hearLouderWrong : ChangeSpec := { name := "hearLouder", fn := fun _ => fun
  | [d1, d2, d3] => { results := [.lit (.bool false)], args := [d1, d2, d3] }
  | _ => none }
def HearLouderWrongFalsely : Prop := hearLouderRow.holds Try.pinned (OpenSpec.ofChange hearLouderWrong)

/-- 'oyezlaw01.HearWalled': WHATEVER THE INPUT: true; the input reads as it did. -/
def hearWalledSpec : ChangeSpec := { name := "hearWalled", fn := fun _ => fun
  | [d1, d2] => { results := [.lit (.bool true)], args := [d1, d2] }
  | _ => none }
def hearWalledRow : OpenClaim := { program := "ytdnmaodkdhdacaa", sum := "582699cfa268a142757bf35ce1fa3cd5f352cd6f2090365beaf1394b3e976c78", func := "oyez/oyezlaw01.HearWalled", spec := "hearWalled", unfollowed := true, recurses := true, plainKeys := false, apart := false }
def HearWalledSaid : Prop := hearWalledRow.holds Try.pinned (OpenSpec.ofChange hearWalledSpec)

/-- ITS FALSE NEIGHBOUR: 'it returns false'. Refute it at one input. -/
def hearWalledWrong : ChangeSpec := { name := "hearWalled", fn := fun _ => fun
  | [d1, d2] => { results := [.lit (.bool false)], args := [d1, d2] }
  | _ => none }
def HearWalledWrongFalsely : Prop := hearWalledRow.holds Try.pinned (OpenSpec.ofChange hearWalledWrong)

/-- 'oyezlaw01.HearMore': WHATEVER THE INPUT: true; the input reads as it did. -/
def hearMoreSpec : ChangeSpec := { name := "hearMore", fn := fun _ => fun
  | [d1, d2] => { results := [.lit (.bool true)], args := [d1, d2] }
  | _ => none }
def hearMoreRow : OpenClaim := { program := "ytdnmaodkdhdacaa", sum := "582699cfa268a142757bf35ce1fa3cd5f352cd6f2090365beaf1394b3e976c78", func := "oyez/oyezlaw01.HearMore", spec := "hearMore", unfollowed := true, recurses := true, plainKeys := false, apart := false }
def HearMoreSaid : Prop := hearMoreRow.holds Try.pinned (OpenSpec.ofChange hearMoreSpec)

/-- ITS FALSE NEIGHBOUR: 'it returns false'. Refute it at one input. -/
def hearMoreWrong : ChangeSpec := { name := "hearMore", fn := fun _ => fun
  | [d1, d2] => { results := [.lit (.bool false)], args := [d1, d2] }
  | _ => none }
def HearMoreWrongFalsely : Prop := hearMoreRow.holds Try.pinned (OpenSpec.ofChange hearMoreWrong)

/- THE SECOND FORM. 'bulk': how many values and letters a reading holds, each counted each time it is reached (what is shared counts as often as it is met; a slice's spare places count too). A statement '..UptoSaid' is the law's where the arguments, and the package variables that the reading takes, are together of bulk at most 1048576: NARROWER than '..Said'. Prove '..Said' where nothing that the law and all that it calls make is longer than what came in: it says more and counts as full. Else prove '..UptoSaid'. A law counts once. -/
mutual
def uptoBulk {H : Type} : DataW H → Nat
  | .lit (.string bytes) => bytes.length + 1
  | .lit _ => 1
  | .nil => 1
  | .ptr d => uptoBulk d + 1
  | .slice elems spare => uptoBulkAll elems + uptoBulkAll spare + 1
  | .agg parts => uptoBulkAll parts + 1
  | .iface _ d => uptoBulk d + 1
  | .map entries => uptoBulkEntries entries + 1
  | .held _ => 1
def uptoBulkAll {H : Type} : List (DataW H) → Nat
  | [] => 0
  | d :: r => uptoBulk d + uptoBulkAll r
def uptoBulkEntries {H : Type} : List (Lit × DataW H) → Nat
  | [] => 0
  | x :: r => uptoBulkEntry x + uptoBulkEntries r
def uptoBulkEntry {H : Type} : Lit × DataW H → Nat
  | (.string bytes, d) => bytes.length + uptoBulk d + 1
  | (_, d) => uptoBulk d + 1
 end
def uptoSmall : (H : Type) → List (DataW H) → Bool := fun _ ds => decide (uptoBulkAll ds ≤ 1048576)
def OpenSpec.upto (s : _root_.Go.ChangeSpec) : _root_.Go.OpenSpec := { _root_.Go.OpenSpec.ofChange s with cond := some uptoSmall }

/-- 'oyezlaw01.HearNeeds', WHERE WHAT IT READS IS OF BULK AT MOST 1048576: true; the input reads as it did. -/
def hearNeedsUptoRow : OpenClaim := { program := "ytdnmaodkdhdacaa", sum := "582699cfa268a142757bf35ce1fa3cd5f352cd6f2090365beaf1394b3e976c78", func := "oyez/oyezlaw01.HearNeeds", spec := "hearNeeds", unfollowed := true, recurses := true, plainKeys := false, apart := false, narrowed := true }
def HearNeedsUptoSaid : Prop := hearNeedsUptoRow.holds Try.pinned (OpenSpec.upto hearNeedsSpec)

/-- 'oyezlaw01.HearBest', WHERE WHAT IT READS IS OF BULK AT MOST 1048576: true; the input reads as it did. -/
def hearBestUptoRow : OpenClaim := { program := "ytdnmaodkdhdacaa", sum := "582699cfa268a142757bf35ce1fa3cd5f352cd6f2090365beaf1394b3e976c78", func := "oyez/oyezlaw01.HearBest", spec := "hearBest", unfollowed := true, recurses := true, plainKeys := false, apart := false, narrowed := true }
def HearBestUptoSaid : Prop := hearBestUptoRow.holds Try.pinned (OpenSpec.upto hearBestSpec)

/-- 'oyezlaw01.HearTowns', WHERE WHAT IT READS IS OF BULK AT MOST 1048576: true; the input reads as it did. -/
def hearTownsUptoRow : OpenClaim := { program := "ytdnmaodkdhdacaa", sum := "582699cfa268a142757bf35ce1fa3cd5f352cd6f2090365beaf1394b3e976c78", func := "oyez/oyezlaw01.HearTowns", spec := "hearTowns", unfollowed := true, recurses := true, plainKeys := false, apart := false, narrowed := true }
def HearTownsUptoSaid : Prop := hearTownsUptoRow.holds Try.pinned (OpenSpec.upto hearTownsSpec)

/-- 'oyezlaw01.HearBack', WHERE WHAT IT READS IS OF BULK AT MOST 1048576: true; the input reads as it did. -/
def hearBackUptoRow : OpenClaim := { program := "ytdnmaodkdhdacaa", sum := "582699cfa268a142757bf35ce1fa3cd5f352cd6f2090365beaf1394b3e976c78", func := "oyez/oyezlaw01.HearBack", spec := "hearBack", unfollowed := true, recurses := true, plainKeys := false, apart := false, narrowed := true }
def HearBackUptoSaid : Prop := hearBackUptoRow.holds Try.pinned (OpenSpec.upto hearBackSpec)

/-- 'oyezlaw01.HearWays', WHERE WHAT IT READS IS OF BULK AT MOST 1048576: true; the input reads as it did. -/
def hearWaysUptoRow : OpenClaim := { program := "ytdnmaodkdhdacaa", sum := "582699cfa268a142757bf35ce1fa3cd5f352cd6f2090365beaf1394b3e976c78", func := "oyez/oyezlaw01.HearWays", spec := "hearWays", unfollowed := true, recurses := true, plainKeys := false, apart := false, narrowed := true }
def HearWaysUptoSaid : Prop := hearWaysUptoRow.holds Try.pinned (OpenSpec.upto hearWaysSpec)

/-- 'oyezlaw01.HearProved', WHERE WHAT IT READS IS OF BULK AT MOST 1048576: true; the input reads as it did. -/
def hearProvedUptoRow : OpenClaim := { program := "ytdnmaodkdhdacaa", sum := "582699cfa268a142757bf35ce1fa3cd5f352cd6f2090365beaf1394b3e976c78", func := "oyez/oyezlaw01.HearProved", spec := "hearProved", unfollowed := true, recurses := true, plainKeys := false, apart := false, narrowed := true }
def HearProvedUptoSaid : Prop := hearProvedUptoRow.holds Try.pinned (OpenSpec.upto hearProvedSpec)

/-- 'oyezlaw01.HearHouses', WHERE WHAT IT READS IS OF BULK AT MOST 1048576: true; the input reads as it did. -/
def hearHousesUptoRow : OpenClaim := { program := "ytdnmaodkdhdacaa", sum := "582699cfa268a142757bf35ce1fa3cd5f352cd6f2090365beaf1394b3e976c78", func := "oyez/oyezlaw01.HearHouses", spec := "hearHouses", unfollowed := true, recurses := true, plainKeys := false, apart := false, narrowed := true }
def HearHousesUptoSaid : Prop := hearHousesUptoRow.holds Try.pinned (OpenSpec.upto hearHousesSpec)

/-- 'oyezlaw01.HearMirrored', WHERE WHAT IT READS IS OF BULK AT MOST 1048576: true; the input reads as it did. -/
def hearMirroredUptoRow : OpenClaim := { program := "ytdnmaodkdhdacaa", sum := "582699cfa268a142757bf35ce1fa3cd5f352cd6f2090365beaf1394b3e976c78", func := "oyez/oyezlaw01.HearMirrored", spec := "hearMirrored", unfollowed := true, recurses := true, plainKeys := false, apart := false, narrowed := true }
def HearMirroredUptoSaid : Prop := hearMirroredUptoRow.holds Try.pinned (OpenSpec.upto hearMirroredSpec)

/-- 'oyezlaw01.HearLouder', WHERE WHAT IT READS IS OF BULK AT MOST 1048576: true; the input reads as it did. -/
def hearLouderUptoRow : OpenClaim := { program := "ytdnmaodkdhdacaa", sum := "582699cfa268a142757bf35ce1fa3cd5f352cd6f2090365beaf1394b3e976c78", func := "oyez/oyezlaw01.HearLouder", spec := "hearLouder", unfollowed := true, recurses := true, plainKeys := false, apart := false, narrowed := true }
def HearLouderUptoSaid : Prop := hearLouderUptoRow.holds Try.pinned (OpenSpec.upto hearLouderSpec)

/-- 'oyezlaw01.HearWalled', WHERE WHAT IT READS IS OF BULK AT MOST 1048576: true; the input reads as it did. -/
def hearWalledUptoRow : OpenClaim := { program := "ytdnmaodkdhdacaa", sum := "582699cfa268a142757bf35ce1fa3cd5f352cd6f2090365beaf1394b3e976c78", func := "oyez/oyezlaw01.HearWalled", spec := "hearWalled", unfollowed := true, recurses := true, plainKeys := false, apart := false, narrowed := true }
def HearWalledUptoSaid : Prop := hearWalledUptoRow.holds Try.pinned (OpenSpec.upto hearWalledSpec)

/-- 'oyezlaw01.HearMore', WHERE WHAT IT READS IS OF BULK AT MOST 1048576: true; the input reads as it did. -/
def hearMoreUptoRow : OpenClaim := { program := "ytdnmaodkdhdacaa", sum := "582699cfa268a142757bf35ce1fa3cd5f352cd6f2090365beaf1394b3e976c78", func := "oyez/oyezlaw01.HearMore", spec := "hearMore", unfollowed := true, recurses := true, plainKeys := false, apart := false, narrowed := true }
def HearMoreUptoSaid : Prop := hearMoreUptoRow.holds Try.pinned (OpenSpec.upto hearMoreSpec)

end Rows
end Go.Proofs.Ytdnmaodkdhdacaa
