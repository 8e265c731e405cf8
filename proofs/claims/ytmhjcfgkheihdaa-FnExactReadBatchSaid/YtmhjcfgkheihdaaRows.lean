/-
  No cell of these rows narrows 'for every input' (looked for: loops, veiled, ifaces, maps, wideKeys, modest, calm, conditions, laid).
  DERIVED. THE GIVEN ROWS OF THIS SEAT. 13 by the template 'for every input the law returns true; each argument reads behind the call as it read before'; 0 by the template 'total and deterministic' (their statements: YtmhjcfgkheihdaaTotals.lean).
  GIVEN WITH THE SEED: the statements are not yours to turn. If you find one false, say at which input.
  Laid BY PROGRAM, IN A SANDBOX (cutbox-rows.mjs): the forced cells as the released guide's own fill.sh prints them over the translation 76b3a6affb169247… (all of the seat's roots in one cut). By AI agents, Wed Nov 11 2026. No macro, syntax, notation, axiom, sorry.
-/
import Derived.Test.YtmhjcfgkheihdaaChecked
import GoSem.Claim
import GoSem.ClaimJoined
import GoSem.ClaimMapViews
import Derived.JoinedTies
import Derived.KernelRfl
namespace Go.Proofs.Ytmhjcfgkheihdaa
/- THE CELL 'sum', in the pinned program and in every row, IS THE sha256 OF THE DUMP (.gsa) THAT YtmhjcfgkheihdaaProg.lean LOADS. Nothing in Lean hashes anything: it is a label: what it is worth is what the hold of that sum in a sandbox is worth. -/
noncomputable def Try.pinned : Pinned := { name := "ytmhjcfgkheihdaa", sum := "76b3a6affb1692472e72b8a2377b5c3d4e130fcf4a958c1d2b21129d5976f74c", checked := Try.checked }
namespace Rows
def none {H : Type} : Left H := { results := [], args := [] }

/-- 'laws.FnExactValidState': WHATEVER THE INPUT: true; the input reads as it did. -/
def fnExactValidStateSpec : ChangeSpec := { name := "fnExactValidState", fn := fun _ => fun
  | [d] => { results := [.lit (.bool true)], args := [d] }
  | _ => none }
def fnExactValidStateRow : OpenClaim := { program := "ytmhjcfgkheihdaa", sum := "76b3a6affb1692472e72b8a2377b5c3d4e130fcf4a958c1d2b21129d5976f74c", func := "loop.example/kilnstone/laws.FnExactValidState", spec := "fnExactValidState", apart := false }
def FnExactValidStateSaid : Prop := fnExactValidStateRow.holds Try.pinned (OpenSpec.ofChange fnExactValidStateSpec)

/-- ITS FALSE NEIGHBOUR: 'it returns false'. Refute it at one input. -/
def fnExactValidStateWrong : ChangeSpec := { name := "fnExactValidState", fn := fun _ => fun
  | [d] => { results := [.lit (.bool false)], args := [d] }
  | _ => none }
def FnExactValidStateWrongFalsely : Prop := fnExactValidStateRow.holds Try.pinned (OpenSpec.ofChange fnExactValidStateWrong)

/-- 'laws.FnExactGet': WHATEVER THE INPUT: true; the input reads as it did. -/
def fnExactGetSpec : ChangeSpec := { name := "fnExactGet", fn := fun _ => fun
  | [d1, d2] => { results := [.lit (.bool true)], args := [d1, d2] }
  | _ => none }
def fnExactGetRow : OpenClaim := { program := "ytmhjcfgkheihdaa", sum := "76b3a6affb1692472e72b8a2377b5c3d4e130fcf4a958c1d2b21129d5976f74c", func := "loop.example/kilnstone/laws.FnExactGet", spec := "fnExactGet", apart := false }
def FnExactGetSaid : Prop := fnExactGetRow.holds Try.pinned (OpenSpec.ofChange fnExactGetSpec)

/-- ITS FALSE NEIGHBOUR: 'it returns false'. Refute it at one input. -/
def fnExactGetWrong : ChangeSpec := { name := "fnExactGet", fn := fun _ => fun
  | [d1, d2] => { results := [.lit (.bool false)], args := [d1, d2] }
  | _ => none }
def FnExactGetWrongFalsely : Prop := fnExactGetRow.holds Try.pinned (OpenSpec.ofChange fnExactGetWrong)

/-- 'laws.FnExactValidDisk': WHATEVER THE INPUT: true; the input reads as it did. -/
def fnExactValidDiskSpec : ChangeSpec := { name := "fnExactValidDisk", fn := fun _ => fun
  | [d] => { results := [.lit (.bool true)], args := [d] }
  | _ => none }
def fnExactValidDiskRow : OpenClaim := { program := "ytmhjcfgkheihdaa", sum := "76b3a6affb1692472e72b8a2377b5c3d4e130fcf4a958c1d2b21129d5976f74c", func := "loop.example/kilnstone/laws.FnExactValidDisk", spec := "fnExactValidDisk", apart := false }
def FnExactValidDiskSaid : Prop := fnExactValidDiskRow.holds Try.pinned (OpenSpec.ofChange fnExactValidDiskSpec)

/-- ITS FALSE NEIGHBOUR: 'it returns false'. Refute it at one input. -/
def fnExactValidDiskWrong : ChangeSpec := { name := "fnExactValidDisk", fn := fun _ => fun
  | [d] => { results := [.lit (.bool false)], args := [d] }
  | _ => none }
def FnExactValidDiskWrongFalsely : Prop := fnExactValidDiskRow.holds Try.pinned (OpenSpec.ofChange fnExactValidDiskWrong)

/-- 'laws.FnExactFormBatch': WHATEVER THE INPUT: true; the input reads as it did. -/
def fnExactFormBatchSpec : ChangeSpec := { name := "fnExactFormBatch", fn := fun _ => fun
  | [d] => { results := [.lit (.bool true)], args := [d] }
  | _ => none }
def fnExactFormBatchRow : OpenClaim := { program := "ytmhjcfgkheihdaa", sum := "76b3a6affb1692472e72b8a2377b5c3d4e130fcf4a958c1d2b21129d5976f74c", func := "loop.example/kilnstone/laws.FnExactFormBatch", spec := "fnExactFormBatch", inPlace := ["internal/abi.NoEscape"], apart := false }
def FnExactFormBatchSaid : Prop := fnExactFormBatchRow.holds Try.pinned (OpenSpec.ofChange fnExactFormBatchSpec)

/-- ITS FALSE NEIGHBOUR: 'it returns false'. Refute it at one input. -/
def fnExactFormBatchWrong : ChangeSpec := { name := "fnExactFormBatch", fn := fun _ => fun
  | [d] => { results := [.lit (.bool false)], args := [d] }
  | _ => none }
def FnExactFormBatchWrongFalsely : Prop := fnExactFormBatchRow.holds Try.pinned (OpenSpec.ofChange fnExactFormBatchWrong)

/-- 'laws.FnExactReadBatch': WHATEVER THE INPUT: true; the input reads as it did. -/
def fnExactReadBatchSpec : ChangeSpec := { name := "fnExactReadBatch", fn := fun _ => fun
  | [d] => { results := [.lit (.bool true)], args := [d] }
  | _ => none }
def fnExactReadBatchRow : OpenClaim := { program := "ytmhjcfgkheihdaa", sum := "76b3a6affb1692472e72b8a2377b5c3d4e130fcf4a958c1d2b21129d5976f74c", func := "loop.example/kilnstone/laws.FnExactReadBatch", spec := "fnExactReadBatch", unfollowed := true, recurses := true, apart := false }
def FnExactReadBatchSaid : Prop := fnExactReadBatchRow.holds Try.pinned (OpenSpec.ofChange fnExactReadBatchSpec)

/-- ITS FALSE NEIGHBOUR: 'it returns false'. Refute it at one input. -/
def fnExactReadBatchWrong : ChangeSpec := { name := "fnExactReadBatch", fn := fun _ => fun
  | [d] => { results := [.lit (.bool false)], args := [d] }
  | _ => none }
def FnExactReadBatchWrongFalsely : Prop := fnExactReadBatchRow.holds Try.pinned (OpenSpec.ofChange fnExactReadBatchWrong)

/-- 'laws.FnExactSector': WHATEVER THE INPUT: true; the input reads as it did. -/
def fnExactSectorSpec : ChangeSpec := { name := "fnExactSector", fn := fun _ => fun
  | [d1, d2] => { results := [.lit (.bool true)], args := [d1, d2] }
  | _ => none }
def fnExactSectorRow : OpenClaim := { program := "ytmhjcfgkheihdaa", sum := "76b3a6affb1692472e72b8a2377b5c3d4e130fcf4a958c1d2b21129d5976f74c", func := "loop.example/kilnstone/laws.FnExactSector", spec := "fnExactSector", apart := false }
def FnExactSectorSaid : Prop := fnExactSectorRow.holds Try.pinned (OpenSpec.ofChange fnExactSectorSpec)

/-- ITS FALSE NEIGHBOUR: 'it returns false'. Refute it at one input. -/
def fnExactSectorWrong : ChangeSpec := { name := "fnExactSector", fn := fun _ => fun
  | [d1, d2] => { results := [.lit (.bool false)], args := [d1, d2] }
  | _ => none }
def FnExactSectorWrongFalsely : Prop := fnExactSectorRow.holds Try.pinned (OpenSpec.ofChange fnExactSectorWrong)

/-- 'laws.FnExactSnapshot': WHATEVER THE INPUT: true; the input reads as it did. -/
def fnExactSnapshotSpec : ChangeSpec := { name := "fnExactSnapshot", fn := fun _ => fun
  | [d] => { results := [.lit (.bool true)], args := [d] }
  | _ => none }
def fnExactSnapshotRow : OpenClaim := { program := "ytmhjcfgkheihdaa", sum := "76b3a6affb1692472e72b8a2377b5c3d4e130fcf4a958c1d2b21129d5976f74c", func := "loop.example/kilnstone/laws.FnExactSnapshot", spec := "fnExactSnapshot", apart := false }
def FnExactSnapshotSaid : Prop := fnExactSnapshotRow.holds Try.pinned (OpenSpec.ofChange fnExactSnapshotSpec)

/-- ITS FALSE NEIGHBOUR: 'it returns false'. Refute it at one input. -/
def fnExactSnapshotWrong : ChangeSpec := { name := "fnExactSnapshot", fn := fun _ => fun
  | [d] => { results := [.lit (.bool false)], args := [d] }
  | _ => none }
def FnExactSnapshotWrongFalsely : Prop := fnExactSnapshotRow.holds Try.pinned (OpenSpec.ofChange fnExactSnapshotWrong)

/-- 'laws.FnExactFormPage': WHATEVER THE INPUT: true; the input reads as it did. -/
def fnExactFormPageSpec : ChangeSpec := { name := "fnExactFormPage", fn := fun _ => fun
  | [d1, d2] => { results := [.lit (.bool true)], args := [d1, d2] }
  | _ => none }
def fnExactFormPageRow : OpenClaim := { program := "ytmhjcfgkheihdaa", sum := "76b3a6affb1692472e72b8a2377b5c3d4e130fcf4a958c1d2b21129d5976f74c", func := "loop.example/kilnstone/laws.FnExactFormPage", spec := "fnExactFormPage", inPlace := ["internal/abi.NoEscape", "internal/bytealg.MakeNoZero"], apart := false }
def FnExactFormPageSaid : Prop := fnExactFormPageRow.holds Try.pinned (OpenSpec.ofChange fnExactFormPageSpec)

/-- ITS FALSE NEIGHBOUR: 'it returns false'. Refute it at one input. -/
def fnExactFormPageWrong : ChangeSpec := { name := "fnExactFormPage", fn := fun _ => fun
  | [d1, d2] => { results := [.lit (.bool false)], args := [d1, d2] }
  | _ => none }
def FnExactFormPageWrongFalsely : Prop := fnExactFormPageRow.holds Try.pinned (OpenSpec.ofChange fnExactFormPageWrong)

/-- 'laws.FnExactRootPage': WHATEVER THE INPUT: true; the input reads as it did. -/
def fnExactRootPageSpec : ChangeSpec := { name := "fnExactRootPage", fn := fun _ => fun
  | [d1, d2] => { results := [.lit (.bool true)], args := [d1, d2] }
  | _ => none }
def fnExactRootPageRow : OpenClaim := { program := "ytmhjcfgkheihdaa", sum := "76b3a6affb1692472e72b8a2377b5c3d4e130fcf4a958c1d2b21129d5976f74c", func := "loop.example/kilnstone/laws.FnExactRootPage", spec := "fnExactRootPage", inPlace := ["internal/abi.NoEscape", "internal/bytealg.MakeNoZero"], apart := false }
def FnExactRootPageSaid : Prop := fnExactRootPageRow.holds Try.pinned (OpenSpec.ofChange fnExactRootPageSpec)

/-- ITS FALSE NEIGHBOUR: 'it returns false'. Refute it at one input. -/
def fnExactRootPageWrong : ChangeSpec := { name := "fnExactRootPage", fn := fun _ => fun
  | [d1, d2] => { results := [.lit (.bool false)], args := [d1, d2] }
  | _ => none }
def FnExactRootPageWrongFalsely : Prop := fnExactRootPageRow.holds Try.pinned (OpenSpec.ofChange fnExactRootPageWrong)

/-- 'laws.FnExactRoom': WHATEVER THE INPUT: true; the input reads as it did. -/
def fnExactRoomSpec : ChangeSpec := { name := "fnExactRoom", fn := fun _ => fun
  | [d1, d2] => { results := [.lit (.bool true)], args := [d1, d2] }
  | _ => none }
def fnExactRoomRow : OpenClaim := { program := "ytmhjcfgkheihdaa", sum := "76b3a6affb1692472e72b8a2377b5c3d4e130fcf4a958c1d2b21129d5976f74c", func := "loop.example/kilnstone/laws.FnExactRoom", spec := "fnExactRoom", inPlace := ["internal/abi.NoEscape"], apart := false }
def FnExactRoomSaid : Prop := fnExactRoomRow.holds Try.pinned (OpenSpec.ofChange fnExactRoomSpec)

/-- ITS FALSE NEIGHBOUR: 'it returns false'. Refute it at one input. -/
def fnExactRoomWrong : ChangeSpec := { name := "fnExactRoom", fn := fun _ => fun
  | [d1, d2] => { results := [.lit (.bool false)], args := [d1, d2] }
  | _ => none }
def FnExactRoomWrongFalsely : Prop := fnExactRoomRow.holds Try.pinned (OpenSpec.ofChange fnExactRoomWrong)

/-- 'laws.FnExactNewDisk': WHATEVER THE INPUT: true; the input reads as it did. -/
def fnExactNewDiskSpec : ChangeSpec := { name := "fnExactNewDisk", fn := fun _ => fun
  | [d] => { results := [.lit (.bool true)], args := [d] }
  | _ => none }
def fnExactNewDiskRow : OpenClaim := { program := "ytmhjcfgkheihdaa", sum := "76b3a6affb1692472e72b8a2377b5c3d4e130fcf4a958c1d2b21129d5976f74c", func := "loop.example/kilnstone/laws.FnExactNewDisk", spec := "fnExactNewDisk", inPlace := ["internal/abi.NoEscape", "internal/bytealg.MakeNoZero"], apart := false }
def FnExactNewDiskSaid : Prop := fnExactNewDiskRow.holds Try.pinned (OpenSpec.ofChange fnExactNewDiskSpec)

/-- ITS FALSE NEIGHBOUR: 'it returns false'. Refute it at one input. -/
def fnExactNewDiskWrong : ChangeSpec := { name := "fnExactNewDisk", fn := fun _ => fun
  | [d] => { results := [.lit (.bool false)], args := [d] }
  | _ => none }
def FnExactNewDiskWrongFalsely : Prop := fnExactNewDiskRow.holds Try.pinned (OpenSpec.ofChange fnExactNewDiskWrong)

/-- 'laws.FnExactPowerLoss': WHATEVER THE INPUT: true; the input reads as it did. -/
def fnExactPowerLossSpec : ChangeSpec := { name := "fnExactPowerLoss", fn := fun _ => fun
  | [d1, d2] => { results := [.lit (.bool true)], args := [d1, d2] }
  | _ => none }
def fnExactPowerLossRow : OpenClaim := { program := "ytmhjcfgkheihdaa", sum := "76b3a6affb1692472e72b8a2377b5c3d4e130fcf4a958c1d2b21129d5976f74c", func := "loop.example/kilnstone/laws.FnExactPowerLoss", spec := "fnExactPowerLoss", apart := false }
def FnExactPowerLossSaid : Prop := fnExactPowerLossRow.holds Try.pinned (OpenSpec.ofChange fnExactPowerLossSpec)

/-- ITS FALSE NEIGHBOUR: 'it returns false'. Refute it at one input. -/
def fnExactPowerLossWrong : ChangeSpec := { name := "fnExactPowerLoss", fn := fun _ => fun
  | [d1, d2] => { results := [.lit (.bool false)], args := [d1, d2] }
  | _ => none }
def FnExactPowerLossWrongFalsely : Prop := fnExactPowerLossRow.holds Try.pinned (OpenSpec.ofChange fnExactPowerLossWrong)

/-- 'laws.FnExactReadPage': WHATEVER THE INPUT: true; the input reads as it did. -/
def fnExactReadPageSpec : ChangeSpec := { name := "fnExactReadPage", fn := fun _ => fun
  | [d1, d2] => { results := [.lit (.bool true)], args := [d1, d2] }
  | _ => none }
def fnExactReadPageRow : OpenClaim := { program := "ytmhjcfgkheihdaa", sum := "76b3a6affb1692472e72b8a2377b5c3d4e130fcf4a958c1d2b21129d5976f74c", func := "loop.example/kilnstone/laws.FnExactReadPage", spec := "fnExactReadPage", inPlace := ["internal/abi.NoEscape", "internal/bytealg.MakeNoZero"], apart := false }
def FnExactReadPageSaid : Prop := fnExactReadPageRow.holds Try.pinned (OpenSpec.ofChange fnExactReadPageSpec)

/-- ITS FALSE NEIGHBOUR: 'it returns false'. Refute it at one input. -/
def fnExactReadPageWrong : ChangeSpec := { name := "fnExactReadPage", fn := fun _ => fun
  | [d1, d2] => { results := [.lit (.bool false)], args := [d1, d2] }
  | _ => none }
def FnExactReadPageWrongFalsely : Prop := fnExactReadPageRow.holds Try.pinned (OpenSpec.ofChange fnExactReadPageWrong)

/- THE SECOND FORM. 'bulk': how many values and letters a reading holds, each counted each time it is reached (what is shared counts as often as it is met; a slice's spare places count too). A statement '..UptoSaid' is the law's where the arguments, and the package variables that the reading takes, are together of bulk at most 1048576: NARROWER than '..Said'. Prove '..Said' where nothing that the law and all that it calls make is longer than what came in: it says more and counts as full. Else prove '..UptoSaid'. A law counts once. -/
mutual
def uptoBulk {H : Type} : DataW H → Nat
  | .lit (.string bytes) => bytes.length + 1
  | .lit _ => 1
  | .nil => 1
  | .ptr d => uptoBulk d + 1
  | .slice elems spare => uptoBulkAll elems + uptoBulkAll spare + 1
  | .agg parts => uptoBulkAll parts + 1
  | .iface _ d => uptoBulk d + 1
  | .map entries => uptoBulkEntries entries + 1
  | .held _ => 1
def uptoBulkAll {H : Type} : List (DataW H) → Nat
  | [] => 0
  | d :: r => uptoBulk d + uptoBulkAll r
def uptoBulkEntries {H : Type} : List (Lit × DataW H) → Nat
  | [] => 0
  | x :: r => uptoBulkEntry x + uptoBulkEntries r
def uptoBulkEntry {H : Type} : Lit × DataW H → Nat
  | (.string bytes, d) => bytes.length + uptoBulk d + 1
  | (_, d) => uptoBulk d + 1
 end
def uptoSmall : (H : Type) → List (DataW H) → Bool := fun _ ds => decide (uptoBulkAll ds ≤ 1048576)
def OpenSpec.upto (s : _root_.Go.ChangeSpec) : _root_.Go.OpenSpec := { _root_.Go.OpenSpec.ofChange s with cond := some uptoSmall }

/-- 'laws.FnExactValidState', WHERE WHAT IT READS IS OF BULK AT MOST 1048576: true; the input reads as it did. -/
def fnExactValidStateUptoRow : OpenClaim := { program := "ytmhjcfgkheihdaa", sum := "76b3a6affb1692472e72b8a2377b5c3d4e130fcf4a958c1d2b21129d5976f74c", func := "loop.example/kilnstone/laws.FnExactValidState", spec := "fnExactValidState", apart := false, narrowed := true }
def FnExactValidStateUptoSaid : Prop := fnExactValidStateUptoRow.holds Try.pinned (OpenSpec.upto fnExactValidStateSpec)

/-- 'laws.FnExactGet', WHERE WHAT IT READS IS OF BULK AT MOST 1048576: true; the input reads as it did. -/
def fnExactGetUptoRow : OpenClaim := { program := "ytmhjcfgkheihdaa", sum := "76b3a6affb1692472e72b8a2377b5c3d4e130fcf4a958c1d2b21129d5976f74c", func := "loop.example/kilnstone/laws.FnExactGet", spec := "fnExactGet", apart := false, narrowed := true }
def FnExactGetUptoSaid : Prop := fnExactGetUptoRow.holds Try.pinned (OpenSpec.upto fnExactGetSpec)

/-- 'laws.FnExactValidDisk', WHERE WHAT IT READS IS OF BULK AT MOST 1048576: true; the input reads as it did. -/
def fnExactValidDiskUptoRow : OpenClaim := { program := "ytmhjcfgkheihdaa", sum := "76b3a6affb1692472e72b8a2377b5c3d4e130fcf4a958c1d2b21129d5976f74c", func := "loop.example/kilnstone/laws.FnExactValidDisk", spec := "fnExactValidDisk", apart := false, narrowed := true }
def FnExactValidDiskUptoSaid : Prop := fnExactValidDiskUptoRow.holds Try.pinned (OpenSpec.upto fnExactValidDiskSpec)

/-- 'laws.FnExactFormBatch', WHERE WHAT IT READS IS OF BULK AT MOST 1048576: true; the input reads as it did. -/
def fnExactFormBatchUptoRow : OpenClaim := { program := "ytmhjcfgkheihdaa", sum := "76b3a6affb1692472e72b8a2377b5c3d4e130fcf4a958c1d2b21129d5976f74c", func := "loop.example/kilnstone/laws.FnExactFormBatch", spec := "fnExactFormBatch", inPlace := ["internal/abi.NoEscape"], apart := false, narrowed := true }
def FnExactFormBatchUptoSaid : Prop := fnExactFormBatchUptoRow.holds Try.pinned (OpenSpec.upto fnExactFormBatchSpec)

/-- 'laws.FnExactReadBatch', WHERE WHAT IT READS IS OF BULK AT MOST 1048576: true; the input reads as it did. -/
def fnExactReadBatchUptoRow : OpenClaim := { program := "ytmhjcfgkheihdaa", sum := "76b3a6affb1692472e72b8a2377b5c3d4e130fcf4a958c1d2b21129d5976f74c", func := "loop.example/kilnstone/laws.FnExactReadBatch", spec := "fnExactReadBatch", unfollowed := true, recurses := true, apart := false, narrowed := true }
def FnExactReadBatchUptoSaid : Prop := fnExactReadBatchUptoRow.holds Try.pinned (OpenSpec.upto fnExactReadBatchSpec)

/-- 'laws.FnExactSector', WHERE WHAT IT READS IS OF BULK AT MOST 1048576: true; the input reads as it did. -/
def fnExactSectorUptoRow : OpenClaim := { program := "ytmhjcfgkheihdaa", sum := "76b3a6affb1692472e72b8a2377b5c3d4e130fcf4a958c1d2b21129d5976f74c", func := "loop.example/kilnstone/laws.FnExactSector", spec := "fnExactSector", apart := false, narrowed := true }
def FnExactSectorUptoSaid : Prop := fnExactSectorUptoRow.holds Try.pinned (OpenSpec.upto fnExactSectorSpec)

/-- 'laws.FnExactSnapshot', WHERE WHAT IT READS IS OF BULK AT MOST 1048576: true; the input reads as it did. -/
def fnExactSnapshotUptoRow : OpenClaim := { program := "ytmhjcfgkheihdaa", sum := "76b3a6affb1692472e72b8a2377b5c3d4e130fcf4a958c1d2b21129d5976f74c", func := "loop.example/kilnstone/laws.FnExactSnapshot", spec := "fnExactSnapshot", apart := false, narrowed := true }
def FnExactSnapshotUptoSaid : Prop := fnExactSnapshotUptoRow.holds Try.pinned (OpenSpec.upto fnExactSnapshotSpec)

/-- 'laws.FnExactFormPage', WHERE WHAT IT READS IS OF BULK AT MOST 1048576: true; the input reads as it did. -/
def fnExactFormPageUptoRow : OpenClaim := { program := "ytmhjcfgkheihdaa", sum := "76b3a6affb1692472e72b8a2377b5c3d4e130fcf4a958c1d2b21129d5976f74c", func := "loop.example/kilnstone/laws.FnExactFormPage", spec := "fnExactFormPage", inPlace := ["internal/abi.NoEscape", "internal/bytealg.MakeNoZero"], apart := false, narrowed := true }
def FnExactFormPageUptoSaid : Prop := fnExactFormPageUptoRow.holds Try.pinned (OpenSpec.upto fnExactFormPageSpec)

/-- 'laws.FnExactRootPage', WHERE WHAT IT READS IS OF BULK AT MOST 1048576: true; the input reads as it did. -/
def fnExactRootPageUptoRow : OpenClaim := { program := "ytmhjcfgkheihdaa", sum := "76b3a6affb1692472e72b8a2377b5c3d4e130fcf4a958c1d2b21129d5976f74c", func := "loop.example/kilnstone/laws.FnExactRootPage", spec := "fnExactRootPage", inPlace := ["internal/abi.NoEscape", "internal/bytealg.MakeNoZero"], apart := false, narrowed := true }
def FnExactRootPageUptoSaid : Prop := fnExactRootPageUptoRow.holds Try.pinned (OpenSpec.upto fnExactRootPageSpec)

/-- 'laws.FnExactRoom', WHERE WHAT IT READS IS OF BULK AT MOST 1048576: true; the input reads as it did. -/
def fnExactRoomUptoRow : OpenClaim := { program := "ytmhjcfgkheihdaa", sum := "76b3a6affb1692472e72b8a2377b5c3d4e130fcf4a958c1d2b21129d5976f74c", func := "loop.example/kilnstone/laws.FnExactRoom", spec := "fnExactRoom", inPlace := ["internal/abi.NoEscape"], apart := false, narrowed := true }
def FnExactRoomUptoSaid : Prop := fnExactRoomUptoRow.holds Try.pinned (OpenSpec.upto fnExactRoomSpec)

/-- 'laws.FnExactNewDisk', WHERE WHAT IT READS IS OF BULK AT MOST 1048576: true; the input reads as it did. -/
def fnExactNewDiskUptoRow : OpenClaim := { program := "ytmhjcfgkheihdaa", sum := "76b3a6affb1692472e72b8a2377b5c3d4e130fcf4a958c1d2b21129d5976f74c", func := "loop.example/kilnstone/laws.FnExactNewDisk", spec := "fnExactNewDisk", inPlace := ["internal/abi.NoEscape", "internal/bytealg.MakeNoZero"], apart := false, narrowed := true }
def FnExactNewDiskUptoSaid : Prop := fnExactNewDiskUptoRow.holds Try.pinned (OpenSpec.upto fnExactNewDiskSpec)

/-- 'laws.FnExactPowerLoss', WHERE WHAT IT READS IS OF BULK AT MOST 1048576: true; the input reads as it did. -/
def fnExactPowerLossUptoRow : OpenClaim := { program := "ytmhjcfgkheihdaa", sum := "76b3a6affb1692472e72b8a2377b5c3d4e130fcf4a958c1d2b21129d5976f74c", func := "loop.example/kilnstone/laws.FnExactPowerLoss", spec := "fnExactPowerLoss", apart := false, narrowed := true }
def FnExactPowerLossUptoSaid : Prop := fnExactPowerLossUptoRow.holds Try.pinned (OpenSpec.upto fnExactPowerLossSpec)

/-- 'laws.FnExactReadPage', WHERE WHAT IT READS IS OF BULK AT MOST 1048576: true; the input reads as it did. -/
def fnExactReadPageUptoRow : OpenClaim := { program := "ytmhjcfgkheihdaa", sum := "76b3a6affb1692472e72b8a2377b5c3d4e130fcf4a958c1d2b21129d5976f74c", func := "loop.example/kilnstone/laws.FnExactReadPage", spec := "fnExactReadPage", inPlace := ["internal/abi.NoEscape", "internal/bytealg.MakeNoZero"], apart := false, narrowed := true }
def FnExactReadPageUptoSaid : Prop := fnExactReadPageUptoRow.holds Try.pinned (OpenSpec.upto fnExactReadPageSpec)

end Rows
end Go.Proofs.Ytmhjcfgkheihdaa
