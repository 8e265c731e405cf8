/-
  No cell of these rows narrows 'for every input' (looked for: loops, veiled, ifaces, maps, wideKeys, modest, calm, conditions, laid).
  DERIVED. THE GIVEN ROWS OF THIS SEAT. 12 by the template 'for every input the law returns true; each argument reads behind the call as it read before'; 0 by the template 'total and deterministic' (their statements: YtjoiklaecelalaaTotals.lean).
  GIVEN WITH THE SEED: the statements are not yours to turn. If you find one false, say at which input.
  Laid BY PROGRAM, IN A SANDBOX (cutbox-rows.mjs): the forced cells as the released guide's own fill.sh prints them over the translation f3362b992c1bada1… (all of the seat's roots in one cut). By AI agents, Wed Nov 11 2026. No macro, syntax, notation, axiom, sorry.
-/
import Derived.Test.YtjoiklaecelalaaChecked
import GoSem.Claim
import GoSem.ClaimJoined
import GoSem.ClaimMapViews
import Derived.JoinedTies
import Derived.KernelRfl
namespace Go.Proofs.Ytjoiklaecelalaa
/- THE CELL 'sum', in the pinned program and in every row, IS THE sha256 OF THE DUMP (.gsa) THAT YtjoiklaecelalaaProg.lean LOADS. Nothing in Lean hashes anything: it is a label: what it is worth is what the hold of that sum in a sandbox is worth. -/
noncomputable def Try.pinned : Pinned := { name := "ytjoiklaecelalaa", sum := "f3362b992c1bada1ebeac672ef28f26edc146d890349dda6b814b24df5136395", checked := Try.checked }
namespace Rows
def none {H : Type} : Left H := { results := [], args := [] }

/-- 'laws.FnExactSnapshot': WHATEVER THE INPUT: true; the input reads as it did. -/
def fnExactSnapshotSpec : ChangeSpec := { name := "fnExactSnapshot", fn := fun _ => fun
  | [d] => { results := [.lit (.bool true)], args := [d] }
  | _ => none }
def fnExactSnapshotRow : OpenClaim := { program := "ytjoiklaecelalaa", sum := "f3362b992c1bada1ebeac672ef28f26edc146d890349dda6b814b24df5136395", func := "loop.example/kilnstone/laws.FnExactSnapshot", spec := "fnExactSnapshot", apart := false }
def FnExactSnapshotSaid : Prop := fnExactSnapshotRow.holds Try.pinned (OpenSpec.ofChange fnExactSnapshotSpec)

/-- ITS FALSE NEIGHBOUR: 'it returns false'. Refute it at one input. -/
def fnExactSnapshotWrong : ChangeSpec := { name := "fnExactSnapshot", fn := fun _ => fun
  | [d] => { results := [.lit (.bool false)], args := [d] }
  | _ => none }
def FnExactSnapshotWrongFalsely : Prop := fnExactSnapshotRow.holds Try.pinned (OpenSpec.ofChange fnExactSnapshotWrong)

/-- 'laws.FnExactRoom': WHATEVER THE INPUT: true; the input reads as it did. -/
def fnExactRoomSpec : ChangeSpec := { name := "fnExactRoom", fn := fun _ => fun
  | [d1, d2] => { results := [.lit (.bool true)], args := [d1, d2] }
  | _ => none }
def fnExactRoomRow : OpenClaim := { program := "ytjoiklaecelalaa", sum := "f3362b992c1bada1ebeac672ef28f26edc146d890349dda6b814b24df5136395", func := "loop.example/kilnstone/laws.FnExactRoom", spec := "fnExactRoom", inPlace := ["internal/abi.NoEscape"], apart := false }
def FnExactRoomSaid : Prop := fnExactRoomRow.holds Try.pinned (OpenSpec.ofChange fnExactRoomSpec)

/-- ITS FALSE NEIGHBOUR: 'it returns false'. Refute it at one input. -/
def fnExactRoomWrong : ChangeSpec := { name := "fnExactRoom", fn := fun _ => fun
  | [d1, d2] => { results := [.lit (.bool false)], args := [d1, d2] }
  | _ => none }
def FnExactRoomWrongFalsely : Prop := fnExactRoomRow.holds Try.pinned (OpenSpec.ofChange fnExactRoomWrong)

/-- 'laws.FnExactPerform': WHATEVER THE INPUT: true; the input reads as it did. -/
def fnExactPerformSpec : ChangeSpec := { name := "fnExactPerform", fn := fun _ => fun
  | [d1, d2, d3] => { results := [.lit (.bool true)], args := [d1, d2, d3] }
  | _ => none }
def fnExactPerformRow : OpenClaim := { program := "ytjoiklaecelalaa", sum := "f3362b992c1bada1ebeac672ef28f26edc146d890349dda6b814b24df5136395", func := "loop.example/kilnstone/laws.FnExactPerform", spec := "fnExactPerform", apart := false }
def FnExactPerformSaid : Prop := fnExactPerformRow.holds Try.pinned (OpenSpec.ofChange fnExactPerformSpec)

/-- ITS FALSE NEIGHBOUR: 'it returns false'. Refute it at one input. -/
def fnExactPerformWrong : ChangeSpec := { name := "fnExactPerform", fn := fun _ => fun
  | [d1, d2, d3] => { results := [.lit (.bool false)], args := [d1, d2, d3] }
  | _ => none }
def FnExactPerformWrongFalsely : Prop := fnExactPerformRow.holds Try.pinned (OpenSpec.ofChange fnExactPerformWrong)

/-- 'laws.FnExactValidStore': WHATEVER THE INPUT: true; the input reads as it did. -/
def fnExactValidStoreSpec : ChangeSpec := { name := "fnExactValidStore", fn := fun _ => fun
  | [d] => { results := [.lit (.bool true)], args := [d] }
  | _ => none }
def fnExactValidStoreRow : OpenClaim := { program := "ytjoiklaecelalaa", sum := "f3362b992c1bada1ebeac672ef28f26edc146d890349dda6b814b24df5136395", func := "loop.example/kilnstone/laws.FnExactValidStore", spec := "fnExactValidStore", inPlace := ["internal/abi.NoEscape"], apart := false }
def FnExactValidStoreSaid : Prop := fnExactValidStoreRow.holds Try.pinned (OpenSpec.ofChange fnExactValidStoreSpec)

/-- ITS FALSE NEIGHBOUR: 'it returns false'. Refute it at one input. -/
def fnExactValidStoreWrong : ChangeSpec := { name := "fnExactValidStore", fn := fun _ => fun
  | [d] => { results := [.lit (.bool false)], args := [d] }
  | _ => none }
def FnExactValidStoreWrongFalsely : Prop := fnExactValidStoreRow.holds Try.pinned (OpenSpec.ofChange fnExactValidStoreWrong)

/-- 'laws.FnExactNewWorld': WHATEVER THE INPUT: true; the input reads as it did. -/
def fnExactNewWorldSpec : ChangeSpec := { name := "fnExactNewWorld", fn := fun _ => fun
  | [d1, d2] => { results := [.lit (.bool true)], args := [d1, d2] }
  | _ => none }
def fnExactNewWorldRow : OpenClaim := { program := "ytjoiklaecelalaa", sum := "f3362b992c1bada1ebeac672ef28f26edc146d890349dda6b814b24df5136395", func := "loop.example/kilnstone/laws.FnExactNewWorld", spec := "fnExactNewWorld", inPlace := ["internal/abi.NoEscape", "internal/bytealg.MakeNoZero"], apart := false }
def FnExactNewWorldSaid : Prop := fnExactNewWorldRow.holds Try.pinned (OpenSpec.ofChange fnExactNewWorldSpec)

/-- ITS FALSE NEIGHBOUR: 'it returns false'. Refute it at one input. -/
def fnExactNewWorldWrong : ChangeSpec := { name := "fnExactNewWorld", fn := fun _ => fun
  | [d1, d2] => { results := [.lit (.bool false)], args := [d1, d2] }
  | _ => none }
def FnExactNewWorldWrongFalsely : Prop := fnExactNewWorldRow.holds Try.pinned (OpenSpec.ofChange fnExactNewWorldWrong)

/-- 'laws.FnExactFlush': WHATEVER THE INPUT: true; the input reads as it did. -/
def fnExactFlushSpec : ChangeSpec := { name := "fnExactFlush", fn := fun _ => fun
  | [d] => { results := [.lit (.bool true)], args := [d] }
  | _ => none }
def fnExactFlushRow : OpenClaim := { program := "ytjoiklaecelalaa", sum := "f3362b992c1bada1ebeac672ef28f26edc146d890349dda6b814b24df5136395", func := "loop.example/kilnstone/laws.FnExactFlush", spec := "fnExactFlush", inPlace := ["internal/abi.NoEscape"], apart := false }
def FnExactFlushSaid : Prop := fnExactFlushRow.holds Try.pinned (OpenSpec.ofChange fnExactFlushSpec)

/-- ITS FALSE NEIGHBOUR: 'it returns false'. Refute it at one input. -/
def fnExactFlushWrong : ChangeSpec := { name := "fnExactFlush", fn := fun _ => fun
  | [d] => { results := [.lit (.bool false)], args := [d] }
  | _ => none }
def FnExactFlushWrongFalsely : Prop := fnExactFlushRow.holds Try.pinned (OpenSpec.ofChange fnExactFlushWrong)

/-- 'laws.FnExactScan': WHATEVER THE INPUT: true; the input reads as it did. -/
def fnExactScanSpec : ChangeSpec := { name := "fnExactScan", fn := fun _ => fun
  | [d1, d2, d3, d4, d5, d6] => { results := [.lit (.bool true)], args := [d1, d2, d3, d4, d5, d6] }
  | _ => none }
def fnExactScanRow : OpenClaim := { program := "ytjoiklaecelalaa", sum := "f3362b992c1bada1ebeac672ef28f26edc146d890349dda6b814b24df5136395", func := "loop.example/kilnstone/laws.FnExactScan", spec := "fnExactScan", inPlace := ["internal/abi.NoEscape", "internal/bytealg.MakeNoZero"], apart := false }
def FnExactScanSaid : Prop := fnExactScanRow.holds Try.pinned (OpenSpec.ofChange fnExactScanSpec)

/-- ITS FALSE NEIGHBOUR: 'it returns false'. Refute it at one input. -/
def fnExactScanWrong : ChangeSpec := { name := "fnExactScan", fn := fun _ => fun
  | [d1, d2, d3, d4, d5, d6] => { results := [.lit (.bool false)], args := [d1, d2, d3, d4, d5, d6] }
  | _ => none }
def FnExactScanWrongFalsely : Prop := fnExactScanRow.holds Try.pinned (OpenSpec.ofChange fnExactScanWrong)

/-- 'laws.FnExactValidWorld': WHATEVER THE INPUT: true; the input reads as it did. -/
def fnExactValidWorldSpec : ChangeSpec := { name := "fnExactValidWorld", fn := fun _ => fun
  | [d] => { results := [.lit (.bool true)], args := [d] }
  | _ => none }
def fnExactValidWorldRow : OpenClaim := { program := "ytjoiklaecelalaa", sum := "f3362b992c1bada1ebeac672ef28f26edc146d890349dda6b814b24df5136395", func := "loop.example/kilnstone/laws.FnExactValidWorld", spec := "fnExactValidWorld", inPlace := ["internal/abi.NoEscape"], apart := false }
def FnExactValidWorldSaid : Prop := fnExactValidWorldRow.holds Try.pinned (OpenSpec.ofChange fnExactValidWorldSpec)

/-- ITS FALSE NEIGHBOUR: 'it returns false'. Refute it at one input. -/
def fnExactValidWorldWrong : ChangeSpec := { name := "fnExactValidWorld", fn := fun _ => fun
  | [d] => { results := [.lit (.bool false)], args := [d] }
  | _ => none }
def FnExactValidWorldWrongFalsely : Prop := fnExactValidWorldRow.holds Try.pinned (OpenSpec.ofChange fnExactValidWorldWrong)

/-- 'laws.FnExactApply': WHATEVER THE INPUT: true; the input reads as it did. -/
def fnExactApplySpec : ChangeSpec := { name := "fnExactApply", fn := fun _ => fun
  | [d1, d2] => { results := [.lit (.bool true)], args := [d1, d2] }
  | _ => none }
def fnExactApplyRow : OpenClaim := { program := "ytjoiklaecelalaa", sum := "f3362b992c1bada1ebeac672ef28f26edc146d890349dda6b814b24df5136395", func := "loop.example/kilnstone/laws.FnExactApply", spec := "fnExactApply", inPlace := ["internal/reflectlite.ValueOf", "internal/reflectlite.Swapper", "(internal/reflectlite.Value).Len"], unfollowed := true, recurses := true, apart := false }
def FnExactApplySaid : Prop := fnExactApplyRow.holds Try.pinned (OpenSpec.ofChange fnExactApplySpec)

/-- ITS FALSE NEIGHBOUR: 'it returns false'. Refute it at one input. -/
def fnExactApplyWrong : ChangeSpec := { name := "fnExactApply", fn := fun _ => fun
  | [d1, d2] => { results := [.lit (.bool false)], args := [d1, d2] }
  | _ => none }
def FnExactApplyWrongFalsely : Prop := fnExactApplyRow.holds Try.pinned (OpenSpec.ofChange fnExactApplyWrong)

/-- 'laws.FnBatches': WHATEVER THE INPUT: true; the input reads as it did. -/
def fnBatchesSpec : ChangeSpec := { name := "fnBatches", fn := fun _ => fun
  | [d] => { results := [.lit (.bool true)], args := [d] }
  | _ => none }
def fnBatchesRow : OpenClaim := { program := "ytjoiklaecelalaa", sum := "f3362b992c1bada1ebeac672ef28f26edc146d890349dda6b814b24df5136395", func := "loop.example/kilnstone/laws.FnBatches", spec := "fnBatches", inPlace := ["internal/abi.NoEscape"], unfollowed := true, recurses := true, apart := false }
def FnBatchesSaid : Prop := fnBatchesRow.holds Try.pinned (OpenSpec.ofChange fnBatchesSpec)

/-- ITS FALSE NEIGHBOUR: 'it returns false'. Refute it at one input. -/
def fnBatchesWrong : ChangeSpec := { name := "fnBatches", fn := fun _ => fun
  | [d] => { results := [.lit (.bool false)], args := [d] }
  | _ => none }
def FnBatchesWrongFalsely : Prop := fnBatchesRow.holds Try.pinned (OpenSpec.ofChange fnBatchesWrong)

/-- 'laws.FnPages': WHATEVER THE INPUT: true; the input reads as it did. -/
def fnPagesSpec : ChangeSpec := { name := "fnPages", fn := fun _ => fun
  | [d] => { results := [.lit (.bool true)], args := [d] }
  | _ => none }
def fnPagesRow : OpenClaim := { program := "ytjoiklaecelalaa", sum := "f3362b992c1bada1ebeac672ef28f26edc146d890349dda6b814b24df5136395", func := "loop.example/kilnstone/laws.FnPages", spec := "fnPages", inPlace := ["internal/abi.NoEscape", "internal/bytealg.MakeNoZero"], apart := false }
def FnPagesSaid : Prop := fnPagesRow.holds Try.pinned (OpenSpec.ofChange fnPagesSpec)

/-- ITS FALSE NEIGHBOUR: 'it returns false'. Refute it at one input. -/
def fnPagesWrong : ChangeSpec := { name := "fnPages", fn := fun _ => fun
  | [d] => { results := [.lit (.bool false)], args := [d] }
  | _ => none }
def FnPagesWrongFalsely : Prop := fnPagesRow.holds Try.pinned (OpenSpec.ofChange fnPagesWrong)

/-- 'laws.FnLog': WHATEVER THE INPUT: true; the input reads as it did. -/
def fnLogSpec : ChangeSpec := { name := "fnLog", fn := fun _ => fun
  | [d] => { results := [.lit (.bool true)], args := [d] }
  | _ => none }
def fnLogRow : OpenClaim := { program := "ytjoiklaecelalaa", sum := "f3362b992c1bada1ebeac672ef28f26edc146d890349dda6b814b24df5136395", func := "loop.example/kilnstone/laws.FnLog", spec := "fnLog", inPlace := ["internal/abi.NoEscape", "internal/bytealg.MakeNoZero"], apart := false }
def FnLogSaid : Prop := fnLogRow.holds Try.pinned (OpenSpec.ofChange fnLogSpec)

/-- ITS FALSE NEIGHBOUR: 'it returns false'. Refute it at one input. -/
def fnLogWrong : ChangeSpec := { name := "fnLog", fn := fun _ => fun
  | [d] => { results := [.lit (.bool false)], args := [d] }
  | _ => none }
def FnLogWrongFalsely : Prop := fnLogRow.holds Try.pinned (OpenSpec.ofChange fnLogWrong)

/- THE SECOND FORM. 'bulk': how many values and letters a reading holds, each counted each time it is reached (what is shared counts as often as it is met; a slice's spare places count too). A statement '..UptoSaid' is the law's where the arguments, and the package variables that the reading takes, are together of bulk at most 1048576: NARROWER than '..Said'. Prove '..Said' where nothing that the law and all that it calls make is longer than what came in: it says more and counts as full. Else prove '..UptoSaid'. A law counts once. -/
mutual
def uptoBulk {H : Type} : DataW H → Nat
  | .lit (.string bytes) => bytes.length + 1
  | .lit _ => 1
  | .nil => 1
  | .ptr d => uptoBulk d + 1
  | .slice elems spare => uptoBulkAll elems + uptoBulkAll spare + 1
  | .agg parts => uptoBulkAll parts + 1
  | .iface _ d => uptoBulk d + 1
  | .map entries => uptoBulkEntries entries + 1
  | .held _ => 1
def uptoBulkAll {H : Type} : List (DataW H) → Nat
  | [] => 0
  | d :: r => uptoBulk d + uptoBulkAll r
def uptoBulkEntries {H : Type} : List (Lit × DataW H) → Nat
  | [] => 0
  | x :: r => uptoBulkEntry x + uptoBulkEntries r
def uptoBulkEntry {H : Type} : Lit × DataW H → Nat
  | (.string bytes, d) => bytes.length + uptoBulk d + 1
  | (_, d) => uptoBulk d + 1
 end
def uptoSmall : (H : Type) → List (DataW H) → Bool := fun _ ds => decide (uptoBulkAll ds ≤ 1048576)
def OpenSpec.upto (s : _root_.Go.ChangeSpec) : _root_.Go.OpenSpec := { _root_.Go.OpenSpec.ofChange s with cond := some uptoSmall }

/-- 'laws.FnExactSnapshot', WHERE WHAT IT READS IS OF BULK AT MOST 1048576: true; the input reads as it did. -/
def fnExactSnapshotUptoRow : OpenClaim := { program := "ytjoiklaecelalaa", sum := "f3362b992c1bada1ebeac672ef28f26edc146d890349dda6b814b24df5136395", func := "loop.example/kilnstone/laws.FnExactSnapshot", spec := "fnExactSnapshot", apart := false, narrowed := true }
def FnExactSnapshotUptoSaid : Prop := fnExactSnapshotUptoRow.holds Try.pinned (OpenSpec.upto fnExactSnapshotSpec)

/-- 'laws.FnExactRoom', WHERE WHAT IT READS IS OF BULK AT MOST 1048576: true; the input reads as it did. -/
def fnExactRoomUptoRow : OpenClaim := { program := "ytjoiklaecelalaa", sum := "f3362b992c1bada1ebeac672ef28f26edc146d890349dda6b814b24df5136395", func := "loop.example/kilnstone/laws.FnExactRoom", spec := "fnExactRoom", inPlace := ["internal/abi.NoEscape"], apart := false, narrowed := true }
def FnExactRoomUptoSaid : Prop := fnExactRoomUptoRow.holds Try.pinned (OpenSpec.upto fnExactRoomSpec)

/-- 'laws.FnExactPerform', WHERE WHAT IT READS IS OF BULK AT MOST 1048576: true; the input reads as it did. -/
def fnExactPerformUptoRow : OpenClaim := { program := "ytjoiklaecelalaa", sum := "f3362b992c1bada1ebeac672ef28f26edc146d890349dda6b814b24df5136395", func := "loop.example/kilnstone/laws.FnExactPerform", spec := "fnExactPerform", apart := false, narrowed := true }
def FnExactPerformUptoSaid : Prop := fnExactPerformUptoRow.holds Try.pinned (OpenSpec.upto fnExactPerformSpec)

/-- 'laws.FnExactValidStore', WHERE WHAT IT READS IS OF BULK AT MOST 1048576: true; the input reads as it did. -/
def fnExactValidStoreUptoRow : OpenClaim := { program := "ytjoiklaecelalaa", sum := "f3362b992c1bada1ebeac672ef28f26edc146d890349dda6b814b24df5136395", func := "loop.example/kilnstone/laws.FnExactValidStore", spec := "fnExactValidStore", inPlace := ["internal/abi.NoEscape"], apart := false, narrowed := true }
def FnExactValidStoreUptoSaid : Prop := fnExactValidStoreUptoRow.holds Try.pinned (OpenSpec.upto fnExactValidStoreSpec)

/-- 'laws.FnExactNewWorld', WHERE WHAT IT READS IS OF BULK AT MOST 1048576: true; the input reads as it did. -/
def fnExactNewWorldUptoRow : OpenClaim := { program := "ytjoiklaecelalaa", sum := "f3362b992c1bada1ebeac672ef28f26edc146d890349dda6b814b24df5136395", func := "loop.example/kilnstone/laws.FnExactNewWorld", spec := "fnExactNewWorld", inPlace := ["internal/abi.NoEscape", "internal/bytealg.MakeNoZero"], apart := false, narrowed := true }
def FnExactNewWorldUptoSaid : Prop := fnExactNewWorldUptoRow.holds Try.pinned (OpenSpec.upto fnExactNewWorldSpec)

/-- 'laws.FnExactFlush', WHERE WHAT IT READS IS OF BULK AT MOST 1048576: true; the input reads as it did. -/
def fnExactFlushUptoRow : OpenClaim := { program := "ytjoiklaecelalaa", sum := "f3362b992c1bada1ebeac672ef28f26edc146d890349dda6b814b24df5136395", func := "loop.example/kilnstone/laws.FnExactFlush", spec := "fnExactFlush", inPlace := ["internal/abi.NoEscape"], apart := false, narrowed := true }
def FnExactFlushUptoSaid : Prop := fnExactFlushUptoRow.holds Try.pinned (OpenSpec.upto fnExactFlushSpec)

/-- 'laws.FnExactScan', WHERE WHAT IT READS IS OF BULK AT MOST 1048576: true; the input reads as it did. -/
def fnExactScanUptoRow : OpenClaim := { program := "ytjoiklaecelalaa", sum := "f3362b992c1bada1ebeac672ef28f26edc146d890349dda6b814b24df5136395", func := "loop.example/kilnstone/laws.FnExactScan", spec := "fnExactScan", inPlace := ["internal/abi.NoEscape", "internal/bytealg.MakeNoZero"], apart := false, narrowed := true }
def FnExactScanUptoSaid : Prop := fnExactScanUptoRow.holds Try.pinned (OpenSpec.upto fnExactScanSpec)

/-- 'laws.FnExactValidWorld', WHERE WHAT IT READS IS OF BULK AT MOST 1048576: true; the input reads as it did. -/
def fnExactValidWorldUptoRow : OpenClaim := { program := "ytjoiklaecelalaa", sum := "f3362b992c1bada1ebeac672ef28f26edc146d890349dda6b814b24df5136395", func := "loop.example/kilnstone/laws.FnExactValidWorld", spec := "fnExactValidWorld", inPlace := ["internal/abi.NoEscape"], apart := false, narrowed := true }
def FnExactValidWorldUptoSaid : Prop := fnExactValidWorldUptoRow.holds Try.pinned (OpenSpec.upto fnExactValidWorldSpec)

/-- 'laws.FnExactApply', WHERE WHAT IT READS IS OF BULK AT MOST 1048576: true; the input reads as it did. -/
def fnExactApplyUptoRow : OpenClaim := { program := "ytjoiklaecelalaa", sum := "f3362b992c1bada1ebeac672ef28f26edc146d890349dda6b814b24df5136395", func := "loop.example/kilnstone/laws.FnExactApply", spec := "fnExactApply", inPlace := ["internal/reflectlite.ValueOf", "internal/reflectlite.Swapper", "(internal/reflectlite.Value).Len"], unfollowed := true, recurses := true, apart := false, narrowed := true }
def FnExactApplyUptoSaid : Prop := fnExactApplyUptoRow.holds Try.pinned (OpenSpec.upto fnExactApplySpec)

/-- 'laws.FnBatches', WHERE WHAT IT READS IS OF BULK AT MOST 1048576: true; the input reads as it did. -/
def fnBatchesUptoRow : OpenClaim := { program := "ytjoiklaecelalaa", sum := "f3362b992c1bada1ebeac672ef28f26edc146d890349dda6b814b24df5136395", func := "loop.example/kilnstone/laws.FnBatches", spec := "fnBatches", inPlace := ["internal/abi.NoEscape"], unfollowed := true, recurses := true, apart := false, narrowed := true }
def FnBatchesUptoSaid : Prop := fnBatchesUptoRow.holds Try.pinned (OpenSpec.upto fnBatchesSpec)

/-- 'laws.FnPages', WHERE WHAT IT READS IS OF BULK AT MOST 1048576: true; the input reads as it did. -/
def fnPagesUptoRow : OpenClaim := { program := "ytjoiklaecelalaa", sum := "f3362b992c1bada1ebeac672ef28f26edc146d890349dda6b814b24df5136395", func := "loop.example/kilnstone/laws.FnPages", spec := "fnPages", inPlace := ["internal/abi.NoEscape", "internal/bytealg.MakeNoZero"], apart := false, narrowed := true }
def FnPagesUptoSaid : Prop := fnPagesUptoRow.holds Try.pinned (OpenSpec.upto fnPagesSpec)

/-- 'laws.FnLog', WHERE WHAT IT READS IS OF BULK AT MOST 1048576: true; the input reads as it did. -/
def fnLogUptoRow : OpenClaim := { program := "ytjoiklaecelalaa", sum := "f3362b992c1bada1ebeac672ef28f26edc146d890349dda6b814b24df5136395", func := "loop.example/kilnstone/laws.FnLog", spec := "fnLog", inPlace := ["internal/abi.NoEscape", "internal/bytealg.MakeNoZero"], apart := false, narrowed := true }
def FnLogUptoSaid : Prop := fnLogUptoRow.holds Try.pinned (OpenSpec.upto fnLogSpec)

end Rows
end Go.Proofs.Ytjoiklaecelalaa
