/-
  No cell of these rows narrows 'for every input' (looked for: loops, veiled, ifaces, maps, wideKeys, modest, calm, conditions, laid).
  DERIVED. THE GIVEN ROWS OF THIS SEAT. 6 by the template 'for every input the law returns true; each argument reads behind the call as it read before'; 0 by the template 'total and deterministic' (their statements: YtkfoebbjncngjaaTotals.lean).
  GIVEN WITH THE SEED: the statements are not yours to turn. If you find one false, say at which input.
  Laid BY PROGRAM, IN A SANDBOX (cutbox-rows.mjs): the forced cells as the released guide's own fill.sh prints them over the translation 0e7e539d5b8cece3… (all of the seat's roots in one cut). By AI agents, Wed Nov 11 2026. No macro, syntax, notation, axiom, sorry.
-/
import Derived.Test.YtkfoebbjncngjaaChecked
import GoSem.Claim
import GoSem.ClaimJoined
import GoSem.ClaimMapViews
import Derived.JoinedTies
import Derived.KernelRfl
namespace Go.Proofs.Ytkfoebbjncngjaa
/- THE CELL 'sum', in the pinned program and in every row, IS THE sha256 OF THE DUMP (.gsa) THAT YtkfoebbjncngjaaProg.lean LOADS. Nothing in Lean hashes anything: it is a label: what it is worth is what the hold of that sum in a sandbox is worth. -/
noncomputable def Try.pinned : Pinned := { name := "ytkfoebbjncngjaa", sum := "0e7e539d5b8cece362e7dcf69e0d8b608c50b97e41d1018fe33f5ae618550485", checked := Try.checked }
namespace Rows
def none {H : Type} : Left H := { results := [], args := [] }

/-- 'laws.FnExactSnapshot': WHATEVER THE INPUT: true; the input reads as it did. -/
def fnExactSnapshotSpec : ChangeSpec := { name := "fnExactSnapshot", fn := fun _ => fun
  | [d] => { results := [.lit (.bool true)], args := [d] }
  | _ => none }
def fnExactSnapshotRow : OpenClaim := { program := "ytkfoebbjncngjaa", sum := "0e7e539d5b8cece362e7dcf69e0d8b608c50b97e41d1018fe33f5ae618550485", func := "loop.example/kilnstone/laws.FnExactSnapshot", spec := "fnExactSnapshot", apart := false }
def FnExactSnapshotSaid : Prop := fnExactSnapshotRow.holds Try.pinned (OpenSpec.ofChange fnExactSnapshotSpec)

/-- ITS FALSE NEIGHBOUR: 'it returns false'. Refute it at one input. -/
def fnExactSnapshotWrong : ChangeSpec := { name := "fnExactSnapshot", fn := fun _ => fun
  | [d] => { results := [.lit (.bool false)], args := [d] }
  | _ => none }
def FnExactSnapshotWrongFalsely : Prop := fnExactSnapshotRow.holds Try.pinned (OpenSpec.ofChange fnExactSnapshotWrong)

/-- 'laws.FnBatches': WHATEVER THE INPUT: true; the input reads as it did. -/
def fnBatchesSpec : ChangeSpec := { name := "fnBatches", fn := fun _ => fun
  | [d] => { results := [.lit (.bool true)], args := [d] }
  | _ => none }
def fnBatchesRow : OpenClaim := { program := "ytkfoebbjncngjaa", sum := "0e7e539d5b8cece362e7dcf69e0d8b608c50b97e41d1018fe33f5ae618550485", func := "loop.example/kilnstone/laws.FnBatches", spec := "fnBatches", inPlace := ["internal/abi.NoEscape"], unfollowed := true, recurses := true, apart := false }
def FnBatchesSaid : Prop := fnBatchesRow.holds Try.pinned (OpenSpec.ofChange fnBatchesSpec)

/-- ITS FALSE NEIGHBOUR: 'it returns false'. Refute it at one input. -/
def fnBatchesWrong : ChangeSpec := { name := "fnBatches", fn := fun _ => fun
  | [d] => { results := [.lit (.bool false)], args := [d] }
  | _ => none }
def FnBatchesWrongFalsely : Prop := fnBatchesRow.holds Try.pinned (OpenSpec.ofChange fnBatchesWrong)

/-- 'laws.FnPages': WHATEVER THE INPUT: true; the input reads as it did. -/
def fnPagesSpec : ChangeSpec := { name := "fnPages", fn := fun _ => fun
  | [d] => { results := [.lit (.bool true)], args := [d] }
  | _ => none }
def fnPagesRow : OpenClaim := { program := "ytkfoebbjncngjaa", sum := "0e7e539d5b8cece362e7dcf69e0d8b608c50b97e41d1018fe33f5ae618550485", func := "loop.example/kilnstone/laws.FnPages", spec := "fnPages", inPlace := ["internal/abi.NoEscape", "internal/bytealg.MakeNoZero"], apart := false }
def FnPagesSaid : Prop := fnPagesRow.holds Try.pinned (OpenSpec.ofChange fnPagesSpec)

/-- ITS FALSE NEIGHBOUR: 'it returns false'. Refute it at one input. -/
def fnPagesWrong : ChangeSpec := { name := "fnPages", fn := fun _ => fun
  | [d] => { results := [.lit (.bool false)], args := [d] }
  | _ => none }
def FnPagesWrongFalsely : Prop := fnPagesRow.holds Try.pinned (OpenSpec.ofChange fnPagesWrong)

/-- 'laws.FnExactNewWorld': WHATEVER THE INPUT: true; the input reads as it did. -/
def fnExactNewWorldSpec : ChangeSpec := { name := "fnExactNewWorld", fn := fun _ => fun
  | [d1, d2] => { results := [.lit (.bool true)], args := [d1, d2] }
  | _ => none }
def fnExactNewWorldRow : OpenClaim := { program := "ytkfoebbjncngjaa", sum := "0e7e539d5b8cece362e7dcf69e0d8b608c50b97e41d1018fe33f5ae618550485", func := "loop.example/kilnstone/laws.FnExactNewWorld", spec := "fnExactNewWorld", inPlace := ["internal/abi.NoEscape", "internal/bytealg.MakeNoZero"], apart := false }
def FnExactNewWorldSaid : Prop := fnExactNewWorldRow.holds Try.pinned (OpenSpec.ofChange fnExactNewWorldSpec)

/-- ITS FALSE NEIGHBOUR: 'it returns false'. Refute it at one input. -/
def fnExactNewWorldWrong : ChangeSpec := { name := "fnExactNewWorld", fn := fun _ => fun
  | [d1, d2] => { results := [.lit (.bool false)], args := [d1, d2] }
  | _ => none }
def FnExactNewWorldWrongFalsely : Prop := fnExactNewWorldRow.holds Try.pinned (OpenSpec.ofChange fnExactNewWorldWrong)

/-- 'laws.FnLog': WHATEVER THE INPUT: true; the input reads as it did. -/
def fnLogSpec : ChangeSpec := { name := "fnLog", fn := fun _ => fun
  | [d] => { results := [.lit (.bool true)], args := [d] }
  | _ => none }
def fnLogRow : OpenClaim := { program := "ytkfoebbjncngjaa", sum := "0e7e539d5b8cece362e7dcf69e0d8b608c50b97e41d1018fe33f5ae618550485", func := "loop.example/kilnstone/laws.FnLog", spec := "fnLog", inPlace := ["internal/abi.NoEscape", "internal/bytealg.MakeNoZero"], apart := false }
def FnLogSaid : Prop := fnLogRow.holds Try.pinned (OpenSpec.ofChange fnLogSpec)

/-- ITS FALSE NEIGHBOUR: 'it returns false'. Refute it at one input. -/
def fnLogWrong : ChangeSpec := { name := "fnLog", fn := fun _ => fun
  | [d] => { results := [.lit (.bool false)], args := [d] }
  | _ => none }
def FnLogWrongFalsely : Prop := fnLogRow.holds Try.pinned (OpenSpec.ofChange fnLogWrong)

/-- 'laws.FnStates': WHATEVER THE INPUT: true; the input reads as it did. -/
def fnStatesSpec : ChangeSpec := { name := "fnStates", fn := fun _ => fun
  | [d] => { results := [.lit (.bool true)], args := [d] }
  | _ => none }
def fnStatesRow : OpenClaim := { program := "ytkfoebbjncngjaa", sum := "0e7e539d5b8cece362e7dcf69e0d8b608c50b97e41d1018fe33f5ae618550485", func := "loop.example/kilnstone/laws.FnStates", spec := "fnStates", inPlace := ["internal/reflectlite.ValueOf", "internal/reflectlite.Swapper", "(internal/reflectlite.Value).Len", "internal/abi.NoEscape"], unfollowed := true, recurses := true, apart := false }
def FnStatesSaid : Prop := fnStatesRow.holds Try.pinned (OpenSpec.ofChange fnStatesSpec)

/-- ITS FALSE NEIGHBOUR: 'it returns false'. Refute it at one input. -/
def fnStatesWrong : ChangeSpec := { name := "fnStates", fn := fun _ => fun
  | [d] => { results := [.lit (.bool false)], args := [d] }
  | _ => none }
def FnStatesWrongFalsely : Prop := fnStatesRow.holds Try.pinned (OpenSpec.ofChange fnStatesWrong)

/- THE SECOND FORM. 'bulk': how many values and letters a reading holds, each counted each time it is reached (what is shared counts as often as it is met; a slice's spare places count too). A statement '..UptoSaid' is the law's where the arguments, and the package variables that the reading takes, are together of bulk at most 1048576: NARROWER than '..Said'. Prove '..Said' where nothing that the law and all that it calls make is longer than what came in: it says more and counts as full. Else prove '..UptoSaid'. A law counts once. -/
mutual
def uptoBulk {H : Type} : DataW H → Nat
  | .lit (.string bytes) => bytes.length + 1
  | .lit _ => 1
  | .nil => 1
  | .ptr d => uptoBulk d + 1
  | .slice elems spare => uptoBulkAll elems + uptoBulkAll spare + 1
  | .agg parts => uptoBulkAll parts + 1
  | .iface _ d => uptoBulk d + 1
  | .map entries => uptoBulkEntries entries + 1
  | .held _ => 1
def uptoBulkAll {H : Type} : List (DataW H) → Nat
  | [] => 0
  | d :: r => uptoBulk d + uptoBulkAll r
def uptoBulkEntries {H : Type} : List (Lit × DataW H) → Nat
  | [] => 0
  | x :: r => uptoBulkEntry x + uptoBulkEntries r
def uptoBulkEntry {H : Type} : Lit × DataW H → Nat
  | (.string bytes, d) => bytes.length + uptoBulk d + 1
  | (_, d) => uptoBulk d + 1
 end
def uptoSmall : (H : Type) → List (DataW H) → Bool := fun _ ds => decide (uptoBulkAll ds ≤ 1048576)
def OpenSpec.upto (s : _root_.Go.ChangeSpec) : _root_.Go.OpenSpec := { _root_.Go.OpenSpec.ofChange s with cond := some uptoSmall }

/-- 'laws.FnExactSnapshot', WHERE WHAT IT READS IS OF BULK AT MOST 1048576: true; the input reads as it did. -/
def fnExactSnapshotUptoRow : OpenClaim := { program := "ytkfoebbjncngjaa", sum := "0e7e539d5b8cece362e7dcf69e0d8b608c50b97e41d1018fe33f5ae618550485", func := "loop.example/kilnstone/laws.FnExactSnapshot", spec := "fnExactSnapshot", apart := false, narrowed := true }
def FnExactSnapshotUptoSaid : Prop := fnExactSnapshotUptoRow.holds Try.pinned (OpenSpec.upto fnExactSnapshotSpec)

/-- 'laws.FnBatches', WHERE WHAT IT READS IS OF BULK AT MOST 1048576: true; the input reads as it did. -/
def fnBatchesUptoRow : OpenClaim := { program := "ytkfoebbjncngjaa", sum := "0e7e539d5b8cece362e7dcf69e0d8b608c50b97e41d1018fe33f5ae618550485", func := "loop.example/kilnstone/laws.FnBatches", spec := "fnBatches", inPlace := ["internal/abi.NoEscape"], unfollowed := true, recurses := true, apart := false, narrowed := true }
def FnBatchesUptoSaid : Prop := fnBatchesUptoRow.holds Try.pinned (OpenSpec.upto fnBatchesSpec)

/-- 'laws.FnPages', WHERE WHAT IT READS IS OF BULK AT MOST 1048576: true; the input reads as it did. -/
def fnPagesUptoRow : OpenClaim := { program := "ytkfoebbjncngjaa", sum := "0e7e539d5b8cece362e7dcf69e0d8b608c50b97e41d1018fe33f5ae618550485", func := "loop.example/kilnstone/laws.FnPages", spec := "fnPages", inPlace := ["internal/abi.NoEscape", "internal/bytealg.MakeNoZero"], apart := false, narrowed := true }
def FnPagesUptoSaid : Prop := fnPagesUptoRow.holds Try.pinned (OpenSpec.upto fnPagesSpec)

/-- 'laws.FnExactNewWorld', WHERE WHAT IT READS IS OF BULK AT MOST 1048576: true; the input reads as it did. -/
def fnExactNewWorldUptoRow : OpenClaim := { program := "ytkfoebbjncngjaa", sum := "0e7e539d5b8cece362e7dcf69e0d8b608c50b97e41d1018fe33f5ae618550485", func := "loop.example/kilnstone/laws.FnExactNewWorld", spec := "fnExactNewWorld", inPlace := ["internal/abi.NoEscape", "internal/bytealg.MakeNoZero"], apart := false, narrowed := true }
def FnExactNewWorldUptoSaid : Prop := fnExactNewWorldUptoRow.holds Try.pinned (OpenSpec.upto fnExactNewWorldSpec)

/-- 'laws.FnLog', WHERE WHAT IT READS IS OF BULK AT MOST 1048576: true; the input reads as it did. -/
def fnLogUptoRow : OpenClaim := { program := "ytkfoebbjncngjaa", sum := "0e7e539d5b8cece362e7dcf69e0d8b608c50b97e41d1018fe33f5ae618550485", func := "loop.example/kilnstone/laws.FnLog", spec := "fnLog", inPlace := ["internal/abi.NoEscape", "internal/bytealg.MakeNoZero"], apart := false, narrowed := true }
def FnLogUptoSaid : Prop := fnLogUptoRow.holds Try.pinned (OpenSpec.upto fnLogSpec)

/-- 'laws.FnStates', WHERE WHAT IT READS IS OF BULK AT MOST 1048576: true; the input reads as it did. -/
def fnStatesUptoRow : OpenClaim := { program := "ytkfoebbjncngjaa", sum := "0e7e539d5b8cece362e7dcf69e0d8b608c50b97e41d1018fe33f5ae618550485", func := "loop.example/kilnstone/laws.FnStates", spec := "fnStates", inPlace := ["internal/reflectlite.ValueOf", "internal/reflectlite.Swapper", "(internal/reflectlite.Value).Len", "internal/abi.NoEscape"], unfollowed := true, recurses := true, apart := false, narrowed := true }
def FnStatesUptoSaid : Prop := fnStatesUptoRow.holds Try.pinned (OpenSpec.upto fnStatesSpec)

end Rows
end Go.Proofs.Ytkfoebbjncngjaa
