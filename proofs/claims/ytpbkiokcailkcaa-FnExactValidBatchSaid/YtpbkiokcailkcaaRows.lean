/-
  No cell of these rows narrows 'for every input' (looked for: loops, veiled, ifaces, maps, wideKeys, modest, calm, conditions, laid).
  DERIVED. THE GIVEN ROWS OF THIS SEAT. 6 by the template 'for every input the law returns true; each argument reads behind the call as it read before'; 0 by the template 'total and deterministic' (their statements: YtpbkiokcailkcaaTotals.lean).
  GIVEN WITH THE SEED: the statements are not yours to turn. If you find one false, say at which input.
  Laid BY PROGRAM, IN A SANDBOX (cutbox-rows.mjs): the forced cells as the released guide's own fill.sh prints them over the translation 432e4f5fefe7f1e8… (all of the seat's roots in one cut). By AI agents, Wed Nov 11 2026. No macro, syntax, notation, axiom, sorry.
-/
import Derived.Test.YtpbkiokcailkcaaChecked
import GoSem.Claim
import GoSem.ClaimJoined
import GoSem.ClaimMapViews
import Derived.JoinedTies
import Derived.KernelRfl
namespace Go.Proofs.Ytpbkiokcailkcaa
/- THE CELL 'sum', in the pinned program and in every row, IS THE sha256 OF THE DUMP (.gsa) THAT YtpbkiokcailkcaaProg.lean LOADS. Nothing in Lean hashes anything: it is a label: what it is worth is what the hold of that sum in a sandbox is worth. -/
noncomputable def Try.pinned : Pinned := { name := "ytpbkiokcailkcaa", sum := "432e4f5fefe7f1e889f2d39d152449c1421589ab344c928bddcc8db69ba9f21e", checked := Try.checked }
namespace Rows
def none {H : Type} : Left H := { results := [], args := [] }

/-- 'laws.FnExactConstants': WHATEVER THE INPUT: true; the input reads as it did. -/
def fnExactConstantsSpec : ChangeSpec := { name := "fnExactConstants", fn := fun _ => fun
  | [] => { results := [.lit (.bool true)], args := [] }
  | _ => none }
def fnExactConstantsRow : OpenClaim := { program := "ytpbkiokcailkcaa", sum := "432e4f5fefe7f1e889f2d39d152449c1421589ab344c928bddcc8db69ba9f21e", func := "loop.example/kilnstone/laws.FnExactConstants", spec := "fnExactConstants", apart := false }
def FnExactConstantsSaid : Prop := fnExactConstantsRow.holds Try.pinned (OpenSpec.ofChange fnExactConstantsSpec)

/-- ITS FALSE NEIGHBOUR: 'it returns false'. Refute it at one input. -/
def fnExactConstantsWrong : ChangeSpec := { name := "fnExactConstants", fn := fun _ => fun
  | [] => { results := [.lit (.bool false)], args := [] }
  | _ => none }
def FnExactConstantsWrongFalsely : Prop := fnExactConstantsRow.holds Try.pinned (OpenSpec.ofChange fnExactConstantsWrong)

/-- 'laws.FnExactHalves': WHATEVER THE INPUT: true; the input reads as it did. -/
def fnExactHalvesSpec : ChangeSpec := { name := "fnExactHalves", fn := fun _ => fun
  | [d] => { results := [.lit (.bool true)], args := [d] }
  | _ => none }
def fnExactHalvesRow : OpenClaim := { program := "ytpbkiokcailkcaa", sum := "432e4f5fefe7f1e889f2d39d152449c1421589ab344c928bddcc8db69ba9f21e", func := "loop.example/kilnstone/laws.FnExactHalves", spec := "fnExactHalves", apart := false }
def FnExactHalvesSaid : Prop := fnExactHalvesRow.holds Try.pinned (OpenSpec.ofChange fnExactHalvesSpec)

/-- ITS FALSE NEIGHBOUR: 'it returns false'. Refute it at one input. -/
def fnExactHalvesWrong : ChangeSpec := { name := "fnExactHalves", fn := fun _ => fun
  | [d] => { results := [.lit (.bool false)], args := [d] }
  | _ => none }
def FnExactHalvesWrongFalsely : Prop := fnExactHalvesRow.holds Try.pinned (OpenSpec.ofChange fnExactHalvesWrong)

/-- 'laws.FnExactPages': WHATEVER THE INPUT: true; the input reads as it did. -/
def fnExactPagesSpec : ChangeSpec := { name := "fnExactPages", fn := fun _ => fun
  | [d1, d2] => { results := [.lit (.bool true)], args := [d1, d2] }
  | _ => none }
def fnExactPagesRow : OpenClaim := { program := "ytpbkiokcailkcaa", sum := "432e4f5fefe7f1e889f2d39d152449c1421589ab344c928bddcc8db69ba9f21e", func := "loop.example/kilnstone/laws.FnExactPages", spec := "fnExactPages", apart := false }
def FnExactPagesSaid : Prop := fnExactPagesRow.holds Try.pinned (OpenSpec.ofChange fnExactPagesSpec)

/-- ITS FALSE NEIGHBOUR: 'it returns false'. Refute it at one input. -/
def fnExactPagesWrong : ChangeSpec := { name := "fnExactPages", fn := fun _ => fun
  | [d1, d2] => { results := [.lit (.bool false)], args := [d1, d2] }
  | _ => none }
def FnExactPagesWrongFalsely : Prop := fnExactPagesRow.holds Try.pinned (OpenSpec.ofChange fnExactPagesWrong)

/-- 'laws.FnExactSum': WHATEVER THE INPUT: true; the input reads as it did. -/
def fnExactSumSpec : ChangeSpec := { name := "fnExactSum", fn := fun _ => fun
  | [d1, d2] => { results := [.lit (.bool true)], args := [d1, d2] }
  | _ => none }
def fnExactSumRow : OpenClaim := { program := "ytpbkiokcailkcaa", sum := "432e4f5fefe7f1e889f2d39d152449c1421589ab344c928bddcc8db69ba9f21e", func := "loop.example/kilnstone/laws.FnExactSum", spec := "fnExactSum", apart := false }
def FnExactSumSaid : Prop := fnExactSumRow.holds Try.pinned (OpenSpec.ofChange fnExactSumSpec)

/-- ITS FALSE NEIGHBOUR: 'it returns false'. Refute it at one input. -/
def fnExactSumWrong : ChangeSpec := { name := "fnExactSum", fn := fun _ => fun
  | [d1, d2] => { results := [.lit (.bool false)], args := [d1, d2] }
  | _ => none }
def FnExactSumWrongFalsely : Prop := fnExactSumRow.holds Try.pinned (OpenSpec.ofChange fnExactSumWrong)

/-- 'laws.FnExactValidBatch': WHATEVER THE INPUT: true; the input reads as it did. -/
def fnExactValidBatchSpec : ChangeSpec := { name := "fnExactValidBatch", fn := fun _ => fun
  | [d] => { results := [.lit (.bool true)], args := [d] }
  | _ => none }
def fnExactValidBatchRow : OpenClaim := { program := "ytpbkiokcailkcaa", sum := "432e4f5fefe7f1e889f2d39d152449c1421589ab344c928bddcc8db69ba9f21e", func := "loop.example/kilnstone/laws.FnExactValidBatch", spec := "fnExactValidBatch", apart := false }
def FnExactValidBatchSaid : Prop := fnExactValidBatchRow.holds Try.pinned (OpenSpec.ofChange fnExactValidBatchSpec)

/-- ITS FALSE NEIGHBOUR: 'it returns false'. Refute it at one input. -/
def fnExactValidBatchWrong : ChangeSpec := { name := "fnExactValidBatch", fn := fun _ => fun
  | [d] => { results := [.lit (.bool false)], args := [d] }
  | _ => none }
def FnExactValidBatchWrongFalsely : Prop := fnExactValidBatchRow.holds Try.pinned (OpenSpec.ofChange fnExactValidBatchWrong)

/-- 'laws.FnExactValidState': WHATEVER THE INPUT: true; the input reads as it did. -/
def fnExactValidStateSpec : ChangeSpec := { name := "fnExactValidState", fn := fun _ => fun
  | [d] => { results := [.lit (.bool true)], args := [d] }
  | _ => none }
def fnExactValidStateRow : OpenClaim := { program := "ytpbkiokcailkcaa", sum := "432e4f5fefe7f1e889f2d39d152449c1421589ab344c928bddcc8db69ba9f21e", func := "loop.example/kilnstone/laws.FnExactValidState", spec := "fnExactValidState", apart := false }
def FnExactValidStateSaid : Prop := fnExactValidStateRow.holds Try.pinned (OpenSpec.ofChange fnExactValidStateSpec)

/-- ITS FALSE NEIGHBOUR: 'it returns false'. Refute it at one input. -/
def fnExactValidStateWrong : ChangeSpec := { name := "fnExactValidState", fn := fun _ => fun
  | [d] => { results := [.lit (.bool false)], args := [d] }
  | _ => none }
def FnExactValidStateWrongFalsely : Prop := fnExactValidStateRow.holds Try.pinned (OpenSpec.ofChange fnExactValidStateWrong)

/- THE SECOND FORM. 'bulk': how many values and letters a reading holds, each counted each time it is reached (what is shared counts as often as it is met; a slice's spare places count too). A statement '..UptoSaid' is the law's where the arguments, and the package variables that the reading takes, are together of bulk at most 1048576: NARROWER than '..Said'. Prove '..Said' where nothing that the law and all that it calls make is longer than what came in: it says more and counts as full. Else prove '..UptoSaid'. A law counts once. -/
mutual
def uptoBulk {H : Type} : DataW H → Nat
  | .lit (.string bytes) => bytes.length + 1
  | .lit _ => 1
  | .nil => 1
  | .ptr d => uptoBulk d + 1
  | .slice elems spare => uptoBulkAll elems + uptoBulkAll spare + 1
  | .agg parts => uptoBulkAll parts + 1
  | .iface _ d => uptoBulk d + 1
  | .map entries => uptoBulkEntries entries + 1
  | .held _ => 1
def uptoBulkAll {H : Type} : List (DataW H) → Nat
  | [] => 0
  | d :: r => uptoBulk d + uptoBulkAll r
def uptoBulkEntries {H : Type} : List (Lit × DataW H) → Nat
  | [] => 0
  | x :: r => uptoBulkEntry x + uptoBulkEntries r
def uptoBulkEntry {H : Type} : Lit × DataW H → Nat
  | (.string bytes, d) => bytes.length + uptoBulk d + 1
  | (_, d) => uptoBulk d + 1
 end
def uptoSmall : (H : Type) → List (DataW H) → Bool := fun _ ds => decide (uptoBulkAll ds ≤ 1048576)
def OpenSpec.upto (s : _root_.Go.ChangeSpec) : _root_.Go.OpenSpec := { _root_.Go.OpenSpec.ofChange s with cond := some uptoSmall }

/-- 'laws.FnExactConstants', WHERE WHAT IT READS IS OF BULK AT MOST 1048576: true; the input reads as it did. -/
def fnExactConstantsUptoRow : OpenClaim := { program := "ytpbkiokcailkcaa", sum := "432e4f5fefe7f1e889f2d39d152449c1421589ab344c928bddcc8db69ba9f21e", func := "loop.example/kilnstone/laws.FnExactConstants", spec := "fnExactConstants", apart := false, narrowed := true }
def FnExactConstantsUptoSaid : Prop := fnExactConstantsUptoRow.holds Try.pinned (OpenSpec.upto fnExactConstantsSpec)

/-- 'laws.FnExactHalves', WHERE WHAT IT READS IS OF BULK AT MOST 1048576: true; the input reads as it did. -/
def fnExactHalvesUptoRow : OpenClaim := { program := "ytpbkiokcailkcaa", sum := "432e4f5fefe7f1e889f2d39d152449c1421589ab344c928bddcc8db69ba9f21e", func := "loop.example/kilnstone/laws.FnExactHalves", spec := "fnExactHalves", apart := false, narrowed := true }
def FnExactHalvesUptoSaid : Prop := fnExactHalvesUptoRow.holds Try.pinned (OpenSpec.upto fnExactHalvesSpec)

/-- 'laws.FnExactPages', WHERE WHAT IT READS IS OF BULK AT MOST 1048576: true; the input reads as it did. -/
def fnExactPagesUptoRow : OpenClaim := { program := "ytpbkiokcailkcaa", sum := "432e4f5fefe7f1e889f2d39d152449c1421589ab344c928bddcc8db69ba9f21e", func := "loop.example/kilnstone/laws.FnExactPages", spec := "fnExactPages", apart := false, narrowed := true }
def FnExactPagesUptoSaid : Prop := fnExactPagesUptoRow.holds Try.pinned (OpenSpec.upto fnExactPagesSpec)

/-- 'laws.FnExactSum', WHERE WHAT IT READS IS OF BULK AT MOST 1048576: true; the input reads as it did. -/
def fnExactSumUptoRow : OpenClaim := { program := "ytpbkiokcailkcaa", sum := "432e4f5fefe7f1e889f2d39d152449c1421589ab344c928bddcc8db69ba9f21e", func := "loop.example/kilnstone/laws.FnExactSum", spec := "fnExactSum", apart := false, narrowed := true }
def FnExactSumUptoSaid : Prop := fnExactSumUptoRow.holds Try.pinned (OpenSpec.upto fnExactSumSpec)

/-- 'laws.FnExactValidBatch', WHERE WHAT IT READS IS OF BULK AT MOST 1048576: true; the input reads as it did. -/
def fnExactValidBatchUptoRow : OpenClaim := { program := "ytpbkiokcailkcaa", sum := "432e4f5fefe7f1e889f2d39d152449c1421589ab344c928bddcc8db69ba9f21e", func := "loop.example/kilnstone/laws.FnExactValidBatch", spec := "fnExactValidBatch", apart := false, narrowed := true }
def FnExactValidBatchUptoSaid : Prop := fnExactValidBatchUptoRow.holds Try.pinned (OpenSpec.upto fnExactValidBatchSpec)

/-- 'laws.FnExactValidState', WHERE WHAT IT READS IS OF BULK AT MOST 1048576: true; the input reads as it did. -/
def fnExactValidStateUptoRow : OpenClaim := { program := "ytpbkiokcailkcaa", sum := "432e4f5fefe7f1e889f2d39d152449c1421589ab344c928bddcc8db69ba9f21e", func := "loop.example/kilnstone/laws.FnExactValidState", spec := "fnExactValidState", apart := false, narrowed := true }
def FnExactValidStateUptoSaid : Prop := fnExactValidStateUptoRow.holds Try.pinned (OpenSpec.upto fnExactValidStateSpec)

end Rows
end Go.Proofs.Ytpbkiokcailkcaa
