/-
  No cell of these rows narrows 'for every input' (looked for: loops, veiled, ifaces, maps, wideKeys, modest, calm, conditions, laid).
  DERIVED. THE GIVEN ROWS OF THIS SEAT. 7 by the template 'for every input the law returns true; each argument reads behind the call as it read before'; 0 by the template 'total and deterministic' (their statements: YteaoabdlcefkhaaGreatTotals.lean).
  GIVEN WITH THE SEED: the statements are not yours to turn. If you find one false, say at which input.
  Laid BY PROGRAM, IN A SANDBOX (cutbox-rows.mjs): the forced cells as the released guide's own fill.sh prints them over the translation f50dc9075b09e826… (all of the seat's roots in one cut). By AI agents, Wed Nov 11 2026. No macro, syntax, notation, axiom, sorry.
-/
import Derived.Test.YteaoabdlcefkhaaGreatChecked
import GoSem.Claim
import GoSem.ClaimJoined
import GoSem.ClaimMapViews
import Derived.JoinedTies
import Derived.KernelRfl
namespace Go.Proofs.YteaoabdlcefkhaaGreat
/- THE CELL 'sum', in the pinned program and in every row, IS THE sha256 OF THE DUMP (.gsa) THAT YteaoabdlcefkhaaGreatProg.lean LOADS. Nothing in Lean hashes anything: it is a label: what it is worth is what the hold of that sum in a sandbox is worth. -/
noncomputable def Tryz.pinned : Pinned := { name := "yteaoabdlcefkhaagreat", sum := "f50dc9075b09e826ac0d26e0a3db5d4eb21214935256528efd27946ebf4f479a", checked := Tryz.checked }
namespace Rows
def none {H : Type} : Left H := { results := [], args := [] }

/-- 'laws.FnForged': WHATEVER THE INPUT: true; the input reads as it did. -/
def fnForgedSpec : ChangeSpec := { name := "fnForged", fn := fun _ => fun
  | [d] => { results := [.lit (.bool true)], args := [d] }
  | _ => none }
def fnForgedRow : OpenClaim := { program := "yteaoabdlcefkhaagreat", sum := "f50dc9075b09e826ac0d26e0a3db5d4eb21214935256528efd27946ebf4f479a", func := "loop.example/kilnstone/laws.FnForged", spec := "fnForged", inPlace := ["internal/abi.NoEscape", "internal/bytealg.MakeNoZero"], recurses := true, apart := false }
def FnForgedSaid : Prop := fnForgedRow.holds Tryz.pinned (OpenSpec.ofChange fnForgedSpec)

/-- ITS FALSE NEIGHBOUR: 'it returns false'. Refute it at one input. -/
def fnForgedWrong : ChangeSpec := { name := "fnForged", fn := fun _ => fun
  | [d] => { results := [.lit (.bool false)], args := [d] }
  | _ => none }
def FnForgedWrongFalsely : Prop := fnForgedRow.holds Tryz.pinned (OpenSpec.ofChange fnForgedWrong)

/-- 'laws.FnExactCommit': WHATEVER THE INPUT: true; the input reads as it did. -/
def fnExactCommitSpec : ChangeSpec := { name := "fnExactCommit", fn := fun _ => fun
  | [d1, d2] => { results := [.lit (.bool true)], args := [d1, d2] }
  | _ => none }
def fnExactCommitRow : OpenClaim := { program := "yteaoabdlcefkhaagreat", sum := "f50dc9075b09e826ac0d26e0a3db5d4eb21214935256528efd27946ebf4f479a", func := "loop.example/kilnstone/laws.FnExactCommit", spec := "fnExactCommit", inPlace := ["internal/abi.NoEscape", "internal/reflectlite.ValueOf", "internal/reflectlite.Swapper", "(internal/reflectlite.Value).Len", "internal/bytealg.MakeNoZero"], unfollowed := true, recurses := true, apart := false }
def FnExactCommitSaid : Prop := fnExactCommitRow.holds Tryz.pinned (OpenSpec.ofChange fnExactCommitSpec)

/-- ITS FALSE NEIGHBOUR: 'it returns false'. Refute it at one input. -/
def fnExactCommitWrong : ChangeSpec := { name := "fnExactCommit", fn := fun _ => fun
  | [d1, d2] => { results := [.lit (.bool false)], args := [d1, d2] }
  | _ => none }
def FnExactCommitWrongFalsely : Prop := fnExactCommitRow.holds Tryz.pinned (OpenSpec.ofChange fnExactCommitWrong)

/-- 'laws.FnExactOpen': WHATEVER THE INPUT: true; the input reads as it did. -/
def fnExactOpenSpec : ChangeSpec := { name := "fnExactOpen", fn := fun _ => fun
  | [d1, d2] => { results := [.lit (.bool true)], args := [d1, d2] }
  | _ => none }
def fnExactOpenRow : OpenClaim := { program := "yteaoabdlcefkhaagreat", sum := "f50dc9075b09e826ac0d26e0a3db5d4eb21214935256528efd27946ebf4f479a", func := "loop.example/kilnstone/laws.FnExactOpen", spec := "fnExactOpen", inPlace := ["internal/abi.NoEscape", "internal/bytealg.MakeNoZero", "internal/reflectlite.ValueOf", "internal/reflectlite.Swapper", "(internal/reflectlite.Value).Len"], unfollowed := true, recurses := true, apart := false }
def FnExactOpenSaid : Prop := fnExactOpenRow.holds Tryz.pinned (OpenSpec.ofChange fnExactOpenSpec)

/-- ITS FALSE NEIGHBOUR: 'it returns false'. Refute it at one input. -/
def fnExactOpenWrong : ChangeSpec := { name := "fnExactOpen", fn := fun _ => fun
  | [d1, d2] => { results := [.lit (.bool false)], args := [d1, d2] }
  | _ => none }
def FnExactOpenWrongFalsely : Prop := fnExactOpenRow.holds Tryz.pinned (OpenSpec.ofChange fnExactOpenWrong)

/-- 'laws.FnExactRight': WHATEVER THE INPUT: true; the input reads as it did. -/
def fnExactRightSpec : ChangeSpec := { name := "fnExactRight", fn := fun _ => fun
  | [d] => { results := [.lit (.bool true)], args := [d] }
  | _ => none }
def fnExactRightRow : OpenClaim := { program := "yteaoabdlcefkhaagreat", sum := "f50dc9075b09e826ac0d26e0a3db5d4eb21214935256528efd27946ebf4f479a", func := "loop.example/kilnstone/laws.FnExactRight", spec := "fnExactRight", inPlace := ["internal/abi.NoEscape", "internal/bytealg.MakeNoZero", "internal/reflectlite.ValueOf", "internal/reflectlite.Swapper", "(internal/reflectlite.Value).Len"], unfollowed := true, recurses := true, apart := false }
def FnExactRightSaid : Prop := fnExactRightRow.holds Tryz.pinned (OpenSpec.ofChange fnExactRightSpec)

/-- ITS FALSE NEIGHBOUR: 'it returns false'. Refute it at one input. -/
def fnExactRightWrong : ChangeSpec := { name := "fnExactRight", fn := fun _ => fun
  | [d] => { results := [.lit (.bool false)], args := [d] }
  | _ => none }
def FnExactRightWrongFalsely : Prop := fnExactRightRow.holds Tryz.pinned (OpenSpec.ofChange fnExactRightWrong)

/-- 'laws.FnExactFound': WHATEVER THE INPUT: true; the input reads as it did. -/
def fnExactFoundSpec : ChangeSpec := { name := "fnExactFound", fn := fun _ => fun
  | [d] => { results := [.lit (.bool true)], args := [d] }
  | _ => none }
def fnExactFoundRow : OpenClaim := { program := "yteaoabdlcefkhaagreat", sum := "f50dc9075b09e826ac0d26e0a3db5d4eb21214935256528efd27946ebf4f479a", func := "loop.example/kilnstone/laws.FnExactFound", spec := "fnExactFound", inPlace := ["internal/abi.NoEscape", "internal/bytealg.MakeNoZero", "internal/reflectlite.ValueOf", "internal/reflectlite.Swapper", "(internal/reflectlite.Value).Len"], unfollowed := true, recurses := true, apart := false }
def FnExactFoundSaid : Prop := fnExactFoundRow.holds Tryz.pinned (OpenSpec.ofChange fnExactFoundSpec)

/-- ITS FALSE NEIGHBOUR: 'it returns false'. Refute it at one input. -/
def fnExactFoundWrong : ChangeSpec := { name := "fnExactFound", fn := fun _ => fun
  | [d] => { results := [.lit (.bool false)], args := [d] }
  | _ => none }
def FnExactFoundWrongFalsely : Prop := fnExactFoundRow.holds Tryz.pinned (OpenSpec.ofChange fnExactFoundWrong)

/-- 'laws.FnStores': WHATEVER THE INPUT: true; the input reads as it did. -/
def fnStoresSpec : ChangeSpec := { name := "fnStores", fn := fun _ => fun
  | [d1, d2] => { results := [.lit (.bool true)], args := [d1, d2] }
  | _ => none }
def fnStoresRow : OpenClaim := { program := "yteaoabdlcefkhaagreat", sum := "f50dc9075b09e826ac0d26e0a3db5d4eb21214935256528efd27946ebf4f479a", func := "loop.example/kilnstone/laws.FnStores", spec := "fnStores", inPlace := ["internal/abi.NoEscape", "internal/bytealg.MakeNoZero", "internal/reflectlite.ValueOf", "internal/reflectlite.Swapper", "(internal/reflectlite.Value).Len"], unfollowed := true, recurses := true, apart := false }
def FnStoresSaid : Prop := fnStoresRow.holds Tryz.pinned (OpenSpec.ofChange fnStoresSpec)

/-- ITS FALSE NEIGHBOUR: 'it returns false'. Refute it at one input. -/
def fnStoresWrong : ChangeSpec := { name := "fnStores", fn := fun _ => fun
  | [d1, d2] => { results := [.lit (.bool false)], args := [d1, d2] }
  | _ => none }
def FnStoresWrongFalsely : Prop := fnStoresRow.holds Tryz.pinned (OpenSpec.ofChange fnStoresWrong)

/-- 'laws.FnExactDo': WHATEVER THE INPUT: true; the input reads as it did. -/
def fnExactDoSpec : ChangeSpec := { name := "fnExactDo", fn := fun _ => fun
  | [d1, d2] => { results := [.lit (.bool true)], args := [d1, d2] }
  | _ => none }
def fnExactDoRow : OpenClaim := { program := "yteaoabdlcefkhaagreat", sum := "f50dc9075b09e826ac0d26e0a3db5d4eb21214935256528efd27946ebf4f479a", func := "loop.example/kilnstone/laws.FnExactDo", spec := "fnExactDo", inPlace := ["internal/abi.NoEscape", "internal/bytealg.MakeNoZero", "internal/reflectlite.ValueOf", "internal/reflectlite.Swapper", "(internal/reflectlite.Value).Len"], unfollowed := true, recurses := true, apart := false }
def FnExactDoSaid : Prop := fnExactDoRow.holds Tryz.pinned (OpenSpec.ofChange fnExactDoSpec)

/-- ITS FALSE NEIGHBOUR: 'it returns false'. Refute it at one input. -/
def fnExactDoWrong : ChangeSpec := { name := "fnExactDo", fn := fun _ => fun
  | [d1, d2] => { results := [.lit (.bool false)], args := [d1, d2] }
  | _ => none }
def FnExactDoWrongFalsely : Prop := fnExactDoRow.holds Tryz.pinned (OpenSpec.ofChange fnExactDoWrong)

/- THE SECOND FORM. 'bulk': how many values and letters a reading holds, each counted each time it is reached (what is shared counts as often as it is met; a slice's spare places count too). A statement '..UptoSaid' is the law's where the arguments, and the package variables that the reading takes, are together of bulk at most 1048576: NARROWER than '..Said'. Prove '..Said' where nothing that the law and all that it calls make is longer than what came in: it says more and counts as full. Else prove '..UptoSaid'. A law counts once. -/
mutual
def uptoBulk {H : Type} : DataW H → Nat
  | .lit (.string bytes) => bytes.length + 1
  | .lit _ => 1
  | .nil => 1
  | .ptr d => uptoBulk d + 1
  | .slice elems spare => uptoBulkAll elems + uptoBulkAll spare + 1
  | .agg parts => uptoBulkAll parts + 1
  | .iface _ d => uptoBulk d + 1
  | .map entries => uptoBulkEntries entries + 1
  | .held _ => 1
def uptoBulkAll {H : Type} : List (DataW H) → Nat
  | [] => 0
  | d :: r => uptoBulk d + uptoBulkAll r
def uptoBulkEntries {H : Type} : List (Lit × DataW H) → Nat
  | [] => 0
  | x :: r => uptoBulkEntry x + uptoBulkEntries r
def uptoBulkEntry {H : Type} : Lit × DataW H → Nat
  | (.string bytes, d) => bytes.length + uptoBulk d + 1
  | (_, d) => uptoBulk d + 1
 end
def uptoSmall : (H : Type) → List (DataW H) → Bool := fun _ ds => decide (uptoBulkAll ds ≤ 1048576)
def OpenSpec.upto (s : _root_.Go.ChangeSpec) : _root_.Go.OpenSpec := { _root_.Go.OpenSpec.ofChange s with cond := some uptoSmall }

/-- 'laws.FnForged', WHERE WHAT IT READS IS OF BULK AT MOST 1048576: true; the input reads as it did. -/
def fnForgedUptoRow : OpenClaim := { program := "yteaoabdlcefkhaagreat", sum := "f50dc9075b09e826ac0d26e0a3db5d4eb21214935256528efd27946ebf4f479a", func := "loop.example/kilnstone/laws.FnForged", spec := "fnForged", inPlace := ["internal/abi.NoEscape", "internal/bytealg.MakeNoZero"], recurses := true, apart := false, narrowed := true }
def FnForgedUptoSaid : Prop := fnForgedUptoRow.holds Tryz.pinned (OpenSpec.upto fnForgedSpec)

/-- 'laws.FnExactCommit', WHERE WHAT IT READS IS OF BULK AT MOST 1048576: true; the input reads as it did. -/
def fnExactCommitUptoRow : OpenClaim := { program := "yteaoabdlcefkhaagreat", sum := "f50dc9075b09e826ac0d26e0a3db5d4eb21214935256528efd27946ebf4f479a", func := "loop.example/kilnstone/laws.FnExactCommit", spec := "fnExactCommit", inPlace := ["internal/abi.NoEscape", "internal/reflectlite.ValueOf", "internal/reflectlite.Swapper", "(internal/reflectlite.Value).Len", "internal/bytealg.MakeNoZero"], unfollowed := true, recurses := true, apart := false, narrowed := true }
def FnExactCommitUptoSaid : Prop := fnExactCommitUptoRow.holds Tryz.pinned (OpenSpec.upto fnExactCommitSpec)

/-- 'laws.FnExactOpen', WHERE WHAT IT READS IS OF BULK AT MOST 1048576: true; the input reads as it did. -/
def fnExactOpenUptoRow : OpenClaim := { program := "yteaoabdlcefkhaagreat", sum := "f50dc9075b09e826ac0d26e0a3db5d4eb21214935256528efd27946ebf4f479a", func := "loop.example/kilnstone/laws.FnExactOpen", spec := "fnExactOpen", inPlace := ["internal/abi.NoEscape", "internal/bytealg.MakeNoZero", "internal/reflectlite.ValueOf", "internal/reflectlite.Swapper", "(internal/reflectlite.Value).Len"], unfollowed := true, recurses := true, apart := false, narrowed := true }
def FnExactOpenUptoSaid : Prop := fnExactOpenUptoRow.holds Tryz.pinned (OpenSpec.upto fnExactOpenSpec)

/-- 'laws.FnExactRight', WHERE WHAT IT READS IS OF BULK AT MOST 1048576: true; the input reads as it did. -/
def fnExactRightUptoRow : OpenClaim := { program := "yteaoabdlcefkhaagreat", sum := "f50dc9075b09e826ac0d26e0a3db5d4eb21214935256528efd27946ebf4f479a", func := "loop.example/kilnstone/laws.FnExactRight", spec := "fnExactRight", inPlace := ["internal/abi.NoEscape", "internal/bytealg.MakeNoZero", "internal/reflectlite.ValueOf", "internal/reflectlite.Swapper", "(internal/reflectlite.Value).Len"], unfollowed := true, recurses := true, apart := false, narrowed := true }
def FnExactRightUptoSaid : Prop := fnExactRightUptoRow.holds Tryz.pinned (OpenSpec.upto fnExactRightSpec)

/-- 'laws.FnExactFound', WHERE WHAT IT READS IS OF BULK AT MOST 1048576: true; the input reads as it did. -/
def fnExactFoundUptoRow : OpenClaim := { program := "yteaoabdlcefkhaagreat", sum := "f50dc9075b09e826ac0d26e0a3db5d4eb21214935256528efd27946ebf4f479a", func := "loop.example/kilnstone/laws.FnExactFound", spec := "fnExactFound", inPlace := ["internal/abi.NoEscape", "internal/bytealg.MakeNoZero", "internal/reflectlite.ValueOf", "internal/reflectlite.Swapper", "(internal/reflectlite.Value).Len"], unfollowed := true, recurses := true, apart := false, narrowed := true }
def FnExactFoundUptoSaid : Prop := fnExactFoundUptoRow.holds Tryz.pinned (OpenSpec.upto fnExactFoundSpec)

/-- 'laws.FnStores', WHERE WHAT IT READS IS OF BULK AT MOST 1048576: true; the input reads as it did. -/
def fnStoresUptoRow : OpenClaim := { program := "yteaoabdlcefkhaagreat", sum := "f50dc9075b09e826ac0d26e0a3db5d4eb21214935256528efd27946ebf4f479a", func := "loop.example/kilnstone/laws.FnStores", spec := "fnStores", inPlace := ["internal/abi.NoEscape", "internal/bytealg.MakeNoZero", "internal/reflectlite.ValueOf", "internal/reflectlite.Swapper", "(internal/reflectlite.Value).Len"], unfollowed := true, recurses := true, apart := false, narrowed := true }
def FnStoresUptoSaid : Prop := fnStoresUptoRow.holds Tryz.pinned (OpenSpec.upto fnStoresSpec)

/-- 'laws.FnExactDo', WHERE WHAT IT READS IS OF BULK AT MOST 1048576: true; the input reads as it did. -/
def fnExactDoUptoRow : OpenClaim := { program := "yteaoabdlcefkhaagreat", sum := "f50dc9075b09e826ac0d26e0a3db5d4eb21214935256528efd27946ebf4f479a", func := "loop.example/kilnstone/laws.FnExactDo", spec := "fnExactDo", inPlace := ["internal/abi.NoEscape", "internal/bytealg.MakeNoZero", "internal/reflectlite.ValueOf", "internal/reflectlite.Swapper", "(internal/reflectlite.Value).Len"], unfollowed := true, recurses := true, apart := false, narrowed := true }
def FnExactDoUptoSaid : Prop := fnExactDoUptoRow.holds Tryz.pinned (OpenSpec.upto fnExactDoSpec)

end Rows
end Go.Proofs.YteaoabdlcefkhaaGreat
