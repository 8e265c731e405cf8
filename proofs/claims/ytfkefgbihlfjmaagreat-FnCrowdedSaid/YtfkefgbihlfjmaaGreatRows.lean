/-
  No cell of these rows narrows 'for every input' (looked for: loops, veiled, ifaces, maps, wideKeys, modest, calm, conditions, laid).
  DERIVED. THE GIVEN ROWS OF THIS SEAT. 9 by the template 'for every input the law returns true; each argument reads behind the call as it read before'; 0 by the template 'total and deterministic' (their statements: YtfkefgbihlfjmaaGreatTotals.lean).
  GIVEN WITH THE SEED: the statements are not yours to turn. If you find one false, say at which input.
  Laid BY PROGRAM, IN A SANDBOX (cutbox-rows.mjs): the forced cells as the released guide's own fill.sh prints them over the translation 08dbc8e3780c657e… (all of the seat's roots in one cut). By AI agents, Wed Nov 11 2026. No macro, syntax, notation, axiom, sorry.
-/
import Derived.Test.YtfkefgbihlfjmaaGreatChecked
import GoSem.Claim
import GoSem.ClaimJoined
import GoSem.ClaimMapViews
import Derived.JoinedTies
import Derived.KernelRfl
namespace Go.Proofs.YtfkefgbihlfjmaaGreat
/- THE CELL 'sum', in the pinned program and in every row, IS THE sha256 OF THE DUMP (.gsa) THAT YtfkefgbihlfjmaaGreatProg.lean LOADS. Nothing in Lean hashes anything: it is a label: what it is worth is what the hold of that sum in a sandbox is worth. -/
noncomputable def Tryz.pinned : Pinned := { name := "ytfkefgbihlfjmaagreat", sum := "08dbc8e3780c657e8ceacc720535518118ab1d6ea7a96a63595002646323b531", checked := Tryz.checked }
namespace Rows
def none {H : Type} : Left H := { results := [], args := [] }

/-- 'laws.FnForged': WHATEVER THE INPUT: true; the input reads as it did. -/
def fnForgedSpec : ChangeSpec := { name := "fnForged", fn := fun _ => fun
  | [d] => { results := [.lit (.bool true)], args := [d] }
  | _ => none }
def fnForgedRow : OpenClaim := { program := "ytfkefgbihlfjmaagreat", sum := "08dbc8e3780c657e8ceacc720535518118ab1d6ea7a96a63595002646323b531", func := "loop.example/kilnstone/laws.FnForged", spec := "fnForged", inPlace := ["internal/abi.NoEscape", "internal/bytealg.MakeNoZero"], recurses := true, apart := false }
def FnForgedSaid : Prop := fnForgedRow.holds Tryz.pinned (OpenSpec.ofChange fnForgedSpec)

/-- ITS FALSE NEIGHBOUR: 'it returns false'. Refute it at one input. -/
def fnForgedWrong : ChangeSpec := { name := "fnForged", fn := fun _ => fun
  | [d] => { results := [.lit (.bool false)], args := [d] }
  | _ => none }
def FnForgedWrongFalsely : Prop := fnForgedRow.holds Tryz.pinned (OpenSpec.ofChange fnForgedWrong)

/-- 'laws.FnExactFound': WHATEVER THE INPUT: true; the input reads as it did. -/
def fnExactFoundSpec : ChangeSpec := { name := "fnExactFound", fn := fun _ => fun
  | [d] => { results := [.lit (.bool true)], args := [d] }
  | _ => none }
def fnExactFoundRow : OpenClaim := { program := "ytfkefgbihlfjmaagreat", sum := "08dbc8e3780c657e8ceacc720535518118ab1d6ea7a96a63595002646323b531", func := "loop.example/kilnstone/laws.FnExactFound", spec := "fnExactFound", inPlace := ["internal/abi.NoEscape", "internal/bytealg.MakeNoZero", "internal/reflectlite.ValueOf", "internal/reflectlite.Swapper", "(internal/reflectlite.Value).Len"], unfollowed := true, recurses := true, apart := false }
def FnExactFoundSaid : Prop := fnExactFoundRow.holds Tryz.pinned (OpenSpec.ofChange fnExactFoundSpec)

/-- ITS FALSE NEIGHBOUR: 'it returns false'. Refute it at one input. -/
def fnExactFoundWrong : ChangeSpec := { name := "fnExactFound", fn := fun _ => fun
  | [d] => { results := [.lit (.bool false)], args := [d] }
  | _ => none }
def FnExactFoundWrongFalsely : Prop := fnExactFoundRow.holds Tryz.pinned (OpenSpec.ofChange fnExactFoundWrong)

/-- 'laws.FnStores': WHATEVER THE INPUT: true; the input reads as it did. -/
def fnStoresSpec : ChangeSpec := { name := "fnStores", fn := fun _ => fun
  | [d1, d2] => { results := [.lit (.bool true)], args := [d1, d2] }
  | _ => none }
def fnStoresRow : OpenClaim := { program := "ytfkefgbihlfjmaagreat", sum := "08dbc8e3780c657e8ceacc720535518118ab1d6ea7a96a63595002646323b531", func := "loop.example/kilnstone/laws.FnStores", spec := "fnStores", inPlace := ["internal/abi.NoEscape", "internal/bytealg.MakeNoZero", "internal/reflectlite.ValueOf", "internal/reflectlite.Swapper", "(internal/reflectlite.Value).Len"], unfollowed := true, recurses := true, apart := false }
def FnStoresSaid : Prop := fnStoresRow.holds Tryz.pinned (OpenSpec.ofChange fnStoresSpec)

/-- ITS FALSE NEIGHBOUR: 'it returns false'. Refute it at one input. -/
def fnStoresWrong : ChangeSpec := { name := "fnStores", fn := fun _ => fun
  | [d1, d2] => { results := [.lit (.bool false)], args := [d1, d2] }
  | _ => none }
def FnStoresWrongFalsely : Prop := fnStoresRow.holds Tryz.pinned (OpenSpec.ofChange fnStoresWrong)

/-- 'laws.FnExactDo': WHATEVER THE INPUT: true; the input reads as it did. -/
def fnExactDoSpec : ChangeSpec := { name := "fnExactDo", fn := fun _ => fun
  | [d1, d2] => { results := [.lit (.bool true)], args := [d1, d2] }
  | _ => none }
def fnExactDoRow : OpenClaim := { program := "ytfkefgbihlfjmaagreat", sum := "08dbc8e3780c657e8ceacc720535518118ab1d6ea7a96a63595002646323b531", func := "loop.example/kilnstone/laws.FnExactDo", spec := "fnExactDo", inPlace := ["internal/abi.NoEscape", "internal/bytealg.MakeNoZero", "internal/reflectlite.ValueOf", "internal/reflectlite.Swapper", "(internal/reflectlite.Value).Len"], unfollowed := true, recurses := true, apart := false }
def FnExactDoSaid : Prop := fnExactDoRow.holds Tryz.pinned (OpenSpec.ofChange fnExactDoSpec)

/-- ITS FALSE NEIGHBOUR: 'it returns false'. Refute it at one input. -/
def fnExactDoWrong : ChangeSpec := { name := "fnExactDo", fn := fun _ => fun
  | [d1, d2] => { results := [.lit (.bool false)], args := [d1, d2] }
  | _ => none }
def FnExactDoWrongFalsely : Prop := fnExactDoRow.holds Tryz.pinned (OpenSpec.ofChange fnExactDoWrong)

/-- 'laws.FnTop': WHATEVER THE INPUT: true; the input reads as it did. -/
def fnTopSpec : ChangeSpec := { name := "fnTop", fn := fun _ => fun
  | [d1, d2] => { results := [.lit (.bool true)], args := [d1, d2] }
  | _ => none }
def fnTopRow : OpenClaim := { program := "ytfkefgbihlfjmaagreat", sum := "08dbc8e3780c657e8ceacc720535518118ab1d6ea7a96a63595002646323b531", func := "loop.example/kilnstone/laws.FnTop", spec := "fnTop", inPlace := ["internal/abi.NoEscape", "internal/bytealg.MakeNoZero", "internal/reflectlite.ValueOf", "internal/reflectlite.Swapper", "(internal/reflectlite.Value).Len"], unfollowed := true, recurses := true, apart := false }
def FnTopSaid : Prop := fnTopRow.holds Tryz.pinned (OpenSpec.ofChange fnTopSpec)

/-- ITS FALSE NEIGHBOUR: 'it returns false'. Refute it at one input. -/
def fnTopWrong : ChangeSpec := { name := "fnTop", fn := fun _ => fun
  | [d1, d2] => { results := [.lit (.bool false)], args := [d1, d2] }
  | _ => none }
def FnTopWrongFalsely : Prop := fnTopRow.holds Tryz.pinned (OpenSpec.ofChange fnTopWrong)

/-- 'laws.FnSafe': WHATEVER THE INPUT: true; the input reads as it did. -/
def fnSafeSpec : ChangeSpec := { name := "fnSafe", fn := fun _ => fun
  | [d1, d2] => { results := [.lit (.bool true)], args := [d1, d2] }
  | _ => none }
def fnSafeRow : OpenClaim := { program := "ytfkefgbihlfjmaagreat", sum := "08dbc8e3780c657e8ceacc720535518118ab1d6ea7a96a63595002646323b531", func := "loop.example/kilnstone/laws.FnSafe", spec := "fnSafe", inPlace := ["internal/abi.NoEscape", "internal/bytealg.MakeNoZero", "internal/reflectlite.ValueOf", "internal/reflectlite.Swapper", "(internal/reflectlite.Value).Len"], unfollowed := true, recurses := true, apart := false }
def FnSafeSaid : Prop := fnSafeRow.holds Tryz.pinned (OpenSpec.ofChange fnSafeSpec)

/-- ITS FALSE NEIGHBOUR: 'it returns false'. Refute it at one input. -/
def fnSafeWrong : ChangeSpec := { name := "fnSafe", fn := fun _ => fun
  | [d1, d2] => { results := [.lit (.bool false)], args := [d1, d2] }
  | _ => none }
def FnSafeWrongFalsely : Prop := fnSafeRow.holds Tryz.pinned (OpenSpec.ofChange fnSafeWrong)

/-- 'laws.FnSafety': WHATEVER THE INPUT: true; the input reads as it did. -/
def fnSafetySpec : ChangeSpec := { name := "fnSafety", fn := fun _ => fun
  | [d1, d2] => { results := [.lit (.bool true)], args := [d1, d2] }
  | _ => none }
def fnSafetyRow : OpenClaim := { program := "ytfkefgbihlfjmaagreat", sum := "08dbc8e3780c657e8ceacc720535518118ab1d6ea7a96a63595002646323b531", func := "loop.example/kilnstone/laws.FnSafety", spec := "fnSafety", inPlace := ["internal/abi.NoEscape", "internal/bytealg.MakeNoZero", "internal/reflectlite.ValueOf", "internal/reflectlite.Swapper", "(internal/reflectlite.Value).Len"], unfollowed := true, recurses := true, apart := false }
def FnSafetySaid : Prop := fnSafetyRow.holds Tryz.pinned (OpenSpec.ofChange fnSafetySpec)

/-- ITS FALSE NEIGHBOUR: 'it returns false'. Refute it at one input. -/
def fnSafetyWrong : ChangeSpec := { name := "fnSafety", fn := fun _ => fun
  | [d1, d2] => { results := [.lit (.bool false)], args := [d1, d2] }
  | _ => none }
def FnSafetyWrongFalsely : Prop := fnSafetyRow.holds Tryz.pinned (OpenSpec.ofChange fnSafetyWrong)

/-- 'laws.FnAgain': WHATEVER THE INPUT: true; the input reads as it did. -/
def fnAgainSpec : ChangeSpec := { name := "fnAgain", fn := fun _ => fun
  | [d1, d2] => { results := [.lit (.bool true)], args := [d1, d2] }
  | _ => none }
def fnAgainRow : OpenClaim := { program := "ytfkefgbihlfjmaagreat", sum := "08dbc8e3780c657e8ceacc720535518118ab1d6ea7a96a63595002646323b531", func := "loop.example/kilnstone/laws.FnAgain", spec := "fnAgain", inPlace := ["internal/abi.NoEscape", "internal/bytealg.MakeNoZero", "internal/reflectlite.ValueOf", "internal/reflectlite.Swapper", "(internal/reflectlite.Value).Len"], unfollowed := true, recurses := true, apart := false }
def FnAgainSaid : Prop := fnAgainRow.holds Tryz.pinned (OpenSpec.ofChange fnAgainSpec)

/-- ITS FALSE NEIGHBOUR: 'it returns false'. Refute it at one input. -/
def fnAgainWrong : ChangeSpec := { name := "fnAgain", fn := fun _ => fun
  | [d1, d2] => { results := [.lit (.bool false)], args := [d1, d2] }
  | _ => none }
def FnAgainWrongFalsely : Prop := fnAgainRow.holds Tryz.pinned (OpenSpec.ofChange fnAgainWrong)

/-- 'laws.FnCrowded': WHATEVER THE INPUT: true; the input reads as it did. -/
def fnCrowdedSpec : ChangeSpec := { name := "fnCrowded", fn := fun _ => fun
  | [d] => { results := [.lit (.bool true)], args := [d] }
  | _ => none }
def fnCrowdedRow : OpenClaim := { program := "ytfkefgbihlfjmaagreat", sum := "08dbc8e3780c657e8ceacc720535518118ab1d6ea7a96a63595002646323b531", func := "loop.example/kilnstone/laws.FnCrowded", spec := "fnCrowded", inPlace := ["internal/abi.NoEscape", "internal/bytealg.MakeNoZero", "internal/reflectlite.ValueOf", "internal/reflectlite.Swapper", "(internal/reflectlite.Value).Len"], unfollowed := true, recurses := true, apart := false }
def FnCrowdedSaid : Prop := fnCrowdedRow.holds Tryz.pinned (OpenSpec.ofChange fnCrowdedSpec)

/-- ITS FALSE NEIGHBOUR: 'it returns false'. Refute it at one input. -/
def fnCrowdedWrong : ChangeSpec := { name := "fnCrowded", fn := fun _ => fun
  | [d] => { results := [.lit (.bool false)], args := [d] }
  | _ => none }
def FnCrowdedWrongFalsely : Prop := fnCrowdedRow.holds Tryz.pinned (OpenSpec.ofChange fnCrowdedWrong)

/- THE SECOND FORM. 'bulk': how many values and letters a reading holds, each counted each time it is reached (what is shared counts as often as it is met; a slice's spare places count too). A statement '..UptoSaid' is the law's where the arguments, and the package variables that the reading takes, are together of bulk at most 1048576: NARROWER than '..Said'. Prove '..Said' where nothing that the law and all that it calls make is longer than what came in: it says more and counts as full. Else prove '..UptoSaid'. A law counts once. -/
mutual
def uptoBulk {H : Type} : DataW H → Nat
  | .lit (.string bytes) => bytes.length + 1
  | .lit _ => 1
  | .nil => 1
  | .ptr d => uptoBulk d + 1
  | .slice elems spare => uptoBulkAll elems + uptoBulkAll spare + 1
  | .agg parts => uptoBulkAll parts + 1
  | .iface _ d => uptoBulk d + 1
  | .map entries => uptoBulkEntries entries + 1
  | .held _ => 1
def uptoBulkAll {H : Type} : List (DataW H) → Nat
  | [] => 0
  | d :: r => uptoBulk d + uptoBulkAll r
def uptoBulkEntries {H : Type} : List (Lit × DataW H) → Nat
  | [] => 0
  | x :: r => uptoBulkEntry x + uptoBulkEntries r
def uptoBulkEntry {H : Type} : Lit × DataW H → Nat
  | (.string bytes, d) => bytes.length + uptoBulk d + 1
  | (_, d) => uptoBulk d + 1
 end
def uptoSmall : (H : Type) → List (DataW H) → Bool := fun _ ds => decide (uptoBulkAll ds ≤ 1048576)
def OpenSpec.upto (s : _root_.Go.ChangeSpec) : _root_.Go.OpenSpec := { _root_.Go.OpenSpec.ofChange s with cond := some uptoSmall }

/-- 'laws.FnForged', WHERE WHAT IT READS IS OF BULK AT MOST 1048576: true; the input reads as it did. -/
def fnForgedUptoRow : OpenClaim := { program := "ytfkefgbihlfjmaagreat", sum := "08dbc8e3780c657e8ceacc720535518118ab1d6ea7a96a63595002646323b531", func := "loop.example/kilnstone/laws.FnForged", spec := "fnForged", inPlace := ["internal/abi.NoEscape", "internal/bytealg.MakeNoZero"], recurses := true, apart := false, narrowed := true }
def FnForgedUptoSaid : Prop := fnForgedUptoRow.holds Tryz.pinned (OpenSpec.upto fnForgedSpec)

/-- 'laws.FnExactFound', WHERE WHAT IT READS IS OF BULK AT MOST 1048576: true; the input reads as it did. -/
def fnExactFoundUptoRow : OpenClaim := { program := "ytfkefgbihlfjmaagreat", sum := "08dbc8e3780c657e8ceacc720535518118ab1d6ea7a96a63595002646323b531", func := "loop.example/kilnstone/laws.FnExactFound", spec := "fnExactFound", inPlace := ["internal/abi.NoEscape", "internal/bytealg.MakeNoZero", "internal/reflectlite.ValueOf", "internal/reflectlite.Swapper", "(internal/reflectlite.Value).Len"], unfollowed := true, recurses := true, apart := false, narrowed := true }
def FnExactFoundUptoSaid : Prop := fnExactFoundUptoRow.holds Tryz.pinned (OpenSpec.upto fnExactFoundSpec)

/-- 'laws.FnStores', WHERE WHAT IT READS IS OF BULK AT MOST 1048576: true; the input reads as it did. -/
def fnStoresUptoRow : OpenClaim := { program := "ytfkefgbihlfjmaagreat", sum := "08dbc8e3780c657e8ceacc720535518118ab1d6ea7a96a63595002646323b531", func := "loop.example/kilnstone/laws.FnStores", spec := "fnStores", inPlace := ["internal/abi.NoEscape", "internal/bytealg.MakeNoZero", "internal/reflectlite.ValueOf", "internal/reflectlite.Swapper", "(internal/reflectlite.Value).Len"], unfollowed := true, recurses := true, apart := false, narrowed := true }
def FnStoresUptoSaid : Prop := fnStoresUptoRow.holds Tryz.pinned (OpenSpec.upto fnStoresSpec)

/-- 'laws.FnExactDo', WHERE WHAT IT READS IS OF BULK AT MOST 1048576: true; the input reads as it did. -/
def fnExactDoUptoRow : OpenClaim := { program := "ytfkefgbihlfjmaagreat", sum := "08dbc8e3780c657e8ceacc720535518118ab1d6ea7a96a63595002646323b531", func := "loop.example/kilnstone/laws.FnExactDo", spec := "fnExactDo", inPlace := ["internal/abi.NoEscape", "internal/bytealg.MakeNoZero", "internal/reflectlite.ValueOf", "internal/reflectlite.Swapper", "(internal/reflectlite.Value).Len"], unfollowed := true, recurses := true, apart := false, narrowed := true }
def FnExactDoUptoSaid : Prop := fnExactDoUptoRow.holds Tryz.pinned (OpenSpec.upto fnExactDoSpec)

/-- 'laws.FnTop', WHERE WHAT IT READS IS OF BULK AT MOST 1048576: true; the input reads as it did. -/
def fnTopUptoRow : OpenClaim := { program := "ytfkefgbihlfjmaagreat", sum := "08dbc8e3780c657e8ceacc720535518118ab1d6ea7a96a63595002646323b531", func := "loop.example/kilnstone/laws.FnTop", spec := "fnTop", inPlace := ["internal/abi.NoEscape", "internal/bytealg.MakeNoZero", "internal/reflectlite.ValueOf", "internal/reflectlite.Swapper", "(internal/reflectlite.Value).Len"], unfollowed := true, recurses := true, apart := false, narrowed := true }
def FnTopUptoSaid : Prop := fnTopUptoRow.holds Tryz.pinned (OpenSpec.upto fnTopSpec)

/-- 'laws.FnSafe', WHERE WHAT IT READS IS OF BULK AT MOST 1048576: true; the input reads as it did. -/
def fnSafeUptoRow : OpenClaim := { program := "ytfkefgbihlfjmaagreat", sum := "08dbc8e3780c657e8ceacc720535518118ab1d6ea7a96a63595002646323b531", func := "loop.example/kilnstone/laws.FnSafe", spec := "fnSafe", inPlace := ["internal/abi.NoEscape", "internal/bytealg.MakeNoZero", "internal/reflectlite.ValueOf", "internal/reflectlite.Swapper", "(internal/reflectlite.Value).Len"], unfollowed := true, recurses := true, apart := false, narrowed := true }
def FnSafeUptoSaid : Prop := fnSafeUptoRow.holds Tryz.pinned (OpenSpec.upto fnSafeSpec)

/-- 'laws.FnSafety', WHERE WHAT IT READS IS OF BULK AT MOST 1048576: true; the input reads as it did. -/
def fnSafetyUptoRow : OpenClaim := { program := "ytfkefgbihlfjmaagreat", sum := "08dbc8e3780c657e8ceacc720535518118ab1d6ea7a96a63595002646323b531", func := "loop.example/kilnstone/laws.FnSafety", spec := "fnSafety", inPlace := ["internal/abi.NoEscape", "internal/bytealg.MakeNoZero", "internal/reflectlite.ValueOf", "internal/reflectlite.Swapper", "(internal/reflectlite.Value).Len"], unfollowed := true, recurses := true, apart := false, narrowed := true }
def FnSafetyUptoSaid : Prop := fnSafetyUptoRow.holds Tryz.pinned (OpenSpec.upto fnSafetySpec)

/-- 'laws.FnAgain', WHERE WHAT IT READS IS OF BULK AT MOST 1048576: true; the input reads as it did. -/
def fnAgainUptoRow : OpenClaim := { program := "ytfkefgbihlfjmaagreat", sum := "08dbc8e3780c657e8ceacc720535518118ab1d6ea7a96a63595002646323b531", func := "loop.example/kilnstone/laws.FnAgain", spec := "fnAgain", inPlace := ["internal/abi.NoEscape", "internal/bytealg.MakeNoZero", "internal/reflectlite.ValueOf", "internal/reflectlite.Swapper", "(internal/reflectlite.Value).Len"], unfollowed := true, recurses := true, apart := false, narrowed := true }
def FnAgainUptoSaid : Prop := fnAgainUptoRow.holds Tryz.pinned (OpenSpec.upto fnAgainSpec)

/-- 'laws.FnCrowded', WHERE WHAT IT READS IS OF BULK AT MOST 1048576: true; the input reads as it did. -/
def fnCrowdedUptoRow : OpenClaim := { program := "ytfkefgbihlfjmaagreat", sum := "08dbc8e3780c657e8ceacc720535518118ab1d6ea7a96a63595002646323b531", func := "loop.example/kilnstone/laws.FnCrowded", spec := "fnCrowded", inPlace := ["internal/abi.NoEscape", "internal/bytealg.MakeNoZero", "internal/reflectlite.ValueOf", "internal/reflectlite.Swapper", "(internal/reflectlite.Value).Len"], unfollowed := true, recurses := true, apart := false, narrowed := true }
def FnCrowdedUptoSaid : Prop := fnCrowdedUptoRow.holds Tryz.pinned (OpenSpec.upto fnCrowdedSpec)

end Rows
end Go.Proofs.YtfkefgbihlfjmaaGreat
