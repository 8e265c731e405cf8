/- FnExactScan returns true for every argument. No condition. -/
import Derived.Test.YtjoiklaecelalaaRows
import Derived.Test.YtjoiklaecelalaaVFnExactScanb
import Derived.WalkKit
import Derived.ProofKit
import Derived.OpenShut
import Derived.ShutString
import Derived.ChangeOld
import Derived.Below
import Derived.SizedLaws
namespace Go.Proofs.Ytjoiklaecelalaa.fnExactScan
open Go.ChangeShapes Go.WideShapes Go.ChangeAt Go.RowKit Go.Proofs.Ytjoiklaecelalaa.R Go.Proofs.Ytjoiklaecelalaa.V
set_option linter.unusedVariables false
theorem own : ownKnob Try.prog.godebug = none := by kernel_rfl
set_option maxRecDepth 100000 in
theorem lifted (os : Os) (started : os.Started) (H : Type) (enc : TypeId × Value → H) :
    ReturnsInHanded {} Try.checked os 9 .any (Rows.fnExactScanSpec.pre6 enc Try.prog Try.f9 Rows.fnExactScanRow.domain false) (Rows.fnExactScanSpec.post enc Try.prog Try.f9 false true false false) := by
  refine returnsInHanded_of_change_sized (C := Try.checked) own started (by kernel_rfl) Try.func9
    (ChangeSpec.witness6 (enc := enc) (C := Try.checked) false ⟨#[], #[.agg #[.slice none 0 0, .slice none 0 0], .int .i64 0, .int .i64 0, .int .i64 0, .int .i64 0, .int .i64 0], []⟩ 8 (by kernel_rfl) (by kernel_rfl) (by kernel_rfl) (by kernel_rfl)) ?_
  intro W base args ds gs before hval0 hW hcnd hsz0 _
  have hW' := hW
  obtain ⟨p, q, hA, hV, rfl, hfz, hnd⟩ := hW
  obtain ⟨rfl, rfl⟩ := trodVars_none hV
  obtain ⟨d0, d1, d2, d3, d4, d5, rfl⟩ := len6 (trodAll_len hA)
  have hsz1 : (DataW.weightsEach Try.prog Try.f9.params.toList [d0, d1, d2, d3, d4, d5]).all (· ≤ reachBytes) = true := hsz0
  have hw : ∀ n ∈ DataW.weightsEach Try.prog Try.f9.params.toList [d0, d1, d2, d3, d4, d5], n ≤ reachBytes := fun n hn => by simpa using List.all_eq_true.1 hsz1 n hn
  obtain ⟨x, us, h1, h2, h3⟩ := args_open (ts := [(.pair (.sl .str) (.pair (.sl (.pair (.int .i64) (.pair .str .unit))) .unit)), (.int .i64), (.int .i64), (.int .i64), (.int .i64), (.int .i64)]) (by kernel_rfl) hA (fun j T v e1 e2 => hval0 j T v (by simpa using e1) (by simpa using e2)) hw
  have hx : sd_laws_FnExactScan.den x = some ((true, ()), ()) := by
    obtain ⟨a0, a1, a2, a3, a4, a5, ⟨⟩⟩ := x
    exact law_FnExactScan a0 a1 a2 a3 a4 a5 h3.1 h3.2.1 h3.2.2.1 h3.2.2.2.1 h3.2.2.2.2.1 h3.2.2.2.2.2.1
  have hcall := law_calls sn_laws_FnExactScan.2 hx h1 h2
  rw [Array.toArray_toList] at hcall
  refine hcall.mono fun e W' ⟨he, bel⟩ => ?_
  subst he
  exact ⟨_, rfl, _, _, _, [], _, [], hW', trodAll_mk1 (shut_bool Try.underlying4 _), args_shut (by kernel_rfl) bel (by kernel_rfl) hA, rfl, bel.frame _, fun h => by cases h⟩
theorem named : Try.pinned.checked.prog.funcNamed Rows.fnExactScanRow.func = some 9 := by kernel_rfl
theorem closed : joinedFacts Try.pinned.checked.prog 9 Try.f9 Rows.fnExactScanSpec Rows.fnExactScanRow = true := by kernel_rfl
theorem over : Rows.fnExactScanRow.holds Try.pinned (OpenSpec.ofChange Rows.fnExactScanSpec) :=
  OpenClaim.holds_of_wide 9 Try.f9 rfl rfl rfl rfl rfl rfl rfl ⟨rfl, rfl, rfl, rfl, rfl⟩ rfl rfl rfl rfl rfl named Try.func9 closed
    (of_decide_eq_true (by kernel_rfl)) (by unfold Func.isWrapper; first | (rw [if_pos (by decide +kernel)]; kernel_rfl) | (rw [if_neg (by decide +kernel)]; exact ⟨rfl, rfl⟩))
    (fun os started H enc _ => lifted os started H enc)
theorem proved : Rows.FnExactScanSaid := over
#print axioms proved
end Go.Proofs.Ytjoiklaecelalaa.fnExactScan
namespace Go.Proofs.Ytjoiklaecelalaa
/-- The row, under a short name, for the claim. -/
theorem fnExactScan_holds : Rows.FnExactScanSaid := fnExactScan.proved
end Go.Proofs.Ytjoiklaecelalaa
