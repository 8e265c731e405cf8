/- FnExactApply returns true for every argument. No condition. -/
import Derived.Test.YtjoiklaecelalaaRows
import Derived.Test.YtjoiklaecelalaaVFnExactApplya
import Derived.WalkKit
import Derived.ProofKit
import Derived.OpenShut
import Derived.ShutString
import Derived.ChangeOld
import Derived.Below
import Derived.SizedLaws
namespace Go.Proofs.Ytjoiklaecelalaa.fnExactApply
open Go.ChangeShapes Go.WideShapes Go.ChangeAt Go.RowKit Go.Proofs.Ytjoiklaecelalaa.R Go.Proofs.Ytjoiklaecelalaa.V
set_option linter.unusedVariables false
theorem own : ownKnob Try.prog.godebug = none := by kernel_rfl
set_option maxRecDepth 100000 in
theorem lifted (os : Os) (started : os.Started) (H : Type) (enc : TypeId × Value → H) :
    ReturnsInHanded {} Try.checked os 11 .any (Rows.fnExactApplySpec.pre6 enc Try.prog Try.f11 Rows.fnExactApplyRow.domain false) (Rows.fnExactApplySpec.post enc Try.prog Try.f11 false true false false) := by
  refine returnsInHanded_of_change_sized (C := Try.checked) own started (by kernel_rfl) Try.func11
    (ChangeSpec.witness6 (enc := enc) (C := Try.checked) false ⟨#[], #[.agg #[.slice none 0 0], .slice none 0 0], []⟩ 8 (by kernel_rfl) (by kernel_rfl) (by kernel_rfl) (by kernel_rfl)) ?_
  intro W base args ds gs before hval0 hW hcnd hsz0 _
  have hW' := hW
  obtain ⟨p, q, hA, hV, rfl, hfz, hnd⟩ := hW
  obtain ⟨rfl, rfl⟩ := trodVars_none hV
  obtain ⟨d0, d1, rfl⟩ := len2 (trodAll_len hA)
  have hsz1 : (DataW.weightsEach Try.prog Try.f11.params.toList [d0, d1]).all (· ≤ reachBytes) = true := hsz0
  have hw : ∀ n ∈ DataW.weightsEach Try.prog Try.f11.params.toList [d0, d1], n ≤ reachBytes := fun n hn => by simpa using List.all_eq_true.1 hsz1 n hn
  obtain ⟨x, us, h1, h2, h3⟩ := args_open (ts := [(.pair (.sl (.pair .str (.pair .str .unit))) .unit), (.sl (.pair .str (.pair .str (.pair .bool .unit))))]) (by kernel_rfl) hA (fun j T v e1 e2 => hval0 j T v (by simpa using e1) (by simpa using e2)) hw
  have hx : sd_laws_FnExactApply.den x = some ((true, ()), ()) := by
    obtain ⟨a0, a1, ⟨⟩⟩ := x
    exact law_FnExactApply a0 a1 h3.1 h3.2.1
  have hcall := law_calls sn_laws_FnExactApply.2 hx h1 h2
  rw [Array.toArray_toList] at hcall
  refine hcall.mono fun e W' ⟨he, bel⟩ => ?_
  subst he
  exact ⟨_, rfl, _, _, _, [], _, [], hW', trodAll_mk1 (shut_bool Try.underlying4 _), args_shut (by kernel_rfl) bel (by kernel_rfl) hA, rfl, bel.frame _, fun h => by cases h⟩
theorem named : Try.pinned.checked.prog.funcNamed Rows.fnExactApplyRow.func = some 11 := by kernel_rfl
theorem closed : joinedFacts Try.pinned.checked.prog 11 Try.f11 Rows.fnExactApplySpec Rows.fnExactApplyRow = true := by kernel_rfl
theorem over : Rows.fnExactApplyRow.holds Try.pinned (OpenSpec.ofChange Rows.fnExactApplySpec) :=
  OpenClaim.holds_of_wide 11 Try.f11 rfl rfl rfl rfl rfl rfl rfl ⟨rfl, rfl, rfl, rfl, rfl⟩ rfl rfl rfl rfl rfl named Try.func11 closed
    (of_decide_eq_true (by kernel_rfl)) (by unfold Func.isWrapper; first | (rw [if_pos (by decide +kernel)]; kernel_rfl) | (rw [if_neg (by decide +kernel)]; exact ⟨rfl, rfl⟩))
    (fun os started H enc _ => lifted os started H enc)
theorem proved : Rows.FnExactApplySaid := over
#print axioms proved
end Go.Proofs.Ytjoiklaecelalaa.fnExactApply
namespace Go.Proofs.Ytjoiklaecelalaa
/-- The row, under a short name, for the claim. -/
theorem fnExactApply_holds : Rows.FnExactApplySaid := fnExactApply.proved
end Go.Proofs.Ytjoiklaecelalaa
