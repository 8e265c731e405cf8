/- FnExactForged returns true for every argument. No condition. -/
import Derived.Test.YteaoabdlcefkhaaRows
import Derived.Test.YteaoabdlcefkhaaVFnExactForgedc
import Derived.WalkKit
import Derived.ProofKit
import Derived.OpenShut
import Derived.ShutString
import Derived.ChangeOld
import Derived.Below
import Derived.SizedLaws
namespace Go.Proofs.Yteaoabdlcefkhaa.fnExactForged
open Go.ChangeShapes Go.WideShapes Go.ChangeAt Go.RowKit Go.Proofs.Yteaoabdlcefkhaa.R Go.Proofs.Yteaoabdlcefkhaa.V
set_option linter.unusedVariables false
theorem own : ownKnob Try.prog.godebug = none := by kernel_rfl
set_option maxRecDepth 100000 in
theorem lifted (os : Os) (started : os.Started) (H : Type) (enc : TypeId × Value → H) :
    ReturnsInHanded {} Try.checked os 5 .any (Rows.fnExactForgedSpec.pre6 enc Try.prog Try.f5 Rows.fnExactForgedRow.domain false) (Rows.fnExactForgedSpec.post enc Try.prog Try.f5 false true false false) := by
  refine returnsInHanded_of_change_sized (C := Try.checked) own started (by kernel_rfl) Try.func5
    (ChangeSpec.witness6 (enc := enc) (C := Try.checked) false ⟨#[], #[.agg #[.int .i64 0, .slice none 0 0, .slice none 0 0, .bool false, .int .i64 0, .int .i64 0, .int .i64 0, .int .i64 0, .int .i64 0, .int .i64 0, .int .i64 0, .int .i64 0, .int .i64 0, .slice none 0 0, .slice none 0 0, .slice none 0 0]], []⟩ 8 (by kernel_rfl) (by kernel_rfl) (by kernel_rfl) (by kernel_rfl)) ?_
  intro W base args ds gs before hval0 hW hcnd hsz0 _
  have hW' := hW
  obtain ⟨p, q, hA, hV, rfl, hfz, hnd⟩ := hW
  obtain ⟨rfl, rfl⟩ := trodVars_none hV
  obtain ⟨d0, rfl⟩ := len1 (trodAll_len hA)
  have hsz1 : (DataW.weightsEach Try.prog Try.f5.params.toList [d0]).all (· ≤ reachBytes) = true := hsz0
  have hw : ∀ n ∈ DataW.weightsEach Try.prog Try.f5.params.toList [d0], n ≤ reachBytes := fun n hn => by simpa using List.all_eq_true.1 hsz1 n hn
  obtain ⟨x, us, h1, h2, h3⟩ := args_open (ts := [(.pair (.int .i64) (.pair (.pair (.sl .str) (.pair (.sl (.pair (.int .i64) (.pair .str .unit))) .unit)) (.pair .bool (.pair (.pair (.int .i64) (.pair (.int .i64) (.pair (.int .i64) (.pair (.pair (.int .i64) (.pair (.int .i64) (.pair (.int .i64) (.pair (.int .i64) .unit)))) (.pair (.int .i64) (.pair (.int .i64) (.pair (.pair (.sl (.pair .str (.pair .str .unit))) .unit) .unit))))))) (.pair (.sl (.pair (.sl (.pair .str (.pair .str .unit))) .unit)) (.pair (.sl .str) .unit))))))]) (by kernel_rfl) hA (fun j T v e1 e2 => hval0 j T v (by simpa using e1) (by simpa using e2)) hw
  have hx : sd_laws_FnExactForged.den x = some ((true, ()), ()) := by
    obtain ⟨a0, ⟨⟩⟩ := x
    exact law_FnExactForged a0 h3.1
  have hcall := law_calls sn_laws_FnExactForged.2 hx h1 h2
  rw [Array.toArray_toList] at hcall
  refine hcall.mono fun e W' ⟨he, bel⟩ => ?_
  subst he
  exact ⟨_, rfl, _, _, _, [], _, [], hW', trodAll_mk1 (shut_bool Try.underlying4 _), args_shut (by kernel_rfl) bel (by kernel_rfl) hA, rfl, bel.frame _, fun h => by cases h⟩
theorem named : Try.pinned.checked.prog.funcNamed Rows.fnExactForgedRow.func = some 5 := by kernel_rfl
theorem closed : joinedFacts Try.pinned.checked.prog 5 Try.f5 Rows.fnExactForgedSpec Rows.fnExactForgedRow = true := by kernel_rfl
theorem over : Rows.fnExactForgedRow.holds Try.pinned (OpenSpec.ofChange Rows.fnExactForgedSpec) :=
  OpenClaim.holds_of_wide 5 Try.f5 rfl rfl rfl rfl rfl rfl rfl ⟨rfl, rfl, rfl, rfl, rfl⟩ rfl rfl rfl rfl rfl named Try.func5 closed
    (of_decide_eq_true (by kernel_rfl)) (by unfold Func.isWrapper; first | (rw [if_pos (by decide +kernel)]; kernel_rfl) | (rw [if_neg (by decide +kernel)]; exact ⟨rfl, rfl⟩))
    (fun os started H enc _ => lifted os started H enc)
theorem proved : Rows.FnExactForgedSaid := over
#print axioms proved
end Go.Proofs.Yteaoabdlcefkhaa.fnExactForged
namespace Go.Proofs.Yteaoabdlcefkhaa
/-- The row, under a short name, for the claim. -/
theorem fnExactForged_holds : Rows.FnExactForgedSaid := fnExactForged.proved
end Go.Proofs.Yteaoabdlcefkhaa
