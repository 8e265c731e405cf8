/- FnExactNewWorld returns true for every argument. No condition. -/
import Derived.Test.YtkfoebbjncngjaaRows
import Derived.Test.YtkfoebbjncngjaaVFnExactNewWorlda
import Derived.WalkKit
import Derived.ProofKit
import Derived.OpenShut
import Derived.ShutString
import Derived.ChangeOld
import Derived.Below
import Derived.SizedLaws
namespace Go.Proofs.Ytkfoebbjncngjaa.fnExactNewWorld
open Go.ChangeShapes Go.WideShapes Go.ChangeAt Go.RowKit Go.Proofs.Ytkfoebbjncngjaa.R Go.Proofs.Ytkfoebbjncngjaa.V
set_option linter.unusedVariables false
theorem own : ownKnob Try.prog.godebug = none := by kernel_rfl
set_option maxRecDepth 100000 in
theorem Acd (os : Os) (started : os.Started) (H : Type) (enc : TypeId × Value → H) :
  ReturnsInHanded {} Try.checked os 6 .any (Rows.fnExactNewWorldSpec.pre6 enc Try.prog Try.f6 Rows.fnExactNewWorldRow.domain false) (Rows.fnExactNewWorldSpec.post enc Try.prog Try.f6 false true false false) := by
 refine returnsInHanded_of_change_sized (C := Try.checked) own started (by kernel_rfl) Try.func6
  (ChangeSpec.witness6 (enc := enc) (C := Try.checked) false ⟨#[], #[.int .i64 0, .int .i64 0], []⟩ 8 (by kernel_rfl) (by kernel_rfl) (by kernel_rfl) (by kernel_rfl)) ?_
 intro W base args ds gs before hval0 hW hcnd hsz0 _
 have hW' := hW
 obtain ⟨p, q, hA, hV, rfl, hfz, hnd⟩ := hW
 obtain ⟨rfl, rfl⟩ := trodVars_none hV
 obtain ⟨d0, d1, rfl⟩ := Adc (Qm hA)
 have hsz1 : (DataW.weightsEach Try.prog Try.f6.params.toList [d0, d1]).all (· ≤ reachBytes) = true := hsz0
 have hw : ∀ n ∈ DataW.weightsEach Try.prog Try.f6.params.toList [d0, d1], n ≤ reachBytes := fun n hn => by simpa using List.all_eq_true.1 hsz1 n hn
 obtain ⟨x, us, h1, h2, h3⟩ := Vh (ts := [(.int .i64), (.int .i64)]) (by kernel_rfl) hA (fun j T v e1 e2 => hval0 j T v (by simpa using e1) (by simpa using e2)) hw
 have hx : sd_laws_FnExactNewWorld.den x = some ((true, ()), ()) := by
  obtain ⟨a0, a1, ⟨⟩⟩ := x
  exact Lp a0 a1 h3.1 h3.2.1
 have hcall := h8 Iz.2 hx h1 h2
 rw [Array.toArray_toList] at hcall
 refine hcall.mono fun e W' ⟨he, bel⟩ => ?_
 subst he
 exact ⟨_, rfl, _, _, _, [], _, [], hW', trodAll_mk1 (shut_bool Try.underlying4 _), Vi (by kernel_rfl) bel (by kernel_rfl) hA, rfl, bel.frame _, fun h => by cases h⟩
theorem named : Try.pinned.checked.prog.funcNamed Rows.fnExactNewWorldRow.func = some 6 := by kernel_rfl
theorem Ace : joinedFacts Try.pinned.checked.prog 6 Try.f6 Rows.fnExactNewWorldSpec Rows.fnExactNewWorldRow = true := by kernel_rfl
theorem over : Rows.fnExactNewWorldRow.holds Try.pinned (OpenSpec.ofChange Rows.fnExactNewWorldSpec) :=
 OpenClaim.holds_of_wide 6 Try.f6 rfl rfl rfl rfl rfl rfl rfl ⟨rfl, rfl, rfl, rfl, rfl⟩ rfl rfl rfl rfl rfl named Try.func6 Ace
  (of_decide_eq_true (by kernel_rfl)) (by unfold Func.isWrapper; first | (rw [if_pos (by decide +kernel)]; kernel_rfl) | (rw [if_neg (by decide +kernel)]; exact ⟨rfl, rfl⟩))
  (fun os started H enc _ => Acd os started H enc)
theorem proved : Rows.FnExactNewWorldSaid := over
#print axioms proved
end Go.Proofs.Ytkfoebbjncngjaa.fnExactNewWorld
namespace Go.Proofs.Ytkfoebbjncngjaa
theorem fnExactNewWorld_holds : Rows.FnExactNewWorldSaid := fnExactNewWorld.proved
end Go.Proofs.Ytkfoebbjncngjaa

