/- FnExactOpen returns true for every argument. No condition. -/
import Derived.Test.YteaoabdlcefkhaaGreatRows
import Derived.Test.YteaoabdlcefkhaaGreatVFnExactOpenb
import Derived.WalkKit
import Derived.ProofKit
import Derived.OpenShut
import Derived.ShutString
import Derived.ChangeOld
import Derived.Below
import Derived.SizedLaws
namespace Go.Proofs.YteaoabdlcefkhaaGreat.fnExactOpen
open Go.ChangeShapes Go.WideShapes Go.ChangeAt Go.RowKit Go.Proofs.YteaoabdlcefkhaaGreat.R Go.Proofs.YteaoabdlcefkhaaGreat.V
set_option linter.unusedVariables false
theorem own : ownKnob Tryz.prog.godebug = none := by kernel_rfl
set_option maxRecDepth 100000 in
theorem A2s (os : Os) (started : os.Started) (H : Type) (enc : TypeId × Value → H) :
  ReturnsInHanded {} Tryz.checked os 5 .any (Rows.fnExactOpenSpec.pre6 enc Tryz.prog Tryz.f5 Rows.fnExactOpenRow.domain false) (Rows.fnExactOpenSpec.post enc Tryz.prog Tryz.f5 false true false false) := by
 refine returnsInHanded_of_change_sized (C := Tryz.checked) own started (by kernel_rfl) Tryz.func5
  (ChangeSpec.witness6 (enc := enc) (C := Tryz.checked) false ⟨#[], #[.agg #[.slice none 0 0, .slice none 0 0], .int .i64 0], []⟩ 8 (by kernel_rfl) (by kernel_rfl) (by kernel_rfl) (by kernel_rfl)) ?_
 intro W base args ds gs before hval0 hW hcnd hsz0 _
 have hW' := hW
 obtain ⟨p, q, hA, hV, rfl, hfz, hnd⟩ := hW
 obtain ⟨rfl, rfl⟩ := trodVars_none hV
 obtain ⟨d0, d1, rfl⟩ := A3m (Afs hA)
 have hsz1 : (DataW.weightsEach Tryz.prog Tryz.f5.params.toList [d0, d1]).all (· ≤ reachBytes) = true := hsz0
 have hw : ∀ n ∈ DataW.weightsEach Tryz.prog Tryz.f5.params.toList [d0, d1], n ≤ reachBytes := fun n hn => by simpa using List.all_eq_true.1 hsz1 n hn
 obtain ⟨x, us, h1, h2, h3⟩ := An9 (ts := [(.pair (.sl .str) (.pair (.sl (.pair (.int .i64) (.pair .str .unit))) .unit)), (.int .i64)]) (by kernel_rfl) hA (fun j T v e1 e2 => hval0 j T v (by simpa using e1) (by simpa using e2)) hw
 have hx : sd_laws_FnExactOpen.den x = some ((true, ()), ()) := by
  obtain ⟨a0, a1, ⟨⟩⟩ := x
  exact Ahx a0 a1 h3.1 h3.2.1
 have hcall := Axn Z8.2 hx h1 h2
 rw [Array.toArray_toList] at hcall
 refine hcall.mono fun e W' ⟨he, bel⟩ => ?_
 subst he
 exact ⟨_, rfl, _, _, _, [], _, [], hW', trodAll_mk1 (shut_bool Tryz.underlying4 _), Aoa (by kernel_rfl) bel (by kernel_rfl) hA, rfl, bel.frame _, fun h => by cases h⟩
theorem named : Tryz.pinned.checked.prog.funcNamed Rows.fnExactOpenRow.func = some 5 := by kernel_rfl
theorem A2t : joinedFacts Tryz.pinned.checked.prog 5 Tryz.f5 Rows.fnExactOpenSpec Rows.fnExactOpenRow = true := by kernel_rfl
theorem over : Rows.fnExactOpenRow.holds Tryz.pinned (OpenSpec.ofChange Rows.fnExactOpenSpec) :=
 OpenClaim.holds_of_wide 5 Tryz.f5 rfl rfl rfl rfl rfl rfl rfl ⟨rfl, rfl, rfl, rfl, rfl⟩ rfl rfl rfl rfl rfl named Tryz.func5 A2t
  (of_decide_eq_true (by kernel_rfl)) (by unfold Func.isWrapper; first | (rw [if_pos (by decide +kernel)]; kernel_rfl) | (rw [if_neg (by decide +kernel)]; exact ⟨rfl, rfl⟩))
  (fun os started H enc _ => A2s os started H enc)
theorem proved : Rows.FnExactOpenSaid := over
#print axioms proved
end Go.Proofs.YteaoabdlcefkhaaGreat.fnExactOpen
namespace Go.Proofs.YteaoabdlcefkhaaGreat
theorem fnExactOpen_holds : Rows.FnExactOpenSaid := fnExactOpen.proved
end Go.Proofs.YteaoabdlcefkhaaGreat

