/- FnCrowded returns true for every argument. No condition. -/
import Derived.Test.YtfkefgbihlfjmaaGreatRows
import Derived.Test.YtfkefgbihlfjmaaGreatVFnCrowdedc
import Derived.WalkKit
import Derived.ProofKit
import Derived.OpenShut
import Derived.ShutString
import Derived.ChangeOld
import Derived.Below
import Derived.SizedLaws
set_option linter.unusedVariables false
set_option linter.unusedSimpArgs false
namespace Go.Proofs.YtfkefgbihlfjmaaGreat.fnCrowded
open Go.ChangeShapes Go.WideShapes Go.ChangeAt Go.RowKit Go.Proofs.YtfkefgbihlfjmaaGreat.R Go.Proofs.YtfkefgbihlfjmaaGreat.V
theorem own:ownKnob Tryz.prog.godebug=none:=by kernel_rfl
set_option maxRecDepth 100000 in
theorem Br0 (os:Os) (started:os.Started) (H:Type) (enc:TypeId×Value→H):
  ReturnsInHanded {} Tryz.checked os 11 .any (Rows.fnCrowdedSpec.pre6 enc Tryz.prog Tryz.f11 Rows.fnCrowdedRow.domain false) (Rows.fnCrowdedSpec.post enc Tryz.prog Tryz.f11 false true false false):=by
 refine returnsInHanded_of_change_sized (C:=Tryz.checked) own started (by kernel_rfl) Tryz.func11
  (ChangeSpec.witness6 (enc:=enc) (C:=Tryz.checked) false ⟨#[],#[.slice none 0 0],[]⟩ 8 (by kernel_rfl) (by kernel_rfl) (by kernel_rfl) (by kernel_rfl)) ?_
 intro W base args ds gs before hval0 hW hcnd hsz0 _
 have hW':=hW
 obtain ⟨p,q,hA,hV,rfl,hfz,hnd⟩:=hW
 obtain ⟨rfl,rfl⟩:=trodVars_none hV
 obtain ⟨d0,rfl⟩:=Bs3 (Ayd hA)
 have hsz1:(DataW.weightsEach Tryz.prog Tryz.f11.params.toList [d0]).all (·≤reachBytes)=true:=hsz0
 have hw:∀ n∈DataW.weightsEach Tryz.prog Tryz.f11.params.toList [d0],n≤reachBytes:=fun n hn=>by simpa using List.all_eq_true.1 hsz1 n hn
 obtain ⟨x,us,h1,h2,h3⟩:=A8y (ts:=[(.sl (.int .u8))]) (by kernel_rfl) hA (fun j T v e1 e2=>hval0 j T v (by simpa using e1) (by simpa using e2)) hw
 have hx:Acs.den x=some ((true,()),()):=by
  obtain ⟨a0,⟨⟩⟩:=x
  exact A7y a0 h3.1
 have hcall:=Bkd Avj.2 hx h1 h2
 rw [Array.toArray_toList] at hcall
 refine hcall.mono fun e W' ⟨he,bel⟩=>?_
 subst he
 exact ⟨_,rfl,_,_,_,[],_,[],hW',trodAll_mk1 (shut_bool Tryz.underlying4 _),A8z (by kernel_rfl) bel (by kernel_rfl) hA,rfl,bel.frame _,fun h=>by cases h⟩
theorem named:Tryz.pinned.checked.prog.funcNamed Rows.fnCrowdedRow.func=some 11:=by kernel_rfl
theorem Br1:joinedFacts Tryz.pinned.checked.prog 11 Tryz.f11 Rows.fnCrowdedSpec Rows.fnCrowdedRow=true:=by kernel_rfl
theorem over:Rows.fnCrowdedRow.holds Tryz.pinned (OpenSpec.ofChange Rows.fnCrowdedSpec):=
 OpenClaim.holds_of_wide 11 Tryz.f11 rfl rfl rfl rfl rfl rfl rfl ⟨rfl,rfl,rfl,rfl,rfl⟩ rfl rfl rfl rfl rfl named Tryz.func11 Br1
  (G8 (by kernel_rfl)) (by unfold Func.isWrapper; first | (rw [if_pos (by decide +kernel)]; kernel_rfl) | (rw [if_neg (by decide +kernel)]; exact ⟨rfl,rfl⟩))
  (fun os started H enc _=>Br0 os started H enc)
theorem proved:Rows.FnCrowdedSaid:=over
#print axioms proved
end Go.Proofs.YtfkefgbihlfjmaaGreat.fnCrowded
namespace Go.Proofs.YtfkefgbihlfjmaaGreat
theorem fnCrowded_holds:Rows.FnCrowdedSaid:=fnCrowded.proved
end Go.Proofs.YtfkefgbihlfjmaaGreat
