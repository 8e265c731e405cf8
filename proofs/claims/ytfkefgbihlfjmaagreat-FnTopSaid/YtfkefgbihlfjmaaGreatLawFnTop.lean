/- FnTop returns true for every argument. No condition. -/
import Derived.Test.YtfkefgbihlfjmaaGreatRows
import Derived.Test.YtfkefgbihlfjmaaGreatVFnTopc
import Derived.WalkKit
import Derived.ProofKit
import Derived.OpenShut
import Derived.ShutString
import Derived.ChangeOld
import Derived.Below
import Derived.SizedLaws
set_option linter.unusedVariables false
set_option linter.unusedSimpArgs false
namespace Go.Proofs.YtfkefgbihlfjmaaGreat.fnTop
open Go.ChangeShapes Go.WideShapes Go.ChangeAt Go.RowKit Go.Proofs.YtfkefgbihlfjmaaGreat.R Go.Proofs.YtfkefgbihlfjmaaGreat.V
theorem own:ownKnob Tryz.prog.godebug=none:=by kernel_rfl
set_option maxRecDepth 100000 in
theorem Bx5 (os:Os) (started:os.Started) (H:Type) (enc:TypeId×Value→H):
  ReturnsInHanded {} Tryz.checked os 7 .any (Rows.fnTopSpec.pre6 enc Tryz.prog Tryz.f7 Rows.fnTopRow.domain false) (Rows.fnTopSpec.post enc Tryz.prog Tryz.f7 false true false false):=by
 refine returnsInHanded_of_change_sized (C:=Tryz.checked) own started (by kernel_rfl) Tryz.func7
  (ChangeSpec.witness6 (enc:=enc) (C:=Tryz.checked) false ⟨#[],#[.slice none 0 0,.slice none 0 0],[]⟩ 8 (by kernel_rfl) (by kernel_rfl) (by kernel_rfl) (by kernel_rfl)) ?_
 intro W base args ds gs before hval0 hW hcnd hsz0 _
 have hW':=hW
 obtain ⟨p,q,hA,hV,rfl,hfz,hnd⟩:=hW
 obtain ⟨rfl,rfl⟩:=trodVars_none hV
 obtain ⟨d0,d1,rfl⟩:=By2 (A3e hA)
 have hsz1:(DataW.weightsEach Tryz.prog Tryz.f7.params.toList [d0,d1]).all (·≤reachBytes)=true:=hsz0
 have hw:∀ n∈DataW.weightsEach Tryz.prog Tryz.f7.params.toList [d0,d1],n≤reachBytes:=fun n hn=>by simpa using List.all_eq_true.1 hsz1 n hn
 obtain ⟨x,us,h1,h2,h3⟩:=Be2 (ts:=[(.sl (.int .u8)),(.sl (.int .u8))]) (by kernel_rfl) hA (fun j T v e1 e2=>hval0 j T v (by simpa using e1) (by simpa using e2)) hw
 have hx:Aue.den x=some ((true,()),()):=by
  obtain ⟨a0,a1,⟨⟩⟩:=x
  exact Brm a0 a1 h3.1 h3.2.1
 have hcall:=Bqn Bd1.2 hx h1 h2
 rw [Array.toArray_toList] at hcall
 refine hcall.mono fun e W' ⟨he,bel⟩=>?_
 subst he
 exact ⟨_,rfl,_,_,_,[],_,[],hW',trodAll_mk1 (shut_bool Tryz.underlying4 _),Be3 (by kernel_rfl) bel (by kernel_rfl) hA,rfl,bel.frame _,fun h=>by cases h⟩
theorem named:Tryz.pinned.checked.prog.funcNamed Rows.fnTopRow.func=some 7:=by kernel_rfl
theorem Bx6:joinedFacts Tryz.pinned.checked.prog 7 Tryz.f7 Rows.fnTopSpec Rows.fnTopRow=true:=by kernel_rfl
theorem over:Rows.fnTopRow.holds Tryz.pinned (OpenSpec.ofChange Rows.fnTopSpec):=
 OpenClaim.holds_of_wide 7 Tryz.f7 rfl rfl rfl rfl rfl rfl rfl ⟨rfl,rfl,rfl,rfl,rfl⟩ rfl rfl rfl rfl rfl named Tryz.func7 Bx6
  (Io (by kernel_rfl)) (by unfold Func.isWrapper; first | (rw [if_pos (by decide +kernel)]; kernel_rfl) | (rw [if_neg (by decide +kernel)]; exact ⟨rfl,rfl⟩))
  (fun os started H enc _=>Bx5 os started H enc)
theorem proved:Rows.FnTopSaid:=over
#print axioms proved
end Go.Proofs.YtfkefgbihlfjmaaGreat.fnTop
namespace Go.Proofs.YtfkefgbihlfjmaaGreat
theorem fnTop_holds:Rows.FnTopSaid:=fnTop.proved
end Go.Proofs.YtfkefgbihlfjmaaGreat
