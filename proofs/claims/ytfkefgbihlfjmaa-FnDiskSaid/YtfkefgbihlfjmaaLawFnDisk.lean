/- FnDisk returns true for every argument. No condition. -/
import Derived.Test.YtfkefgbihlfjmaaRows
import Derived.Test.YtfkefgbihlfjmaaVFnDiskb
import Derived.WalkKit
import Derived.ProofKit
import Derived.OpenShut
import Derived.ShutString
import Derived.ChangeOld
import Derived.Below
import Derived.SizedLaws
set_option linter.unusedVariables false
set_option linter.unusedSimpArgs false
namespace Go.Proofs.Ytfkefgbihlfjmaa.fnDisk
open Go.ChangeShapes Go.WideShapes Go.ChangeAt Go.RowKit Go.Proofs.Ytfkefgbihlfjmaa.R Go.Proofs.Ytfkefgbihlfjmaa.V
theorem own:ownKnob Try.prog.godebug=none:=by kernel_rfl
set_option maxRecDepth 100000 in
theorem A8o (os:Os) (started:os.Started) (H:Type) (enc:TypeId×Value→H):
  ReturnsInHanded {} Try.checked os 4 .any (Rows.fnDiskSpec.pre6 enc Try.prog Try.f4 Rows.fnDiskRow.domain false) (Rows.fnDiskSpec.post enc Try.prog Try.f4 false true false false):=by
 refine returnsInHanded_of_change_sized (C:=Try.checked) own started (by kernel_rfl) Try.func4
  (ChangeSpec.witness6 (enc:=enc) (C:=Try.checked) false ⟨#[],#[.slice none 0 0],[]⟩ 8 (by kernel_rfl) (by kernel_rfl) (by kernel_rfl) (by kernel_rfl)) ?_
 intro W base args ds gs before hval0 hW hcnd hsz0 _
 have hW':=hW
 obtain ⟨p,q,hA,hV,rfl,hfz,hnd⟩:=hW
 obtain ⟨rfl,rfl⟩:=trodVars_none hV
 obtain ⟨d0,rfl⟩:=A9t (Akw hA)
 have hsz1:(DataW.weightsEach Try.prog Try.f4.params.toList [d0]).all (·≤reachBytes)=true:=hsz0
 have hw:∀ n∈DataW.weightsEach Try.prog Try.f4.params.toList [d0],n≤reachBytes:=fun n hn=>by simpa using List.all_eq_true.1 hsz1 n hn
 obtain ⟨x,us,h1,h2,h3⟩:=As8 (ts:=[(.sl (.int .u8))]) (by kernel_rfl) hA (fun j T v e1 e2=>hval0 j T v (by simpa using e1) (by simpa using e2)) hw
 have hx:Abk.den x=some ((true,()),()):=by
  obtain ⟨a0,⟨⟩⟩:=x
  exact Azr a0 h3.1
 have hcall:=A13 Aqz.2 hx h1 h2
 rw [Array.toArray_toList] at hcall
 refine hcall.mono fun e W' ⟨he,bel⟩=>?_
 subst he
 exact ⟨_,rfl,_,_,_,[],_,[],hW',trodAll_mk1 (shut_bool Try.underlying4 _),As9 (by kernel_rfl) bel (by kernel_rfl) hA,rfl,bel.frame _,fun h=>by cases h⟩
theorem named:Try.pinned.checked.prog.funcNamed Rows.fnDiskRow.func=some 4:=by kernel_rfl
theorem A8p:joinedFacts Try.pinned.checked.prog 4 Try.f4 Rows.fnDiskSpec Rows.fnDiskRow=true:=by kernel_rfl
theorem over:Rows.fnDiskRow.holds Try.pinned (OpenSpec.ofChange Rows.fnDiskSpec):=
 OpenClaim.holds_of_wide 4 Try.f4 rfl rfl rfl rfl rfl rfl rfl ⟨rfl,rfl,rfl,rfl,rfl⟩ rfl rfl rfl rfl rfl named Try.func4 A8p
  (Hm (by kernel_rfl)) (by unfold Func.isWrapper; first | (rw [if_pos (by decide +kernel)]; kernel_rfl) | (rw [if_neg (by decide +kernel)]; exact ⟨rfl,rfl⟩))
  (fun os started H enc _=>A8o os started H enc)
theorem proved:Rows.FnDiskSaid:=over
#print axioms proved
end Go.Proofs.Ytfkefgbihlfjmaa.fnDisk
namespace Go.Proofs.Ytfkefgbihlfjmaa
theorem fnDisk_holds:Rows.FnDiskSaid:=fnDisk.proved
end Go.Proofs.Ytfkefgbihlfjmaa
