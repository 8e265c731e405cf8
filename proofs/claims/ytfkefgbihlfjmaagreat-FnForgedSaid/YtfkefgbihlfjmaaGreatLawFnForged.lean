/- FnForged returns true for every argument. No condition. -/
import Derived.Test.YtfkefgbihlfjmaaGreatRows
import Derived.Test.YtfkefgbihlfjmaaGreatVFnForgedc
import Derived.WalkKit
import Derived.ProofKit
import Derived.OpenShut
import Derived.ShutString
import Derived.ChangeOld
import Derived.Below
import Derived.SizedLaws
namespace Go.Proofs.YtfkefgbihlfjmaaGreat.fnForged
open Go.ChangeShapes Go.WideShapes Go.ChangeAt Go.RowKit Go.Proofs.YtfkefgbihlfjmaaGreat.R Go.Proofs.YtfkefgbihlfjmaaGreat.V
set_option linter.unusedVariables false
theorem own:ownKnob Tryz.prog.godebug=none:=by kernel_rfl
set_option maxRecDepth 100000 in
theorem A5k (os:Os) (started:os.Started) (H:Type) (enc:TypeId×Value→H):
  ReturnsInHanded {} Tryz.checked os 3 .any (Rows.fnForgedSpec.pre6 enc Tryz.prog Tryz.f3 Rows.fnForgedRow.domain false) (Rows.fnForgedSpec.post enc Tryz.prog Tryz.f3 false true false false):=by
 refine returnsInHanded_of_change_sized (C:=Tryz.checked) own started (by kernel_rfl) Tryz.func3
  (ChangeSpec.witness6 (enc:=enc) (C:=Tryz.checked) false ⟨#[],#[.slice none 0 0],[]⟩ 8 (by kernel_rfl) (by kernel_rfl) (by kernel_rfl) (by kernel_rfl)) ?_
 intro W base args ds gs before hval0 hW hcnd hsz0 _
 have hW':=hW
 obtain ⟨p,q,hA,hV,rfl,hfz,hnd⟩:=hW
 obtain ⟨rfl,rfl⟩:=trodVars_none hV
 obtain ⟨d0,rfl⟩:=A6i (Aha hA)
 have hsz1:(DataW.weightsEach Tryz.prog Tryz.f3.params.toList [d0]).all (·≤reachBytes)=true:=hsz0
 have hw:∀ n∈DataW.weightsEach Tryz.prog Tryz.f3.params.toList [d0],n≤reachBytes:=fun n hn=>by simpa using List.all_eq_true.1 hsz1 n hn
 obtain ⟨x,us,h1,h2,h3⟩:=Apq (ts:=[(.sl (.int .u8))]) (by kernel_rfl) hA (fun j T v e1 e2=>hval0 j T v (by simpa using e1) (by simpa using e2)) hw
 have hx:sd_laws_FnForged.den x=some ((true,()),()):=by
  obtain ⟨a0,⟨⟩⟩:=x
  exact Asl a0 h3.1
 have hcall:=Ay7 Agx.2 hx h1 h2
 rw [Array.toArray_toList] at hcall
 refine hcall.mono fun e W' ⟨he,bel⟩=>?_
 subst he
 exact ⟨_,rfl,_,_,_,[],_,[],hW',trodAll_mk1 (shut_bool Tryz.underlying4 _),Apr (by kernel_rfl) bel (by kernel_rfl) hA,rfl,bel.frame _,fun h=>by cases h⟩
theorem named:Tryz.pinned.checked.prog.funcNamed Rows.fnForgedRow.func=some 3:=by kernel_rfl
theorem A5l:joinedFacts Tryz.pinned.checked.prog 3 Tryz.f3 Rows.fnForgedSpec Rows.fnForgedRow=true:=by kernel_rfl
theorem over:Rows.fnForgedRow.holds Tryz.pinned (OpenSpec.ofChange Rows.fnForgedSpec):=
 OpenClaim.holds_of_wide 3 Tryz.f3 rfl rfl rfl rfl rfl rfl rfl ⟨rfl,rfl,rfl,rfl,rfl⟩ rfl rfl rfl rfl rfl named Tryz.func3 A5l
  (of_decide_eq_true (by kernel_rfl)) (by unfold Func.isWrapper; first | (rw [if_pos (by decide +kernel)]; kernel_rfl) | (rw [if_neg (by decide +kernel)]; exact ⟨rfl,rfl⟩))
  (fun os started H enc _=>A5k os started H enc)
theorem proved:Rows.FnForgedSaid:=over
#print axioms proved
end Go.Proofs.YtfkefgbihlfjmaaGreat.fnForged
namespace Go.Proofs.YtfkefgbihlfjmaaGreat
theorem fnForged_holds:Rows.FnForgedSaid:=fnForged.proved
end Go.Proofs.YtfkefgbihlfjmaaGreat

