/- FnExactSnapshot returns true for every argument. No condition. -/
import Derived.Test.YtjokieaajjmoeaaRows
import Derived.Test.YtjokieaajjmoeaaRCode
import Derived.WalkKit
import Derived.ProofKit
import Derived.OpenShut
import Derived.ShutString
import Derived.ChangeOld
import Derived.Below
import Derived.SizedLaws
set_option linter.unusedVariables false
set_option linter.unusedSimpArgs false
namespace Go.Proofs.Ytjokieaajjmoeaa.fnExactSnapshot
open Go.ChangeShapes Go.WideShapes Go.ChangeAt Go.RowKit Go.Proofs.Ytjokieaajjmoeaa.R Go.Proofs.Ytjokieaajjmoeaa.V
theorem own:ownKnob Try.prog.godebug=none:=by kernel_rfl
set_option maxRecDepth 100000 in
theorem Aih (os:Os) (started:os.Started) (H:Type) (enc:TypeId×Value→H):
  ReturnsInHanded {} Try.checked os 3 .any (Rows.fnExactSnapshotSpec.pre6 enc Try.prog Try.f3 Rows.fnExactSnapshotRow.domain false) (Rows.fnExactSnapshotSpec.post enc Try.prog Try.f3 false true false false):=by
 refine returnsInHanded_of_change_sized (C:=Try.checked) own started (by kernel_rfl) Try.func3
  (ChangeSpec.witness6 (enc:=enc) (C:=Try.checked) false ⟨#[],#[.agg #[.slice none 0 0]],[]⟩ 8 (by kernel_rfl) (by kernel_rfl) (by kernel_rfl) (by kernel_rfl)) ?_
 intro W base args ds gs before hval0 hW hcnd hsz0 _
 have hW':=hW
 obtain ⟨p,q,hA,hV,rfl,hfz,hnd⟩:=hW
 obtain ⟨rfl,rfl⟩:=trodVars_none hV
 obtain ⟨d0,rfl⟩:=Aji (Ud hA)
 have hsz1:(DataW.weightsEach Try.prog Try.f3.params.toList [d0]).all (·≤reachBytes)=true:=hsz0
 have hw:∀ n∈DataW.weightsEach Try.prog Try.f3.params.toList [d0],n≤reachBytes:=fun n hn=>by simpa using List.all_eq_true.1 hsz1 n hn
 obtain ⟨x,us,h1,h2,h3⟩:=Zy (ts:=[(.pair (.sl (.pair .str (.pair .str .unit))) .unit)]) (by kernel_rfl) hA (fun j T v e1 e2=>hval0 j T v (by simpa using e1) (by simpa using e2)) hw
 have hx:Fk.den x=some ((true,()),()):=by
  obtain ⟨a0,⟨⟩⟩:=x
  exact Po a0 h3.1
 have hcall:=Adh Ln.2 hx h1 h2
 rw [Array.toArray_toList] at hcall
 refine hcall.mono fun e W' ⟨he,bel⟩=>?_
 subst he
 exact ⟨_,rfl,_,_,_,[],_,[],hW',trodAll_mk1 (shut_bool Try.underlying4 _),Zz (by kernel_rfl) bel (by kernel_rfl) hA,rfl,bel.frame _,fun h=>by cases h⟩
theorem named:Try.pinned.checked.prog.funcNamed Rows.fnExactSnapshotRow.func=some 3:=by kernel_rfl
theorem Aii:joinedFacts Try.pinned.checked.prog 3 Try.f3 Rows.fnExactSnapshotSpec Rows.fnExactSnapshotRow=true:=by kernel_rfl
theorem over:Rows.fnExactSnapshotRow.holds Try.pinned (OpenSpec.ofChange Rows.fnExactSnapshotSpec):=
 OpenClaim.holds_of_wide 3 Try.f3 rfl rfl rfl rfl rfl rfl rfl ⟨rfl,rfl,rfl,rfl,rfl⟩ rfl rfl rfl rfl rfl named Try.func3 Aii
  (Gb (by kernel_rfl)) (by unfold Func.isWrapper; first | (rw [if_pos (by decide +kernel)]; kernel_rfl) | (rw [if_neg (by decide +kernel)]; exact ⟨rfl,rfl⟩))
  (fun os started H enc _=>Aih os started H enc)
theorem proved:Rows.FnExactSnapshotSaid:=over
#print axioms proved
end Go.Proofs.Ytjokieaajjmoeaa.fnExactSnapshot
namespace Go.Proofs.Ytjokieaajjmoeaa
theorem fnExactSnapshot_holds:Rows.FnExactSnapshotSaid:=fnExactSnapshot.proved
end Go.Proofs.Ytjokieaajjmoeaa
