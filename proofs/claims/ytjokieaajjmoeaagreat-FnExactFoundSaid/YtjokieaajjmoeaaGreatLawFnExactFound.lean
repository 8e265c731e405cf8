/- FnExactFound returns true for every argument. No condition. -/
import Derived.Test.YtjokieaajjmoeaaGreatRows
import Derived.Test.YtjokieaajjmoeaaGreatVFnExactFoundb
import Derived.WalkKit
import Derived.ProofKit
import Derived.OpenShut
import Derived.ShutString
import Derived.ChangeOld
import Derived.Below
import Derived.SizedLaws
set_option linter.unusedVariables false
set_option linter.unusedSimpArgs false
namespace Go.Proofs.YtjokieaajjmoeaaGreat.fnExactFound
open Go.ChangeShapes Go.WideShapes Go.ChangeAt Go.RowKit Go.Proofs.YtjokieaajjmoeaaGreat.R Go.Proofs.YtjokieaajjmoeaaGreat.V
theorem own:ownKnob Tryz.prog.godebug=none:=by kernel_rfl
set_option maxRecDepth 100000 in
theorem Bkt (os:Os) (started:os.Started) (H:Type) (enc:TypeId×Value→H):
  ReturnsInHanded {} Tryz.checked os 3 .any (Rows.fnExactFoundSpec.pre6 enc Tryz.prog Tryz.f3 Rows.fnExactFoundRow.domain false) (Rows.fnExactFoundSpec.post enc Tryz.prog Tryz.f3 false true false false):=by
 refine returnsInHanded_of_change_sized (C:=Tryz.checked) own started (by kernel_rfl) Tryz.func3
  (ChangeSpec.witness6 (enc:=enc) (C:=Tryz.checked) false ⟨#[],#[.agg #[.int .i64 0,.slice none 0 0,.slice none 0 0,.bool false,.int .i64 0,.int .i64 0,.int .i64 0,.int .i64 0,.int .i64 0,.int .i64 0,.int .i64 0,.int .i64 0,.int .i64 0,.slice none 0 0,.slice none 0 0,.slice none 0 0]],[]⟩ 8 (by kernel_rfl) (by kernel_rfl) (by kernel_rfl) (by kernel_rfl)) ?_
 intro W base args ds gs before hval0 hW hcnd hsz0 _
 have hW':=hW
 obtain ⟨p,q,hA,hV,rfl,hfz,hnd⟩:=hW
 obtain ⟨rfl,rfl⟩:=trodVars_none hV
 obtain ⟨d0,rfl⟩:=Blq (Auy hA)
 have hsz1:(DataW.weightsEach Tryz.prog Tryz.f3.params.toList [d0]).all (·≤reachBytes)=true:=hsz0
 have hw:∀ n∈DataW.weightsEach Tryz.prog Tryz.f3.params.toList [d0],n≤reachBytes:=fun n hn=>by simpa using List.all_eq_true.1 hsz1 n hn
 obtain ⟨x,us,h1,h2,h3⟩:=A5d (ts:=[(.pair (.int .i64) (.pair (.pair (.sl .str) (.pair (.sl (.pair (.int .i64) (.pair .str .unit))) .unit)) (.pair .bool (.pair (.pair (.int .i64) (.pair (.int .i64) (.pair (.int .i64) (.pair (.pair (.int .i64) (.pair (.int .i64) (.pair (.int .i64) (.pair (.int .i64) .unit)))) (.pair (.int .i64) (.pair (.int .i64) (.pair (.pair (.sl (.pair .str (.pair .str .unit))) .unit) .unit))))))) (.pair (.sl (.pair (.sl (.pair .str (.pair .str .unit))) .unit)) (.pair (.sl .str) .unit))))))]) (by kernel_rfl) hA (fun j T v e1 e2=>hval0 j T v (by simpa using e1) (by simpa using e2)) hw
 have hx:Vk.den x=some ((true,()),()):=by
  obtain ⟨a0,⟨⟩⟩:=x
  exact Aui a0 h3.1
 have hcall:=Be3 Ai8.2 hx h1 h2
 rw [Array.toArray_toList] at hcall
 refine hcall.mono fun e W' ⟨he,bel⟩=>?_
 subst he
 exact ⟨_,rfl,_,_,_,[],_,[],hW',trodAll_mk1 (shut_bool Tryz.underlying4 _),A5e (by kernel_rfl) bel (by kernel_rfl) hA,rfl,bel.frame _,fun h=>by cases h⟩
theorem named:Tryz.pinned.checked.prog.funcNamed Rows.fnExactFoundRow.func=some 3:=by kernel_rfl
theorem Bku:joinedFacts Tryz.pinned.checked.prog 3 Tryz.f3 Rows.fnExactFoundSpec Rows.fnExactFoundRow=true:=by kernel_rfl
theorem over:Rows.fnExactFoundRow.holds Tryz.pinned (OpenSpec.ofChange Rows.fnExactFoundSpec):=
 OpenClaim.holds_of_wide 3 Tryz.f3 rfl rfl rfl rfl rfl rfl rfl ⟨rfl,rfl,rfl,rfl,rfl⟩ rfl rfl rfl rfl rfl named Tryz.func3 Bku
  (F0 (by kernel_rfl)) (by unfold Func.isWrapper; first | (rw [if_pos (by decide +kernel)]; kernel_rfl) | (rw [if_neg (by decide +kernel)]; exact ⟨rfl,rfl⟩))
  (fun os started H enc _=>Bkt os started H enc)
theorem proved:Rows.FnExactFoundSaid:=over
#print axioms proved
end Go.Proofs.YtjokieaajjmoeaaGreat.fnExactFound
namespace Go.Proofs.YtjokieaajjmoeaaGreat
theorem fnExactFound_holds:Rows.FnExactFoundSaid:=fnExactFound.proved
end Go.Proofs.YtjokieaajjmoeaaGreat
