/- What the functions that FnRoots reaches come to: part 1. No condition. -/
import Derived.Test.YtfkefgbihlfjmaaRCode
import Derived.Test.YtfkefgbihlfjmaaProg
import Derived.KernelRfl
noncomputable section
set_option linter.unusedVariables false
set_option linter.unusedSimpArgs false
namespace Go.Proofs.Ytfkefgbihlfjmaa.V
open Go Go.Proofs.Ytfkefgbihlfjmaa.R Go.Proofs
set_option maxRecDepth 100000
def D3 (v lo hi:Int):Bool:=Cj v lo hi
def A0m:H6:=⟨[.rd tI,.rd tI,.rd tI],[none,none,none],[.rd .bool],[none]⟩
def Ki:SD:=⟨A0m,fun x=>some (((D3 x.1 x.2.1 x.2.2.1),()),(()))⟩
def Aez (a0 a1 a2:Int):Option ((((Bool)×Unit)×(Unit))):=
 bif decide (a0≥a1) then some ((decide (a0≤a2),()),()) else some ((false,()),())
theorem A0n (a0 a1 a2:Int):Aez a0 a1 a2=some ((D3 a0 a1 a2,()),()):=by
 unfold Aez D3 Cj
 by_cases h:a0≥a1
 ·have:decide (a1≤a0)=true:=by simpa using h
  simp [h,this]
 ·have:decide (a1≤a0)=false:=by simpa using h
  simp [h,this]
theorem Lp:Cg Try.prog 45 Ki:=
 Ba (pat:=Eo) [] Jo (A9 (l:=[]) trivial) trivial Try.func45 (de:=fun x=>Aez x.1 x.2.1 x.2.2.1) (fun x r h=>(A0n x.1 x.2.1 x.2.2.1).trans h) fun _=>by kernel_rfl
def Js (d:Dk):Bool:=Az d
def Ag2:H6:=⟨[.rd yDk],[some 2],[.rd .bool],[none]⟩
def Of:SD:=⟨Ag2,fun x=>some (((Js x.1),()),(()))⟩
def Og:Tb:=tb [(45,Ki)]
def By:Nat→Dv×(Nat→Dv):=Jc [(5,⟨[.sl 19 0 .str,.boxSl 1 0 .str,.boxSl 1 1 Db],[(1,.lf (.ptr 0 0)),(19,.lf (.d (.sl .str))),(20,.lf (.d tI)),(21,.lf (.d tI))],[.box 41 [.d (.sl .str),.d (.sl Db)]]⟩,[(2,⟨[.boxSl 1 0 .str,.boxSl 1 1 Db],[(1,.lf (.ptr 0 0))],[.box 41 [.d (.sl .str),.d (.sl Db)]]⟩),(1,⟨[],[(2,.lf (.d .bool))],[]⟩)]),(11,⟨[.sl 30 0 Db,.boxSl 1 0 .str,.boxSl 1 1 Db],[(1,.lf (.ptr 0 0)),(30,.lf (.d (.sl Db))),(31,.lf (.d tI)),(32,.lf (.d tI))],[.box 41 [.d (.sl .str),.d (.sl Db)]]⟩,[(4,p0),(1,⟨[],[(2,.lf (.d .bool))],[]⟩)])]
def R3:Code:=(Ax (Bs Try.f20)).getD 0 .skip
def Qz:Code:=(Ax (Bs Try.f20)).getD 1 .skip
def Df (v30:List Wr) (v31 v32:Int) (b0_0:List Ab) (b0_1:List Wr):Nat:=(v31 - v32).toNat + 1
def F4 {R:Type}  (NX:((List Wr)×(Int)×(Int)×(List Ab)×(List Wr)×Unit)→Option R) (X4:(Unit)→Option R) (X1:((Bool)×Unit)→Option R) (v30:List Wr) (v31:Int) (v32:Int) (b0_0:List Ab) (b0_1:List Wr):Option R:=
 bif decide (v32 < v31) then bif decide (0≤v32) then bif decide (v32 < nI v30.length) then bif !D3 (v30.getD v32.toNat (0,Af,())).1 0 (IntKind.i64.wrap (nI b0_0.length - 1)) then X1 (false,()) else bif nI (ByteArray.size (v30.getD v32.toNat (0,Af,())).2.1) != 64 then X1 (false,()) else NX (v30,v31,IntKind.i64.wrap (v32 + 1),b0_0,b0_1,()) else none else none else X4 PUnit.unit
def Bn:Nat→(List Wr)→(Int)→(Int)→(List Ab)→(List Wr) →  Option ((Unit) ⊕ ((Bool)×Unit))
 | 0,_,_,_,_,_=>none
 | m + 1,v30,v31,v32,b0_0,b0_1=>F4  (fun d=>Bn m d.1 d.2.1 d.2.2.1 d.2.2.2.1 d.2.2.2.2.1) (fun d=>some (.inl (d))) (fun d=>some (.inr (d))) v30 v31 v32 b0_0 b0_1
def z6 (d:(List Wr)×(Int)×(Int)×(List Ab)×(List Wr)×Unit):Option ((Unit) ⊕ ((Bool)×Unit)):=(u4 (Ad Aj)) (Bn ((u4 (Ad Aj)) Df d)) d
def Dw (v19:List Ab) (v20 v21:Int) (b0_0:List Ab) (b0_1:List Wr):Nat:=(v20 - v21).toNat + 1
def Gv {R:Type}  (NX:((List Ab)×(Int)×(Int)×(List Ab)×(List Wr)×Unit)→Option R) (X2:Dk→Option R) (X1:((Bool)×Unit)→Option R) (v19:List Ab) (v20:Int) (v21:Int) (b0_0:List Ab) (b0_1:List Wr):Option R:=
 bif decide (v21 < v20) then bif decide (0≤v21) then bif decide (v21 < nI v19.length) then bif nI (ByteArray.size (v19.getD v21.toNat (Af))) != 64 then X1 (false,()) else NX (v19,v20,IntKind.i64.wrap (v21 + 1),b0_0,b0_1,()) else none else none else X2 (b0_0,b0_1,())
def Bu:Nat→(List Ab)→(Int)→(Int)→(List Ab)→(List Wr) →  Option (Dk ⊕ ((Bool)×Unit))
 | 0,_,_,_,_,_=>none
 | m + 1,v19,v20,v21,b0_0,b0_1=>Gv  (fun d=>Bu m d.1 d.2.1 d.2.2.1 d.2.2.2.1 d.2.2.2.2.1) (fun d=>some (.inl (d))) (fun d=>some (.inr (d))) v19 v20 v21 b0_0 b0_1
def Acq (d:(List Ab)×(Int)×(Int)×(List Ab)×(List Wr)×Unit):Option (Dk ⊕ ((Bool)×Unit)):=(u4 (Ad Aj)) (Bu ((u4 (Ad Aj)) Dw d)) d
def Oh (a0:Dk):Option ((((Bool)×Unit)×(Unit))):=
 bif !D3 (nI (List.length a0.1)) 8 200 then some ((false,()),()) else bif decide (nI (List.length a0.2.1) > 300) then some ((false,()),()) else ((fun d=>Bu (Dw d.1 d.2.1 d.2.2.1 d.2.2.2.1 d.2.2.2.2.1) d.1 d.2.1 d.2.2.1 d.2.2.2.1 d.2.2.2.2.1) (a0.1,nI (List.length a0.1),0,a0)).bind fun val=>Gu (fun d=>((fun d=>Bn (Df d.1 d.2.1 d.2.2.1 d.2.2.2.1 d.2.2.2.2.1) d.1 d.2.1 d.2.2.1 d.2.2.2.1 d.2.2.2.2.1) (d.2.1,nI (List.length d.2.1),0,d)).bind fun val=>Gu (fun d=>some ((true,()),())) (fun d=>some (d,())) val) (fun d=>some (d,())) val
theorem Ag3 (a0:Dk):Oh a0=some ((Js a0,()),()):=by
 unfold Oh Js Az
 have c1:decide (nI a0.2.1.length > 300)=!decide (a0.2.1.length≤300):=Atv _ 300
 rw [c1]
 show (bif !Cj (a0.1.length:Int) 8 200 then _ else _)=_
 cases hin:Cj (a0.1.length:Int) 8 200 with
 | false=>rfl
 | true=>
  have hlen:a0.1.length≤200:=by have:=Fw (Ch hin).2; omega
  by_cases hp:a0.2.1.length≤300
  ·rw [Ag hp]
   have hL:=Tf (n:=a0.1.length) (fun i=>decide ((a0.1.getD i z0).size=64)) (g:=fun m i=>Bu m a0.1 (nI a0.1.length) i a0.1 a0.2.1) (ok:=.inl (a0.1,a0.2.1,())) (bad:=.inr (false,())) (fun m i hi=>by
    show Bu (m + 1) a0.1 (nI a0.1.length) i a0.1 a0.2.1=_
    simp only [Bu,Gv]
    have g1:(nI (ByteArray.size (List.getD a0.1 i (Af))) != 64)=!decide ((a0.1.getD i z0).size=64):=A7i _ 64
    rw [cLt hi,Nd,wI (show i < 4611686018427387904 by omega),Kx,g1]
    cases decide ((a0.1.getD i z0).size=64)<;>rfl) (fun m=>by
    show Bu (m + 1) a0.1 (nI a0.1.length) (a0.1.length:Int) a0.1 a0.2.1=_
    simp only [Bu,Gv]
    rw [Zr]
    rfl) (Dw a0.1 (nI a0.1.length) 0 a0.1 a0.2.1) 0 (by omega) (by simp [Dw,nI])
   have hL':Bu (Dw a0.1 (nI a0.1.length) 0 a0.1 a0.2.1) a0.1 (nI a0.1.length) 0 a0.1 a0.2.1=_:=hL
   have hM:=Tf (n:=a0.2.1.length) (fun i=>x5 a0.1.length (a0.2.1.getD i zW)) (g:=fun m i=>Bn m a0.2.1 (nI a0.2.1.length) i a0.1 a0.2.1) (ok:=.inl ()) (bad:=.inr (false,())) (fun m i hi=>by
    show Bn (m + 1) a0.2.1 (nI a0.2.1.length) i a0.1 a0.2.1=_
    simp only [Bn,F4]
    have g1:(nI (ByteArray.size (List.getD a0.2.1 i (0,Af,())).2.1) != 64)=!decide ((a0.2.1.getD i zW).2.1.size=64):=A7i _ 64
    have hw:IntKind.i64.wrap (nI a0.1.length - 1)=(a0.1.length:Int) - 1:=Al (by simp only [nI]; omega) (by simp only [nI]; omega)
    rw [cLt hi,Nd,wI (show i < 4611686018427387904 by omega),Kx,g1,hw]
    have g2:D3 (List.getD a0.2.1 i (0,Af,())).1 0 ((a0.1.length:Int) - 1)=(decide (0≤(a0.2.1.getD i zW).1)&&decide ((a0.2.1.getD i zW).1 < (a0.1.length:Int))):=by
     show (decide (0≤(a0.2.1.getD i zW).1)&&decide ((a0.2.1.getD i zW).1≤(a0.1.length:Int) - 1))=_
     congr 1
     exact decide_eq_decide.2 (by omega)
    rw [g2]
    unfold x5
    cases decide (0≤(a0.2.1.getD i zW).1)<;>cases decide ((a0.2.1.getD i zW).1 < (a0.1.length:Int))<;>cases decide ((a0.2.1.getD i zW).2.1.size=64)<;>rfl) (fun m=>by
    show Bn (m + 1) a0.2.1 (nI a0.2.1.length) (a0.2.1.length:Int) a0.1 a0.2.1=_
    simp only [Bn,F4]
    rw [Zr]
    rfl) (Df a0.2.1 (nI a0.2.1.length) 0 a0.1 a0.2.1) 0 (by omega) (by simp [Df,nI])
   have hM':Bn (Df a0.2.1 (nI a0.2.1.length) 0 a0.1 a0.2.1) a0.2.1 (nI a0.2.1.length) 0 a0.1 a0.2.1=_:=hM
   show (Bu (Dw a0.1 (nI a0.1.length) 0 a0.1 a0.2.1) a0.1 (nI a0.1.length) 0 a0.1 a0.2.1).bind _=_
   rw [hL']
   rw [Nat.sub_zero] at hM' ⊢
   cases (List.range' 0 a0.1.length).all (fun i=>decide ((a0.1.getD i z0).size=64)) with
   | false=>rfl
   | true=>
    show (Bn (Df a0.2.1 (nI a0.2.1.length) 0 a0.1 a0.2.1) a0.2.1 (nI a0.2.1.length) 0 a0.1 a0.2.1).bind _=_
    rw [hM']
    cases (List.range' 0 a0.2.1.length).all (fun i=>x5 a0.1.length (a0.2.1.getD i zW))<;>rfl
  ·rw [Bi hp]
   rfl
def R4 {R:Type} (k:Kt R):=(Gu (N3 (By 5) (.exit 0) 2 k) (N3 (By 5) .ret 1 k))
def Q0 {R:Type} (k:Kt R):=(Gu (N3 (By 11) (.exit 2) 4 k) (N3 (By 11) .ret 1 k))
def P6 {R:Type}:Lt R By:=(G3 (pat:=By) 5 (fun d k=>(Acq d).bind (R4 k)) (G3 (pat:=By) 11 (fun d k=>(z6 d).bind (Q0 k)) Jo))
theorem Oi:A4 Try.prog Og:=A9 ⟨Lp,trivial⟩
theorem z7 {R:Type}:Bg Try.prog R 51 0 By P6 Qz:=
 C8 (cfg:=⟨Og,0,51,By⟩) 11 [] (fun NX X d=>(u4 (Ad Aj)) (F4  NX (fun e=>X (.inl (e))) (fun e=>X (.inr (e)))) d) (fun m d=>(u4 (Ad Aj)) (Bn m) d) (fun d=>(u4 (Ad Aj)) Df d) Q0 Oi trivial (fun f NX d=>by simp only [u4,Ad,Aj]; unfold F4; simp only [nb])
theorem Acr {R:Type}:Bg Try.prog R 51 0 By P6 R3:=
 C8 (cfg:=⟨Og,0,51,By⟩) 5 [] (fun NX X d=>(u4 (Ad Aj)) (Gv  NX (fun e=>X (.inl (e))) (fun e=>X (.inr (e)))) d) (fun m d=>(u4 (Ad Aj)) (Bu m) d) (fun d=>(u4 (Ad Aj)) Dw d) R4 Oi trivial (fun f NX d=>by simp only [u4,Ad,Aj]; unfold Gv; simp only [nb])
theorem Vu:Cg Try.prog 20 Of:=
 Ba (pat:=By) [R3,Qz] P6 Oi ⟨Acr,z7,trivial⟩ Try.func20 (de:=fun x=>Oh x.1) (fun x r h=>(Ag3 x.1).trans h) fun _=>by kernel_rfl
def K0 (d:Dk):Option Dk:=if d.1.length≤1000∧d.2.1.length≤1000 then some (d.1,d.2.1,()) else none
def Ajr:H6:=⟨[.rd yDk],[some 2],[.own 9 .str,.own 82 Db],[some 2]⟩
def Xz:SD:=⟨Ajr,fun x=>(K0 x.1).bind fun r=>some ((r.1,r.2.1,()),(()))⟩
def P7 (a0:Dk):Option ((Dk×(Unit))):=
 bif decide ((0 + List.length a0.1) * 16≤140737488355328) then bif decide ((0 + List.length a0.2.1) * 24≤140737488355328) then some (([]++a0.1,[]++a0.2.1,()),()) else none else none
theorem Ajs (a0:Dk) r (h:K0 a0=some r):P7 a0=some ((r.1,r.2.1,()),(())):=by
 unfold K0 at h
 split at h
 ·rename_i hc
  cases h
  unfold P7
  rw [Ag (show (0 + a0.1.length) * 16≤140737488355328 by omega),Ag (show (0 + a0.2.1.length) * 24≤140737488355328 by omega)]
  rfl
 ·cases h
theorem Ajt:Cg Try.prog 44 Xz:=
 Ba (pat:=Eo) [] Jo (A9 (l:=[]) trivial) trivial Try.func44 (de:=fun x=>P7 x.1) (fun x r h=>Gd (Ajs x.1) h) fun _=>by kernel_rfl
def F5 (d:Dk) (ops:List Fy) (n:Int):Option Dk:=if ops.length≤1099511627776 then some (Cz d ops n) else none
def Amc:H6:=⟨[.rd yDk,.rd (.sl Is),.rd tI],[some 2,none,none],[.own 9 .str,.own 82 Db],[some 2]⟩
def a8:SD:=⟨Amc,fun x=>(F5 x.1 x.2.1 x.2.2.1).bind fun r=>some ((r.1,r.2.1,()),(()))⟩
def Ri:Tb:=tb [(20,Of),(44,Xz),(45,Ki)]
def Dm:Nat→Dv×(Nat→Dv):=Jc [(6,⟨[.sl 1 0 Is,.boxRow 6 0 9 .str,.boxRow 6 1 82 Db,.boxRow 7 0 9 .str,.boxRow 7 1 82 Db],[(1,.lf (.d (.sl Is))),(2,.lf (.d tI)),(6,.lf (.ptr 0 0)),(7,.lf (.ptr 1 0)),(8,.lf (.d tI))],[.box 41 [.row 2,.row 3],.box 41 [.row 4,.row 5],.row 9 .str,.row 82 Db,.row 9 .str,.row 82 Db]⟩,[(2,⟨[.boxRow 6 0 9 .str,.boxRow 6 1 82 Db,.boxRow 7 0 9 .str,.boxRow 7 1 82 Db],[(6,.lf (.ptr 0 0)),(7,.lf (.ptr 1 0))],[.box 41 [.row 2,.row 3],.box 41 [.row 4,.row 5],.row 9 .str,.row 82 Db,.row 9 .str,.row 82 Db]⟩)]),(11,⟨[.sl 1 0 Is,.sl 36 0 Db,.boxRow 6 0 9 .str,.boxRow 6 1 82 Db,.boxRow 7 0 9 .str,.boxSl 7 1 Db],[(1,.lf (.d (.sl Is))),(2,.lf (.d tI)),(6,.lf (.ptr 0 0)),(7,.lf (.ptr 1 0)),(8,.lf (.d tI)),(36,.lf (.d (.sl Db))),(37,.lf (.d tI)),(38,.lf (.d tI))],[.box 41 [.row 2,.row 3],.box 41 [.row 4,.d (.sl Db)],.row 9 .str,.row 82 Db,.row 9 .str]⟩,[(4,⟨[.sl 1 0 Is,.boxRow 6 0 9 .str,.boxRow 6 1 82 Db,.boxRow 7 0 9 .str,.boxSl 7 1 Db],[(1,.lf (.d (.sl Is))),(2,.lf (.d tI)),(6,.lf (.ptr 0 0)),(7,.lf (.ptr 1 0)),(8,.lf (.d tI))],[.box 41 [.row 2,.row 3],.box 41 [.row 4,.d (.sl Db)],.row 9 .str,.row 82 Db,.row 9 .str]⟩)])]
def Oj:Code:=(Ax (Bs Try.f16)).getD 0 .skip
def To:Code:=(Ax Oj).getD 0 .skip
def Hl (v1:List Fy) (v2 v8:Int) (v36:List Wr) (v37 v38:Int) (b1_1:List Wr) (r2:List Ab) (r3:List Wr) (r4:List Ab):Nat:=(v37 - v38).toNat + 1
def Hm {R:Type}  (NX:((List Fy)×(Int)×(Int)×(List Wr)×(Int)×(Int)×(List Wr)×(List Ab)×(List Wr)×(List Ab)×Unit)→Option R) (X4:((List Fy)×(Int)×(Int)×(List Wr)×(List Ab)×(List Wr)×(List Ab)×Unit)→Option R) (v1:List Fy) (v2:Int) (v8:Int) (v36:List Wr) (v37:Int) (v38:Int) (b1_1:List Wr) (r2:List Ab) (r3:List Wr) (r4:List Ab):Option R:=
 bif decide (v38 < v37) then bif decide (0≤v38) then bif decide (v38 < nI v36.length) then bif decide (0≤(v36.getD v38.toNat (0,Af,())).1) then bif decide ((v36.getD v38.toNat (0,Af,())).1 < nI r4.length) then bif decide (Int.toNat (v36.getD v38.toNat (0,Af,())).1 < r4.length) then NX (v1,v2,v8,v36,v37,IntKind.i64.wrap (v38 + 1),b1_1,r2,r3,r4.set (Int.toNat (v36.getD v38.toNat (0,Af,())).1) (v36.getD v38.toNat (0,Af,())).2.1,()) else none else none else none else none else none else X4 (v1,v2,v8,b1_1,r2,r3,r4,())
def Cx:Nat→(List Fy)→(Int)→(Int)→(List Wr)→(Int)→(Int)→(List Wr)→(List Ab)→(List Wr)→(List Ab) →  Option ((List Fy)×(Int)×(Int)×(List Wr)×(List Ab)×(List Wr)×(List Ab)×Unit)
 | 0,_,_,_,_,_,_,_,_,_,_=>none
 | m + 1,v1,v2,v8,v36,v37,v38,b1_1,r2,r3,r4=>Hm  (fun d=>Cx m d.1 d.2.1 d.2.2.1 d.2.2.2.1 d.2.2.2.2.1 d.2.2.2.2.2.1 d.2.2.2.2.2.2.1 d.2.2.2.2.2.2.2.1 d.2.2.2.2.2.2.2.2.1 d.2.2.2.2.2.2.2.2.2.1) (fun d=>some (d)) v1 v2 v8 v36 v37 v38 b1_1 r2 r3 r4
def Hn (d:(List Fy)×(Int)×(Int)×(List Wr)×(Int)×(Int)×(List Wr)×(List Ab)×(List Wr)×(List Ab)×Unit):Option ((List Fy)×(Int)×(Int)×(List Wr)×(List Ab)×(List Wr)×(List Ab)×Unit):=(u4 (u4 (Ad (Ad Aj)))) (Cx ((u4 (u4 (Ad (Ad Aj)))) Hl d)) d
def E1 (v1:List Fy) (v2 v8:Int) (r2:List Ab) (r3:List Wr) (r4:List Ab) (r5:List Wr):Nat:=(v2 - v8).toNat + 1
def Iv {R:Type} (LO11:((List Fy)×(Int)×(Int)×(List Wr)×(Int)×(Int)×(List Wr)×(List Ab)×(List Wr)×(List Ab)×Unit)→Option ((List Fy)×(Int)×(Int)×(List Wr)×(List Ab)×(List Wr)×(List Ab)×Unit)) (NX:((List Fy)×(Int)×(Int)×(List Ab)×(List Wr)×(List Ab)×(List Wr)×Unit)→Option R) (X2:((List Ab)×(List Wr)×(List Ab)×(List Wr)×Unit)→Option R) (v1:List Fy) (v2 v8:Int) (r2:List Ab) (r3:List Wr) (r4:List Ab) (r5:List Wr):Option R:=
 bif decide (v8 < v2) then bif decide (v8 < nI v1.length) then bif decide (0≤v8) then bif decide (v8 < nI v1.length) then bif (v1.getD v8.toNat (false,0,Af,())).1 then (LO11 (v1,v2,v8,r5,nI r5.length,0,r5,r2,r3,r4,())).bind fun val=>NX (val.1,val.2.1,IntKind.i64.wrap (val.2.2.1 + 1),val.2.2.2.2.1,val.2.2.2.2.2.1,val.2.2.2.2.2.2.1,[],()) else bif D3 (v1.getD v8.toNat (false,0,Af,())).2.1 0 (IntKind.i64.wrap (nI r4.length - 1)) then bif nI (ByteArray.size (v1.getD v8.toNat (false,0,Af,())).2.2.1)==64 then bif decide (nI r5.length < 300) then bif decide ((r5.length + [(v1.getD v8.toNat (false,0,Af,())).2].length) * 24≤140737488355328) then NX (v1,v2,IntKind.i64.wrap (v8 + 1),r2,r3,r4,r5++[(v1.getD v8.toNat (false,0,Af,())).2],()) else none else NX (v1,v2,IntKind.i64.wrap (v8 + 1),r2,r3,r4,r5,()) else NX (v1,v2,IntKind.i64.wrap (v8 + 1),r2,r3,r4,r5,()) else NX (v1,v2,IntKind.i64.wrap (v8 + 1),r2,r3,r4,r5,()) else none else none else X2 (r2,r3,r4,r5,()) else X2 (r2,r3,r4,r5,())
def Bz:Nat→(List Fy)→(Int)→(Int)→(List Ab)→(List Wr)→(List Ab)→(List Wr) →  Option ((List Ab)×(List Wr)×(List Ab)×(List Wr)×Unit)
 | 0,_,_,_,_,_,_,_=>none
 | m + 1,v1,v2,v8,r2,r3,r4,r5=>Iv Hn (fun d=>Bz m d.1 d.2.1 d.2.2.1 d.2.2.2.1 d.2.2.2.2.1 d.2.2.2.2.2.1 d.2.2.2.2.2.2.1) (fun d=>some (d)) v1 v2 v8 r2 r3 r4 r5
def Ag4 (d:(List Fy)×(Int)×(Int)×(List Ab)×(List Wr)×(List Ab)×(List Wr)×Unit):Option ((List Ab)×(List Wr)×(List Ab)×(List Wr)×Unit):=(u4 (Ad (Ad (Ad Aj)))) (Bz ((u4 (Ad (Ad (Ad Aj)))) E1 d)) d
def Rj (a0:Dk) (a1:List Fy) (a2:Int):Option ((Dk×(Unit))):=
 bif !Js a0 then some (([],[],()),()) else ((K0 a0).bind fun val=>some (val,())).bind fun val=>((fun d=>Bz (E1 d.1 d.2.1 d.2.2.1 d.2.2.2.1 d.2.2.2.2.1 d.2.2.2.2.2.1 d.2.2.2.2.2.2.1) d.1 d.2.1 d.2.2.1 d.2.2.2.1 d.2.2.2.2.1 d.2.2.2.2.2.1 d.2.2.2.2.2.2.1) (a1,a2,0,[],[],val.1)).bind fun val=>some (val.2.2,())
theorem A0o (a1:List Fy) (a2 i:Int) (b:List Wr) {sec:List Ab} {ws:List Wr} (hp:ws.length≤300) (hw:∀ i,i < ws.length→0≤(ws.getD i zW).1∧(ws.getD i zW).1 < (sec.length:Int)):
  Cx (Hl a1 a2 i ws (nI ws.length) 0 b [] [] sec) a1 a2 i ws (nI ws.length) 0 b [] [] sec=some (a1,a2,i,b,[],[],Lm sec ws,()):=by
 have hL:=Acf (xs:=ws) zW (fun s:List Ab=>s.length=sec.length) (fun _ w s=>s.set w.1.toNat w.2.1) (g:=fun m i' s=>Cx m a1 a2 i ws (nI ws.length) i' b [] [] s) (ok:=fun s=>(a1,a2,i,b,[],[],s,())) (fun m i' s hi hs=>by
   show Cx (m + 1) a1 a2 i ws (nI ws.length) i' b [] [] s=_
   simp only [Cx,Hm]
   obtain ⟨h0,h1⟩:=hw i' hi
   have c1:decide (0≤(List.getD ws i' (0,Af,())).1)=true:=Ag h0
   have c2:decide ((List.getD ws i' (0,Af,())).1 < nI s.length)=true:=Ag (by rw [hs]; exact h1)
   have c3:decide (Int.toNat (List.getD ws i' (0,Af,())).1 < s.length)=true:=Ag (by
    rw [hs]
    have:(ws.getD i' zW).1.toNat < sec.length:=by
     have h0:0≤(ws.getD i' zW).1:=h0
     have h1:(ws.getD i' zW).1 < (sec.length:Int):=h1
     omega
    exact this)
   rw [cLt hi,Nd,wI (show i' < 4611686018427387904 by omega),Kx,c1,c2,c3]
   rfl) (fun i s hi hs=>by rw [List.length_set]; exact hs) (fun m s hs=>by
   show Cx (m + 1) a1 a2 i ws (nI ws.length) (ws.length:Int) b [] [] s=_
   simp only [Cx,Hm]
   rw [Zr]
   rfl) (Hl a1 a2 i ws (nI ws.length) 0 b [] [] sec) 0 sec (by omega) (by simp [Hl,nI]) rfl
 exact hL
theorem Amd (a0:Dk) (a1:List Fy) (a2:Int) r (h:F5 a0 a1 a2=some r):Rj a0 a1 a2=some ((r.1,r.2.1,()),(())):=by
 unfold F5 at h
 split at h
 rotate_left
 ·cases h
 rename_i hlen
 cases h
 unfold Rj Cz
 show (bif !Az a0 then _ else _)=_
 cases hv:Az a0 with
 | false=>rfl
 | true=>
  have hok:=Kh hv
  have e1:K0 (a0.1,a0.2.1,())=some (a0.1,a0.2.1,()):=if_pos ⟨Nat.le_trans hok.n200 (by decide),Nat.le_trans hok.p300 (by decide)⟩
  have hxl:(a1.take a2.toNat).length=min a2.toNat a1.length:=List.length_take
  have hL:=Jd (xs:=a1.take a2.toNat) zOp (fun _ d=>Eu d) (fun _ o d=>opS d o) (g:=fun m i d=>Bz m a1 a2 i [] [] d.1 d.2.1) (ok:=fun d:Dk=>([],[],d.1,d.2.1,())) (fun m i d hi hI=>by
   show Bz (m + 1) a1 a2 i [] [] d.1 d.2.1=_
   simp only [Bz,Iv,Hn,u4,Ad,Aj]
   rw [hxl] at hi
   have hi1:i < a1.length:=by omega
   have hi2:decide ((i:Int) < a2)=true:=Ag (by omega)
   have hg:(a1.take a2.toNat).getD i zOp=List.getD a1 i (false,0,Af,()):=by
    rw [List.getD_eq_getElem?_getD,List.getElem?_take,if_pos (by omega),← List.getD_eq_getElem?_getD]
    rfl
   rw [hg,hi2,cLt hi1,Nd,wI (show i < 4611686018427387904 by omega),Kx]
   simp only [cond_true]
   generalize List.getD a1 i (false,0,Af,())=o
   unfold opS
   cases ho:o.1 with
   | true=>
    simp only [cond_true]
    rw [A0o a1 a2 i d.2.1 hI.p300 (fun k hk=>⟨(hI.pen k hk).1,(hI.pen k hk).2.1⟩)]
    simp only [Option.bind_some]
    rw [wI (show i < 4611686018427387904 by omega)]
    rfl
   | false=>
    simp only [cond_false]
    have hn:=hI.n8
    have hn2:=hI.n200
    have hp:=hI.p300
    have e2:D3 o.2.1 0 (IntKind.i64.wrap (nI d.1.length - 1))=(decide (0≤o.2.1)&&decide (o.2.1 < (d.1.length:Int))):=by
     rw [Al (by simp only [nI]; omega) (by simp only [nI]; omega)]
     show (decide (0≤o.2.1)&&decide (o.2.1≤nI d.1.length - 1))=_
     congr 1
     exact decide_eq_decide.2 (by simp only [nI]; omega)
    have e3:(nI (ByteArray.size o.2.2.1)==64)=decide (o.2.2.1.size=64):=by
     by_cases q:o.2.2.1.size=64
     ·rw [q]; rfl
     ·rw [Bi q]
      exact beq_eq_false_iff_ne.2 (by simp only [nI]; omega)
    have e4:decide (nI d.2.1.length < 300)=decide (d.2.1.length < 300):=decide_eq_decide.2 (by simp only [nI]; omega)
    have e5:decide ((d.2.1.length + 1) * 24≤140737488355328)=true:=Ag (by omega)
    simp only [Et,e2,e3,e4,e5]
    show _=Bz m a1 a2 _ [] [] (bif (decide (0≤o.2.1)&&(decide (o.2.1 < (d.1.length:Int))&&decide (o.2.2.1.size=64)))&&decide (d.2.1.length < 300) then (d.1,d.2.1++[(o.2.1,o.2.2.1,())],()) else d).1 (bif (decide (0≤o.2.1)&&(decide (o.2.1 < (d.1.length:Int))&&decide (o.2.2.1.size=64)))&&decide (d.2.1.length < 300) then (d.1,d.2.1++[(o.2.1,o.2.2.1,())],()) else d).2.1
    cases decide (0≤o.2.1)<;>cases decide (o.2.1 < (d.1.length:Int))<;>cases decide (o.2.2.1.size=64)<;>cases decide (d.2.1.length < 300)<;>rfl) (fun i d hi hI=>hI.op _) (fun m d hI=>by
   show Bz (m + 1) a1 a2 (((a1.take a2.toNat).length:Nat):Int) [] [] d.1 d.2.1=_
   simp only [Bz,Iv,Hn,u4,Ad,Aj]
   rw [hxl]
   by_cases q:((min a2.toNat a1.length:Nat):Int) < a2
   ·rw [Ag q,Bi (show ¬ ((min a2.toNat a1.length:Nat):Int) < nI a1.length by simp only [nI]; omega)]
    rfl
   ·rw [Bi q]
    rfl) (E1 a1 a2 0 [] [] a0.1 a0.2.1) 0 a0 (by omega) (by rw [hxl]; simp only [E1,nI]; omega) hok
  have hL':Bz (E1 a1 a2 0 [] [] a0.1 a0.2.1) a1 a2 0 [] [] a0.1 a0.2.1=_:=hL
  simp only [Bool.not_true,cond_false]
  rw [e1]
  show (Bz (E1 a1 a2 0 [] [] a0.1 a0.2.1) a1 a2 0 [] [] a0.1 a0.2.1).bind _=_
  rw [hL',List.drop_zero]
  have hf:∀ (l:List Fy) (i:Nat) (d:Dk),Hk (fun _ o d=>opS d o) i l d=l.foldl opS d:=fun l=>by
   induction l with
   | nil=>intro i d; rfl
   | cons o r ih=>intro i d; exact ih _ _
  rw [hf]
  rfl
def Vv {R:Type} (k:Kt R):=(N3 (Dm 6) (.exit 0) 2 k)
def Tp {R:Type} (k:Kt R):=(N3 (Dm 11) (.exit 2) 4 k)
def Tq {R:Type}:Lt R Dm:=(G3 (pat:=Dm) 6 (fun d k=>(Ag4 d).bind (Vv k)) (G3 (pat:=Dm) 11 (fun d k=>(Hn d).bind (Tp k)) Jo))
theorem Rk:A4 Try.prog Ri:=A9 ⟨Vu,Ajt,Lp,trivial⟩
theorem Ae0 {R:Type}:Bg Try.prog R 81 0 Dm Tq To:=
 C8 (cfg:=⟨Ri,0,81,Dm⟩) 11 [] (fun NX X d=>(u4 (u4 (Ad (Ad Aj)))) (Hm  NX X) d) (fun m d=>(u4 (u4 (Ad (Ad Aj)))) (Cx m) d) (fun d=>(u4 (u4 (Ad (Ad Aj)))) Hl d) Tp Rk trivial (fun f NX d=>by simp only [u4,Ad,Aj]; unfold Hm; simp only [nb])
theorem Ag5 {R:Type}:Bg Try.prog R 81 0 Dm Tq Oj:=
 C8 (cfg:=⟨Ri,0,81,Dm⟩) 6 [To] (fun NX X d=>(u4 (Ad (Ad (Ad Aj)))) (Iv Hn NX X) d) (fun m d=>(u4 (Ad (Ad (Ad Aj)))) (Bz m) d) (fun d=>(u4 (Ad (Ad (Ad Aj)))) E1 d) Vv Rk ⟨Ae0,trivial⟩ (fun f NX d=>by simp only [u4,Ad,Aj]; unfold Iv; simp only [nb])
theorem Ame:Cg Try.prog 16 a8:=
 Ba (pat:=Dm) [Oj] Tq Rk ⟨Ag5,trivial⟩ Try.func16 (de:=fun x=>Rj x.1 x.2.1 x.2.2.1) (fun x r h=>Gd (Amd x.1 x.2.1 x.2.2.1) h) fun _=>by kernel_rfl
def Aqa:H6:=⟨[.rd (.sl (.int .u8))],[none],[.bx 116 (.pair (.sl (.int .u8)) (.pair tI .unit))],[none]⟩
def Ok (a0:List Int):Option (((((List Int)×Int×Unit)×Unit)×(Unit))):=
 bif decide (nI a0.length > 2000) then bif decide (2000≤nI a0.length) then some (((List.drop (Int.toNat 0) (List.take (Int.toNat 2000) a0),0,()),()),()) else none else some (((a0,0,()),()),())
theorem z8:∃ f,f=@Ok:=⟨_,rfl⟩
def K6:=Classical.choose z8
theorem Aaa:@K6=@Ok:=Classical.choose_spec z8
def Tr:SD:=⟨Aqa,fun x=>K6 x.1⟩
theorem A2b (b:List Int) (h:R1 (.sl (.int .u8)) b):Ao (K6 b) fun r=>Pl 0 r.1.1:=by
 obtain ⟨_,h⟩:=h
 have hb:∀ l:List Int,(∀ x∈l,x∈b)→l.length≤2000→rdB l=true:=fun l h1 h2=>by
  unfold rdB
  rw [Ag h2,Bool.true_and,List.all_eq_true]
  intro x hx
  obtain ⟨i,hi,e⟩:=List.getElem_of_mem (h1 x hx)
  have q:=h i x (by rw [← e]; exact List.getElem?_eq_getElem hi)
  have q:(Lit.int .u8 x).wf=true:=q
  simp only [Lit.wf,Bool.and_eq_true,decide_eq_true_eq] at q
  simp only [Bool.and_eq_true,decide_eq_true_eq]
  have q1:(0:Int)≤x:=q.1
  have q2:x≤255:=q.2
  omega
 rw [Aaa]
 unfold Ok
 refine Ao.cond (fun c=>?_) fun c=>?_
 ·simp only [decide_eq_true_eq,nI] at c
  refine Ao.go (Ag (by simp only [nI]; omega)) (Ao.some ⟨hb _ (fun x hx=>List.mem_of_mem_take (List.mem_of_mem_drop hx)) ?_,Int.le_refl 0,Int.le_refl 0⟩)
  simp only [List.drop_zero,List.length_take,Int.toNat_zero]
  omega
 ·simp only [decide_eq_false_iff_not,nI] at c
  exact Ao.some ⟨hb _ (fun x hx=>hx) (by show b.length≤2000; omega),Int.le_refl 0,Int.le_refl 0⟩
theorem Aab:Cg Try.prog 39 Tr:=
 Ba (pat:=Eo) [] Jo (A9 (l:=[]) trivial) trivial Try.func39 (de:=fun x=>Ok x.1) (fun x r h=>by have q:K6 x.1=some r:=h; rw [Aaa] at q; exact q) fun _=>by kernel_rfl
def Ag6 (b:List Int) (p:Int):Int:=IntKind.i64.wrap (IntKind.i64.wrap (IntKind.i64.wrap (IntKind.i64.wrap (IntKind.i64.wrap (b.getD (p.tmod (nI b.length)).toNat 0) * 131) + IntKind.i64.wrap (IntKind.i64.wrap (b.getD ((IntKind.i64.wrap (IntKind.i64.wrap (p * 7) + 3)).tmod (nI b.length)).toNat 0) * 1117)) + IntKind.i64.wrap (p * 29)) + IntKind.i64.wrap (IntKind.i64.wrap (p.tdiv (nI b.length)) * 53))
def Aqb (b:List Int) (p n:Int):Int:=bif decide (n < 1) then 0 else bif nI b.length==0 then 0 else bif decide (p < nI b.length) then (IntKind.i64.wrap (b.getD p.toNat 0)).tmod n else
 (IntKind.i64.wrap (nI (BitVec.ofInt 64 (Ag6 b p) ^^^ BitVec.ofInt 64 (IntKind.i64.wrap ((Ag6 b p).tdiv 64))).toNat)).tmod n
theorem A2c:∃ f:Rd→Int→Option (Int×Rd),f=fun r n=>if rdB r.1=true∧0≤r.2.1∧r.2.1 < 1099511627776 then some (Aqb r.1 r.2.1 n,(r.1,r.2.1 + 1,())) else none:=⟨_,rfl⟩
def Aa (r:Rd) (n:Int):Option (Int×Rd):=Classical.choose A2c r n
theorem A2d (r:Rd) (n:Int):Aa r n=if rdB r.1=true∧0≤r.2.1∧r.2.1 < 1099511627776 then some (Aqb r.1 r.2.1 n,(r.1,r.2.1 + 1,())) else none:=by
 unfold Aa
 rw [Classical.choose_spec A2c]
def Ae1:H6:=⟨[.bx 116 (.pair (.sl (.int .u8)) (.pair tI .unit)),.rd tI],[none,none],[.rd tI],[none]⟩
def Br:SD:=⟨Ae1,fun x=>(Aa x.1 x.2.1).bind fun r=>some ((r.1,()),(r.2,()))⟩
def Ni (a0:(List Int)×Int×Unit) (a1:Int):Option ((((Int)×Unit)×(((List Int)×Int×Unit)×Unit))):=
 bif decide (a1 < 1) then some ((0,()),(a0.1,IntKind.i64.wrap (a0.2.1 + 1),()),()) else bif nI (List.length a0.1)==0 then some ((0,()),(a0.1,IntKind.i64.wrap (a0.2.1 + 1),()),()) else bif decide (IntKind.i64.wrap (IntKind.i64.wrap (a0.2.1 + 1) - 1) < nI (List.length a0.1)) then bif decide (0≤IntKind.i64.wrap (IntKind.i64.wrap (a0.2.1 + 1) - 1)) then bif decide (IntKind.i64.wrap (IntKind.i64.wrap (a0.2.1 + 1) - 1) < nI (List.length a0.1)) then bif !decide (a1=0) then some (((IntKind.i64.wrap (List.getD a0.1 (IntKind.i64.wrap (IntKind.i64.wrap (a0.2.1 + 1) - 1)).toNat 0)).tmod a1,()),(a0.1,IntKind.i64.wrap (a0.2.1 + 1),()),()) else none else none else none else bif !decide (nI (List.length a0.1)=0) then bif decide (0≤(IntKind.i64.wrap (IntKind.i64.wrap (a0.2.1 + 1) - 1)).tmod (nI (List.length a0.1))) then bif decide ((IntKind.i64.wrap (IntKind.i64.wrap (a0.2.1 + 1) - 1)).tmod (nI (List.length a0.1)) < nI (List.length a0.1)) then bif !decide (nI (List.length a0.1)=0) then bif decide (0≤(IntKind.i64.wrap (IntKind.i64.wrap (IntKind.i64.wrap (IntKind.i64.wrap (a0.2.1 + 1) - 1) * 7) + 3)).tmod (nI (List.length a0.1))) then bif decide ((IntKind.i64.wrap (IntKind.i64.wrap (IntKind.i64.wrap (IntKind.i64.wrap (a0.2.1 + 1) - 1) * 7) + 3)).tmod (nI (List.length a0.1)) < nI (List.length a0.1)) then bif !decide (nI (List.length a0.1)=0) then bif !decide (a1=0) then some (((IntKind.i64.wrap (nI (BitVec.ofInt 64 (IntKind.i64.wrap (IntKind.i64.wrap (IntKind.i64.wrap (IntKind.i64.wrap (IntKind.i64.wrap (List.getD a0.1 ((IntKind.i64.wrap (IntKind.i64.wrap (a0.2.1 + 1) - 1)).tmod (nI (List.length a0.1))).toNat 0) * 131) + IntKind.i64.wrap (IntKind.i64.wrap (List.getD a0.1 ((IntKind.i64.wrap (IntKind.i64.wrap (IntKind.i64.wrap (IntKind.i64.wrap (a0.2.1 + 1) - 1) * 7) + 3)).tmod (nI (List.length a0.1))).toNat 0) * 1117)) + IntKind.i64.wrap (IntKind.i64.wrap (IntKind.i64.wrap (a0.2.1 + 1) - 1) * 29)) + IntKind.i64.wrap (IntKind.i64.wrap ((IntKind.i64.wrap (IntKind.i64.wrap (a0.2.1 + 1) - 1)).tdiv (nI (List.length a0.1))) * 53))) ^^^ BitVec.ofInt 64 (IntKind.i64.wrap ((IntKind.i64.wrap (IntKind.i64.wrap (IntKind.i64.wrap (IntKind.i64.wrap (IntKind.i64.wrap (List.getD a0.1 ((IntKind.i64.wrap (IntKind.i64.wrap (a0.2.1 + 1) - 1)).tmod (nI (List.length a0.1))).toNat 0) * 131) + IntKind.i64.wrap (IntKind.i64.wrap (List.getD a0.1 ((IntKind.i64.wrap (IntKind.i64.wrap (IntKind.i64.wrap (IntKind.i64.wrap (a0.2.1 + 1) - 1) * 7) + 3)).tmod (nI (List.length a0.1))).toNat 0) * 1117)) + IntKind.i64.wrap (IntKind.i64.wrap (IntKind.i64.wrap (a0.2.1 + 1) - 1) * 29)) + IntKind.i64.wrap (IntKind.i64.wrap ((IntKind.i64.wrap (IntKind.i64.wrap (a0.2.1 + 1) - 1)).tdiv (nI (List.length a0.1))) * 53))).tdiv 64))).toNat)).tmod a1,()),(a0.1,IntKind.i64.wrap (a0.2.1 + 1),()),()) else none else none else none else none else none else none else none else none
theorem A6f {b:List Int} {p:Int} (hb:rdB b=true) (h0:0≤p) (h1:p < 1099511627776) (hn:0 < b.length):0≤Ag6 b p∧Ag6 b p < 1125899906842624:=by
 have c1:=A0b hb (p.tmod (nI b.length)).toNat
 have c2:=A0b hb ((IntKind.i64.wrap (IntKind.i64.wrap (p * 7) + 3)).tmod (nI b.length)).toNat
 have c3:0≤p.tdiv (nI b.length)∧p.tdiv (nI b.length)≤p:=by
  rw [Int.tdiv_eq_ediv_of_nonneg h0]
  exact ⟨Int.ediv_nonneg h0 (by simp [nI]),Int.ediv_le_self _ h0⟩
 unfold Ag6
 generalize b.getD (p.tmod (nI b.length)).toNat 0=x at *
 generalize b.getD ((IntKind.i64.wrap (IntKind.i64.wrap (p * 7) + 3)).tmod (nI b.length)).toNat 0=y at *
 generalize p.tdiv (nI b.length)=z at *
 rw [Al (n:=x) (by omega) (by omega),Al (n:=y) (by omega) (by omega),Al (n:=z) (by omega) (by omega),Al (n:=y * 1117) (by omega) (by omega),Al (n:=x * 131) (by omega) (by omega),Al (n:=p * 29) (by omega) (by omega),Al (n:=z * 53) (by omega) (by omega),Al (n:=x * 131 + y * 1117) (by omega) (by omega),Al (n:=x * 131 + y * 1117 + p * 29) (by omega) (by omega),Al (by omega) (by omega)]
 omega
theorem A6g {b:List Int} {p n:Int} (hb:rdB b=true) (h0:0≤p) (h1:p < 1099511627776):0≤Aqb b p n∧(1≤n→Aqb b p n < n)∧(n < 1→Aqb b p n=0):=by
 unfold Aqb
 by_cases hn:n < 1
 ·rw [Ag hn]
  exact ⟨Int.le_refl 0,fun q=>by omega,fun _=>rfl⟩
 ·rw [Bi hn,cond_false]
  refine ⟨?_,fun _=>?_,fun q=>absurd q hn⟩
  all_goals
   by_cases hl:b.length=0
   ·rw [show (nI b.length==0)=true by simp [nI,hl]]
    simp only [cond_true]
    omega
   ·rw [show (nI b.length==0)=false by simp only [nI,beq_eq_false_iff_ne]; omega,cond_false]
    by_cases hp:p < nI b.length
    ·rw [Ag hp,cond_true]
     have c:=A0b hb p.toNat
     rw [Al (by omega) (by omega)]
     have:=An4 (x:=b.getD p.toNat 0) (n:=n) c.1 (by omega)
     omega
    ·rw [Bi hp,cond_false]
     obtain ⟨x0,x1⟩:=A6f hb h0 h1 (by omega)
     have t:0≤(Ag6 b p).tdiv 64∧(Ag6 b p).tdiv 64≤Ag6 b p:=by
      rw [Int.tdiv_eq_ediv_of_nonneg x0]
      omega
     rw [Al (n:=(Ag6 b p).tdiv 64) (by omega) (by omega)]
     have:=An4 (n:=n) (A3l x0 (by omega) t.1 (by omega)) (by omega)
     omega
theorem A7x {k:Nat} {r:Rd} (n:Int) (h:Pl k r) (hk:k < 1099511627776):∃ v,Aa r n=some (v,(r.1,r.2.1 + 1,()))∧0≤v∧(1≤n→v < n)∧(n < 1→v=0)∧Pl (k + 1) (r.1,r.2.1 + 1,()):=by
 obtain ⟨h1,h2,h3⟩:=h
 have hn:=A6g (n:=n) h1 h2 (by omega)
 exact ⟨_,by rw [A2d,if_pos ⟨h1,h2,by omega⟩],hn.1,hn.2.1,hn.2.2,h1,by show 0≤r.2.1 + 1; omega,by show r.2.1 + 1≤((k + 1:Nat):Int); omega⟩
theorem Av {α:Type} {k:Nat} {r:Rd} {n:Int} {f:(Int×Unit)×Rd×Unit→Option α} {S:α→Prop} (h:Pl k r) (hk:k < 1099511627776) (hn:1≤n) (q:∀ v r',0≤v→v < n→Pl (k + 1) r'→Ao (f ((v,()),r',())) S):
  Ao (((Aa r n).bind fun val=>some ((val.1,()),val.2,())).bind f) S:=by
 obtain ⟨v,e,v0,v1,_,h'⟩:=A7x n h hk
 rw [e]
 exact q v _ v0 (v1 hn) h'
theorem Ae2 (a0:(List Int)×Int×Unit) (a1:Int) r (h:Aa a0 a1=some r):Ni a0 a1=some ((r.1,()),(r.2,())):=by
 rw [A2d] at h
 split at h
 ·rename_i hc
  obtain ⟨hb,h0,h1⟩:=hc
  cases h
  unfold Ni
  have e1:IntKind.i64.wrap (a0.2.1 + 1)=a0.2.1 + 1:=Al (by omega) (by omega)
  have e2:IntKind.i64.wrap (a0.2.1 + 1 - 1)=a0.2.1:=by rw [Al (by omega) (by omega)]; omega
  simp only [e1,e2]
  unfold Aqb
  by_cases hn:a1 < 1
  ·rw [Ag hn]; rfl
  ·rw [Bi hn]
   have hn0:decide (a1=0)=false:=Bi (by omega)
   simp only [cond_false]
   by_cases hl:a0.1.length=0
   ·rw [show (nI a0.1.length==0)=true by simp [nI,hl]]; rfl
   ·rw [show (nI a0.1.length==0)=false by simp only [nI,beq_eq_false_iff_ne]; omega]
    have hl0:decide (nI a0.1.length=0)=false:=Bi (by simp only [nI]; omega)
    simp only [cond_false]
    by_cases hp:a0.2.1 < nI a0.1.length
    ·rw [Ag hp,Ag h0,hn0]; rfl
    ·have t1:=An4 (n:=nI a0.1.length) h0 (by simp only [nI]; omega)
     have w7:IntKind.i64.wrap (IntKind.i64.wrap (a0.2.1 * 7) + 3)=a0.2.1 * 7 + 3:=by rw [Al (n:=a0.2.1 * 7) (by omega) (by omega),Al (by omega) (by omega)]
     have t2:=An4 (x:=a0.2.1 * 7 + 3) (n:=nI a0.1.length) (by omega) (by simp only [nI]; omega)
     rw [← w7] at t2
     rw [Bi hp,hl0,hn0,Ag t1.1,Ag t1.2,Ag t2.1,Ag t2.2]
     rfl
 ·cases h
theorem B5:Cg Try.prog 42 Br:=
 Ba (pat:=Eo) [] Jo (A9 (l:=[]) trivial) trivial Try.func42 (de:=fun x=>Ni x.1 x.2.1) (fun x r h=>Gd (Ae2 x.1 x.2.1) h) fun _=>by kernel_rfl
def Aqc:H6:=⟨[.bx 116 (.pair (.sl (.int .u8)) (.pair tI .unit))],[none],[.rd yRt],[some 4]⟩
def Ol (a0:(List Int)×Int×Unit):Option (((Rt×Unit)×(((List Int)×Int×Unit)×Unit))):=
 ((Aa a0 4).bind fun val=>some ((val.1,()),val.2,())).bind fun val=>bif decide (0≤val.1.1) then bif decide (val.1.1 < nI [1,2,7,1000000000].length) then ((Aa val.2.1 2).bind fun val=>some ((val.1,()),val.2,())).bind fun val_1=>((Aa val_1.2.1 3).bind fun val=>some ((val.1,()),val.2,())).bind fun val_2=>bif decide (0≤val_2.1.1) then bif decide (val_2.1.1 < nI [1,40,999999000].length) then ((Aa val_2.2.1 3).bind fun val=>some ((val.1,()),val.2,())).bind fun val_3=>bif decide (0≤val_3.1.1) then bif decide (val_3.1.1 < nI [1,9,60000].length) then some ((([1,2,7,1000000000].getD (Int.toNat val.1.1) 0,val_1.1.1,[1,40,999999000].getD (Int.toNat val_2.1.1) 0,[1,9,60000].getD (Int.toNat val_3.1.1) 0,()),()),val_3.2) else none else none else none else none else none else none
theorem Aac:∃ f,f=@Ol:=⟨_,rfl⟩
def Mq:=Classical.choose Aac
theorem Aad:@Mq=@Ol:=Classical.choose_spec Aac
def Aae:SD:=⟨Aqc,fun x=>Mq x.1⟩
def RtD (x:Rt):Prop:=(1≤x.1∧x.1≤1000000000)∧(0≤x.2.1∧x.2.1≤1)∧(1≤x.2.2.1∧x.2.2.1≤999999000)∧(1≤x.2.2.2.1∧x.2.2.2.1≤60000)
theorem A3x {k:Nat} {r:Rd} (h:Pl k r) (hk:k + 10 < 1099511627776):Ao (Mq r) fun q=>RtD q.1.1∧Pl (k + 4) q.2.1:=by
 rw [Aad]
 unfold Ol
 refine Av h (by omega) (by omega) fun a r1 a0 a1 h1=>?_
 refine Ao.go (Ag a0) (Ao.go (Ag a1) ?_)
 refine Av h1 (by omega) (by omega) fun b r2 b0 b1 h2=>?_
 refine Av h2 (by omega) (by omega) fun c r3 c0 c1 h3=>?_
 refine Ao.go (Ag c0) (Ao.go (Ag c1) ?_)
 refine Av h3 (by omega) (by omega) fun d r4 d0 d1 h4=>?_
 refine Ao.go (Ag d0) (Ao.go (Ag d1) (Ao.some ⟨⟨?_,?_,?_,?_⟩,h4⟩))
 ·exact W3 (Q:=fun x:Int=>1≤x∧x≤1000000000) (by decide) a0 a1
 ·exact ⟨b0,by show b≤1; omega⟩
 ·exact W3 (Q:=fun x:Int=>1≤x∧x≤999999000) (by decide) c0 c1
 ·exact W3 (Q:=fun x:Int=>1≤x∧x≤60000) (by decide) d0 d1
theorem Aqd:Cg Try.prog 51 Aae:=
 Ba (pat:=Eo) [] Jo (A9 (l:=[(42,Br)]) ⟨B5,trivial⟩) trivial Try.func51 (de:=fun x=>Ol x.1) (fun x r h=>by have q:Mq x.1=some r:=h; rw [Aad] at q; exact q) fun _=>by kernel_rfl
def Acs:H6:=⟨[.bx 116 (.pair (.sl (.int .u8)) (.pair tI .unit))],[none],[.rd tI],[none]⟩
def Jk (a0:(List Int)×Int×Unit):Option ((((Int)×Unit)×(((List Int)×Int×Unit)×Unit))):=
 ((Aa a0 6).bind fun val=>some ((val.1,()),val.2,())).bind fun val=>bif decide (0≤val.1.1) then bif decide (val.1.1 < nI [8,8,4,2,1,1].length) then some (([8,8,4,2,1,1].getD (Int.toNat val.1.1) 0,()),val.2) else none else none
theorem R5:∃ f,f=@Jk:=⟨_,rfl⟩
def Fo:=Classical.choose R5
theorem R6:@Fo=@Jk:=Classical.choose_spec R5
def Ml:SD:=⟨Acs,fun x=>Fo x.1⟩
theorem Aye {k:Nat} {r:Rd} (h:Pl k r) (hk:k < 1099511627776):Ao (Fo r) fun q=>(1≤q.1.1∧q.1.1≤8)∧Pl (k + 1) q.2.1:=by
 rw [R6]
 unfold Jk
 refine Av h hk (by omega) fun v r' v0 v1 h'=>?_
 refine Ao.go (Ag v0) (Ao.go (Ag v1) (Ao.some ⟨?_,h'⟩))
 exact W3 (Q:=fun x:Int=>1≤x∧x≤8) (by decide) v0 v1
theorem R7:Cg Try.prog 52 Ml:=
 Ba (pat:=Eo) [] Jo (A9 (l:=[(42,Br)]) ⟨B5,trivial⟩) trivial Try.func52 (de:=fun x=>Jk x.1) (fun x r h=>by have q:Fo x.1=some r:=h; rw [R6] at q; exact q) fun _=>by kernel_rfl
def Aaf:H6:=⟨[.rd (.sl (.int .u8))],[none],[.rd yRt,.rd tI],[some 4,none]⟩
def Iw (a0:List Int):Option (((Rt×(Int)×Unit)×(Unit))):=
 (K6 a0).bind fun val=>(Mq val.1.1).bind fun val=>(Fo val.2.1).bind fun val_1=>((Aa val_1.2.1 3).bind fun val=>some ((val.1,()),val.2,())).bind fun val_2=>bif val_2.1.1==0 then ((Aa val_2.2.1 5).bind fun val=>some ((val.1,()),val.2,())).bind fun val_3=>bif val_3.1.1==0 then ((Aa val_3.2.1 3).bind fun val=>some ((val.1,()),val.2,())).bind fun val_4=>bif decide (0≤val_4.1.1) then bif decide (val_4.1.1 < nI [0,-1,1000000001].length) then some ((([0,-1,1000000001].getD (Int.toNat val_4.1.1) 0,val.1.1.2),val_1.1),()) else none else none else bif val_3.1.1==1 then ((Aa val_3.2.1 2).bind fun val=>some ((val.1,()),val.2,())).bind fun val_4=>bif decide (0≤val_4.1.1) then bif decide (val_4.1.1 < nI [-1,2].length) then some (((val.1.1.1,[-1,2].getD (Int.toNat val_4.1.1) 0,val.1.1.2.2),val_1.1),()) else none else none else bif val_3.1.1==2 then ((Aa val_3.2.1 2).bind fun val=>some ((val.1,()),val.2,())).bind fun val_4=>bif decide (0≤val_4.1.1) then bif decide (val_4.1.1 < nI [0,999999001].length) then some (((val.1.1.1,val.1.1.2.1,[0,999999001].getD (Int.toNat val_4.1.1) 0,val.1.1.2.2.2),val_1.1),()) else none else none else bif val_3.1.1==3 then ((Aa val_3.2.1 2).bind fun val=>some ((val.1,()),val.2,())).bind fun val_4=>bif decide (0≤val_4.1.1) then bif decide (val_4.1.1 < nI [0,60001].length) then some (((val.1.1.1,val.1.1.2.1,val.1.1.2.2.1,[0,60001].getD (Int.toNat val_4.1.1) 0,()),val_1.1),()) else none else none else ((Aa val_3.2.1 2).bind fun val=>some ((val.1,()),val.2,())).bind fun val_4=>bif decide (0≤val_4.1.1) then bif decide (val_4.1.1 < nI [0,9].length) then some ((val.1.1,[0,9].getD (Int.toNat val_4.1.1) 0,()),()) else none else none else some ((val.1.1,val_1.1),())
theorem Q1:∃ f,f=@Iw:=⟨_,rfl⟩
def Fc:=Classical.choose Q1
theorem Q2:@Fc=@Iw:=Classical.choose_spec Q1
def Lq:SD:=⟨Aaf,fun x=>Fc x.1⟩
def RtB (x:Rt):Prop:=(-10≤x.1∧x.1≤1000000010)∧(-10≤x.2.1∧x.2.1≤10)∧(-10≤x.2.2.1∧x.2.2.1≤1000000010)∧(-10≤x.2.2.2.1∧x.2.2.2.1≤60010)
theorem Alo (b:List Int) (h:R1 (.sl (.int .u8)) b):Ao (Fc b) fun q=>RtB q.1.1:=by
 rw [Q2]
 unfold Iw
 refine Ao.bind (A2b b h) fun q hq=>?_
 refine Ao.bind (A3x hq (by omega)) fun x hx=>?_
 obtain ⟨⟨⟨a0,a1⟩,⟨b0,b1⟩,⟨c0,c1⟩,d0,d1⟩,h0⟩:=hx
 refine Ao.bind (Aye h0 (by omega)) fun y hy=>?_
 obtain ⟨_,h1⟩:=hy
 have ok:RtB x.1.1:=⟨⟨by omega,by omega⟩,⟨by omega,by omega⟩,⟨by omega,by omega⟩,by omega,by omega⟩
 refine Av h1 (by omega) (by omega) fun v r2 v0 v1 h2=>?_
 refine Ao.cond (fun _=>?_) fun _=>Ao.some ok
 refine Av h2 (by omega) (by omega) fun u r3 u0 u1 h3=>?_
 refine Ao.cond (fun _=>?_) fun _=>Ao.cond (fun _=>?_) fun _=>Ao.cond (fun _=>?_) fun _=>Ao.cond (fun _=>?_) fun _=>?_
 ·refine Av h3 (by omega) (by omega) fun z r4 z0 z1 h4=>?_
  refine Ao.go (Ag z0) (Ao.go (Ag z1) (Ao.some ⟨?_,ok.2⟩))
  exact W3 (Q:=fun x:Int=>-10≤x∧x≤1000000010) (by decide) z0 z1
 ·refine Av h3 (by omega) (by omega) fun z r4 z0 z1 h4=>?_
  refine Ao.go (Ag z0) (Ao.go (Ag z1) (Ao.some ⟨ok.1,?_,ok.2.2⟩))
  exact W3 (Q:=fun x:Int=>-10≤x∧x≤10) (by decide) z0 z1
 ·refine Av h3 (by omega) (by omega) fun z r4 z0 z1 h4=>?_
  refine Ao.go (Ag z0) (Ao.go (Ag z1) (Ao.some ⟨ok.1,ok.2.1,?_,ok.2.2.2⟩))
  exact W3 (Q:=fun x:Int=>-10≤x∧x≤1000000010) (by decide) z0 z1
 ·refine Av h3 (by omega) (by omega) fun z r4 z0 z1 h4=>?_
  refine Ao.go (Ag z0) (Ao.go (Ag z1) (Ao.some ⟨ok.1,ok.2.1,ok.2.2.1,?_⟩))
  exact W3 (Q:=fun x:Int=>-10≤x∧x≤60010) (by decide) z0 z1
 ·refine Av h3 (by omega) (by omega) fun z r4 z0 z1 h4=>?_
  exact Ao.go (Ag z0) (Ao.go (Ag z1) (Ao.some ok))
theorem Q3:Cg Try.prog 23 Lq:=
 Ba (pat:=Eo) [] Jo (A9 (l:=[(39,Tr),(42,Br),(51,Aae),(52,Ml)]) ⟨Aab,B5,Aqd,R7,trivial⟩) trivial Try.func23 (de:=fun x=>Iw x.1) (fun x r h=>by have q:Fc x.1=some r:=h; rw [Q2] at q; exact q) fun _=>by kernel_rfl
def Jt (r:Rt):Bool:=Gt r
def Ag7:H6:=⟨[.rd yRt],[some 4],[.rd .bool],[none]⟩
def Om:SD:=⟨Ag7,fun x=>some (((Jt x.1),()),(()))⟩
def On (a0:Rt):Option ((((Bool)×Unit)×(Unit))):=
 bif D3 a0.2.1 0 1 then some ((D3 a0.2.2.1 1 999999000,()),()) else some ((false,()),())
theorem Ag8 (a0:Rt):On a0=some (((Jt a0),()),(())):=by
 unfold On Jt Gt
 show (bif Cj a0.2.1 0 1 then _ else _)=_
 cases Cj a0.2.1 0 1<;>rfl
theorem Vw:Cg Try.prog 53 Om:=
 Ba (pat:=Eo) [] Jo (A9 (l:=[(45,Ki)]) ⟨Lp,trivial⟩) trivial Try.func53 (de:=fun x=>On x.1) (fun x r h=>(Ag8 x.1).trans h) fun _=>by kernel_rfl
def Aju (v n:Int):Option Ab:=if 0≤n∧n≤1000 then some (C7 v n.toNat) else none
def Oo (v0 v6:Int) (r0:List Int):Nat:=v6.toNat + 2
def A0p:H6:=⟨[.rd tI,.rd tI],[none,none],[.rd .str],[none]⟩
def Zw:SD:=⟨A0p,fun x=>(Aju x.1 x.2.1).bind fun r=>some ((r,()),(()))⟩
def Aqe:Tb:=tb []
def P8:Nat→Dv×(Nat→Dv):=Jc [(4,⟨[.row 5 0 5 (.int .u8)],[(0,.lf (.d tI)),(5,.lf (.row 0)),(6,.lf (.d tI))],[.row 5 (.int .u8)]⟩,[(2,⟨[.row 5 0 5 (.int .u8)],[(5,.lf (.row 0))],[.row 5 (.int .u8)]⟩)])]
def Ag9:Code:=(Ax (Bs Try.f55)).getD 0 .skip
def Oq {R:Type}  (NX:((Int)×(Int)×(List Int)×Unit)→Option R) (X2:((List Int)×Unit)→Option R) (v0:Int) (v6:Int) (r0:List Int):Option R:=
 bif decide (v6≥0) then bif decide (0≤v6) then bif decide (v6 < nI r0.length) then bif decide (v6.toNat < r0.length) then NX (v0.fdiv (2 ^ min (Int.toNat 8) 64),IntKind.i64.wrap (v6 - 1),r0.set v6.toNat (IntKind.u8.wrap v0),()) else none else none else none else X2 (r0,())
def Kj:Nat→(Int)→(Int)→(List Int) →  Option ((List Int)×Unit)
 | 0,_,_,_=>none
 | m + 1,v0,v6,r0=>Oq  (fun d=>Kj m d.1 d.2.1 d.2.2.1) (fun d=>some (d)) v0 v6 r0
def Avu (d:(Int)×(Int)×(List Int)×Unit):Option ((List Int)×Unit):=(Ad (Ad (Ad Aj))) (Kj ((Ad (Ad (Ad Aj))) Oo d)) d
def Ae3 (a0 a1:Int):Option ((((Ab)×Unit)×(Unit))):=
 bif decide (a1=a1) then bif decide (0≤a1) then bif decide (a1.toNat * 1≤140737488355328) then ((fun d=>Kj (Oo d.1 d.2.1 d.2.2.1) d.1 d.2.1 d.2.2.1) (a0,IntKind.i64.wrap (a1 - 1),List.replicate a1.toNat 0,())).bind fun val=>some ((strOfNums val.1,()),()) else none else none else none
theorem A2e:∀ (k m:Nat) (v:Int) (l t:List Int),l.length=k→k≤1000→k < m→Kj m v ((k:Int) - 1) (l++t)=some (Mj v k++t,())
 | 0,m + 1,v,l,t,hl,hk,hm=>by
  obtain rfl:l=[]:=List.length_eq_zero_iff.1 hl
  simp only [Kj,Oq]
  rw [Bi (by omega)]
  rfl
 | k + 1,m + 1,v,l,t,hl,hk,hm=>by
  have e:(((k + 1:Nat):Int) - 1)=(k:Int):=by omega
  rw [e]
  simp only [Kj,Oq]
  have hlen:(l++t).length=k + 1 + t.length:=by rw [Ey,hl]
  rw [Ag (show (k:Int)≥0 by omega),Ag (show (k:Int) < nI (l++t).length by simp only [nI,hlen]; omega),Ag (show Int.toNat (k:Int) < (l++t).length by rw [hlen]; omega),Al (by omega) (by omega)]
  simp only [cond_true,Kx]
  obtain ⟨l',x,rfl⟩:∃ l' x,l=l'++[x]:=⟨l.dropLast,l.getLast (by intro h; subst h; simp at hl),(List.dropLast_concat_getLast _).symm⟩
  have hl':l'.length=k:=by simpa using hl
  have hs:((l'++[x])++t).set k (IntKind.wrap IntKind.u8 v)=l'++(v % 256::t):=by
   rw [List.append_assoc,List.set_append_right _ _ (by omega),hl']
   simp only [Nat.sub_self,List.singleton_append,List.set_cons_zero]
   rfl
  rw [hs]
  have:=A2e k m (v / 256) l' (v % 256::t) hl' (by omega) (by omega)
  have e2:Int.fdiv v (2 ^ min (Int.toNat 8) 64)=v / 256:=by
   show Int.fdiv v 256=v / 256
   exact Int.fdiv_eq_ediv_of_nonneg _ (by omega)
  rw [e2,this]
  simp only [Mj,List.append_assoc,List.singleton_append]
theorem A0q (a0 a1:Int) r (h:Aju a0 a1=some r):Ae3 a0 a1=some ((r,()),(())):=by
 unfold Aju at h
 split at h
 ·rename_i hc
  cases h
  obtain ⟨n,rfl⟩:∃ n:Nat,a1=(n:Int):=⟨a1.toNat,by omega⟩
  unfold Ae3
  rw [Ag rfl,Ag hc.1,Ag (show Int.toNat (n:Int) * 1≤140737488355328 by omega),Al (by omega) (by omega)]
  have hL:=A2e n (Oo a0 ((n:Int) - 1) (List.replicate n 0)) a0 (List.replicate n 0) [] (by simp) (by omega) (by simp only [Oo]; omega)
  rw [List.append_nil,List.append_nil] at hL
  exact bi_ hL rfl
 ·cases h
def Aha {R:Type} (k:Kt R):=(N3 (P8 4) (.exit 0) 2 k)
def Aug {R:Type}:Lt R P8:=(G3 (pat:=P8) 4 (fun d k=>(Avu d).bind (Aha k)) Jo)
theorem Aqf:A4 Try.prog Aqe:=A9 trivial
theorem Avv {R:Type}:Bg Try.prog R 24 0 P8 Aug Ag9:=
 C8 (cfg:=⟨Aqe,0,24,P8⟩) 4 [] (fun NX X d=>(Ad (Ad (Ad Aj))) (Oq  NX X) d) (fun m d=>(Ad (Ad (Ad Aj))) (Kj m) d) (fun d=>(Ad (Ad (Ad Aj))) Oo d) Aha Aqf trivial (fun f NX d=>by simp only [u4,Ad,Aj]; unfold Oq; simp only [nb])
theorem Ae4:Cg Try.prog 55 Zw:=
 Ba (pat:=P8) [Ag9] Aug Aqf ⟨Avv,trivial⟩ Try.func55 (de:=fun x=>Ae3 x.1 x.2.1) (fun x r h=>Gd (A0q x.1 x.2.1) h) fun _=>by kernel_rfl
def Ahb:H6:=⟨[.rd .str,.rd (.int .i64)],[none,none],[.rd .str],[none]⟩
def Lc:SD:=⟨Ahb,fun x=>(W0 x.1 x.2.1).bind fun r=>some ((r,()),())⟩
theorem Vx:Ky Try.prog 64∧q9 Try.prog 64 Lc.sg Lc.den:=⟨⟨_,Try.func64,by kernel_rfl,by kernel_rfl⟩,A5s⟩
def Avw:H6:=⟨[.rd tI],[none],[.rd tI],[none]⟩
def Ahc (a0:Int):Option ((((Int)×Unit)×(Unit))):=
 some ((IntKind.i64.wrap (IntKind.i64.wrap (64 - a0) - 8),()),())
def Zx:SD:=⟨Avw,fun x=>Ahc x.1⟩
theorem Ahd:Cg Try.prog 83 Zx:=
 Ba (pat:=Eo) [] Jo (A9 (l:=[]) trivial) trivial Try.func83 (de:=fun x=>Ahc x.1) (fun x r h=>h) fun _=>by kernel_rfl
def L9 (p:Pg) (w:Int):Bool:=Ec p w
def Ahe:H6:=⟨[.rd yPg,.rd tI],[some 4,none],[.rd .bool],[none]⟩
def Vy:SD:=⟨Ahe,fun x=>some (((L9 x.1 x.2.1),()),(()))⟩
def Ot (a0:Pg) (a1:Int):Option ((((Bool)×Unit)×(Unit))):=
 bif D3 a1 1 8 then bif D3 a0.1 1 4 then bif D3 a0.2.1 1 60000 then bif D3 a0.2.2.1 1 1000000000 then bif decide (nI (ByteArray.size a0.2.2.2.1)≤IntKind.i64.wrap (IntKind.i64.wrap (64 - a1) - 8)) then bif a0.1 != 3 then some ((true,()),()) else some ((ByteArray.toList a0.2.2.2.1==(Af).toList,()),()) else some ((false,()),()) else some ((false,()),()) else some ((false,()),()) else some ((false,()),()) else some ((false,()),())
theorem Ahf (a0:Pg) (a1:Int):Ot a0 a1=some (((L9 a0 a1),()),(())):=by
 unfold Ot L9 Ec
 have tl:ByteArray.toList (Af)=[]:=by decide +kernel
 rw [tl]
 show (bif Cj a1 1 8 then (bif Cj a0.1 1 4 then (bif Cj a0.2.1 1 60000 then (bif Cj a0.2.2.1 1 1000000000 then _ else _) else _) else _) else _)=_
 cases hw:Cj a1 1 8 with
 | false=>rfl
 | true=>
  have k1:=Fw (Ch hw).1
  have k2:=Fw (Ch hw).2
  rw [Al (n:=64 - a1) (by omega) (by omega),Al (by omega) (by omega),show 64 - a1 - 8=56 - a1 by omega]
  cases Cj a0.1 1 4<;>cases Cj a0.2.1 1 60000<;>cases Cj a0.2.2.1 1 1000000000<;>try rfl
  show (bif decide ((ByteArray.size a0.2.2.2.1:Int)≤56 - a1) then _ else _)=_
  cases decide ((ByteArray.size a0.2.2.2.1:Int)≤56 - a1)<;>cases (a0.1 != 3)<;>rfl
theorem Ahg:Cg Try.prog 74 Vy:=
 Ba (pat:=Eo) [] Jo (A9 (l:=[(45,Ki),(83,Zx)]) ⟨Lp,Ahd,trivial⟩) trivial Try.func74 (de:=fun x=>Ot x.1 x.2.1) (fun x r h=>(Ahf x.1 x.2.1).trans h) fun _=>by kernel_rfl
def P9 (s:Ab) (w:Int):Option Ab:=if s.size < 4611686018427387904 then some (Ags s w) else none
def Mr (v0:Ab) (v1 v5 v6:Int):Nat:=(nI v0.size - v6).toNat + 1
def Ayf:H6:=⟨[.rd .str,.rd tI],[none,none],[.rd .str],[none]⟩
def Alp:SD:=⟨Ayf,fun x=>(P9 x.1 x.2.1).bind fun r=>some ((r,()),(()))⟩
def Alq:Tb:=tb [(45,Ki),(55,Zw)]
def Nz:Nat→Dv×(Nat→Dv):=Jc [(6,⟨[],[(0,.lf (.d .str)),(1,.lf (.d tI)),(5,.lf (.d (.int .u64))),(6,.lf (.d tI))],[]⟩,[(2,⟨[],[(1,.lf (.d tI)),(5,.lf (.d (.int .u64)))],[]⟩)])]
def Adg:Code:=(Ax (Bs Try.f75)).getD 0 .skip
def Ms {R:Type}  (NX:((Ab)×(Int)×(Int)×(Int)×Unit)→Option R) (X2:((Int)×(Int)×Unit)→Option R) (v0:Ab) (v1:Int) (v5:Int) (v6:Int):Option R:=
 bif decide (v6 < nI v0.size) then bif decide (0≤v6) then bif decide (v6 < nI v0.size) then NX (v0,v1,IntKind.u64.wrap (IntKind.u64.wrap (nI (BitVec.ofInt 64 v5 ^^^ BitVec.ofInt 64 (IntKind.u64.wrap (Am v0 v6))).toNat) * 1099511628211),IntKind.i64.wrap (v6 + 1),()) else none else none else X2 (v1,v5,())
def Fz:Nat→(Ab)→(Int)→(Int)→(Int) →  Option ((Int)×(Int)×Unit)
 | 0,_,_,_,_=>none
 | m + 1,v0,v1,v5,v6=>Ms  (fun d=>Fz m d.1 d.2.1 d.2.2.1 d.2.2.2.1) (fun d=>some (d)) v0 v1 v5 v6
def Ar6 (d:(Ab)×(Int)×(Int)×(Int)×Unit):Option ((Int)×(Int)×Unit):=(u4 Aj) (Fz ((u4 Aj) Mr d)) d
def Aag (a0:Ab) (a1:Int):Option ((((Ab)×Unit)×(Unit))):=
 bif !D3 a1 1 8 then some ((Af,()),()) else ((fun d=>Fz (Mr d.1 d.2.1 d.2.2.1 d.2.2.2.1) d.1 d.2.1 d.2.2.1 d.2.2.2.1) (a0,a1,14695981039346656037,0,())).bind fun val=>bif decide (0≤IntKind.i64.wrap (8 - val.1)) then bif decide (IntKind.i64.wrap (8 - val.1)≤nI (C7 (IntKind.i64.wrap val.2.1) (Int.toNat 8)).size) then some ((Ae (C7 (IntKind.i64.wrap val.2.1) (Int.toNat 8)) (IntKind.i64.wrap (8 - val.1)) (nI (C7 (IntKind.i64.wrap val.2.1) (Int.toNat 8)).size),()),()) else none else none
theorem Ayg (a0:Ab) (a1:Int) r (h:P9 a0 a1=some r):Aag a0 a1=some ((r,()),(())):=by
 unfold P9 at h
 split at h
 rotate_left
 ·cases h
 rename_i hsz
 cases h
 unfold Aag Ags
 generalize hC:(14695981039346656037:Int)=C
 have h0:U64 C:=by rw [← hC]; exact ⟨by decide,by decide⟩
 show (bif !Cj a1 1 8 then _ else _)=_
 cases hw:Cj a1 1 8 with
 | false=>rfl
 | true=>
  have k1:=Fw (Ch hw).1
  have k2:=Fw (Ch hw).2
  ·simp only [Bool.not_true,cond_false,cond_true]
   have hL:=Agu a0.size (fun _ _=>True) (fun i h=>x7 h (Am a0 i)) (g:=fun m i h=>Fz m a0 a1 h i) (ok:=fun h=>(a1,h,())) (fun m i h hi _=>by
    show Fz (m + 1) a0 a1 h i=_
    simp only [Fz,Ms]
    have c1:(i:Int) < nI a0.size:=by simp only [nI]; omega
    rw [Ag c1,Nd,wI (show i < 4611686018427387904 by omega)]
    rfl) (fun m h _=>by
    show Fz (m + 1) a0 a1 h a0.size=_
    simp only [Fz,Ms]
    rw [Bi (show ¬ ((a0.size:Int) < nI a0.size) by simp only [nI]; omega)]
    rfl) (fun _ _ _ _=>trivial) a0.size (Mr a0 a1 C 0) 0 C (by omega) (by simp only [Mr,nI]; omega) trivial
   rw [show ((0:Nat):Int)=0 from rfl] at hL
   refine bi_ hL ?_
   have e1:IntKind.i64.wrap (8 - a1)=8 - a1:=Al (by omega) (by omega)
   have hh:=A1o a0 a0.size 0 h0
   have eH:iter (fun i h=>x7 h (Am a0 i)) a0.size 0 C=Ajd a0 a0.size 0 C:=rfl
   rw [eH]
   generalize Ajd a0 a0.size 0 C=H at hh ⊢
   show (bif decide (0≤IntKind.i64.wrap (8 - a1)) then (bif decide (IntKind.i64.wrap (8 - a1)≤nI (ByteArray.size (C7 (IntKind.i64.wrap H) (Int.toNat 8)))) then some ((Ae (C7 (IntKind.i64.wrap H) (Int.toNat 8)) (IntKind.i64.wrap (8 - a1)) (nI (ByteArray.size (C7 (IntKind.i64.wrap H) (Int.toNat 8)))),()),()) else none) else none)=some ((C7 H a1.toNat,()),())
   rw [e1,A7m hh k1 k2,Ag (show 0≤8 - a1 by omega),Ag (show 8 - a1≤nI (ByteArray.size (C7 (IntKind.i64.wrap H) (Int.toNat 8))) by rw [It]; simp [nI]; omega)]
   rfl
def Adh {R:Type} (k:Kt R):=(N3 (Nz 6) (.exit 0) 2 k)
def Aqg {R:Type}:Lt R Nz:=(G3 (pat:=Nz) 6 (fun d k=>(Ar6 d).bind (Adh k)) Jo)
theorem Alr:A4 Try.prog Alq:=A9 ⟨Lp,Ae4,trivial⟩
theorem Ar7 {R:Type}:Bg Try.prog R 29 0 Nz Aqg Adg:=
 C8 (cfg:=⟨Alq,0,29,Nz⟩) 6 [] (fun NX X d=>(u4 Aj) (Ms  NX X) d) (fun m d=>(u4 Aj) (Fz m) d) (fun d=>(u4 Aj) Mr d) Adh Alr trivial (fun f NX d=>by simp only [u4,Ad,Aj]; unfold Ms; simp only [nb])
theorem Ayh:Cg Try.prog 75 Alp:=
 Ba (pat:=Nz) [Adg] Aqg Alr ⟨Ar7,trivial⟩ Try.func75 (de:=fun x=>Aag x.1 x.2.1) (fun x r h=>Gd (Ayg x.1 x.2.1) h) fun _=>by kernel_rfl
def K1 (p:Pg) (w:Int):Ab:=Cr p w
def Ajv:H6:=⟨[.rd yPg,.rd tI],[some 4,none],[.rd .str],[none]⟩
def Qa:SD:=⟨Ajv,fun x=>some (((K1 x.1 x.2.1),()),(()))⟩
def Qb (a0:Pg) (a1:Int):Option ((((Ab)×Unit)×(Unit))):=
 bif !L9 a0 a1 then some ((Af,()),()) else bif decide ((C7 a0.1 (Int.toNat 1)++C7 a0.2.1 (Int.toNat 2)++C7 a0.2.2.1 (Int.toNat 4)++C7 (nI (ByteArray.size a0.2.2.2.1)) (Int.toNat 1)).size + ByteArray.size a0.2.2.2.1≤9223372036854775807) then ((W0 (ByteArray.mk #[0]) (IntKind.i64.wrap (IntKind.i64.wrap (64 - a1) - nI (C7 a0.1 (Int.toNat 1)++C7 a0.2.1 (Int.toNat 2)++C7 a0.2.2.1 (Int.toNat 4)++C7 (nI (ByteArray.size a0.2.2.2.1)) (Int.toNat 1)++a0.2.2.2.1).size))).bind fun val=>some ((val,()),())).bind fun val=>bif decide ((C7 a0.1 (Int.toNat 1)++C7 a0.2.1 (Int.toNat 2)++C7 a0.2.2.1 (Int.toNat 4)++C7 (nI (ByteArray.size a0.2.2.2.1)) (Int.toNat 1)++a0.2.2.2.1).size + ByteArray.size val.1.1≤9223372036854775807) then ((P9 (C7 a0.1 (Int.toNat 1)++C7 a0.2.1 (Int.toNat 2)++C7 a0.2.2.1 (Int.toNat 4)++C7 (nI (ByteArray.size a0.2.2.2.1)) (Int.toNat 1)++a0.2.2.2.1++val.1.1) a1).bind fun val=>some ((val,()),())).bind fun val_1=>bif decide (ByteArray.size val_1.1.1 + (C7 a0.1 (Int.toNat 1)++C7 a0.2.1 (Int.toNat 2)++C7 a0.2.2.1 (Int.toNat 4)++C7 (nI (ByteArray.size a0.2.2.2.1)) (Int.toNat 1)++a0.2.2.2.1++val.1.1).size≤9223372036854775807) then some ((val_1.1.1++(C7 a0.1 (Int.toNat 1)++C7 a0.2.1 (Int.toNat 2)++C7 a0.2.2.1 (Int.toNat 4)++C7 (nI (ByteArray.size a0.2.2.2.1)) (Int.toNat 1)++a0.2.2.2.1++val.1.1),()),()) else none else none else none
theorem Ajw (a0:Pg) (a1:Int):Qb a0 a1=some (((K1 a0 a1),()),(())):=by
 unfold Qb K1 Cr
 show (bif !Ec a0 a1 then _ else _)=_
 cases hp:Ec a0 a1 with
 | false=>rfl
 | true=>
  obtain ⟨hw,k1,k2,kp⟩:=Tg hp
  simp only [Bool.not_true,cond_false,cond_true]
  have hb:Ge a0 a1=C7 a0.1 1++C7 a0.2.1 2++C7 a0.2.2.1 4++C7 (nI a0.2.2.2.1.size) 1++a0.2.2.2.1++strOfNums (List.replicate (56 - a1 - a0.2.2.2.1.size).toNat 0):=rfl
  have hs4:(C7 a0.1 1++C7 a0.2.1 2++C7 a0.2.2.1 4++C7 (nI a0.2.2.2.1.size) 1).size=8:=by simp only [ByteArray.size_append,It]
  have hs5:(C7 a0.1 1++C7 a0.2.1 2++C7 a0.2.2.1 4++C7 (nI a0.2.2.2.1.size) 1++a0.2.2.2.1).size=8 + a0.2.2.2.1.size:=by rw [ByteArray.size_append,hs4]
  show (bif decide ((C7 a0.1 1++C7 a0.2.1 2++C7 a0.2.2.1 4++C7 (nI a0.2.2.2.1.size) 1).size + a0.2.2.2.1.size≤9223372036854775807) then Option.bind (Option.bind (W0 (ByteArray.mk #[0]) (IntKind.i64.wrap (IntKind.i64.wrap (64 - a1) - nI (C7 a0.1 1++C7 a0.2.1 2++C7 a0.2.2.1 4++C7 (nI a0.2.2.2.1.size) 1++a0.2.2.2.1).size))) _) _ else none)=_
  generalize hB:C7 a0.1 1++C7 a0.2.1 2++C7 a0.2.2.1 4++C7 (nI a0.2.2.2.1.size) 1++a0.2.2.2.1=B at *
  rw [hs4,Ag (by omega),Al (n:=64 - a1) (by omega) (by omega),hs5,Al (by simp only [nI]; omega) (by simp only [nI]; omega)]
  have hr:W0 (ByteArray.mk #[0]) (64 - a1 - nI (8 + a0.2.2.2.1.size))=some (strOfNums (List.replicate (56 - a1 - a0.2.2.2.1.size).toNat 0)):=by
   have:=Ba0 (56 - a1 - a0.2.2.2.1.size).toNat (by omega)
   rw [show ((56 - a1 - a0.2.2.2.1.size).toNat:Int)=64 - a1 - nI (8 + a0.2.2.2.1.size) by simp only [nI]; omega] at this
   exact this
  have hz:(strOfNums (List.replicate (56 - a1 - a0.2.2.2.1.size).toNat 0)).size=(56 - a1 - a0.2.2.2.1.size).toNat:=by rw [Cp,List.length_replicate]
  generalize strOfNums (List.replicate (56 - a1 - a0.2.2.2.1.size).toNat 0)=Z at *
  refine bi_ (bi_ hr rfl) ?_
  have hbs:(Ge a0 a1).size≤64:=by rw [hb,ByteArray.size_append,hs5,hz]; omega
  dsimp only
  have hB':C7 a0.1 (Int.toNat 1)++C7 a0.2.1 (Int.toNat 2)++C7 a0.2.2.1 (Int.toNat 4)++C7 (nI a0.2.2.2.1.size) (Int.toNat 1)++a0.2.2.2.1=B:=hB
  rw [hB']
  show (bif decide (ByteArray.size B + ByteArray.size Z≤9223372036854775807) then Option.bind (Option.bind (P9 (B++Z) a1) _) _ else none)=_
  have hm:P9 (B++Z) a1=some (Ags (Ge a0 a1) a1):=by
   rw [← hb]
   exact if_pos (by omega)
  rw [hs5,hz,Ag (by omega)]
  refine bi_ (bi_ hm rfl) ?_
  show (bif decide (ByteArray.size (Ags (Ge a0 a1) a1) + ByteArray.size (B++Z)≤9223372036854775807) then some ((Ags (Ge a0 a1) a1++(B++Z),()),()) else none)=_
  rw [← hb,Xq hw,Ag (by omega)]
  rfl
theorem X0:Cg Try.prog 54 Qa:=
 Ba (pat:=Eo) [] Jo (A9 (l:=[(55,Zw),(64,Lc),(74,Vy),(75,Alp)]) ⟨Ae4,Vx,Ahg,Ayh,trivial⟩) trivial Try.func54 (de:=fun x=>Qb x.1 x.2.1) (fun x r h=>(Ajw x.1 x.2.1).trans h) fun _=>by kernel_rfl
def Cl (r:Rt) (w:Int):Ab:=Cv r w
def Ajx:H6:=⟨[.rd yRt,.rd tI],[some 4,none],[.rd .str],[none]⟩
def X6:SD:=⟨Ajx,fun x=>some (((Cl x.1 x.2.1),()),(()))⟩
def Qc (a0:Rt) (a1:Int):Option ((((Ab)×Unit)×(Unit))):=
 bif !Jt a0 then some ((Af,()),()) else some ((K1 (4,a0.2.2.2.1,a0.1,C7 a0.2.1 (Int.toNat 1)++C7 a0.2.2.1 (Int.toNat 4),()) a1,()),())
theorem Ajy (a0:Rt) (a1:Int):Qc a0 a1=some (((Cl a0 a1),()),(())):=by
 unfold Qc Cl Cv
 show (bif !Gt a0 then _ else _)=_
 cases Gt a0<;>rfl
theorem Ajz:Cg Try.prog 24 X6:=
 Ba (pat:=Eo) [] Jo (A9 (l:=[(53,Om),(54,Qa),(55,Zw)]) ⟨Vw,X0,Ae4,trivial⟩) trivial Try.func24 (de:=fun x=>Qc x.1 x.2.1) (fun x r h=>(Ajy x.1 x.2.1).trans h) fun _=>by kernel_rfl
theorem X7:∃ f:Int→Int→Option Ab,f=fun v n=>if 0≤v∧v < 9223372036854775808∧0≤n∧n≤1000 then some (C7 v n.toNat) else none:=⟨_,rfl⟩
def Bk (v n:Int):Option Ab:=Classical.choose X7 v n
theorem Fp (v n:Int):Bk v n=if 0≤v∧v < 9223372036854775808∧0≤n∧n≤1000 then some (C7 v n.toNat) else none:=by
 unfold Bk
 rw [Classical.choose_spec X7]
def Ho (v0 v1:Int) (v5:Ab) (v6:Int):Nat:=(v1 - v6).toNat + 1
def Aj0:H6:=⟨[.rd tI,.rd tI],[none,none],[.rd .str],[none]⟩
def Qd:SD:=⟨Aj0,fun x=>(Bk x.1 x.2.1).bind fun r=>some ((r,()),(()))⟩
def X8:Tb:=tb []
def G8:Nat→Dv×(Nat→Dv):=Jc [(4,⟨[],[(0,.lf (.d tI)),(1,.lf (.d tI)),(5,.lf (.d .str)),(6,.lf (.d tI))],[]⟩,[(2,⟨[],[(5,.lf (.d .str))],[]⟩)])]
def Tt:Code:=(Ax (Bs Try.f57)).getD 0 .skip
def Hp {R:Type}  (NX:((Int)×(Int)×(Ab)×(Int)×Unit)→Option R) (X2:((Ab)×Unit)→Option R) (v0:Int) (v1:Int) (v5:Ab) (v6:Int):Option R:=
 bif decide (v6 < v1) then bif decide ((strOfNums [IntKind.u8.wrap (v0.tmod 256)]).size + v5.size≤9223372036854775807) then NX (IntKind.i64.wrap (v0.tdiv 256),v1,strOfNums [IntKind.u8.wrap (v0.tmod 256)]++v5,IntKind.i64.wrap (v6 + 1),()) else none else X2 (v5,())
def Ed:Nat→(Int)→(Int)→(Ab)→(Int) →  Option ((Ab)×Unit)
 | 0,_,_,_,_=>none
 | m + 1,v0,v1,v5,v6=>Hp  (fun d=>Ed m d.1 d.2.1 d.2.2.1 d.2.2.2.1) (fun d=>some (d)) v0 v1 v5 v6
def Ae5 (d:(Int)×(Int)×(Ab)×(Int)×Unit):Option ((Ab)×Unit):=(u4 Aj) (Ed ((u4 Aj) Ho d)) d
def Qe (a0 a1:Int):Option ((((Ab)×Unit)×(Unit))):=
 ((fun d=>Ed (Ho d.1 d.2.1 d.2.2.1 d.2.2.2.1) d.1 d.2.1 d.2.2.1 d.2.2.2.1) (a0,a1,Af,0,())).bind fun val=>some (val,())
theorem Adi:∀ (k m i:Nat) (v:Int) (out:Ab),i + k≤1000→k < m→out.size=i→0≤v→v < 9223372036854775808→Ed m v ((i + k:Nat):Int) out i=some (C7 v k++out,())
 | 0,m + 1,i,v,out,hi,hm,ho,h0,h1=>by
  simp only [Ed,Hp]
  rw [Bi (by omega),Axp]
  rfl
 | k + 1,m + 1,i,v,out,hi,hm,ho,h0,h1=>by
  simp only [Ed,Hp]
  have e1:IntKind.wrap IntKind.u8 (Int.tmod v 256)=v % 256:=by
   rw [Int.tmod_eq_emod_of_nonneg h0]
   show v % 256 % 256=v % 256
   omega
  have e2:IntKind.i64.wrap (Int.tdiv v 256)=v / 256:=by
   rw [Int.tdiv_eq_ediv_of_nonneg h0]
   exact Al (by omega) (by omega)
  rw [Ag (show (i:Int) < ((i + (k + 1):Nat):Int) by omega),e1,e2,Ag (show ByteArray.size (strOfNums [v % 256]) + ByteArray.size out≤9223372036854775807 by rw [ho,Cp]; simp; omega),wI (show i < 4611686018427387904 by omega)]
  have hL:=Adi k m (i + 1) (v / 256) (strOfNums [v % 256]++out) (by omega) (by omega) (by rw [ByteArray.size_append,ho,Cp]; simp; omega) (by omega) (by omega)
  rw [show i + 1 + k=i + (k + 1) by omega] at hL
  refine hL.trans ?_
  rw [← ByteArray.append_assoc,← Axq]
theorem Aj1 (a0 a1:Int) r (h:Bk a0 a1=some r):Qe a0 a1=some ((r,()),(())):=by
 rw [Fp] at h
 split at h
 ·rename_i hc
  cases h
  obtain ⟨n,rfl⟩:∃ n:Nat,a1=(n:Int):=⟨a1.toNat,by omega⟩
  unfold Qe
  have hL:=Adi n (Ho a0 n (Af) 0) 0 a0 (Af) (by omega) (by simp only [Ho]; omega) rfl hc.1 hc.2.1
  rw [Nat.zero_add] at hL
  rw [A5m] at hL
  exact bi_ hL rfl
 ·cases h
def Tu {R:Type} (k:Kt R):=(N3 (G8 4) (.exit 0) 2 k)
def b5 {R:Type}:Lt R G8:=(G3 (pat:=G8) 4 (fun d k=>(Ae5 d).bind (Tu k)) Jo)
theorem X9:A4 Try.prog X8:=A9 trivial
theorem Ae6 {R:Type}:Bg Try.prog R 22 0 G8 b5 Tt:=
 C8 (cfg:=⟨X8,0,22,G8⟩) 4 [] (fun NX X d=>(u4 Aj) (Hp  NX X) d) (fun m d=>(u4 Aj) (Ed m) d) (fun d=>(u4 Aj) Ho d) Tu X9 trivial (fun f NX d=>by simp only [u4,Ad,Aj]; unfold Hp; simp only [nb])
theorem Ya:Cg Try.prog 57 Qd:=
 Ba (pat:=G8) [Tt] b5 X9 ⟨Ae6,trivial⟩ Try.func57 (de:=fun x=>Qe x.1 x.2.1) (fun x r h=>Gd (Aj1 x.1 x.2.1) h) fun _=>by kernel_rfl
def Amf:H6:=⟨[.rd tI],[none],[.rd .bool],[none]⟩
def B0 (a0:Int):Option ((((Bool)×Unit)×(Unit))):=
 bif decide (a0≥1) then some ((decide (a0≤8),()),()) else some ((false,()),())
def C0:SD:=⟨Amf,fun x=>B0 x.1⟩
theorem Dn:Cg Try.prog 62 C0:=
 Ba (pat:=Eo) [] Jo (A9 (l:=[]) trivial) trivial Try.func62 (de:=fun x=>B0 x.1) (fun x r h=>h) fun _=>by kernel_rfl
def Aqh:H6:=⟨[.rd tI],[none],[.rd tI],[none]⟩
def Aah (a0:Int):Option ((((Int)×Unit)×(Unit))):=
 some ((IntKind.i64.wrap (IntKind.i64.wrap (64 - a0) - 8),()),())
def Ou:SD:=⟨Aqh,fun x=>Aah x.1⟩
theorem Tv:Cg Try.prog 92 Ou:=
 Ba (pat:=Eo) [] Jo (A9 (l:=[]) trivial) trivial Try.func92 (de:=fun x=>Aah x.1) (fun x r h=>h) fun _=>by kernel_rfl
def Vz (p:Pg) (w:Int):Bool:=Ec p w
def Avx:H6:=⟨[.rd yPg,.rd tI],[some 4,none],[.rd .bool],[none]⟩
def Ahh:SD:=⟨Avx,fun x=>some (((Vz x.1 x.2.1),()),(()))⟩
def Zy (a0:Pg) (a1:Int):Option ((((Bool)×Unit)×(Unit))):=
 (B0 a1).bind fun val=>bif !val.1.1 then some ((false,()),()) else bif decide (a0.1 < 1) then some ((false,()),()) else bif decide (a0.1 > 4) then some ((false,()),()) else bif decide (a0.2.1 < 1) then some ((false,()),()) else bif decide (a0.2.1 > 60000) then some ((false,()),()) else bif decide (a0.2.2.1 < 1) then some ((false,()),()) else bif decide (a0.2.2.1 > 1000000000) then some ((false,()),()) else bif decide (nI (ByteArray.size a0.2.2.2.1)≤IntKind.i64.wrap (IntKind.i64.wrap (64 - a1) - 8)) then bif a0.1 != 3 then some ((true,()),()) else some ((ByteArray.toList a0.2.2.2.1==(Af).toList,()),()) else some ((false,()),())
theorem Avy (a0:Pg) (a1:Int):Zy a0 a1=some (((Vz a0 a1),()),(())):=by
 unfold Zy Vz Ec
 have tl:ByteArray.toList (Af)=[]:=by decide +kernel
 rw [tl]
 refine bi_ (wid a1) ?_
 show (bif !Cj a1 1 8 then _ else _)=_
 cases hw:Cj a1 1 8 with
 | false=>rfl
 | true=>
  have k1:=Fw (Ch hw).1
  have k2:=Fw (Ch hw).2
  rw [Al (n:=64 - a1) (by omega) (by omega),Al (by omega) (by omega),show 64 - a1 - 8=56 - a1 by omega]
  have e:∀ (x lo hi:Int) {ρ:Type} (f t:ρ),(bif decide (x < lo) then f else bif decide (x > hi) then f else t)=bif Cj x lo hi then t else f:=by
   intro x lo hi ρ f t
   unfold Cj
   by_cases h1:x < lo
   ·rw [Ag h1,Bi (show ¬ lo≤x by omega)]; rfl
   ·rw [Bi h1,Ag (show lo≤x by omega)]
    by_cases h2:x > hi
    ·rw [Ag h2,Bi (show ¬ x≤hi by omega)]; rfl
    ·rw [Bi h2,Ag (show x≤hi by omega)]; rfl
  rw [e a0.1,e a0.2.1,e a0.2.2.1]
  cases Cj a0.1 1 4<;>cases Cj a0.2.1 1 60000<;>cases Cj a0.2.2.1 1 1000000000<;>try rfl
  show (bif decide ((ByteArray.size a0.2.2.2.1:Int)≤56 - a1) then _ else _)=_
  cases decide ((ByteArray.size a0.2.2.2.1:Int)≤56 - a1)<;>cases (a0.1 != 3)<;>rfl
theorem Avz:Cg Try.prog 76 Ahh:=
 Ba (pat:=Eo) [] Jo (A9 (l:=[(62,C0),(92,Ou)]) ⟨Dn,Tv,trivial⟩) trivial Try.func76 (de:=fun x=>Zy x.1 x.2.1) (fun x r h=>(Avy x.1 x.2.1).trans h) fun _=>by kernel_rfl
def Tw (s:Ab) (w:Int):Option Ab:=if s.size < 4611686018427387904 then some (Ags s w) else none
def Mt (v0:Ab) (v1 v5 v6:Int):Nat:=(nI v0.size - v6).toNat + 1
def Lr (v1 v5:Int) (v7:Ab) (v8:Int):Nat:=(v1 - v8).toNat + 1
def Ayi:H6:=⟨[.rd .str,.rd tI],[none,none],[.rd .str],[none]⟩
def Als:SD:=⟨Ayi,fun x=>(Tw x.1 x.2.1).bind fun r=>some ((r,()),(()))⟩
def Aai:Tb:=tb [(62,C0)]
def G7:Nat→Dv×(Nat→Dv):=Jc [(6,⟨[],[(0,.lf (.d .str)),(1,.lf (.d tI)),(5,.lf (.d (.int .u64))),(6,.lf (.d tI))],[]⟩,[(2,⟨[],[(1,.lf (.d tI)),(5,.lf (.d (.int .u64)))],[]⟩)]),(11,⟨[],[(1,.lf (.d tI)),(5,.lf (.d (.int .u64))),(7,.lf (.d .str)),(8,.lf (.d tI))],[]⟩,[(4,⟨[],[(7,.lf (.d .str))],[]⟩)])]
def Adj:Code:=(Ax (Bs Try.f77)).getD 0 .skip
def Aaj:Code:=(Ax (Bs Try.f77)).getD 1 .skip
def Ls {R:Type}  (NX:((Int)×(Int)×(Ab)×(Int)×Unit)→Option R) (X4:((Ab)×Unit)→Option R) (v1:Int) (v5:Int) (v7:Ab) (v8:Int):Option R:=
 bif decide (v8 < v1) then bif decide ((strOfNums [IntKind.u8.wrap (v5.tmod 256)]).size + v7.size≤9223372036854775807) then NX (v1,IntKind.u64.wrap (v5.tdiv 256),strOfNums [IntKind.u8.wrap (v5.tmod 256)]++v7,IntKind.i64.wrap (v8 + 1),()) else none else X4 (v7,())
def Hq:Nat→(Int)→(Int)→(Ab)→(Int) →  Option ((Ab)×Unit)
 | 0,_,_,_,_=>none
 | m + 1,v1,v5,v7,v8=>Ls  (fun d=>Hq m d.1 d.2.1 d.2.2.1 d.2.2.2.1) (fun d=>some (d)) v1 v5 v7 v8
def Aqi (d:(Int)×(Int)×(Ab)×(Int)×Unit):Option ((Ab)×Unit):=(u4 Aj) (Hq ((u4 Aj) Lr d)) d
def Mu {R:Type}  (NX:((Ab)×(Int)×(Int)×(Int)×Unit)→Option R) (X2:((Int)×(Int)×Unit)→Option R) (v0:Ab) (v1:Int) (v5:Int) (v6:Int):Option R:=
 bif decide (v6 < nI v0.size) then bif decide (0≤v6) then bif decide (v6 < nI v0.size) then NX (v0,v1,IntKind.u64.wrap (IntKind.u64.wrap (nI (BitVec.ofInt 64 v5 ^^^ BitVec.ofInt 64 (IntKind.u64.wrap (Am v0 v6))).toNat) * 1099511628211),IntKind.i64.wrap (v6 + 1),()) else none else none else X2 (v1,v5,())
def F0:Nat→(Ab)→(Int)→(Int)→(Int) →  Option ((Int)×(Int)×Unit)
 | 0,_,_,_,_=>none
 | m + 1,v0,v1,v5,v6=>Mu  (fun d=>F0 m d.1 d.2.1 d.2.2.1 d.2.2.2.1) (fun d=>some (d)) v0 v1 v5 v6
def Ar8 (d:(Ab)×(Int)×(Int)×(Int)×Unit):Option ((Int)×(Int)×Unit):=(u4 Aj) (F0 ((u4 Aj) Mt d)) d
def Aak (a0:Ab) (a1:Int):Option ((((Ab)×Unit)×(Unit))):=
 (B0 a1).bind fun val=>bif !val.1.1 then some ((Af,()),()) else ((fun d=>F0 (Mt d.1 d.2.1 d.2.2.1 d.2.2.2.1) d.1 d.2.1 d.2.2.1 d.2.2.2.1) (a0,a1,14695981039346656037,0,())).bind fun val=>((fun d=>Hq (Lr d.1 d.2.1 d.2.2.1 d.2.2.2.1) d.1 d.2.1 d.2.2.1 d.2.2.2.1) (val.1,val.2.1,Af,0,())).bind fun val=>some (val,())
theorem Aqj:∀ (k m i:Nat) (v:Int) (out:Ab),i + k≤1000→k < m→out.size=i→U64 v→Hq m ((i + k:Nat):Int) v out i=some (C7 v k++out,())
 | 0,m + 1,i,v,out,hi,hm,ho,hv=>by
  simp only [Hq,Ls]
  rw [Bi (by omega),Axp]
  rfl
 | k + 1,m + 1,i,v,out,hi,hm,ho,hv=>by
  have h0:=hv.1
  have h1:=hv.2
  simp only [Hq,Ls]
  have e1:IntKind.wrap IntKind.u8 (Int.tmod v 256)=v % 256:=by
   rw [Int.tmod_eq_emod_of_nonneg h0]
   show v % 256 % 256=v % 256
   omega
  have e2:IntKind.wrap IntKind.u64 (Int.tdiv v 256)=v / 256:=by
   rw [Int.tdiv_eq_ediv_of_nonneg h0,A8m]
   omega
  rw [Ag (show (i:Int) < ((i + (k + 1):Nat):Int) by omega),e1,e2,Ag (show ByteArray.size (strOfNums [v % 256]) + ByteArray.size out≤9223372036854775807 by rw [ho,Cp]; simp; omega),wI (show i < 4611686018427387904 by omega)]
  have hL:=Aqj k m (i + 1) (v / 256) (strOfNums [v % 256]++out) (by omega) (by omega) (by rw [ByteArray.size_append,ho,Cp]; simp; omega) ⟨by omega,by omega⟩
  rw [show i + 1 + k=i + (k + 1) by omega] at hL
  refine hL.trans ?_
  rw [← ByteArray.append_assoc,← Axq]
theorem Ayj (a0:Ab) (a1:Int) r (h:Tw a0 a1=some r):Aak a0 a1=some ((r,()),(())):=by
 unfold Tw at h
 split at h
 rotate_left
 ·cases h
 rename_i hsz
 cases h
 unfold Aak Ags
 generalize hC:(14695981039346656037:Int)=C
 have h0:U64 C:=by rw [← hC]; exact ⟨by decide,by decide⟩
 refine bi_ (wid a1) ?_
 show (bif !Cj a1 1 8 then _ else _)=_
 cases hw:Cj a1 1 8 with
 | false=>rfl
 | true=>
  have k1:=Fw (Ch hw).1
  have k2:=Fw (Ch hw).2
  ·simp only [Bool.not_true,cond_false,cond_true]
   have hL:=Agu a0.size (fun _ _=>True) (fun i h=>x7 h (Am a0 i)) (g:=fun m i h=>F0 m a0 a1 h i) (ok:=fun h=>(a1,h,())) (fun m i h hi _=>by
    show F0 (m + 1) a0 a1 h i=_
    simp only [F0,Mu]
    have c1:(i:Int) < nI a0.size:=by simp only [nI]; omega
    rw [Ag c1,Nd,wI (show i < 4611686018427387904 by omega)]
    rfl) (fun m h _=>by
    show F0 (m + 1) a0 a1 h a0.size=_
    simp only [F0,Mu]
    rw [Bi (show ¬ ((a0.size:Int) < nI a0.size) by simp only [nI]; omega)]
    rfl) (fun _ _ _ _=>trivial) a0.size (Mt a0 a1 C 0) 0 C (by omega) (by simp only [Mt,nI]; omega) trivial
   rw [show ((0:Nat):Int)=0 from rfl] at hL
   refine bi_ hL ?_
   obtain ⟨n,rfl⟩:∃ n:Nat,a1=(n:Int):=⟨a1.toNat,by omega⟩
   have hM:=Aqj n (Lr n (Ajd a0 a0.size 0 C) (Af) 0) 0 (Ajd a0 a0.size 0 C) (Af) (by omega) (by simp only [Lr]; omega) rfl (A1o a0 _ _ h0)
   rw [Nat.zero_add,A5m] at hM
   exact bi_ hM rfl
def Adk {R:Type} (k:Kt R):=(N3 (G7 6) (.exit 0) 2 k)
def Aal {R:Type} (k:Kt R):=(N3 (G7 11) (.exit 2) 4 k)
def Ae7 {R:Type}:Lt R G7:=(G3 (pat:=G7) 6 (fun d k=>(Ar8 d).bind (Adk k)) (G3 (pat:=G7) 11 (fun d k=>(Aqi d).bind (Aal k)) Jo))
theorem Aam:A4 Try.prog Aai:=A9 ⟨Dn,trivial⟩
theorem Aqk {R:Type}:Bg Try.prog R 40 0 G7 Ae7 Aaj:=
 C8 (cfg:=⟨Aai,0,40,G7⟩) 11 [] (fun NX X d=>(u4 Aj) (Ls  NX X) d) (fun m d=>(u4 Aj) (Hq m) d) (fun d=>(u4 Aj) Lr d) Aal Aam trivial (fun f NX d=>by simp only [u4,Ad,Aj]; unfold Ls; simp only [nb])
theorem Ar9 {R:Type}:Bg Try.prog R 40 0 G7 Ae7 Adj:=
 C8 (cfg:=⟨Aai,0,40,G7⟩) 6 [] (fun NX X d=>(u4 Aj) (Mu  NX X) d) (fun m d=>(u4 Aj) (F0 m) d) (fun d=>(u4 Aj) Mt d) Adk Aam trivial (fun f NX d=>by simp only [u4,Ad,Aj]; unfold Mu; simp only [nb])
theorem Ayk:Cg Try.prog 77 Als:=
 Ba (pat:=G7) [Adj,Aaj] Ae7 Aam ⟨Ar9,Aqk,trivial⟩ Try.func77 (de:=fun x=>Aak x.1 x.2.1) (fun x r h=>Gd (Ayj x.1 x.2.1) h) fun _=>by kernel_rfl
def B1 (p:Pg) (w:Int):Ab:=Cr p w
def Hr (v1:Int) (v5:Ab):Nat:=(64 - v1 - nI v5.size).toNat + 1
def Aj2:H6:=⟨[.rd yPg,.rd tI],[some 4,none],[.rd .str],[none]⟩
def Fq:SD:=⟨Aj2,fun x=>some (((B1 x.1 x.2.1),()),(()))⟩
def Yb:Tb:=tb [(57,Qd),(76,Ahh),(77,Als)]
def G9:Nat→Dv×(Nat→Dv):=Jc [(5,⟨[],[(1,.lf (.d tI)),(5,.lf (.d .str))],[]⟩,[(2,⟨[],[(1,.lf (.d tI)),(5,.lf (.d .str))],[]⟩)])]
def Tx:Code:=(Ax (Bs Try.f56)).getD 0 .skip
def Hs {R:Type}  (NX:((Int)×(Ab)×Unit)→Option R) (X2:((Int)×(Ab)×Unit)→Option R) (v1:Int) (v5:Ab):Option R:=
 bif decide (IntKind.i64.wrap (nI v5.size + v1) < 64) then bif decide (v5.size + (ByteArray.mk #[0]).size≤9223372036854775807) then NX (v1,v5++ByteArray.mk #[0],()) else none else X2 (v1,v5,())
def Ee:Nat→(Int)→(Ab) →  Option ((Int)×(Ab)×Unit)
 | 0,_,_=>none
 | m + 1,v1,v5=>Hs  (fun d=>Ee m d.1 d.2.1) (fun d=>some (d)) v1 v5
def Ae8 (d:(Int)×(Ab)×Unit):Option ((Int)×(Ab)×Unit):=(Ad (Ad Aj)) (Ee ((Ad (Ad Aj)) Hr d)) d
def Qf (a0:Pg) (a1:Int):Option ((((Ab)×Unit)×(Unit))):=
 bif !Vz a0 a1 then some ((Af,()),()) else ((Bk a0.1 1).bind fun val=>some ((val,()),())).bind fun val=>((Bk a0.2.1 2).bind fun val=>some ((val,()),())).bind fun val_1=>bif decide (ByteArray.size val.1.1 + ByteArray.size val_1.1.1≤9223372036854775807) then ((Bk a0.2.2.1 4).bind fun val=>some ((val,()),())).bind fun val_2=>bif decide ((val.1.1++val_1.1.1).size + ByteArray.size val_2.1.1≤9223372036854775807) then ((Bk (nI (ByteArray.size a0.2.2.2.1)) 1).bind fun val=>some ((val,()),())).bind fun val_3=>bif decide ((val.1.1++val_1.1.1++val_2.1.1).size + ByteArray.size val_3.1.1≤9223372036854775807) then bif decide ((val.1.1++val_1.1.1++val_2.1.1++val_3.1.1).size + ByteArray.size a0.2.2.2.1≤9223372036854775807) then ((fun d=>Ee (Hr d.1 d.2.1) d.1 d.2.1) (a1,val.1.1++val_1.1.1++val_2.1.1++val_3.1.1++a0.2.2.2.1,())).bind fun val=>((Tw val.2.1 val.1).bind fun val=>some ((val,()),())).bind fun val_4=>bif decide (ByteArray.size val_4.1.1 + ByteArray.size val.2.1≤9223372036854775807) then some ((val_4.1.1++val.2.1,()),()) else none else none else none else none else none
theorem Ayl (w:Int):∀ (k m:Nat) (b:Ab),(b.size:Int) + w + k=64→0≤w→k < m→Ee m w b=some (w,b++strOfNums (List.replicate k 0),())
 | 0,m + 1,b,h,h0,hm=>by
  simp only [Ee,Hs]
  rw [Al (by simp only [nI]; omega) (by simp only [nI]; omega),Bi (show ¬ (nI b.size + w < 64) by simp only [nI]; omega),show strOfNums (List.replicate 0 0)=Af from rfl,A5m]
  rfl
 | k + 1,m + 1,b,h,h0,hm=>by
  simp only [Ee,Hs]
  have hz:(ByteArray.mk #[0]).size=1:=rfl
  rw [Al (by simp only [nI]; omega) (by simp only [nI]; omega),Ag (show nI b.size + w < 64 by simp only [nI]; omega),hz,Ag (show b.size + 1≤9223372036854775807 by omega)]
  have:=Ayl w k m (b++ByteArray.mk #[0]) (by rw [ByteArray.size_append,hz]; omega) h0 (by omega)
  refine this.trans ?_
  rw [ByteArray.append_assoc,show ByteArray.mk #[0]=strOfNums [0] from rfl,← Adb]
  rfl
theorem Aj3 (a0:Pg) (a1:Int):Qf a0 a1=some (((B1 a0 a1),()),(())):=by
 unfold Qf B1 Cr
 show (bif !Ec a0 a1 then _ else _)=_
 cases hp:Ec a0 a1 with
 | false=>rfl
 | true=>
  obtain ⟨hw,k1,k2,kp⟩:=Tg hp
  obtain ⟨r1,r2,r3⟩:=y6 hp
  have n1:Bk a0.1 1=some (C7 a0.1 1):=(Fp _ _).trans (if_pos (by omega))
  have n2:Bk a0.2.1 2=some (C7 a0.2.1 2):=(Fp _ _).trans (if_pos (by omega))
  have n3:Bk a0.2.2.1 4=some (C7 a0.2.2.1 4):=(Fp _ _).trans (if_pos (by omega))
  have n4:Bk (nI a0.2.2.2.1.size) 1=some (C7 (nI a0.2.2.2.1.size) 1):=(Fp _ _).trans (if_pos (by simp only [nI]; omega))
  simp only [Bool.not_true,cond_false,cond_true,n1,n2,n3,n4,Option.bind_some]
  have hb:Ge a0 a1=C7 a0.1 1++C7 a0.2.1 2++C7 a0.2.2.1 4++C7 (nI a0.2.2.2.1.size) 1++a0.2.2.2.1++strOfNums (List.replicate (56 - a1 - a0.2.2.2.1.size).toNat 0):=rfl
  have hs4:(C7 a0.1 1++C7 a0.2.1 2++C7 a0.2.2.1 4++C7 (nI a0.2.2.2.1.size) 1).size=8:=by simp only [ByteArray.size_append,It]
  have hs3:(C7 a0.1 1++C7 a0.2.1 2++C7 a0.2.2.1 4).size=7:=by simp only [ByteArray.size_append,It]
  have hs2:(C7 a0.1 1++C7 a0.2.1 2).size=3:=by simp only [ByteArray.size_append,It]
  have hs5:(C7 a0.1 1++C7 a0.2.1 2++C7 a0.2.2.1 4++C7 (nI a0.2.2.2.1.size) 1++a0.2.2.2.1).size=8 + a0.2.2.2.1.size:=by rw [ByteArray.size_append,hs4]
  rw [hs4,hs3,hs2,It,It,It,It,Ag (show 1 + 2≤9223372036854775807 by decide),Ag (show 3 + 4≤9223372036854775807 by decide),Ag (show 7 + 1≤9223372036854775807 by decide),Ag (show 8 + a0.2.2.2.1.size≤9223372036854775807 by omega)]
  simp only [cond_true]
  generalize hB:C7 a0.1 1++C7 a0.2.1 2++C7 a0.2.2.1 4++C7 (nI a0.2.2.2.1.size) 1++a0.2.2.2.1=B at *
  have hL:=Ayl a1 (56 - a1 - a0.2.2.2.1.size).toNat (Hr a1 B) B (by rw [hs5]; omega) (by omega) (by simp only [Hr,nI,hs5]; omega)
  have hz:(strOfNums (List.replicate (56 - a1 - a0.2.2.2.1.size).toNat 0)).size=(56 - a1 - a0.2.2.2.1.size).toNat:=by rw [Cp,List.length_replicate]
  rw [← hb] at hL
  have hbs:(Ge a0 a1).size≤64:=by rw [hb,ByteArray.size_append,hs5,hz]; omega
  have hm:Tw (Ge a0 a1) a1=some (Ags (Ge a0 a1) a1):=if_pos (by omega)
  refine bi_ hL (bi_ (bi_ hm rfl) ?_)
  show (bif decide (ByteArray.size (Ags (Ge a0 a1) a1) + ByteArray.size (Ge a0 a1)≤9223372036854775807) then some ((Ags (Ge a0 a1) a1++Ge a0 a1,()),()) else none)=_
  rw [Xq hw,Ag (by omega)]
  rfl
def Tz {R:Type} (k:Kt R):=(N3 (G9 5) (.exit 0) 2 k)
def b6 {R:Type}:Lt R G9:=(G3 (pat:=G9) 5 (fun d k=>(Ae8 d).bind (Tz k)) Jo)
theorem Yc:A4 Try.prog Yb:=A9 ⟨Ya,Avz,Ayk,trivial⟩
theorem Ae9 {R:Type}:Bg Try.prog R 41 0 G9 b6 Tx:=
 C8 (cfg:=⟨Yb,0,41,G9⟩) 5 [] (fun NX X d=>(Ad (Ad Aj)) (Hs  NX X) d) (fun m d=>(Ad (Ad Aj)) (Ee m) d) (fun d=>(Ad (Ad Aj)) Hr d) Tz Yc trivial (fun f NX d=>by simp only [u4,Ad,Aj]; unfold Hs; simp only [nb])
theorem Ha:Cg Try.prog 56 Fq:=
 Ba (pat:=G9) [Tx] b6 Yc ⟨Ae9,trivial⟩ Try.func56 (de:=fun x=>Qf x.1 x.2.1) (fun x r h=>(Aj3 x.1 x.2.1).trans h) fun _=>by kernel_rfl
def C1 (r:Rt) (w:Int):Ab:=Cv r w
def Aj4:H6:=⟨[.rd yRt,.rd tI],[some 4,none],[.rd .str],[none]⟩
def Ju:SD:=⟨Aj4,fun x=>some (((C1 x.1 x.2.1),()),(()))⟩
def Qg (a0:Rt) (a1:Int):Option ((((Ab)×Unit)×(Unit))):=
 bif decide (a0.2.1 < 0) then some ((Af,()),()) else bif decide (a0.2.1 > 1) then some ((Af,()),()) else bif decide (a0.2.2.1 < 1) then some ((Af,()),()) else bif decide (a0.2.2.1 > 999999000) then some ((Af,()),()) else ((Bk a0.2.1 1).bind fun val=>some ((val,()),())).bind fun val=>((Bk a0.2.2.1 4).bind fun val=>some ((val,()),())).bind fun val_1=>bif decide (ByteArray.size val.1.1 + ByteArray.size val_1.1.1≤9223372036854775807) then some ((B1 (4,a0.2.2.2.1,a0.1,val.1.1++val_1.1.1,()) a1,()),()) else none
theorem Aj5 (a0:Rt) (a1:Int):Qg a0 a1=some (((C1 a0 a1),()),(())):=by
 unfold Qg C1 Cv Gt
 rw [App a0.2.1,App a0.2.2.1]
 cases h1:Cj a0.2.1 0 1 with
 | false=>rfl
 | true=>
  cases h2:Cj a0.2.2.1 1 999999000 with
  | false=>rfl
  | true=>
   have q1:=C5 h1
   have q2:=C5 h2
   have n1:Bk a0.2.1 1=some (C7 a0.2.1 1):=(Fp _ _).trans (if_pos (by omega))
   have n2:Bk a0.2.2.1 4=some (C7 a0.2.2.1 4):=(Fp _ _).trans (if_pos (by omega))
   simp only [n1,n2,Option.bind_some,cond_true]
   rw [It,It,Ag (show 1 + 4≤9223372036854775807 by decide)]
   rfl
theorem Ma:Cg Try.prog 25 Ju:=
 Ba (pat:=Eo) [] Jo (A9 (l:=[(56,Fq),(57,Qd)]) ⟨Ha,Ya,trivial⟩) trivial Try.func25 (de:=fun x=>Qg x.1 x.2.1) (fun x r h=>(Aj5 x.1 x.2.1).trans h) fun _=>by kernel_rfl
def Cs (d:Dk):Option Dk:=if d.1.length≤1099511627776∧d.2.1.length≤1099511627776 then some d else none
def Aql:H6:=⟨[.rd yDk],[some 2],[.own 9 .str,.own 82 Db],[some 2]⟩
def Ht:SD:=⟨Aql,fun x=>(Cs x.1).bind fun r=>some ((r.1,r.2.1,()),(()))⟩
def T1 (a0:Dk):Option ((Dk×(Unit))):=
 bif decide ((0 + List.length a0.1) * 16≤140737488355328) then bif decide ((0 + List.length a0.2.1) * 24≤140737488355328) then some (([]++a0.1,[]++a0.2.1,()),()) else none else none
theorem Aqm (a0:Dk) r (h:Cs a0=some r):T1 a0=some ((r.1,r.2.1,()),(())):=by
 unfold Cs at h
 split at h
 ·rename_i hc
  cases h
  unfold T1
  have c1:(0 + List.length a0.1) * 16≤140737488355328:=by omega
  have c2:(0 + List.length a0.2.1) * 24≤140737488355328:=by omega
  rw [Ag c1,Ag c2]
  rfl
 ·cases h
theorem Jv:Cg Try.prog 47 Ht:=
 Ba (pat:=Eo) [] Jo (A9 (l:=[]) trivial) trivial Try.func47 (de:=fun x=>T1 x.1) (fun x r h=>Gd (Aqm x.1) h) fun _=>by kernel_rfl
def C3 (s:Kb):Option Kb:=if s.1.length≤1000000 then some (s.1,()) else none
def Aqn:H6:=⟨[.rd Li],[some 1],[.own 67 B4],[some 1]⟩
def Lu:SD:=⟨Aqn,fun x=>(C3 x.1).bind fun r=>some ((r.1,()),(()))⟩
def T3 (a0:Kb):Option ((Kb×(Unit))):=
 bif decide ((0 + List.length a0.1) * 32≤140737488355328) then some (([]++a0.1,()),()) else none
theorem Aqo (a0:Kb) r (h:C3 a0=some r):T3 a0=some ((r.1,()),(())):=by
 unfold C3 at h
 split at h
 ·rename_i hc
  cases h
  unfold T3
  rw [Ag (show (0 + a0.1.length) * 32≤140737488355328 by omega)]
  rfl
 ·cases h
theorem Ov:Cg Try.prog 93 Lu:=
 Ba (pat:=Eo) [] Jo (A9 (l:=[]) trivial) trivial Try.func93 (de:=fun x=>T3 x.1) (fun x r h=>Gd (Aqo x.1) h) fun _=>by kernel_rfl
def Aqp:H6:=⟨[.rd Nc],[some 16],[.rd tI,.own 9 .str,.own 82 Db,.rd .bool,.rd tI,.rd tI,.rd tI,.rd tI,.rd tI,.rd tI,.rd tI,.rd tI,.rd tI,.rd (.sl B4),.own 30 Li,.own 9 .str],[some 16]⟩
def Aan:Tb:=tb [(47,Ht),(93,Lu)]
def Jw:Nat→Dv×(Nat→Dv):=Jc [(7,⟨[.boxSl 1 1 .str,.boxSl 1 2 Db,.boxSl 1 13 B4,.boxSl 1 14 Li,.boxSl 1 15 .str,.boxSl 2 1 .str,.boxSl 2 2 Db,.boxSl 2 13 B4,.boxSl 2 14 Li,.boxSl 2 15 .str,.boxRow 3 1 9 .str,.boxRow 3 2 82 Db,.boxSl 3 13 B4,.boxRow 3 14 30 Li,.boxSl 3 15 .str],[(1,.lf (.ptr 0 0)),(2,.lf (.ptr 1 0)),(3,.lf (.ptr 2 0)),(4,.lf (.d tI))],[.box 98 [.d Nc],.box 98 [.d Nc],.box 98 [.d tI,.row 3,.row 4,.d .bool,.d tI,.d tI,.d tI,.d tI,.d tI,.d tI,.d tI,.d tI,.d tI,.d (.sl B4),.row 5,.d (.sl .str)],.row 9 .str,.row 82 Db,.row 30 Li]⟩,[(2,⟨[.boxSl 1 1 .str,.boxSl 1 2 Db,.boxSl 1 13 B4,.boxSl 1 14 Li,.boxSl 1 15 .str,.boxSl 2 1 .str,.boxSl 2 2 Db,.boxSl 2 13 B4,.boxSl 2 14 Li,.boxSl 2 15 .str,.boxRow 3 1 9 .str,.boxRow 3 2 82 Db,.boxSl 3 13 B4,.boxRow 3 14 30 Li,.boxSl 3 15 .str],[(1,.lf (.ptr 0 0)),(2,.lf (.ptr 1 0)),(3,.lf (.ptr 2 0))],[.box 98 [.d Nc],.box 98 [.d Nc],.box 98 [.d tI,.row 3,.row 4,.d .bool,.d tI,.d tI,.d tI,.d tI,.d tI,.d tI,.d tI,.d tI,.d tI,.d (.sl B4),.row 5,.d (.sl .str)],.row 9 .str,.row 82 Db,.row 30 Li]⟩)])]
def Yd:Code:=(Ax (Bs Try.f78)).getD 0 .skip
def Hb (v4:Int) (b0 b1:Da) (b2_0:Int) (b2_3:Bool) (b2_4 b2_5:Int) (b2_6 b2_7:Int) (b2_8 b2_9:Int) (b2_10 b2_11 b2_12:Int) (b2_13:List Bx) (b2_15 r3:List Ab) (r4:List Wr) (r5:List Kb):Nat:=((List.length b0.2.2.2.2.1:Int) - v4).toNat + 1
def Jx {R:Type}  (NX:((Int)×Da×Da×(Int)×(Bool)×(Int)×(Int)×(Int)×(Int)×(Int)×(Int)×(Int)×(Int)×(Int)×(List Bx)×(List Ab)×(List Ab)×(List Wr)×(List Kb)×Unit)→Option R) (X2:(Da×Da×(Int)×(Bool)×(Int)×(Int)×(Int)×(Int)×(Int)×(Int)×(Int)×(Int)×(Int)×(List Bx)×(List Ab)×(List Ab)×(List Wr)×(List Kb)×Unit)→Option R) (v4:Int) (b0:Da) (b1:Da) (b2_0:Int) (b2_3:Bool) (b2_4:Int) (b2_5:Int) (b2_6:Int) (b2_7:Int) (b2_8:Int) (b2_9:Int) (b2_10:Int) (b2_11:Int) (b2_12:Int) (b2_13:List Bx) (b2_15:List Ab) (r3:List Ab) (r4:List Wr) (r5:List Kb):Option R:=
 bif decide (v4 < nI (List.length b0.2.2.2.2.1)) then bif decide (0≤v4) then bif decide (v4 < nI (List.length b0.2.2.2.2.1)) then ((C3 (List.getD b0.2.2.2.2.1 v4.toNat ([],()))).bind fun val=>some (val,())).bind fun val=>bif decide ((r5.length + [val.1].length) * 24≤140737488355328) then NX (IntKind.i64.wrap (v4 + 1),b0,b1,b2_0,b2_3,b2_4,b2_5,b2_6,b2_7,b2_8,b2_9,b2_10,b2_11,b2_12,b2_13,b2_15,r3,r4,r5++[val.1],()) else none else none else none else X2 (b0,b1,b2_0,b2_3,b2_4,b2_5,b2_6,b2_7,b2_8,b2_9,b2_10,b2_11,b2_12,b2_13,b2_15,r3,r4,r5,())
def Ep:Nat→(Int)→Da→Da→(Int)→(Bool)→(Int)→(Int)→(Int)→(Int)→(Int)→(Int)→(Int)→(Int)→(Int)→(List Bx)→(List Ab)→(List Ab)→(List Wr)→(List Kb) →  Option (Da×Da×(Int)×(Bool)×(Int)×(Int)×(Int)×(Int)×(Int)×(Int)×(Int)×(Int)×(Int)×(List Bx)×(List Ab)×(List Ab)×(List Wr)×(List Kb)×Unit)
 | 0,_,_,_,_,_,_,_,_,_,_,_,_,_,_,_,_,_,_,_=>none
 | m + 1,v4,b0,b1,b2_0,b2_3,b2_4,b2_5,b2_6,b2_7,b2_8,b2_9,b2_10,b2_11,b2_12,b2_13,b2_15,r3,r4,r5=>Jx  (fun d=>Ep m d.1 d.2.1 d.2.2.1 d.2.2.2.1 d.2.2.2.2.1 d.2.2.2.2.2.1 d.2.2.2.2.2.2.1 d.2.2.2.2.2.2.2.1 d.2.2.2.2.2.2.2.2.1 d.2.2.2.2.2.2.2.2.2.1 d.2.2.2.2.2.2.2.2.2.2.1 d.2.2.2.2.2.2.2.2.2.2.2.1 d.2.2.2.2.2.2.2.2.2.2.2.2.1 d.2.2.2.2.2.2.2.2.2.2.2.2.2.1 d.2.2.2.2.2.2.2.2.2.2.2.2.2.2.1 d.2.2.2.2.2.2.2.2.2.2.2.2.2.2.2.1 d.2.2.2.2.2.2.2.2.2.2.2.2.2.2.2.2.1 d.2.2.2.2.2.2.2.2.2.2.2.2.2.2.2.2.2.1 d.2.2.2.2.2.2.2.2.2.2.2.2.2.2.2.2.2.2.1) (fun d=>some (d)) v4 b0 b1 b2_0 b2_3 b2_4 b2_5 b2_6 b2_7 b2_8 b2_9 b2_10 b2_11 b2_12 b2_13 b2_15 r3 r4 r5
def Aj6 (d:(Int)×Da×Da×(Int)×(Bool)×(Int)×(Int)×(Int)×(Int)×(Int)×(Int)×(Int)×(Int)×(Int)×(List Bx)×(List Ab)×(List Ab)×(List Wr)×(List Kb)×Unit):Option (Da×Da×(Int)×(Bool)×(Int)×(Int)×(Int)×(Int)×(Int)×(Int)×(Int)×(Int)×(Int)×(List Bx)×(List Ab)×(List Ab)×(List Wr)×(List Kb)×Unit):=(u4 (u4 (u4 (u4 (Ad (Ad (Ad Aj))))))) (Ep ((u4 (u4 (u4 (u4 (Ad (Ad (Ad Aj))))))) Hb d)) d
def Ow (a0:Da):Option ((((Int)×(List Ab)×(List Wr)×(Bool)×(Int)×(Int)×(Int)×(Int)×(Int)×(Int)×(Int)×(Int)×(Int)×(List Bx)×(List Kb)×(List Ab)×Unit)×(Unit))):=
 ((Cs a0.2.1).bind fun val=>some (val,())).bind fun val=>((C3 a0.2.2.2.1.2.2.2.2.2.2.1).bind fun val=>some (val,())).bind fun val_1=>((fun d=>Ep (Hb d.1 d.2.1 d.2.2.1 d.2.2.2.1 d.2.2.2.2.1 d.2.2.2.2.2.1 d.2.2.2.2.2.2.1 d.2.2.2.2.2.2.2.1 d.2.2.2.2.2.2.2.2.1 d.2.2.2.2.2.2.2.2.2.1 d.2.2.2.2.2.2.2.2.2.2.1 d.2.2.2.2.2.2.2.2.2.2.2.1 d.2.2.2.2.2.2.2.2.2.2.2.2.1 d.2.2.2.2.2.2.2.2.2.2.2.2.2.1 d.2.2.2.2.2.2.2.2.2.2.2.2.2.2.1 d.2.2.2.2.2.2.2.2.2.2.2.2.2.2.2.1 d.2.2.2.2.2.2.2.2.2.2.2.2.2.2.2.2.1 d.2.2.2.2.2.2.2.2.2.2.2.2.2.2.2.2.2.1 d.2.2.2.2.2.2.2.2.2.2.2.2.2.2.2.2.2.2.1) d.1 d.2.1 d.2.2.1 d.2.2.2.1 d.2.2.2.2.1 d.2.2.2.2.2.1 d.2.2.2.2.2.2.1 d.2.2.2.2.2.2.2.1 d.2.2.2.2.2.2.2.2.1 d.2.2.2.2.2.2.2.2.2.1 d.2.2.2.2.2.2.2.2.2.2.1 d.2.2.2.2.2.2.2.2.2.2.2.1 d.2.2.2.2.2.2.2.2.2.2.2.2.1 d.2.2.2.2.2.2.2.2.2.2.2.2.2.1 d.2.2.2.2.2.2.2.2.2.2.2.2.2.2.1 d.2.2.2.2.2.2.2.2.2.2.2.2.2.2.2.1 d.2.2.2.2.2.2.2.2.2.2.2.2.2.2.2.2.1 d.2.2.2.2.2.2.2.2.2.2.2.2.2.2.2.2.2.1 d.2.2.2.2.2.2.2.2.2.2.2.2.2.2.2.2.2.2.1) (0,a0,(0,([],[],()),false,(0,0,0,(0,0,0,0,()),0,0,([],()),()),[],[],()),a0.1,a0.2.2.1,a0.2.2.2.1.1,a0.2.2.2.1.2.1,a0.2.2.2.1.2.2.1,a0.2.2.2.1.2.2.2.1.1,a0.2.2.2.1.2.2.2.1.2.1,a0.2.2.2.1.2.2.2.1.2.2.1,a0.2.2.2.1.2.2.2.1.2.2.2.1,a0.2.2.2.1.2.2.2.2.1,a0.2.2.2.1.2.2.2.2.2.1,val_1.1.1,a0.2.2.2.2.2.1,val.1.1,val.1.2.1,[],())).bind fun val=>bif decide ((0 + List.length val.1.2.2.2.2.2.1) * 16≤140737488355328) then some ((val.2.2.1,val.2.2.2.2.2.2.2.2.2.2.2.2.2.2.2.1,val.2.2.2.2.2.2.2.2.2.2.2.2.2.2.2.2.1,val.2.2.2.1,val.2.2.2.2.1,val.2.2.2.2.2.1,val.2.2.2.2.2.2.1,val.2.2.2.2.2.2.2.1,val.2.2.2.2.2.2.2.2.1,val.2.2.2.2.2.2.2.2.2.1,val.2.2.2.2.2.2.2.2.2.2.1,val.2.2.2.2.2.2.2.2.2.2.2.1,val.2.2.2.2.2.2.2.2.2.2.2.2.1,val.2.2.2.2.2.2.2.2.2.2.2.2.2.1,val.2.2.2.2.2.2.2.2.2.2.2.2.2.2.2.2.2.1,[]++val.1.2.2.2.2.2.1,()),()) else none
theorem Aao:∃ f,f=@Ow:=⟨_,rfl⟩
def Je:=Classical.choose Aao
theorem Aap:@Je=@Ow:=Classical.choose_spec Aao
def Aaq:SD:=⟨Aqp,fun x=>Je x.1⟩
theorem A2f (b0 b1:Da) (b2_0:Int) (b2_3:Bool) (b2_4 b2_5:Int) (b2_6 b2_7:Int) (b2_8 b2_9:Int) (b2_10 b2_11 b2_12:Int) (b2_13:List Bx) (b2_15 r3:List Ab) (r4:List Wr) (hs:∀ x∈b0.2.2.2.2.1,As x=true) (hn:b0.2.2.2.2.1.length≤200):∀ (k m i:Nat) (r:List Kb),i + k=b0.2.2.2.2.1.length→k < m→r.length=i→r=b0.2.2.2.2.1.take i→
  ∃ r':List Kb,Ep m i b0 b1 b2_0 b2_3 b2_4 b2_5 b2_6 b2_7 b2_8 b2_9 b2_10 b2_11 b2_12 b2_13 b2_15 r3 r4 r=some (b0,b1,b2_0,b2_3,b2_4,b2_5,b2_6,b2_7,b2_8,b2_9,b2_10,b2_11,b2_12,b2_13,b2_15,r3,r4,r',())∧r'=b0.2.2.2.2.1
 | 0,m + 1,i,r,hi,_,hr,hv=>by
  refine ⟨r,?_,by rw [hv,List.take_of_length_le (by omega)]⟩
  simp only [Ep,Jx]
  rw [Bi (show ¬ (i:Int) < nI b0.2.2.2.2.1.length by simp only [nI]; omega)]
  rfl
 | k + 1,m + 1,i,r,hi,hm,hr,hv=>by
  have e1:IntKind.i64.wrap ((i:Int) + 1)=((i + 1:Nat):Int):=wI (by omega)
  have d2:decide ((i:Int) < nI b0.2.2.2.2.1.length)=true:=Ag (by simp only [nI]; omega)
  have hx:As (b0.2.2.2.2.1.getD i zSs)=true:=W3 (l:=b0.2.2.2.2.1) (d:=zSs) (v:=(i:Int)) (Q:=fun x=>As x=true) hs (by omega) (by simp only [nI]; omega)
  have e2:C3 (b0.2.2.2.2.1.getD (Int.toNat (i:Int)) ([],()))=some (b0.2.2.2.2.1.getD i zSs):=(if_pos (show (b0.2.2.2.2.1.getD i zSs).1.length≤1000000 from Nat.le_trans (E0 hx) (by decide)))
  simp only [Ep,Jx,d2,Nd,e1,e2,cond_true,Et,Option.bind_some]
  have d3:decide ((r.length + 1) * 24≤140737488355328)=true:=Ag (by omega)
  rw [d3]
  exact A2f b0 b1 b2_0 b2_3 b2_4 b2_5 b2_6 b2_7 b2_8 b2_9 b2_10 b2_11 b2_12 b2_13 b2_15 r3 r4 hs hn k m (i + 1) (r++[b0.2.2.2.2.1.getD i zSs]) (by omega) (by omega) (by rw [Ey,Et,hr]) (by rw [hv]; exact (A59 (by omega)).symm)
theorem A9m {b0:Da} {b1:Da} {b2_0:Int} {b2_3:Bool} {b2_4:Int} {b2_5:Int} {b2_6:Int} {b2_7:Int} {b2_8:Int} {b2_9:Int} {b2_10:Int} {b2_11:Int} {b2_12:Int} {b2_13:List Bx} {b2_15:List Ab} {r3:List Ab} {r4:List Wr} (hs:∀ x∈b0.2.2.2.2.1,As x=true) (hn:b0.2.2.2.2.1.length≤200):
  Ao (Ep (Hb 0 b0 b1 b2_0 b2_3 b2_4 b2_5 b2_6 b2_7 b2_8 b2_9 b2_10 b2_11 b2_12 b2_13 b2_15 r3 r4 []) 0 b0 b1 b2_0 b2_3 b2_4 b2_5 b2_6 b2_7 b2_8 b2_9 b2_10 b2_11 b2_12 b2_13 b2_15 r3 r4 []) fun q=>∃ r':List Kb,q=(b0,b1,b2_0,b2_3,b2_4,b2_5,b2_6,b2_7,b2_8,b2_9,b2_10,b2_11,b2_12,b2_13,b2_15,r3,r4,r',())∧r'=b0.2.2.2.2.1:=by
 obtain ⟨r',q1,q2⟩:=A2f b0 b1 b2_0 b2_3 b2_4 b2_5 b2_6 b2_7 b2_8 b2_9 b2_10 b2_11 b2_12 b2_13 b2_15 r3 r4 hs hn b0.2.2.2.2.1.length (Hb 0 b0 b1 b2_0 b2_3 b2_4 b2_5 b2_6 b2_7 b2_8 b2_9 b2_10 b2_11 b2_12 b2_13 b2_15 r3 r4 []) 0 [] (by omega) (by simp only [Hb]; omega) rfl rfl
 exact ⟨_,q1,r',rfl,q2⟩
theorem Av0 {w:Da} (h:WOk w):Ao (Je w) fun q=>unW q.1=w:=by
 rw [Aap]
 unfold Ow
 have hd:=h.d
 simp only [G6,Bool.and_eq_true,decide_eq_true_eq] at hd
 have c1:Ao ((Cs w.2.1).bind fun val=>some (val,())) fun q=>q=(w.2.1,()):=Ao.bind ⟨_,if_pos ⟨Nat.le_trans hd.1.1 (by decide),Nat.le_trans hd.2.1.1 (by decide)⟩,rfl⟩ fun a ha=>Ao.some (by rw [ha])
 have c2:Ao ((C3 w.2.2.2.1.2.2.2.2.2.2.1).bind fun val=>some (val,())) fun q=>q=(w.2.2.2.1.2.2.2.2.2.2.1,()):=Ao.bind ⟨_,if_pos (Nat.le_trans (E0 h.s) (by decide)),rfl⟩ fun a ha=>Ao.some (by subst ha; rfl)
 refine Ao.bind c1 fun q hq=>?_
 subst hq
 refine Ao.bind c2 fun q hq=>?_
 subst hq
 refine Ao.bind (A9m h.p h.n) fun q hq=>?_
 obtain ⟨r',rfl,q2⟩:=hq
 subst q2
 dsimp only
 have hl:=h.l
 exact Ao.go (Ag (by omega)) (Ao.some rfl)
def Ye {R:Type} (k:Kt R):=(N3 (Jw 7) (.exit 0) 2 k)
def Adl {R:Type}:Lt R Jw:=(G3 (pat:=Jw) 7 (fun d k=>(Aj6 d).bind (Ye k)) Jo)
theorem Aar:A4 Try.prog Aan:=A9 ⟨Jv,Ov,trivial⟩
theorem Aj7 {R:Type}:Bg Try.prog R 42 0 Jw Adl Yd:=
 C8 (cfg:=⟨Aan,0,42,Jw⟩) 7 [] (fun NX X (d:(Int)×Da×Da×(Int)×(Bool)×(Int)×(Int)×(Int)×(Int)×(Int)×(Int)×(Int)×(Int)×(Int)×(List Bx)×(List Ab)×(List Ab)×(List Wr)×(List Kb)×Unit)=>(u4 (u4 (u4 (u4 (Ad (Ad (Ad Aj))))))) (Jx  NX X) d) (fun m d=>(u4 (u4 (u4 (u4 (Ad (Ad (Ad Aj))))))) (Ep m) d) (fun d=>(u4 (u4 (u4 (u4 (Ad (Ad (Ad Aj))))))) Hb d) Ye Aar trivial (fun f NX (d:(Int)×Da×Da×(Int)×(Bool)×(Int)×(Int)×(Int)×(Int)×(Int)×(Int)×(Int)×(Int)×(Int)×(List Bx)×(List Ab)×(List Ab)×(List Wr)×(List Kb)×Unit)=>by simp only [u4,Ad,Aj]; unfold Jx; simp only [nb])
theorem Aqq:Cg Try.prog 78 Aaq:=
 Ba (pat:=Jw) [Yd] Adl Aar ⟨Aj7,trivial⟩ Try.func78 (de:=fun x=>Ow x.1) (fun x r h=>by have q:Je x.1=some r:=h; rw [Aap] at q; exact q) fun _=>by kernel_rfl
def Mb (v0:Ab) (v1:Int) (v5:Ab):Nat:=v1.toNat + 1
def Aqr:H6:=⟨[.rd .str,.rd tI],[none,none],[.rd .str],[none]⟩
def Aas:Tb:=tb []
def Jy:Nat→Dv×(Nat→Dv):=Jc [(3,⟨[],[(0,.lf (.d .str)),(1,.lf (.d tI)),(5,.lf (.d .str))],[]⟩,[(2,⟨[],[(5,.lf (.d .str))],[]⟩)])]
def Yf:Code:=(Ax (Bs Try.f72)).getD 0 .skip
def Mc {R:Type}  (NX:((Ab)×(Int)×(Ab)×Unit)→Option R) (X2:((Ab)×Unit)→Option R) (v0:Ab) (v1:Int) (v5:Ab):Option R:=
 bif decide (v1 > 0) then bif v1.tmod 2==1 then bif decide (v5.size + v0.size≤9223372036854775807) then bif decide (v0.size + v0.size≤9223372036854775807) then NX (v0++v0,IntKind.i64.wrap (v1.tdiv 2),v5++v0,()) else none else none else bif decide (v0.size + v0.size≤9223372036854775807) then NX (v0++v0,IntKind.i64.wrap (v1.tdiv 2),v5,()) else none else X2 (v5,())
def Hc:Nat→(Ab)→(Int)→(Ab) →  Option ((Ab)×Unit)
 | 0,_,_,_=>none
 | m + 1,v0,v1,v5=>Mc  (fun d=>Hc m d.1 d.2.1 d.2.2.1) (fun d=>some (d)) v0 v1 v5
def Aj8 (d:(Ab)×(Int)×(Ab)×Unit):Option ((Ab)×Unit):=(Ad (Ad (Ad Aj))) (Hc ((Ad (Ad (Ad Aj))) Mb d)) d
def Ox (a0:Ab) (a1:Int):Option ((((Ab)×Unit)×(Unit))):=
 ((fun d=>Hc (Mb d.1 d.2.1 d.2.2.1) d.1 d.2.1 d.2.2.1) (a0,a1,Af,())).bind fun val=>some (val,())
theorem Aat:∃ f,f=@Ox:=⟨_,rfl⟩
def K7:=Classical.choose Aat
theorem Aau:@K7=@Ox:=Classical.choose_spec Aat
def T4:SD:=⟨Aqr,fun x=>K7 x.1 x.2.1⟩
theorem Aj9:∀ (m n:Nat) (v0 v5:Ab),n < m→n < 1099511627776→v5.size + v0.size * n≤1099511627776→Ao (Hc m v0 n v5) fun r=>r.1.size=v5.size + v0.size * n
 | 0,n,v0,v5,h,_,_=>by omega
 | m + 1,n,v0,v5,h,hn,ht=>by
  simp only [Hc,Mc]
  refine Ao.cond (fun c=>?_) fun c=>?_
  ·have hp:0 < n:=by simpa using c
   have e:v0.size * n=2 * (v0.size * (n / 2)) + v0.size * (n % 2):=by
    conv=>lhs; rw [← Nat.div_add_mod n 2]
    rw [Nat.mul_add,Nat.mul_left_comm]
   have e':(v0.size + v0.size) * (n / 2)=2 * (v0.size * (n / 2)):=by rw [Nat.add_mul]; omega
   have hle:v0.size≤v0.size * n:=Nat.le_mul_of_pos_right _ hp
   have e1:IntKind.i64.wrap (Int.tdiv (n:Int) 2)=((n / 2:Nat):Int):=by
    rw [Int.tdiv_eq_ediv_of_nonneg (by omega),Al (by omega) (by omega)]
    rfl
   have e2:(Int.tmod (n:Int) 2==1)=decide (n % 2=1):=by
    rw [Int.tmod_eq_emod_of_nonneg (by omega)]
    by_cases q:n % 2=1
    ·rw [Ag q]; simp; omega
    ·rw [Bi q]; simp; omega
   rw [e1,e2]
   refine Ao.cond (fun c=>?_) fun c=>?_
   ·rw [Fw c,Nat.mul_one] at e
    refine Ao.go (Ag (by omega)) (Ao.go (Ag (by omega)) ?_)
    refine (Aj9 m (n / 2) (v0++v0) (v5++v0) (by omega) (by omega) (by simp only [ByteArray.size_append]; omega)).mono fun r q=>?_
    simp only [ByteArray.size_append] at q
    omega
   ·have c:=of_decide_eq_false c
    rw [show n % 2=0 by omega,Nat.mul_zero] at e
    refine Ao.go (Ag (by omega)) ?_
    refine (Aj9 m (n / 2) (v0++v0) v5 (by omega) (by omega) (by simp only [ByteArray.size_append]; omega)).mono fun r q=>?_
    simp only [ByteArray.size_append] at q
    omega
  ·have:n=0:=by simpa using c
   subst this
   exact Ao.some (by simp)
theorem A2g (s:Ab) (n:Int) (h0:0≤n) (h1:n≤10000) (hs:s.size≤10000):Ao (K7 s n) fun r=>r.1.1.size=s.size * n.toNat:=by
 obtain ⟨k,rfl⟩:∃ k:Nat,n=(k:Int):=⟨n.toNat,by omega⟩
 rw [Aau]
 unfold Ox
 have hk:s.size * k≤10000 * 10000:=Nat.mul_le_mul hs (by omega)
 refine Ao.bind (Aj9 _ k s (Af) (by simp [Mb]) (by omega) (by show 0 + s.size * k≤_; omega)) fun r q=>Ao.some ?_
 rw [Kx]
 exact q.trans (Nat.zero_add _)
def Yg {R:Type} (k:Kt R):=(N3 (Jy 3) (.exit 0) 2 k)
def Adm {R:Type}:Lt R Jy:=(G3 (pat:=Jy) 3 (fun d k=>(Aj8 d).bind (Yg k)) Jo)
theorem Aav:A4 Try.prog Aas:=A9 trivial
theorem Aka {R:Type}:Bg Try.prog R 20 0 Jy Adm Yf:=
 C8 (cfg:=⟨Aas,0,20,Jy⟩) 3 [] (fun NX X d=>(Ad (Ad (Ad Aj))) (Mc  NX X) d) (fun m d=>(Ad (Ad (Ad Aj))) (Hc m) d) (fun d=>(Ad (Ad (Ad Aj))) Mb d) Yg Aav trivial (fun f NX d=>by simp only [u4,Ad,Aj]; unfold Mc; simp only [nb])
theorem Aaw:Cg Try.prog 72 T4:=
 Ba (pat:=Jy) [Yf] Adm Aav ⟨Aka,trivial⟩ Try.func72 (de:=fun x=>Ox x.1 x.2.1) (fun x r h=>by have q:K7 x.1 x.2.1=some r:=h; rw [Aau] at q; exact q) fun _=>by kernel_rfl
def Hd (d:Dk) (at_:Int) (data:Ab):Bool:=x5 d.1.length (at_,data,())
def Ahi:H6:=⟨[.rd yDk,.rd tI,.rd .str],[some 2,none,none],[.rd .bool],[none]⟩
def Oy:SD:=⟨Ahi,fun x=>some (((Hd x.1 x.2.1 x.2.2.1),()),(()))⟩
def Oz (a0:Dk) (a1:Int) (a2:Ab):Option ((((Bool)×Unit)×(Unit))):=
 bif decide (a1≥0) then bif decide (a1 < nI (List.length a0.1)) then some ((nI a2.size==64,()),()) else some ((false,()),()) else some ((false,()),())
theorem Ahj (a0:Dk) (a1:Int) (a2:Ab):Oz a0 a1 a2=some ((Hd a0 a1 a2,()),()):=by
 unfold Oz Hd x5
 have e:(nI (ByteArray.size a2)==64)=decide (a2.size=64):=by
  have:=A7i a2.size 64
  simp only [bne] at this
  cases h:(nI (ByteArray.size a2)==((64:Nat):Int))<;>rw [h] at this<;>cases h2:decide (a2.size=64)<;>rw [h2] at this<;>first | (cases this; done) | exact h
 rw [e]
 by_cases h1:a1≥0
 ·have:decide (0≤a1)=true:=by simpa using h1
  rw [Ag h1]
  simp only [this,cond_true,Bool.true_and,nI]
  cases decide (a1 < (a0.1.length:Int))<;>rfl
 ·have:decide (0≤a1)=false:=by simpa using h1
  rw [Bi h1]
  simp only [this]
  rfl
theorem V0:Cg Try.prog 49 Oy:=
 Ba (pat:=Eo) [] Jo (A9 (l:=[]) trivial) trivial Try.func49 (de:=fun x=>Oz x.1 x.2.1 x.2.2.1) (fun x r h=>(Ahj x.1 x.2.1 x.2.2.1).trans h) fun _=>by kernel_rfl
def Er (d:Dk):Bool:=Az d
def Ahk:H6:=⟨[.rd yDk],[some 2],[.rd .bool],[none]⟩
def Gi:SD:=⟨Ahk,fun x=>some (((Er x.1),()),(()))⟩
def O0:Tb:=tb [(49,Oy)]
def B2:Nat→Dv×(Nat→Dv):=Jc [(5,⟨[.boxSl 1 0 .str,.boxSl 1 1 Db],[(1,.lf (.ptr 0 0)),(3,.lf (.d tI))],[.box 41 [.d (.sl .str),.d (.sl Db)]]⟩,[(2,⟨[.boxSl 1 0 .str,.boxSl 1 1 Db],[(1,.lf (.ptr 0 0))],[.box 41 [.d (.sl .str),.d (.sl Db)]]⟩),(1,⟨[],[(2,.lf (.d .bool))],[]⟩)]),(10,⟨[.boxSl 1 0 .str,.boxSl 1 1 Db],[(1,.lf (.ptr 0 0)),(4,.lf (.d tI))],[.box 41 [.d (.sl .str),.d (.sl Db)]]⟩,[(4,p0),(1,⟨[],[(2,.lf (.d .bool))],[]⟩)])]
def R8:Code:=(Ax (Bs Try.f19)).getD 0 .skip
def Q4:Code:=(Ax (Bs Try.f19)).getD 1 .skip
def Dg (v4:Int) (b0_0:List Ab) (b0_1:List Wr):Nat:=((b0_1.length:Int) - v4).toNat + 1
def F6 {R:Type}  (NX:((Int)×(List Ab)×(List Wr)×Unit)→Option R) (X4:(Unit)→Option R) (X1:((Bool)×Unit)→Option R) (v4:Int) (b0_0:List Ab) (b0_1:List Wr):Option R:=
 bif decide (v4 < nI b0_1.length) then bif decide (0≤v4) then bif decide (v4 < nI b0_1.length) then bif decide (0≤v4) then bif decide (v4 < nI b0_1.length) then bif !Hd (b0_0,b0_1,()) (b0_1.getD v4.toNat (0,Af,())).1 (b0_1.getD v4.toNat (0,Af,())).2.1 then X1 (false,()) else NX (IntKind.i64.wrap (v4 + 1),b0_0,b0_1,()) else none else none else none else none else X4 PUnit.unit
def Bo:Nat→(Int)→(List Ab)→(List Wr) →  Option ((Unit) ⊕ ((Bool)×Unit))
 | 0,_,_,_=>none
 | m + 1,v4,b0_0,b0_1=>F6  (fun d=>Bo m d.1 d.2.1 d.2.2.1) (fun d=>some (.inl (d))) (fun d=>some (.inr (d))) v4 b0_0 b0_1
def Aax (d:(Int)×(List Ab)×(List Wr)×Unit):Option ((Unit) ⊕ ((Bool)×Unit)):=(Ad (Ad (Ad Aj))) (Bo ((Ad (Ad (Ad Aj))) Dg d)) d
def Dx (v3:Int) (b0_0:List Ab) (b0_1:List Wr):Nat:=((b0_0.length:Int) - v3).toNat + 1
def Gw {R:Type}  (NX:((Int)×(List Ab)×(List Wr)×Unit)→Option R) (X2:Dk→Option R) (X1:((Bool)×Unit)→Option R) (v3:Int) (b0_0:List Ab) (b0_1:List Wr):Option R:=
 bif decide (v3 < nI b0_0.length) then bif decide (0≤v3) then bif decide (v3 < nI b0_0.length) then bif nI (ByteArray.size (b0_0.getD v3.toNat (Af))) != 64 then X1 (false,()) else NX (IntKind.i64.wrap (v3 + 1),b0_0,b0_1,()) else none else none else X2 (b0_0,b0_1,())
def Bv:Nat→(Int)→(List Ab)→(List Wr) →  Option (Dk ⊕ ((Bool)×Unit))
 | 0,_,_,_=>none
 | m + 1,v3,b0_0,b0_1=>Gw  (fun d=>Bv m d.1 d.2.1 d.2.2.1) (fun d=>some (.inl (d))) (fun d=>some (.inr (d))) v3 b0_0 b0_1
def Acu (d:(Int)×(List Ab)×(List Wr)×Unit):Option (Dk ⊕ ((Bool)×Unit)):=(Ad (Ad (Ad Aj))) (Bv ((Ad (Ad (Ad Aj))) Dx d)) d
def O1 (a0:Dk):Option ((((Bool)×Unit)×(Unit))):=
 bif decide (nI (List.length a0.1) < 8) then some ((false,()),()) else bif decide (nI (List.length a0.1) > 200) then some ((false,()),()) else bif decide (nI (List.length a0.2.1) > 300) then some ((false,()),()) else ((fun d=>Bv (Dx d.1 d.2.1 d.2.2.1) d.1 d.2.1 d.2.2.1) (0,a0)).bind fun val=>Gu (fun d=>((fun d=>Bo (Dg d.1 d.2.1 d.2.2.1) d.1 d.2.1 d.2.2.1) (0,d)).bind fun val=>Gu (fun d=>some ((true,()),())) (fun d=>some (d,())) val) (fun d=>some (d,())) val
theorem Ahl (a0:Dk):O1 a0=some ((Er a0,()),()):=by
 unfold O1 Er Az
 have c1:decide (nI a0.2.1.length > 300)=!decide (a0.2.1.length≤300):=Atv _ 300
 have c2:decide (nI a0.1.length > 200)=!decide ((a0.1.length:Int)≤200):=by
  rw [show decide (nI a0.1.length > 200)=!decide (a0.1.length≤200) from Atv _ 200]
  congr 1
  exact decide_eq_decide.2 (by omega)
 have c3:decide (nI a0.1.length < 8)=!decide (8≤(a0.1.length:Int)):=by
  by_cases q:8≤(a0.1.length:Int)
  ·rw [Ag q,Bi (by simp [nI]; omega)]; rfl
  ·rw [Bi q,Ag (by simp [nI]; omega)]; rfl
 rw [c1,c2,c3]
 unfold Cj
 by_cases h8:8≤(a0.1.length:Int)
 ·rw [Ag h8]
  by_cases h2:(a0.1.length:Int)≤200
  ·rw [Ag h2]
   by_cases hp:a0.2.1.length≤300
   ·rw [Ag hp]
    have hL:=Tf (n:=a0.1.length) (fun i=>decide ((a0.1.getD i z0).size=64)) (g:=fun m i=>Bv m i a0.1 a0.2.1) (ok:=.inl (a0.1,a0.2.1,())) (bad:=.inr (false,())) (fun m i hi=>by
     show Bv (m + 1) i a0.1 a0.2.1=_
     simp only [Bv,Gw]
     have g1:(nI (ByteArray.size (List.getD a0.1 i (Af))) != 64)=!decide ((a0.1.getD i z0).size=64):=A7i _ 64
     rw [cLt hi,Nd,wI (show i < 4611686018427387904 by omega),Kx,g1]
     cases decide ((a0.1.getD i z0).size=64)<;>rfl) (fun m=>by
     show Bv (m + 1) (a0.1.length:Int) a0.1 a0.2.1=_
     simp only [Bv,Gw]
     rw [Zr]
     rfl) (Dx 0 a0.1 a0.2.1) 0 (by omega) (by simp [Dx])
    have hL':Bv (Dx 0 a0.1 a0.2.1) 0 a0.1 a0.2.1=_:=hL
    have hM:=Tf (n:=a0.2.1.length) (fun i=>x5 a0.1.length (a0.2.1.getD i zW)) (g:=fun m i=>Bo m i a0.1 a0.2.1) (ok:=.inl ()) (bad:=.inr (false,())) (fun m i hi=>by
     show Bo (m + 1) i a0.1 a0.2.1=_
     simp only [Bo,F6]
     rw [cLt hi,Nd,wI (show i < 4611686018427387904 by omega),Kx]
     show (bif !x5 a0.1.length (a0.2.1.getD i zW) then _ else _)=_
     cases x5 a0.1.length (a0.2.1.getD i zW)<;>rfl) (fun m=>by
     show Bo (m + 1) (a0.2.1.length:Int) a0.1 a0.2.1=_
     simp only [Bo,F6]
     rw [Zr]
     rfl) (Dg 0 a0.1 a0.2.1) 0 (by omega) (by simp [Dg])
    have hM':Bo (Dg 0 a0.1 a0.2.1) 0 a0.1 a0.2.1=_:=hM
    show (Bv (Dx 0 a0.1 a0.2.1) 0 a0.1 a0.2.1).bind _=_
    rw [hL']
    rw [Nat.sub_zero] at hM' ⊢
    cases (List.range' 0 a0.1.length).all (fun i=>decide ((a0.1.getD i z0).size=64)) with
    | false=>rfl
    | true=>
     show (Bo (Dg 0 a0.1 a0.2.1) 0 a0.1 a0.2.1).bind _=_
     rw [hM']
     cases (List.range' 0 a0.2.1.length).all (fun i=>x5 a0.1.length (a0.2.1.getD i zW))<;>rfl
   ·rw [Bi hp]
    rfl
  ·rw [Bi h2]
   rfl
 ·rw [Bi h8]
  rfl
def R9 {R:Type} (k:Kt R):=(Gu (N3 (B2 5) (.exit 0) 2 k) (N3 (B2 5) .ret 1 k))
def Q5 {R:Type} (k:Kt R):=(Gu (N3 (B2 10) (.exit 2) 4 k) (N3 (B2 10) .ret 1 k))
def Qh {R:Type}:Lt R B2:=(G3 (pat:=B2) 5 (fun d k=>(Acu d).bind (R9 k)) (G3 (pat:=B2) 10 (fun d k=>(Aax d).bind (Q5 k)) Jo))
theorem O2:A4 Try.prog O0:=A9 ⟨V0,trivial⟩
theorem Aay {R:Type}:Bg Try.prog R 57 0 B2 Qh Q4:=
 C8 (cfg:=⟨O0,0,57,B2⟩) 10 [] (fun NX X d=>(Ad (Ad (Ad Aj))) (F6  NX (fun e=>X (.inl (e))) (fun e=>X (.inr (e)))) d) (fun m d=>(Ad (Ad (Ad Aj))) (Bo m) d) (fun d=>(Ad (Ad (Ad Aj))) Dg d) Q5 O2 trivial (fun f NX d=>by simp only [u4,Ad,Aj]; unfold F6; simp only [nb])
theorem Acv {R:Type}:Bg Try.prog R 57 0 B2 Qh R8:=
 C8 (cfg:=⟨O0,0,57,B2⟩) 5 [] (fun NX X d=>(Ad (Ad (Ad Aj))) (Gw  NX (fun e=>X (.inl (e))) (fun e=>X (.inr (e)))) d) (fun m d=>(Ad (Ad (Ad Aj))) (Bv m) d) (fun d=>(Ad (Ad (Ad Aj))) Dx d) R9 O2 trivial (fun f NX d=>by simp only [u4,Ad,Aj]; unfold Gw; simp only [nb])
theorem Ix:Cg Try.prog 19 Gi:=
 Ba (pat:=B2) [R8,Q4] Qh O2 ⟨Acv,Aay,trivial⟩ Try.func19 (de:=fun x=>O1 x.1) (fun x r h=>(Ahl x.1).trans h) fun _=>by kernel_rfl
def F1 (d:Dk):Option Dk:=if d.2.1.length≤1099511627776∧∀ i,i < d.2.1.length→0≤(d.2.1.getD i zW).1∧(d.2.1.getD i zW).1 < (d.1.length:Int) then some (Att d) else none
def Aqs:H6:=⟨[.own 9 .str,.rd (.sl Db)],[some 2],[.own 9 .str,.own 82 Db],[some 2]⟩
def O3:SD:=⟨Aqs,fun x=>(F1 (x.1,x.2.1,())).bind fun r=>some ((r.1,r.2.1,()),(()))⟩
def Aaz:Tb:=tb []
def Jz:Nat→Dv×(Nat→Dv):=Jc [(3,⟨[.boxSl 1 1 Db,.boxRow 2 0 9 .str,.boxRow 2 1 82 Db],[(1,.lf (.ptr 1 0)),(2,.lf (.ptr 2 0)),(3,.lf (.d tI))],[.row 9 .str,.box 41 [.row 0,.d (.sl Db)],.box 41 [.row 3,.row 4],.row 9 .str,.row 82 Db]⟩,[(2,⟨[.boxSl 1 1 Db,.boxRow 2 0 9 .str,.boxRow 2 1 82 Db],[(1,.lf (.ptr 1 0)),(2,.lf (.ptr 2 0))],[.row 9 .str,.box 41 [.row 0,.d (.sl Db)],.box 41 [.row 3,.row 4],.row 9 .str,.row 82 Db]⟩)])]
def Yh:Code:=(Ax (Bs Try.f48)).getD 0 .skip
def Fr (v3:Int) (r0:List Ab) (b1_1:List Wr) (r3:List Ab) (r4:List Wr):Nat:=((b1_1.length:Int) - v3).toNat + 1
def J0 {R:Type}  (NX:((Int)×(List Ab)×(List Wr)×(List Ab)×(List Wr)×Unit)→Option R) (X2:((List Ab)×(List Wr)×(List Ab)×(List Wr)×Unit)→Option R) (v3:Int) (r0:List Ab) (b1_1:List Wr) (r3:List Ab) (r4:List Wr):Option R:=
 bif decide (v3 < nI b1_1.length) then bif decide (0≤v3) then bif decide (v3 < nI b1_1.length) then bif decide (0≤v3) then bif decide (v3 < nI b1_1.length) then bif decide (0≤(b1_1.getD v3.toNat (0,Af,())).1) then bif decide ((b1_1.getD v3.toNat (0,Af,())).1 < nI r0.length) then bif decide (Int.toNat (b1_1.getD v3.toNat (0,Af,())).1 < r0.length) then NX (IntKind.i64.wrap (v3 + 1),r0.set (Int.toNat (b1_1.getD v3.toNat (0,Af,())).1) (b1_1.getD v3.toNat (0,Af,())).2.1,b1_1,r3,r4,()) else none else none else none else none else none else none else none else X2 (r0,b1_1,r3,r4,())
def Cq:Nat→(Int)→(List Ab)→(List Wr)→(List Ab)→(List Wr) →  Option ((List Ab)×(List Wr)×(List Ab)×(List Wr)×Unit)
 | 0,_,_,_,_,_=>none
 | m + 1,v3,r0,b1_1,r3,r4=>J0  (fun d=>Cq m d.1 d.2.1 d.2.2.1 d.2.2.2.1 d.2.2.2.2.1) (fun d=>some (d)) v3 r0 b1_1 r3 r4
def Akb (d:(Int)×(List Ab)×(List Wr)×(List Ab)×(List Wr)×Unit):Option ((List Ab)×(List Wr)×(List Ab)×(List Wr)×Unit):=(u4 (Ad Aj)) (Cq ((u4 (Ad Aj)) Fr d)) d
def T5 (a0:List Ab) (a1:List Wr):Option ((Dk×(Unit))):=
 ((fun d=>Cq (Fr d.1 d.2.1 d.2.2.1 d.2.2.2.1 d.2.2.2.2.1) d.1 d.2.1 d.2.2.1 d.2.2.2.1 d.2.2.2.2.1) (0,a0,a1,[],[],())).bind fun val=>some ((val.1,[],()),())
theorem Aqt (a0:List Ab) (a1:List Wr) r (h:F1 (a0,a1,())=some r):T5 a0 a1=some ((r.1,r.2.1,()),(())):=by
 unfold F1 at h
 split at h
 ·rename_i hc
  obtain ⟨hp,hw⟩:=hc
  cases h
  have hL:=Acf (xs:=a1) zW (fun s:List Ab=>s.length=a0.length) (fun _ w s=>s.set w.1.toNat w.2.1) (g:=fun m i s=>Cq m i s a1 [] []) (ok:=fun s=>(s,a1,[],[],())) (fun m i s hi hs=>by
   show Cq (m + 1) i s a1 [] []=_
   simp only [Cq,J0]
   obtain ⟨h0,h1⟩:=hw i hi
   have c1:decide (0≤(List.getD a1 i (0,Af,())).1)=true:=Ag h0
   have c2:decide ((List.getD a1 i (0,Af,())).1 < nI s.length)=true:=Ag (by rw [hs]; exact h1)
   have c3:decide (Int.toNat (List.getD a1 i (0,Af,())).1 < s.length)=true:=Ag (by
    rw [hs]
    have:(a1.getD i zW).1.toNat < a0.length:=by
     have h0:0≤(a1.getD i zW).1:=h0
     have h1:(a1.getD i zW).1 < (a0.length:Int):=h1
     omega
    exact this)
   rw [cLt hi,Nd,wI (show i < 4611686018427387904 by have hp:a1.length≤1099511627776:=hp; omega),Kx,c1,c2,c3]
   rfl) (fun i s hi hs=>by rw [List.length_set]; exact hs) (fun m s hs=>by
   show Cq (m + 1) (a1.length:Int) s a1 [] []=_
   simp only [Cq,J0]
   rw [Zr]
   rfl) (Fr 0 a0 a1 [] []) 0 a0 (by omega) (by simp [Fr]) rfl
  have hL':Cq (Fr 0 a0 a1 [] []) 0 a0 a1 [] []=_:=hL
  unfold T5
  show (Cq (Fr 0 a0 a1 [] []) 0 a0 a1 [] []).bind _=_
  rw [hL']
  rfl
 ·cases h
def Yi {R:Type} (k:Kt R):=(N3 (Jz 3) (.exit 0) 2 k)
def Adn {R:Type}:Lt R Jz:=(G3 (pat:=Jz) 3 (fun d k=>(Akb d).bind (Yi k)) Jo)
theorem Aa0:A4 Try.prog Aaz:=A9 trivial
theorem Akc {R:Type}:Bg Try.prog R 29 1 Jz Adn Yh:=
 C8 (cfg:=⟨Aaz,1,29,Jz⟩) 3 [] (fun NX X d=>(u4 (Ad Aj)) (J0  NX X) d) (fun m d=>(u4 (Ad Aj)) (Cq m) d) (fun d=>(u4 (Ad Aj)) Fr d) Yi Aa0 trivial (fun f NX d=>by simp only [u4,Ad,Aj]; unfold J0; simp only [nb])
theorem T6:Cg Try.prog 48 O3:=
 Ba (pat:=Jz) [Yh] Adn Aa0 ⟨Akc,trivial⟩ Try.func48 (de:=fun x=>T5 x.1 x.2.1) (fun x r h=>Gd (Aqt x.1 x.2.1) h) fun _=>by kernel_rfl
def D8 (d:Dk) (ops:List Fy) (n:Int):Option Dk:=if ops.length≤1099511627776 then some (Cz d ops n) else none
def Amg:H6:=⟨[.rd yDk,.rd (.sl Is),.rd tI],[some 2,none,none],[.own 9 .str,.own 82 Db],[some 2]⟩
def b8:SD:=⟨Amg,fun x=>(D8 x.1 x.2.1 x.2.2.1).bind fun r=>some ((r.1,r.2.1,()),(()))⟩
def b9:Tb:=tb [(19,Gi),(47,Ht),(48,O3),(49,Oy)]
def Ii:Nat→Dv×(Nat→Dv):=Jc [(6,⟨[.sl 1 0 Is,.boxRow 6 0 9 .str,.boxRow 6 1 82 Db,.boxRow 7 0 9 .str,.boxRow 7 1 82 Db],[(1,.lf (.d (.sl Is))),(2,.lf (.d tI)),(6,.lf (.ptr 0 0)),(7,.lf (.ptr 1 0)),(8,.lf (.d tI))],[.box 41 [.row 2,.row 3],.box 41 [.row 4,.row 5],.row 9 .str,.row 82 Db,.row 9 .str,.row 82 Db]⟩,[(2,⟨[.boxRow 6 0 9 .str,.boxRow 6 1 82 Db,.boxRow 7 0 9 .str,.boxRow 7 1 82 Db],[(6,.lf (.ptr 0 0)),(7,.lf (.ptr 1 0))],[.box 41 [.row 2,.row 3],.box 41 [.row 4,.row 5],.row 9 .str,.row 82 Db,.row 9 .str,.row 82 Db]⟩)])]
def V1:Code:=(Ax (Bs Try.f18)).getD 0 .skip
def E2 (v1:List Fy) (v2 v8:Int) (r2:List Ab) (r3:List Wr) (r4:List Ab) (r5:List Wr):Nat:=((v1.length:Int) - v8).toNat + 1
def Iy {R:Type}  (NX:((List Fy)×(Int)×(Int)×(List Ab)×(List Wr)×(List Ab)×(List Wr)×Unit)→Option R) (X2:((List Ab)×(List Wr)×(List Ab)×(List Wr)×Unit)→Option R) (v1:List Fy) (v2:Int) (v8:Int) (r2:List Ab) (r3:List Wr) (r4:List Ab) (r5:List Wr):Option R:=
 bif decide (v8 < nI v1.length) then bif decide (v8 < v2) then bif decide (0≤v8) then bif decide (v8 < nI v1.length) then bif (v1.getD v8.toNat (false,0,Af,())).1 then ((F1 (r4,r5,())).bind fun val=>some (val,())).bind fun val=>NX (v1,v2,IntKind.i64.wrap (v8 + 1),r2,r3,val.1) else bif decide (0≤v8) then bif decide (v8 < nI v1.length) then bif decide (0≤v8) then bif decide (v8 < nI v1.length) then bif Hd (r4,r5,()) (v1.getD v8.toNat (false,0,Af,())).2.1 (v1.getD v8.toNat (false,0,Af,())).2.2.1 then bif decide (nI r5.length < 300) then bif decide (0≤v8) then bif decide (v8 < nI v1.length) then bif decide (0≤v8) then bif decide (v8 < nI v1.length) then bif decide ((r5.length + [(v1.getD v8.toNat (false,0,Af,())).2].length) * 24≤140737488355328) then NX (v1,v2,IntKind.i64.wrap (v8 + 1),r2,r3,r4,r5++[(v1.getD v8.toNat (false,0,Af,())).2],()) else none else none else none else none else none else NX (v1,v2,IntKind.i64.wrap (v8 + 1),r2,r3,r4,r5,()) else NX (v1,v2,IntKind.i64.wrap (v8 + 1),r2,r3,r4,r5,()) else none else none else none else none else none else none else X2 (r2,r3,r4,r5,()) else X2 (r2,r3,r4,r5,())
def B3:Nat→(List Fy)→(Int)→(Int)→(List Ab)→(List Wr)→(List Ab)→(List Wr) →  Option ((List Ab)×(List Wr)×(List Ab)×(List Wr)×Unit)
 | 0,_,_,_,_,_,_,_=>none
 | m + 1,v1,v2,v8,r2,r3,r4,r5=>Iy  (fun d=>B3 m d.1 d.2.1 d.2.2.1 d.2.2.2.1 d.2.2.2.2.1 d.2.2.2.2.2.1 d.2.2.2.2.2.2.1) (fun d=>some (d)) v1 v2 v8 r2 r3 r4 r5
def Ahm (d:(List Fy)×(Int)×(Int)×(List Ab)×(List Wr)×(List Ab)×(List Wr)×Unit):Option ((List Ab)×(List Wr)×(List Ab)×(List Wr)×Unit):=(u4 (Ad (Ad (Ad Aj)))) (B3 ((u4 (Ad (Ad (Ad Aj)))) E2 d)) d
def Rl (a0:Dk) (a1:List Fy) (a2:Int):Option ((Dk×(Unit))):=
 bif !Er a0 then some (([],[],()),()) else ((Cs a0).bind fun val=>some (val,())).bind fun val=>((fun d=>B3 (E2 d.1 d.2.1 d.2.2.1 d.2.2.2.1 d.2.2.2.2.1 d.2.2.2.2.2.1 d.2.2.2.2.2.2.1) d.1 d.2.1 d.2.2.1 d.2.2.2.1 d.2.2.2.2.1 d.2.2.2.2.2.1 d.2.2.2.2.2.2.1) (a1,a2,0,[],[],val.1)).bind fun val=>some (val.2.2,())
theorem Amh (a0:Dk) (a1:List Fy) (a2:Int) r (h:D8 a0 a1 a2=some r):Rl a0 a1 a2=some ((r.1,r.2.1,()),(())):=by
 unfold D8 at h
 split at h
 rotate_left
 ·cases h
 rename_i hlen
 cases h
 unfold Rl Cz
 show (bif !Az a0 then _ else _)=_
 cases hv:Az a0 with
 | false=>rfl
 | true=>
  have hok:=Kh hv
  have e1:Cs (a0.1,a0.2.1,())=some (a0.1,a0.2.1,()):=if_pos ⟨Nat.le_trans hok.n200 (by decide),Nat.le_trans hok.p300 (by decide)⟩
  have hxl:(a1.take a2.toNat).length=min a2.toNat a1.length:=List.length_take
  have hL:=Jd (xs:=a1.take a2.toNat) zOp (fun _ d=>Eu d) (fun _ o d=>opS d o) (g:=fun m i d=>B3 m a1 a2 i [] [] d.1 d.2.1) (ok:=fun d:Dk=>([],[],d.1,d.2.1,())) (fun m i d hi hI=>by
   show B3 (m + 1) a1 a2 i [] [] d.1 d.2.1=_
   simp only [B3,Iy]
   rw [hxl] at hi
   have hi1:i < a1.length:=by omega
   have hi2:decide ((i:Int) < a2)=true:=Ag (by omega)
   have hg:(a1.take a2.toNat).getD i zOp=List.getD a1 i (false,0,Af,()):=by
    rw [List.getD_eq_getElem?_getD,List.getElem?_take,if_pos (by omega),← List.getD_eq_getElem?_getD]
    rfl
   rw [hg,hi2,cLt hi1,Nd,wI (show i < 4611686018427387904 by omega),Kx]
   simp only [cond_true]
   generalize List.getD a1 i (false,0,Af,())=o
   unfold opS
   cases ho:o.1 with
   | true=>
    simp only [cond_true]
    have e2:F1 (d.1,d.2.1,())=some (Att d):=if_pos ⟨Nat.le_trans hI.p300 (by decide),fun k hk=>⟨(hI.pen k hk).1,(hI.pen k hk).2.1⟩⟩
    rw [e2]
    rfl
   | false=>
    simp only [cond_false]
    have hn:=hI.n8
    have hn2:=hI.n200
    have hp:=hI.p300
    have e4:decide (nI d.2.1.length < 300)=decide (d.2.1.length < 300):=decide_eq_decide.2 (by simp only [nI]; omega)
    have e5:decide ((d.2.1.length + 1) * 24≤140737488355328)=true:=Ag (by omega)
    simp only [Et,e4,e5,Hd,x5,cond_true]
    show _=B3 m a1 a2 _ [] [] (bif (decide (0≤o.2.1)&&(decide (o.2.1 < (d.1.length:Int))&&decide (o.2.2.1.size=64)))&&decide (d.2.1.length < 300) then (d.1,d.2.1++[(o.2.1,o.2.2.1,())],()) else d).1 (bif (decide (0≤o.2.1)&&(decide (o.2.1 < (d.1.length:Int))&&decide (o.2.2.1.size=64)))&&decide (d.2.1.length < 300) then (d.1,d.2.1++[(o.2.1,o.2.2.1,())],()) else d).2.1
    cases decide (0≤o.2.1)<;>cases decide (o.2.1 < (d.1.length:Int))<;>cases decide (o.2.2.1.size=64)<;>cases decide (d.2.1.length < 300)<;>rfl) (fun i d hi hI=>hI.op _) (fun m d hI=>by
   show B3 (m + 1) a1 a2 (((a1.take a2.toNat).length:Nat):Int) [] [] d.1 d.2.1=_
   simp only [B3,Iy]
   rw [hxl]
   by_cases q:((min a2.toNat a1.length:Nat):Int) < a2
   ·rw [Bi (show ¬ ((min a2.toNat a1.length:Nat):Int) < nI a1.length by simp only [nI]; omega)]
    rfl
   ·rw [Bi q]
    cases decide (((min a2.toNat a1.length:Nat):Int) < nI a1.length)<;>rfl) (E2 a1 a2 0 [] [] a0.1 a0.2.1) 0 a0 (by omega) (by rw [hxl]; simp only [E2,nI]; omega) hok
  have hL':B3 (E2 a1 a2 0 [] [] a0.1 a0.2.1) a1 a2 0 [] [] a0.1 a0.2.1=_:=hL
  simp only [Bool.not_true,cond_false]
  rw [e1]
  show (B3 (E2 a1 a2 0 [] [] a0.1 a0.2.1) a1 a2 0 [] [] a0.1 a0.2.1).bind _=_
  rw [hL',List.drop_zero]
  have hf:∀ (l:List Fy) (i:Nat) (d:Dk),Hk (fun _ o d=>opS d o) i l d=l.foldl opS d:=fun l=>by
   induction l with
   | nil=>intro i d; rfl
   | cons o r ih=>intro i d; exact ih _ _
  rw [hf]
  rfl
def V2 {R:Type} (k:Kt R):=(N3 (Ii 6) (.exit 0) 2 k)
def Aa1 {R:Type}:Lt R Ii:=(G3 (pat:=Ii) 6 (fun d k=>(Ahm d).bind (V2 k)) Jo)
theorem c7:A4 Try.prog b9:=A9 ⟨Ix,Jv,T6,V0,trivial⟩
theorem Ahn {R:Type}:Bg Try.prog R 68 0 Ii Aa1 V1:=
 C8 (cfg:=⟨b9,0,68,Ii⟩) 6 [] (fun NX X d=>(u4 (Ad (Ad (Ad Aj)))) (Iy  NX X) d) (fun m d=>(u4 (Ad (Ad (Ad Aj)))) (B3 m) d) (fun d=>(u4 (Ad (Ad (Ad Aj)))) E2 d) V2 c7 trivial (fun f NX d=>by simp only [u4,Ad,Aj]; unfold Iy; simp only [nb])
theorem Ami:Cg Try.prog 18 b8:=
 Ba (pat:=Ii) [V1] Aa1 c7 ⟨Ahn,trivial⟩ Try.func18 (de:=fun x=>Rl x.1 x.2.1 x.2.2.1) (fun x r h=>Gd (Amh x.1 x.2.1 x.2.2.1) h) fun _=>by kernel_rfl
def He (d:Dk) (f:List Int):Dk:=Jp d f
def Dy (v1:List Int) (v6:Int) (r2:List Ab) (r3:List Wr) (r4:List Ab) (r5:List Wr):Nat:=((r5.length:Int) - v6).toNat + 1
def Aho:H6:=⟨[.rd yDk,.rd (.sl tI)],[some 2,none],[.own 9 .str,.own 82 Db],[some 2]⟩
def V3:SD:=⟨Aho,fun x=>some (((He x.1 x.2.1).1,(He x.1 x.2.1).2.1,()),(()))⟩
def V4:Tb:=tb [(19,Gi),(47,Ht)]
def Gj:Nat→Dv×(Nat→Dv):=Jc [(6,⟨[.sl 1 0 tI,.boxRow 4 0 9 .str,.boxRow 4 1 82 Db,.boxRow 5 0 9 .str,.boxRow 5 1 82 Db],[(1,.lf (.d (.sl tI))),(4,.lf (.ptr 0 0)),(5,.lf (.ptr 1 0)),(6,.lf (.d tI))],[.box 41 [.row 2,.row 3],.box 41 [.row 4,.row 5],.row 9 .str,.row 82 Db,.row 9 .str,.row 82 Db]⟩,[(2,⟨[.boxRow 4 0 9 .str,.boxRow 4 1 82 Db,.boxRow 5 0 9 .str,.boxRow 5 1 82 Db],[(4,.lf (.ptr 0 0)),(5,.lf (.ptr 1 0))],[.box 41 [.row 2,.row 3],.box 41 [.row 4,.row 5],.row 9 .str,.row 82 Db,.row 9 .str,.row 82 Db]⟩)])]
def Sa:Code:=(Ax (Bs Try.f115)).getD 0 .skip
def Gy {R:Type}  (NX:((List Int)×(Int)×(List Ab)×(List Wr)×(List Ab)×(List Wr)×Unit)→Option R) (X2:((List Ab)×(List Wr)×(List Ab)×(List Wr)×Unit)→Option R) (v1:List Int) (v6:Int) (r2:List Ab) (r3:List Wr) (r4:List Ab) (r5:List Wr):Option R:=
 bif decide (v6 < nI r5.length) then bif decide (v6 < nI v1.length) then bif decide (0≤v6) then bif decide (v6 < nI v1.length) then bif decide (v1.getD v6.toNat 0 < 0) then bif decide (0≤v6) then bif decide (v6 < nI r5.length) then bif decide (0≤(r5.getD v6.toNat (0,Af,())).1) then bif decide ((r5.getD v6.toNat (0,Af,())).1 < nI r4.length) then bif decide ((Ae (r5.getD v6.toNat (0,Af,())).2.1 0 0).size + (Ae (r4.getD (Int.toNat (r5.getD v6.toNat (0,Af,())).1) (Af)) 0 (nI (ByteArray.size (r4.getD (Int.toNat (r5.getD v6.toNat (0,Af,())).1) (Af))))).size≤9223372036854775807) then bif decide (0≤(r5.getD v6.toNat (0,Af,())).1) then bif decide ((r5.getD v6.toNat (0,Af,())).1 < nI r4.length) then bif decide (Int.toNat (r5.getD v6.toNat (0,Af,())).1 < r4.length) then NX (v1,IntKind.i64.wrap (v6 + 1),r2,r3,r4.set (Int.toNat (r5.getD v6.toNat (0,Af,())).1) (Ae (r5.getD v6.toNat (0,Af,())).2.1 0 0++Ae (r4.getD (Int.toNat (r5.getD v6.toNat (0,Af,())).1) (Af)) 0 (nI (ByteArray.size (r4.getD (Int.toNat (r5.getD v6.toNat (0,Af,())).1) (Af))))),r5,()) else none else none else none else none else none else none else none else none else bif decide (v1.getD v6.toNat 0 > 64) then bif decide (0≤v6) then bif decide (v6 < nI r5.length) then bif decide (64≤nI (ByteArray.size (r5.getD v6.toNat (0,Af,())).2.1)) then bif decide (0≤(r5.getD v6.toNat (0,Af,())).1) then bif decide ((r5.getD v6.toNat (0,Af,())).1 < nI r4.length) then bif decide (64≤nI (ByteArray.size (r4.getD (Int.toNat (r5.getD v6.toNat (0,Af,())).1) (Af)))) then bif decide ((Ae (r5.getD v6.toNat (0,Af,())).2.1 0 64).size + (Ae (r4.getD (Int.toNat (r5.getD v6.toNat (0,Af,())).1) (Af)) 64 (nI (ByteArray.size (r4.getD (Int.toNat (r5.getD v6.toNat (0,Af,())).1) (Af))))).size≤9223372036854775807) then bif decide (0≤(r5.getD v6.toNat (0,Af,())).1) then bif decide ((r5.getD v6.toNat (0,Af,())).1 < nI r4.length) then bif decide (Int.toNat (r5.getD v6.toNat (0,Af,())).1 < r4.length) then NX (v1,IntKind.i64.wrap (v6 + 1),r2,r3,r4.set (Int.toNat (r5.getD v6.toNat (0,Af,())).1) (Ae (r5.getD v6.toNat (0,Af,())).2.1 0 64++Ae (r4.getD (Int.toNat (r5.getD v6.toNat (0,Af,())).1) (Af)) 64 (nI (ByteArray.size (r4.getD (Int.toNat (r5.getD v6.toNat (0,Af,())).1) (Af))))),r5,()) else none else none else none else none else none else none else none else none else none else none else bif decide (0≤v6) then bif decide (v6 < nI r5.length) then bif decide (0≤v1.getD v6.toNat 0) then bif decide (v1.getD v6.toNat 0≤nI (ByteArray.size (r5.getD v6.toNat (0,Af,())).2.1)) then bif decide (0≤(r5.getD v6.toNat (0,Af,())).1) then bif decide ((r5.getD v6.toNat (0,Af,())).1 < nI r4.length) then bif decide (0≤v1.getD v6.toNat 0) then bif decide (v1.getD v6.toNat 0≤nI (ByteArray.size (r4.getD (Int.toNat (r5.getD v6.toNat (0,Af,())).1) (Af)))) then bif decide ((Ae (r5.getD v6.toNat (0,Af,())).2.1 0 (v1.getD v6.toNat 0)).size + (Ae (r4.getD (Int.toNat (r5.getD v6.toNat (0,Af,())).1) (Af)) (v1.getD v6.toNat 0) (nI (ByteArray.size (r4.getD (Int.toNat (r5.getD v6.toNat (0,Af,())).1) (Af))))).size≤9223372036854775807) then bif decide (0≤(r5.getD v6.toNat (0,Af,())).1) then bif decide ((r5.getD v6.toNat (0,Af,())).1 < nI r4.length) then bif decide (Int.toNat (r5.getD v6.toNat (0,Af,())).1 < r4.length) then NX (v1,IntKind.i64.wrap (v6 + 1),r2,r3,r4.set (Int.toNat (r5.getD v6.toNat (0,Af,())).1) (Ae (r5.getD v6.toNat (0,Af,())).2.1 0 (v1.getD v6.toNat 0)++Ae (r4.getD (Int.toNat (r5.getD v6.toNat (0,Af,())).1) (Af)) (v1.getD v6.toNat 0) (nI (ByteArray.size (r4.getD (Int.toNat (r5.getD v6.toNat (0,Af,())).1) (Af))))),r5,()) else none else none else none else none else none else none else none else none else none else none else none else none else none else none else bif decide (0≤v6) then bif decide (v6 < nI r5.length) then bif decide (0≤(r5.getD v6.toNat (0,Af,())).1) then bif decide ((r5.getD v6.toNat (0,Af,())).1 < nI r4.length) then bif decide ((Ae (r5.getD v6.toNat (0,Af,())).2.1 0 0).size + (Ae (r4.getD (Int.toNat (r5.getD v6.toNat (0,Af,())).1) (Af)) 0 (nI (ByteArray.size (r4.getD (Int.toNat (r5.getD v6.toNat (0,Af,())).1) (Af))))).size≤9223372036854775807) then bif decide (0≤(r5.getD v6.toNat (0,Af,())).1) then bif decide ((r5.getD v6.toNat (0,Af,())).1 < nI r4.length) then bif decide (Int.toNat (r5.getD v6.toNat (0,Af,())).1 < r4.length) then NX (v1,IntKind.i64.wrap (v6 + 1),r2,r3,r4.set (Int.toNat (r5.getD v6.toNat (0,Af,())).1) (Ae (r5.getD v6.toNat (0,Af,())).2.1 0 0++Ae (r4.getD (Int.toNat (r5.getD v6.toNat (0,Af,())).1) (Af)) 0 (nI (ByteArray.size (r4.getD (Int.toNat (r5.getD v6.toNat (0,Af,())).1) (Af))))),r5,()) else none else none else none else none else none else none else none else none else X2 (r2,r3,r4,r5,())
def Bw:Nat→(List Int)→(Int)→(List Ab)→(List Wr)→(List Ab)→(List Wr) →  Option ((List Ab)×(List Wr)×(List Ab)×(List Wr)×Unit)
 | 0,_,_,_,_,_,_=>none
 | m + 1,v1,v6,r2,r3,r4,r5=>Gy  (fun d=>Bw m d.1 d.2.1 d.2.2.1 d.2.2.2.1 d.2.2.2.2.1 d.2.2.2.2.2.1) (fun d=>some (d)) v1 v6 r2 r3 r4 r5
def Acw (d:(List Int)×(Int)×(List Ab)×(List Wr)×(List Ab)×(List Wr)×Unit):Option ((List Ab)×(List Wr)×(List Ab)×(List Wr)×Unit):=(u4 (Ad (Ad Aj))) (Bw ((u4 (Ad (Ad Aj))) Dy d)) d
def O4 (a0:Dk) (a1:List Int):Option ((Dk×(Unit))):=
 bif !Er a0 then some (([],[],()),()) else ((Cs a0).bind fun val=>some (val,())).bind fun val=>((fun d=>Bw (Dy d.1 d.2.1 d.2.2.1 d.2.2.2.1 d.2.2.2.2.1 d.2.2.2.2.2.1) d.1 d.2.1 d.2.2.1 d.2.2.2.1 d.2.2.2.2.1 d.2.2.2.2.2.1) (a1,0,[],[],val.1)).bind fun val=>some ((val.2.2.1,[],()),())
theorem Ahp (a0:Dk) (a1:List Int):O4 a0 a1=some (((He a0 a1).1,(He a0 a1).2.1,()),(())):=by
 unfold O4 He Jp
 show (bif !Az a0 then _ else _)=_
 cases hv:Az a0 with
 | false=>rfl
 | true=>
  obtain ⟨k1,k2,k3,k4,k5⟩:=Kh hv
  have e1:Cs (a0.1,a0.2.1,())=some (a0.1,a0.2.1,()):=if_pos ⟨by show a0.1.length≤_; omega,by show a0.2.1.length≤_; omega⟩
  have hL:=Acf (xs:=a0.2.1) zW (Ald a0.1.length) (fun i w s=>s.set w.1.toNat (A7h w.2.1 (s.getD w.1.toNat z0) (W1 a1 i))) (g:=fun m i s=>Bw m a1 i [] [] s a0.2.1) (ok:=fun s=>([],[],s,a0.2.1,())) (fun m i s hi hI=>by
   show Bw (m + 1) a1 i [] [] s a0.2.1=_
   simp only [Bw,Gy]
   obtain ⟨w0,w1,w2⟩:=k5 i hi
   have h0:0≤(List.getD a0.2.1 i (0,Af,())).1:=w0
   have h1:(List.getD a0.2.1 i (0,Af,())).1 < nI s.length:=by rw [hI.1]; exact w1
   have hsz:ByteArray.size (List.getD a0.2.1 i (0,Af,())).2.1=64:=w2
   have hj:Int.toNat (List.getD a0.2.1 i (0,Af,())).1 < s.length:=by
    have h1:(List.getD a0.2.1 i (0,Af,())).1 < (s.length:Int):=h1
    omega
   have hs2:ByteArray.size (List.getD s (Int.toNat (List.getD a0.2.1 i (0,Af,())).1) (Af))=64:=hI.2 _ (by rw [← hI.1]; exact hj)
   have hsum:∀ k:Int,0≤k→k≤64→ByteArray.size (Ae (List.getD a0.2.1 i (0,Af,())).2.1 0 k) + ByteArray.size (Ae (List.getD s (Int.toNat (List.getD a0.2.1 i (0,Af,())).1) (Af)) k (nI (ByteArray.size (List.getD s (Int.toNat (List.getD a0.2.1 i (0,Af,())).1) (Af)))))≤9223372036854775807:=by
    intro k q0 q1
    rw [Cw (by omega) q0 (by rw [hsz]; omega),Cw q0 (by rw [hs2]; simp only [nI]; omega) (by rw [hs2]; simp [nI])]
    rw [hs2]
    simp only [nI]
    omega
   rw [cLt hi,Nd,wI (show i < 4611686018427387904 by omega),Kx]
   by_cases hf:i < a1.length
   ·have hfa:W1 a1 i=Te (List.getD a1 i 0):=if_pos hf
    rw [cLt hf,hfa]
    by_cases q0:(List.getD a1 i 0) < 0
    ·have hz:Te (List.getD a1 i 0)=0:=if_pos q0
     rw [Ag q0,Ag h0,Ag h1,Ag (hsum 0 (by omega) (by omega)),Ag hj,hz]
     rfl
    ·rw [Bi q0]
     by_cases q1:(List.getD a1 i 0) > 64
     ·have hz:Te (List.getD a1 i 0)=64:=(if_neg q0).trans (if_pos q1)
      have c2:(64:Int)≤nI (ByteArray.size (List.getD a0.2.1 i (0,Af,())).2.1):=by rw [hsz]; exact Int.le_refl _
      have c5:(64:Int)≤nI (ByteArray.size (List.getD s (Int.toNat (List.getD a0.2.1 i (0,Af,())).1) (Af))):=by rw [hs2]; exact Int.le_refl _
      rw [Ag q1,Ag c2,Ag h0,Ag h1,Ag c5,Ag (hsum 64 (by omega) (by omega)),Ag hj,hz]
      rfl
     ·have hz:Te (List.getD a1 i 0)=(List.getD a1 i 0):=(if_neg q0).trans (if_neg q1)
      have c1:0≤(List.getD a1 i 0):=by omega
      have c2:(List.getD a1 i 0)≤nI (ByteArray.size (List.getD a0.2.1 i (0,Af,())).2.1):=by rw [hsz]; simp only [nI]; omega
      have c5:(List.getD a1 i 0)≤nI (ByteArray.size (List.getD s (Int.toNat (List.getD a0.2.1 i (0,Af,())).1) (Af))):=by rw [hs2]; simp only [nI]; omega
      rw [Bi q1,Ag c1,Ag c2,Ag h0,Ag h1,Ag c5,Ag (hsum _ c1 (by omega)),Ag hj,hz]
      rfl
   ·have hfa:W1 a1 i=0:=if_neg hf
    have nf:¬ (i:Int) < nI a1.length:=by simp only [nI]; omega
    rw [Bi nf,Ag h0,Ag h1,Ag (hsum 0 (by omega) (by omega)),Ag hj,hfa]
    rfl) (fun i s hi hI=>hI.set (Atx (k5 i hi).2.2 (hI.2 _ (by
   have q:=k5 i hi
   omega)) (Agt a1 i).1 (Agt a1 i).2)) (fun m s hI=>by
   show Bw (m + 1) a1 (a0.2.1.length:Int) [] [] s a0.2.1=_
   simp only [Bw,Gy]
   rw [Zr]
   rfl) (Dy a1 0 [] [] a0.1 a0.2.1) 0 a0.1 (by omega) (by simp [Dy]) ⟨rfl,k4⟩
  have hL':Bw (Dy a1 0 [] [] a0.1 a0.2.1) a1 0 [] [] a0.1 a0.2.1=_:=hL
  rw [e1]
  show (Bw (Dy a1 0 [] [] a0.1 a0.2.1) a1 0 [] [] a0.1 a0.2.1).bind _=_
  rw [hL']
  rfl
def Sb {R:Type} (k:Kt R):=(N3 (Gj 6) (.exit 0) 2 k)
def Yj {R:Type}:Lt R Gj:=(G3 (pat:=Gj) 6 (fun d k=>(Acw d).bind (Sb k)) Jo)
theorem V5:A4 Try.prog V4:=A9 ⟨Ix,Jv,trivial⟩
theorem Acx {R:Type}:Bg Try.prog R 60 0 Gj Yj Sa:=
 C8 (cfg:=⟨V4,0,60,Gj⟩) 6 [] (fun NX X d=>(u4 (Ad (Ad Aj))) (Gy  NX X) d) (fun m d=>(u4 (Ad (Ad Aj))) (Bw m) d) (fun d=>(u4 (Ad (Ad Aj))) Dy d) Sb V5 trivial (fun f NX d=>by simp only [u4,Ad,Aj]; unfold Gy; simp only [nb])
theorem Ahq:Cg Try.prog 115 V3:=
 Ba (pat:=Gj) [Sa] Yj V5 ⟨Acx,trivial⟩ Try.func115 (de:=fun x=>O4 x.1 x.2.1) (fun x r h=>(Ahp x.1 x.2.1).trans h) fun _=>by kernel_rfl
def Amj:H6:=⟨[.rd Nc,.rd (.sl tI)],[some 16,none],[.rd Nc],[some 16]⟩
def Rm (a0:Da) (a1:List Int):Option (((Da×Unit)×(Unit))):=
 some (((a0.1,He a0.2.1 a1,false,(0,0,0,(0,0,0,0,()),0,0,([],()),()),a0.2.2.2.2),()),())
theorem d5:∃ f,f=@Rm:=⟨_,rfl⟩
def Dh:=Classical.choose d5
theorem d6:@Dh=@Rm:=Classical.choose_spec d5
def d7:SD:=⟨Amj,fun x=>Dh x.1 x.2.1⟩
theorem Aa2 (w:Da) (f:List Int):Ao (Dh w f) fun q=>q=((A14 w f,()),()):=by
 rw [d6]
 exact Ao.some rfl
theorem Amk:Cg Try.prog 97 d7:=
 Ba (pat:=Eo) [] Jo (A9 (l:=[(115,V3)]) ⟨Ahq,trivial⟩) trivial Try.func97 (de:=fun x=>Rm x.1 x.2.1) (fun x r h=>by have q:Dh x.1 x.2.1=some r:=h; rw [d6] at q; exact q) fun _=>by kernel_rfl
def Lv (k:Ab):Bool:=a7 k
def Aml:H6:=⟨[.rd .str],[none],[.rd .bool],[none]⟩
def Rn:SD:=⟨Aml,fun x=>some (((Lv x.1),()),(()))⟩
def Ro (a0:Ab):Option ((((Bool)×Unit)×(Unit))):=
 bif decide (nI a0.size≥1) then some ((decide (nI a0.size≤20),()),()) else some ((false,()),())
theorem Amm (a0:Ab):Ro a0=some ((Lv a0,()),()):=by
 unfold Ro Lv a7 Cj
 by_cases h:(a0.size:Int)≥1
 ·have:decide ((1:Int)≤(a0.size:Int))=true:=by simpa using h
  simp [nI,this]
 ·have h':¬ (1:Int)≤(a0.size:Int):=h
  simp [nI,h']
theorem d8:Cg Try.prog 66 Rn:=
 Ba (pat:=Eo) [] Jo (A9 (l:=[]) trivial) trivial Try.func66 (de:=fun x=>Ro x.1) (fun x r h=>(Amm x.1).trans h) fun _=>by kernel_rfl
def E3 (s:Kb):Bool:=As s
def Afa:H6:=⟨[.rd Li],[some 1],[.rd .bool],[none]⟩
def Kk:SD:=⟨Afa,fun x=>some (((E3 x.1),()),(()))⟩
def T7:Tb:=tb [(66,Rn)]
def Ef:Nat→Dv×(Nat→Dv):=Jc [(5,⟨[.boxSl 1 0 B4],[(1,.lf (.ptr 0 0)),(3,.lf (.d tI))],[.box 30 [.d (.sl B4)]]⟩,[(2,p0),(1,⟨[],[(2,.lf (.d .bool))],[]⟩)])]
def Q6:Code:=(Ax (Bs Try.f31)).getD 0 .skip
def Di (v3:Int) (b0_0:List Bx):Nat:=((b0_0.length:Int) - v3).toNat + 1
def F7 {R:Type}  (NX:((Int)×(List Bx)×Unit)→Option R) (X2:(Unit)→Option R) (X1:((Bool)×Unit)→Option R) (v3:Int) (b0_0:List Bx):Option R:=
 bif decide (v3 < nI b0_0.length) then bif decide (0≤v3) then bif decide (v3 < nI b0_0.length) then bif !Lv (b0_0.getD v3.toNat (Af,Af,())).1 then X1 (false,()) else bif decide (0≤v3) then bif decide (v3 < nI b0_0.length) then bif decide (nI (ByteArray.size (b0_0.getD v3.toNat (Af,Af,())).2.1) > 100) then X1 (false,()) else bif decide (v3 > 0) then bif decide (0≤IntKind.i64.wrap (v3 - 1)) then bif decide (IntKind.i64.wrap (v3 - 1) < nI b0_0.length) then bif decide (0≤v3) then bif decide (v3 < nI b0_0.length) then bif !Op.bytesLess (ByteArray.toList (b0_0.getD (IntKind.i64.wrap (v3 - 1)).toNat (Af,Af,())).1) (ByteArray.toList (b0_0.getD v3.toNat (Af,Af,())).1) then X1 (false,()) else NX (IntKind.i64.wrap (v3 + 1),b0_0,()) else none else none else none else none else NX (IntKind.i64.wrap (v3 + 1),b0_0,()) else none else none else none else none else X2 PUnit.unit
def Bp:Nat→(Int)→(List Bx) →  Option ((Unit) ⊕ ((Bool)×Unit))
 | 0,_,_=>none
 | m + 1,v3,b0_0=>F7  (fun d=>Bp m d.1 d.2.1) (fun d=>some (.inl (d))) (fun d=>some (.inr (d))) v3 b0_0
def Aa3 (d:(Int)×(List Bx)×Unit):Option ((Unit) ⊕ ((Bool)×Unit)):=(Ad (Ad Aj)) (Bp ((Ad (Ad Aj)) Di d)) d
def Nj (a0:Kb):Option ((((Bool)×Unit)×(Unit))):=
 bif decide (nI (List.length a0.1) > 100) then some ((false,()),()) else ((fun d=>Bp (Di d.1 d.2.1) d.1 d.2.1) (0,a0)).bind fun val=>Gu (fun d=>some ((true,()),())) (fun d=>some (d,())) val
theorem Afb (a0:Kb):Nj a0=some ((E3 a0,()),()):=by
 unfold Nj E3 As
 have c1:decide (nI a0.1.length > 100)=!decide (a0.1.length≤100):=Atv _ 100
 by_cases hl:a0.1.length≤100
 ·have hL:=Tf (n:=a0.1.length) (Ob a0.1) (g:=fun m i=>Bp m i a0.1) (ok:=.inl ()) (bad:=.inr (false,())) (fun m i hi=>by
   show Bp (m + 1) i a0.1=_
   simp only [Bp,F7]
   have g1:decide (nI (ByteArray.size (List.getD a0.1 i (Af,Af,())).2.1) > 100)=!decide (ByteArray.size (List.getD a0.1 i zP).2.1≤100):=Atv _ 100
   rw [cLt hi,Nd,wI (show i < 4611686018427387904 by omega),Kx,gt0,g1]
   simp only [cond_true]
   unfold Ob bl
   show (bif !a7 (List.getD a0.1 i zP).1 then _ else _)=_
   cases i with
   | zero=>
    show (bif !a7 (List.getD a0.1 0 zP).1 then _ else bif !decide (ByteArray.size (List.getD a0.1 0 zP).2.1≤100) then _ else _)=_
    cases a7 (List.getD a0.1 0 zP).1<;>cases decide (ByteArray.size (List.getD a0.1 0 zP).2.1≤100)<;>rfl
   | succ j=>
    rw [wP j (by omega),Nd,cLt (show j < a0.1.length by omega)]
    show (bif !a7 (List.getD a0.1 (j + 1) zP).1 then _ else bif !decide (ByteArray.size (List.getD a0.1 (j + 1) zP).2.1≤100) then _ else bif !Op.bytesLess (ByteArray.toList (List.getD a0.1 j zP).1) (ByteArray.toList (List.getD a0.1 (j + 1) zP).1) then _ else _)=_
    rw [Nat.add_sub_cancel]
    cases a7 (List.getD a0.1 (j + 1) zP).1<;>cases decide (ByteArray.size (List.getD a0.1 (j + 1) zP).2.1≤100)<;>cases Op.bytesLess (ByteArray.toList (List.getD a0.1 j zP).1) (ByteArray.toList (List.getD a0.1 (j + 1) zP).1)<;>rfl) (fun m=>by
   show Bp (m + 1) (a0.1.length:Int) a0.1=_
   simp only [Bp,F7]
   rw [Zr]
   rfl) (Di 0 a0.1) 0 (by omega) (by simp [Di,nI])
  have hL':Bp (Di 0 a0.1) 0 a0.1=_:=hL
  rw [c1,Ag hl]
  show (Bp (Di 0 a0.1) 0 a0.1).bind _=_
  rw [hL']
  cases (List.range' 0 (a0.1.length - 0)).all (Ob a0.1)<;>rfl
 ·rw [c1,Bi hl]
  rfl
def Q7 {R:Type} (k:Kt R):=(Gu (N3 (Ef 5) (.exit 0) 2 k) (N3 (Ef 5) .ret 1 k))
def V6 {R:Type}:Lt R Ef:=(G3 (pat:=Ef) 5 (fun d k=>(Aa3 d).bind (Q7 k)) Jo)
theorem T8:A4 Try.prog T7:=A9 ⟨d8,trivial⟩
theorem Aa4 {R:Type}:Bg Try.prog R 53 0 Ef V6 Q6:=
 C8 (cfg:=⟨T7,0,53,Ef⟩) 5 [] (fun NX X d=>(Ad (Ad Aj)) (F7  NX (fun e=>X (.inl (e))) (fun e=>X (.inr (e)))) d) (fun m d=>(Ad (Ad Aj)) (Bp m) d) (fun d=>(Ad (Ad Aj)) Di d) Q7 T8 trivial (fun f NX d=>by simp only [u4,Ad,Aj]; unfold F7; simp only [nb])
theorem Nk:Cg Try.prog 31 Kk:=
 Ba (pat:=Ef) [Q6] V6 T8 ⟨Aa4,trivial⟩ Try.func31 (de:=fun x=>Nj x.1) (fun x r h=>(Afb x.1).trans h) fun _=>by kernel_rfl
def Au (n:Int):Int:=An n
def Aqu:H6:=⟨[.rd tI],[none],[.rd tI],[none]⟩
def J1:SD:=⟨Aqu,fun x=>some (((Au x.1),()),(()))⟩
def T9 (a0:Int):Option ((((Int)×Unit)×(Unit))):=
 bif decide (a0 < 8) then some ((0,()),()) else bif decide (a0 > 200) then some ((0,()),()) else some ((IntKind.i64.wrap ((IntKind.i64.wrap (a0 - 2)).tdiv 2),()),())
theorem Aqv (a0:Int):T9 a0=some (((Au a0),()),(())):=by
 unfold T9 Au An
 rw [App]
 cases h:Cj a0 8 200 with
 | false=>rfl
 | true=>
  obtain ⟨h1,h2⟩:=C5 h
  rw [Axz h1 h2]
  rfl
theorem Lw:Cg Try.prog 109 J1:=
 Ba (pat:=Eo) [] Jo (A9 (l:=[]) trivial) trivial Try.func109 (de:=fun x=>T9 x.1) (fun x r h=>(Aqv x.1).trans h) fun _=>by kernel_rfl
def Ij (s:Kb):List (List Bq):=Kz s
def Akd:H6:=⟨[.rd Li],[some 1],[.rd (.sl (.sl Gs))],[none]⟩
def Qi:SD:=⟨Akd,fun x=>some (((Ij x.1),()),(()))⟩
def Yk:Tb:=tb [(31,Kk)]
def Hf:Nat→Dv×(Nat→Dv):=Jc [(6,⟨[.last 3 69 Gs,.boxSl 1 0 B4],[(1,.lf (.ptr 0 0)),(3,.lf (.row 1)),(4,.lf (.d tI))],[.box 30 [.d (.sl B4)],.last 65 Gs 2,.row 69 Gs]⟩,[(2,⟨[.last 3 69 Gs],[(3,.lf (.row 0))],[.last 65 Gs 1,.row 69 Gs]⟩)])]
def Ua:Code:=(Ax (Bs Try.f7)).getD 0 .skip
def Eg (v4:Int) (b0_0:List Bx) (r1:List (List Bq)) (c1:Bool) (r2:List Bq):Nat:=((b0_0.length:Int) - v4).toNat + 1
def Hu {R:Type}  (NX:((Int)×(List Bx)×(List (List Bq))×(Bool)×(List Bq)×Unit)→Option R) (X2:((List (List Bq))×(Bool)×(List Bq)×Unit)→Option R) (v4:Int) (b0_0:List Bx) (r1:List (List Bq)) (c1:Bool) (r2:List Bq):Option R:=
 bif decide (v4 < nI b0_0.length) then bif v4.tmod 20==0 then bif decide ((r1.length + c1.toNat + 1) * 24≤140737488355328) then bif decide (0≤IntKind.i64.wrap (nI ((bif c1 then r1++[r2] else r1).length + true.toNat) - 1)) then bif decide (IntKind.i64.wrap (nI ((bif c1 then r1++[r2] else r1).length + true.toNat) - 1) < nI ((bif c1 then r1++[r2] else r1).length + true.toNat)) then bif decide ((IntKind.i64.wrap (nI ((bif c1 then r1++[r2] else r1).length + true.toNat) - 1)).toNat=(bif c1 then r1++[r2] else r1).length) then bif decide (0≤v4) then bif decide (v4 < nI b0_0.length) then bif decide (0≤v4) then bif decide (v4 < nI b0_0.length) then bif decide (0≤IntKind.i64.wrap (nI ((bif c1 then r1++[r2] else r1).length + true.toNat) - 1)) then bif decide (IntKind.i64.wrap (nI ((bif c1 then r1++[r2] else r1).length + true.toNat) - 1) < nI ((bif c1 then r1++[r2] else r1).length + true.toNat)) then bif decide ((IntKind.i64.wrap (nI ((bif c1 then r1++[r2] else r1).length + true.toNat) - 1)).toNat=(bif c1 then r1++[r2] else r1).length) then NX (IntKind.i64.wrap (v4 + 1),b0_0,bif c1 then r1++[r2] else r1,true,[]++[((b0_0.getD v4.toNat (Af,Af,())).1,(b0_0.getD v4.toNat (Af,Af,())).2.1,false,())],()) else none else none else none else none else none else none else none else none else none else none else none else bif decide (0≤IntKind.i64.wrap (nI (r1.length + c1.toNat) - 1)) then bif decide (IntKind.i64.wrap (nI (r1.length + c1.toNat) - 1) < nI (r1.length + c1.toNat)) then bif c1 then bif decide ((IntKind.i64.wrap (nI (r1.length + c1.toNat) - 1)).toNat=r1.length) then bif decide (0≤v4) then bif decide (v4 < nI b0_0.length) then bif decide (0≤v4) then bif decide (v4 < nI b0_0.length) then bif decide ((r2.length + [((b0_0.getD v4.toNat (Af,Af,())).1,(b0_0.getD v4.toNat (Af,Af,())).2.1,false,())].length) * 40≤140737488355328) then bif decide (0≤IntKind.i64.wrap (nI (r1.length + c1.toNat) - 1)) then bif decide (IntKind.i64.wrap (nI (r1.length + c1.toNat) - 1) < nI (r1.length + c1.toNat)) then bif c1 then bif decide ((IntKind.i64.wrap (nI (r1.length + c1.toNat) - 1)).toNat=r1.length) then NX (IntKind.i64.wrap (v4 + 1),b0_0,r1,c1,r2++[((b0_0.getD v4.toNat (Af,Af,())).1,(b0_0.getD v4.toNat (Af,Af,())).2.1,false,())],()) else none else none else none else none else none else none else none else none else none else none else none else none else none else X2 (r1,c1,r2,())
def B6:Nat→(Int)→(List Bx)→(List (List Bq))→(Bool)→(List Bq) →  Option ((List (List Bq))×(Bool)×(List Bq)×Unit)
 | 0,_,_,_,_,_=>none
 | m + 1,v4,b0_0,r1,c1,r2=>Hu  (fun d=>B6 m d.1 d.2.1 d.2.2.1 d.2.2.2.1 d.2.2.2.2.1) (fun d=>some (d)) v4 b0_0 r1 c1 r2
def Afc (d:(Int)×(List Bx)×(List (List Bq))×(Bool)×(List Bq)×Unit):Option ((List (List Bq))×(Bool)×(List Bq)×Unit):=(u4 (Ad Aj)) (B6 ((u4 (Ad Aj)) Eg d)) d
def Qj (a0:Kb):Option ((((List (List Bq))×Unit)×(Unit))):=
 bif !E3 a0 then some (([],()),()) else ((fun d=>B6 (Eg d.1 d.2.1 d.2.2.1 d.2.2.2.1 d.2.2.2.2.1) d.1 d.2.1 d.2.2.1 d.2.2.2.1 d.2.2.2.2.1) (0,a0.1,[],false,[],())).bind fun val=>some ((bif val.2.1 then val.1++[val.2.2.1] else val.1,()),())
theorem Ake (a0:Kb):Qj a0=some (((Ij a0),()),(())):=by
 unfold Qj Ij Kz
 show (bif !As a0 then _ else _)=_
 cases hv:As a0 with
 | false=>rfl
 | true=>
  have hl:=E0 hv
  have hL:=Jd (xs:=a0.1) zP Axy Xn (g:=fun m i s=>B6 m i a0.1 s.1 s.2.1 s.2.2) (ok:=fun s=>(s.1,s.2.1,s.2.2,())) (fun m i s hi hI=>by
   show B6 (m + 1) i a0.1 s.1 s.2.1 s.2.2=_
   obtain ⟨r0,c0,r1⟩:=s
   obtain ⟨h1,h2,h3,h4⟩:=hI
   simp only at h2 h3 h4 ⊢
   simp only [B6,Hu]
   rw [cLt hi,Nd,wI (show i < 4611686018427387904 by omega),Kx,A9f]
   unfold Xn
   cases hc:(i % 20==0)
   ·have hp:0 < i:=Nat.pos_of_ne_zero fun q=>by subst q; cases hc
    have hc0:=h3 hp
    subst hc0
    have e1:=A5t r0.length (by omega)
    have e2:decide ((r0.length:Int) < nI (r0.length + 1))=true:=cLt (Nat.lt_succ_self _)
    have e3:decide ((r1.length + 1) * 40≤140737488355328)=true:=Ag (by omega)
    simp only [Bool.toNat_true,Et,cond_true,cond_false,e1,e2,e3,Nd,Kx,decide_true]
    rfl
   ·have hL:List.length (bif c0 then r0++[r1] else r0)≤i + 1:=by cases c0<;>simp<;>omega
    have e1:=A5t (List.length (bif c0 then r0++[r1] else r0)) (by omega)
    have e2:decide (((List.length (bif c0 then r0++[r1] else r0):Nat):Int) < nI (List.length (bif c0 then r0++[r1] else r0) + 1))=true:=cLt (Nat.lt_succ_self _)
    have e3:decide ((r0.length + Bool.toNat c0 + 1) * 24≤140737488355328)=true:=Ag (by cases c0<;>simp<;>omega)
    simp only [Bool.toNat_true,cond_true,e1,e2,e3,Nd,Kx,decide_true]
    rfl) (fun i s hi hI=>hI.step (by omega) _) (fun m s hI=>by
   show B6 (m + 1) (a0.1.length:Int) a0.1 s.1 s.2.1 s.2.2=_
   simp only [B6,Hu]
   rw [Zr]
   rfl) (Eg 0 a0.1 [] false []) 0 ([],false,[]) (by omega) (by simp [Eg,nI]) ⟨by omega,by simp,fun q=>by omega,by simp⟩
  have hL':B6 (Eg 0 a0.1 [] false []) 0 a0.1 [] false []=_:=hL
  show (B6 (Eg 0 a0.1 [] false []) 0 a0.1 [] false []).bind _=_
  rw [hL']
  rfl
def Ub {R:Type} (k:Kt R):=(N3 (Hf 6) (.exit 0) 2 k)
def d9 {R:Type}:Lt R Hf:=(G3 (pat:=Hf) 6 (fun d k=>(Afc d).bind (Ub k)) Jo)
theorem Yl:A4 Try.prog Yk:=A9 ⟨Nk,trivial⟩
theorem Afd {R:Type}:Bg Try.prog R 51 0 Hf d9 Ua:=
 C8 (cfg:=⟨Yk,0,51,Hf⟩) 6 [] (fun NX X (d:(Int)×(List Bx)×(List (List Bq))×(Bool)×(List Bq)×Unit)=>(u4 (Ad Aj)) (Hu  NX X) d) (fun m d=>(u4 (Ad Aj)) (B6 m) d) (fun d=>(u4 (Ad Aj)) Eg d) Ub Yl trivial (fun f NX (d:(Int)×(List Bx)×(List (List Bq))×(Bool)×(List Bq)×Unit)=>by simp only [u4,Ad,Aj]; unfold Hu; simp only [nb])
theorem Ym:Cg Try.prog 7 Qi:=
 Ba (pat:=Hf) [Ua] d9 Yl ⟨Afd,trivial⟩ Try.func7 (de:=fun x=>Qj x.1) (fun x r h=>(Ake x.1).trans h) fun _=>by kernel_rfl
def Gk (b:List Bq):Bool:=Bh b
def Afe:H6:=⟨[.rd (.sl Gs)],[none],[.rd .bool],[none]⟩
def Kl:SD:=⟨Afe,fun x=>some (((Gk x.1),()),(()))⟩
def Uc:Tb:=tb [(66,Rn)]
def Eh:Nat→Dv×(Nat→Dv):=Jc [(5,⟨[.sl 0 0 Gs],[(0,.lf (.d (.sl Gs))),(3,.lf (.d tI))],[]⟩,[(2,p0),(1,⟨[],[(2,.lf (.d .bool))],[]⟩)])]
def Q8:Code:=(Ax (Bs Try.f107)).getD 0 .skip
def F8 (v0:List Bq) (v3:Int):Nat:=((v0.length:Int) - v3).toNat + 1
def F9 {R:Type}  (NX:((List Bq)×(Int)×Unit)→Option R) (X2:(Unit)→Option R) (X1:((Bool)×Unit)→Option R) (v0:List Bq) (v3:Int):Option R:=
 bif decide (v3 < nI v0.length) then bif decide (0≤v3) then bif decide (v3 < nI v0.length) then bif !Lv (v0.getD v3.toNat (Af,Af,false,())).1 then X1 (false,()) else bif decide (0≤v3) then bif decide (v3 < nI v0.length) then bif decide (nI (ByteArray.size (v0.getD v3.toNat (Af,Af,false,())).2.1) > 100) then X1 (false,()) else bif decide (0≤v3) then bif decide (v3 < nI v0.length) then bif (v0.getD v3.toNat (Af,Af,false,())).2.2.1 then bif decide (0≤v3) then bif decide (v3 < nI v0.length) then bif !ByteArray.toList (v0.getD v3.toNat (Af,Af,false,())).2.1==(Af).toList then X1 (false,()) else NX (v0,IntKind.i64.wrap (v3 + 1),()) else none else none else NX (v0,IntKind.i64.wrap (v3 + 1),()) else none else none else none else none else none else none else X2 PUnit.unit
def B9:Nat→(List Bq)→(Int) →  Option ((Unit) ⊕ ((Bool)×Unit))
 | 0,_,_=>none
 | m + 1,v0,v3=>F9  (fun d=>B9 m d.1 d.2.1) (fun d=>some (.inl (d))) (fun d=>some (.inr (d))) v0 v3
def Aa5 (d:(List Bq)×(Int)×Unit):Option ((Unit) ⊕ ((Bool)×Unit)):=(Ad (Ad Aj)) (B9 ((Ad (Ad Aj)) F8 d)) d
def Nl (a0:List Bq):Option ((((Bool)×Unit)×(Unit))):=
 bif decide (nI a0.length < 1) then some ((false,()),()) else bif decide (nI a0.length > 20) then some ((false,()),()) else ((fun d=>B9 (F8 d.1 d.2.1) d.1 d.2.1) (a0,0,())).bind fun val=>Gu (fun d=>some ((true,()),())) (fun d=>some (d,())) val
theorem Aff (a0:List Bq):Nl a0=some (((Gk a0),()),(())):=by
 unfold Nl Gk Bh
 have tl:ByteArray.toList (Af)=[]:=by decide +kernel
 rw [App (nI (List.length a0))]
 show (bif Cj (a0.length:Int) 1 20 then _ else _)=_
 cases hin:Cj (a0.length:Int) 1 20 with
 | false=>rfl
 | true=>
  have hlen:a0.length≤20:=by have:=(C5 hin).2; omega
  have hL:=Tf (n:=a0.length) (fun i=>Tc (a0.getD i zC)) (g:=fun m i=>B9 m a0 i) (ok:=.inl ()) (bad:=.inr (false,())) (fun m i hi=>by
   show B9 (m + 1) a0 i=_
   simp only [B9,F9]
   rw [tl,cLt hi,Nd,wI (show i < 4611686018427387904 by omega),Kx]
   have g1:decide (nI (ByteArray.size (List.getD a0 i (Af,Af,false,())).2.1) > 100)=!decide ((a0.getD i zC).2.1.size≤100):=Atv _ 100
   rw [g1]
   show (bif !a7 (a0.getD i zC).1 then _ else (bif _ then _ else (bif (a0.getD i zC).2.2.1 then (bif !((a0.getD i zC).2.1.toList==[]) then _ else _) else _)))=_
   unfold Tc
   cases a7 (a0.getD i zC).1<;>cases decide ((a0.getD i zC).2.1.size≤100)<;>cases (a0.getD i zC).2.2.1<;>cases ((a0.getD i zC).2.1.toList==[])<;>rfl) (fun m=>by
   show B9 (m + 1) a0 (a0.length:Int)=_
   simp only [B9,F9]
   rw [Zr]
   rfl) (F8 a0 0) 0 (by omega) (by simp [F8,nI])
  refine bi_ hL ?_
  rw [Nat.sub_zero]
  cases (List.range' 0 a0.length).all (fun i=>Tc (a0.getD i zC))<;>rfl
def Q9 {R:Type} (k:Kt R):=(Gu (N3 (Eh 5) (.exit 0) 2 k) (N3 (Eh 5) .ret 1 k))
def V7 {R:Type}:Lt R Eh:=(G3 (pat:=Eh) 5 (fun d k=>(Aa5 d).bind (Q9 k)) Jo)
theorem Ud:A4 Try.prog Uc:=A9 ⟨d8,trivial⟩
theorem Aa6 {R:Type}:Bg Try.prog R 49 0 Eh V7 Q8:=
 C8 (cfg:=⟨Uc,0,49,Eh⟩) 5 [] (fun NX X d=>(Ad (Ad Aj)) (F9  NX (fun e=>X (.inl (e))) (fun e=>X (.inr (e)))) d) (fun m d=>(Ad (Ad Aj)) (B9 m) d) (fun d=>(Ad (Ad Aj)) F8 d) Q9 Ud trivial (fun f NX d=>by simp only [u4,Ad,Aj]; unfold F9; simp only [nb])
theorem Nm:Cg Try.prog 107 Kl:=
 Ba (pat:=Eh) [Q8] V7 Ud ⟨Aa6,trivial⟩ Try.func107 (de:=fun x=>Nl x.1) (fun x r h=>(Aff x.1).trans h) fun _=>by kernel_rfl
def C4 (b:List Bq):Ab:=Fh b
def Ahr:H6:=⟨[.rd (.sl Gs)],[none],[.rd .str],[none]⟩
def Iz:SD:=⟨Ahr,fun x=>some (((C4 x.1),()),(()))⟩
def V8:Tb:=tb [(107,Kl)]
def Gl:Nat→Dv×(Nat→Dv):=Jc [(6,⟨[.sl 0 0 Gs,.row 3 0 5 (.int .u8)],[(0,.lf (.d (.sl Gs))),(3,.lf (.row 0)),(4,.lf (.d tI))],[.row 5 (.int .u8)]⟩,[(2,⟨[.row 3 0 5 (.int .u8)],[(3,.lf (.row 0))],[.row 5 (.int .u8)]⟩)])]
def Sc:Code:=(Ax (Bs Try.f112)).getD 0 .skip
def Gz (v0:List Bq) (v4:Int) (r0:List Int):Nat:=((v0.length:Int) - v4).toNat + 1
def G0 {R:Type}  (NX:((List Bq)×(Int)×(List Int)×Unit)→Option R) (X2:((List Int)×Unit)→Option R) (v0:List Bq) (v4:Int) (r0:List Int):Option R:=
 bif decide (v4 < nI v0.length) then bif decide (0≤v4) then bif decide (v4 < nI v0.length) then bif (v0.getD v4.toNat (Af,Af,false,())).2.2.1 then bif decide (0≤v4) then bif decide (v4 < nI v0.length) then bif decide ((r0.length + [1,IntKind.u8.wrap (nI (ByteArray.size (v0.getD v4.toNat (Af,Af,false,())).1))].length) * 1≤140737488355328) then bif decide (0≤v4) then bif decide (v4 < nI v0.length) then bif decide ((r0++[1,IntKind.u8.wrap (nI (ByteArray.size (v0.getD v4.toNat (Af,Af,false,())).1))]).length + ByteArray.size (v0.getD v4.toNat (Af,Af,false,())).1≤140737488355328) then NX (v0,IntKind.i64.wrap (v4 + 1),r0++[1,IntKind.u8.wrap (nI (ByteArray.size (v0.getD v4.toNat (Af,Af,false,())).1))]++Ac (v0.getD v4.toNat (Af,Af,false,())).1,()) else none else none else none else none else none else none else bif decide (0≤v4) then bif decide (v4 < nI v0.length) then bif decide ((r0.length + [0,IntKind.u8.wrap (nI (ByteArray.size (v0.getD v4.toNat (Af,Af,false,())).1))].length) * 1≤140737488355328) then bif decide (0≤v4) then bif decide (v4 < nI v0.length) then bif decide ((r0++[0,IntKind.u8.wrap (nI (ByteArray.size (v0.getD v4.toNat (Af,Af,false,())).1))]).length + ByteArray.size (v0.getD v4.toNat (Af,Af,false,())).1≤140737488355328) then bif decide (0≤v4) then bif decide (v4 < nI v0.length) then bif decide (((r0++[0,IntKind.u8.wrap (nI (ByteArray.size (v0.getD v4.toNat (Af,Af,false,())).1))]++Ac (v0.getD v4.toNat (Af,Af,false,())).1).length + [IntKind.u8.wrap (nI (ByteArray.size (v0.getD v4.toNat (Af,Af,false,())).2.1))].length) * 1≤140737488355328) then bif decide (0≤v4) then bif decide (v4 < nI v0.length) then bif decide ((r0++[0,IntKind.u8.wrap (nI (ByteArray.size (v0.getD v4.toNat (Af,Af,false,())).1))]++Ac (v0.getD v4.toNat (Af,Af,false,())).1++[IntKind.u8.wrap (nI (ByteArray.size (v0.getD v4.toNat (Af,Af,false,())).2.1))]).length + ByteArray.size (v0.getD v4.toNat (Af,Af,false,())).2.1≤140737488355328) then NX (v0,IntKind.i64.wrap (v4 + 1),r0++[0,IntKind.u8.wrap (nI (ByteArray.size (v0.getD v4.toNat (Af,Af,false,())).1))]++Ac (v0.getD v4.toNat (Af,Af,false,())).1++[IntKind.u8.wrap (nI (ByteArray.size (v0.getD v4.toNat (Af,Af,false,())).2.1))]++Ac (v0.getD v4.toNat (Af,Af,false,())).2.1,()) else none else none else none else none else none else none else none else none else none else none else none else none else none else none else X2 (r0,())
def Ck:Nat→(List Bq)→(Int)→(List Int) →  Option ((List Int)×Unit)
 | 0,_,_,_=>none
 | m + 1,v0,v4,r0=>G0  (fun d=>Ck m d.1 d.2.1 d.2.2.1) (fun d=>some (d)) v0 v4 r0
def Acy (d:(List Bq)×(Int)×(List Int)×Unit):Option ((List Int)×Unit):=(Ad (Ad (Ad Aj))) (Ck ((Ad (Ad (Ad Aj))) Gz d)) d
def O5 (a0:List Bq):Option ((((Ab)×Unit)×(Unit))):=
 bif !Gk a0 then some ((Af,()),()) else ((fun d=>Ck (Gz d.1 d.2.1 d.2.2.1) d.1 d.2.1 d.2.2.1) (a0,0,[],())).bind fun val=>some ((strOfNums val.1,()),())
theorem Ahs (a0:List Bq):O5 a0=some ((C4 a0,()),(())):=by
 unfold O5 C4 Fh
 show (bif !Bh a0 then _ else _)=_
 cases hv:Bh a0 with
 | false=>rfl
 | true=>
  obtain ⟨hlen,hok⟩:=W2 hv
  have hL:=Agu a0.length A1p (fun i r=>r++Zq (a0.getD i zC)) (g:=fun m i r=>Ck m a0 i r) (ok:=fun r=>(r,())) (fun m i r hi hr=>by
   show Ck (m + 1) a0 i r=_
   simp only [Ck,G0]
   have hc:=hok i hi
   obtain ⟨k1,k2,k3⟩:=Aje hc
   rw [cLt hi,Nd,wI (show i < 4611686018427387904 by omega),Kx]
   have hr1:=hr.1
   have eC:List.getD a0 i (Af,Af,false,())=a0.getD i zC:=rfl
   rw [eC]
   generalize a0.getD i zC=c at *
   rw [A8n _ (show c.1.size < 256 by omega),A8n _ (show c.2.1.size < 256 by omega)]
   simp only [Ey,List.length_cons,List.length_nil,C2]
   rw [Ag (show (r.length + (0 + 1 + 1)) * 1≤140737488355328 by omega),Ag (show r.length + (0 + 1 + 1) + c.1.size≤140737488355328 by omega),Ag (show (r.length + (0 + 1 + 1) + c.1.size + (0 + 1)) * 1≤140737488355328 by omega),Ag (show r.length + (0 + 1 + 1) + c.1.size + (0 + 1) + c.2.1.size≤140737488355328 by omega)]
   unfold Zq
   simp only [cond_true]
   cases c.2.2.1<;>simp only [cond_true,cond_false,List.append_assoc]) (fun m r _=>by
   show Ck (m + 1) a0 (a0.length:Int) r=_
   simp only [Ck,G0]
   rw [Zr]
   rfl) (fun i r hi hr=>hr.step (hok i hi)) a0.length (Gz a0 0 []) 0 [] (by omega) (by simp [Gz,nI]) ⟨by simp,rfl⟩
  rw [Axs Zq zC a0 a0.length 0 [] (by omega),List.nil_append,List.drop_zero] at hL
  refine bi_ hL ?_
  rfl
def Sd {R:Type} (k:Kt R):=(N3 (Gl 6) (.exit 0) 2 k)
def Yn {R:Type}:Lt R Gl:=(G3 (pat:=Gl) 6 (fun d k=>(Acy d).bind (Sd k)) Jo)
theorem V9:A4 Try.prog V8:=A9 ⟨Nm,trivial⟩
theorem Acz {R:Type}:Bg Try.prog R 70 0 Gl Yn Sc:=
 C8 (cfg:=⟨V8,0,70,Gl⟩) 6 [] (fun NX X d=>(Ad (Ad (Ad Aj))) (G0  NX X) d) (fun m d=>(Ad (Ad (Ad Aj))) (Ck m) d) (fun d=>(Ad (Ad (Ad Aj))) Gz d) Sd V9 trivial (fun f NX d=>by simp only [u4,Ad,Aj]; unfold G0; simp only [nb])
theorem Ld:Cg Try.prog 112 Iz:=
 Ba (pat:=Gl) [Sc] Yn V9 ⟨Acz,trivial⟩ Try.func112 (de:=fun x=>O5 x.1) (fun x r h=>(Ahs x.1).trans h) fun _=>by kernel_rfl
def Hv (s:Ab) (w:Int):Option (List Ab):=if s.size≤1099511627776∧1≤w∧w≤8 then some (Bb s w) else none
def I0 (v0:Ab) (v6:Int) (r0:List Ab):Nat:=v0.size + 1
def Amn:H6:=⟨[.rd .str,.rd tI],[none,none],[.own 9 .str],[none]⟩
def Rp:SD:=⟨Amn,fun x=>(Hv x.1 x.2.1).bind fun r=>some ((r,()),(()))⟩
def e9:Tb:=tb [(92,Ou)]
def Ik:Nat→Dv×(Nat→Dv):=Jc [(4,⟨[.row 5 0 9 .str],[(0,.lf (.d .str)),(5,.lf (.row 0)),(6,.lf (.d tI))],[.row 9 .str]⟩,[(2,⟨[.row 5 0 9 .str],[(0,.lf (.d .str)),(5,.lf (.row 0))],[.row 9 .str]⟩)])]
def Wa:Code:=(Ax (Bs Try.f124)).getD 0 .skip
def Gm {R:Type}  (NX:((Ab)×(Int)×(List Ab)×Unit)→Option R) (X2:((Ab)×(List Ab)×Unit)→Option R) (v0:Ab) (v6:Int) (r0:List Ab):Option R:=
 bif decide (nI v0.size > v6) then bif decide (0≤v6) then bif decide (v6≤nI v0.size) then bif decide ((r0.length + [Ae v0 0 v6].length) * 16≤140737488355328) then bif decide (0≤v6) then bif decide (v6≤nI v0.size) then NX (Ae v0 v6 (nI v0.size),v6,r0++[Ae v0 0 v6],()) else none else none else none else none else none else X2 (v0,r0,())
def D1:Nat→(Ab)→(Int)→(List Ab) →  Option ((Ab)×(List Ab)×Unit)
 | 0,_,_,_=>none
 | m + 1,v0,v6,r0=>Gm  (fun d=>D1 m d.1 d.2.1 d.2.2.1) (fun d=>some (d)) v0 v6 r0
def Aht (d:(Ab)×(Int)×(List Ab)×Unit):Option ((Ab)×(List Ab)×Unit):=(Ad (Ad (Ad Aj))) (D1 ((Ad (Ad (Ad Aj))) I0 d)) d
def Rq (a0:Ab) (a1:Int):Option ((((List Ab)×Unit)×(Unit))):=
 ((fun d=>D1 (I0 d.1 d.2.1 d.2.2.1) d.1 d.2.1 d.2.2.1) (a0,IntKind.i64.wrap (IntKind.i64.wrap (64 - a1) - 8),[],())).bind fun val=>bif decide ((val.2.1.length + [val.1].length) * 16≤140737488355328) then some ((val.2.1++[val.1],()),()) else none
theorem Aqw (n:Nat) (hn:1≤n) (hn2:n≤64):∀ (k m:Nat) (s:Ab) (r:List Ab),s.size≤k→k < m→r.length + s.size≤1099511627777→
  ∃ q t,D1 m s n r=some (t,q,())∧q++[t]=r++H8 n k s∧q.length + 1≤1099511627778
 | 0,m + 1,s,r,hs,hm,hr=>by
  refine ⟨r,s,?_,rfl,by omega⟩
  simp only [D1,Gm]
  rw [Bi (show ¬ (nI s.size > (n:Int)) by simp only [nI]; omega)]
  rfl
 | k + 1,m + 1,s,r,hs,hm,hr=>by
  by_cases q:s.size > n
  ·have hc:(Ae s n (nI s.size)).size=s.size - n:=by rw [Cw (by omega) (by simp only [nI]; omega) (by simp [nI])]; simp only [nI]; omega
   obtain ⟨q',t',e1,e2,e3⟩:=Aqw n hn hn2 k m (Ae s n (nI s.size)) (r++[Ae s 0 n]) (by omega) (by omega) (by rw [Ey,Et]; omega)
   refine ⟨q',t',?_,?_,e3⟩
   ·simp only [D1,Gm]
    rw [Ag (show nI s.size > (n:Int) by simp only [nI]; omega),Nd,Ag (show (n:Int)≤nI s.size by simp only [nI]; omega),Ag (show (r.length + [Ae s 0 n].length) * 16≤140737488355328 by rw [Et]; omega)]
    exact e1
   ·rw [e2,List.append_assoc]
    simp only [H8,if_pos q]
    rfl
  ·refine ⟨r,s,?_,by simp only [H8,if_neg q],by omega⟩
   simp only [D1,Gm]
   rw [Bi (show ¬ (nI s.size > (n:Int)) by simp only [nI]; omega)]
   rfl
theorem Amo (a0:Ab) (a1:Int) r (h:Hv a0 a1=some r):Rq a0 a1=some ((r,()),(())):=by
 unfold Hv at h
 split at h
 ·rename_i hc
  cases h
  obtain ⟨h0,h1,h2⟩:=hc
  obtain ⟨n,hn⟩:∃ n:Nat,56 - a1=(n:Int):=⟨(56 - a1).toNat,by omega⟩
  unfold Rq Bb
  rw [Al (n:=64 - a1) (by omega) (by omega),Al (n:=64 - a1 - 8) (by omega) (by omega),show 64 - a1 - 8=56 - a1 by omega,hn,Kx]
  obtain ⟨q,t,e1,e2,e3⟩:=Aqw n (by omega) (by omega) a0.size (I0 a0 n []) a0 [] (by omega) (by simp only [I0]; omega) (by rw [List.length_nil]; omega)
  rw [List.nil_append] at e2
  refine bi_ e1 ?_
  show (bif decide ((q.length + [t].length) * 16≤140737488355328) then some ((q++[t],()),()) else none)=_
  rw [Ag (by rw [Et]; omega),e2]
  rfl
 ·cases h
def Wb {R:Type} (k:Kt R):=(N3 (Ik 4) (.exit 0) 2 k)
def Aa7 {R:Type}:Lt R Ik:=(G3 (pat:=Ik) 4 (fun d k=>(Aht d).bind (Wb k)) Jo)
theorem f6:A4 Try.prog e9:=A9 ⟨Tv,trivial⟩
theorem Ahu {R:Type}:Bg Try.prog R 27 0 Ik Aa7 Wa:=
 C8 (cfg:=⟨e9,0,27,Ik⟩) 4 [] (fun NX X d=>(Ad (Ad (Ad Aj))) (Gm  NX X) d) (fun m d=>(Ad (Ad (Ad Aj))) (D1 m) d) (fun d=>(Ad (Ad (Ad Aj))) I0 d) Wb f6 trivial (fun f NX d=>by simp only [u4,Ad,Aj]; unfold Gm; simp only [nb])
theorem f8:Cg Try.prog 124 Rp:=
 Ba (pat:=Ik) [Wa] Aa7 f6 ⟨Ahu,trivial⟩ Try.func124 (de:=fun x=>Rq x.1 x.2.1) (fun x r h=>Gd (Amo x.1 x.2.1) h) fun _=>by kernel_rfl
def O6 (s:Ab) (w:Int):Option Int:=if s.size≤1099511627776 then some (bif Cj w 1 8 then ((Bb s w).length:Int) else 0) else none
def Asa:H6:=⟨[.rd .str,.rd tI],[none,none],[.rd tI],[none]⟩
def Ado:SD:=⟨Asa,fun x=>(O6 x.1 x.2.1).bind fun r=>some ((r,()),(()))⟩
def W4 (a0:Ab) (a1:Int):Option ((((Int)×Unit)×(Unit))):=
 (B0 a1).bind fun val=>bif !val.1.1 then some ((0,()),()) else ((Hv a0 a1).bind fun val=>some ((val,()),())).bind fun val=>some ((nI (List.length val.1.1),()),())
theorem Asb (a0:Ab) (a1:Int) r (h:O6 a0 a1=some r):W4 a0 a1=some ((r,()),(())):=by
 unfold O6 at h
 split at h
 ·rename_i hc
  cases h
  unfold W4
  refine bi_ (wid a1) ?_
  show (bif !Cj a1 1 8 then _ else _)=_
  cases hw:Cj a1 1 8 with
  | false=>rfl
  | true=>
   have n1:Hv a0 a1=some (Bb a0 a1):=if_pos ⟨hc,C5 hw⟩
   simp only [n1,Option.bind_some,Bool.not_true,cond_false,cond_true]
   try rfl
 ·cases h
theorem Asc:Cg Try.prog 123 Ado:=
 Ba (pat:=Eo) [] Jo (A9 (l:=[(62,C0),(124,Rp)]) ⟨Dn,f8,trivial⟩) trivial Try.func123 (de:=fun x=>W4 x.1 x.2.1) (fun x r h=>Gd (Asb x.1 x.2.1) h) fun _=>by kernel_rfl
def Kd (s:Kb) (w:Int):Int:=Ln s w
def Av1:H6:=⟨[.rd Li,.rd tI],[some 1,none],[.rd tI],[none]⟩
def Ss:SD:=⟨Av1,fun x=>some (((Kd x.1 x.2.1),()),(()))⟩
def Ahv:Tb:=tb [(7,Qi),(112,Iz),(123,Ado)]
def Me:Nat→Dv×(Nat→Dv):=Jc [(5,⟨[.sl 6 0 (.sl Gs)],[(1,.lf (.d tI)),(5,.lf (.d tI)),(6,.lf (.d (.sl (.sl Gs)))),(7,.lf (.d tI))],[]⟩,[(2,⟨[],[(5,.lf (.d tI))],[]⟩)])]
def Aa8:Code:=(Ax (Bs Try.f110)).getD 0 .skip
def Hw (v1 v5:Int) (v6:List (List Bq)) (v7:Int):Nat:=((v6.length:Int) - v7).toNat + 1
def Lx {R:Type}  (NX:((Int)×(Int)×(List (List Bq))×(Int)×Unit)→Option R) (X2:((Int)×Unit)→Option R) (v1:Int) (v5:Int) (v6:List (List Bq)) (v7:Int):Option R:=
 bif decide (v7 < nI v6.length) then bif decide (0≤v7) then bif decide (v7 < nI v6.length) then ((O6 (C4 (v6.getD v7.toNat [])) v1).bind fun val=>some ((val,()),())).bind fun val=>NX (v1,IntKind.i64.wrap (v5 + val.1.1),v6,IntKind.i64.wrap (v7 + 1),()) else none else none else X2 (v5,())
def Dj:Nat→(Int)→(Int)→(List (List Bq))→(Int) →  Option ((Int)×Unit)
 | 0,_,_,_,_=>none
 | m + 1,v1,v5,v6,v7=>Lx  (fun d=>Dj m d.1 d.2.1 d.2.2.1 d.2.2.2.1) (fun d=>some (d)) v1 v5 v6 v7
def Aqx (d:(Int)×(Int)×(List (List Bq))×(Int)×Unit):Option ((Int)×Unit):=(u4 Aj) (Dj ((u4 Aj) Hw d)) d
def Zz (a0:Kb) (a1:Int):Option ((((Int)×Unit)×(Unit))):=
 ((fun d=>Dj (Hw d.1 d.2.1 d.2.2.1 d.2.2.2.1) d.1 d.2.1 d.2.2.1 d.2.2.2.1) (a1,0,Ij a0,0,())).bind fun val=>some (val,())
theorem Av2 (a0:Kb) (a1:Int):Zz a0 a1=some (((Kd a0 a1),()),(())):=by
 unfold Zz Kd
 have hl:=Ach a0
 have hL:=Jd (xs:=Kz a0) [] A5w (fun _ b a=>a + Jq (Fh b).size a1) (g:=fun m i a=>Dj m a1 a (Kz a0) i) (ok:=fun a=>(a,())) (fun m i a hi hI=>by
  show Dj (m + 1) a1 a (Kz a0) i=_
  simp only [Dj,Lx]
  rw [cLt hi,Nd,wI (show i < 4611686018427387904 by omega),Kx]
  have e1:O6 (C4 (List.getD (Kz a0) i [])) a1=some (Jq (Fh (List.getD (Kz a0) i [])).size a1):=by
    rw [← Agw]
    exact if_pos (Nat.le_trans (Ng _) (by decide))
  rw [e1]
  simp only [cond_true,Option.bind_some]
  rw [Az5 hI]) (fun i a hi hI=>hI.step (by omega) _ _) (fun m a hI=>by
  show Dj (m + 1) a1 a (Kz a0) ((Kz a0).length:Int)=_
  simp only [Dj,Lx]
  rw [Zr]
  rfl) (Hw a1 0 (Kz a0) 0) 0 0 (by omega) (by simp [Hw,nI]) ⟨by omega,by omega,by omega⟩
 have hL':Dj (Hw a1 0 (Kz a0) 0) a1 0 (Kz a0) 0=_:=hL
 show (Dj (Hw a1 0 (Kz a0) 0) a1 0 (Kz a0) 0).bind _=_
 rw [hL',At3,List.drop_zero,A5v,Int.zero_add]
 rfl
def Aa9 {R:Type} (k:Kt R):=(N3 (Me 5) (.exit 0) 2 k)
def Alt {R:Type}:Lt R Me:=(G3 (pat:=Me) 5 (fun d k=>(Aqx d).bind (Aa9 k)) Jo)
theorem Ahw:A4 Try.prog Ahv:=A9 ⟨Ym,Ld,Asc,trivial⟩
theorem Aqy {R:Type}:Bg Try.prog R 26 0 Me Alt Aa8:=
 C8 (cfg:=⟨Ahv,0,26,Me⟩) 5 [] (fun NX X d=>(u4 Aj) (Lx  NX X) d) (fun m d=>(u4 Aj) (Dj m) d) (fun d=>(u4 Aj) Hw d) Aa9 Ahw trivial (fun f NX d=>by simp only [u4,Ad,Aj]; unfold Lx; simp only [nb])
theorem Z0:Cg Try.prog 110 Ss:=
 Ba (pat:=Me) [Aa8] Alt Ahw ⟨Aqy,trivial⟩ Try.func110 (de:=fun x=>Zz x.1 x.2.1) (fun x r h=>(Av2 x.1 x.2.1).trans h) fun _=>by kernel_rfl
def Ga (v lo hi:Int):Bool:=Cj v lo hi
def Av3:H6:=⟨[.rd tI,.rd tI,.rd tI],[none,none,none],[.rd .bool],[none]⟩
def Ahx:SD:=⟨Av3,fun x=>some (((Ga x.1 x.2.1 x.2.2.1),()),(()))⟩
def Z1 (a0 a1 a2:Int):Option ((((Bool)×Unit)×(Unit))):=
 bif decide (a0≥a1) then some ((decide (a0≤a2),()),()) else some ((false,()),())
theorem Av4 (a0 a1 a2:Int):Z1 a0 a1 a2=some ((Ga a0 a1 a2,()),()):=by
 unfold Z1 Ga Cj
 by_cases h:a0≥a1
 ·have:decide (a1≤a0)=true:=by simpa using h
  simp [h,this]
 ·have:decide (a1≤a0)=false:=by simpa using h
  simp [h,this]
theorem Av5:Cg Try.prog 121 Ahx:=
 Ba (pat:=Eo) [] Jo (A9 (l:=[]) trivial) trivial Try.func121 (de:=fun x=>Z1 x.1 x.2.1 x.2.2.1) (fun x r h=>(Av4 x.1 x.2.1 x.2.2.1).trans h) fun _=>by kernel_rfl
def Gn (s:Lk):Bool:=A6 s
def Afg:H6:=⟨[.rd Api],[some 10],[.rd .bool],[none]⟩
def Km:SD:=⟨Afg,fun x=>some (((Gn x.1),()),(()))⟩
def Nn (a0:Lk):Option ((((Bool)×Unit)×(Unit))):=
 (B0 a0.1).bind fun val=>bif !val.1.1 then some ((false,()),()) else bif Au a0.2.1==0 then some ((false,()),()) else bif !Ga a0.2.2.1 1 60000 then some ((false,()),()) else bif !Ga a0.2.2.2.1.1 0 1000000000 then some ((false,()),()) else bif !Ga a0.2.2.2.1.2.1 0 1 then some ((false,()),()) else bif !Ga a0.2.2.2.1.2.2.1 1 999999000 then some ((false,()),()) else bif !Ga a0.2.2.2.1.2.2.2.1 0 60000 then some ((false,()),()) else bif Ga a0.2.2.2.2.1 0 (Au a0.2.1) then bif Ga a0.2.2.2.2.2.1 0 a0.2.2.2.2.1 then bif E3 a0.2.2.2.2.2.2.1 then some ((decide (Kd a0.2.2.2.2.2.2.1 a0.1≤IntKind.i64.wrap (Au a0.2.1 - 1)),()),()) else some ((false,()),()) else some ((false,()),()) else some ((false,()),())
theorem Afh (a0:Lk):Nn a0=some (((Gn a0),()),(())):=by
 unfold Nn Gn A6
 refine bi_ (wid a0.1) ?_
 simp only [Au,Ga,E3,Kd,y7,Ba1,Ba2,Ax0]
 simp only [Gt,Bool.and_assoc]
 rw [Bool.and_left_comm]
theorem Np:Cg Try.prog 106 Km:=
 Ba (pat:=Eo) [] Jo (A9 (l:=[(31,Kk),(62,C0),(109,J1),(110,Ss),(121,Ahx)]) ⟨Nk,Dn,Lw,Z0,Av5,trivial⟩) trivial Try.func106 (de:=fun x=>Nn x.1) (fun x r h=>(Afh x.1).trans h) fun _=>by kernel_rfl
def K2 (s:Kb) (c:Bq):Option Kb:=if s.1.length≤1000000 then some (Ar4 c s.1,()) else none
def Akf:H6:=⟨[.rd Li,.rd Gs],[some 1,some 3],[.own 67 B4],[some 1]⟩
def Yo:SD:=⟨Akf,fun x=>(K2 x.1 x.2.1).bind fun r=>some ((r.1,()),(()))⟩
def Yp:Tb:=tb []
def Hg:Nat→Dv×(Nat→Dv):=Jc [(5,⟨[.boxSl 2 0 B4,.boxRow 4 0 67 B4,.boxRow 5 0 67 B4],[(2,.lf (.ptr 0 0)),(3,.lf (.ptr 1 0)),(4,.lf (.ptr 2 0)),(5,.lf (.ptr 3 0)),(6,.lf (.d .bool)),(7,.lf (.d tI))],[.box 30 [.d (.sl B4)],.box 69 [.d .str,.d .str,.d .bool],.box 30 [.row 4],.box 30 [.row 5],.row 67 B4,.row 67 B4]⟩,[(2,⟨[.boxRow 4 0 67 B4,.boxRow 5 0 67 B4],[(3,.lf (.ptr 0 0)),(4,.lf (.ptr 1 0)),(5,.lf (.ptr 2 0)),(6,.lf (.d .bool))],[.box 69 [.d .str,.d .str,.d .bool],.box 30 [.row 3],.box 30 [.row 4],.row 67 B4,.row 67 B4]⟩)])]
def Ue:Code:=(Ax (Bs Try.f122)).getD 0 .skip
def Hx (v6:Bool) (v7:Int) (b0_0:List Bx) (b1_0 b1_1:Ab) (b1_2:Bool) (r4 r5:List Bx):Nat:=((b0_0.length:Int) - v7).toNat + 1
def Hy {R:Type}  (NX:((Bool)×(Int)×(List Bx)×(Ab)×(Ab)×(Bool)×(List Bx)×(List Bx)×Unit)→Option R) (X2:((Bool)×(Ab)×(Ab)×(Bool)×(List Bx)×(List Bx)×Unit)→Option R) (v6:Bool) (v7:Int) (b0_0:List Bx) (b1_0:Ab) (b1_1:Ab) (b1_2:Bool) (r4:List Bx) (r5:List Bx):Option R:=
 bif decide (v7 < nI b0_0.length) then bif !v6 then bif decide (0≤v7) then bif decide (v7 < nI b0_0.length) then bif !(Op.bytesLess (ByteArray.toList (b0_0.getD v7.toNat (Af,Af,())).1) b1_0.toList || ByteArray.toList (b0_0.getD v7.toNat (Af,Af,())).1==b1_0.toList) then bif decide ((r5.length + [(b1_0,b1_1,())].length) * 32≤140737488355328) then bif decide (0≤v7) then bif decide (v7 < nI b0_0.length) then bif !ByteArray.toList (b0_0.getD v7.toNat (Af,Af,())).1==b1_0.toList then bif decide (0≤v7) then bif decide (v7 < nI b0_0.length) then bif decide (((r5++[(b1_0,b1_1,())]).length + [b0_0.getD v7.toNat (Af,Af,())].length) * 32≤140737488355328) then NX (true,IntKind.i64.wrap (v7 + 1),b0_0,b1_0,b1_1,b1_2,r4,r5++[(b1_0,b1_1,())]++[b0_0.getD v7.toNat (Af,Af,())],()) else none else none else none else NX (true,IntKind.i64.wrap (v7 + 1),b0_0,b1_0,b1_1,b1_2,r4,r5++[(b1_0,b1_1,())],()) else none else none else none else bif decide (0≤v7) then bif decide (v7 < nI b0_0.length) then bif !ByteArray.toList (b0_0.getD v7.toNat (Af,Af,())).1==b1_0.toList then bif decide (0≤v7) then bif decide (v7 < nI b0_0.length) then bif decide ((r5.length + [b0_0.getD v7.toNat (Af,Af,())].length) * 32≤140737488355328) then NX (v6,IntKind.i64.wrap (v7 + 1),b0_0,b1_0,b1_1,b1_2,r4,r5++[b0_0.getD v7.toNat (Af,Af,())],()) else none else none else none else NX (v6,IntKind.i64.wrap (v7 + 1),b0_0,b1_0,b1_1,b1_2,r4,r5,()) else none else none else none else none else bif decide (0≤v7) then bif decide (v7 < nI b0_0.length) then bif !ByteArray.toList (b0_0.getD v7.toNat (Af,Af,())).1==b1_0.toList then bif decide (0≤v7) then bif decide (v7 < nI b0_0.length) then bif decide ((r5.length + [b0_0.getD v7.toNat (Af,Af,())].length) * 32≤140737488355328) then NX (v6,IntKind.i64.wrap (v7 + 1),b0_0,b1_0,b1_1,b1_2,r4,r5++[b0_0.getD v7.toNat (Af,Af,())],()) else none else none else none else NX (v6,IntKind.i64.wrap (v7 + 1),b0_0,b1_0,b1_1,b1_2,r4,r5,()) else none else none else X2 (v6,b1_0,b1_1,b1_2,r4,r5,())
def Cy:Nat→(Bool)→(Int)→(List Bx)→(Ab)→(Ab)→(Bool)→(List Bx)→(List Bx) →  Option ((Bool)×(Ab)×(Ab)×(Bool)×(List Bx)×(List Bx)×Unit)
 | 0,_,_,_,_,_,_,_,_=>none
 | m + 1,v6,v7,b0_0,b1_0,b1_1,b1_2,r4,r5=>Hy  (fun d=>Cy m d.1 d.2.1 d.2.2.1 d.2.2.2.1 d.2.2.2.2.1 d.2.2.2.2.2.1 d.2.2.2.2.2.2.1 d.2.2.2.2.2.2.2.1) (fun d=>some (d)) v6 v7 b0_0 b1_0 b1_1 b1_2 r4 r5
def Afi (d:(Bool)×(Int)×(List Bx)×(Ab)×(Ab)×(Bool)×(List Bx)×(List Bx)×Unit):Option ((Bool)×(Ab)×(Ab)×(Bool)×(List Bx)×(List Bx)×Unit):=(u4 (u4 Aj)) (Cy ((u4 (u4 Aj)) Hx d)) d
def Qk (a0:Kb) (a1:Bq):Option ((Kb×(Unit))):=
 ((fun d=>Cy (Hx d.1 d.2.1 d.2.2.1 d.2.2.2.1 d.2.2.2.2.1 d.2.2.2.2.2.1 d.2.2.2.2.2.2.1 d.2.2.2.2.2.2.2.1) d.1 d.2.1 d.2.2.1 d.2.2.2.1 d.2.2.2.2.1 d.2.2.2.2.2.1 d.2.2.2.2.2.2.1 d.2.2.2.2.2.2.2.1) (a1.2.2.1,0,a0.1,a1.1,a1.2.1,a1.2.2.1,[],[],())).bind fun val=>bif !val.1 then bif decide ((val.2.2.2.2.2.1.length + [(val.2.1,val.2.2.1,())].length) * 32≤140737488355328) then some ((val.2.2.2.2.2.1++[(val.2.1,val.2.2.1,())],()),()) else none else some (val.2.2.2.2.2,())
theorem Akg (a0:Kb) (a1:Bq) r (h:K2 a0 a1=some r):Qk a0 a1=some ((r.1,()),(())):=by
 unfold K2 at h
 split at h
 rotate_left
 ·cases h
 rename_i hlen
 cases h
 unfold Qk
 have hL:=Jd (xs:=a0.1) zP (fun i (s:Bool×List Bx)=>i≤1000000∧s.2.length≤2 * i) (fun _ p s=>Tn a1.1 a1.2.1 p s) (g:=fun m i s=>Cy m s.1 i a0.1 a1.1 a1.2.1 a1.2.2.1 [] s.2) (ok:=fun s=>(s.1,a1.1,a1.2.1,a1.2.2.1,[],s.2,())) (fun m i s hi hI=>by
   show Cy (m + 1) s.1 i a0.1 a1.1 a1.2.1 a1.2.2.1 [] s.2=_
   obtain ⟨d,out⟩:=s
   obtain ⟨h1,h2⟩:=hI
   simp only at h2 ⊢
   simp only [Cy,Hy]
   have e1:decide ((out.length + 1) * 32≤140737488355328)=true:=Ag (by omega)
   have e2:decide ((out.length + 1 + 1) * 32≤140737488355328)=true:=Ag (by omega)
   rw [cLt hi,Nd,wI (show i < 4611686018427387904 by omega),Kx]
   simp only [cond_true,Et,Ey,e1,e2]
   unfold Tn gtS bl
   show (bif !d then (bif !(Op.bytesLess (List.getD a0.1 i zP).1.toList a1.1.toList || (List.getD a0.1 i zP).1.toList==a1.1.toList) then _ else _) else _)=_
   cases d with
   | true=>
    simp only [Bool.not_true,Bool.false_and,cond_false]
    show (bif !((List.getD a0.1 i zP).1.toList==a1.1.toList) then _ else _)=_
    cases ((List.getD a0.1 i zP).1.toList==a1.1.toList)<;>rfl
   | false=>
    simp only [Bool.not_false,Bool.true_and,cond_true]
    cases hq:!(Op.bytesLess (List.getD a0.1 i zP).1.toList a1.1.toList || (List.getD a0.1 i zP).1.toList==a1.1.toList) with
    | true=>
     simp only [cond_true]
     show (bif !((List.getD a0.1 i zP).1.toList==a1.1.toList) then _ else _)=_
     cases ((List.getD a0.1 i zP).1.toList==a1.1.toList)<;>rfl
    | false=>
     simp only [cond_false]
     show (bif !((List.getD a0.1 i zP).1.toList==a1.1.toList) then _ else _)=_
     cases ((List.getD a0.1 i zP).1.toList==a1.1.toList)<;>rfl) (fun i s hi hI=>⟨by omega,by have:=Ap3 a1.1 a1.2.1 (a0.1.getD i zP) s; omega⟩) (fun m s hI=>by
   show Cy (m + 1) s.1 (a0.1.length:Int) a0.1 a1.1 a1.2.1 a1.2.2.1 [] s.2=_
   simp only [Cy,Hy]
   rw [Zr]
   rfl) (Hx a1.2.2.1 0 a0.1 a1.1 a1.2.1 a1.2.2.1 [] []) 0 (a1.2.2.1,[]) (by omega) (by simp [Hx,nI]) ⟨by omega,Nat.le_refl _⟩
 have hE:=A1x a1.1 a1.2.1 a0.1 0 (a1.2.2.1,[])
 have hB:(Hk (fun _ p s=>Tn a1.1 a1.2.1 p s) 0 a0.1 (a1.2.2.1,[])).2.length≤2 * a0.1.length:=by
  have:=Xr zP (fun i (s:Bool×List Bx)=>s.2.length≤2 * i) (fun _ p s=>Tn a1.1 a1.2.1 p s) (xs:=a0.1) (fun i s hi hI=>by have:=Ap3 a1.1 a1.2.1 (a0.1.getD i zP) s; omega) a0.1.length 0 (a1.2.2.1,[]) (by omega) (Nat.le_refl _)
  exact this
 rw [List.drop_zero] at hL
 refine Aji hL ?_
 dsimp only
 generalize Hk (fun _ p s=>Tn a1.1 a1.2.1 p s) 0 a0.1 (a1.2.2.1,[])=q at hE hB
 obtain ⟨d,out⟩:=q
 simp only at hB
 simp only [List.nil_append] at hE
 show _=some ((Ny a1.1 a1.2.1 a1.2.2.1 a0.1,()),())
 rw [← hE]
 unfold Ax5
 have e1:decide ((out.length + 1) * 32≤140737488355328)=true:=Ag (by omega)
 cases d with
 | true=>rfl
 | false=>
  simp only [Bool.not_false,cond_true,cond_false,Et,e1]
def Uf {R:Type} (k:Kt R):=(N3 (Hg 5) (.exit 0) 2 k)
def f9 {R:Type}:Lt R Hg:=(G3 (pat:=Hg) 5 (fun d k=>(Afi d).bind (Uf k)) Jo)
theorem Yq:A4 Try.prog Yp:=A9 trivial
theorem Afj {R:Type}:Bg Try.prog R 73 0 Hg f9 Ue:=
 C8 (cfg:=⟨Yp,0,73,Hg⟩) 5 [] (fun NX X (d:(Bool)×(Int)×(List Bx)×(Ab)×(Ab)×(Bool)×(List Bx)×(List Bx)×Unit)=>(u4 (u4 Aj)) (Hy  NX X) d) (fun m d=>(u4 (u4 Aj)) (Cy m) d) (fun d=>(u4 (u4 Aj)) Hx d) Uf Yq trivial (fun f NX (d:(Bool)×(Int)×(List Bx)×(Ab)×(Ab)×(Bool)×(List Bx)×(List Bx)×Unit)=>by simp only [u4,Ad,Aj]; unfold Hy; simp only [nb])
theorem Akh:Cg Try.prog 122 Yo:=
 Ba (pat:=Hg) [Ue] f9 Yq ⟨Afj,trivial⟩ Try.func122 (de:=fun x=>Qk x.1 x.2.1) (fun x r h=>Gd (Akg x.1 x.2.1) h) fun _=>by kernel_rfl
def Eb (s:Kb) (b:List Bq):Kb×Int:=D7 s b
def Asd:H6:=⟨[.rd Li,.rd (.sl Gs)],[some 1,none],[.own 67 B4,.rd tI],[some 1,none]⟩
def W5:SD:=⟨Asd,fun x=>some (((Eb x.1 x.2.1).1.1,(Eb x.1 x.2.1).2,()),(()))⟩
def Adp:Tb:=tb [(31,Kk),(93,Lu),(107,Kl),(122,Yo)]
def K8:Nat→Dv×(Nat→Dv):=Jc [(6,⟨[.sl 1 0 Gs,.boxRow 4 0 67 B4,.boxRow 6 0 67 B4],[(1,.lf (.d (.sl Gs))),(4,.lf (.ptr 0 0)),(6,.lf (.ptr 1 0)),(7,.lf (.d tI))],[.box 30 [.row 2],.box 30 [.row 3],.row 67 B4,.row 67 B4]⟩,[(2,⟨[.boxRow 4 0 67 B4,.boxRow 6 0 67 B4],[(4,.lf (.ptr 0 0)),(6,.lf (.ptr 1 0))],[.box 30 [.row 2],.box 30 [.row 3],.row 67 B4,.row 67 B4]⟩)])]
def g6:Code:=(Ax (Bs Try.f108)).getD 0 .skip
def Il (v1:List Bq) (v7:Int) (r2 r3:List Bx):Nat:=((v1.length:Int) - v7).toNat + 1
def K3 {R:Type}  (NX:((List Bq)×(Int)×(List Bx)×(List Bx)×Unit)→Option R) (X2:((List Bx)×(List Bx)×Unit)→Option R) (v1:List Bq) (v7:Int) (r2:List Bx) (r3:List Bx):Option R:=
 bif decide (v7 < nI v1.length) then bif decide (0≤v7) then bif decide (v7 < nI v1.length) then ((K2 (r3,()) (v1.getD v7.toNat (Af,Af,false,()))).bind fun val=>some (val,())).bind fun val=>NX (v1,IntKind.i64.wrap (v7 + 1),r2,val.1) else none else none else X2 (r2,r3,())
def Do:Nat→(List Bq)→(Int)→(List Bx)→(List Bx) →  Option ((List Bx)×(List Bx)×Unit)
 | 0,_,_,_,_=>none
 | m + 1,v1,v7,r2,r3=>K3  (fun d=>Do m d.1 d.2.1 d.2.2.1 d.2.2.2.1) (fun d=>some (d)) v1 v7 r2 r3
def Amp (d:(List Bq)×(Int)×(List Bx)×(List Bx)×Unit):Option ((List Bx)×(List Bx)×Unit):=(u4 Aj) (Do ((u4 Aj) Il d)) d
def W6 (a0:Kb) (a1:List Bq):Option ((((List Bx)×(Int)×Unit)×(Unit))):=
 bif !E3 a0 then some (([],1,()),()) else bif !Gk a1 then some (([],1,()),()) else ((C3 a0).bind fun val=>some (val,())).bind fun val=>((fun d=>Do (Il d.1 d.2.1 d.2.2.1 d.2.2.2.1) d.1 d.2.1 d.2.2.1 d.2.2.2.1) (a1,0,[],val.1)).bind fun val=>bif decide (nI val.2.1.length > 100) then some (([],2,()),()) else some ((val.2.1,0,()),())
theorem Av6 (b:List Bq) (xs:List Bx) (hb:b.length≤20) (hx:xs.length≤100):Do (Il b 0 [] xs) b 0 [] xs=some ([],Vs xs b,()):=by
 have hL:=Jd (xs:=b) zC (fun i (l:List Bx)=>i≤20∧l.length≤100 + i) (fun _ c l=>Ar4 c l) (g:=fun m i l=>Do m b i [] l) (ok:=fun l=>([],l,())) (fun m i l hi hI=>by
   show Do (m + 1) b i [] l=_
   simp only [Do,K3]
   rw [cLt hi,Nd,wI (show i < 4611686018427387904 by omega),Kx]
   simp only [cond_true]
   have e1:K2 (l,()) ((List.getD b i zC).1,(List.getD b i zC).2.1,(List.getD b i zC).2.2.1,())=some (Ar4 (List.getD b i zC) l,()):=if_pos (by show l.length≤1000000; omega)
   refine (congrArg (fun y=>Option.bind (Option.bind y _) _) e1).trans ?_
   rfl) (fun i l hi hI=>⟨by omega,by have:=A7p (b.getD i zC) l; omega⟩) (fun m l hI=>by
   show Do (m + 1) b (b.length:Int) [] l=_
   simp only [Do,K3]
   rw [Zr]
   rfl) (Il b 0 [] xs) 0 xs (by omega) (by simp [Il,nI]) ⟨by omega,by omega⟩
 rw [List.drop_zero] at hL
 exact hL
theorem Ase (a0:Kb) (a1:List Bq):W6 a0 a1=some (((Eb a0 a1).1.1,(Eb a0 a1).2,()),(())):=by
 unfold W6 Eb D7
 show (bif !As a0 then _ else bif !Bh a1 then _ else _)=_
 cases hv:As a0 with
 | false=>rfl
 | true=>
  cases hb:Bh a1 with
  | false=>rfl
  | true=>
   simp only [Bool.not_true,cond_false]
   have hl:=E0 hv
   have hb2:=C5 (Ch hb).1
   have e1:C3 (a0.1,())=some (a0.1,()):=if_pos (Nat.le_trans hl (by decide))
   rw [e1]
   simp only [Option.bind_some]
   refine Aji (Av6 a1 a0.1 (by omega) hl) ?_
   dsimp only
   by_cases q:(Vs a0.1 a1).length > 100
   ·rw [Ag (show nI (Vs a0.1 a1).length > 100 by simp only [nI]; omega),Ag q]
    rfl
   ·rw [Bi (show ¬ nI (Vs a0.1 a1).length > 100 by simp only [nI]; omega),Bi q]
    rfl
def g7 {R:Type} (k:Kt R):=(N3 (K8 6) (.exit 0) 2 k)
def Ahy {R:Type}:Lt R K8:=(G3 (pat:=K8) 6 (fun d k=>(Amp d).bind (g7 k)) Jo)
theorem Adq:A4 Try.prog Adp:=A9 ⟨Nk,Ov,Nm,Akh,trivial⟩
theorem Amq {R:Type}:Bg Try.prog R 37 0 K8 Ahy g6:=
 C8 (cfg:=⟨Adp,0,37,K8⟩) 6 [] (fun NX X d=>(u4 Aj) (K3  NX X) d) (fun m d=>(u4 Aj) (Do m) d) (fun d=>(u4 Aj) Il d) g7 Adq trivial (fun f NX d=>by simp only [u4,Ad,Aj]; unfold K3; simp only [nb])
theorem Adr:Cg Try.prog 108 W5:=
 Ba (pat:=K8) [g6] Ahy Adq ⟨Amq,trivial⟩ Try.func108 (de:=fun x=>W6 x.1 x.2.1) (fun x r h=>(Ase x.1 x.2.1).trans h) fun _=>by kernel_rfl
def Nq (e:Ab) (life first w:Int):Option (List Ab):=if e.size≤1048576 then some (Al8 e life first w) else none
def K9 (v1 v2 v3:Int) (v10:List Ab) (v11:Int) (r0:List Ab):Nat:=(nI v10.length - v11).toNat + 1
def Aym:H6:=⟨[.rd .str,.rd tI,.rd tI,.rd tI],[none,none,none,none],[.own 9 .str],[none]⟩
def Aba:SD:=⟨Aym,fun x=>(Nq x.1 x.2.1 x.2.2.1 x.2.2.2.1).bind fun r=>some ((r,()),(()))⟩
def Alu:Tb:=tb [(56,Fq),(62,C0),(124,Rp)]
def N0:Nat→Dv×(Nat→Dv):=Jc [(9,⟨[.row 9 0 9 .str,.sl 10 0 .str],[(1,.lf (.d tI)),(2,.lf (.d tI)),(3,.lf (.d tI)),(9,.lf (.row 0)),(10,.lf (.d (.sl .str))),(11,.lf (.d tI))],[.row 9 .str]⟩,[(2,⟨[.row 9 0 9 .str],[(9,.lf (.row 0))],[.row 9 .str]⟩)])]
def Ads:Code:=(Ax (Bs Try.f111)).getD 0 .skip
def Mv {R:Type}  (NX:((Int)×(Int)×(Int)×(List Ab)×(Int)×(List Ab)×Unit)→Option R) (X2:((List Ab)×Unit)→Option R) (v1:Int) (v2:Int) (v3:Int) (v10:List Ab) (v11:Int) (r0:List Ab):Option R:=
 bif decide (v11 < nI v10.length) then bif v11==IntKind.i64.wrap (nI v10.length - 1) then bif decide (0≤v11) then bif decide (v11 < nI v10.length) then bif decide ((r0.length + [B1 (2,v1,IntKind.i64.wrap (v2 + v11),v10.getD v11.toNat (Af),()) v3].length) * 16≤140737488355328) then NX (v1,v2,v3,v10,IntKind.i64.wrap (v11 + 1),r0++[B1 (2,v1,IntKind.i64.wrap (v2 + v11),v10.getD v11.toNat (Af),()) v3],()) else none else none else none else bif decide (0≤v11) then bif decide (v11 < nI v10.length) then bif decide ((r0.length + [B1 (1,v1,IntKind.i64.wrap (v2 + v11),v10.getD v11.toNat (Af),()) v3].length) * 16≤140737488355328) then NX (v1,v2,v3,v10,IntKind.i64.wrap (v11 + 1),r0++[B1 (1,v1,IntKind.i64.wrap (v2 + v11),v10.getD v11.toNat (Af),()) v3],()) else none else none else none else X2 (r0,())
def Ew:Nat→(Int)→(Int)→(Int)→(List Ab)→(Int)→(List Ab) →  Option ((List Ab)×Unit)
 | 0,_,_,_,_,_,_=>none
 | m + 1,v1,v2,v3,v10,v11,r0=>Mv  (fun d=>Ew m d.1 d.2.1 d.2.2.1 d.2.2.2.1 d.2.2.2.2.1 d.2.2.2.2.2.1) (fun d=>some (d)) v1 v2 v3 v10 v11 r0
def Asf (d:(Int)×(Int)×(Int)×(List Ab)×(Int)×(List Ab)×Unit):Option ((List Ab)×Unit):=(u4 (Ad (Ad Aj))) (Ew ((u4 (Ad (Ad Aj))) K9 d)) d
def Abb (a0:Ab) (a1 a2 a3:Int):Option ((((List Ab)×Unit)×(Unit))):=
 (B0 a3).bind fun val=>bif !val.1.1 then some (([],()),()) else bif decide (a1 < 1) then some (([],()),()) else bif decide (a1 > 60000) then some (([],()),()) else bif decide (a2 < 1) then some (([],()),()) else bif decide (a2 > 1000000000) then some (([],()),()) else ((Hv a0 a3).bind fun val=>some ((val,()),())).bind fun val=>bif decide (nI (List.length val.1.1) > IntKind.i64.wrap (IntKind.i64.wrap (1000000000 - a2) + 1)) then some (([],()),()) else ((fun d=>Ew (K9 d.1 d.2.1 d.2.2.1 d.2.2.2.1 d.2.2.2.2.1 d.2.2.2.2.2.1) d.1 d.2.1 d.2.2.1 d.2.2.2.1 d.2.2.2.2.1 d.2.2.2.2.2.1) (a1,a2,a3,val.1.1,0,[],())).bind fun val=>some (val,())
theorem Ayn (a0:Ab) (a1 a2 a3:Int) r (h:Nq a0 a1 a2 a3=some r):Abb a0 a1 a2 a3=some ((r,()),(())):=by
 unfold Nq at h
 split at h
 rotate_left
 ·cases h
 rename_i hc
 cases h
 unfold Abb Al8
 refine bi_ (wid a3) ?_
 rw [App a1]
 show (bif !Cj a3 1 8 then _ else (bif Cj a1 1 60000 then _ else _))=_
 cases hw:Cj a3 1 8 with
 | false=>rfl
 | true=>
  obtain ⟨k1,k2⟩:=C5 hw
  have hp:=Zs (s:=a0) hw
  have hP:Jq a0.size a3=((Bb a0 a3).length:Int):=by unfold Jq; rw [hw]; exact hp.symm
  have hlen:(Bb a0 a3).length≤a0.size + 1:=Alg _ _ _
  have h1:1≤(Bb a0 a3).length:=by
   have:(1:Int)≤((Bb a0 a3).length:Int):=by rw [hp]; split<;>omega
   omega
  have n1:Hv a0 a3=some (Bb a0 a3):=if_pos ⟨by omega,k1,k2⟩
  rw [hP]
  cases hl:Cj a1 1 60000 with
  | false=>rfl
  | true=>
   by_cases q1:a2 < 1
   ·rw [Ag q1,Bi (show ¬ 1≤a2 by omega)]; rfl
   ·rw [Bi q1,Ag (show 1≤a2 by omega)]
    by_cases q0:a2 > 1000000000
    ·rw [Ag q0,Bi (show ¬ a2≤1000000000 - ((Bb a0 a3).length:Int) + 1 by omega)]; rfl
    ·rw [Bi q0]
     refine bi_ (bi_ n1 rfl) ?_
     show (bif decide (nI (Bb a0 a3).length > IntKind.i64.wrap (IntKind.i64.wrap (1000000000 - a2) + 1)) then _ else (Option.bind (Ew (K9 a1 a2 a3 (Bb a0 a3) 0 []) a1 a2 a3 (Bb a0 a3) 0 []) _))=_
     rw [Al (n:=1000000000 - a2) (by omega) (by omega),Al (n:=1000000000 - a2 + 1) (by omega) (by omega)]
     simp only [nI]
     by_cases q2:a2 > 1000000000 - ((Bb a0 a3).length:Int) + 1
     ·rw [Ag (show ((Bb a0 a3).length:Int) > 1000000000 - a2 + 1 by omega),Bi (show ¬ a2≤1000000000 - ((Bb a0 a3).length:Int) + 1 by omega)]; rfl
     ·rw [Bi (show ¬ ((Bb a0 a3).length:Int) > 1000000000 - a2 + 1 by omega),Ag (show a2≤1000000000 - ((Bb a0 a3).length:Int) + 1 by omega)]
      generalize Bb a0 a3=P at *
      have hL:=Agu P.length (fun i r=>r.length=i) (fun i r=>r++[Cr ((if i + 1=P.length then 2 else 1),a1,a2 + (i:Int),P.getD i z0,()) a3]) (g:=fun m i r=>Ew m a1 a2 a3 P i r) (ok:=fun r=>(r,())) (fun m i r hi hr=>by
       show Ew (m + 1) a1 a2 a3 P i r=_
       simp only [Ew,Mv]
       rw [cLt hi,Nd,wI (show i < 4611686018427387904 by omega),Kx,Al (n:=a2 + (i:Int)) (by omega) (by omega),Al (n:=nI P.length - 1) (by simp only [nI]; omega) (by simp only [nI]; omega),Et,Et,Ag (show (r.length + 1) * 16≤140737488355328 by omega)]
       by_cases e:i + 1=P.length
       ·rw [show ((i:Int)==nI P.length - 1)=true from beq_iff_eq.2 (by simp only [nI]; omega),if_pos e]; rfl
       ·rw [show ((i:Int)==nI P.length - 1)=false from beq_eq_false_iff_ne.2 (by simp only [nI]; omega),if_neg e]; rfl) (fun m r _=>by
       show Ew (m + 1) a1 a2 a3 P (P.length:Int) r=_
       simp only [Ew,Mv]
       rw [Zr]
       rfl) (fun i r hi hr=>by rw [Ey,Et,hr]) P.length (K9 a1 a2 a3 P 0 []) 0 [] (by omega) (by simp only [K9,nI]; omega) rfl
      rw [At2 (fun i=>Cr ((if i + 1=P.length then 2 else 1),a1,a2 + (i:Int),P.getD i z0,()) a3),List.nil_append,← Vp] at hL
      exact bi_ hL rfl
def Adt {R:Type} (k:Kt R):=(N3 (N0 9) (.exit 0) 2 k)
def Aqz {R:Type}:Lt R N0:=(G3 (pat:=N0) 9 (fun d k=>(Asf d).bind (Adt k)) Jo)
theorem Alv:A4 Try.prog Alu:=A9 ⟨Ha,Dn,f8,trivial⟩
theorem Asg {R:Type}:Bg Try.prog R 71 0 N0 Aqz Ads:=
 C8 (cfg:=⟨Alu,0,71,N0⟩) 9 [] (fun NX X d=>(u4 (Ad (Ad Aj))) (Mv  NX X) d) (fun m d=>(u4 (Ad (Ad Aj))) (Ew m) d) (fun d=>(u4 (Ad (Ad Aj))) K9 d) Adt Alv trivial (fun f NX d=>by simp only [u4,Ad,Aj]; unfold Mv; simp only [nb])
theorem Alw:Cg Try.prog 111 Aba:=
 Ba (pat:=N0) [Ads] Aqz Alv ⟨Asg,trivial⟩ Try.func111 (de:=fun x=>Abb x.1 x.2.1 x.2.2.1 x.2.2.2.1) (fun x r h=>Gd (Ayn x.1 x.2.1 x.2.2.1 x.2.2.2.1) h) fun _=>by kernel_rfl
def Ahz (a:Int) (d:Ab):Fy:=(false,a,d,())
def Ash:H6:=⟨[.rd tI,.rd .str],[none,none],[.rd Is],[some 3]⟩
def Qw:SD:=⟨Ash,fun x=>some (((Ahz x.1 x.2.1),()),(()))⟩
def Adu (a0:Int) (a1:Ab):Option (((Fy×Unit)×(Unit))):=
 some (((false,a0,a1,()),()),())
theorem Asi (a0:Int) (a1:Ab):Adu a0 a1=some (((Ahz a0 a1),()),(())):=rfl
theorem W7:Cg Try.prog 113 Qw:=
 Ba (pat:=Eo) [] Jo (A9 (l:=[]) trivial) trivial Try.func113 (de:=fun x=>Adu x.1 x.2.1) (fun x r h=>(Asi x.1 x.2.1).trans h) fun _=>by kernel_rfl
def A8 (n h:Int):Int:=IntKind.i64.wrap (2 + IntKind.i64.wrap (h * Au n))
def Aq0:H6:=⟨[.rd tI,.rd tI],[none,none],[.rd tI],[none]⟩
def O7:SD:=⟨Aq0,fun x=>some (((A8 x.1 x.2.1),()),(()))⟩
def Abc (a0 a1:Int):Option ((((Int)×Unit)×(Unit))):=
 some ((IntKind.i64.wrap (2 + IntKind.i64.wrap (a1 * Au a0)),()),())
theorem Aq1 (a0 a1:Int):Abc a0 a1=some (((A8 a0 a1),()),(())):=rfl
theorem Ug:Cg Try.prog 114 O7:=
 Ba (pat:=Eo) [] Jo (A9 (l:=[(109,J1)]) ⟨Lw,trivial⟩) trivial Try.func114 (de:=fun x=>Abc x.1 x.2.1) (fun x r h=>(Aq1 x.1 x.2.1).trans h) fun _=>by kernel_rfl
def At (s:Lk) (b:List Bq):Ta:=Gg s b
def Aq2:H6:=⟨[.rd Api,.rd (.sl Gs)],[some 10,none],[.rd tI,.rd tI,.rd tI,.rd tI,.rd tI,.rd tI,.rd tI,.rd tI,.rd tI,.rd tI,.own 67 B4,.own 49 Is],[some 12]⟩
def Uh:SD:=⟨Aq2,fun x=>some (((At x.1 x.2.1).1,(At x.1 x.2.1).2.1.1,(At x.1 x.2.1).2.1.2.1,(At x.1 x.2.1).2.1.2.2.1,(At x.1 x.2.1).2.1.2.2.2.1.1,(At x.1 x.2.1).2.1.2.2.2.1.2.1,(At x.1 x.2.1).2.1.2.2.2.1.2.2.1,(At x.1 x.2.1).2.1.2.2.2.1.2.2.2.1,(At x.1 x.2.1).2.1.2.2.2.2.1,(At x.1 x.2.1).2.1.2.2.2.2.2.1,(At x.1 x.2.1).2.1.2.2.2.2.2.2.1.1,(At x.1 x.2.1).2.2.1,()),(()))⟩
def Abd:Tb:=tb [(106,Km),(107,Kl),(108,W5),(109,J1),(110,Ss),(111,Aba),(112,Iz),(113,Qw),(114,O7)]
def J2:Nat→Dv×(Nat→Dv):=Jc [(17,⟨[.sl 8 0 .str,.row 10 0 49 Is,.boxSl 2 9 B4,.boxRow 4 10 67 B4,.boxRow 4 11 49 Is,.boxRow 9 9 67 B4],[(2,.lf (.ptr 0 0)),(4,.lf (.ptr 1 0)),(8,.lf (.d (.sl .str))),(9,.lf (.ptr 2 0)),(10,.lf (.row 3)),(11,.lf (.d tI))],[.box 95 [.d tI,.d tI,.d tI,.d tI,.d tI,.d tI,.d tI,.d tI,.d tI,.d (.sl B4)],.box 141 [.d tI,.d tI,.d tI,.d tI,.d tI,.d tI,.d tI,.d tI,.d tI,.d tI,.row 4,.row 5],.box 95 [.d tI,.d tI,.d tI,.d tI,.d tI,.d tI,.d tI,.d tI,.d tI,.row 6],.row 49 Is,.row 67 B4,.row 49 Is,.row 67 B4]⟩,[(2,⟨[.row 10 0 49 Is,.boxRow 4 10 67 B4,.boxRow 4 11 49 Is,.boxRow 9 9 67 B4],[(4,.lf (.ptr 0 0)),(9,.lf (.ptr 1 0)),(10,.lf (.row 2))],[.box 141 [.d tI,.d tI,.d tI,.d tI,.d tI,.d tI,.d tI,.d tI,.d tI,.d tI,.row 3,.row 4],.box 95 [.d tI,.d tI,.d tI,.d tI,.d tI,.d tI,.d tI,.d tI,.d tI,.row 5],.row 49 Is,.row 67 B4,.row 49 Is,.row 67 B4]⟩)])]
def Wc:Code:=(Ax (Bs Try.f96)).getD 0 .skip
def Gp (v8:List Ab) (v11 b0_0:Int) (b0_1 b0_2:Int) (b0_3 b0_4:Int) (b0_5 b0_6:Int) (b0_7 b0_8:Int) (b0_9:List Bx) (b1_0 b1_1:Int) (b1_2 b1_3:Int) (b1_4 b1_5:Int) (b1_6 b1_7:Int) (b1_8 b1_9:Int) (b2_0 b2_1:Int) (b2_2 b2_3:Int) (b2_4 b2_5:Int) (b2_6 b2_7 b2_8:Int) (r3:List Fy) (r4:List Bx) (r5:List Fy) (r6:List Bx):Nat:=((v8.length:Int) - v11).toNat + 1
def I1 {R:Type}  (NX:((List Ab)×(Int)×(Int)×(Int)×(Int)×(Int)×(Int)×(Int)×(Int)×(Int)×(Int)×(List Bx)×(Int)×(Int)×(Int)×(Int)×(Int)×(Int)×(Int)×(Int)×(Int)×(Int)×(Int)×(Int)×(Int)×(Int)×(Int)×(Int)×(Int)×(Int)×(Int)×(List Fy)×(List Bx)×(List Fy)×(List Bx)×Unit)→Option R) (X2:((Int)×(Int)×(Int)×(Int)×(Int)×(Int)×(Int)×(Int)×(Int)×(Int)×(Int)×(Int)×(Int)×(Int)×(Int)×(Int)×(Int)×(Int)×(Int)×(List Fy)×(List Bx)×(List Fy)×(List Bx)×Unit)→Option R) (v8:List Ab) (v11:Int) (b0_0:Int) (b0_1:Int) (b0_2:Int) (b0_3:Int) (b0_4:Int) (b0_5:Int) (b0_6:Int) (b0_7:Int) (b0_8:Int) (b0_9:List Bx) (b1_0:Int) (b1_1:Int) (b1_2:Int) (b1_3:Int) (b1_4:Int) (b1_5:Int) (b1_6:Int) (b1_7:Int) (b1_8:Int) (b1_9:Int) (b2_0:Int) (b2_1:Int) (b2_2:Int) (b2_3:Int) (b2_4:Int) (b2_5:Int) (b2_6:Int) (b2_7:Int) (b2_8:Int) (r3:List Fy) (r4:List Bx) (r5:List Fy) (r6:List Bx):Option R:=
 bif decide (v11 < nI v8.length) then bif decide (0≤v11) then bif decide (v11 < nI v8.length) then bif decide ((r3.length + [(false,IntKind.i64.wrap (A8 b0_1 b0_4 + b2_7),v8.getD v11.toNat (Af),())].length) * 32≤140737488355328) then NX (v8,IntKind.i64.wrap (v11 + 1),b0_0,b0_1,b0_2,b0_3,b0_4,b0_5,b0_6,b0_7,b0_8,b0_9,b1_0,b1_1,b1_2,b1_3,b1_4,b1_5,b1_6,b1_7,b1_8,b1_9,b2_0,b2_1,b2_2,b2_3,b2_4,b2_5,b2_6,IntKind.i64.wrap (b2_7 + 1),IntKind.i64.wrap (b2_8 + 1),r3++[(false,IntKind.i64.wrap (A8 b0_1 b0_4 + b2_7),v8.getD v11.toNat (Af),())],r4,r5,r6,()) else none else none else none else X2 (b1_0,b1_1,b1_2,b1_3,b1_4,b1_5,b1_6,b1_7,b1_8,b1_9,b2_0,b2_1,b2_2,b2_3,b2_4,b2_5,b2_6,b2_7,b2_8,r3,r4,r5,r6,())
def Ca:Nat→(List Ab)→(Int)→(Int)→(Int)→(Int)→(Int)→(Int)→(Int)→(Int)→(Int)→(Int)→(List Bx)→(Int)→(Int)→(Int)→(Int)→(Int)→(Int)→(Int)→(Int)→(Int)→(Int)→(Int)→(Int)→(Int)→(Int)→(Int)→(Int)→(Int)→(Int)→(Int)→(List Fy)→(List Bx)→(List Fy)→(List Bx) →  Option ((Int)×(Int)×(Int)×(Int)×(Int)×(Int)×(Int)×(Int)×(Int)×(Int)×(Int)×(Int)×(Int)×(Int)×(Int)×(Int)×(Int)×(Int)×(Int)×(List Fy)×(List Bx)×(List Fy)×(List Bx)×Unit)
 | 0,_,_,_,_,_,_,_,_,_,_,_,_,_,_,_,_,_,_,_,_,_,_,_,_,_,_,_,_,_,_,_,_,_,_,_=>none
 | m + 1,v8,v11,b0_0,b0_1,b0_2,b0_3,b0_4,b0_5,b0_6,b0_7,b0_8,b0_9,b1_0,b1_1,b1_2,b1_3,b1_4,b1_5,b1_6,b1_7,b1_8,b1_9,b2_0,b2_1,b2_2,b2_3,b2_4,b2_5,b2_6,b2_7,b2_8,r3,r4,r5,r6=>I1  (fun d=>Ca m d.1 d.2.1 d.2.2.1 d.2.2.2.1 d.2.2.2.2.1 d.2.2.2.2.2.1 d.2.2.2.2.2.2.1 d.2.2.2.2.2.2.2.1 d.2.2.2.2.2.2.2.2.1 d.2.2.2.2.2.2.2.2.2.1 d.2.2.2.2.2.2.2.2.2.2.1 d.2.2.2.2.2.2.2.2.2.2.2.1 d.2.2.2.2.2.2.2.2.2.2.2.2.1 d.2.2.2.2.2.2.2.2.2.2.2.2.2.1 d.2.2.2.2.2.2.2.2.2.2.2.2.2.2.1 d.2.2.2.2.2.2.2.2.2.2.2.2.2.2.2.1 d.2.2.2.2.2.2.2.2.2.2.2.2.2.2.2.2.1 d.2.2.2.2.2.2.2.2.2.2.2.2.2.2.2.2.2.1 d.2.2.2.2.2.2.2.2.2.2.2.2.2.2.2.2.2.2.1 d.2.2.2.2.2.2.2.2.2.2.2.2.2.2.2.2.2.2.2.1 d.2.2.2.2.2.2.2.2.2.2.2.2.2.2.2.2.2.2.2.2.1 d.2.2.2.2.2.2.2.2.2.2.2.2.2.2.2.2.2.2.2.2.2.1 d.2.2.2.2.2.2.2.2.2.2.2.2.2.2.2.2.2.2.2.2.2.2.1 d.2.2.2.2.2.2.2.2.2.2.2.2.2.2.2.2.2.2.2.2.2.2.2.1 d.2.2.2.2.2.2.2.2.2.2.2.2.2.2.2.2.2.2.2.2.2.2.2.2.1 d.2.2.2.2.2.2.2.2.2.2.2.2.2.2.2.2.2.2.2.2.2.2.2.2.2.1 d.2.2.2.2.2.2.2.2.2.2.2.2.2.2.2.2.2.2.2.2.2.2.2.2.2.2.1 d.2.2.2.2.2.2.2.2.2.2.2.2.2.2.2.2.2.2.2.2.2.2.2.2.2.2.2.1 d.2.2.2.2.2.2.2.2.2.2.2.2.2.2.2.2.2.2.2.2.2.2.2.2.2.2.2.2.1 d.2.2.2.2.2.2.2.2.2.2.2.2.2.2.2.2.2.2.2.2.2.2.2.2.2.2.2.2.2.1 d.2.2.2.2.2.2.2.2.2.2.2.2.2.2.2.2.2.2.2.2.2.2.2.2.2.2.2.2.2.2.1 d.2.2.2.2.2.2.2.2.2.2.2.2.2.2.2.2.2.2.2.2.2.2.2.2.2.2.2.2.2.2.2.1 d.2.2.2.2.2.2.2.2.2.2.2.2.2.2.2.2.2.2.2.2.2.2.2.2.2.2.2.2.2.2.2.2.1 d.2.2.2.2.2.2.2.2.2.2.2.2.2.2.2.2.2.2.2.2.2.2.2.2.2.2.2.2.2.2.2.2.2.1 d.2.2.2.2.2.2.2.2.2.2.2.2.2.2.2.2.2.2.2.2.2.2.2.2.2.2.2.2.2.2.2.2.2.2.1) (fun d=>some (d)) v8 v11 b0_0 b0_1 b0_2 b0_3 b0_4 b0_5 b0_6 b0_7 b0_8 b0_9 b1_0 b1_1 b1_2 b1_3 b1_4 b1_5 b1_6 b1_7 b1_8 b1_9 b2_0 b2_1 b2_2 b2_3 b2_4 b2_5 b2_6 b2_7 b2_8 r3 r4 r5 r6
def Ah0 (d:(List Ab)×(Int)×(Int)×(Int)×(Int)×(Int)×(Int)×(Int)×(Int)×(Int)×(Int)×(List Bx)×(Int)×(Int)×(Int)×(Int)×(Int)×(Int)×(Int)×(Int)×(Int)×(Int)×(Int)×(Int)×(Int)×(Int)×(Int)×(Int)×(Int)×(Int)×(Int)×(List Fy)×(List Bx)×(List Fy)×(List Bx)×Unit):Option ((Int)×(Int)×(Int)×(Int)×(Int)×(Int)×(Int)×(Int)×(Int)×(Int)×(Int)×(Int)×(Int)×(Int)×(Int)×(Int)×(Int)×(Int)×(Int)×(List Fy)×(List Bx)×(List Fy)×(List Bx)×Unit):=(u4 (u4 (u4 (u4 (u4 (u4 (u4 (u4 (Ad (Ad (Ad Aj))))))))))) (Ca ((u4 (u4 (u4 (u4 (u4 (u4 (u4 (u4 (Ad (Ad (Ad Aj))))))))))) Gp d)) d
def Ui (a0:Lk) (a1:List Bq):Option ((((Int)×(Int)×(Int)×(Int)×(Int)×(Int)×(Int)×(Int)×(Int)×(Int)×(List Bx)×(List Fy)×Unit)×(Unit))):=
 bif !Gn a0 then some ((1,0,0,0,0,0,0,0,0,0,[],[],()),()) else bif !Gk a1 then some ((1,0,0,0,0,0,0,0,0,0,[],[],()),()) else bif (Eb a0.2.2.2.2.2.2.1 a1).2 != 0 then some ((2,0,0,0,0,0,0,0,0,0,[],[],()),()) else bif decide (Kd (Eb a0.2.2.2.2.2.2.1 a1).1 a0.1 > IntKind.i64.wrap (Au a0.2.1 - 1)) then some ((3,0,0,0,0,0,0,0,0,0,[],[],()),()) else ((Nq (C4 a1) a0.2.2.1 (IntKind.i64.wrap (a0.2.2.2.1.2.2.1 + a0.2.2.2.2.1)) a0.1).bind fun val=>some ((val,()),())).bind fun val=>bif decide (nI (List.length val.1.1) > IntKind.i64.wrap (Au a0.2.1 - a0.2.2.2.2.1)) then some ((4,0,0,0,0,0,0,0,0,0,[],[],()),()) else ((fun d=>Ca (Gp d.1 d.2.1 d.2.2.1 d.2.2.2.1 d.2.2.2.2.1 d.2.2.2.2.2.1 d.2.2.2.2.2.2.1 d.2.2.2.2.2.2.2.1 d.2.2.2.2.2.2.2.2.1 d.2.2.2.2.2.2.2.2.2.1 d.2.2.2.2.2.2.2.2.2.2.1 d.2.2.2.2.2.2.2.2.2.2.2.1 d.2.2.2.2.2.2.2.2.2.2.2.2.1 d.2.2.2.2.2.2.2.2.2.2.2.2.2.1 d.2.2.2.2.2.2.2.2.2.2.2.2.2.2.1 d.2.2.2.2.2.2.2.2.2.2.2.2.2.2.2.1 d.2.2.2.2.2.2.2.2.2.2.2.2.2.2.2.2.1 d.2.2.2.2.2.2.2.2.2.2.2.2.2.2.2.2.2.1 d.2.2.2.2.2.2.2.2.2.2.2.2.2.2.2.2.2.2.1 d.2.2.2.2.2.2.2.2.2.2.2.2.2.2.2.2.2.2.2.1 d.2.2.2.2.2.2.2.2.2.2.2.2.2.2.2.2.2.2.2.2.1 d.2.2.2.2.2.2.2.2.2.2.2.2.2.2.2.2.2.2.2.2.2.1 d.2.2.2.2.2.2.2.2.2.2.2.2.2.2.2.2.2.2.2.2.2.2.1 d.2.2.2.2.2.2.2.2.2.2.2.2.2.2.2.2.2.2.2.2.2.2.2.1 d.2.2.2.2.2.2.2.2.2.2.2.2.2.2.2.2.2.2.2.2.2.2.2.2.1 d.2.2.2.2.2.2.2.2.2.2.2.2.2.2.2.2.2.2.2.2.2.2.2.2.2.1 d.2.2.2.2.2.2.2.2.2.2.2.2.2.2.2.2.2.2.2.2.2.2.2.2.2.2.1 d.2.2.2.2.2.2.2.2.2.2.2.2.2.2.2.2.2.2.2.2.2.2.2.2.2.2.2.1 d.2.2.2.2.2.2.2.2.2.2.2.2.2.2.2.2.2.2.2.2.2.2.2.2.2.2.2.2.1 d.2.2.2.2.2.2.2.2.2.2.2.2.2.2.2.2.2.2.2.2.2.2.2.2.2.2.2.2.2.1 d.2.2.2.2.2.2.2.2.2.2.2.2.2.2.2.2.2.2.2.2.2.2.2.2.2.2.2.2.2.2.1 d.2.2.2.2.2.2.2.2.2.2.2.2.2.2.2.2.2.2.2.2.2.2.2.2.2.2.2.2.2.2.2.1 d.2.2.2.2.2.2.2.2.2.2.2.2.2.2.2.2.2.2.2.2.2.2.2.2.2.2.2.2.2.2.2.2.1 d.2.2.2.2.2.2.2.2.2.2.2.2.2.2.2.2.2.2.2.2.2.2.2.2.2.2.2.2.2.2.2.2.2.1 d.2.2.2.2.2.2.2.2.2.2.2.2.2.2.2.2.2.2.2.2.2.2.2.2.2.2.2.2.2.2.2.2.2.2.1) d.1 d.2.1 d.2.2.1 d.2.2.2.1 d.2.2.2.2.1 d.2.2.2.2.2.1 d.2.2.2.2.2.2.1 d.2.2.2.2.2.2.2.1 d.2.2.2.2.2.2.2.2.1 d.2.2.2.2.2.2.2.2.2.1 d.2.2.2.2.2.2.2.2.2.2.1 d.2.2.2.2.2.2.2.2.2.2.2.1 d.2.2.2.2.2.2.2.2.2.2.2.2.1 d.2.2.2.2.2.2.2.2.2.2.2.2.2.1 d.2.2.2.2.2.2.2.2.2.2.2.2.2.2.1 d.2.2.2.2.2.2.2.2.2.2.2.2.2.2.2.1 d.2.2.2.2.2.2.2.2.2.2.2.2.2.2.2.2.1 d.2.2.2.2.2.2.2.2.2.2.2.2.2.2.2.2.2.1 d.2.2.2.2.2.2.2.2.2.2.2.2.2.2.2.2.2.2.1 d.2.2.2.2.2.2.2.2.2.2.2.2.2.2.2.2.2.2.2.1 d.2.2.2.2.2.2.2.2.2.2.2.2.2.2.2.2.2.2.2.2.1 d.2.2.2.2.2.2.2.2.2.2.2.2.2.2.2.2.2.2.2.2.2.1 d.2.2.2.2.2.2.2.2.2.2.2.2.2.2.2.2.2.2.2.2.2.2.1 d.2.2.2.2.2.2.2.2.2.2.2.2.2.2.2.2.2.2.2.2.2.2.2.1 d.2.2.2.2.2.2.2.2.2.2.2.2.2.2.2.2.2.2.2.2.2.2.2.2.1 d.2.2.2.2.2.2.2.2.2.2.2.2.2.2.2.2.2.2.2.2.2.2.2.2.2.1 d.2.2.2.2.2.2.2.2.2.2.2.2.2.2.2.2.2.2.2.2.2.2.2.2.2.2.1 d.2.2.2.2.2.2.2.2.2.2.2.2.2.2.2.2.2.2.2.2.2.2.2.2.2.2.2.1 d.2.2.2.2.2.2.2.2.2.2.2.2.2.2.2.2.2.2.2.2.2.2.2.2.2.2.2.2.1 d.2.2.2.2.2.2.2.2.2.2.2.2.2.2.2.2.2.2.2.2.2.2.2.2.2.2.2.2.2.1 d.2.2.2.2.2.2.2.2.2.2.2.2.2.2.2.2.2.2.2.2.2.2.2.2.2.2.2.2.2.2.1 d.2.2.2.2.2.2.2.2.2.2.2.2.2.2.2.2.2.2.2.2.2.2.2.2.2.2.2.2.2.2.2.1 d.2.2.2.2.2.2.2.2.2.2.2.2.2.2.2.2.2.2.2.2.2.2.2.2.2.2.2.2.2.2.2.2.1 d.2.2.2.2.2.2.2.2.2.2.2.2.2.2.2.2.2.2.2.2.2.2.2.2.2.2.2.2.2.2.2.2.2.1 d.2.2.2.2.2.2.2.2.2.2.2.2.2.2.2.2.2.2.2.2.2.2.2.2.2.2.2.2.2.2.2.2.2.2.1) (val.1.1,0,a0.1,a0.2.1,a0.2.2.1,a0.2.2.2.1.1,a0.2.2.2.1.2.1,a0.2.2.2.1.2.2.1,a0.2.2.2.1.2.2.2.1,a0.2.2.2.2.1,a0.2.2.2.2.2.1,a0.2.2.2.2.2.2.1.1,0,0,0,0,0,0,0,0,0,0,a0.1,a0.2.1,a0.2.2.1,a0.2.2.2.1.1,a0.2.2.2.1.2.1,a0.2.2.2.1.2.2.1,a0.2.2.2.1.2.2.2.1,a0.2.2.2.2.1,a0.2.2.2.2.2.1,[],[],[],(Eb a0.2.2.2.2.2.2.1 a1).1)).bind fun val=>some ((0,val.2.2.2.2.2.2.2.2.2.2.1,val.2.2.2.2.2.2.2.2.2.2.2.1,val.2.2.2.2.2.2.2.2.2.2.2.2.1,val.2.2.2.2.2.2.2.2.2.2.2.2.2.1,val.2.2.2.2.2.2.2.2.2.2.2.2.2.2.1,val.2.2.2.2.2.2.2.2.2.2.2.2.2.2.2.1,val.2.2.2.2.2.2.2.2.2.2.2.2.2.2.2.2.1,val.2.2.2.2.2.2.2.2.2.2.2.2.2.2.2.2.2.1,val.2.2.2.2.2.2.2.2.2.2.2.2.2.2.2.2.2.2.1,val.2.2.2.2.2.2.2.2.2.2.2.2.2.2.2.2.2.2.2.2.2.2.1,val.2.2.2.2.2.2.2.2.2.2.2.2.2.2.2.2.2.2.2.1,()),())
theorem Asj (p0 p1 p2 p3 p4 p5 p6 p7 p8 q0 q1 q2 q3 q4 q5 q6 q7 q8:Int) (p9 r6:List Bx) (L:List Ab) (hL:L.length≤4001) (hH:0≤p4∧p4≤1) (hU:0≤q7∧q7≤99) (hV:0≤q8∧q8≤99):
  Ca (Gp L 0 p0 p1 p2 p3 p4 p5 p6 p7 p8 p9 0 0 0 0 0 0 0 0 0 0 q0 q1 q2 q3 q4 q5 q6 q7 q8 [] [] [] r6) L 0 p0 p1 p2 p3 p4 p5 p6 p7 p8 p9 0 0 0 0 0 0 0 0 0 0 q0 q1 q2 q3 q4 q5 q6 q7 q8 [] [] [] r6=some (0,0,0,0,0,0,0,0,0,0,q0,q1,q2,q3,q4,q5,q6,q7 + nI L.length,q8 + nI L.length,(Gf (Bt p4 p1 + q7) L),[],[],r6,()):=by
 have hm:=An2 (n:=p1) hH
 have e0:A8 p1 p4=Bt p4 p1:=by
  show IntKind.i64.wrap (2 + IntKind.i64.wrap (p4 * An p1))=2 + p4 * An p1
  rw [Al (n:=p4 * An p1) (by omega) (by omega),Al (by omega) (by omega)]
 have hB:0≤Bt p4 p1∧Bt p4 p1≤101:=by unfold Bt; omega
 have hL:=Jd (xs:=L) z0 (fun i (r:List Fy)=>i≤4001∧r.length=i) (fun (i:Nat) x r=>r++[Ajh (Bt p4 p1 + q7 + (i:Int)) x]) (g:=fun m (i:Int) r=>Ca m L i p0 p1 p2 p3 p4 p5 p6 p7 p8 p9 0 0 0 0 0 0 0 0 0 0 q0 q1 q2 q3 q4 q5 q6 (q7 + i) (q8 + i) r [] [] r6) (ok:=fun r=>(0,0,0,0,0,0,0,0,0,0,q0,q1,q2,q3,q4,q5,q6,q7 + nI L.length,q8 + nI L.length,r,[],[],r6,())) (fun m i r hi hI=>by
   show Ca (m + 1) L i p0 p1 p2 p3 p4 p5 p6 p7 p8 p9 0 0 0 0 0 0 0 0 0 0 q0 q1 q2 q3 q4 q5 q6 (q7 + (i:Int)) (q8 + (i:Int)) r [] [] r6=Ca m L ((i + 1:Nat):Int) p0 p1 p2 p3 p4 p5 p6 p7 p8 p9 0 0 0 0 0 0 0 0 0 0 q0 q1 q2 q3 q4 q5 q6 (q7 + ((i + 1:Nat):Int)) (q8 + ((i + 1:Nat):Int)) _ [] [] r6
   simp only [Ca,I1]
   obtain ⟨h1,h2⟩:=hI
   rw [cLt hi,Nd,wI (show i < 4611686018427387904 by omega),Kx,e0,Al (n:=Bt p4 p1 + (q7 + (i:Int))) (by omega) (by omega),Al (n:=q7 + (i:Int) + 1) (by omega) (by omega),Al (n:=q8 + (i:Int) + 1) (by omega) (by omega),Et,Ag (show (r.length + 1) * 32≤140737488355328 by omega),
    show q7 + (i:Int) + 1=q7 + ((i + 1:Nat):Int) by omega,show q8 + (i:Int) + 1=q8 + ((i + 1:Nat):Int) by omega,show Bt p4 p1 + (q7 + (i:Int))=Bt p4 p1 + q7 + (i:Int) by omega]
   rfl) (fun i r hi hI=>⟨by omega,by rw [Ey,Et,hI.2]⟩) (fun m r hI=>by
   show Ca (m + 1) L (L.length:Int) p0 p1 p2 p3 p4 p5 p6 p7 p8 p9 0 0 0 0 0 0 0 0 0 0 q0 q1 q2 q3 q4 q5 q6 (q7 + (L.length:Int)) (q8 + (L.length:Int)) r [] [] r6=_
   simp only [Ca,I1]
   rw [Zr]
   rfl) (Gp L 0 p0 p1 p2 p3 p4 p5 p6 p7 p8 p9 0 0 0 0 0 0 0 0 0 0 q0 q1 q2 q3 q4 q5 q6 q7 q8 [] [] [] r6) 0 [] (by omega) (by simp [Gp,nI]) ⟨by omega,rfl⟩
 rw [At5,List.drop_zero,List.nil_append,show Bt p4 p1 + q7 + ((0:Nat):Int)=Bt p4 p1 + q7 by omega] at hL
 simp only [show q7 + ((0:Nat):Int)=q7 by omega,show q8 + ((0:Nat):Int)=q8 by omega] at hL
 exact hL
theorem Aq3 (a0:Lk) (a1:List Bq):Ui a0 a1=some (((At a0 a1).1,(At a0 a1).2.1.1,(At a0 a1).2.1.2.1,(At a0 a1).2.1.2.2.1,(At a0 a1).2.1.2.2.2.1.1,(At a0 a1).2.1.2.2.2.1.2.1,(At a0 a1).2.1.2.2.2.1.2.2.1,(At a0 a1).2.1.2.2.2.1.2.2.2.1,(At a0 a1).2.1.2.2.2.2.1,(At a0 a1).2.1.2.2.2.2.2.1,(At a0 a1).2.1.2.2.2.2.2.2.1.1,(At a0 a1).2.2.1,()),(())):=by
 unfold Ui At Gg
 simp only [Au,C4,Eb,Kd]
 show (bif !A6 a0 then _ else bif !Bh a1 then _ else _)=_
 cases hv:A6 a0 with
 | false=>rfl
 | true=>
  cases hb:Bh a1 with
  | false=>rfl
  | true=>
   simp only [Bool.not_true,cond_false]
   obtain ⟨_,_,h3,_,_,h6,_,h8,h9,_⟩:=Aci hv
   obtain ⟨r1,r2⟩:=Ch h6
   have r1:=C5 r1
   have r2:=C5 r2
   have hh:=Sx a0.2.1
   show (bif (D7 a0.2.2.2.2.2.2.1 a1).2 != 0 then _ else _)=_
   rcases A0f h3 hb with hc | hc
   ·rw [hc]
    show (bif decide (Ln (D7 a0.2.2.2.2.2.2.1 a1).1 a0.1 > IntKind.i64.wrap (An a0.2.1 - 1)) then _ else _)=(_:Option _)
    rw [y7]
    show _=some (((bif decide (Ln (D7 a0.2.2.2.2.2.2.1 a1).1 a0.1 > An a0.2.1 - 1) then n0 3 else _:Ta).1,_),_)
    cases hr:decide (Ln (D7 a0.2.2.2.2.2.2.1 a1).1 a0.1 > An a0.2.1 - 1) with
    | true=>simp only [cond_true,bne_self_eq_false,cond_false]; rfl
    | false=>
     simp only [cond_false,bne_self_eq_false]
     have hl:=An1 a1 a0.2.2.1 (a0.2.2.2.1.2.2.1 + a0.2.2.2.2.1) a0.1
     have e1:Nq (Fh a1) a0.2.2.1 (a0.2.2.2.1.2.2.1 + a0.2.2.2.2.1) a0.1=some (G5 a0 a1):=if_pos (Nat.le_trans (Ng _) (by decide))
     rw [Al (n:=a0.2.2.2.1.2.2.1 + a0.2.2.2.2.1) (by omega) (by omega),e1]
     simp only [Option.bind_some]
     have hw:IntKind.i64.wrap (An a0.2.1 - a0.2.2.2.2.1)=An a0.2.1 - a0.2.2.2.2.1:=Al (by omega) (by omega)
     simp only [hw]
     cases hq:decide (nI (G5 a0 a1).length > An a0.2.1 - a0.2.2.2.2.1) with
     | true=>rfl
     | false=>
      simp only [cond_false]
      have hl:(G5 a0 a1).length≤4001:=hl
      refine Aji (Asj a0.1 a0.2.1 a0.2.2.1 a0.2.2.2.1.1 a0.2.2.2.1.2.1 a0.2.2.2.1.2.2.1 a0.2.2.2.1.2.2.2.1 a0.2.2.2.2.1 a0.2.2.2.2.2.1 a0.1 a0.2.1 a0.2.2.1 a0.2.2.2.1.1 a0.2.2.2.1.2.1 a0.2.2.2.1.2.2.1 a0.2.2.2.1.2.2.2.1 a0.2.2.2.2.1 a0.2.2.2.2.2.1 a0.2.2.2.2.2.2.1.1 (D7 a0.2.2.2.2.2.2.1 a1).1.1 (G5 a0 a1) hl r1 ⟨by omega,by omega⟩ ⟨by omega,by omega⟩) ?_
      rfl
   ·rw [hc]
    rfl
def Wd {R:Type} (k:Kt R):=(N3 (J2 17) (.exit 0) 2 k)
def Adv {R:Type}:Lt R J2:=(G3 (pat:=J2) 17 (fun d k=>(Ah0 d).bind (Wd k)) Jo)
theorem Abe:A4 Try.prog Abd:=A9 ⟨Np,Nm,Adr,Lw,Z0,Alw,Ld,W7,Ug,trivial⟩
theorem Ah1 {R:Type}:Bg Try.prog R 101 0 J2 Adv Wc:=
 C8 (cfg:=⟨Abd,0,101,J2⟩) 17 [] (fun NX X d=>(u4 (u4 (u4 (u4 (u4 (u4 (u4 (u4 (Ad (Ad (Ad Aj))))))))))) (I1  NX X) d) (fun m d=>(u4 (u4 (u4 (u4 (u4 (u4 (u4 (u4 (Ad (Ad (Ad Aj))))))))))) (Ca m) d) (fun d=>(u4 (u4 (u4 (u4 (u4 (u4 (u4 (u4 (Ad (Ad (Ad Aj))))))))))) Gp d) Wd Abe trivial (fun f NX d=>by simp only [u4,Ad,Aj]; unfold I1; simp only [nb])
theorem Abf:Cg Try.prog 96 Uh:=
 Ba (pat:=J2) [Wc] Adv Abe ⟨Ah1,trivial⟩ Try.func96 (de:=fun x=>Ui x.1 x.2.1) (fun x r h=>(Aq3 x.1 x.2.1).trans h) fun _=>by kernel_rfl
def F2 (s:Ab):Option Int:=if s.size≤7 then some (x6 s) else none
def J3 (v0:Ab) (v3 v4:Int):Nat:=(nI v0.size - v4).toNat + 1
def Aq4:H6:=⟨[.rd .str],[none],[.rd tI],[none]⟩
def Uj:SD:=⟨Aq4,fun x=>(F2 x.1).bind fun r=>some ((r,()),(()))⟩
def Abg:Tb:=tb []
def J4:Nat→Dv×(Nat→Dv):=Jc [(4,⟨[],[(0,.lf (.d .str)),(3,.lf (.d tI)),(4,.lf (.d tI))],[]⟩,[(2,⟨[],[(3,.lf (.d tI))],[]⟩)])]
def Yr:Code:=(Ax (Bs Try.f85)).getD 0 .skip
def J5 {R:Type}  (NX:((Ab)×(Int)×(Int)×Unit)→Option R) (X2:((Int)×Unit)→Option R) (v0:Ab) (v3:Int) (v4:Int):Option R:=
 bif decide (v4 < nI v0.size) then bif decide (0≤v4) then bif decide (v4 < nI v0.size) then NX (v0,IntKind.i64.wrap (IntKind.i64.wrap (v3 * 256) + IntKind.i64.wrap (Am v0 v4)),IntKind.i64.wrap (v4 + 1),()) else none else none else X2 (v3,())
def Fs:Nat→(Ab)→(Int)→(Int) →  Option ((Int)×Unit)
 | 0,_,_,_=>none
 | m + 1,v0,v3,v4=>J5  (fun d=>Fs m d.1 d.2.1 d.2.2.1) (fun d=>some (d)) v0 v3 v4
def Aki (d:(Ab)×(Int)×(Int)×Unit):Option ((Int)×Unit):=(Ad (Ad (Ad Aj))) (Fs ((Ad (Ad (Ad Aj))) J3 d)) d
def Uk (a0:Ab):Option ((((Int)×Unit)×(Unit))):=
 ((fun d=>Fs (J3 d.1 d.2.1 d.2.2.1) d.1 d.2.1 d.2.2.1) (a0,0,0,())).bind fun val=>some (val,())
theorem Alx (s:Ab) (hs:s.size≤7):∀ (k m i:Nat) (v:Int),i + k=s.size→k < m→0≤v→v < 256 ^ i→Fs m s v i=some (Axn s k i v,())
 | 0,m + 1,i,v,hi,hm,h0,h1=>by
  simp only [Fs,J5]
  rw [Bi (show ¬ ((i:Int) < nI s.size) by simp only [nI]; omega)]
  rfl
 | k + 1,m + 1,i,v,hi,hm,h0,h1=>by
  obtain ⟨hb,hs',e⟩:=A5n s i hi (by omega) h0 h1
  simp only [Fs,J5]
  have c1:(i:Int) < nI s.size:=by simp only [nI]; omega
  rw [Ag c1,Ag (show (0:Int)≤(i:Int) by omega),wI (show i < 4611686018427387904 by omega),e]
  exact Alx s hs k m (i + 1) _ (by omega) (by omega) hb hs'
theorem Aq5 (a0:Ab) r (h:F2 a0=some r):Uk a0=some ((r,()),(())):=by
 unfold F2 at h
 split at h
 ·rename_i hc
  cases h
  unfold Uk
  have hL:=Alx a0 hc a0.size (J3 a0 0 0) 0 0 (by omega) (by simp only [J3,nI]; omega) (by omega) (by decide)
  exact bi_ hL rfl
 ·cases h
def Ys {R:Type} (k:Kt R):=(N3 (J4 4) (.exit 0) 2 k)
def Adw {R:Type}:Lt R J4:=(G3 (pat:=J4) 4 (fun d k=>(Aki d).bind (Ys k)) Jo)
theorem Abh:A4 Try.prog Abg:=A9 trivial
theorem Akj {R:Type}:Bg Try.prog R 19 0 J4 Adw Yr:=
 C8 (cfg:=⟨Abg,0,19,J4⟩) 4 [] (fun NX X d=>(Ad (Ad (Ad Aj))) (J5  NX X) d) (fun m d=>(Ad (Ad (Ad Aj))) (Fs m) d) (fun d=>(Ad (Ad (Ad Aj))) J3 d) Ys Abh trivial (fun f NX d=>by simp only [u4,Ad,Aj]; unfold J5; simp only [nb])
theorem Abi:Cg Try.prog 85 Uj:=
 Ba (pat:=J4) [Yr] Adw Abh ⟨Akj,trivial⟩ Try.func85 (de:=fun x=>Uk x.1) (fun x r h=>Gd (Aq5 x.1) h) fun _=>by kernel_rfl
def Ai (s:Ab) (w:Int):Pg×Bool:=Be s w
def Akk:H6:=⟨[.rd .str,.rd tI],[none,none],[.rd yPg,.rd .bool],[some 4,none]⟩
def Mf:SD:=⟨Akk,fun x=>some (((Ai x.1 x.2.1).1,(Ai x.1 x.2.1).2,()),(()))⟩
def Ql (a0:Ab) (a1:Int):Option (((Pg×(Bool)×Unit)×(Unit))):=
 (B0 a1).bind fun val=>bif !val.1.1 then some (((0,0,0,Af,()),false,()),()) else bif nI a0.size != 64 then some (((0,0,0,Af,()),false,()),()) else bif decide (0≤a1) then bif decide (a1≤nI a0.size) then bif decide (7 < nI (Ae a0 a1 (nI a0.size)).size) then bif decide (IntKind.i64.wrap (Am (Ae a0 a1 (nI a0.size)) 7) > IntKind.i64.wrap (IntKind.i64.wrap (64 - a1) - 8)) then some (((0,0,0,Af,()),false,()),()) else bif decide (0 < nI (Ae a0 a1 (nI a0.size)).size) then bif decide (3≤nI (Ae a0 a1 (nI a0.size)).size) then ((F2 (Ae (Ae a0 a1 (nI a0.size)) 1 3)).bind fun val=>some ((val,()),())).bind fun val=>bif decide (7≤nI (Ae a0 a1 (nI a0.size)).size) then ((F2 (Ae (Ae a0 a1 (nI a0.size)) 3 7)).bind fun val=>some ((val,()),())).bind fun val_1=>bif decide (8≤IntKind.i64.wrap (8 + IntKind.i64.wrap (Am (Ae a0 a1 (nI a0.size)) 7))) then bif decide (IntKind.i64.wrap (8 + IntKind.i64.wrap (Am (Ae a0 a1 (nI a0.size)) 7))≤nI (Ae a0 a1 (nI a0.size)).size) then bif !(B1 (IntKind.i64.wrap (Am (Ae a0 a1 (nI a0.size)) 0),val.1.1,val_1.1.1,Ae (Ae a0 a1 (nI a0.size)) 8 (IntKind.i64.wrap (8 + IntKind.i64.wrap (Am (Ae a0 a1 (nI a0.size)) 7))),()) a1).toList==a0.toList then some (((0,0,0,Af,()),false,()),()) else some (((IntKind.i64.wrap (Am (Ae a0 a1 (nI a0.size)) 0),val.1.1,val_1.1.1,Ae (Ae a0 a1 (nI a0.size)) 8 (IntKind.i64.wrap (8 + IntKind.i64.wrap (Am (Ae a0 a1 (nI a0.size)) 7))),()),true,()),()) else none else none else none else none else none else none else none else none
theorem Akl (a0:Ab) (a1:Int):Ql a0 a1=some (((Ai a0 a1).1,(Ai a0 a1).2,()),(())):=by
 unfold Ql Ai Be
 refine bi_ (wid a1) ?_
 show (bif !Cj a1 1 8 then _ else (bif nI a0.size != 64 then _ else _))=_
 cases hz:nI a0.size != 64 with
 | true=>cases Cj a1 1 8<;>rfl
 | false=>
   cases hw:Cj a1 1 8 with
   | false=>rfl
   | true=>
    have k1:=(C5 hw).1
    have k2:=(C5 hw).2
    have hs:a0.size=64:=by
     by_cases q:nI a0.size=64
     ·simp only [nI] at q; omega
     ·rw [(bne_iff_ne).2 q] at hz; cases hz
    have hb:(Ae a0 a1 (nI a0.size)).size=(64 - a1).toNat:=by rw [Cw (by omega) (by simp only [nI]; omega) (by simp [nI])]; simp only [nI,hs]; omega
    simp only [Bool.not_true,cond_false,cond_true]
    rw [Ag (show (0:Int)≤a1 by omega),Ag (show a1≤nI a0.size by simp only [nI]; omega)]
    unfold Az1
    generalize Ae a0 a1 (nI a0.size)=b at *
    obtain ⟨b0,b1⟩:=Ig b 7
    obtain ⟨c0,c1⟩:=Ig b 0
    have hB:nI b.size=64 - a1:=by simp only [nI]; omega
    rw [hB,Ag (show (7:Int) < 64 - a1 by omega),Ag (show (0:Int) < 64 - a1 by omega),Ag (show (3:Int)≤64 - a1 by omega),Ag (show (7:Int)≤64 - a1 by omega),Al (n:=Am b 7) (by omega) (by omega),Al (n:=Am b 0) (by omega) (by omega),Al (n:=64 - a1) (by omega) (by omega),Al (n:=64 - a1 - 8) (by omega) (by omega),Al (n:=8 + Am b 7) (by omega) (by omega),show 64 - a1 - 8=56 - a1 by omega]
    by_cases q:Am b 7 > 56 - a1
    ·rw [Ag q]; rfl
    ·rw [Bi q]
     have n1:F2 (Ae b 1 3)=some (x6 (Ae b 1 3)):=if_pos (by rw [Cw (by omega) (by omega) (by omega)]; decide)
     have n2:F2 (Ae b 3 7)=some (x6 (Ae b 3 7)):=if_pos (by rw [Cw (by omega) (by omega) (by omega)]; decide)
     simp only [n1,n2,Option.bind_some,cond_true,cond_false]
     rw [Ag (show 8≤8 + Am b 7 by omega),Ag (show 8 + Am b 7≤64 - a1 by omega)]
     show (bif !(ByteArray.toList (Cr (Az0 b) a1)==ByteArray.toList a0) then _ else _)=_
     cases (ByteArray.toList (Cr (Az0 b) a1)==ByteArray.toList a0)<;>rfl
theorem Qm:Cg Try.prog 84 Mf:=
 Ba (pat:=Eo) [] Jo (A9 (l:=[(56,Fq),(62,C0),(85,Uj),(92,Ou)]) ⟨Ha,Dn,Abi,Tv,trivial⟩) trivial Try.func84 (de:=fun x=>Ql x.1 x.2.1) (fun x r h=>(Akl x.1 x.2.1).trans h) fun _=>by kernel_rfl
def C6 (s:Ab) (at' w:Int):Rt×Bool:=
 bif (Be s w).2&&decide ((Be s w).1.2.2.2.1.size=5) then (Fm (Be s w).1,((Cv (Fm (Be s w).1) w).toList==s.toList)&&(Int.tmod (Be s w).1.2.2.1 2==at')) else ((0,0,0,0,()),false)
def Av7:H6:=⟨[.rd .str,.rd tI,.rd tI],[none,none,none],[.rd yRt,.rd .bool],[some 4,none]⟩
def Ah2:SD:=⟨Av7,fun x=>some (((C6 x.1 x.2.1 x.2.2.1).1,(C6 x.1 x.2.1 x.2.2.1).2,()),(()))⟩
def Z2 (a0:Ab) (a1 a2:Int):Option (((Rt×(Bool)×Unit)×(Unit))):=
 bif !(Ai a0 a2).2 then some (((0,0,0,0,()),false,()),()) else bif nI (ByteArray.size (Ai a0 a2).1.2.2.2.1) != 5 then some (((0,0,0,0,()),false,()),()) else bif decide (0 < nI (ByteArray.size (Ai a0 a2).1.2.2.2.1)) then bif decide (1≤nI (ByteArray.size (Ai a0 a2).1.2.2.2.1)) then ((F2 (Ae (Ai a0 a2).1.2.2.2.1 1 (nI (ByteArray.size (Ai a0 a2).1.2.2.2.1)))).bind fun val=>some ((val,()),())).bind fun val=>bif (C1 ((Ai a0 a2).1.2.2.1,IntKind.i64.wrap (Am (Ai a0 a2).1.2.2.2.1 0),val.1.1,(Ai a0 a2).1.2.1,()) a2).toList==a0.toList then some ((((Ai a0 a2).1.2.2.1,IntKind.i64.wrap (Am (Ai a0 a2).1.2.2.2.1 0),val.1.1,(Ai a0 a2).1.2.1,()),Int.tmod (Ai a0 a2).1.2.2.1 2==a1,()),()) else some ((((Ai a0 a2).1.2.2.1,IntKind.i64.wrap (Am (Ai a0 a2).1.2.2.2.1 0),val.1.1,(Ai a0 a2).1.2.1,()),false,()),()) else none else none
theorem Av8 (a0:Ab) (a1 a2:Int):Z2 a0 a1 a2=some (((C6 a0 a1 a2).1,(C6 a0 a1 a2).2,()),(())):=by
 unfold Z2 C6
 have e:Ai a0 a2=Be a0 a2:=rfl
 rw [e]
 generalize Be a0 a2=p
 obtain ⟨g,o⟩:=p
 cases o
 ·rfl
 ·by_cases h5:g.2.2.2.1.size=5
  ·have n1:F2 (Ae g.2.2.2.1 1 (nI g.2.2.2.1.size))=some (x6 (Ae g.2.2.2.1 1 (nI g.2.2.2.1.size))):=if_pos (by rw [Cw (by omega) (by simp only [nI]; omega) (by simp [nI])]; simp only [nI]; omega)
   obtain ⟨b0,b1⟩:=Ig g.2.2.2.1 0
   simp only [n1,Option.bind_some,Bool.not_true,cond_false,Bool.true_and]
   rw [bne_eq_false_iff_eq.2 (show nI g.2.2.2.1.size=5 by simp only [nI]; omega),Ag h5,Ag (show 0 < nI g.2.2.2.1.size by simp only [nI]; omega),Ag (show 1≤nI g.2.2.2.1.size by simp only [nI]; omega),Al (n:=Am g.2.2.2.1 0) (by omega) (by omega)]
   show (bif (ByteArray.toList (Cv (Fm g) a2)==ByteArray.toList a0) then _ else _)=_
   cases hq:(ByteArray.toList (Cv (Fm g) a2)==ByteArray.toList a0)<;>rfl
  ·simp only [Bool.not_true,cond_false,Bool.true_and]
   rw [bne_iff_ne.2 (show nI g.2.2.2.1.size≠5 by simp only [nI]; omega),Bi h5]
   rfl
theorem Av9:Cg Try.prog 63 Ah2:=
 Ba (pat:=Eo) [] Jo (A9 (l:=[(25,Ju),(84,Mf),(85,Uj)]) ⟨Ma,Qm,Abi,trivial⟩) trivial Try.func63 (de:=fun x=>Z2 x.1 x.2.1 x.2.2.1) (fun x r h=>(Av8 x.1 x.2.1 x.2.2.1).trans h) fun _=>by kernel_rfl
def Ah (d:Dk) (w:Int):Rt:=Bj d w
def Nr (v1 v7:Int) (b0_0 b0_1 b0_2 b0_3:Int) (b1_0:List Ab) (b1_1:List Wr) (b2_0 b2_1 b2_2 b2_3:Int):Nat:=3
def Akm:H6:=⟨[.rd yDk,.rd tI],[some 2,none],[.rd yRt],[some 4]⟩
def Qn:SD:=⟨Akm,fun x=>some (((Ah x.1 x.2.1),()),(()))⟩
def Yt:Tb:=tb [(19,Gi),(47,Ht),(48,O3),(62,C0),(63,Ah2)]
def Hh:Nat→Dv×(Nat→Dv):=Jc [(7,⟨[.boxSl 5 0 .str,.boxSl 5 1 Db],[(1,.lf (.d tI)),(4,.lf (.ptr 0 0)),(5,.lf (.ptr 1 0)),(6,.lf (.ptr 2 0)),(7,.lf (.d tI))],[.box 55 [.d tI,.d tI,.d tI,.d tI],.box 41 [.d (.sl .str),.d (.sl Db)],.box 55 [.d tI,.d tI,.d tI,.d tI]]⟩,[(2,⟨[],[(4,.lf (.ptr 0 0)),(6,.lf (.ptr 1 0))],[.box 55 [.d tI,.d tI,.d tI,.d tI],.box 55 [.d tI,.d tI,.d tI,.d tI]]⟩)])]
def Ul:Code:=(Ax (Bs Try.f28)).getD 0 .skip
def Kn {R:Type}  (NX:((Int)×(Int)×(Int)×(Int)×(Int)×(Int)×(List Ab)×(List Wr)×(Int)×(Int)×(Int)×(Int)×Unit)→Option R) (X2:((Int)×(Int)×(Int)×(Int)×(Int)×(Int)×(Int)×(Int)×Unit)→Option R) (v1:Int) (v7:Int) (b0_0:Int) (b0_1:Int) (b0_2:Int) (b0_3:Int) (b1_0:List Ab) (b1_1:List Wr) (b2_0:Int) (b2_1:Int) (b2_2:Int) (b2_3:Int):Option R:=
 bif decide (v7 < 2) then bif decide (0≤v7) then bif decide (v7 < nI b1_0.length) then bif (C6 (b1_0.getD v7.toNat (Af)) v7 v1).2 then bif decide ((C6 (b1_0.getD v7.toNat (Af)) v7 v1).1.1 > b2_0) then NX (v1,IntKind.i64.wrap (v7 + 1),b0_0,b0_1,b0_2,b0_3,b1_0,b1_1,(C6 (b1_0.getD v7.toNat (Af)) v7 v1).1) else NX (v1,IntKind.i64.wrap (v7 + 1),b0_0,b0_1,b0_2,b0_3,b1_0,b1_1,b2_0,b2_1,b2_2,b2_3,()) else NX (v1,IntKind.i64.wrap (v7 + 1),b0_0,b0_1,b0_2,b0_3,b1_0,b1_1,b2_0,b2_1,b2_2,b2_3,()) else none else none else X2 (b0_0,b0_1,b0_2,b0_3,b2_0,b2_1,b2_2,b2_3,())
def Ei:Nat→(Int)→(Int)→(Int)→(Int)→(Int)→(Int)→(List Ab)→(List Wr)→(Int)→(Int)→(Int)→(Int) →  Option ((Int)×(Int)×(Int)×(Int)×(Int)×(Int)×(Int)×(Int)×Unit)
 | 0,_,_,_,_,_,_,_,_,_,_,_,_=>none
 | m + 1,v1,v7,b0_0,b0_1,b0_2,b0_3,b1_0,b1_1,b2_0,b2_1,b2_2,b2_3=>Kn  (fun d=>Ei m d.1 d.2.1 d.2.2.1 d.2.2.2.1 d.2.2.2.2.1 d.2.2.2.2.2.1 d.2.2.2.2.2.2.1 d.2.2.2.2.2.2.2.1 d.2.2.2.2.2.2.2.2.1 d.2.2.2.2.2.2.2.2.2.1 d.2.2.2.2.2.2.2.2.2.2.1 d.2.2.2.2.2.2.2.2.2.2.2.1) (fun d=>some (d)) v1 v7 b0_0 b0_1 b0_2 b0_3 b1_0 b1_1 b2_0 b2_1 b2_2 b2_3
def Afk (d:(Int)×(Int)×(Int)×(Int)×(Int)×(Int)×(List Ab)×(List Wr)×(Int)×(Int)×(Int)×(Int)×Unit):Option ((Int)×(Int)×(Int)×(Int)×(Int)×(Int)×(Int)×(Int)×Unit):=(u4 (u4 (u4 Aj))) (Ei ((u4 (u4 (u4 Aj))) Nr d)) d
def Qo (a0:Dk) (a1:Int):Option (((Rt×Unit)×(Unit))):=
 bif !Er a0 then some (((0,0,0,0,()),()),()) else (B0 a1).bind fun val=>bif !val.1.1 then some (((0,0,0,0,()),()),()) else ((Cs a0).bind fun val=>some (val,())).bind fun val=>((F1 val.1).bind fun val=>some (val,())).bind fun val=>((fun d=>Ei (Nr d.1 d.2.1 d.2.2.1 d.2.2.2.1 d.2.2.2.2.1 d.2.2.2.2.2.1 d.2.2.2.2.2.2.1 d.2.2.2.2.2.2.2.1 d.2.2.2.2.2.2.2.2.1 d.2.2.2.2.2.2.2.2.2.1 d.2.2.2.2.2.2.2.2.2.2.1 d.2.2.2.2.2.2.2.2.2.2.2.1) d.1 d.2.1 d.2.2.1 d.2.2.2.1 d.2.2.2.2.1 d.2.2.2.2.2.1 d.2.2.2.2.2.2.1 d.2.2.2.2.2.2.2.1 d.2.2.2.2.2.2.2.2.1 d.2.2.2.2.2.2.2.2.2.1 d.2.2.2.2.2.2.2.2.2.2.1 d.2.2.2.2.2.2.2.2.2.2.2.1) (a1,0,0,0,0,0,val.1.1,val.1.2.1,0,0,1,0,())).bind fun val=>some ((val.2.2.2.2,()),())
theorem A7y (s:Ab) (w:Int) (i:Nat) (b:Rt):(bif (C6 s i w).2 then (bif decide ((C6 s i w).1.1 > b.1) then (C6 s i w).1 else b) else b)=Ez s w i b:=by
 unfold C6 Ez
 have hf:=@Nf s w
 have hr:=@A3i s w
 generalize Be s w=p at *
 obtain ⟨g,o⟩:=p
 cases o
 ·rfl
 ·obtain ⟨_,_,_,hp⟩:=hf rfl
  obtain ⟨_,_,r3,_⟩:=y6 hp
  by_cases h5:g.2.2.2.1.size=5
  ·have hr:=hr rfl h5
   simp only [Ag h5,Bool.true_and,cond_true,hr]
   rw [Int.tmod_eq_emod_of_nonneg (by omega)]
   have e:(Fm g).1=g.2.2.1:=rfl
   rw [e]
   cases (g.1==4)<;>cases Gt (Fm g)<;>cases (g.2.2.1 % 2==(i:Int))<;>cases decide (g.2.2.1 > b.1)<;>rfl
  ·simp only [Bi h5,Bool.true_and,cond_false,Bool.and_false,Bool.false_and]
theorem Ayo (X:List Ab) (P:List Wr) (w:Int) (i:Nat) (hi:i < 2) (hX:2≤X.length) (m:Nat) (x1 x2 x3 x4:Int) (b:Rt):
  Ei (m + 1) w i x1 x2 x3 x4 X P b.1 b.2.1 b.2.2.1 b.2.2.2.1=Ei m w ((i + 1:Nat):Int) x1 x2 x3 x4 X P (Ez (X.getD i z0) w i b).1 (Ez (X.getD i z0) w i b).2.1 (Ez (X.getD i z0) w i b).2.2.1 (Ez (X.getD i z0) w i b).2.2.2.1:=by
 simp only [Ei,Kn]
 rw [Ag (show (i:Int) < 2 by omega),Nd,Ag (show (i:Int) < nI X.length by simp only [nI]; omega),wI (show i < 4611686018427387904 by omega),Kx,← A7y]
 show (bif (C6 (X.getD i z0) i w).2 then (bif decide ((C6 (X.getD i z0) i w).1.1 > b.1) then _ else _) else _)=_
 cases (C6 (X.getD i z0) i w).2
 ·rfl
 ·cases decide ((C6 (X.getD i z0) i w).1.1 > b.1)<;>rfl
theorem Akn (a0:Dk) (a1:Int):Qo a0 a1=some (((Ah a0 a1),()),(())):=by
 unfold Qo Ah Bj
 show (bif !Az a0 then _ else _)=_
 cases hv:Az a0 with
 | false=>rfl
 | true=>
  refine bi_ (wid a1) ?_
  show (bif !Cj a1 1 8 then _ else _)=_
  cases hw:Cj a1 1 8 with
  | false=>rfl
  | true=>
   obtain ⟨k1,k2,k3,k4,k5⟩:=Kh hv
   have e1:Cs (a0.1,a0.2.1,())=some a0:=if_pos ⟨by show a0.1.length≤_; omega,by show a0.2.1.length≤_; omega⟩
   have e2:F1 (a0.1,a0.2.1,())=some (Att a0):=if_pos ⟨by show a0.2.1.length≤_; omega,fun i hi=>⟨(k5 i hi).1,(k5 i hi).2.1⟩⟩
   have hlen:(Lm a0.1 a0.2.1).length=a0.1.length:=Oc _ _
   have hg:∀ i:Nat,i < 2→(Lm a0.1 a0.2.1).getD i z0=P0 a0 i:=fun i hi=>Axo a0.1 i (by omega) a0.2.1 (fun w hw=>by
    obtain ⟨j,hj,rfl⟩:=x9 zW hw
    exact (k5 j hj).1)
   have h1:=Ayo (Lm a0.1 a0.2.1) [] a1 0 (by omega) (by omega) 2 0 0 0 0 (0,0,1,0,())
   have h2:=Ayo (Lm a0.1 a0.2.1) [] a1 1 (by omega) (by omega) 1 0 0 0 0 (Ez ((Lm a0.1 a0.2.1).getD 0 z0) a1 (0:Nat) (0,0,1,0,()))
   have h3:=h1.trans h2
   rw [hg 0 (by omega),hg 1 (by omega)] at h3
   simp only [e1,e2,Option.bind_some,Bool.not_true,cond_false]
   exact bi_ h3 rfl
def Um {R:Type} (k:Kt R):=(N3 (Hh 7) (.exit 0) 2 k)
def g8 {R:Type}:Lt R Hh:=(G3 (pat:=Hh) 7 (fun d k=>(Afk d).bind (Um k)) Jo)
theorem Yu:A4 Try.prog Yt:=A9 ⟨Ix,Jv,T6,Dn,Av9,trivial⟩
theorem Afl {R:Type}:Bg Try.prog R 48 0 Hh g8 Ul:=
 C8 (cfg:=⟨Yt,0,48,Hh⟩) 7 [] (fun NX X d=>(u4 (u4 (u4 Aj))) (Kn  NX X) d) (fun m d=>(u4 (u4 (u4 Aj))) (Ei m) d) (fun d=>(u4 (u4 (u4 Aj))) Nr d) Um Yu trivial (fun f NX d=>by simp only [u4,Ad,Aj]; unfold Kn; simp only [nb])
theorem Yv:Cg Try.prog 28 Qn:=
 Ba (pat:=Hh) [Ul] g8 Yu ⟨Afl,trivial⟩ Try.func28 (de:=fun x=>Qo x.1 x.2.1) (fun x r h=>(Akn x.1 x.2.1).trans h) fun _=>by kernel_rfl
def Mw (was p:Pg):Bool:=Adc was.1 was.2.1 p
def Aq6:H6:=⟨[.rd yPg,.rd yPg],[some 4,some 4],[.rd .bool],[none]⟩
def Abj:SD:=⟨Aq6,fun x=>some (((Mw x.1 x.2.1),()),(()))⟩
def Un (a0 a1:Pg):Option ((((Bool)×Unit)×(Unit))):=
 bif decide (a1.2.1 < a0.2.1) then some ((false,()),()) else bif a1.1==3 then some ((a0.1 != 1,()),()) else bif a1.1==1 then bif a0.1 != 1 then some ((true,()),()) else some ((a0.2.1==a1.2.1,()),()) else bif a1.1==2 then bif a0.1 != 1 then some ((true,()),()) else some ((a0.2.1==a1.2.1,()),()) else some ((false,()),())
theorem Aq7 (a0 a1:Pg):Un a0 a1=some (((Mw a0 a1),()),(())):=by
 unfold Un Mw Adc
 cases decide (a1.2.1 < a0.2.1)<;>cases (a1.1==3)<;>cases (a1.1==1)<;>cases (a1.1==2)<;>cases (a0.1 != 1)<;>rfl
theorem Aq8:Cg Try.prog 128 Abj:=
 Ba (pat:=Eo) [] Jo (A9 (l:=[]) trivial) trivial Try.func128 (de:=fun x=>Un x.1 x.2.1) (fun x r h=>(Aq7 x.1 x.2.1).trans h) fun _=>by kernel_rfl
def Ci (d:Dk) (from_ size first life w:Int):Scd:=Tm d from_ size first life w
def Awa:H6:=⟨[.rd yDk,.rd tI,.rd tI,.rd tI,.rd tI,.rd tI],[some 2,none,none,none,none,none],[.own 9 .str,.rd tI,.rd tI],[some 3]⟩
def Ah3:SD:=⟨Awa,fun x=>some (((Ci x.1 x.2.1 x.2.2.1 x.2.2.2.1 x.2.2.2.2.1 x.2.2.2.2.2.1).1,(Ci x.1 x.2.1 x.2.2.1 x.2.2.2.1 x.2.2.2.2.1 x.2.2.2.2.2.1).2.1,(Ci x.1 x.2.1 x.2.2.1 x.2.2.2.1 x.2.2.2.2.1 x.2.2.2.2.2.1).2.2.1,()),(()))⟩
def Ah4:Tb:=tb [(19,Gi),(47,Ht),(48,O3),(62,C0),(84,Mf),(128,Abj)]
def Ko:Nat→Dv×(Nat→Dv):=Jc [(9,⟨[.boxRow 12 0 9 .str,.boxSl 13 0 .str,.boxSl 13 1 Db,.boxRow 14 0 9 .str],[(1,.lf (.d tI)),(2,.lf (.d tI)),(3,.lf (.d tI)),(5,.lf (.d tI)),(12,.lf (.ptr 0 0)),(13,.lf (.ptr 1 0)),(14,.lf (.ptr 2 0)),(15,.lf (.ptr 3 0)),(16,.lf (.d .str)),(17,.lf (.d tI))],[.box 170 [.row 4,.d tI,.d tI],.box 41 [.d (.sl .str),.d (.sl Db)],.box 170 [.row 5,.d tI,.d tI],.box 93 [.d tI,.d tI,.d tI,.d .str],.row 9 .str,.row 9 .str]⟩,[(2,⟨[.boxRow 12 0 9 .str,.boxRow 14 0 9 .str],[(12,.lf (.ptr 0 0)),(14,.lf (.ptr 1 0))],[.box 170 [.row 2,.d tI,.d tI],.box 170 [.row 3,.d tI,.d tI],.row 9 .str,.row 9 .str]⟩),(1,⟨[.boxRow 12 0 9 .str],[(12,.lf (.ptr 0 0))],[.box 170 [.row 1,.d tI,.d tI],.row 9 .str]⟩)])]
def Abk:Code:=(Ax (Bs Try.f125)).getD 0 .skip
def Hz (v1 v2:Int) (v3 v5:Int) (v16:Ab) (v17 b0_1 b0_2:Int) (b1_0:List Ab) (b1_1:List Wr) (b2_1 b2_2:Int) (b3_0 b3_1 b3_2:Int) (b3_3:Ab) (r4 r5:List Ab):Nat:=(v2 - v17).toNat + 1
def Ly {R:Type}  (NX:((Int)×(Int)×(Int)×(Int)×(Ab)×(Int)×(Int)×(Int)×(List Ab)×(List Wr)×(Int)×(Int)×(Int)×(Int)×(Int)×(Ab)×(List Ab)×(List Ab)×Unit)→Option R) (X2:((Int)×(Int)×(Int)×(Int)×(List Ab)×(List Ab)×Unit)→Option R) (X1:((Int)×(Int)×(List Ab)×Unit)→Option R) (v1:Int) (v2:Int) (v3:Int) (v5:Int) (v16:Ab) (v17:Int) (b0_1:Int) (b0_2:Int) (b1_0:List Ab) (b1_1:List Wr) (b2_1:Int) (b2_2:Int) (b3_0:Int) (b3_1:Int) (b3_2:Int) (b3_3:Ab) (r4:List Ab) (r5:List Ab):Option R:=
 bif decide (v17 < v2) then bif decide (0≤IntKind.i64.wrap (v1 + v17)) then bif decide (IntKind.i64.wrap (v1 + v17) < nI b1_0.length) then bif !(Ai (b1_0.getD (IntKind.i64.wrap (v1 + v17)).toNat (Af)) v5).2 then X1 (b2_1,b2_2,r5,()) else bif IntKind.i64.wrap ((Ai (b1_0.getD (IntKind.i64.wrap (v1 + v17)).toNat (Af)) v5).1.2.2.1 - v17) != v3 then X1 (b2_1,b2_2,r5,()) else bif !Mw (b3_0,b3_1,b3_2,b3_3,()) (Ai (b1_0.getD (IntKind.i64.wrap (v1 + v17)).toNat (Af)) v5).1 then X1 (b2_1,b2_2,r5,()) else bif decide (v16.size + ByteArray.size (Ai (b1_0.getD (IntKind.i64.wrap (v1 + v17)).toNat (Af)) v5).1.2.2.2.1≤9223372036854775807) then bif (Ai (b1_0.getD (IntKind.i64.wrap (v1 + v17)).toNat (Af)) v5).1.1==1 then NX (v1,v2,v3,v5,v16++(Ai (b1_0.getD (IntKind.i64.wrap (v1 + v17)).toNat (Af)) v5).1.2.2.2.1,IntKind.i64.wrap (v17 + 1),b0_1,b0_2,b1_0,b1_1,b2_1,b2_2,(Ai (b1_0.getD (IntKind.i64.wrap (v1 + v17)).toNat (Af)) v5).1.1,(Ai (b1_0.getD (IntKind.i64.wrap (v1 + v17)).toNat (Af)) v5).1.2.1,(Ai (b1_0.getD (IntKind.i64.wrap (v1 + v17)).toNat (Af)) v5).1.2.2.1,(Ai (b1_0.getD (IntKind.i64.wrap (v1 + v17)).toNat (Af)) v5).1.2.2.2.1,r4,r5,()) else bif (Ai (b1_0.getD (IntKind.i64.wrap (v1 + v17)).toNat (Af)) v5).1.1==2 then bif decide ((r5.length + [v16++(Ai (b1_0.getD (IntKind.i64.wrap (v1 + v17)).toNat (Af)) v5).1.2.2.2.1].length) * 16≤140737488355328) then NX (v1,v2,v3,v5,Af,IntKind.i64.wrap (v17 + 1),b0_1,b0_2,b1_0,b1_1,IntKind.i64.wrap (v17 + 1),(Ai (b1_0.getD (IntKind.i64.wrap (v1 + v17)).toNat (Af)) v5).1.2.1,(Ai (b1_0.getD (IntKind.i64.wrap (v1 + v17)).toNat (Af)) v5).1.1,(Ai (b1_0.getD (IntKind.i64.wrap (v1 + v17)).toNat (Af)) v5).1.2.1,(Ai (b1_0.getD (IntKind.i64.wrap (v1 + v17)).toNat (Af)) v5).1.2.2.1,(Ai (b1_0.getD (IntKind.i64.wrap (v1 + v17)).toNat (Af)) v5).1.2.2.2.1,r4,r5++[v16++(Ai (b1_0.getD (IntKind.i64.wrap (v1 + v17)).toNat (Af)) v5).1.2.2.2.1],()) else none else NX (v1,v2,v3,v5,Af,IntKind.i64.wrap (v17 + 1),b0_1,b0_2,b1_0,b1_1,IntKind.i64.wrap (v17 + 1),(Ai (b1_0.getD (IntKind.i64.wrap (v1 + v17)).toNat (Af)) v5).1.2.1,(Ai (b1_0.getD (IntKind.i64.wrap (v1 + v17)).toNat (Af)) v5).1.1,(Ai (b1_0.getD (IntKind.i64.wrap (v1 + v17)).toNat (Af)) v5).1.2.1,(Ai (b1_0.getD (IntKind.i64.wrap (v1 + v17)).toNat (Af)) v5).1.2.2.1,(Ai (b1_0.getD (IntKind.i64.wrap (v1 + v17)).toNat (Af)) v5).1.2.2.2.1,r4,r5,()) else none else none else none else X2 (b0_1,b0_2,b2_1,b2_2,r4,r5,())
def E4:Nat→(Int)→(Int)→(Int)→(Int)→(Ab)→(Int)→(Int)→(Int)→(List Ab)→(List Wr)→(Int)→(Int)→(Int)→(Int)→(Int)→(Ab)→(List Ab)→(List Ab) →  Option (((Int)×(Int)×(Int)×(Int)×(List Ab)×(List Ab)×Unit) ⊕ ((Int)×(Int)×(List Ab)×Unit))
 | 0,_,_,_,_,_,_,_,_,_,_,_,_,_,_,_,_,_,_=>none
 | m + 1,v1,v2,v3,v5,v16,v17,b0_1,b0_2,b1_0,b1_1,b2_1,b2_2,b3_0,b3_1,b3_2,b3_3,r4,r5=>Ly  (fun d=>E4 m d.1 d.2.1 d.2.2.1 d.2.2.2.1 d.2.2.2.2.1 d.2.2.2.2.2.1 d.2.2.2.2.2.2.1 d.2.2.2.2.2.2.2.1 d.2.2.2.2.2.2.2.2.1 d.2.2.2.2.2.2.2.2.2.1 d.2.2.2.2.2.2.2.2.2.2.1 d.2.2.2.2.2.2.2.2.2.2.2.1 d.2.2.2.2.2.2.2.2.2.2.2.2.1 d.2.2.2.2.2.2.2.2.2.2.2.2.2.1 d.2.2.2.2.2.2.2.2.2.2.2.2.2.2.1 d.2.2.2.2.2.2.2.2.2.2.2.2.2.2.2.1 d.2.2.2.2.2.2.2.2.2.2.2.2.2.2.2.2.1 d.2.2.2.2.2.2.2.2.2.2.2.2.2.2.2.2.2.1) (fun d=>some (.inl (d))) (fun d=>some (.inr (d))) v1 v2 v3 v5 v16 v17 b0_1 b0_2 b1_0 b1_1 b2_1 b2_2 b3_0 b3_1 b3_2 b3_3 r4 r5
def Aq9 (d:(Int)×(Int)×(Int)×(Int)×(Ab)×(Int)×(Int)×(Int)×(List Ab)×(List Wr)×(Int)×(Int)×(Int)×(Int)×(Int)×(Ab)×(List Ab)×(List Ab)×Unit):Option (((Int)×(Int)×(Int)×(Int)×(List Ab)×(List Ab)×Unit) ⊕ ((Int)×(Int)×(List Ab)×Unit)):=(u4 (u4 (u4 (u4 (Ad (Ad Aj)))))) (E4 ((u4 (u4 (u4 (u4 (Ad (Ad Aj)))))) Hz d)) d
def Z3 (a0:Dk) (a1 a2:Int) (a3 a4 a5:Int):Option ((((List Ab)×(Int)×(Int)×Unit)×(Unit))):=
 bif !Er a0 then some (([],0,0,()),()) else (B0 a5).bind fun val=>bif !val.1.1 then some (([],0,0,()),()) else bif decide (a1 < 0) then some (([],0,0,()),()) else bif decide (a2 < 0) then some (([],0,0,()),()) else bif decide (a1 > nI (List.length a0.1)) then some (([],0,0,()),()) else bif decide (a2 > IntKind.i64.wrap (nI (List.length a0.1) - a1)) then some (([],0,0,()),()) else ((Cs a0).bind fun val=>some (val,())).bind fun val=>((F1 val.1).bind fun val=>some (val,())).bind fun val=>((fun d=>E4 (Hz d.1 d.2.1 d.2.2.1 d.2.2.2.1 d.2.2.2.2.1 d.2.2.2.2.2.1 d.2.2.2.2.2.2.1 d.2.2.2.2.2.2.2.1 d.2.2.2.2.2.2.2.2.1 d.2.2.2.2.2.2.2.2.2.1 d.2.2.2.2.2.2.2.2.2.2.1 d.2.2.2.2.2.2.2.2.2.2.2.1 d.2.2.2.2.2.2.2.2.2.2.2.2.1 d.2.2.2.2.2.2.2.2.2.2.2.2.2.1 d.2.2.2.2.2.2.2.2.2.2.2.2.2.2.1 d.2.2.2.2.2.2.2.2.2.2.2.2.2.2.2.1 d.2.2.2.2.2.2.2.2.2.2.2.2.2.2.2.2.1 d.2.2.2.2.2.2.2.2.2.2.2.2.2.2.2.2.2.1) d.1 d.2.1 d.2.2.1 d.2.2.2.1 d.2.2.2.2.1 d.2.2.2.2.2.1 d.2.2.2.2.2.2.1 d.2.2.2.2.2.2.2.1 d.2.2.2.2.2.2.2.2.1 d.2.2.2.2.2.2.2.2.2.1 d.2.2.2.2.2.2.2.2.2.2.1 d.2.2.2.2.2.2.2.2.2.2.2.1 d.2.2.2.2.2.2.2.2.2.2.2.2.1 d.2.2.2.2.2.2.2.2.2.2.2.2.2.1 d.2.2.2.2.2.2.2.2.2.2.2.2.2.2.1 d.2.2.2.2.2.2.2.2.2.2.2.2.2.2.2.1 d.2.2.2.2.2.2.2.2.2.2.2.2.2.2.2.2.1 d.2.2.2.2.2.2.2.2.2.2.2.2.2.2.2.2.2.1) (a1,a2,a3,a5,Af,0,0,0,val.1.1,val.1.2.1,0,a4,0,a4,0,Af,[],[],())).bind fun val=>Gu (fun d=>some ((d.2.2.2.2.2.1,d.2.2.1,d.2.2.2.1,()),())) (fun d=>some ((d.2.2.1,d.1,d.2.1,()),())) val
def A2h (y:(Int×Int×Int×Int×List Ab×List Ab×Unit) ⊕ (Int×Int×List Ab×Unit)):Scd:=match y with
 | .inl v=>(v.2.2.2.2.2.1,v.2.2.1,v.2.2.2.1,())
 | .inr v=>(v.2.2.1,v.1,v.2.1,())
theorem Auh {d:Dk} (hd:Eu d) (f n:Nat) (hfn:f + n≤d.1.length) (first w b1 b2:Int) (r4:List Ab):∀ (k m i:Nat) (st:ScT) (num:Int) (part:Ab),i + k=n→k < m→Ade i st→
  ∃ y,E4 m f n first w st.2.2.1 i b1 b2 (Lm d.1 d.2.1) [] st.2.2.2.2.1 st.2.2.2.2.2 st.1 st.2.1 num part r4 st.2.2.2.1=some y∧A2h y=De w first (seen d f i k) i st
 | 0,m + 1,i,st,num,part,hi,_,_=>by
  simp only [E4,Ly]
  rw [Bi (show ¬ (i:Int) < (n:Int) by omega)]
  exact ⟨_,rfl,rfl⟩
 | k + 1,m + 1,i,st,num,part,hi,hm,hI=>by
  have h200:=hd.n200
  have e1:IntKind.i64.wrap ((f:Int) + (i:Int))=((f + i:Nat):Int):=by rw [Al (by omega) (by omega)]; omega
  have e2:List.getD (Lm d.1 d.2.1) (f + i) (Af)=P0 d ((f:Int) + (i:Int)):=A5x hd (by omega)
  have e3:decide (((f + i:Nat):Int) < nI (Lm d.1 d.2.1).length)=true:=Ag (by rw [Oc]; simp only [nI]; omega)
  have e4:IntKind.i64.wrap ((i:Int) + 1)=((i + 1:Nat):Int):=wI (by omega)
  have es:seen d f i (k + 1)=P0 d ((f:Int) + (i:Int))::seen d f (i + 1) k:=rfl
  simp only [E4,Ly]
  rw [es,Ag (show (i:Int) < (n:Int) by omega)]
  simp only [e1,e2,e3,e4,Nd,cond_true,Kx,Ai,Mw]
  unfold De Nh
  generalize hx:P0 d ((f:Int) + (i:Int))=x
  generalize hR:Be x w=R
  obtain ⟨p,ok⟩:=R
  cases ok with
  | false=>exact ⟨_,rfl,rfl⟩
  | true=>
   obtain ⟨q1,q2,q3⟩:=Avl hR
   have e5:IntKind.i64.wrap (p.2.2.1 - (i:Int))=p.2.2.1 - (i:Int):=Al (by omega) (by omega)
   simp only [e5,Bool.not_true,cond_false,Bool.true_and,bne]
   cases hn:(p.2.2.1 - (i:Int)==first) with
   | false=>exact ⟨_,rfl,rfl⟩
   | true=>
    simp only [Bool.not_true,cond_false,Bool.true_and]
    have hg:Adc st.1 st.2.1 (p.1,p.2.1,p.2.2.1,p.2.2.2.1,())=Adc st.1 st.2.1 p:=rfl
    try simp only [hg]
    cases hgo:Adc st.1 st.2.1 p with
    | false=>exact ⟨_,rfl,rfl⟩
    | true=>
     have hN:=hI.next (by omega) q3
     have e6:decide (ByteArray.size st.2.2.1 + ByteArray.size p.2.2.2.1≤9223372036854775807)=true:=Ag (by have:=hI.2.1; omega)
     have e7:decide ((List.length st.2.2.2.1 + 1) * 16≤140737488355328)=true:=Ag (by have:=hI.2.2; omega)
     simp only [e6,Bool.not_true,cond_false,cond_true,Et,e7]
     have ih:=fun num part=>Auh hd f n hfn first w b1 b2 r4 k m (i + 1) (Iu i p st) num part (by omega) (by omega) hN
     have ei:(i:Int) + 1=((i + 1:Nat):Int):=by omega
     rw [ei]
     unfold Iu at ih ⊢
     cases h1:(p.1==1) with
     | true=>
      have hp:p.1=1:=eq_of_beq h1
      rw [h1] at ih
      have:=ih p.2.2.1 p.2.2.2.1
      rw [hp]
      exact this
     | false=>
      rw [h1] at ih
      cases h2:(p.1==2) with
      | true=>
       have hp:p.1=2:=eq_of_beq h2
       rw [h2] at ih
       have:=ih p.2.2.1 p.2.2.2.1
       rw [hp]
       simp only [cond_false,cond_true,ei] at this ⊢
       exact this
      | false=>
       rw [h2] at ih
       have:=ih p.2.2.1 p.2.2.2.1
       simp only [cond_false,ei] at this ⊢
       exact this
theorem Awb (a0:Dk) (a1 a2:Int) (a3 a4 a5:Int):Z3 a0 a1 a2 a3 a4 a5=some (((Ci a0 a1 a2 a3 a4 a5).1,(Ci a0 a1 a2 a3 a4 a5).2.1,(Ci a0 a1 a2 a3 a4 a5).2.2.1,()),(())):=by
 unfold Z3 Ci Tm
 show (bif !Az a0 then _ else _)=_
 cases hv:Az a0 with
 | false=>rfl
 | true=>
  have hd:=Kh hv
  simp only [Bool.not_true,cond_false]
  refine bi_ (wid a5) ?_
  cases hw:Cj a5 1 8 with
  | false=>rfl
  | true=>
   simp only [Bool.not_true,cond_false]
   have h200:=hd.n200
   by_cases h1:a1 < 0
   ·rw [Ag h1,Bi (show ¬ 0≤a1 by omega)]; rfl
   ·rw [Bi h1,Ag (show 0≤a1 by omega)]
    by_cases h2:a2 < 0
    ·rw [Ag h2,Bi (show ¬ 0≤a2 by omega)]; rfl
    ·rw [Bi h2,Ag (show 0≤a2 by omega)]
     by_cases h3:a1 > nI a0.1.length
     ·rw [Ag h3,Bi (show ¬ a1≤(a0.1.length:Int) by simp only [nI] at h3; omega)]; rfl
     ·have h3':a1≤(a0.1.length:Int):=by simp only [nI] at h3; omega
      rw [Bi h3,Ag h3']
      rw [Al (n:=nI a0.1.length - a1) (by simp only [nI]; omega) (by simp only [nI]; omega)]
      by_cases h4:a2 > nI a0.1.length - a1
      ·rw [Ag h4,Bi (show ¬ a2≤(a0.1.length:Int) - a1 by simp only [nI] at h4; omega)]; rfl
      ·have h4':a2≤(a0.1.length:Int) - a1:=by simp only [nI] at h4; omega
       rw [Bi h4,Ag h4']
       simp only [cond_false,cond_true,Bool.true_and,Bool.and_self]
       have c1:Cs (a0.1,a0.2.1,())=some (a0.1,a0.2.1,()):=if_pos ⟨Nat.le_trans hd.n200 (by decide),Nat.le_trans hd.p300 (by decide)⟩
       have c2:F1 (a0.1,a0.2.1,())=some (Att a0):=if_pos ⟨Nat.le_trans hd.p300 (by decide),fun k hk=>⟨(hd.pen k hk).1,(hd.pen k hk).2.1⟩⟩
       rw [c1]
       simp only [Option.bind_some]
       rw [c2]
       simp only [Option.bind_some]
       obtain ⟨f,rfl⟩:∃ f:Nat,a1=(f:Int):=⟨a1.toNat,by omega⟩
       obtain ⟨n,rfl⟩:∃ n:Nat,a2=(n:Int):=⟨a2.toNat,by omega⟩
       have hfu:n < Hz f n a3 a5 (Af) 0 0 0 (Lm a0.1 a0.2.1) [] 0 a4 0 a4 0 (Af) [] []:=by simp only [Hz]; omega
       generalize hF:Hz f n a3 a5 (Af) 0 0 0 (Lm a0.1 a0.2.1) [] 0 a4 0 a4 0 (Af) [] []=F at hfu
       have hfn:f + n≤a0.1.length:=by omega
       have hst:Ade 0 (0,a4,z0,[],0,a4):=Ade.zero _ _ _ _
       obtain ⟨y,hy1,hy2⟩:=Auh hd f n hfn a3 a5 0 0 [] n F 0 (0,a4,z0,[],0,a4) 0 (Af)
        (Nat.zero_add n)
        hfu
        hst
       show (E4 (Hz f n a3 a5 (Af) 0 0 0 (Lm a0.1 a0.2.1) [] 0 a4 0 a4 0 (Af) [] []) f n a3 a5 (Af) 0 0 0 (Lm a0.1 a0.2.1) [] 0 a4 0 a4 0 (Af) [] []).bind _=_
       rw [hF]
       have hy1':E4 F f n a3 a5 (Af) 0 0 0 (Lm a0.1 a0.2.1) [] 0 a4 0 a4 0 (Af) [] []=some y:=hy1
       rw [hy1',Kx]
       simp only [Option.bind_some]
       have hy3:A2h y=De a5 a3 (seen a0 (f:Int) 0 n) 0 (0,a4,z0,[],0,a4):=hy2
       rw [← hy3]
       cases y<;>rfl
def Abl {R:Type} (k:Kt R):=(Gu (N3 (Ko 9) (.exit 0) 2 k) (N3 (Ko 9) .ret 1 k))
def Aly {R:Type}:Lt R Ko:=(G3 (pat:=Ko) 9 (fun d k=>(Aq9 d).bind (Abl k)) Jo)
theorem Ah5:A4 Try.prog Ah4:=A9 ⟨Ix,Jv,T6,Dn,Qm,Aq8,trivial⟩
theorem Ara {R:Type}:Bg Try.prog R 118 0 Ko Aly Abk:=
 C8 (cfg:=⟨Ah4,0,118,Ko⟩) 9 [] (fun NX X d=>(u4 (u4 (u4 (u4 (Ad (Ad Aj)))))) (Ly  NX (fun e=>X (.inl (e))) (fun e=>X (.inr (e)))) d) (fun m d=>(u4 (u4 (u4 (u4 (Ad (Ad Aj)))))) (E4 m) d) (fun d=>(u4 (u4 (u4 (u4 (Ad (Ad Aj)))))) Hz d) Abl Ah5 trivial (fun f NX d=>by simp only [u4,Ad,Aj]; unfold Ly; simp only [nb])
theorem Awc:Cg Try.prog 125 Ah3:=
 Ba (pat:=Ko) [Abk] Aly Ah5 ⟨Ara,trivial⟩ Try.func125 (de:=fun x=>Z3 x.1 x.2.1 x.2.2.1 x.2.2.2.1 x.2.2.2.2.1 x.2.2.2.2.2.1) (fun x r h=>(Awb x.1 x.2.1 x.2.2.1 x.2.2.2.1 x.2.2.2.2.1 x.2.2.2.2.2.1).trans h) fun _=>by kernel_rfl
def H0 (s:Ab):Ab×Ab×Bool:=((Bm s).1,bif (Bm s).2.2 then (Bm s).2.1 else ⟨#[]⟩,(Bm s).2.2)
def Amr:H6:=⟨[.rd .str],[none],[.rd .str,.rd .str,.rd .bool],[none,none,none]⟩
def g9:SD:=⟨Amr,fun x=>some (((H0 x.1).1,(H0 x.1).2.1,(H0 x.1).2.2,()),(()))⟩
def Rr (a0:Ab):Option ((((Ab)×(Ab)×(Bool)×Unit)×(Unit))):=
 bif decide (nI a0.size < 1) then some ((Af,Af,false,()),()) else bif decide (0 < nI a0.size) then bif decide (nI a0.size < IntKind.i64.wrap (1 + IntKind.i64.wrap (Am a0 0))) then some ((Af,Af,false,()),()) else bif decide (0 < nI a0.size) then bif decide (1≤IntKind.i64.wrap (1 + IntKind.i64.wrap (Am a0 0))) then bif decide (IntKind.i64.wrap (1 + IntKind.i64.wrap (Am a0 0))≤nI a0.size) then bif decide (0≤IntKind.i64.wrap (1 + IntKind.i64.wrap (Am a0 0))) then bif decide (IntKind.i64.wrap (1 + IntKind.i64.wrap (Am a0 0))≤nI a0.size) then some ((Ae a0 1 (IntKind.i64.wrap (1 + IntKind.i64.wrap (Am a0 0))),Ae a0 (IntKind.i64.wrap (1 + IntKind.i64.wrap (Am a0 0))) (nI a0.size),true,()),()) else none else none else none else none else none else none
theorem Ams (a0:Ab):Rr a0=some (((H0 a0).1,(H0 a0).2.1,(H0 a0).2.2,()),(())):=by
 unfold Rr H0 Bm
 obtain ⟨b0,b1⟩:=Ig a0 0
 have hw:IntKind.i64.wrap (1 + IntKind.i64.wrap (Am a0 0))=1 + Am a0 0:=by
  rw [Al (n:=Am a0 0) (by omega) (by omega),Al (by omega) (by omega)]
 rw [hw]
 by_cases h0:(a0.size:Int) < 1
 ·rw [if_pos (Or.inl h0),Ag (show nI a0.size < 1 from h0)]
  rfl
 ·rw [Bi (show ¬ nI a0.size < 1 from h0),Ag (show 0 < nI a0.size by simp only [nI]; omega)]
  by_cases h1:(a0.size:Int) < 1 + Am a0 0
  ·rw [if_pos (Or.inr h1),Ag (show nI a0.size < 1 + Am a0 0 from h1)]
   rfl
  ·rw [if_neg (by omega),Bi (show ¬ nI a0.size < 1 + Am a0 0 from h1),Ag (show 1≤1 + Am a0 0 by omega),Ag (show 0≤1 + Am a0 0 by omega),Ag (show 1 + Am a0 0≤nI a0.size by simp only [nI]; omega)]
   rfl
theorem Amt:Cg Try.prog 130 g9:=
 Ba (pat:=Eo) [] Jo (A9 (l:=[]) trivial) trivial Try.func130 (de:=fun x=>Rr x.1) (fun x r h=>(Ams x.1).trans h) fun _=>by kernel_rfl
def Ds (s:Ab):List Bq×Bool:=Apk s
def Mm (v0 v5:Ab) (r0:List Bq):Nat:=22
def Ah6:H6:=⟨[.rd .str],[none],[.own 69 Gs,.rd .bool],[none,none]⟩
def We:SD:=⟨Ah6,fun x=>some (((Ds x.1).1,(Ds x.1).2,()),(()))⟩
def Wf:Tb:=tb [(112,Iz),(130,g9)]
def E5:Nat→Dv×(Nat→Dv):=Jc [(4,⟨[.row 4 0 69 Gs],[(0,.lf (.d .str)),(4,.lf (.row 0)),(5,.lf (.d .str))],[.row 69 Gs]⟩,[(2,⟨[.row 4 0 69 Gs],[(0,.lf (.d .str)),(4,.lf (.row 0))],[.row 69 Gs]⟩),(1,⟨[.row 2 0 69 Gs],[(2,.lf (.row 0)),(3,.lf (.d .bool))],[.row 69 Gs]⟩)])]
def Se:Code:=(Ax (Bs Try.f129)).getD 0 .skip
def Jl {R:Type}  (NX:((Ab)×(Ab)×(List Bq)×Unit)→Option R) (X2:((Ab)×(List Bq)×Unit)→Option R) (X1:((Bool)×(List Bq)×Unit)→Option R) (v0:Ab) (v5:Ab) (r0:List Bq):Option R:=
 bif decide (nI v5.size > 0) then bif decide (nI r0.length≤20) then bif decide (0 < nI v5.size) then bif decide (1≤nI v5.size) then bif !(Bm (Ae v5 1 (nI v5.size))).2.2 then X1 (false,[],()) else bif !Am v5 0==1 then bif !(Bm (bif (Bm (Ae v5 1 (nI v5.size))).2.2 then (Bm (Ae v5 1 (nI v5.size))).2.1 else Af)).2.2 then X1 (false,[],()) else bif decide ((r0.length + [((Bm (Ae v5 1 (nI v5.size))).1,(Bm (bif (Bm (Ae v5 1 (nI v5.size))).2.2 then (Bm (Ae v5 1 (nI v5.size))).2.1 else Af)).1,Am v5 0==1,())].length) * 40≤140737488355328) then NX (v0,bif (Bm (bif (Bm (Ae v5 1 (nI v5.size))).2.2 then (Bm (Ae v5 1 (nI v5.size))).2.1 else Af)).2.2 then (Bm (bif (Bm (Ae v5 1 (nI v5.size))).2.2 then (Bm (Ae v5 1 (nI v5.size))).2.1 else Af)).2.1 else Af,r0++[((Bm (Ae v5 1 (nI v5.size))).1,(Bm (bif (Bm (Ae v5 1 (nI v5.size))).2.2 then (Bm (Ae v5 1 (nI v5.size))).2.1 else Af)).1,Am v5 0==1,())],()) else none else bif decide ((r0.length + [((Bm (Ae v5 1 (nI v5.size))).1,Af,Am v5 0==1,())].length) * 40≤140737488355328) then NX (v0,bif (Bm (Ae v5 1 (nI v5.size))).2.2 then (Bm (Ae v5 1 (nI v5.size))).2.1 else Af,r0++[((Bm (Ae v5 1 (nI v5.size))).1,Af,Am v5 0==1,())],()) else none else none else none else X2 (v0,r0,()) else X2 (v0,r0,())
def Fe:Nat→(Ab)→(Ab)→(List Bq) →  Option (((Ab)×(List Bq)×Unit) ⊕ ((Bool)×(List Bq)×Unit))
 | 0,_,_,_=>none
 | m + 1,v0,v5,r0=>Jl  (fun d=>Fe m d.1 d.2.1 d.2.2.1) (fun d=>some (.inl (d))) (fun d=>some (.inr (d))) v0 v5 r0
def Ac0 (d:(Ab)×(Ab)×(List Bq)×Unit):Option (((Ab)×(List Bq)×Unit) ⊕ ((Bool)×(List Bq)×Unit)):=(Ad (Ad (Ad Aj))) (Fe ((Ad (Ad (Ad Aj))) Mm d)) d
def O8 (a0:Ab):Option ((((List Bq)×(Bool)×Unit)×(Unit))):=
 ((fun d=>Fe (Mm d.1 d.2.1 d.2.2.1) d.1 d.2.1 d.2.2.1) (a0,a0,[],())).bind fun val=>Gu (fun d=>bif nI (ByteArray.size d.1)==0 then some (([],false,()),()) else bif !(C4 d.2.1).toList==ByteArray.toList d.1 then some (([],false,()),()) else some ((d.2.1,true,()),())) (fun d=>some ((d.2.1,d.1,()),())) val
def Ba4 (s0:Ab) (o:Option (List Bq×Ab)):(Ab×List Bq×Unit) ⊕ (Bool×List Bq×Unit):=match o with
 | some (b,t)=>.inl (s0,b,())
 | none=>.inr (false,[],())
theorem Arb (s0:Ab):∀ (f m:Nat) (r:List Bq) (s:Ab),r.length + f=22→f≤m→1≤f→Fe m s0 s r=some (Ba4 s0 (Rh false f r s))
 | 0,_,_,_,_,_,h=>by omega
 | f + 1,0,_,_,_,h,_=>by omega
 | f + 1,m + 1,r,s,hf,hm,_=>by
  simp only [Fe,Jl,Rh]
  by_cases hs:s.size > 0
  ·rw [Ag (show nI s.size > 0 by simp only [nI]; omega),Ag hs]
   by_cases hr:r.length≤20
   ·rw [Ag (show nI r.length≤20 by simp only [nI]; omega),Ag hr,Ag (show 1≤nI s.size by simp only [nI]; omega)]
    unfold Apj
    generalize Bm (Ae s 1 (nI s.size))=p
    simp only [Et,Bool.false_and,cond_true,Bool.and_self,cond_false]
    rw [Ag (show (r.length + 1) * 40≤140737488355328 by omega)]
    obtain ⟨k,t,o⟩:=p
    cases o
    ·rfl
    ·by_cases h2:Am s 0=1
     ·rw [h2]
      exact Arb s0 f m (r++[(k,Af,true,())]) t (by rw [Ey,Et]; omega) (by omega) (by omega)
     ·have h3:(Am s 0==1)=false:=beq_eq_false_iff_ne.2 h2
      rw [h3]
      simp only [Bool.not_true,Bool.not_false,cond_false,cond_true]
      generalize Bm t=q
      obtain ⟨v,u,o⟩:=q
      cases o
      ·rfl
      ·exact Arb s0 f m (r++[(k,v,false,())]) u (by rw [Ey,Et]; omega) (by omega) (by omega)
   ·rw [Bi (show ¬ nI r.length≤20 by simp only [nI]; omega),Bi hr]
    rfl
  ·rw [Bi (show ¬ nI s.size > 0 by simp only [nI]; omega),Bi hs]
   rfl
theorem Ah7 (a0:Ab):O8 a0=some (((Ds a0).1,(Ds a0).2,()),(())):=by
 unfold O8 Ds Apk
 have hL:=Arb a0 22 22 [] a0 rfl (Nat.le_refl _) (by omega)
 refine bi_ hL ?_
 cases Rh false 22 [] a0 with
 | none=>rfl
 | some bt=>
  obtain ⟨b,t⟩:=bt
  show (bif nI a0.size==0 then _ else (bif !(ByteArray.toList (Fh b)==ByteArray.toList a0) then _ else _))=_
  have e:(nI a0.size==0)=(a0.size==0):=by
   by_cases q:a0.size=0
   ·rw [q]; rfl
   ·rw [beq_eq_false_iff_ne.2 q,beq_eq_false_iff_ne.2 (show nI a0.size≠0 by simp only [nI]; omega)]
  rw [e]
  simp only
  cases (a0.size==0)<;>cases (ByteArray.toList (Fh b)==ByteArray.toList a0)<;>rfl
def Sf {R:Type} (k:Kt R):=(Gu (N3 (E5 4) (.exit 0) 2 k) (N3 (E5 4) .ret 1 k))
def Yw {R:Type}:Lt R E5:=(G3 (pat:=E5) 4 (fun d k=>(Ac0 d).bind (Sf k)) Jo)
theorem Wg:A4 Try.prog Wf:=A9 ⟨Ld,Amt,trivial⟩
theorem Ac1 {R:Type}:Bg Try.prog R 70 0 E5 Yw Se:=
 C8 (cfg:=⟨Wf,0,70,E5⟩) 4 [] (fun NX X d=>(Ad (Ad (Ad Aj))) (Jl  NX (fun e=>X (.inl (e))) (fun e=>X (.inr (e)))) d) (fun m d=>(Ad (Ad (Ad Aj))) (Fe m) d) (fun d=>(Ad (Ad (Ad Aj))) Mm d) Sf Wg trivial (fun f NX d=>by simp only [u4,Ad,Aj]; unfold Jl; simp only [nb])
theorem Ah8:Cg Try.prog 129 We:=
 Ba (pat:=E5) [Se] Yw Wg ⟨Ac1,trivial⟩ Try.func129 (de:=fun x=>O8 x.1) (fun x r h=>(Ah7 x.1).trans h) fun _=>by kernel_rfl
def Mx (es:List Ab):Option (Kb×Bool):=if es.length≤1073741824 then some (A12 es) else none
def Arc:H6:=⟨[.rd (.sl .str)],[none],[.own 67 B4,.rd .bool],[some 1,none]⟩
def Abm:SD:=⟨Arc,fun x=>(Mx x.1).bind fun r=>some ((r.1.1,r.2,()),(()))⟩
def Abn:Tb:=tb [(108,W5),(129,We)]
def H1:Nat→Dv×(Nat→Dv):=Jc [(4,⟨[.sl 0 0 .str,.boxRow 2 0 67 B4,.boxRow 4 0 67 B4],[(0,.lf (.d (.sl .str))),(2,.lf (.ptr 0 0)),(4,.lf (.ptr 1 0)),(5,.lf (.d tI))],[.box 30 [.row 2],.box 30 [.row 3],.row 67 B4,.row 67 B4]⟩,[(2,⟨[.boxRow 2 0 67 B4,.boxRow 4 0 67 B4],[(2,.lf (.ptr 0 0)),(4,.lf (.ptr 1 0))],[.box 30 [.row 2],.box 30 [.row 3],.row 67 B4,.row 67 B4]⟩),(1,⟨[.boxRow 2 0 67 B4],[(2,.lf (.ptr 0 0)),(3,.lf (.d .bool))],[.box 30 [.row 1],.row 67 B4]⟩)])]
def Yx:Code:=(Ax (Bs Try.f126)).getD 0 .skip
def J6 (v0:List Ab) (v5:Int) (r2 r3:List Bx):Nat:=((v0.length:Int) - v5).toNat + 1
def J7 {R:Type}  (NX:((List Ab)×(Int)×(List Bx)×(List Bx)×Unit)→Option R) (X2:((List Bx)×(List Bx)×Unit)→Option R) (X1:((Bool)×(List Bx)×Unit)→Option R) (v0:List Ab) (v5:Int) (r2:List Bx) (r3:List Bx):Option R:=
 bif decide (v5 < nI v0.length) then bif decide (0≤v5) then bif decide (v5 < nI v0.length) then bif !(Ds (v0.getD v5.toNat (Af))).2 then X1 (false,[],()) else bif (Eb (r3,()) (Ds (v0.getD v5.toNat (Af))).1).2 != 0 then X1 (false,[],()) else NX (v0,IntKind.i64.wrap (v5 + 1),r2,(Eb (r3,()) (Ds (v0.getD v5.toNat (Af))).1).1) else none else none else X2 (r2,r3,())
def Dt:Nat→(List Ab)→(Int)→(List Bx)→(List Bx) →  Option (((List Bx)×(List Bx)×Unit) ⊕ ((Bool)×(List Bx)×Unit))
 | 0,_,_,_,_=>none
 | m + 1,v0,v5,r2,r3=>J7  (fun d=>Dt m d.1 d.2.1 d.2.2.1 d.2.2.2.1) (fun d=>some (.inl (d))) (fun d=>some (.inr (d))) v0 v5 r2 r3
def Ako (d:(List Ab)×(Int)×(List Bx)×(List Bx)×Unit):Option (((List Bx)×(List Bx)×Unit) ⊕ ((Bool)×(List Bx)×Unit)):=(u4 Aj) (Dt ((u4 Aj) J6 d)) d
def Uo (a0:List Ab):Option ((((List Bx)×(Bool)×Unit)×(Unit))):=
 ((fun d=>Dt (J6 d.1 d.2.1 d.2.2.1 d.2.2.2.1) d.1 d.2.1 d.2.2.1 d.2.2.2.1) (a0,0,[],[],())).bind fun val=>Gu (fun d=>some ((d.2.1,true,()),())) (fun d=>some ((d.2.1,d.1,()),())) val
theorem Ard (a0:List Ab) r (h:Mx a0=some r):Uo a0=some ((r.1.1,r.2,()),(())):=by
 unfold Mx at h
 split at h
 rotate_left
 ·cases h
 rename_i hlen
 cases h
 unfold Uo A12
 have hL:=Aub (xs:=a0) (g:=fun m i r=>Dt m a0 i [] r) (ok:=fun r=>.inl ([],r,())) (bad:=.inr (false,[],())) (fun m i r hi=>by
   show Dt (m + 1) a0 i [] r=_
   simp only [Dt,J7]
   rw [cLt hi,Nd,wI (show i < 4611686018427387904 by omega),Kx]
   simp only [cond_true,Ds,Eb,A3g]
   rfl) (fun m r=>by
   show Dt (m + 1) a0 (a0.length:Int) [] r=_
   simp only [Dt,J7]
   rw [Zr]
   rfl) (J6 a0 0 [] []) 0 [] (by omega) (by simp [J6,nI])
 rw [List.drop_zero] at hL
 refine Aji hL ?_
 show Gu _ _ (match Mk a0 zSs with | some st=>_ | none=>_)=_
 cases Mk a0 zSs<;>rfl
def Yy {R:Type} (k:Kt R):=(Gu (N3 (H1 4) (.exit 0) 2 k) (N3 (H1 4) .ret 1 k))
def Adx {R:Type}:Lt R H1:=(G3 (pat:=H1) 4 (fun d k=>(Ako d).bind (Yy k)) Jo)
theorem Abo:A4 Try.prog Abn:=A9 ⟨Adr,Ah8,trivial⟩
theorem Akp {R:Type}:Bg Try.prog R 39 0 H1 Adx Yx:=
 C8 (cfg:=⟨Abn,0,39,H1⟩) 4 [] (fun NX X d=>(u4 Aj) (J7  NX (fun e=>X (.inl (e))) (fun e=>X (.inr (e)))) d) (fun m d=>(u4 Aj) (Dt m) d) (fun d=>(u4 Aj) J6 d) Yy Abo trivial (fun f NX d=>by simp only [u4,Ad,Aj]; unfold J7; simp only [nb])
theorem Are:Cg Try.prog 126 Abm:=
 Ba (pat:=H1) [Yx] Adx Abo ⟨Akp,trivial⟩ Try.func126 (de:=fun x=>Uo x.1) (fun x r h=>Gd (Ard x.1) h) fun _=>by kernel_rfl
end Go.Proofs.Ytfkefgbihlfjmaa.V
end
