/- What the functions that FnRoots reaches come to: part 2. No condition. -/
import Derived.Test.YtfkefgbihlfjmaaVFnRootsa
import Derived.KernelRfl
noncomputable section
set_option linter.unusedVariables false
set_option linter.unusedSimpArgs false
namespace Go.Proofs.Ytfkefgbihlfjmaa.V
open Go Go.Proofs.Ytfkefgbihlfjmaa.R Go.Proofs
set_option maxRecDepth 100000
def Jf (s:Lk):Option Ta:=if Avn s then some (Vq s) else none
def Arf:H6:=⟨[.rd Api],[some 10],[.rd tI,.rd tI,.rd tI,.rd tI,.rd tI,.rd tI,.rd tI,.rd tI,.rd tI,.rd tI,.own 67 B4,.own 49 Is],[some 12]⟩
def Up:SD:=⟨Arf,fun x=>(Jf x.1).bind fun r=>some ((r.1,r.2.1.1,r.2.1.2.1,r.2.1.2.2.1,r.2.1.2.2.2.1.1,r.2.1.2.2.2.1.2.1,r.2.1.2.2.2.1.2.2.1,r.2.1.2.2.2.1.2.2.2.1,r.2.1.2.2.2.2.1,r.2.1.2.2.2.2.2.1,r.2.1.2.2.2.2.2.2.1.1,r.2.2.1,()),(()))⟩
def Uq:Tb:=tb [(7,Qi),(25,Ju),(56,Fq),(93,Lu),(109,J1),(111,Aba),(112,Iz),(113,Qw),(114,O7)]
def D9:Nat→Dv×(Nat→Dv):=Jc [(11,⟨[.row 6 0 49 Is,.sl 7 0 (.sl Gs),.boxSl 1 9 B4,.boxRow 2 10 67 B4,.boxRow 2 11 49 Is],[(1,.lf (.ptr 0 0)),(2,.lf (.ptr 1 0)),(4,.lf (.ptr 2 0)),(5,.lf (.d tI)),(6,.lf (.row 3)),(7,.lf (.d (.sl (.sl Gs)))),(8,.lf (.d tI)),(9,.lf (.d tI))],[.box 95 [.d Api],.box 141 [.d tI,.d tI,.d tI,.d tI,.d tI,.d tI,.d tI,.d tI,.d tI,.d tI,.row 4,.row 5],.box 55 [.d yRt],.row 49 Is,.row 67 B4,.row 49 Is]⟩,[(2,⟨[.row 6 0 49 Is,.boxSl 1 9 B4,.boxRow 2 10 67 B4,.boxRow 2 11 49 Is],[(1,.lf (.ptr 0 0)),(2,.lf (.ptr 1 0)),(4,.lf (.ptr 2 0)),(6,.lf (.row 3)),(8,.lf (.d tI))],[.box 95 [.d Api],.box 141 [.d tI,.d tI,.d tI,.d tI,.d tI,.d tI,.d tI,.d tI,.d tI,.d tI,.row 4,.row 5],.box 55 [.d yRt],.row 49 Is,.row 67 B4,.row 49 Is]⟩)]),(15,⟨[.row 6 0 49 Is,.sl 7 0 (.sl Gs),.sl 10 0 .str,.boxSl 1 9 B4,.boxRow 2 10 67 B4,.boxRow 2 11 49 Is],[(1,.lf (.ptr 0 0)),(2,.lf (.ptr 1 0)),(4,.lf (.ptr 2 0)),(5,.lf (.d tI)),(6,.lf (.row 3)),(7,.lf (.d (.sl (.sl Gs)))),(8,.lf (.d tI)),(9,.lf (.d tI)),(10,.lf (.d (.sl .str))),(11,.lf (.d tI))],[.box 95 [.d Api],.box 141 [.d tI,.d tI,.d tI,.d tI,.d tI,.d tI,.d tI,.d tI,.d tI,.d tI,.row 4,.row 5],.box 55 [.d yRt],.row 49 Is,.row 67 B4,.row 49 Is]⟩,[(4,⟨[.row 6 0 49 Is,.sl 7 0 (.sl Gs),.boxSl 1 9 B4,.boxRow 2 10 67 B4,.boxRow 2 11 49 Is],[(1,.lf (.ptr 0 0)),(2,.lf (.ptr 1 0)),(4,.lf (.ptr 2 0)),(5,.lf (.d tI)),(6,.lf (.row 3)),(7,.lf (.d (.sl (.sl Gs)))),(8,.lf (.d tI)),(9,.lf (.d tI))],[.box 95 [.d Api],.box 141 [.d tI,.d tI,.d tI,.d tI,.d tI,.d tI,.d tI,.d tI,.d tI,.d tI,.row 4,.row 5],.box 55 [.d yRt],.row 49 Is,.row 67 B4,.row 49 Is]⟩)])]
def O9:Code:=(Ax (Bs Try.f127)).getD 0 .skip
def Wh:Code:=(Ax O9).getD 0 .skip
def I2 (v5:Int) (v7:List (List Bq)) (v8 v9:Int) (v10:List Ab) (v11:Int) (b0:Lk) (b1_0 b1_1:Int) (b1_2 b1_3:Int) (b1_4 b1_5:Int) (b1_6 b1_7:Int) (b1_8 b1_9:Int) (b2:Rt) (r3:List Fy) (r4:List Bx) (r5:List Fy):Nat:=((v10.length:Int) - v11).toNat + 1
def I3 {R:Type}  (NX:((Int)×(List (List Bq))×(Int)×(Int)×(List Ab)×(Int)×Lk×(Int)×(Int)×(Int)×(Int)×(Int)×(Int)×(Int)×(Int)×(Int)×(Int)×Rt×(List Fy)×(List Bx)×(List Fy)×Unit)→Option R) (X4:((Int)×(List (List Bq))×(Int)×(Int)×Lk×(Int)×(Int)×(Int)×(Int)×(Int)×(Int)×(Int)×(Int)×(Int)×(Int)×Rt×(List Fy)×(List Bx)×(List Fy)×Unit)→Option R) (v5:Int) (v7:List (List Bq)) (v8:Int) (v9:Int) (v10:List Ab) (v11:Int) (b0:Lk) (b1_0:Int) (b1_1:Int) (b1_2:Int) (b1_3:Int) (b1_4:Int) (b1_5:Int) (b1_6:Int) (b1_7:Int) (b1_8:Int) (b1_9:Int) (b2:Rt) (r3:List Fy) (r4:List Bx) (r5:List Fy):Option R:=
 bif decide (v11 < nI v10.length) then bif decide (0≤v11) then bif decide (v11 < nI v10.length) then bif decide ((r3.length + [(false,IntKind.i64.wrap (v5 + v8),v10.getD v11.toNat (Af),())].length) * 32≤140737488355328) then NX (v5,v7,IntKind.i64.wrap (v8 + 1),v9,v10,IntKind.i64.wrap (v11 + 1),b0,b1_0,b1_1,b1_2,b1_3,b1_4,b1_5,b1_6,b1_7,b1_8,b1_9,b2,r3++[(false,IntKind.i64.wrap (v5 + v8),v10.getD v11.toNat (Af),())],r4,r5,()) else none else none else none else X4 (v5,v7,v8,v9,b0,b1_0,b1_1,b1_2,b1_3,b1_4,b1_5,b1_6,b1_7,b1_8,b1_9,b2,r3,r4,r5,())
def C9:Nat→(Int)→(List (List Bq))→(Int)→(Int)→(List Ab)→(Int)→Lk→(Int)→(Int)→(Int)→(Int)→(Int)→(Int)→(Int)→(Int)→(Int)→(Int)→Rt→(List Fy)→(List Bx)→(List Fy) →  Option ((Int)×(List (List Bq))×(Int)×(Int)×Lk×(Int)×(Int)×(Int)×(Int)×(Int)×(Int)×(Int)×(Int)×(Int)×(Int)×Rt×(List Fy)×(List Bx)×(List Fy)×Unit)
 | 0,_,_,_,_,_,_,_,_,_,_,_,_,_,_,_,_,_,_,_,_,_=>none
 | m + 1,v5,v7,v8,v9,v10,v11,b0,b1_0,b1_1,b1_2,b1_3,b1_4,b1_5,b1_6,b1_7,b1_8,b1_9,b2,r3,r4,r5=>I3  (fun d=>C9 m d.1 d.2.1 d.2.2.1 d.2.2.2.1 d.2.2.2.2.1 d.2.2.2.2.2.1 d.2.2.2.2.2.2.1 d.2.2.2.2.2.2.2.1 d.2.2.2.2.2.2.2.2.1 d.2.2.2.2.2.2.2.2.2.1 d.2.2.2.2.2.2.2.2.2.2.1 d.2.2.2.2.2.2.2.2.2.2.2.1 d.2.2.2.2.2.2.2.2.2.2.2.2.1 d.2.2.2.2.2.2.2.2.2.2.2.2.2.1 d.2.2.2.2.2.2.2.2.2.2.2.2.2.2.1 d.2.2.2.2.2.2.2.2.2.2.2.2.2.2.2.1 d.2.2.2.2.2.2.2.2.2.2.2.2.2.2.2.2.1 d.2.2.2.2.2.2.2.2.2.2.2.2.2.2.2.2.2.1 d.2.2.2.2.2.2.2.2.2.2.2.2.2.2.2.2.2.2.1 d.2.2.2.2.2.2.2.2.2.2.2.2.2.2.2.2.2.2.2.1 d.2.2.2.2.2.2.2.2.2.2.2.2.2.2.2.2.2.2.2.2.1) (fun d=>some (d)) v5 v7 v8 v9 v10 v11 b0 b1_0 b1_1 b1_2 b1_3 b1_4 b1_5 b1_6 b1_7 b1_8 b1_9 b2 r3 r4 r5
def I4 (d:(Int)×(List (List Bq))×(Int)×(Int)×(List Ab)×(Int)×Lk×(Int)×(Int)×(Int)×(Int)×(Int)×(Int)×(Int)×(Int)×(Int)×(Int)×Rt×(List Fy)×(List Bx)×(List Fy)×Unit):Option ((Int)×(List (List Bq))×(Int)×(Int)×Lk×(Int)×(Int)×(Int)×(Int)×(Int)×(Int)×(Int)×(Int)×(Int)×(Int)×Rt×(List Fy)×(List Bx)×(List Fy)×Unit):=(u4 (u4 (u4 (u4 (u4 (Ad Aj)))))) (C9 ((u4 (u4 (u4 (u4 (u4 (Ad Aj)))))) I2 d)) d
def Gq (v5:Int) (v7:List (List Bq)) (v8 v9:Int) (b0:Lk) (b1_0 b1_1:Int) (b1_2 b1_3:Int) (b1_4 b1_5:Int) (b1_6 b1_7:Int) (b1_8 b1_9:Int) (b2:Rt) (r3:List Fy) (r4:List Bx) (r5:List Fy):Nat:=((v7.length:Int) - v9).toNat + 1
def I5 {R:Type} (LO15:((Int)×(List (List Bq))×(Int)×(Int)×(List Ab)×(Int)×Lk×(Int)×(Int)×(Int)×(Int)×(Int)×(Int)×(Int)×(Int)×(Int)×(Int)×Rt×(List Fy)×(List Bx)×(List Fy)×Unit)→Option ((Int)×(List (List Bq))×(Int)×(Int)×Lk×(Int)×(Int)×(Int)×(Int)×(Int)×(Int)×(Int)×(Int)×(Int)×(Int)×Rt×(List Fy)×(List Bx)×(List Fy)×Unit)) (NX:((Int)×(List (List Bq))×(Int)×(Int)×Lk×(Int)×(Int)×(Int)×(Int)×(Int)×(Int)×(Int)×(Int)×(Int)×(Int)×Rt×(List Fy)×(List Bx)×(List Fy)×Unit)→Option R) (X2:((Int)×Lk×(Int)×(Int)×(Int)×(Int)×(Int)×(Int)×(Int)×(Int)×(Int)×(Int)×Rt×(List Fy)×(List Bx)×(List Fy)×Unit)→Option R) (v5:Int) (v7:List (List Bq)) (v8 v9:Int) (b0:Lk) (b1_0 b1_1:Int) (b1_2 b1_3:Int) (b1_4 b1_5:Int) (b1_6 b1_7:Int) (b1_8 b1_9:Int) (b2:Rt) (r3:List Fy) (r4:List Bx) (r5:List Fy):Option R:=
 bif decide (v9 < nI v7.length) then bif decide (0≤v9) then bif decide (v9 < nI v7.length) then ((Nq (C4 (v7.getD v9.toNat [])) b0.2.2.1 (IntKind.i64.wrap (b2.2.2.1 + v8)) b0.1).bind fun val=>some ((val,()),())).bind fun val=>(LO15 (v5,v7,v8,v9,val.1.1,0,b0,b1_0,b1_1,b1_2,b1_3,b1_4,b1_5,b1_6,b1_7,b1_8,b1_9,b2,r3,r4,r5,())).bind fun val=>NX (val.1,val.2.1,val.2.2.1,IntKind.i64.wrap (val.2.2.2.1 + 1),val.2.2.2.2) else none else none else X2 (v8,b0,b1_0,b1_1,b1_2,b1_3,b1_4,b1_5,b1_6,b1_7,b1_8,b1_9,b2,r3,r4,r5,())
def Ct:Nat→(Int)→(List (List Bq))→(Int)→(Int)→Lk→(Int)→(Int)→(Int)→(Int)→(Int)→(Int)→(Int)→(Int)→(Int)→(Int)→Rt→(List Fy)→(List Bx)→(List Fy) →  Option ((Int)×Lk×(Int)×(Int)×(Int)×(Int)×(Int)×(Int)×(Int)×(Int)×(Int)×(Int)×Rt×(List Fy)×(List Bx)×(List Fy)×Unit)
 | 0,_,_,_,_,_,_,_,_,_,_,_,_,_,_,_,_,_,_,_=>none
 | m + 1,v5,v7,v8,v9,b0,b1_0,b1_1,b1_2,b1_3,b1_4,b1_5,b1_6,b1_7,b1_8,b1_9,b2,r3,r4,r5=>I5 I4 (fun d=>Ct m d.1 d.2.1 d.2.2.1 d.2.2.2.1 d.2.2.2.2.1 d.2.2.2.2.2.1 d.2.2.2.2.2.2.1 d.2.2.2.2.2.2.2.1 d.2.2.2.2.2.2.2.2.1 d.2.2.2.2.2.2.2.2.2.1 d.2.2.2.2.2.2.2.2.2.2.1 d.2.2.2.2.2.2.2.2.2.2.2.1 d.2.2.2.2.2.2.2.2.2.2.2.2.1 d.2.2.2.2.2.2.2.2.2.2.2.2.2.1 d.2.2.2.2.2.2.2.2.2.2.2.2.2.2.1 d.2.2.2.2.2.2.2.2.2.2.2.2.2.2.2.1 d.2.2.2.2.2.2.2.2.2.2.2.2.2.2.2.2.1 d.2.2.2.2.2.2.2.2.2.2.2.2.2.2.2.2.2.1 d.2.2.2.2.2.2.2.2.2.2.2.2.2.2.2.2.2.2.1) (fun d=>some (d)) v5 v7 v8 v9 b0 b1_0 b1_1 b1_2 b1_3 b1_4 b1_5 b1_6 b1_7 b1_8 b1_9 b2 r3 r4 r5
def Ah9 (d:(Int)×(List (List Bq))×(Int)×(Int)×Lk×(Int)×(Int)×(Int)×(Int)×(Int)×(Int)×(Int)×(Int)×(Int)×(Int)×Rt×(List Fy)×(List Bx)×(List Fy)×Unit):Option ((Int)×Lk×(Int)×(Int)×(Int)×(Int)×(Int)×(Int)×(Int)×(Int)×(Int)×(Int)×Rt×(List Fy)×(List Bx)×(List Fy)×Unit):=(u4 (u4 (u4 (u4 (Ad (Ad (Ad Aj))))))) (Ct ((u4 (u4 (u4 (u4 (Ad (Ad (Ad Aj))))))) Gq d)) d
def Ur (a0:Lk):Option ((((Int)×(Int)×(Int)×(Int)×(Int)×(Int)×(Int)×(Int)×(Int)×(Int)×(List Bx)×(List Fy)×Unit)×(Unit))):=
 bif decide (IntKind.i64.wrap (a0.2.2.2.1.1 + 1) > 1000000000) then some ((4,0,0,0,0,0,0,0,0,0,[],[],()),()) else bif decide (IntKind.i64.wrap (a0.2.2.2.1.2.2.1 + Au a0.2.1) > 999999000) then some ((4,0,0,0,0,0,0,0,0,0,[],[],()),()) else ((fun d=>Ct (Gq d.1 d.2.1 d.2.2.1 d.2.2.2.1 d.2.2.2.2.1 d.2.2.2.2.2.1 d.2.2.2.2.2.2.1 d.2.2.2.2.2.2.2.1 d.2.2.2.2.2.2.2.2.1 d.2.2.2.2.2.2.2.2.2.1 d.2.2.2.2.2.2.2.2.2.2.1 d.2.2.2.2.2.2.2.2.2.2.2.1 d.2.2.2.2.2.2.2.2.2.2.2.2.1 d.2.2.2.2.2.2.2.2.2.2.2.2.2.1 d.2.2.2.2.2.2.2.2.2.2.2.2.2.2.1 d.2.2.2.2.2.2.2.2.2.2.2.2.2.2.2.1 d.2.2.2.2.2.2.2.2.2.2.2.2.2.2.2.2.1 d.2.2.2.2.2.2.2.2.2.2.2.2.2.2.2.2.2.1 d.2.2.2.2.2.2.2.2.2.2.2.2.2.2.2.2.2.2.1) d.1 d.2.1 d.2.2.1 d.2.2.2.1 d.2.2.2.2.1 d.2.2.2.2.2.1 d.2.2.2.2.2.2.1 d.2.2.2.2.2.2.2.1 d.2.2.2.2.2.2.2.2.1 d.2.2.2.2.2.2.2.2.2.1 d.2.2.2.2.2.2.2.2.2.2.1 d.2.2.2.2.2.2.2.2.2.2.2.1 d.2.2.2.2.2.2.2.2.2.2.2.2.1 d.2.2.2.2.2.2.2.2.2.2.2.2.2.1 d.2.2.2.2.2.2.2.2.2.2.2.2.2.2.1 d.2.2.2.2.2.2.2.2.2.2.2.2.2.2.2.1 d.2.2.2.2.2.2.2.2.2.2.2.2.2.2.2.2.1 d.2.2.2.2.2.2.2.2.2.2.2.2.2.2.2.2.2.1 d.2.2.2.2.2.2.2.2.2.2.2.2.2.2.2.2.2.2.1) (A8 a0.2.1 (IntKind.i64.wrap (1 - a0.2.2.2.1.2.1)),Ij a0.2.2.2.2.2.2.1,1,0,a0,0,0,0,0,0,0,0,0,0,0,(IntKind.i64.wrap (a0.2.2.2.1.1 + 1),IntKind.i64.wrap (1 - a0.2.2.2.1.2.1),IntKind.i64.wrap (a0.2.2.2.1.2.2.1 + Au a0.2.1),a0.2.2.1,()),[(false,A8 a0.2.1 (IntKind.i64.wrap (1 - a0.2.2.2.1.2.1)),B1 (3,a0.2.2.1,IntKind.i64.wrap (a0.2.2.2.1.2.2.1 + Au a0.2.1),Af,()) a0.1,())],[],[],())).bind fun val=>bif decide ((val.2.2.2.2.2.2.2.2.2.2.2.2.2.1.length + [(true,0,Af,()),(false,Int.tmod val.2.2.2.2.2.2.2.2.2.2.2.2.1.1 2,C1 val.2.2.2.2.2.2.2.2.2.2.2.2.1 val.2.1.1,()),(true,0,Af,())].length) * 32≤140737488355328) then ((C3 val.2.1.2.2.2.2.2.2.1).bind fun val=>some (val,())).bind fun val_1=>some ((0,val.2.1.1,val.2.1.2.1,val.2.1.2.2.1,val.2.2.2.2.2.2.2.2.2.2.2.2.1.1,val.2.2.2.2.2.2.2.2.2.2.2.2.1.2.1,val.2.2.2.2.2.2.2.2.2.2.2.2.1.2.2.1,val.2.2.2.2.2.2.2.2.2.2.2.2.1.2.2.2.1,val.1,0,val_1.1.1,val.2.2.2.2.2.2.2.2.2.2.2.2.2.1++[(true,0,Af,()),(false,Int.tmod val.2.2.2.2.2.2.2.2.2.2.2.2.1.1 2,C1 val.2.2.2.2.2.2.2.2.2.2.2.2.1 val.2.1.1,()),(true,0,Af,())],()),()) else none
theorem Ayp (s:Lk) (R:Rt) (S:List (List Bq)) (v9:Int) (L0 P:List Ab) (hH:0≤R.2.1∧R.2.1≤1) (hL0:L0.length≤500000) (hP:P.length≤4001):
  C9 (I2 (Bt R.2.1 s.2.1) S (nI L0.length) v9 P 0 s 0 0 0 0 0 0 0 0 0 0 R (Gf (Bt R.2.1 s.2.1) L0) [] []) (Bt R.2.1 s.2.1) S (nI L0.length) v9 P 0 s 0 0 0 0 0 0 0 0 0 0 R (Gf (Bt R.2.1 s.2.1) L0) [] []=some (Bt R.2.1 s.2.1,S,nI (L0++P).length,v9,s,0,0,0,0,0,0,0,0,0,0,R,Gf (Bt R.2.1 s.2.1) (L0++P),[],[],()):=by
 have hm:=An2 (n:=s.2.1) hH
 have hB:0≤Bt R.2.1 s.2.1∧Bt R.2.1 s.2.1≤101:=by unfold Bt; omega
 have hL:=Jd (xs:=P) z0 (fun i (L:List Ab)=>i≤4001∧L.length=L0.length + i) (fun (_:Nat) x L=>L++[x]) (g:=fun m i L=>C9 m (Bt R.2.1 s.2.1) S (nI L.length) v9 P i s 0 0 0 0 0 0 0 0 0 0 R (Gf (Bt R.2.1 s.2.1) L) [] []) (ok:=fun L=>(Bt R.2.1 s.2.1,S,nI L.length,v9,s,0,0,0,0,0,0,0,0,0,0,R,Gf (Bt R.2.1 s.2.1) L,[],[],())) (fun m i L hi hI=>by
   show C9 (m + 1) (Bt R.2.1 s.2.1) S (nI L.length) v9 P i s 0 0 0 0 0 0 0 0 0 0 R (Gf (Bt R.2.1 s.2.1) L) [] []=_
   simp only [C9,I3]
   obtain ⟨h1,h2⟩:=hI
   have e1:IntKind.i64.wrap (nI L.length + 1)=nI (L.length + 1):=wI (show L.length < 4611686018427387904 by omega)
   have e2:IntKind.i64.wrap (Bt R.2.1 s.2.1 + nI L.length)=Bt R.2.1 s.2.1 + (L.length:Int):=by simp only [nI]; exact Al (by omega) (by omega)
   rw [cLt hi,Nd,wI (show i < 4611686018427387904 by omega),Kx,e1,e2,Et,Xt,Ag (show (L.length + 1) * 32≤140737488355328 by omega),At4,Ey,Et]
   rfl) (fun i L hi hI=>⟨by omega,by rw [Ey,Et,hI.2]; omega⟩) (fun m L hI=>by
   show C9 (m + 1) (Bt R.2.1 s.2.1) S (nI L.length) v9 P (P.length:Int) s 0 0 0 0 0 0 0 0 0 0 R (Gf (Bt R.2.1 s.2.1) L) [] []=_
   simp only [C9,I3]
   rw [Zr]
   rfl) (I2 (Bt R.2.1 s.2.1) S (nI L0.length) v9 P 0 s 0 0 0 0 0 0 0 0 0 0 R (Gf (Bt R.2.1 s.2.1) L0) [] []) 0 L0 (by omega) (by simp [I2,nI]) ⟨by omega,rfl⟩
 rw [Apt,List.drop_zero] at hL
 exact hL
theorem Ayq (s:Lk) (R:Rt) (S:List (List Bq)) (L:List Ab) (hS:S.length≤101) (hH:0≤R.2.1∧R.2.1≤1) (hF:0≤R.2.2.1∧R.2.2.1≤1000000099) (hL:L.length≤1):
  Ct (Gq (Bt R.2.1 s.2.1) S (nI L.length) 0 s 0 0 0 0 0 0 0 0 0 0 R (Gf (Bt R.2.1 s.2.1) L) [] []) (Bt R.2.1 s.2.1) S (nI L.length) 0 s 0 0 0 0 0 0 0 0 0 0 R (Gf (Bt R.2.1 s.2.1) L) [] []=some (nI (Hk (fun _ b L=>Zu s.1 s.2.2.1 R.2.2.1 b L) 0 S L).length,s,0,0,0,0,0,0,0,0,0,0,R,Gf (Bt R.2.1 s.2.1) (Hk (fun _ b L=>Zu s.1 s.2.2.1 R.2.2.1 b L) 0 S L),[],[],()):=by
 have hL:=Jd (xs:=S) [] MvI (fun _ b L=>Zu s.1 s.2.2.1 R.2.2.1 b L) (g:=fun m i L=>Ct m (Bt R.2.1 s.2.1) S (nI L.length) i s 0 0 0 0 0 0 0 0 0 0 R (Gf (Bt R.2.1 s.2.1) L) [] []) (ok:=fun L=>(nI L.length,s,0,0,0,0,0,0,0,0,0,0,R,Gf (Bt R.2.1 s.2.1) L,[],[],())) (fun m i L hi hI=>by
   show Ct (m + 1) (Bt R.2.1 s.2.1) S (nI L.length) i s 0 0 0 0 0 0 0 0 0 0 R (Gf (Bt R.2.1 s.2.1) L) [] []=_
   simp only [Ct,I5,I4,u4,Ad,Aj]
   obtain ⟨h1,h2⟩:=hI
   rw [cLt hi,Nd,Kx]
   have e0:IntKind.i64.wrap (R.2.2.1 + nI L.length)=R.2.2.1 + (L.length:Int):=by simp only [nI]; exact Al (by omega) (by omega)
   have e1:Nq (C4 (List.getD S i [])) s.2.2.1 (R.2.2.1 + (L.length:Int)) s.1=some (Al8 (Fh (List.getD S i [])) s.2.2.1 (R.2.2.1 + (L.length:Int)) s.1):=if_pos (Nat.le_trans (Ng _) (by decide))
   rw [e0,e1]
   simp only [cond_true,Option.bind_some]
   refine Aji (Ayp s R S (i:Int) L (Al8 (Fh (List.getD S i [])) s.2.2.1 (R.2.2.1 + (L.length:Int)) s.1) hH (by omega) (An1 _ _ _ _)) ?_
   dsimp only
   rw [wI (show i < 4611686018427387904 by omega)]
   rfl) (fun i L hi hI=>hI.step (by omega) _ _ _ _) (fun m L hI=>by
   show Ct (m + 1) (Bt R.2.1 s.2.1) S (nI L.length) (S.length:Int) s 0 0 0 0 0 0 0 0 0 0 R (Gf (Bt R.2.1 s.2.1) L) [] []=_
   simp only [Ct,I5,I4,u4,Ad,Aj]
   rw [Zr]
   rfl) (Gq (Bt R.2.1 s.2.1) S (nI L.length) 0 s 0 0 0 0 0 0 0 0 0 0 R (Gf (Bt R.2.1 s.2.1) L) [] []) 0 L (by omega) (by simp [Gq,nI]) ⟨by omega,by omega⟩
 exact hL
theorem Arg (a0:Lk) r (h:Jf a0=some r):Ur a0=some ((r.1,r.2.1.1,r.2.1.2.1,r.2.1.2.2.1,r.2.1.2.2.2.1.1,r.2.1.2.2.2.1.2.1,r.2.1.2.2.2.1.2.2.1,r.2.1.2.2.2.1.2.2.2.1,r.2.1.2.2.2.2.1,r.2.1.2.2.2.2.2.1,r.2.1.2.2.2.2.2.2.1.1,r.2.2.1,()),(())):=by
 unfold Jf at h
 split at h
 rotate_left
 ·cases h
 rename_i hk
 cases h
 obtain ⟨⟨t0,t1⟩,⟨h0,h1⟩,⟨f0,f1⟩,hp⟩:=hk
 have hh:=Sx a0.2.1
 unfold Ur Vq Apu
 simp only [Au,Ij,B1,C1]
 show (bif decide (IntKind.i64.wrap (a0.2.2.2.1.1 + 1) > 1000000000) then _ else bif decide (IntKind.i64.wrap (a0.2.2.2.1.2.2.1 + An a0.2.1) > 999999000) then _ else _)=_
 rw [Al (n:=a0.2.2.2.1.1 + 1) (by omega) (by omega),Al (n:=a0.2.2.2.1.2.2.1 + An a0.2.1) (by omega) (by omega),Al (n:=1 - a0.2.2.2.1.2.1) (by omega) (by omega)]
 cases hc1:decide (a0.2.2.2.1.1 + 1 > 1000000000) with
 | true=>rfl
 | false=>
  cases hc2:decide (a0.2.2.2.1.2.2.1 + An a0.2.1 > 999999000) with
  | true=>rfl
  | false=>
   simp only [cond_false]
   have hm:=An2 (n:=a0.2.1) (show 0≤1 - a0.2.2.2.1.2.1∧1 - a0.2.2.2.1.2.1≤1 by omega)
   have e0:A8 a0.2.1 (1 - a0.2.2.2.1.2.1)=Bt (1 - a0.2.2.2.1.2.1) a0.2.1:=by
    show IntKind.i64.wrap (2 + IntKind.i64.wrap ((1 - a0.2.2.2.1.2.1) * An a0.2.1))=2 + (1 - a0.2.2.2.1.2.1) * An a0.2.1
    rw [Al (n:=(1 - a0.2.2.2.1.2.1) * An a0.2.1) (by omega) (by omega),Al (by omega) (by omega)]
   rw [e0]
   have hL1:=Ayq a0 ((a0.2.2.2.1.1 + 1),(1 - a0.2.2.2.1.2.1),(a0.2.2.2.1.2.2.1 + An a0.2.1),a0.2.2.1,()) (Kz a0.2.2.2.2.2.2.1) [Cr (3,a0.2.2.1,a0.2.2.2.1.2.2.1 + An a0.2.1,z0,()) a0.1] (Ach _) ⟨by dsimp only; omega,by dsimp only; omega⟩ ⟨by dsimp only; omega,by dsimp only; omega⟩ (Nat.le_refl 1)
   have hl:=A1u a0 a0.2.2.1
   have e1:C3 (a0.2.2.2.2.2.2.1.1,())=some (a0.2.2.2.2.2.2.1.1,()):=if_pos hp
   have e2:decide (((Gf (Bt (1 - a0.2.2.2.1.2.1) a0.2.1) (mvL a0 a0.2.2.1)).length + 3) * 32≤140737488355328)=true:=Ag (by rw [Xt]; omega)
   refine Aji hL1 ?_
   dsimp only
   simp only [List.length_cons,List.length_nil,Nat.zero_add,Nat.reduceAdd]
   refine (congrArg (fun c=>bif c then _ else none) e2).trans ?_
   simp only [cond_true]
   rw [e1]
   rfl
def Wi {R:Type} (k:Kt R):=(N3 (D9 11) (.exit 0) 2 k)
def Wj {R:Type} (k:Kt R):=(N3 (D9 15) (.exit 2) 4 k)
def W8 {R:Type}:Lt R D9:=(G3 (pat:=D9) 11 (fun d k=>(Ah9 d).bind (Wi k)) (G3 (pat:=D9) 15 (fun d k=>(I4 d).bind (Wj k)) Jo))
theorem Us:A4 Try.prog Uq:=A9 ⟨Ym,Ma,Ha,Ov,Lw,Alw,Ld,W7,Ug,trivial⟩
theorem Aia {R:Type}:Bg Try.prog R 125 0 D9 W8 Wh:=
 C8 (cfg:=⟨Uq,0,125,D9⟩) 15 [] (fun NX X d=>(u4 (u4 (u4 (u4 (u4 (Ad Aj)))))) (I3  NX X) d) (fun m d=>(u4 (u4 (u4 (u4 (u4 (Ad Aj)))))) (C9 m) d) (fun d=>(u4 (u4 (u4 (u4 (u4 (Ad Aj)))))) I2 d) Wj Us trivial (fun f NX d=>by simp only [u4,Ad,Aj]; unfold I3; simp only [nb])
theorem Aib {R:Type}:Bg Try.prog R 125 0 D9 W8 O9:=
 C8 (cfg:=⟨Uq,0,125,D9⟩) 11 [Wh] (fun NX X d=>(u4 (u4 (u4 (u4 (Ad (Ad (Ad Aj))))))) (I5 I4 NX X) d) (fun m d=>(u4 (u4 (u4 (u4 (Ad (Ad (Ad Aj))))))) (Ct m) d) (fun d=>(u4 (u4 (u4 (u4 (Ad (Ad (Ad Aj))))))) Gq d) Wi Us ⟨Aia,trivial⟩ (fun f NX d=>by simp only [u4,Ad,Aj]; unfold I5; simp only [nb])
theorem Abp:Cg Try.prog 127 Up:=
 Ba (pat:=D9) [O9] W8 Us ⟨Aib,trivial⟩ Try.func127 (de:=fun x=>Ur x.1) (fun x r h=>Gd (Arg x.1) h) fun _=>by kernel_rfl
def Bf (d:Dk) (w:Int):Ta:=y9 d w
def Awd:H6:=⟨[.rd yDk,.rd tI],[some 2,none],[.rd tI,.rd tI,.rd tI,.rd tI,.rd tI,.rd tI,.rd tI,.rd tI,.rd tI,.rd tI,.own 67 B4,.own 49 Is],[some 12]⟩
def Aic:SD:=⟨Awd,fun x=>some (((Bf x.1 x.2.1).1,(Bf x.1 x.2.1).2.1.1,(Bf x.1 x.2.1).2.1.2.1,(Bf x.1 x.2.1).2.1.2.2.1,(Bf x.1 x.2.1).2.1.2.2.2.1.1,(Bf x.1 x.2.1).2.1.2.2.2.1.2.1,(Bf x.1 x.2.1).2.1.2.2.2.1.2.2.1,(Bf x.1 x.2.1).2.1.2.2.2.1.2.2.2.1,(Bf x.1 x.2.1).2.1.2.2.2.2.1,(Bf x.1 x.2.1).2.1.2.2.2.2.2.1,(Bf x.1 x.2.1).2.1.2.2.2.2.2.2.1.1,(Bf x.1 x.2.1).2.2.1,()),(()))⟩
def Z4 (a0:Dk) (a1:Int):Option ((((Int)×(Int)×(Int)×(Int)×(Int)×(Int)×(Int)×(Int)×(Int)×(Int)×(List Bx)×(List Fy)×Unit)×(Unit))):=
 bif !Er a0 then some ((1,0,0,0,0,0,0,0,0,0,[],[],()),()) else (B0 a1).bind fun val=>bif !val.1.1 then some ((1,0,0,0,0,0,0,0,0,0,[],[],()),()) else ((Mx (Ci a0 (A8 (nI (List.length a0.1)) (Ah a0 a1).2.1) (Au (nI (List.length a0.1))) (Ah a0 a1).2.2.1 (Ah a0 a1).2.2.2.1 a1).1).bind fun val=>some ((val.1.1,val.2,()),())).bind fun val=>bif !val.1.2.1 then some ((2,0,0,0,0,0,0,0,0,0,[],[],()),()) else bif decide (IntKind.i64.wrap ((Ci a0 (A8 (nI (List.length a0.1)) (Ah a0 a1).2.1) (Au (nI (List.length a0.1))) (Ah a0 a1).2.2.1 (Ah a0 a1).2.2.2.1 a1).2.2.1 + 1) > 60000) then some ((3,0,0,0,0,0,0,0,0,0,[],[],()),()) else bif decide (Kd (val.1.1,()) a1 > IntKind.i64.wrap (Au (nI (List.length a0.1)) - 1)) then some ((4,0,0,0,0,0,0,0,0,0,[],[],()),()) else bif decide ((Ci a0 (A8 (nI (List.length a0.1)) (Ah a0 a1).2.1) (Au (nI (List.length a0.1))) (Ah a0 a1).2.2.1 (Ah a0 a1).2.2.2.1 a1).2.1≥Au (nI (List.length a0.1))) then ((Jf (a1,nI (List.length a0.1),IntKind.i64.wrap ((Ci a0 (A8 (nI (List.length a0.1)) (Ah a0 a1).2.1) (Au (nI (List.length a0.1))) (Ah a0 a1).2.2.1 (Ah a0 a1).2.2.2.1 a1).2.2.1 + 1),Ah a0 a1,(Ci a0 (A8 (nI (List.length a0.1)) (Ah a0 a1).2.1) (Au (nI (List.length a0.1))) (Ah a0 a1).2.2.1 (Ah a0 a1).2.2.2.1 a1).2.1,0,(val.1.1,()),())).bind fun val=>some ((val.1,val.2.1.1,val.2.1.2.1,val.2.1.2.2.1,val.2.1.2.2.2.1.1,val.2.1.2.2.2.1.2.1,val.2.1.2.2.2.1.2.2.1,val.2.1.2.2.2.1.2.2.2.1,val.2.1.2.2.2.2.1,val.2.1.2.2.2.2.2.1,val.2.1.2.2.2.2.2.2.1.1,val.2.2),())).bind fun val=>some val else some ((0,a1,nI (List.length a0.1),IntKind.i64.wrap ((Ci a0 (A8 (nI (List.length a0.1)) (Ah a0 a1).2.1) (Au (nI (List.length a0.1))) (Ah a0 a1).2.2.1 (Ah a0 a1).2.2.2.1 a1).2.2.1 + 1),(Ah a0 a1).1,(Ah a0 a1).2.1,(Ah a0 a1).2.2.1,(Ah a0 a1).2.2.2.1,IntKind.i64.wrap ((Ci a0 (A8 (nI (List.length a0.1)) (Ah a0 a1).2.1) (Au (nI (List.length a0.1))) (Ah a0 a1).2.2.1 (Ah a0 a1).2.2.2.1 a1).2.1 + 1),0,val.1.1,[(false,IntKind.i64.wrap (A8 (nI (List.length a0.1)) (Ah a0 a1).2.1 + (Ci a0 (A8 (nI (List.length a0.1)) (Ah a0 a1).2.1) (Au (nI (List.length a0.1))) (Ah a0 a1).2.2.1 (Ah a0 a1).2.2.2.1 a1).2.1),B1 (3,IntKind.i64.wrap ((Ci a0 (A8 (nI (List.length a0.1)) (Ah a0 a1).2.1) (Au (nI (List.length a0.1))) (Ah a0 a1).2.2.1 (Ah a0 a1).2.2.2.1 a1).2.2.1 + 1),IntKind.i64.wrap ((Ah a0 a1).2.2.1 + (Ci a0 (A8 (nI (List.length a0.1)) (Ah a0 a1).2.1) (Au (nI (List.length a0.1))) (Ah a0 a1).2.2.1 (Ah a0 a1).2.2.2.1 a1).2.1),Af,()) a1,()),(true,0,Af,())],()),())
theorem Awe (a0:Dk) (a1:Int):Z4 a0 a1=some (((Bf a0 a1).1,(Bf a0 a1).2.1.1,(Bf a0 a1).2.1.2.1,(Bf a0 a1).2.1.2.2.1,(Bf a0 a1).2.1.2.2.2.1.1,(Bf a0 a1).2.1.2.2.2.1.2.1,(Bf a0 a1).2.1.2.2.2.1.2.2.1,(Bf a0 a1).2.1.2.2.2.1.2.2.2.1,(Bf a0 a1).2.1.2.2.2.2.1,(Bf a0 a1).2.1.2.2.2.2.2.1,(Bf a0 a1).2.1.2.2.2.2.2.2.1.1,(Bf a0 a1).2.2.1,()),(())):=by
 unfold Z4 Bf y9
 have ew:(bif decide (a1≥1) then (some ((decide (a1≤8),()),()):Option ((Bool×Unit)×Unit)) else some ((false,()),()))=some ((Cj a1 1 8,()),()):=by
  unfold Cj
  show (bif decide (1≤a1) then _ else _)=_
  cases decide (1≤a1)<;>rfl
 first
  | rw [ew]
  | rw [show B0 a1=some ((Cj a1 1 8,()),()) from ew]
 show (bif !Az a0 then _ else bif !Cj a1 1 8 then _ else _)=_
 cases hv:Az a0 with
 | false=>rfl
 | true=>
  cases hw:Cj a1 1 8 with
  | false=>rfl
  | true=>
   simp only [Bool.not_true,cond_false]
   have hr:=Ax8 hv hw
   have hm:=An2 (n:=nI a0.1.length) hr.2.1
   have hh:=Sx (nI a0.1.length)
   have eb:A8 (nI a0.1.length) (Bj a0 a1).2.1=Bt (Bj a0 a1).2.1 (nI a0.1.length):=by
    show IntKind.i64.wrap (2 + IntKind.i64.wrap ((Bj a0 a1).2.1 * An (nI a0.1.length)))=2 + (Bj a0 a1).2.1 * An (nI a0.1.length)
    rw [Al (n:=(Bj a0 a1).2.1 * An (nI a0.1.length)) (by omega) (by omega),Al (by omega) (by omega)]
   have ex:Ci a0 (A8 (nI a0.1.length) (Ah a0 a1).2.1) (Au (nI a0.1.length)) (Ah a0 a1).2.2.1 (Ah a0 a1).2.2.2.1 a1=La a0 a1:=by
    show Tm a0 (A8 (nI a0.1.length) (Bj a0 a1).2.1) (An (nI a0.1.length)) (Bj a0 a1).2.2.1 (Bj a0 a1).2.2.2.1 a1=_
    rw [eb]
    rfl
   simp only [ex]
   have hx:(La a0 a1).1.length≤1073741824:=Fw (Ch (Ch (Az8 a0 (Bt (Bj a0 a1).2.1 (nI a0.1.length)) (An (nI a0.1.length)) (Bj a0 a1).2.2.1 (Bj a0 a1).2.2.2.1 a1)).1).1
   have hs:=A53 a0 (Bt (Bj a0 a1).2.1 (nI a0.1.length)) (An (nI a0.1.length)) (Bj a0 a1).2.2.1 (Bj a0 a1).2.2.2.1 a1 hh.1 hr.2.2.2
   have hf:Mx (La a0 a1).1=some (A12 (La a0 a1).1):=if_pos hx
   rw [hf]
   unfold A12
   cases ho:Mk (La a0 a1).1 zSs with
   | none=>rfl
   | some st=>
    have hst:=Od rfl ho
    replace hs:(0≤(La a0 a1).2.1∧(La a0 a1).2.1≤An (nI a0.1.length))∧(0≤(La a0 a1).2.2.1∧(La a0 a1).2.2.1≤60000):=hs
    clear ho hx ex hf
    have eR:Ah a0 a1=Bj a0 a1:=rfl
    have eH:Au (nI a0.1.length)=An (nI a0.1.length):=rfl
    rw [eR,eH]
    generalize La a0 a1=x at *
    generalize Bj a0 a1=r at *
    show (bif decide (IntKind.i64.wrap (x.2.2.1 + 1) > 60000) then _ else bif decide (Ln st a1 > IntKind.i64.wrap (An (nI a0.1.length) - 1)) then _ else bif decide (x.2.1≥An (nI a0.1.length)) then _ else _)=_
    dsimp only
    rw [Al (n:=x.2.2.1 + 1) (by omega) (by omega),y7]
    by_cases h1:x.2.2.1 + 1 > 60000
    ·rw [Ag h1,A1y h1]; rfl
    by_cases h2:Ln st a1 > An (nI a0.1.length) - 1
    ·rw [Bi h1,Ag h2,A1z h1 h2]; rfl
    by_cases h3:x.2.1 < An (nI a0.1.length)
    ·rw [Bi h1,Bi h2,Bi (show ¬ x.2.1≥An (nI a0.1.length) by omega),A10 h1 h2 h3]
     simp only [cond_true,cond_false]
     obtain ⟨_,hr1,hr2,hr3⟩:=hr
     have hB:0≤Bt r.2.1 (nI a0.1.length)∧Bt r.2.1 (nI a0.1.length)≤101:=by unfold Bt; omega
     rw [eb,Al (n:=x.2.1 + 1) (by omega) (by omega),Al (n:=Bt r.2.1 (nI a0.1.length) + x.2.1) (by omega) (by omega),Al (n:=r.2.2.1 + x.2.1) (by omega) (by omega)]
     rfl
    ·rw [Bi h1,Bi h2,Ag (show x.2.1≥An (nI a0.1.length) by omega),A11 h1 h2 h3]
     simp only [cond_true,cond_false]
     have e1:Jf (a1,nI a0.1.length,x.2.2.1 + 1,r,x.2.1,0,st,())=some (Vq (a1,nI a0.1.length,x.2.2.1 + 1,r,x.2.1,0,st,())):=if_pos ⟨hr.1,hr.2.1,⟨Int.le_trans (by decide) hr.2.2.1.1,Int.le_trans hr.2.2.1.2 (by decide)⟩,Nat.le_trans (E0 hst) (by decide)⟩
     refine (congrArg (fun q=>Option.bind (Option.bind q _) _) e1).trans ?_
     rfl
theorem Awf:Cg Try.prog 116 Aic:=
 Ba (pat:=Eo) [] Jo (A9 (l:=[(19,Gi),(28,Qn),(56,Fq),(62,C0),(109,J1),(110,Ss),(113,Qw),(114,O7),(125,Ah3),(126,Abm),(127,Up)]) ⟨Ix,Yv,Ha,Dn,Lw,Z0,W7,Ug,Awc,Are,Abp,trivial⟩) trivial Try.func116 (de:=fun x=>Z4 x.1 x.2.1) (fun x r h=>(Awe x.1 x.2.1).trans h) fun _=>by kernel_rfl
def A2 (s:Lk):Ta:=Tk s
def Asl:H6:=⟨[.rd Api],[some 10],[.rd tI,.rd tI,.rd tI,.rd tI,.rd tI,.rd tI,.rd tI,.rd tI,.rd tI,.rd tI,.own 67 B4,.own 49 Is],[some 12]⟩
def Ady:SD:=⟨Asl,fun x=>some (((A2 x.1).1,(A2 x.1).2.1.1,(A2 x.1).2.1.2.1,(A2 x.1).2.1.2.2.1,(A2 x.1).2.1.2.2.2.1.1,(A2 x.1).2.1.2.2.2.1.2.1,(A2 x.1).2.1.2.2.2.1.2.2.1,(A2 x.1).2.1.2.2.2.1.2.2.2.1,(A2 x.1).2.1.2.2.2.2.1,(A2 x.1).2.1.2.2.2.2.2.1,(A2 x.1).2.1.2.2.2.2.2.2.1.1,(A2 x.1).2.2.1,()),(()))⟩
def W9 (a0:Lk):Option ((((Int)×(Int)×(Int)×(Int)×(Int)×(Int)×(Int)×(Int)×(Int)×(Int)×(List Bx)×(List Fy)×Unit)×(Unit))):=
 bif !Gn a0 then some ((1,0,0,0,0,0,0,0,0,0,[],[],()),()) else ((C3 a0.2.2.2.2.2.2.1).bind fun val=>some (val,())).bind fun val=>some ((0,a0.1,a0.2.1,a0.2.2.1,a0.2.2.2.1.1,a0.2.2.2.1.2.1,a0.2.2.2.1.2.2.1,a0.2.2.2.1.2.2.2.1,a0.2.2.2.2.1,0,val.1.1,[(true,0,Af,())],()),())
theorem Asm (a0:Lk):W9 a0=some (((A2 a0).1,(A2 a0).2.1.1,(A2 a0).2.1.2.1,(A2 a0).2.1.2.2.1,(A2 a0).2.1.2.2.2.1.1,(A2 a0).2.1.2.2.2.1.2.1,(A2 a0).2.1.2.2.2.1.2.2.1,(A2 a0).2.1.2.2.2.1.2.2.2.1,(A2 a0).2.1.2.2.2.2.1,(A2 a0).2.1.2.2.2.2.2.1,(A2 a0).2.1.2.2.2.2.2.2.1.1,(A2 a0).2.2.1,()),(())):=by
 unfold W9 A2 Tk
 show (bif !A6 a0 then _ else _)=_
 cases hv:A6 a0 with
 | false=>rfl
 | true=>
  have e1:C3 (a0.2.2.2.2.2.2.1.1,())=some (a0.2.2.2.2.2.2.1.1,()):=if_pos (Nat.le_trans (E0 (Aci hv).2.2.1) (by decide))
  simp only [Bool.not_true,cond_false]
  rw [e1]
  rfl
theorem Asn:Cg Try.prog 117 Ady:=
 Ba (pat:=Eo) [] Jo (A9 (l:=[(93,Lu),(106,Km)]) ⟨Ov,Np,trivial⟩) trivial Try.func117 (de:=fun x=>W9 x.1) (fun x r h=>(Asm x.1).trans h) fun _=>by kernel_rfl
def Aw (s:Lk):Ta:=Lo s
def Amu:H6:=⟨[.rd Api],[some 10],[.rd tI,.rd tI,.rd tI,.rd tI,.rd tI,.rd tI,.rd tI,.rd tI,.rd tI,.rd tI,.own 67 B4,.own 49 Is],[some 12]⟩
def i4:SD:=⟨Amu,fun x=>some (((Aw x.1).1,(Aw x.1).2.1.1,(Aw x.1).2.1.2.1,(Aw x.1).2.1.2.2.1,(Aw x.1).2.1.2.2.2.1.1,(Aw x.1).2.1.2.2.2.1.2.1,(Aw x.1).2.1.2.2.2.1.2.2.1,(Aw x.1).2.1.2.2.2.1.2.2.2.1,(Aw x.1).2.1.2.2.2.2.1,(Aw x.1).2.1.2.2.2.2.2.1,(Aw x.1).2.1.2.2.2.2.2.2.1.1,(Aw x.1).2.2.1,()),(()))⟩
def Rs (a0:Lk):Option ((((Int)×(Int)×(Int)×(Int)×(Int)×(Int)×(Int)×(Int)×(Int)×(Int)×(List Bx)×(List Fy)×Unit)×(Unit))):=
 bif !Gn a0 then some ((1,0,0,0,0,0,0,0,0,0,[],[],()),()) else ((Jf a0).bind fun val=>some ((val.1,val.2.1.1,val.2.1.2.1,val.2.1.2.2.1,val.2.1.2.2.2.1.1,val.2.1.2.2.2.1.2.1,val.2.1.2.2.2.1.2.2.1,val.2.1.2.2.2.1.2.2.2.1,val.2.1.2.2.2.2.1,val.2.1.2.2.2.2.2.1,val.2.1.2.2.2.2.2.2.1.1,val.2.2),())).bind fun val=>some val
theorem Amv (a0:Lk):Rs a0=some (((Aw a0).1,(Aw a0).2.1.1,(Aw a0).2.1.2.1,(Aw a0).2.1.2.2.1,(Aw a0).2.1.2.2.2.1.1,(Aw a0).2.1.2.2.2.1.2.1,(Aw a0).2.1.2.2.2.1.2.2.1,(Aw a0).2.1.2.2.2.1.2.2.2.1,(Aw a0).2.1.2.2.2.2.1,(Aw a0).2.1.2.2.2.2.2.1,(Aw a0).2.1.2.2.2.2.2.2.1.1,(Aw a0).2.2.1,()),(())):=by
 unfold Rs Aw Lo
 show (bif !A6 a0 then _ else _)=_
 cases hv:A6 a0 with
 | false=>rfl
 | true=>
  have e1:Jf (a0.1,a0.2.1,a0.2.2.1,(a0.2.2.2.1.1,a0.2.2.2.1.2.1,a0.2.2.2.1.2.2.1,a0.2.2.2.1.2.2.2.1,()),a0.2.2.2.2.1,a0.2.2.2.2.2.1,(a0.2.2.2.2.2.2.1.1,()),())=some (Vq a0):=if_pos (A3k hv)
  simp only [Bool.not_true,cond_false,cond_true]
  rw [e1]
  rfl
theorem Amw:Cg Try.prog 118 i4:=
 Ba (pat:=Eo) [] Jo (A9 (l:=[(106,Km),(127,Up)]) ⟨Np,Abp,trivial⟩) trivial Try.func118 (de:=fun x=>Rs x.1) (fun x r h=>(Amv x.1).trans h) fun _=>by kernel_rfl
def Arh:H6:=⟨[.rd Nc,.rd A5k],[some 16,some 4],[.rd A7g,.rd .bool],[some 12,none]⟩
def Pa (a0:Da) (a1:m9):Option (((Ta×(Bool)×Unit)×(Unit))):=
 bif a1.1==1 then some ((Bf a0.2.1 a0.1,!a0.2.2.1,()),()) else bif a1.1==2 then some ((At a0.2.2.2.1 a1.2.1,a0.2.2.1,()),()) else bif a1.1==3 then some ((A2 a0.2.2.2.1,a0.2.2.1,()),()) else bif a1.1==4 then some ((Aw a0.2.2.2.1,a0.2.2.1,()),()) else some (((0,(0,0,0,(0,0,0,0,()),0,0,([],()),()),[],()),false,()),())
theorem Abq:∃ f,f=@Pa:=⟨_,rfl⟩
def My:=Classical.choose Abq
theorem Abr:@My=@Pa:=Classical.choose_spec Abq
def Abs:SD:=⟨Arh,fun x=>My x.1 x.2.1⟩
theorem A7z {w:Da} (h:WOk w) (e:m9):Ao (My w e) fun q=>q.1=((R2 w e).1,(R2 w e).2,()):=by
 rw [Abr]
 unfold Pa R2
 refine Ao.cond (fun c=>Ao.some ?_) fun c=>Ao.cond (fun c2=>Ao.some ?_) fun c2=>Ao.cond (fun c3=>Ao.some ?_) fun c3=>Ao.cond (fun c4=>Ao.some ?_) fun c4=>Ao.some ?_
 ·rw [c]; rfl
 ·rw [c,c2]; rfl
 ·rw [c,c2,c3]; rfl
 ·rw [c,c2,c3,c4]; rfl
 ·rw [c,c2,c3,c4]; rfl
theorem Ari:Cg Try.prog 98 Abs:=
 Ba (pat:=Eo) [] Jo (A9 (l:=[(96,Uh),(116,Aic),(117,Ady),(118,i4)]) ⟨Abf,Awf,Asn,Amw,trivial⟩) trivial Try.func98 (de:=fun x=>Pa x.1 x.2.1) (fun x r h=>by have q:My x.1 x.2.1=some r:=h; rw [Abr] at q; exact q) fun _=>by kernel_rfl
def Awg:H6:=⟨[.rd Nc,.rd A5k],[some 16,some 4],[.rd Nc],[some 16]⟩
def Aid:Tb:=tb [(18,b8),(97,d7),(98,Abs)]
def Mg:Nat→Dv×(Nat→Dv):=Jc [(13,⟨[.row 9 0 9 .str,.boxSl 2 1 .str,.boxSl 2 2 Db,.boxSl 2 13 B4,.boxSl 2 14 Li,.boxSl 2 15 .str,.boxSl 3 1 Gs,.boxSl 3 3 tI,.boxSl 4 1 .str,.boxSl 4 2 Db,.boxSl 4 13 B4,.boxSl 4 14 Li,.boxSl 4 15 .str,.boxSl 5 10 B4,.boxSl 5 11 Is],[(2,.lf (.ptr 0 0)),(3,.lf (.ptr 1 0)),(4,.lf (.ptr 2 0)),(5,.lf (.ptr 3 0)),(7,.lf (.d tI)),(8,.lf (.d .bool)),(9,.lf (.row 4)),(10,.lf (.d tI))],[.box 98 [.d Nc],.box 123 [.d A5k],.box 98 [.d Nc],.box 141 [.d A7g],.row 9 .str]⟩,[(2,⟨[.row 9 0 9 .str,.boxSl 2 1 .str,.boxSl 2 2 Db,.boxSl 2 13 B4,.boxSl 2 14 Li,.boxSl 2 15 .str,.boxSl 3 1 Gs,.boxSl 3 3 tI,.boxSl 4 1 .str,.boxSl 4 2 Db,.boxSl 4 13 B4,.boxSl 4 14 Li,.boxSl 4 15 .str,.boxSl 5 10 B4,.boxSl 5 11 Is],[(2,.lf (.ptr 0 0)),(3,.lf (.ptr 1 0)),(4,.lf (.ptr 2 0)),(5,.lf (.ptr 3 0)),(7,.lf (.d tI)),(8,.lf (.d .bool)),(9,.lf (.row 4))],[.box 98 [.d Nc],.box 123 [.d A5k],.box 98 [.d Nc],.box 141 [.d A7g],.row 9 .str]⟩)])]
def i5:Code:=(Ax (Bs Try.f81)).getD 0 .skip
def Fi (v7:Int) (v8:Bool) (v10:Int) (b0:Da) (b1:m9) (b2:Da) (b3:Ta) (r4:List Ab):Nat:=(v7 - v10).toNat + 1
def K4 {R:Type}  (NX:((Int)×(Bool)×(Int)×Da×m9×Da×Ta×(List Ab)×Unit)→Option R) (X2:((Int)×(Bool)×Da×m9×Da×Ta×(List Ab)×Unit)→Option R) (v7:Int) (v8:Bool) (v10:Int) (b0:Da) (b1:m9) (b2:Da) (b3:Ta) (r4:List Ab):Option R:=
 bif decide (v10 < v7) then bif decide (0≤v10) then bif decide (v10 < nI (List.length b3.2.2.1)) then bif !(List.getD b3.2.2.1 v10.toNat (false,0,Af,())).1 then bif decide (0≤v10) then bif decide (v10 < nI (List.length b3.2.2.1)) then bif decide ((r4.length + [(List.getD b3.2.2.1 v10.toNat (false,0,Af,())).2.2.1].length) * 16≤140737488355328) then NX (v7,v8,IntKind.i64.wrap (v10 + 1),b0,b1,b2,b3,r4++[(List.getD b3.2.2.1 v10.toNat (false,0,Af,())).2.2.1],()) else none else none else none else NX (v7,v8,IntKind.i64.wrap (v10 + 1),b0,b1,b2,b3,r4,()) else none else none else X2 (v7,v8,b0,b1,b2,b3,r4,())
def Dp:Nat→(Int)→(Bool)→(Int)→Da→m9→Da→Ta→(List Ab) →  Option ((Int)×(Bool)×Da×m9×Da×Ta×(List Ab)×Unit)
 | 0,_,_,_,_,_,_,_,_=>none
 | m + 1,v7,v8,v10,b0,b1,b2,b3,r4=>K4  (fun d=>Dp m d.1 d.2.1 d.2.2.1 d.2.2.2.1 d.2.2.2.2.1 d.2.2.2.2.2.1 d.2.2.2.2.2.2.1 d.2.2.2.2.2.2.2.1) (fun d=>some (d)) v7 v8 v10 b0 b1 b2 b3 r4
def Amx (d:(Int)×(Bool)×(Int)×Da×m9×Da×Ta×(List Ab)×Unit):Option ((Int)×(Bool)×Da×m9×Da×Ta×(List Ab)×Unit):=(u4 (u4 Aj)) (Dp ((u4 (u4 Aj)) Fi d)) d
def Su (a0:Da) (a1:m9):Option (((Da×Unit)×(Unit))):=
 bif a1.1==5 then (Dh a0 a1.2.2.2.1).bind fun val=>some val else (My a0 a1).bind fun val=>bif !val.1.2.1 then some ((a0,()),()) else bif val.1.1.1 != 0 then some ((a0,()),()) else bif decide (a1.2.2.1≥0) then bif decide (a1.2.2.1≤nI (List.length val.1.1.2.2.1)) then bif decide ((0 + List.length a0.2.2.2.2.2.1) * 16≤140737488355328) then ((fun d=>Dp (Fi d.1 d.2.1 d.2.2.1 d.2.2.2.1 d.2.2.2.2.1 d.2.2.2.2.2.1 d.2.2.2.2.2.2.1 d.2.2.2.2.2.2.2.1) d.1 d.2.1 d.2.2.1 d.2.2.2.1 d.2.2.2.2.1 d.2.2.2.2.2.1 d.2.2.2.2.2.2.1 d.2.2.2.2.2.2.2.1) (a1.2.2.1,decide (a1.2.2.1≤nI (List.length val.1.1.2.2.1)),0,a0,a1,(0,([],[],()),false,(0,0,0,(0,0,0,0,()),0,0,([],()),()),[],[],()),val.1.1,[]++a0.2.2.2.2.2.1,())).bind fun val=>bif val.2.2.2.1.1==2 then bif decide ((0 + List.length val.2.2.1.2.2.2.2.1) * 24≤140737488355328) then bif decide ((([]++val.2.2.1.2.2.2.2.1).length + [val.2.2.2.2.2.1.2.1.2.2.2.2.2.2.1].length) * 24≤140737488355328) then bif decide (nI val.2.2.2.2.2.2.1.length > 2000) then some ((val.2.2.1,()),()) else bif decide (nI ([]++val.2.2.1.2.2.2.2.1++[val.2.2.2.2.2.1.2.1.2.2.2.2.2.2.1]).length > 200) then some ((val.2.2.1,()),()) else ((D8 val.2.2.1.2.1 val.2.2.2.2.2.1.2.2.1 val.1).bind fun val=>some (val,())).bind fun val_1=>bif val.2.1 then (Dh (val.2.2.1.1,val_1.1,val.2.2.1.2.2.1,val.2.2.1.2.2.2.1,[]++val.2.2.1.2.2.2.2.1++[val.2.2.2.2.2.1.2.1.2.2.2.2.2.2.1],val.2.2.2.2.2.2) val.2.2.2.1.2.2.2.1).bind fun val=>some val else bif val.2.2.2.1.1 != 2 then some (((val.2.2.1.1,val_1.1,true,val.2.2.2.2.2.1.2.1,[val.2.2.2.2.2.1.2.1.2.2.2.2.2.2.1],val.2.2.2.2.2.2),()),()) else some (((val.2.2.1.1,val_1.1,true,val.2.2.2.2.2.1.2.1,[]++val.2.2.1.2.2.2.2.1++[val.2.2.2.2.2.1.2.1.2.2.2.2.2.2.1],val.2.2.2.2.2.2),()),()) else none else none else bif decide (nI val.2.2.2.2.2.2.1.length > 2000) then some ((val.2.2.1,()),()) else bif decide (nI (List.length val.2.2.1.2.2.2.2.1) > 200) then some ((val.2.2.1,()),()) else ((D8 val.2.2.1.2.1 val.2.2.2.2.2.1.2.2.1 val.1).bind fun val=>some (val,())).bind fun val_1=>bif val.2.1 then (Dh (val.2.2.1.1,val_1.1,val.2.2.1.2.2.1,val.2.2.1.2.2.2.1,val.2.2.1.2.2.2.2.1,val.2.2.2.2.2.2) val.2.2.2.1.2.2.2.1).bind fun val=>some val else bif val.2.2.2.1.1 != 2 then some (((val.2.2.1.1,val_1.1,true,val.2.2.2.2.2.1.2.1,[val.2.2.2.2.2.1.2.1.2.2.2.2.2.2.1],val.2.2.2.2.2.2),()),()) else some (((val.2.2.1.1,val_1.1,true,val.2.2.2.2.2.1.2.1,val.2.2.1.2.2.2.2.1,val.2.2.2.2.2.2),()),()) else none else bif decide ((0 + List.length a0.2.2.2.2.2.1) * 16≤140737488355328) then ((fun d=>Dp (Fi d.1 d.2.1 d.2.2.1 d.2.2.2.1 d.2.2.2.2.1 d.2.2.2.2.2.1 d.2.2.2.2.2.2.1 d.2.2.2.2.2.2.2.1) d.1 d.2.1 d.2.2.1 d.2.2.2.1 d.2.2.2.2.1 d.2.2.2.2.2.1 d.2.2.2.2.2.2.1 d.2.2.2.2.2.2.2.1) (nI (List.length val.1.1.2.2.1),decide (a1.2.2.1≤nI (List.length val.1.1.2.2.1)),0,a0,a1,(0,([],[],()),false,(0,0,0,(0,0,0,0,()),0,0,([],()),()),[],[],()),val.1.1,[]++a0.2.2.2.2.2.1,())).bind fun val=>bif val.2.2.2.1.1==2 then bif decide ((0 + List.length val.2.2.1.2.2.2.2.1) * 24≤140737488355328) then bif decide ((([]++val.2.2.1.2.2.2.2.1).length + [val.2.2.2.2.2.1.2.1.2.2.2.2.2.2.1].length) * 24≤140737488355328) then bif decide (nI val.2.2.2.2.2.2.1.length > 2000) then some ((val.2.2.1,()),()) else bif decide (nI ([]++val.2.2.1.2.2.2.2.1++[val.2.2.2.2.2.1.2.1.2.2.2.2.2.2.1]).length > 200) then some ((val.2.2.1,()),()) else ((D8 val.2.2.1.2.1 val.2.2.2.2.2.1.2.2.1 val.1).bind fun val=>some (val,())).bind fun val_1=>bif val.2.1 then (Dh (val.2.2.1.1,val_1.1,val.2.2.1.2.2.1,val.2.2.1.2.2.2.1,[]++val.2.2.1.2.2.2.2.1++[val.2.2.2.2.2.1.2.1.2.2.2.2.2.2.1],val.2.2.2.2.2.2) val.2.2.2.1.2.2.2.1).bind fun val=>some val else bif val.2.2.2.1.1 != 2 then some (((val.2.2.1.1,val_1.1,true,val.2.2.2.2.2.1.2.1,[val.2.2.2.2.2.1.2.1.2.2.2.2.2.2.1],val.2.2.2.2.2.2),()),()) else some (((val.2.2.1.1,val_1.1,true,val.2.2.2.2.2.1.2.1,[]++val.2.2.1.2.2.2.2.1++[val.2.2.2.2.2.1.2.1.2.2.2.2.2.2.1],val.2.2.2.2.2.2),()),()) else none else none else bif decide (nI val.2.2.2.2.2.2.1.length > 2000) then some ((val.2.2.1,()),()) else bif decide (nI (List.length val.2.2.1.2.2.2.2.1) > 200) then some ((val.2.2.1,()),()) else ((D8 val.2.2.1.2.1 val.2.2.2.2.2.1.2.2.1 val.1).bind fun val=>some (val,())).bind fun val_1=>bif val.2.1 then (Dh (val.2.2.1.1,val_1.1,val.2.2.1.2.2.1,val.2.2.1.2.2.2.1,val.2.2.1.2.2.2.2.1,val.2.2.2.2.2.2) val.2.2.2.1.2.2.2.1).bind fun val=>some val else bif val.2.2.2.1.1 != 2 then some (((val.2.2.1.1,val_1.1,true,val.2.2.2.2.2.1.2.1,[val.2.2.2.2.2.1.2.1.2.2.2.2.2.2.1],val.2.2.2.2.2.2),()),()) else some (((val.2.2.1.1,val_1.1,true,val.2.2.2.2.2.1.2.1,val.2.2.1.2.2.2.2.1,val.2.2.2.2.2.2),()),()) else none else bif decide ((0 + List.length a0.2.2.2.2.2.1) * 16≤140737488355328) then ((fun d=>Dp (Fi d.1 d.2.1 d.2.2.1 d.2.2.2.1 d.2.2.2.2.1 d.2.2.2.2.2.1 d.2.2.2.2.2.2.1 d.2.2.2.2.2.2.2.1) d.1 d.2.1 d.2.2.1 d.2.2.2.1 d.2.2.2.2.1 d.2.2.2.2.2.1 d.2.2.2.2.2.2.1 d.2.2.2.2.2.2.2.1) (nI (List.length val.1.1.2.2.1),false,0,a0,a1,(0,([],[],()),false,(0,0,0,(0,0,0,0,()),0,0,([],()),()),[],[],()),val.1.1,[]++a0.2.2.2.2.2.1,())).bind fun val=>bif val.2.2.2.1.1==2 then bif decide ((0 + List.length val.2.2.1.2.2.2.2.1) * 24≤140737488355328) then bif decide ((([]++val.2.2.1.2.2.2.2.1).length + [val.2.2.2.2.2.1.2.1.2.2.2.2.2.2.1].length) * 24≤140737488355328) then bif decide (nI val.2.2.2.2.2.2.1.length > 2000) then some ((val.2.2.1,()),()) else bif decide (nI ([]++val.2.2.1.2.2.2.2.1++[val.2.2.2.2.2.1.2.1.2.2.2.2.2.2.1]).length > 200) then some ((val.2.2.1,()),()) else ((D8 val.2.2.1.2.1 val.2.2.2.2.2.1.2.2.1 val.1).bind fun val=>some (val,())).bind fun val_1=>bif val.2.1 then (Dh (val.2.2.1.1,val_1.1,val.2.2.1.2.2.1,val.2.2.1.2.2.2.1,[]++val.2.2.1.2.2.2.2.1++[val.2.2.2.2.2.1.2.1.2.2.2.2.2.2.1],val.2.2.2.2.2.2) val.2.2.2.1.2.2.2.1).bind fun val=>some val else bif val.2.2.2.1.1 != 2 then some (((val.2.2.1.1,val_1.1,true,val.2.2.2.2.2.1.2.1,[val.2.2.2.2.2.1.2.1.2.2.2.2.2.2.1],val.2.2.2.2.2.2),()),()) else some (((val.2.2.1.1,val_1.1,true,val.2.2.2.2.2.1.2.1,[]++val.2.2.1.2.2.2.2.1++[val.2.2.2.2.2.1.2.1.2.2.2.2.2.2.1],val.2.2.2.2.2.2),()),()) else none else none else bif decide (nI val.2.2.2.2.2.2.1.length > 2000) then some ((val.2.2.1,()),()) else bif decide (nI (List.length val.2.2.1.2.2.2.2.1) > 200) then some ((val.2.2.1,()),()) else ((D8 val.2.2.1.2.1 val.2.2.2.2.2.1.2.2.1 val.1).bind fun val=>some (val,())).bind fun val_1=>bif val.2.1 then (Dh (val.2.2.1.1,val_1.1,val.2.2.1.2.2.1,val.2.2.1.2.2.2.1,val.2.2.1.2.2.2.2.1,val.2.2.2.2.2.2) val.2.2.2.1.2.2.2.1).bind fun val=>some val else bif val.2.2.2.1.1 != 2 then some (((val.2.2.1.1,val_1.1,true,val.2.2.2.2.2.1.2.1,[val.2.2.2.2.2.1.2.1.2.2.2.2.2.2.1],val.2.2.2.2.2.2),()),()) else some (((val.2.2.1.1,val_1.1,true,val.2.2.2.2.2.1.2.1,val.2.2.1.2.2.2.2.1,val.2.2.2.2.2.2),()),()) else none
theorem Aie:∃ f,f=@Su:=⟨_,rfl⟩
def Ke:=Classical.choose Aie
theorem Aif:@Ke=@Su:=Classical.choose_spec Aie
def Z5:SD:=⟨Awg,fun x=>Ke x.1 x.2.1⟩
theorem Awh (v8:Bool) (b0:Da) (b1:m9) (b2:Da) (b3:Ta):∀ (k m i:Nat) (n:Int) (r:List Ab),(i:Int) + k=n→k < m→n≤(b3.2.2.1.length:Int)→b3.2.2.1.length≤1073741824→r.length + k≤4000000000→
  ∃ r':List Ab,Dp m n v8 i b0 b1 b2 b3 r=some (n,v8,b0,b1,b2,b3,r',())∧r'.length≤r.length + k∧r'=r++Aew ((b3.2.2.1.drop i).take k)
 | 0,m + 1,i,n,r,hi,_,_,_,_=>by
  refine ⟨r,?_,by omega,by simp [Aew]⟩
  simp only [Dp,K4]
  rw [Bi (show ¬ (i:Int) < n by omega)]
  rfl
 | k + 1,m + 1,i,n,r,hi,hm,hn,hl,hr=>by
  have e1:IntKind.i64.wrap ((i:Int) + 1)=((i + 1:Nat):Int):=wI (by omega)
  have d1:decide ((i:Int) < n)=true:=Ag (by omega)
  have d2:decide ((i:Int) < nI b3.2.2.1.length)=true:=Ag (by simp only [nI]; omega)
  simp only [Dp,K4,d1,d2,Nd,e1,cond_true,Et]
  have d3:decide ((r.length + 1) * 16≤140737488355328)=true:=Ag (by omega)
  rw [d3]
  cases hc:(b3.2.2.1.getD (Int.toNat (i:Int)) (false,0,Af,())).1 with
  | true=>
   obtain ⟨r',q1,q2,q3⟩:=Awh v8 b0 b1 b2 b3 k m (i + 1) n r (by omega) (by omega) hn hl (by omega)
   have hc':(b3.2.2.1.getD i zOp).1=true:=hc
   exact ⟨r',q1,by omega,by rw [q3,A15 k (by omega),hc']; rfl⟩
  | false=>
   obtain ⟨r',q1,q2,q3⟩:=Awh v8 b0 b1 b2 b3 k m (i + 1) n (r++[(b3.2.2.1.getD (Int.toNat (i:Int)) (false,0,Af,())).2.2.1]) (by omega) (by omega) hn hl (by rw [Ey,Et]; omega)
   rw [Ey,Et] at q2
   have hc':(b3.2.2.1.getD i zOp).1=false:=hc
   exact ⟨r',q1,by omega,by rw [q3,A15 k (by omega),hc',List.append_assoc]; rfl⟩
theorem A0r {v8:Bool} {b0:Da} {b1:m9} {b2:Da} {b3:Ta} {n:Int} {r:List Ab} (h0:0≤n) (hn:n≤(b3.2.2.1.length:Int)) (hl:b3.2.2.1.length≤1073741824) (hr:r.length≤2000000000):
  Ao (Dp (Fi n v8 0 b0 b1 b2 b3 r) n v8 0 b0 b1 b2 b3 r) fun q=>∃ r':List Ab,q=(n,v8,b0,b1,b2,b3,r',())∧r'=r++Aew (b3.2.2.1.take n.toNat):=by
 obtain ⟨k,rfl⟩:∃ k:Nat,n=(k:Int):=⟨n.toNat,by omega⟩
 obtain ⟨r',q1,_,q3⟩:=Awh v8 b0 b1 b2 b3 k (Fi k v8 0 b0 b1 b2 b3 r) 0 k r (by omega) (by simp only [Fi]; omega) hn hl (by omega)
 exact ⟨_,q1,r',rfl,q3⟩
theorem A2i {w:Da} (h:WOk w) (e:m9):Ao (Ke w e) fun q=>q.1.1=doS w e:=by
 rw [Aif]
 unfold Su
 refine Ao.cond (fun c0=>Ao.bind (Aa2 w _) fun q hq=>Ao.some ?_) fun c0=>?_
 ·rw [hq]; unfold doS; rw [c0]; rfl
 refine Ao.bind (A7z h e) fun q hx=>?_
 obtain ⟨⟨x,asked,⟨⟩⟩,⟨⟩⟩:=q
 dsimp only at hx ⊢
 have hx1:x=(R2 w e).1:=congrArg (fun z=>z.1) hx
 have hx2:asked=(R2 w e).2:=congrArg (fun z=>z.2.1) hx
 have hX:XOk x:=by rw [hx1]; exact XOk.calls h e
 have hS:doS w e=bif !asked || x.1 != 0 then w else Vt w e x:=by unfold doS; rw [c0,hx1,hx2]; rfl
 rw [hS]
 refine Ao.cond (fun c1=>Ao.some ?_) fun c1=>Ao.cond (fun c2=>Ao.some ?_) fun c2=>?_
 ·rw [c1]; rfl
 ·rw [c1,c2]; rfl
 rw [show (bif !asked || x.1 != 0 then w else Vt w e x)=Vt w e x by rw [c1,c2]; rfl]
 have ho:=hX.ops
 have hl:=h.l
 have hp:=h.n
 have hd:=Kh h.v
 have hperf:∀ n:Int,Ao (((D8 (w.2.1.1,w.2.1.2.1,()) x.2.2.1 n).bind fun val=>some (val,()))) fun q=>q=(Cz w.2.1 x.2.2.1 n,()):=fun n=>Ao.bind ⟨_,if_pos (by omega),rfl⟩ fun a ha=>Ao.some (by rw [ha])
 have fin:∀ (v8:Bool) (m:Int),Amb e x=v8→Ajo e x=m→∀ (pst:List Kb) (wr:List Ab),wr=Pm w e x→pst=Ic w e x→Adf w e x=false→∀ (y:Option (((Da×Unit)×Unit))),
   (v8=true→Ao y fun q=>q.1.1=(w.1,Jp (Cz w.2.1 x.2.2.1 m) e.2.2.2.1,false,zSt,pst,wr,()))→(v8=false→Ao y fun q=>q.1.1=(w.1,Cz w.2.1 x.2.2.1 m,true,x.2.1,(bif e.1==2 then pst else [x.2.1.2.2.2.2.2.2.1]),wr,()))→Ao y fun q=>q.1.1=Vt w e x:=fun v8 m h1 h2 pst wr h3 h4 h5 y k1 k2=>by
  cases v8 with
  | true=>rw [A3t h5 h1,h2,← h3,← h4]; exact k1 rfl
  | false=>rw [A58 h5 h1,h2,← h3,← h4]; exact k2 rfl
 have full1:decide ((Pm w e x).length > 2000)=true→Vt w e x=w:=fun g=>Ap7 (Avs g rfl)
 have full2:∀ {a},decide ((Pm w e x).length > 2000)=a→decide ((Ic w e x).length > 200)=true→Vt w e x=w:=fun g1 g2=>Ap7 (by rw [Avs g1 g2,Bool.or_true])
 have full3:decide ((Pm w e x).length > 2000)=false→decide ((Ic w e x).length > 200)=false→Adf w e x=false:=fun g1 g2=>by rw [Avs g1 g2]; rfl
 have n2:∀ {α:Type} (l:List α),decide (nI l.length > 2000)=decide (l.length > 2000):=fun l=>by
  by_cases q:l.length > 2000
  ·rw [Ag q]; exact Ag (by simp only [nI]; omega)
  ·rw [Bi q]; exact Bi (by simp only [nI]; omega)
 have n1:∀ {α:Type} (l:List α),decide (nI l.length > 200)=decide (l.length > 200):=fun l=>by
  by_cases q:l.length > 200
  ·rw [Ag q]; exact Ag (by simp only [nI]; omega)
  ·rw [Bi q]; exact Bi (by simp only [nI]; omega)
 refine Ao.cond (fun c3=>Ao.cond (fun c4=>?_) fun c4=>?_) fun c3=>?_
 ·have c3':=Fw c3
  have c4':=Fw c4
  have hcb:Amb e x=decide (e.2.2.1≤nI x.2.2.1.length):=by unfold Amb; rw [Ag (show 0≤e.2.2.1 from c3'),Bool.true_and]
  have hcn:Ajo e x=e.2.2.1:=by unfold Ajo; rw [hcb,c4]; rfl
  refine Ao.go (Ag (by omega)) ?_
  refine Ao.bind (A0r c3' c4' ho (by rw [List.nil_append]; omega)) fun q hq=>?_
  obtain ⟨r',rfl,hr⟩:=hq
  dsimp only
  have hw:r'=Pm w e x:=by rw [hr]; unfold Pm; rw [hcn,List.nil_append]
  refine Ao.cond (fun k=>Ao.go (Ag (by omega)) (Ao.go (Ag (by rw [List.nil_append,Et]; omega)) ?_)) fun k=>?_
  ·have hpast:[]++w.2.2.2.2.1++[(x.2.1.2.2.2.2.2.2.1.1,())]=Ic w e x:=by unfold Ic; rw [k]; rfl
   rw [hpast,n2 r',n1 (Ic w e x),hw]
   refine Ao.cond (fun d1=>Ao.some (full1 d1).symm) fun d1=>Ao.cond (fun d2=>Ao.some (full2 d1 d2).symm) fun d2=>?_
   refine Ao.bind (hperf _) fun q hq=>fin _ _ hcb hcn _ _ rfl rfl (full3 d1 d2) _ (fun g=>?_) fun g=>?_
   ·rw [g,hq]
    exact Ao.bind (Aa2 _ _) fun q hq=>Ao.some (by rw [hq]; rfl)
   ·rw [g,hq]
    refine Ao.no rfl (Ao.cond (fun z=>?_) fun _=>Ao.some (by rw [k]; rfl))
    rw [beq_iff_eq.1 k] at z; cases z
  ·have hpast:w.2.2.2.2.1=Ic w e x:=by unfold Ic; rw [k]; rfl
   rw [n2 r',n1 w.2.2.2.2.1,hw,hpast]
   refine Ao.cond (fun d1=>Ao.some (full1 d1).symm) fun d1=>Ao.cond (fun d2=>Ao.some (full2 d1 d2).symm) fun d2=>?_
   refine Ao.bind (hperf _) fun q hq=>fin _ _ hcb hcn _ _ rfl rfl (full3 d1 d2) _ (fun g=>?_) fun g=>?_
   ·rw [g,hq]
    exact Ao.bind (Aa2 _ _) fun q hq=>Ao.some (by rw [hq]; rfl)
   ·rw [g,hq]
    refine Ao.no rfl (Ao.cond (fun z=>Ao.some (by rw [k]; rfl)) fun z=>?_)
    have:(e.1 != 2)=true:=by rw [bne,k]; rfl
    rw [this] at z; cases z
 ·have c3':=Fw c3
  have hcb:Amb e x=decide (e.2.2.1≤nI x.2.2.1.length):=by unfold Amb; rw [Ag (show 0≤e.2.2.1 from c3'),Bool.true_and]
  have hcn:Ajo e x=nI x.2.2.1.length:=by unfold Ajo; rw [hcb,c4]; rfl
  refine Ao.go (Ag (by omega)) ?_
  refine Ao.bind (A0r (by simp only [nI]; omega) (Int.le_refl _) ho (by rw [List.nil_append]; omega)) fun q hq=>?_
  obtain ⟨r',rfl,hr⟩:=hq
  dsimp only
  have hw:r'=Pm w e x:=by rw [hr]; unfold Pm; rw [hcn,List.nil_append]
  refine Ao.cond (fun k=>Ao.go (Ag (by omega)) (Ao.go (Ag (by rw [List.nil_append,Et]; omega)) ?_)) fun k=>?_
  ·have hpast:[]++w.2.2.2.2.1++[(x.2.1.2.2.2.2.2.2.1.1,())]=Ic w e x:=by unfold Ic; rw [k]; rfl
   rw [hpast,n2 r',n1 (Ic w e x),hw]
   refine Ao.cond (fun d1=>Ao.some (full1 d1).symm) fun d1=>Ao.cond (fun d2=>Ao.some (full2 d1 d2).symm) fun d2=>?_
   refine Ao.bind (hperf _) fun q hq=>fin _ _ hcb hcn _ _ rfl rfl (full3 d1 d2) _ (fun g=>?_) fun g=>?_
   ·rw [g,hq]
    exact Ao.bind (Aa2 _ _) fun q hq=>Ao.some (by rw [hq]; rfl)
   ·rw [g,hq]
    refine Ao.no rfl (Ao.cond (fun z=>?_) fun _=>Ao.some (by rw [k]; rfl))
    rw [beq_iff_eq.1 k] at z; cases z
  ·have hpast:w.2.2.2.2.1=Ic w e x:=by unfold Ic; rw [k]; rfl
   rw [n2 r',n1 w.2.2.2.2.1,hw,hpast]
   refine Ao.cond (fun d1=>Ao.some (full1 d1).symm) fun d1=>Ao.cond (fun d2=>Ao.some (full2 d1 d2).symm) fun d2=>?_
   refine Ao.bind (hperf _) fun q hq=>fin _ _ hcb hcn _ _ rfl rfl (full3 d1 d2) _ (fun g=>?_) fun g=>?_
   ·rw [g,hq]
    exact Ao.bind (Aa2 _ _) fun q hq=>Ao.some (by rw [hq]; rfl)
   ·rw [g,hq]
    refine Ao.no rfl (Ao.cond (fun z=>Ao.some (by rw [k]; rfl)) fun z=>?_)
    have:(e.1 != 2)=true:=by rw [bne,k]; rfl
    rw [this] at z; cases z
 ·have c3':=of_decide_eq_false c3
  have hcb:Amb e x=false:=by unfold Amb; rw [Bi (show ¬ 0≤e.2.2.1 from c3')]; rfl
  have hcn:Ajo e x=nI x.2.2.1.length:=by unfold Ajo; rw [hcb]; rfl
  refine Ao.go (Ag (by omega)) ?_
  refine Ao.bind (A0r (by simp only [nI]; omega) (Int.le_refl _) ho (by rw [List.nil_append]; omega)) fun q hq=>?_
  obtain ⟨r',rfl,hr⟩:=hq
  dsimp only
  have hw:r'=Pm w e x:=by rw [hr]; unfold Pm; rw [hcn,List.nil_append]
  refine Ao.cond (fun k=>Ao.go (Ag (by omega)) (Ao.go (Ag (by rw [List.nil_append,Et]; omega)) ?_)) fun k=>?_
  ·have hpast:[]++w.2.2.2.2.1++[(x.2.1.2.2.2.2.2.2.1.1,())]=Ic w e x:=by unfold Ic; rw [k]; rfl
   rw [hpast,n2 r',n1 (Ic w e x),hw]
   refine Ao.cond (fun d1=>Ao.some (full1 d1).symm) fun d1=>Ao.cond (fun d2=>Ao.some (full2 d1 d2).symm) fun d2=>?_
   refine Ao.bind (hperf _) fun q hq=>fin _ _ hcb hcn _ _ rfl rfl (full3 d1 d2) _ (fun g=>?_) fun g=>?_
   ·cases g
   ·rw [hq]
    refine Ao.no rfl (Ao.cond (fun z=>?_) fun _=>Ao.some (by rw [k]; rfl))
    rw [beq_iff_eq.1 k] at z; cases z
  ·have hpast:w.2.2.2.2.1=Ic w e x:=by unfold Ic; rw [k]; rfl
   rw [n2 r',n1 w.2.2.2.2.1,hw,hpast]
   refine Ao.cond (fun d1=>Ao.some (full1 d1).symm) fun d1=>Ao.cond (fun d2=>Ao.some (full2 d1 d2).symm) fun d2=>?_
   refine Ao.bind (hperf _) fun q hq=>fin _ _ hcb hcn _ _ rfl rfl (full3 d1 d2) _ (fun g=>?_) fun g=>?_
   ·cases g
   ·rw [hq]
    refine Ao.no rfl (Ao.cond (fun z=>Ao.some (by rw [k]; rfl)) fun z=>?_)
    have:(e.1 != 2)=true:=by rw [bne,k]; rfl
    rw [this] at z; cases z
def i6 {R:Type} (k:Kt R):=(N3 (Mg 13) (.exit 0) 2 k)
def Alz {R:Type}:Lt R Mg:=(G3 (pat:=Mg) 13 (fun d k=>(Amx d).bind (i6 k)) Jo)
theorem Aig:A4 Try.prog Aid:=A9 ⟨Ami,Amk,Ari,trivial⟩
theorem Amy {R:Type}:Bg Try.prog R 124 0 Mg Alz i5:=
 C8 (cfg:=⟨Aid,0,124,Mg⟩) 13 [] (fun NX X (d:(Int)×(Bool)×(Int)×Da×m9×Da×Ta×(List Ab)×Unit)=>(u4 (u4 Aj)) (K4  NX X) d) (fun m d=>(u4 (u4 Aj)) (Dp m) d) (fun d=>(u4 (u4 Aj)) Fi d) i6 Aig trivial (fun f NX (d:(Int)×(Bool)×(Int)×Da×m9×Da×Ta×(List Ab)×Unit)=>by simp only [u4,Ad,Aj]; unfold K4; simp only [nb])
theorem Aih:Cg Try.prog 81 Z5:=
 Ba (pat:=Mg) [i5] Alz Aig ⟨Amy,trivial⟩ Try.func81 (de:=fun x=>Su x.1 x.2.1) (fun x r h=>by have q:Ke x.1 x.2.1=some r:=h; rw [Aif] at q; exact q) fun _=>by kernel_rfl
def Dl:Ab:=zS
def Amz:H6:=⟨[],[],[.rd .str],[none]⟩
def Ru:SD:=⟨Amz,fun x=>some (((Dl),()),(()))⟩
def i7  : Option ((((Ab)×Unit)×(Unit))):=
 some ((strOfNums (List.replicate (Int.toNat 64) 0),()),())
theorem Am0  : i7  = some ((Dl,()),(())):=rfl
theorem i8:Cg Try.prog 43 Ru:=
 Ba (pat:=Eo) [] Jo (A9 (l:=[]) trivial) trivial Try.func43 (de:=fun x=>i7 ) (fun x r h=>(Am0 ).trans h) fun _=>by kernel_rfl
def E6 (n:Int):Dk:=Kg n
def Am1:H6:=⟨[.rd tI],[none],[.own 9 .str,.own 82 Db],[some 2]⟩
def i9:SD:=⟨Am1,fun x=>some (((E6 x.1).1,(E6 x.1).2.1,()),(()))⟩
def j4:Tb:=tb [(43,Ru)]
def Im:Nat→Dv×(Nat→Dv):=Jc [(6,⟨[.boxRow 2 0 9 .str,.boxRow 2 1 82 Db,.boxRow 3 0 9 .str,.boxRow 3 1 82 Db],[(0,.lf (.d tI)),(2,.lf (.ptr 0 0)),(3,.lf (.ptr 1 0)),(4,.lf (.d tI))],[.box 41 [.row 2,.row 3],.box 41 [.row 4,.row 5],.row 9 .str,.row 82 Db,.row 9 .str,.row 82 Db]⟩,[(2,⟨[.boxRow 2 0 9 .str,.boxRow 2 1 82 Db,.boxRow 3 0 9 .str,.boxRow 3 1 82 Db],[(2,.lf (.ptr 0 0)),(3,.lf (.ptr 1 0))],[.box 41 [.row 2,.row 3],.box 41 [.row 4,.row 5],.row 9 .str,.row 82 Db,.row 9 .str,.row 82 Db]⟩)])]
def Wk:Code:=(Ax (Bs Try.f105)).getD 0 .skip
def E7 (v0 v4:Int) (r2:List Ab) (r3:List Wr) (r4:List Ab) (r5:List Wr):Nat:=(v0 - v4).toNat + 1
def I6 {R:Type}  (NX:((Int)×(Int)×(List Ab)×(List Wr)×(List Ab)×(List Wr)×Unit)→Option R) (X2:((List Ab)×(List Wr)×(List Ab)×(List Wr)×Unit)→Option R) (v0:Int) (v4:Int) (r2:List Ab) (r3:List Wr) (r4:List Ab) (r5:List Wr):Option R:=
 bif decide (v4 < v0) then bif decide ((r4.length + [Dl].length) * 16≤140737488355328) then NX (v0,IntKind.i64.wrap (v4 + 1),r2,r3,r4++[Dl],r5,()) else none else X2 (r2,r3,r4,r5,())
def Cb:Nat→(Int)→(Int)→(List Ab)→(List Wr)→(List Ab)→(List Wr) →  Option ((List Ab)×(List Wr)×(List Ab)×(List Wr)×Unit)
 | 0,_,_,_,_,_,_=>none
 | m + 1,v0,v4,r2,r3,r4,r5=>I6  (fun d=>Cb m d.1 d.2.1 d.2.2.1 d.2.2.2.1 d.2.2.2.2.1 d.2.2.2.2.2.1) (fun d=>some (d)) v0 v4 r2 r3 r4 r5
def Aii (d:(Int)×(Int)×(List Ab)×(List Wr)×(List Ab)×(List Wr)×Unit):Option ((List Ab)×(List Wr)×(List Ab)×(List Wr)×Unit):=(u4 (Ad (Ad Aj))) (Cb ((u4 (Ad (Ad Aj))) E7 d)) d
def Rv (a0:Int):Option ((Dk×(Unit))):=
 bif decide (a0 < 8) then some (([],[],()),()) else bif decide (a0 > 200) then some (([],[],()),()) else ((fun d=>Cb (E7 d.1 d.2.1 d.2.2.1 d.2.2.2.1 d.2.2.2.2.1 d.2.2.2.2.2.1) d.1 d.2.1 d.2.2.1 d.2.2.2.1 d.2.2.2.2.1 d.2.2.2.2.2.1) (a0,0,[],[],[],[],())).bind fun val=>some (val.2.2,())
theorem Am2 (a0:Int):Rv a0=some (((E6 a0).1,(E6 a0).2.1,()),(())):=by
 unfold Rv E6 Kg Cj
 by_cases k1:8≤a0
 ·have n1:¬ a0 < 8:=by omega
  rw [Ag k1,Bi n1]
  by_cases k2:a0≤200
  ·have n2:¬ a0 > 200:=by omega
   rw [Ag k2,Bi n2]
   obtain ⟨n,rfl⟩:∃ n:Nat,a0=(n:Int):=⟨a0.toNat,by omega⟩
   have hL:=Apn (n:=n) (fun _=>zS) (g:=fun m i r=>Cb m n i [] [] r []) (ok:=fun r=>([],[],r,[],())) (fun m i r hi hr=>by
    show Cb (m + 1) n i [] [] r []=_
    simp only [Cb,I6]
    have c1:(i:Int) < (n:Int):=by omega
    have c2:(List.length r + List.length [Dl]) * 16≤140737488355328:=by simp; omega
    rw [Ag c1,wI (show i < 4611686018427387904 by omega),Ag c2]
    rfl) (fun m r=>by
    show Cb (m + 1) n n [] [] r []=_
    simp only [Cb,I6]
    have c1:¬ (n:Int) < (n:Int):=by omega
    rw [Bi c1]
    rfl) (E7 n 0 [] [] [] []) 0 [] (by omega) (by simp [E7]) rfl
   have hL':Cb (E7 n 0 [] [] [] []) n 0 [] [] [] []=_:=hL
   show (Cb (E7 n 0 [] [] [] []) n 0 [] [] [] []).bind _=_
   rw [hL',x8,Nat.sub_zero]
   rfl
  ·have n2:a0 > 200:=by omega
   rw [Bi k2,Ag n2]
   rfl
 ·have n1:a0 < 8:=by omega
  rw [Bi k1,Ag n1]
  rfl
def Wl {R:Type} (k:Kt R):=(N3 (Im 6) (.exit 0) 2 k)
def Abt {R:Type}:Lt R Im:=(G3 (pat:=Im) 6 (fun d k=>(Aii d).bind (Wl k)) Jo)
theorem j5:A4 Try.prog j4:=A9 ⟨i8,trivial⟩
theorem Aij {R:Type}:Bg Try.prog R 25 0 Im Abt Wk:=
 C8 (cfg:=⟨j4,0,25,Im⟩) 6 [] (fun NX X d=>(u4 (Ad (Ad Aj))) (I6  NX X) d) (fun m d=>(u4 (Ad (Ad Aj))) (Cb m) d) (fun d=>(u4 (Ad (Ad Aj))) E7 d) Wl j5 trivial (fun f NX d=>by simp only [u4,Ad,Aj]; unfold I6; simp only [nb])
theorem Am3:Cg Try.prog 105 i9:=
 Ba (pat:=Im) [Wk] Abt j5 ⟨Aij,trivial⟩ Try.func105 (de:=fun x=>Rv x.1) (fun x r h=>(Am2 x.1).trans h) fun _=>by kernel_rfl
def Akq:H6:=⟨[.rd tI,.rd tI],[none,none],[.rd Nc],[some 16]⟩
def J8 (a0 a1:Int):Option (((Da×Unit)×(Unit))):=
 bif nI (E6 a0).1.length==0 then some (((0,([],[],()),false,(0,0,0,(0,0,0,0,()),0,0,([],()),()),[],[],()),()),()) else (B0 a1).bind fun val=>bif !val.1.1 then some (((0,([],[],()),false,(0,0,0,(0,0,0,0,()),0,0,([],()),()),[],[],()),()),()) else some (((a1,E6 a0,false,(0,0,0,(0,0,0,0,()),0,0,([],()),()),[([],())],[],()),()),())
def Qp:SD:=⟨Akq,fun x=>J8 x.1 x.2.1⟩
theorem Yz:Cg Try.prog 94 Qp:=
 Ba (pat:=Eo) [] Jo (A9 (l:=[(62,C0),(105,i9)]) ⟨Dn,Am3,trivial⟩) trivial Try.func94 (de:=fun x=>J8 x.1 x.2.1) (fun x r h=>h) fun _=>by kernel_rfl
def Adz:H6:=⟨[.rd tI],[none],[.rd .str],[none]⟩
def Mz (mR_spec_l8Dec:(Int)→Option (((Ab)×Unit)×(Unit))) (a0:Int):Option (((Ab)×Unit)×(Unit)):=
 bif decide (a0 < 10) then some ((strOfNums [IntKind.u8.wrap (IntKind.i64.wrap (48 + a0))],()),()) else (mR_spec_l8Dec (IntKind.i64.wrap (a0.tdiv 10))).bind fun val=>bif decide (ByteArray.size val.1.1 + (strOfNums [IntKind.u8.wrap (IntKind.i64.wrap (48 + a0.tmod 10))]).size≤9223372036854775807) then some ((val.1.1++strOfNums [IntKind.u8.wrap (IntKind.i64.wrap (48 + a0.tmod 10))],()),()) else none
def Jg:Nat→(Int)→Option (((Ab)×Unit)×(Unit))
 | 0,_=>none
 | k + 1,a0=>Mz (Jg k) a0
def Ad0 (a0:Int):Option (((Ab)×Unit)×(Unit)):=Jg 8 a0
def Abu (k:Nat):SD:=⟨Adz,fun x=>Jg k x.1⟩
theorem Ad1:∃ f,f=@Ad0:=⟨_,rfl⟩
def Pb:=Classical.choose Ad1
theorem Ad2:@Pb=@Ad0:=Classical.choose_spec Ad1
def Ad3:SD:=⟨Adz,fun x=>Pb x.1⟩
theorem A8s:∀ (k:Nat) (n:Int),k≤7→0≤n→n < 10 ^ (k + 1)→Ao (Jg (k + 1) n) fun q=>q.1.1.size≤k + 1
 | 0,n,_,h0,h1=>by
  simp only [Jg,Mz]
  exact Ao.go (Ag (by simpa using h1)) (Ao.some (by rw [Cp]; simp))
 | k + 1,n,hk,h0,h1=>by
  show Ao (Mz (Jg (k + 1)) n) _
  unfold Mz
  refine Ao.cond (fun _=>Ao.some (by rw [Cp]; simp)) fun c=>?_
  have c:=of_decide_eq_false c
  have hd:n.tdiv 10=n / 10:=Int.tdiv_eq_ediv_of_nonneg h0
  have hp:(10:Int) ^ (k + 1 + 1)=10 ^ (k + 1) * 10:=Int.pow_succ 10 (k + 1)
  have hb:(10:Int) ^ (k + 1 + 1)≤1000000000:=by
   have:k=0∨k=1∨k=2∨k=3∨k=4∨k=5∨k=6:=by omega
   rcases this with rfl | rfl | rfl | rfl | rfl | rfl | rfl<;>decide
  rw [hd,Al (n:=n / 10) (by omega) (by omega)]
  refine Ao.bind (A8s k (n / 10) (by omega) (by omega) (by omega)) fun q hq=>?_
  refine Ao.go (Ag ?_) (Ao.some ?_)
  ·rw [Cp,Et]; omega
  ·show (q.1.1++strOfNums _).size≤_
   rw [ByteArray.size_append,Cp,Et]; omega
theorem A9n {n:Int} (h0:0≤n) (h1:n < 100000000):Ao (Pb n) fun q=>q.1.1.size≤8:=by
 rw [Ad2]
 exact A8s 7 n (by decide) h0 (by rw [show (10:Int) ^ (7 + 1)=100000000 by decide]; exact h1)
theorem Xa:∀ k,Cg Try.prog 95 (Abu k)
 | 0=>⟨⟨_,Try.func95,by kernel_rfl,by kernel_rfl⟩,fun x r h=>by cases h⟩
 | k + 1=>Ba (pat:=Eo) [] Jo (A9 (l:=[(95,Abu k)]) ⟨Xa k,trivial⟩) trivial Try.func95 (de:=fun x=>Mz (Jg k) x.1) (fun x r h=>h) fun _=>by kernel_rfl
theorem Aso:Cg Try.prog 95 Ad3:=⟨(Xa 8).1,fun x r h=>(Xa 8).2 x r (by have q:Pb x.1=some r:=h; rw [Ad2] at q; exact q)⟩
def Ns (_:Int) (_:List Bq) (_:Ab) (v8:Int) (_:(List Int)×Int×Unit) (_ _:Da) (_:Ta):Nat:=(60 - v8).toNat + 1
def Le (v4:Int) (_:(List Int)×Int×Unit) (_ _:Da):Nat:=(60 - v4).toNat + 1
def Am4:H6:=⟨[.bx 116 (.pair (.sl (.int .u8)) (.pair tI .unit))],[none],[.rd Nc],[some 16]⟩
def Rw:Tb:=tb [(42,Br),(72,T4),(81,Z5),(84,Mf),(94,Qp),(95,Ad3),(96,Uh)]
def Cm:Nat→Dv×(Nat→Dv):=Jc [(4,⟨[.boxSl 2 1 .str,.boxSl 2 2 Db,.boxSl 2 13 B4,.boxSl 2 14 Li,.boxSl 2 15 .str,.boxSl 3 1 .str,.boxSl 3 2 Db,.boxSl 3 13 B4,.boxSl 3 14 Li,.boxSl 3 15 .str],[(0,.lf (.ptr 0 0)),(2,.lf (.ptr 1 0)),(3,.lf (.ptr 2 0)),(4,.lf (.d tI))],[.box 116 [.d (.pair (.sl (.int .u8)) (.pair tI .unit))],.box 98 [.d Nc],.box 98 [.d Nc]]⟩,[(2,⟨[.boxSl 2 1 .str,.boxSl 2 2 Db,.boxSl 2 13 B4,.boxSl 2 14 Li,.boxSl 2 15 .str,.boxSl 3 1 .str,.boxSl 3 2 Db,.boxSl 3 13 B4,.boxSl 3 14 Li,.boxSl 3 15 .str],[(2,.lf (.ptr 1 0)),(3,.lf (.ptr 2 0))],[.box 116 [.d (.pair (.sl (.int .u8)) (.pair tI .unit))],.box 98 [.d Nc],.box 98 [.d Nc]]⟩),(1,⟨[.boxSl 2 1 .str,.boxSl 2 2 Db,.boxSl 2 13 B4,.boxSl 2 14 Li,.boxSl 2 15 .str],[(2,.lf (.ptr 1 0))],[.box 116 [.d (.pair (.sl (.int .u8)) (.pair tI .unit))],.box 98 [.d Nc]]⟩)]),(12,⟨[.sl 5 0 Gs,.boxSl 2 1 .str,.boxSl 2 2 Db,.boxSl 2 13 B4,.boxSl 2 14 Li,.boxSl 2 15 .str,.boxSl 3 1 .str,.boxSl 3 2 Db,.boxSl 3 13 B4,.boxSl 3 14 Li,.boxSl 3 15 .str,.boxSl 6 10 B4,.boxSl 6 11 Is],[(0,.lf (.ptr 0 0)),(2,.lf (.ptr 1 0)),(3,.lf (.ptr 2 0)),(4,.lf (.d tI)),(5,.lf (.d (.sl Gs))),(6,.lf (.ptr 3 0)),(7,.lf (.d .str)),(8,.lf (.d tI))],[.box 116 [.d (.pair (.sl (.int .u8)) (.pair tI .unit))],.box 98 [.d Nc],.box 98 [.d Nc],.box 141 [.d A7g]]⟩,[(4,⟨[.boxSl 2 1 .str,.boxSl 2 2 Db,.boxSl 2 13 B4,.boxSl 2 14 Li,.boxSl 2 15 .str,.boxSl 3 1 .str,.boxSl 3 2 Db,.boxSl 3 13 B4,.boxSl 3 14 Li,.boxSl 3 15 .str],[(0,.lf (.ptr 0 0)),(2,.lf (.ptr 1 0)),(3,.lf (.ptr 2 0)),(4,.lf (.d tI))],[.box 116 [.d (.pair (.sl (.int .u8)) (.pair tI .unit))],.box 98 [.d Nc],.box 98 [.d Nc]]⟩),(1,⟨[.boxSl 2 1 .str,.boxSl 2 2 Db,.boxSl 2 13 B4,.boxSl 2 14 Li,.boxSl 2 15 .str],[(2,.lf (.ptr 1 0))],[.box 116 [.d (.pair (.sl (.int .u8)) (.pair tI .unit))],.box 98 [.d Nc]]⟩)])]
def Pc:Code:=(Ax (Bs Try.f79)).getD 0 .skip
def Ut:Code:=(Ax Pc).getD 0 .skip
def H2 {R:Type}  (NX:((Int)×(List Bq)×(Ab)×(Int)×((List Int)×Int×Unit)×Da×Da×Ta×Unit)→Option R) (X4:((Int)×((List Int)×Int×Unit)×Da×Da×Unit)→Option R) (X1:(((List Int)×Int×Unit)×Da×Unit)→Option R) (v4:Int) (v5:List Bq) (v7:Ab) (v8:Int) (b0:(List Int)×Int×Unit) (b1:Da) (b2:Da) (b3:Ta):Option R:=
 bif decide (v8 < 60) then bif decide (0 < nI (List.length b3.2.2.1)) then bif decide (0≤v8) then bif decide (v8≤nI (ByteArray.size (List.getD b3.2.2.1 (Int.toNat 0) (false,0,Af,())).2.2.1)) then bif decide (0≤v8) then bif decide (v8≤nI v7.size) then bif decide ((Ae (List.getD b3.2.2.1 (Int.toNat 0) (false,0,Af,())).2.2.1 0 v8).size + (Ae v7 v8 (nI v7.size)).size≤9223372036854775807) then bif (Ai (Ae (List.getD b3.2.2.1 (Int.toNat 0) (false,0,Af,())).2.2.1 0 v8++Ae v7 v8 (nI v7.size)) 1).2 then bif decide (0 < nI (List.length b3.2.2.1)) then bif !(Ae (List.getD b3.2.2.1 (Int.toNat 0) (false,0,Af,())).2.2.1 0 v8++Ae v7 v8 (nI v7.size)).toList==ByteArray.toList (List.getD b3.2.2.1 (Int.toNat 0) (false,0,Af,())).2.2.1 then (Ke b2 (2,v5,1,[v8],())).bind fun val=>X1 (b0,val.1) else NX (v4,v5,v7,IntKind.i64.wrap (v8 + 1),b0,b1,b2,b3,()) else none else NX (v4,v5,v7,IntKind.i64.wrap (v8 + 1),b0,b1,b2,b3,()) else none else none else none else none else none else none else X4 (v4,b0,b1,b2,())
def Ft:Nat→(Int)→(List Bq)→(Ab)→(Int)→((List Int)×Int×Unit)→Da→Da→Ta →  Option (((Int)×((List Int)×Int×Unit)×Da×Da×Unit) ⊕ (((List Int)×Int×Unit)×Da×Unit))
 | 0,_,_,_,_,_,_,_,_=>none
 | m + 1,v4,v5,v7,v8,b0,b1,b2,b3=>H2  (fun d=>Ft m d.1 d.2.1 d.2.2.1 d.2.2.2.1 d.2.2.2.2.1 d.2.2.2.2.2.1 d.2.2.2.2.2.2.1 d.2.2.2.2.2.2.2.1) (fun d=>some (.inl (d))) (fun d=>some (.inr (d))) v4 v5 v7 v8 b0 b1 b2 b3
def Nt (d:(Int)×(List Bq)×(Ab)×(Int)×((List Int)×Int×Unit)×Da×Da×Ta×Unit):Option (((Int)×((List Int)×Int×Unit)×Da×Da×Unit) ⊕ (((List Int)×Int×Unit)×Da×Unit)):=(u4 (u4 Aj)) (Ft ((u4 (u4 Aj)) Ns d)) d
def I7 {R:Type} (LO12:((Int)×(List Bq)×(Ab)×(Int)×((List Int)×Int×Unit)×Da×Da×Ta×Unit)→Option (((Int)×((List Int)×Int×Unit)×Da×Da×Unit) ⊕ (((List Int)×Int×Unit)×Da×Unit))) (NX:((Int)×((List Int)×Int×Unit)×Da×Da×Unit)→Option R) (X2:(((List Int)×Int×Unit)×Da×Da×Unit)→Option R) (X1:(((List Int)×Int×Unit)×Da×Unit)→Option R) (v4:Int) (b0:(List Int)×Int×Unit) (b1 b2:Da):Option R:=
 bif decide (v4 < 60) then (K7 (ByteArray.mk #[118,119]) 20).bind fun val=>((Aa b0 900).bind fun val=>some ((val.1,()),val.2,())).bind fun val_1=>(Pb (IntKind.i64.wrap (v4 + val_1.1.1))).bind fun val_2=>bif decide (ByteArray.size val.1.1 + ByteArray.size val_2.1.1≤9223372036854775807) then bif (At b2.2.2.2.1 [(ByteArray.mk #[107],val.1.1++val_2.1.1,false,())]).1 != 0 then X1 (val_1.2.1,b2,()) else bif decide (0 < nI (At b2.2.2.2.1 [(ByteArray.mk #[107],val.1.1++val_2.1.1,false,())]).2.2.1.length) then bif decide (0≤((At b2.2.2.2.1 [(ByteArray.mk #[107],val.1.1++val_2.1.1,false,())]).2.2.1.getD (Int.toNat 0) (false,0,Af,())).2.1) then bif decide (((At b2.2.2.2.1 [(ByteArray.mk #[107],val.1.1++val_2.1.1,false,())]).2.2.1.getD (Int.toNat 0) (false,0,Af,())).2.1 < nI (List.length b2.2.1.1)) then (LO12 (v4,[(ByteArray.mk #[107],val.1.1++val_2.1.1,false,())],List.getD b2.2.1.1 (Int.toNat ((At b2.2.2.2.1 [(ByteArray.mk #[107],val.1.1++val_2.1.1,false,())]).2.2.1.getD (Int.toNat 0) (false,0,Af,())).2.1) (Af),10,val_1.2.1,b1,b2,At b2.2.2.2.1 [(ByteArray.mk #[107],val.1.1++val_2.1.1,false,())],())).bind fun val=>Gu (fun d=>NX (IntKind.i64.wrap (d.1 + 1),d.2)) (fun d=>X1 d) val else none else none else none else none else X2 (b0,b1,b2,())
def D2:Nat→(Int)→((List Int)×Int×Unit)→Da→Da →  Option ((((List Int)×Int×Unit)×Da×Da×Unit) ⊕ (((List Int)×Int×Unit)×Da×Unit))
 | 0,_,_,_,_=>none
 | m + 1,v4,b0,b1,b2=>I7 Nt (fun d=>D2 m d.1 d.2.1 d.2.2.1 d.2.2.2.1) (fun d=>some (.inl (d))) (fun d=>some (.inr (d))) v4 b0 b1 b2
def Aik (d:(Int)×((List Int)×Int×Unit)×Da×Da×Unit):Option ((((List Int)×Int×Unit)×Da×Da×Unit) ⊕ (((List Int)×Int×Unit)×Da×Unit)):=(u4 Aj) (D2 ((u4 Aj) Le d)) d
def M4 (a0:(List Int)×Int×Unit):Option (((Da×Unit)×(((List Int)×Int×Unit)×Unit))):=
 (Ke (1,(List.replicate (Int.toNat 12) (strOfNums (List.replicate 64 0)),[],()),false,(0,0,0,(0,0,0,0,()),0,0,([],()),()),[([],())],[],()) (1,[],-1,[],())).bind fun val=>((fun d=>D2 (Le d.1 d.2.1 d.2.2.1 d.2.2.2.1) d.1 d.2.1 d.2.2.1 d.2.2.2.1) (0,a0,(0,([],[],()),false,(0,0,0,(0,0,0,0,()),0,0,([],()),()),[],[],()),val.1)).bind fun val=>Gu (fun d=>some (d.2.2,d.1,())) (fun d=>some (d.2,d.1,())) val
theorem j6:∃ f,f=@M4:=⟨_,rfl⟩
def Lz:=Classical.choose j6
theorem j7:@Lz=@M4:=Classical.choose_spec j6
def j8:SD:=⟨Am4,fun x=>Lz x.1⟩
theorem A8t (v4:Int) (v5:List Bq) (v7:Ab) (b0:Rd) (b1 b2:Da) (b3:Ta) {K:Nat} (h0:Pl K b0) (hw:WOk b2) (h7:v7.size=64) (hops:0 < b3.2.2.1.length) (hd:(b3.2.2.1.getD 0 zOp).2.2.1.size=64):∀ (k m:Nat) (v8:Int),v8 + k=60→k < m→0≤v8→
  Ao (Ft m v4 v5 v7 v8 b0 b1 b2 b3) fun q=>(∀ d,q=.inl d→d=(v4,b0,b1,b2,()))∧∀ d,q=.inr d→Pl K d.1∧WOk d.2.1
 | 0,m + 1,v8,hk,_,_=>by
  simp only [Ft,H2]
  exact Ao.no (Bi (by omega)) (Ao.some ⟨fun d q=>(by cases q; rfl),fun d q=>(by cases q)⟩)
 | k + 1,m + 1,v8,hk,hm,h8=>by
  have hd':(b3.2.2.1.getD (Int.toNat 0) (false,0,Af,())).2.2.1.size=64:=hd
  have e1:IntKind.i64.wrap (v8 + 1)=v8 + 1:=Al (by omega) (by omega)
  simp only [Ft,H2]
  refine Ao.go (Ag (by omega)) (Ao.go (Ag (by simp only [nI]; omega)) (Ao.go (Ag h8) (Ao.go (Ag (by rw [hd']; simp only [nI]; omega)) (Ao.go (Ag h8) (Ao.go (Ag (by rw [h7]; simp only [nI]; omega)) (Ao.go (Ag ?_) ?_))))))
  ·have a1:=A5p (b3.2.2.1.getD (Int.toNat 0) (false,0,Af,())).2.2.1 0 v8
   have a2:=A5p v7 v8 (nI v7.size)
   omega
  ·rw [e1]
   have rec_:=A8t v4 v5 v7 b0 b1 b2 b3 h0 hw h7 hops hd k m (v8 + 1) (by omega) (by omega) (by omega)
   refine Ao.cond (fun _=>Ao.go (Ag (by simp only [nI]; omega)) (Ao.cond (fun _=>?_) fun _=>rec_)) fun _=>rec_
   refine Ao.bind (A2i hw _) fun q hq=>Ao.some ⟨fun d q=>(by cases q),fun d z=>?_⟩
   cases z
   refine ⟨h0,?_⟩
   show WOk q.1.1
   rw [hq]
   exact hw.doI _
theorem A6h (b1 b2:Da) (hw:WOk b2):∀ (k m:Nat) (v4:Int) (b0:Rd) (K:Nat),v4 + k=60→k < m→0≤v4→Pl K b0→K + 10 * k < 1000000000000→
  Ao (D2 m v4 b0 b1 b2) fun q=>(∀ d,q=.inl d→d.2=(b1,b2,())∧Pl (K + 10 * k) d.1)∧∀ d,q=.inr d→Pl (K + 10 * k) d.1∧WOk d.2.1
 | 0,m + 1,v4,b0,K,hk,_,_,h0,_=>by
  simp only [D2,I7]
  exact Ao.no (Bi (by omega)) (Ao.some ⟨fun d q=>(by cases q; exact ⟨rfl,h0⟩),fun d q=>(by cases q)⟩)
 | k + 1,m + 1,v4,b0,K,hk,hm,h4,h0,hK=>by
  have e1:IntKind.i64.wrap (v4 + 1)=v4 + 1:=Al (by omega) (by omega)
  simp only [D2,I7]
  refine Ao.go (Ag (by omega)) ?_
  refine Ao.bind (A2g (ByteArray.mk #[118,119]) 20 (by decide) (by decide) (by decide)) fun q hq=>?_
  refine Av h0 (by omega) (by omega) fun u r1 u0 u1 h1=>?_
  dsimp only
  rw [Al (n:=v4 + u) (by omega) (by omega)]
  refine Ao.bind (A9n (n:=v4 + u) (by omega) (by omega)) fun q2 hq2=>?_
  refine Ao.go (Ag (by rw [hq]; show 2 * 20 + _≤_; omega)) ?_
  refine Ao.cond (fun _=>Ao.some ⟨fun d q=>(by cases q),fun d z=>(by cases z; exact ⟨h1.mono (by omega),hw⟩)⟩) fun c=>?_
  have hc:(Gg b2.2.2.2.1 [(ByteArray.mk #[107],q.1.1++q2.1.1,false,())]).1=0:=by
   have c:((Gg b2.2.2.2.1 [(ByteArray.mk #[107],q.1.1++q2.1.1,false,())]).1 != 0)=false:=c
   simpa using c
  obtain ⟨o1,o2,o3,o4⟩:=A3v hc
  have hf:=hw.f (Aex _ _ hc).1
  have hdk:=Kh hw.v
  have hlen:(b2.2.1.1.length:Int)=(b2.2.1.1.length:Int):=rfl
  refine Ao.go (Ag (by simp only [nI]; exact Int.ofNat_lt.2 o1)) (Ao.go (Ag o2) (Ao.go (Ag ?_) ?_))
  ·have o3':=o3
   rw [hf,hlen] at o3'
   exact o3'
  ·have hold:(b2.2.1.1.getD (Int.toNat ((Gg b2.2.2.2.1 [(ByteArray.mk #[107],q.1.1++q2.1.1,false,())]).2.2.1.getD 0 zOp).2.1) z0).size=64:=by
    refine hdk.sec _ ?_
    show _ < b2.2.1.1.length
    rw [hf,hlen] at o3
    omega
   refine Ao.bind (A8t v4 _ _ r1 b1 b2 _ h1 hw hold o1 o4 50 _ 10 (by omega) (by simp only [Ns]; omega) (by omega)) fun z hz=>?_
   cases z with
   | inl d=>
    have hd:=hz.1 d rfl
    subst hd
    show Ao (D2 m (IntKind.i64.wrap (v4 + 1)) r1 b1 b2) _
    rw [e1]
    refine (A6h b1 b2 hw k m (v4 + 1) r1 (K + 1) (by omega) (by omega) (by omega) h1 (by omega)).mono fun y hy=>⟨fun d q=>?_,fun d q=>?_⟩
    ·obtain ⟨y1,y2⟩:=hy.1 d q
     exact ⟨y1,y2.mono (by omega)⟩
    ·obtain ⟨y1,y2⟩:=hy.2 d q
     exact ⟨y1.mono (by omega),y2⟩
   | inr d=>
    obtain ⟨y1,y2⟩:=hz.2 d rfl
    exact Ao.some ⟨fun d q=>(by cases q),fun d q=>(by cases q; exact ⟨y1.mono (by omega),y2⟩)⟩
theorem A6i {K:Nat} {r:Rd} (h:Pl K r) (hK:K + 1000 < 1000000000000):Ao (Lz r) fun q=>WOk q.1.1∧Pl (K + 600) q.2.1:=by
 rw [j7]
 unfold M4
 have h0:WOk (A7u 12 1):=WOk.new (by decide) (by decide)
 have e0:A7u 12 1=(1,(List.replicate (Int.toNat 12) (strOfNums (List.replicate 64 0)),[],()),false,(0,0,0,(0,0,0,0,()),0,0,([],()),()),[([],())],[],()):=rfl
 rw [← e0]
 refine Ao.bind (A2i h0 _) fun q hq=>?_
 have hw:WOk q.1.1:=by rw [hq]; exact h0.doI _
 refine Ao.bind (A6h _ _ hw 60 _ 0 r K (by omega) (by simp only [Le]; omega) (by omega) h (by omega)) fun z hz=>?_
 cases z with
 | inl d=>
  obtain ⟨y1,y2⟩:=hz.1 d rfl
  obtain ⟨d0,d1⟩:=d
  have y1:d1=_:=y1
  subst y1
  exact Ao.some ⟨hw,y2⟩
 | inr d=>
  obtain ⟨y1,y2⟩:=hz.2 d rfl
  exact Ao.some ⟨y2,y1⟩
def Wm {R:Type} (k:Kt R):=(Gu (N3 (Cm 4) (.exit 0) 2 k) (N3 (Cm 4) .ret 1 k))
def Uu {R:Type} (k:Kt R):=(Gu (N3 (Cm 12) (.exit 2) 4 k) (N3 (Cm 12) .ret 1 k))
def Uv {R:Type}:Lt R Cm:=(G3 (pat:=Cm) 4 (fun d k=>(Aik d).bind (Wm k)) (G3 (pat:=Cm) 12 (fun d k=>(Nt d).bind (Uu k)) Jo))
theorem Rx:A4 Try.prog Rw:=A9 ⟨B5,Aaw,Aih,Qm,Yz,Aso,Abf,trivial⟩
theorem Afm {R:Type}:Bg Try.prog R 83 1 Cm Uv Ut:=
 C8 (cfg:=⟨Rw,1,83,Cm⟩) 12 [] (fun NX X d=>(u4 (u4 Aj)) (H2  NX (fun e=>X (.inl (e))) (fun e=>X (.inr (e)))) d) (fun m d=>(u4 (u4 Aj)) (Ft m) d) (fun d=>(u4 (u4 Aj)) Ns d) Uu Rx trivial (fun f NX d=>by simp only [u4,Ad,Aj]; unfold H2; simp only [nb])
theorem Ail {R:Type}:Bg Try.prog R 83 1 Cm Uv Pc:=
 C8 (cfg:=⟨Rw,1,83,Cm⟩) 4 [Ut] (fun NX X d=>(u4 Aj) (I7 Nt NX (fun e=>X (.inl (e))) (fun e=>X (.inr (e)))) d) (fun m d=>(u4 Aj) (D2 m) d) (fun d=>(u4 Aj) Le d) Wm Rx ⟨Afm,trivial⟩ (fun f NX d=>by simp only [u4,Ad,Aj]; unfold I7; simp only [nb])
theorem Am5:Cg Try.prog 79 j8:=
 Ba (pat:=Cm) [Pc] Uv Rx ⟨Ail,trivial⟩ Try.func79 (de:=fun x=>M4 x.1) (fun x r h=>by have q:Lz x.1=some r:=h; rw [j7] at q; exact q) fun _=>by kernel_rfl
def Am6:H6:=⟨[.bx 116 (.pair (.sl (.int .u8)) (.pair tI .unit))],[none],[.rd Nc],[some 16]⟩
def M5 (a0:(List Int)×Int×Unit):Option (((Da×Unit)×(((List Int)×Int×Unit)×Unit))):=
 ((Aa a0 7).bind fun val=>some ((val.1,()),val.2,())).bind fun val=>bif decide (0≤val.1.1) then bif decide (val.1.1 < nI [8,9,10,12,16,24,40].length) then (Fo val.2.1).bind fun val_1=>(J8 ([8,9,10,12,16,24,40].getD (Int.toNat val.1.1) 0) val_1.1.1).bind fun val=>some (val.1,val_1.2) else none else none
theorem j9:∃ f,f=@M5:=⟨_,rfl⟩
def L1:=Classical.choose j9
theorem k7:@L1=@M5:=Classical.choose_spec j9
def k8:SD:=⟨Am6,fun x=>L1 x.1⟩
theorem A9o {a w:Int} (h:Cj a 8 200=true) (hw:Cj w 1 8=true):J8 a w=some ((A7u a w,()),()):=by
 unfold J8
 have hl:(E6 a).1.length=a.toNat:=(A18 h).2
 obtain ⟨h1,h2⟩:=C5 h
 rw [show (nI (E6 a).1.length==0)=false from beq_eq_false_iff_ne.2 (by rw [hl]; simp only [nI]; omega),show B0 w=some ((Cj w 1 8,()),()) from wid w,hw]
 rfl
theorem A6j {K:Nat} {r:Rd} (h:Pl K r) (hK:K + 100 < 1000000000000):Ao (L1 r) fun q=>WOk q.1.1∧Pl (K + 20) q.2.1:=by
 rw [k7]
 unfold M5
 refine Av h (by omega) (by omega) fun v r1 v0 v1 h1=>?_
 dsimp only
 refine Ao.go (Ag v0) (Ao.go (Ag v1) ?_)
 have ha:=W3 (Q:=fun x:Int=>8≤x∧x≤40) (l:=[8,9,10,12,16,24,40]) (d:=0) (by decide) v0 v1
 generalize ([8,9,10,12,16,24,40]:List Int).getD v.toNat 0=a at *
 refine Ao.bind (Aye h1 (by omega)) fun q hq=>?_
 have i1:Cj a 8 200=true:=by unfold Cj; rw [Ag ha.1,Ag (show a≤200 by omega)]; rfl
 have i2:Cj a 8 40=true:=by unfold Cj; rw [Ag ha.1,Ag ha.2]; rfl
 have i3:Cj q.1.1 1 8=true:=by unfold Cj; rw [Ag hq.1.1,Ag hq.1.2]; rfl
 refine Ao.bind ⟨_,A9o i1 i3,rfl⟩ fun q2 hq2=>Ao.some ⟨?_,hq.2.mono (by omega)⟩
 rw [← hq2]
 exact WOk.new i2 i3
theorem Am7:Cg Try.prog 80 k8:=
 Ba (pat:=Eo) [] Jo (A9 (l:=[(42,Br),(52,Ml),(94,Qp)]) ⟨B5,R7,Yz,trivial⟩) trivial Try.func80 (de:=fun x=>M5 x.1) (fun x r h=>by have q:L1 x.1=some r:=h; rw [k7] at q; exact q) fun _=>by kernel_rfl
def H9 (v3:Ab) (v4:Int) (b0:(List Int)×Int×Unit):Nat:=v4.toNat + 1
def Afn:H6:=⟨[.bx 116 (.pair (.sl (.int .u8)) (.pair tI .unit))],[none],[.rd .str],[none]⟩
def Uw:Tb:=tb [(42,Br),(72,T4)]
def Fu:Nat→Dv×(Nat→Dv):=Jc [(13,⟨[],[(0,.lf (.ptr 0 0)),(3,.lf (.d .str)),(4,.lf (.d tI))],[.box 116 [.d (.pair (.sl (.int .u8)) (.pair tI .unit))]]⟩,[(3,⟨[],[(3,.lf (.d .str))],[.box 116 [.d (.pair (.sl (.int .u8)) (.pair tI .unit))]]⟩)])]
def Pn:Code:=(Ax (Bs Try.f73)).getD 0 .skip
def Ia {R:Type}  (NX:((Ab)×(Int)×((List Int)×Int×Unit)×Unit)→Option R) (X3:((Ab)×((List Int)×Int×Unit)×Unit)→Option R) (v3:Ab) (v4:Int) (b0:(List Int)×Int×Unit):Option R:=
 bif decide (v4 > 0) then ((Aa b0 4).bind fun val=>some ((val.1,()),val.2,())).bind fun val=>bif decide (0≤val.1.1) then bif decide (val.1.1≤nI (ByteArray.mk #[97,98,99,100]).size) then bif decide (1≤nI (Ae (ByteArray.mk #[97,98,99,100]) val.1.1 (nI (ByteArray.mk #[97,98,99,100]).size)).size) then bif decide (v3.size + (Ae (Ae (ByteArray.mk #[97,98,99,100]) val.1.1 (nI (ByteArray.mk #[97,98,99,100]).size)) 0 1).size≤9223372036854775807) then NX (v3++Ae (Ae (ByteArray.mk #[97,98,99,100]) val.1.1 (nI (ByteArray.mk #[97,98,99,100]).size)) 0 1,IntKind.i64.wrap (v4 - 1),val.2) else none else none else none else none else X3 (v3,b0,())
def D4:Nat→(Ab)→(Int)→((List Int)×Int×Unit) →  Option ((Ab)×((List Int)×Int×Unit)×Unit)
 | 0,_,_,_=>none
 | m + 1,v3,v4,b0=>Ia  (fun d=>D4 m d.1 d.2.1 d.2.2.1) (fun d=>some (d)) v3 v4 b0
def n5 (d:(Ab)×(Int)×((List Int)×Int×Unit)×Unit):Option ((Ab)×((List Int)×Int×Unit)×Unit):=(Ad (Ad (Ad Aj))) (D4 ((Ad (Ad (Ad Aj))) H9 d)) d
def Kq (a0:(List Int)×Int×Unit):Option ((((Ab)×Unit)×(((List Int)×Int×Unit)×Unit))):=
 ((Aa a0 8).bind fun val=>some ((val.1,()),val.2,())).bind fun val=>bif val.1.1==0 then some ((Af,()),val.2) else bif val.1.1==1 then some ((ByteArray.mk #[0,255],()),val.2) else bif val.1.1==2 then ((Aa val.2.1 21).bind fun val=>some ((val.1,()),val.2,())).bind fun val=>(K7 (ByteArray.mk #[108,111,110,103]) (IntKind.i64.wrap (5 + val.1.1))).bind fun val_1=>some (val_1.1,val.2) else bif val.1.1==3 then some ((ByteArray.mk #[45],()),val.2) else ((Aa val.2.1 4).bind fun val=>some ((val.1,()),val.2,())).bind fun val=>((fun d=>D4 (H9 d.1 d.2.1 d.2.2.1) d.1 d.2.1 d.2.2.1) (Af,IntKind.i64.wrap (1 + val.1.1),val.2)).bind fun val=>some ((val.1,()),val.2)
theorem Ux:∃ f,f=@Kq:=⟨_,rfl⟩
def E8:=Classical.choose Ux
theorem Uy:@E8=@Kq:=Classical.choose_spec Ux
def Uz:SD:=⟨Afn,fun x=>E8 x.1⟩
theorem Aui:∀ (m n:Nat) (k:Nat) (v3:Ab) (r:Rd),n < m→n≤10→v3.size + n≤100→Pl k r→k + n < 1099511627776→Ao (D4 m v3 n r) fun q=>q.1.size≤100∧Pl (k + n) q.2.1
 | 0,n,k,v3,r,h,_,_,_,_=>by omega
 | m + 1,n,k,v3,r,h,hn,hs,hr,hk=>by
  simp only [D4,Ia]
  refine Ao.cond (fun c=>?_) fun c=>?_
  ·have hp:0 < n:=by simpa using c
   refine Av hr (by omega) (by omega) fun v r' v0 v1 h'=>?_
   have sz:((ByteArray.mk #[97,98,99,100]).size:Int)=4:=rfl
   have e1:=An3 (s:=ByteArray.mk #[97,98,99,100]) v0 (show v≤nI (ByteArray.mk #[97,98,99,100]).size by simp only [nI,sz]; omega) (Int.le_refl _)
   have e2:=An3 (s:=Ae (ByteArray.mk #[97,98,99,100]) v (nI (ByteArray.mk #[97,98,99,100]).size)) (i:=0) (j:=1) (by omega) (by omega) (by simp only [nI,sz] at e1 ⊢; omega)
   refine Ao.go (Ag v0) (Ao.go (Ag (show v≤_ by simp only [nI,sz]; omega)) (Ao.go (Ag (show 1≤nI (Ae (ByteArray.mk #[97,98,99,100]) v (nI (ByteArray.mk #[97,98,99,100]).size)).size by simp only [nI,sz] at e1 ⊢; omega)) (Ao.go (Ag (show v3.size + (Ae (Ae (ByteArray.mk #[97,98,99,100]) v (nI (ByteArray.mk #[97,98,99,100]).size)) 0 1).size≤_ by omega)) ?_)))
   have ew:IntKind.i64.wrap ((n:Int) - 1)=((n - 1:Nat):Int):=by rw [Al (by omega) (by omega)]; omega
   rw [ew]
   refine (Aui m (n - 1) (k + 1) (v3++Ae (Ae (ByteArray.mk #[97,98,99,100]) v (nI (ByteArray.mk #[97,98,99,100]).size)) 0 1) r' (by omega) (by omega) (by rw [ByteArray.size_append]; omega) h' (by omega)).mono fun q hq=>⟨hq.1,?_⟩
   rw [show k + 1 + (n - 1)=k + n by omega] at hq
   exact hq.2
  ·have:n=0:=by simpa using c
   subst this
   exact Ao.some ⟨by show v3.size≤100; omega,hr⟩
theorem A70 {k:Nat} {r:Rd} (h:Pl k r) (hk:k + 10 < 1099511627776):Ao (E8 r) fun q=>q.1.1.size≤100∧Pl (k + 10) q.2.1:=by
 rw [Uy]
 unfold Kq
 refine Av h (by omega) (by omega) fun v r' v0 v1 h1=>?_
 refine Ao.cond (fun _=>Ao.some ⟨Nat.zero_le _,h1.mono (by omega)⟩) fun _=>Ao.cond (fun _=>Ao.some ⟨by show 2≤100; omega,h1.mono (by omega)⟩) fun _=>Ao.cond (fun _=>?_) fun _=>Ao.cond (fun _=>Ao.some ⟨by show 1≤100; omega,h1.mono (by omega)⟩) fun _=>?_
 ·dsimp only
  refine Av h1 (by omega) (by omega) fun v2 r2 w0 w1 h2=>?_
  dsimp only
  have ew:IntKind.i64.wrap (5 + v2)=5 + v2:=Al (by omega) (by omega)
  simp only [ew]
  refine Ao.bind (A2g (ByteArray.mk #[108,111,110,103]) (5 + v2) (by omega) (by omega) (by decide)) fun q hq=>Ao.some ⟨?_,h2.mono (by omega)⟩
  show q.1.1.size≤100
  rw [hq]
  show 4 * _≤100
  omega
 ·dsimp only
  refine Av h1 (by omega) (by omega) fun v2 r2 w0 w1 h2=>?_
  dsimp only
  have ew:IntKind.i64.wrap (1 + v2)=((1 + v2).toNat:Int):=by rw [Al (by omega) (by omega)]; omega
  simp only [ew]
  refine Ao.bind (Aui _ (1 + v2).toNat (k + 2) (Af) r2 (by simp only [H9]; omega) (by omega) (by show 0 + _≤100; omega) h2 (by omega)) fun q hq=>Ao.some ⟨hq.1,hq.2.mono (by omega)⟩
def Po {R:Type} (k:Kt R):=(N3 (Fu 13) (.exit 1) 3 k)
def Wn {R:Type}:Lt R Fu:=(G3 (pat:=Fu) 13 (fun d k=>(n5 d).bind (Po k)) Jo)
theorem U0:A4 Try.prog Uw:=A9 ⟨B5,Aaw,trivial⟩
theorem n6 {R:Type}:Bg Try.prog R 33 1 Fu Wn Pn:=
 C8 (cfg:=⟨Uw,1,33,Fu⟩) 13 [] (fun NX X d=>(Ad (Ad (Ad Aj))) (Ia  NX X) d) (fun m d=>(Ad (Ad (Ad Aj))) (D4 m) d) (fun d=>(Ad (Ad (Ad Aj))) H9 d) Po U0 trivial (fun f NX d=>by simp only [u4,Ad,Aj]; unfold Ia; simp only [nb])
theorem Afo:Cg Try.prog 73 Uz:=
 Ba (pat:=Fu) [Pn] Wn U0 ⟨n6,trivial⟩ Try.func73 (de:=fun x=>Kq x.1) (fun x r h=>by have q:E8 x.1=some r:=h; rw [Uy] at q; exact q) fun _=>by kernel_rfl
def Ac2:H6:=⟨[.bx 116 (.pair (.sl (.int .u8)) (.pair tI .unit))],[none],[.own 69 Gs],[none]⟩
def Sg:Tb:=tb [(42,Br),(73,Uz)]
def Ff:Nat→Dv×(Nat→Dv):=Jc [(7,⟨[.row 3 0 69 Gs],[(0,.lf (.ptr 0 0)),(3,.lf (.row 1)),(4,.lf (.d tI)),(5,.lf (.d tI))],[.box 116 [.d (.pair (.sl (.int .u8)) (.pair tI .unit))],.row 69 Gs]⟩,[(2,⟨[.row 3 0 69 Gs],[(3,.lf (.row 1))],[.box 116 [.d (.pair (.sl (.int .u8)) (.pair tI .unit))],.row 69 Gs]⟩)])]
def Pp:Code:=(Ax (Bs Try.f99)).getD 0 .skip
def D5 (v4 v5:Int) (b0:(List Int)×Int×Unit) (r1:List Bq):Nat:=(v4 - v5).toNat + 1
def Ib {R:Type}  (NX:((Int)×(Int)×((List Int)×Int×Unit)×(List Bq)×Unit)→Option R) (X2:(((List Int)×Int×Unit)×(List Bq)×Unit)→Option R) (v4:Int) (v5:Int) (b0:(List Int)×Int×Unit) (r1:List Bq):Option R:=
 bif decide (v5 < v4) then ((Aa b0 8).bind fun val=>some ((val.1,()),val.2,())).bind fun val=>bif decide (0≤val.1.1) then bif decide (val.1.1≤nI (ByteArray.mk #[97,98,99,100,101,102,103,104]).size) then bif decide (1≤nI (Ae (ByteArray.mk #[97,98,99,100,101,102,103,104]) val.1.1 (nI (ByteArray.mk #[97,98,99,100,101,102,103,104]).size)).size) then bif decide ((ByteArray.mk #[107]).size + (Ae (Ae (ByteArray.mk #[97,98,99,100,101,102,103,104]) val.1.1 (nI (ByteArray.mk #[97,98,99,100,101,102,103,104]).size)) 0 1).size≤9223372036854775807) then ((Aa val.2.1 4).bind fun val=>some ((val.1,()),val.2,())).bind fun val_1=>bif decide (v4 > 8) then ((Aa val_1.2.1 3).bind fun val=>some ((val.1,()),val.2,())).bind fun val_2=>bif decide (0≤val_2.1.1) then bif decide (val_2.1.1≤nI (ByteArray.mk #[120,121,122]).size) then bif decide (1≤nI (Ae (ByteArray.mk #[120,121,122]) val_2.1.1 (nI (ByteArray.mk #[120,121,122]).size)).size) then bif decide ((ByteArray.mk #[107]++Ae (Ae (ByteArray.mk #[97,98,99,100,101,102,103,104]) val.1.1 (nI (ByteArray.mk #[97,98,99,100,101,102,103,104]).size)) 0 1).size + (Ae (Ae (ByteArray.mk #[120,121,122]) val_2.1.1 (nI (ByteArray.mk #[120,121,122]).size)) 0 1).size≤9223372036854775807) then bif !val_1.1.1==0 then (E8 val_2.2.1).bind fun val_3=>bif decide (nI (ByteArray.size val_3.1.1) > 100) then bif decide (100≤nI (ByteArray.size val_3.1.1)) then bif decide ((r1.length + [(ByteArray.mk #[107]++Ae (Ae (ByteArray.mk #[97,98,99,100,101,102,103,104]) val.1.1 (nI (ByteArray.mk #[97,98,99,100,101,102,103,104]).size)) 0 1++Ae (Ae (ByteArray.mk #[120,121,122]) val_2.1.1 (nI (ByteArray.mk #[120,121,122]).size)) 0 1,Ae val_3.1.1 0 100,val_1.1.1==0,())].length) * 40≤140737488355328) then NX (v4,IntKind.i64.wrap (v5 + 1),val_3.2.1,r1++[(ByteArray.mk #[107]++Ae (Ae (ByteArray.mk #[97,98,99,100,101,102,103,104]) val.1.1 (nI (ByteArray.mk #[97,98,99,100,101,102,103,104]).size)) 0 1++Ae (Ae (ByteArray.mk #[120,121,122]) val_2.1.1 (nI (ByteArray.mk #[120,121,122]).size)) 0 1,Ae val_3.1.1 0 100,val_1.1.1==0,())],()) else none else none else bif decide ((r1.length + [(ByteArray.mk #[107]++Ae (Ae (ByteArray.mk #[97,98,99,100,101,102,103,104]) val.1.1 (nI (ByteArray.mk #[97,98,99,100,101,102,103,104]).size)) 0 1++Ae (Ae (ByteArray.mk #[120,121,122]) val_2.1.1 (nI (ByteArray.mk #[120,121,122]).size)) 0 1,val_3.1.1,val_1.1.1==0,())].length) * 40≤140737488355328) then NX (v4,IntKind.i64.wrap (v5 + 1),val_3.2.1,r1++[(ByteArray.mk #[107]++Ae (Ae (ByteArray.mk #[97,98,99,100,101,102,103,104]) val.1.1 (nI (ByteArray.mk #[97,98,99,100,101,102,103,104]).size)) 0 1++Ae (Ae (ByteArray.mk #[120,121,122]) val_2.1.1 (nI (ByteArray.mk #[120,121,122]).size)) 0 1,val_3.1.1,val_1.1.1==0,())],()) else none else bif decide ((r1.length + [(ByteArray.mk #[107]++Ae (Ae (ByteArray.mk #[97,98,99,100,101,102,103,104]) val.1.1 (nI (ByteArray.mk #[97,98,99,100,101,102,103,104]).size)) 0 1++Ae (Ae (ByteArray.mk #[120,121,122]) val_2.1.1 (nI (ByteArray.mk #[120,121,122]).size)) 0 1,Af,val_1.1.1==0,())].length) * 40≤140737488355328) then NX (v4,IntKind.i64.wrap (v5 + 1),val_2.2.1,r1++[(ByteArray.mk #[107]++Ae (Ae (ByteArray.mk #[97,98,99,100,101,102,103,104]) val.1.1 (nI (ByteArray.mk #[97,98,99,100,101,102,103,104]).size)) 0 1++Ae (Ae (ByteArray.mk #[120,121,122]) val_2.1.1 (nI (ByteArray.mk #[120,121,122]).size)) 0 1,Af,val_1.1.1==0,())],()) else none else none else none else none else none else bif !val_1.1.1==0 then (E8 val_1.2.1).bind fun val_2=>bif decide (nI (ByteArray.size val_2.1.1) > 100) then bif decide (100≤nI (ByteArray.size val_2.1.1)) then bif decide ((r1.length + [(ByteArray.mk #[107]++Ae (Ae (ByteArray.mk #[97,98,99,100,101,102,103,104]) val.1.1 (nI (ByteArray.mk #[97,98,99,100,101,102,103,104]).size)) 0 1,Ae val_2.1.1 0 100,val_1.1.1==0,())].length) * 40≤140737488355328) then NX (v4,IntKind.i64.wrap (v5 + 1),val_2.2.1,r1++[(ByteArray.mk #[107]++Ae (Ae (ByteArray.mk #[97,98,99,100,101,102,103,104]) val.1.1 (nI (ByteArray.mk #[97,98,99,100,101,102,103,104]).size)) 0 1,Ae val_2.1.1 0 100,val_1.1.1==0,())],()) else none else none else bif decide ((r1.length + [(ByteArray.mk #[107]++Ae (Ae (ByteArray.mk #[97,98,99,100,101,102,103,104]) val.1.1 (nI (ByteArray.mk #[97,98,99,100,101,102,103,104]).size)) 0 1,val_2.1.1,val_1.1.1==0,())].length) * 40≤140737488355328) then NX (v4,IntKind.i64.wrap (v5 + 1),val_2.2.1,r1++[(ByteArray.mk #[107]++Ae (Ae (ByteArray.mk #[97,98,99,100,101,102,103,104]) val.1.1 (nI (ByteArray.mk #[97,98,99,100,101,102,103,104]).size)) 0 1,val_2.1.1,val_1.1.1==0,())],()) else none else bif decide ((r1.length + [(ByteArray.mk #[107]++Ae (Ae (ByteArray.mk #[97,98,99,100,101,102,103,104]) val.1.1 (nI (ByteArray.mk #[97,98,99,100,101,102,103,104]).size)) 0 1,Af,val_1.1.1==0,())].length) * 40≤140737488355328) then NX (v4,IntKind.i64.wrap (v5 + 1),val_1.2.1,r1++[(ByteArray.mk #[107]++Ae (Ae (ByteArray.mk #[97,98,99,100,101,102,103,104]) val.1.1 (nI (ByteArray.mk #[97,98,99,100,101,102,103,104]).size)) 0 1,Af,val_1.1.1==0,())],()) else none else none else none else none else none else X2 (b0,r1,())
def Bc:Nat→(Int)→(Int)→((List Int)×Int×Unit)→(List Bq) →  Option (((List Int)×Int×Unit)×(List Bq)×Unit)
 | 0,_,_,_,_=>none
 | m + 1,v4,v5,b0,r1=>Ib  (fun d=>Bc m d.1 d.2.1 d.2.2.1 d.2.2.2.1) (fun d=>some (d)) v4 v5 b0 r1
def n7 (d:(Int)×(Int)×((List Int)×Int×Unit)×(List Bq)×Unit):Option (((List Int)×Int×Unit)×(List Bq)×Unit):=(u4 Aj) (Bc ((u4 Aj) D5 d)) d
def Jm (a0:(List Int)×Int×Unit):Option ((((List Bq)×Unit)×(((List Int)×Int×Unit)×Unit))):=
 ((Aa a0 4).bind fun val=>some ((val.1,()),val.2,())).bind fun val=>((Aa val.2.1 10).bind fun val=>some ((val.1,()),val.2,())).bind fun val_1=>bif val_1.1.1==0 then ((Aa val_1.2.1 2).bind fun val=>some ((val.1,()),val.2,())).bind fun val=>((fun d=>Bc (D5 d.1 d.2.1 d.2.2.1 d.2.2.2.1) d.1 d.2.1 d.2.2.1 d.2.2.2.1) (IntKind.i64.wrap (20 - val.1.1),0,val.2.1,[],())).bind fun val=>some (val.2,val.1,()) else ((fun d=>Bc (D5 d.1 d.2.1 d.2.2.1 d.2.2.2.1) d.1 d.2.1 d.2.2.1 d.2.2.2.1) (IntKind.i64.wrap (1 + val.1.1),0,val_1.2.1,[],())).bind fun val=>some (val.2,val.1,())
theorem Sh:∃ f,f=@Jm:=⟨_,rfl⟩
def Fv:=Classical.choose Sh
theorem Si:@Fv=@Jm:=Classical.choose_spec Sh
def Sj:SD:=⟨Ac2,fun x=>Fv x.1⟩
theorem Arj (n:Nat) (hn:n≤20):∀ (m i k:Nat) (r:Rd) (l:List Bq),n - i < m→i≤n→l.length=i→(∀ c∈l,Ar3 c)→Pl k r→k + 15 * (n - i) < 1099511627776→
  Ao (Bc m n i r l) fun q=>Pl (k + 15 * (n - i)) q.1∧q.2.1.length=n∧∀ c∈q.2.1,Ar3 c
 | 0,i,k,r,l,h,_,_,_,_,_=>by omega
 | m + 1,i,k,r,l,h,hi,hl,hc,hr,hk=>by
  simp only [Bc,Ib]
  refine Ao.cond (fun c=>?_) fun c=>?_
  ·have hi':i < n:=by simpa using c
   have fin:∀ (c:Bq) (r':Rd),Ar3 c→Pl (k + 15) r'→Ao (bif decide ((l.length + [c].length) * 40≤140737488355328) then Bc m n (IntKind.i64.wrap ((i:Int) + 1)) r' (l++[c]) else none) fun q=>Pl (k + 15 * (n - i)) q.1∧q.2.1.length=n∧∀ c∈q.2.1,Ar3 c:=fun c r' h1 h2=>by
    refine Ao.go (Ag (by simp only [Et]; omega)) ?_
    rw [wI (by omega)]
    refine (Arj n hn m (i + 1) (k + 15) r' (l++[c]) (by omega) (by omega) (by rw [Ey,Et,hl]) (A5z hc h1) h2 (by omega)).mono fun q hq=>?_
    rw [show k + 15 + 15 * (n - (i + 1))=k + 15 * (n - i) by omega] at hq
    exact hq
   refine Av hr (by omega) (by omega) fun v r1 v0 v1 h1=>?_
   dsimp only
   refine Ao.letter v0 v1 fun s1=>?_
   generalize Ae (Ae (ByteArray.mk #[97,98,99,100,101,102,103,104]) v (nI (ByteArray.mk #[97,98,99,100,101,102,103,104]).size)) 0 1=c1 at *
   have k1:(ByteArray.mk #[107]++c1).size=2:=by rw [ByteArray.size_append,s1]; rfl
   refine Ao.go (Ag (by rw [s1]; decide)) ?_
   refine Av h1 (by omega) (by omega) fun g r2 g0 g1 h2=>?_
   dsimp only
   have val:∀ (key:Ab) (r3:Rd),key.size≤1000→Pl (k + 3) r3→Ao (bif !(g==0) then (E8 r3).bind fun val=>bif decide (nI (ByteArray.size val.1.1) > 100) then bif decide (100≤nI (ByteArray.size val.1.1)) then bif decide ((l.length + [((key,Ae val.1.1 0 100,g==0,()):Bq)].length) * 40≤140737488355328) then Bc m n (IntKind.i64.wrap ((i:Int) + 1)) val.2.1 (l++[(key,Ae val.1.1 0 100,g==0,())]) else none else none
     else bif decide ((l.length + [((key,val.1.1,g==0,()):Bq)].length) * 40≤140737488355328) then Bc m n (IntKind.i64.wrap ((i:Int) + 1)) val.2.1 (l++[(key,val.1.1,g==0,())]) else none
     else bif decide ((l.length + [((key,Af,g==0,()):Bq)].length) * 40≤140737488355328) then Bc m n (IntKind.i64.wrap ((i:Int) + 1)) r3 (l++[(key,Af,g==0,())]) else none) fun q=>Pl (k + 15 * (n - i)) q.1∧q.2.1.length=n∧∀ c∈q.2.1,Ar3 c:=fun key r3 hkey h3=>by
    refine Ao.cond (fun _=>?_) fun _=>fin _ _ ⟨hkey,Nat.zero_le _⟩ (h3.mono (by omega))
    refine Ao.bind (A70 h3 (by omega)) fun q hq=>?_
    refine Ao.cond (fun c=>?_) fun c=>fin _ _ ⟨hkey,by show q.1.1.size≤1000; omega⟩ (hq.2.mono (by omega))
    exfalso
    have c:=Fw c
    simp only [nI] at c
    omega
   refine Ao.cond (fun _=>?_) fun _=>val _ r2 (by rw [k1]; decide) (h2.mono (by omega))
   refine Av h2 (by omega) (by omega) fun w r3 w0 w1 h3=>?_
   dsimp only
   refine Ao.letter w0 w1 fun s2=>?_
   generalize Ae (Ae (ByteArray.mk #[120,121,122]) w (nI (ByteArray.mk #[120,121,122]).size)) 0 1=c2 at *
   refine Ao.go (Ag (by rw [s2,k1]; decide)) ?_
   exact val _ r3 (by rw [ByteArray.size_append,s2,k1]; decide) (h3.mono (by omega))
  ·have:i=n:=by have:=of_decide_eq_false c; omega
   subst this
   exact Ao.some ⟨hr.mono (by omega),hl,hc⟩
theorem A6k {k:Nat} {r:Rd} (h:Pl k r) (hk:k + 400 < 1099511627776):Ao (Fv r) fun q=>(1≤q.1.1.length∧q.1.1.length≤20∧∀ c∈q.1.1,Ar3 c)∧Pl (k + 400) q.2.1:=by
 rw [Si]
 unfold Jm
 refine Av h (by omega) (by omega) fun v r1 v0 v1 h1=>?_
 dsimp only
 refine Av h1 (by omega) (by omega) fun w r2 w0 w1 h2=>?_
 dsimp only
 have fin:∀ (n:Nat) (x:Int) (r3:Rd),x=(n:Int)→1≤n→n≤20→Pl (k + 3) r3→Ao ((Bc (D5 x 0 r3 []) x 0 r3 []).bind fun val=>some ((val.2.1,()),val.1,())) fun q=>(1≤q.1.1.length∧q.1.1.length≤20∧∀ c∈q.1.1,Ar3 c)∧Pl (k + 400) q.2.1:=fun n x r3 hx n1 n2 h3=>by
  subst hx
  refine Ao.bind (Arj n n2 _ 0 (k + 3) r3 [] (by simp only [D5]; omega) (by omega) rfl (fun c hc=>by cases hc) h3 (by omega)) fun q hq=>Ao.some ⟨⟨by show 1≤q.2.1.length; omega,by show q.2.1.length≤20; omega,hq.2.2⟩,hq.1.mono (by omega)⟩
 refine Ao.cond (fun _=>?_) fun _=>?_
 ·refine Av h2 (by omega) (by omega) fun u r3 u0 u1 h3=>?_
  dsimp only
  exact fin (20 - u).toNat _ r3 (by rw [Al (by omega) (by omega)]; omega) (by omega) (by omega) h3
 ·exact fin (1 + v).toNat _ r2 (by rw [Al (by omega) (by omega)]; omega) (by omega) (by omega) (h2.mono (by omega))
def Pq {R:Type} (k:Kt R):=(N3 (Ff 7) (.exit 0) 2 k)
def U1 {R:Type}:Lt R Ff:=(G3 (pat:=Ff) 7 (fun d k=>(n7 d).bind (Pq k)) Jo)
theorem Sk:A4 Try.prog Sg:=A9 ⟨B5,Afo,trivial⟩
theorem n9 {R:Type}:Bg Try.prog R 60 1 Ff U1 Pp:=
 C8 (cfg:=⟨Sg,1,60,Ff⟩) 7 [] (fun NX X d=>(u4 Aj) (Ib  NX X) d) (fun m d=>(u4 Aj) (Bc m) d) (fun d=>(u4 Aj) D5 d) Pq Sk trivial (fun f NX d=>by simp only [u4,Ad,Aj]; unfold Ib; simp only [nb])
theorem Ac3:Cg Try.prog 99 Sj:=
 Ba (pat:=Ff) [Pp] U1 Sk ⟨n9,trivial⟩ Try.func99 (de:=fun x=>Jm x.1) (fun x r h=>by have q:Fv x.1=some r:=h; rw [Si] at q; exact q) fun _=>by kernel_rfl
def Ej (v7:Int) (_:(List Int)×Int×Unit) (_:Int) (_:List Bq) (_:Int) (_:List Int) (_:Int) (_:List Bq) (_:Int) (_:List Int):Nat:=v7.toNat + 1
def Am8:H6:=⟨[.bx 116 (.pair (.sl (.int .u8)) (.pair tI .unit)),.rd .bool],[none,none],[.rd A5k],[some 4]⟩
def k9:Tb:=tb [(42,Br),(99,Sj)]
def In:Nat→Dv×(Nat→Dv):=Jc [(21,⟨[.boxSl 4 1 Gs,.boxSl 4 3 tI,.boxSl 5 1 Gs,.boxRow 5 3 3 tI],[(0,.lf (.ptr 0 0)),(4,.lf (.ptr 1 0)),(5,.lf (.ptr 2 0)),(7,.lf (.d tI))],[.box 116 [.d (.pair (.sl (.int .u8)) (.pair tI .unit))],.box 123 [.d tI,.d (.sl Gs),.d tI,.d (.sl tI)],.box 123 [.d tI,.d (.sl Gs),.d tI,.row 3],.row 3 tI]⟩,[(2,⟨[.boxSl 4 1 Gs,.boxSl 4 3 tI,.boxSl 5 1 Gs,.boxRow 5 3 3 tI],[(4,.lf (.ptr 1 0)),(5,.lf (.ptr 2 0))],[.box 116 [.d (.pair (.sl (.int .u8)) (.pair tI .unit))],.box 123 [.d tI,.d (.sl Gs),.d tI,.d (.sl tI)],.box 123 [.d tI,.d (.sl Gs),.d tI,.row 3],.row 3 tI]⟩)])]
def U2:Code:=(Ax (Bs Try.f82)).getD 0 .skip
def H3 {R:Type}  (NX:((Int)×((List Int)×Int×Unit)×(Int)×(List Bq)×(Int)×(List Int)×(Int)×(List Bq)×(Int)×(List Int)×Unit)→Option R) (X2:(((List Int)×Int×Unit)×(Int)×(List Bq)×(Int)×(List Int)×(Int)×(List Bq)×(Int)×(List Int)×Unit)→Option R) (v7:Int) (b0:(List Int)×Int×Unit) (b1_0:Int) (b1_1:List Bq) (b1_2:Int) (b1_3:List Int) (b2_0:Int) (b2_1:List Bq) (b2_2:Int) (r3:List Int):Option R:=
 bif decide (v7 > 0) then ((Aa b0 63).bind fun val=>some ((val.1,()),val.2,())).bind fun val=>((Aa val.2.1 6).bind fun val=>some ((val.1,()),val.2,())).bind fun val_1=>bif decide (0≤val_1.1.1) then bif decide (val_1.1.1 < nI [0,64,64,IntKind.i64.wrap (1 + val.1.1),-1,65].length) then bif decide ((r3.length + [[0,64,64,IntKind.i64.wrap (1 + val.1.1),-1,65].getD (Int.toNat val_1.1.1) 0].length) * 8≤140737488355328) then NX (IntKind.i64.wrap (v7 - 1),val_1.2.1,b1_0,b1_1,b1_2,b1_3,b2_0,b2_1,b2_2,r3++[[0,64,64,IntKind.i64.wrap (1 + val.1.1),-1,65].getD (Int.toNat val_1.1.1) 0],()) else none else none else none else X2 (b0,b1_0,b1_1,b1_2,b1_3,b2_0,b2_1,b2_2,r3,())
def Cf:Nat→(Int)→((List Int)×Int×Unit)→(Int)→(List Bq)→(Int)→(List Int)→(Int)→(List Bq)→(Int)→(List Int) →  Option (((List Int)×Int×Unit)×(Int)×(List Bq)×(Int)×(List Int)×(Int)×(List Bq)×(Int)×(List Int)×Unit)
 | 0,_,_,_,_,_,_,_,_,_,_=>none
 | m + 1,v7,b0,b1_0,b1_1,b1_2,b1_3,b2_0,b2_1,b2_2,r3=>H3  (fun d=>Cf m d.1 d.2.1 d.2.2.1 d.2.2.2.1 d.2.2.2.2.1 d.2.2.2.2.2.1 d.2.2.2.2.2.2.1 d.2.2.2.2.2.2.2.1 d.2.2.2.2.2.2.2.2.1 d.2.2.2.2.2.2.2.2.2.1) (fun d=>some (d)) v7 b0 b1_0 b1_1 b1_2 b1_3 b2_0 b2_1 b2_2 r3
def Ak (d:(Int)×((List Int)×Int×Unit)×(Int)×(List Bq)×(Int)×(List Int)×(Int)×(List Bq)×(Int)×(List Int)×Unit):Option (((List Int)×Int×Unit)×(Int)×(List Bq)×(Int)×(List Int)×(Int)×(List Bq)×(Int)×(List Int)×Unit):=(u4 (u4 (Ad (Ad Aj)))) (Cf ((u4 (u4 (Ad (Ad Aj)))) Ej d)) d
def M6 (a0:(List Int)×Int×Unit) (a1:Bool):Option (((m9×Unit)×(((List Int)×Int×Unit)×Unit))):=
 ((Aa a0 20).bind fun val=>some ((val.1,()),val.2,())).bind fun val=>bif !a1 then bif decide (val.1.1 < 16) then ((Aa val.2.1 4).bind fun val=>some ((val.1,()),val.2,())).bind fun val=>bif val.1.1==0 then ((Aa val.2.1 5).bind fun val=>some ((val.1,()),val.2,())).bind fun val=>((Aa val.2.1 4).bind fun val=>some ((val.1,()),val.2,())).bind fun val_1=>bif val_1.1.1==0 then ((Aa val_1.2.1 14).bind fun val=>some ((val.1,()),val.2,())).bind fun val=>((Aa val.2.1 8).bind fun val=>some ((val.1,()),val.2,())).bind fun val_2=>(Ak (val_2.1.1,val_2.2.1,0,[],0,[],1,[],val.1.1,[],())).bind fun val=>some ((val.2.2.2.2.2,()),val.1,()) else ((Aa val_1.2.1 8).bind fun val=>some ((val.1,()),val.2,())).bind fun val_2=>(Ak (val_2.1.1,val_2.2.1,0,[],0,[],1,[],val.1.1,[],())).bind fun val=>some ((val.2.2.2.2.2,()),val.1,()) else ((Aa val.2.1 8).bind fun val=>some ((val.1,()),val.2,())).bind fun val=>(Ak (val.1.1,val.2.1,0,[],0,[],1,[],-1,[],())).bind fun val=>some ((val.2.2.2.2.2,()),val.1,()) else bif decide (val.1.1 < 11) then (Fv val.2.1).bind fun val=>((Aa val.2.1 4).bind fun val=>some ((val.1,()),val.2,())).bind fun val_1=>bif val_1.1.1==0 then ((Aa val_1.2.1 5).bind fun val=>some ((val.1,()),val.2,())).bind fun val_2=>((Aa val_2.2.1 4).bind fun val=>some ((val.1,()),val.2,())).bind fun val_3=>bif val_3.1.1==0 then ((Aa val_3.2.1 14).bind fun val=>some ((val.1,()),val.2,())).bind fun val_4=>((Aa val_4.2.1 8).bind fun val=>some ((val.1,()),val.2,())).bind fun val_5=>(Ak (val_5.1.1,val_5.2.1,0,[],0,[],2,val.1.1,val_4.1.1,[],())).bind fun val=>some ((val.2.2.2.2.2,()),val.1,()) else ((Aa val_3.2.1 8).bind fun val=>some ((val.1,()),val.2,())).bind fun val_4=>(Ak (val_4.1.1,val_4.2.1,0,[],0,[],2,val.1.1,val_2.1.1,[],())).bind fun val=>some ((val.2.2.2.2.2,()),val.1,()) else ((Aa val_1.2.1 8).bind fun val=>some ((val.1,()),val.2,())).bind fun val_2=>(Ak (val_2.1.1,val_2.2.1,0,[],0,[],2,val.1.1,-1,[],())).bind fun val=>some ((val.2.2.2.2.2,()),val.1,()) else bif decide (val.1.1 < 14) then ((Aa val.2.1 4).bind fun val=>some ((val.1,()),val.2,())).bind fun val=>bif val.1.1==0 then ((Aa val.2.1 5).bind fun val=>some ((val.1,()),val.2,())).bind fun val=>((Aa val.2.1 4).bind fun val=>some ((val.1,()),val.2,())).bind fun val_1=>bif val_1.1.1==0 then ((Aa val_1.2.1 14).bind fun val=>some ((val.1,()),val.2,())).bind fun val=>((Aa val.2.1 8).bind fun val=>some ((val.1,()),val.2,())).bind fun val_2=>(Ak (val_2.1.1,val_2.2.1,0,[],0,[],3,[],val.1.1,[],())).bind fun val=>some ((val.2.2.2.2.2,()),val.1,()) else ((Aa val_1.2.1 8).bind fun val=>some ((val.1,()),val.2,())).bind fun val_2=>(Ak (val_2.1.1,val_2.2.1,0,[],0,[],3,[],val.1.1,[],())).bind fun val=>some ((val.2.2.2.2.2,()),val.1,()) else ((Aa val.2.1 8).bind fun val=>some ((val.1,()),val.2,())).bind fun val=>(Ak (val.1.1,val.2.1,0,[],0,[],3,[],-1,[],())).bind fun val=>some ((val.2.2.2.2.2,()),val.1,()) else bif decide (val.1.1 < 17) then ((Aa val.2.1 4).bind fun val=>some ((val.1,()),val.2,())).bind fun val=>bif val.1.1==0 then ((Aa val.2.1 5).bind fun val=>some ((val.1,()),val.2,())).bind fun val=>((Aa val.2.1 4).bind fun val=>some ((val.1,()),val.2,())).bind fun val_1=>bif val_1.1.1==0 then ((Aa val_1.2.1 14).bind fun val=>some ((val.1,()),val.2,())).bind fun val=>((Aa val.2.1 8).bind fun val=>some ((val.1,()),val.2,())).bind fun val_2=>(Ak (val_2.1.1,val_2.2.1,0,[],0,[],4,[],val.1.1,[],())).bind fun val=>some ((val.2.2.2.2.2,()),val.1,()) else ((Aa val_1.2.1 8).bind fun val=>some ((val.1,()),val.2,())).bind fun val_2=>(Ak (val_2.1.1,val_2.2.1,0,[],0,[],4,[],val.1.1,[],())).bind fun val=>some ((val.2.2.2.2.2,()),val.1,()) else ((Aa val.2.1 8).bind fun val=>some ((val.1,()),val.2,())).bind fun val=>(Ak (val.1.1,val.2.1,0,[],0,[],4,[],-1,[],())).bind fun val=>some ((val.2.2.2.2.2,()),val.1,()) else bif decide (val.1.1 < 19) then ((Aa val.2.1 4).bind fun val=>some ((val.1,()),val.2,())).bind fun val=>bif val.1.1==0 then ((Aa val.2.1 5).bind fun val=>some ((val.1,()),val.2,())).bind fun val=>((Aa val.2.1 4).bind fun val=>some ((val.1,()),val.2,())).bind fun val_1=>bif val_1.1.1==0 then ((Aa val_1.2.1 14).bind fun val=>some ((val.1,()),val.2,())).bind fun val=>((Aa val.2.1 8).bind fun val=>some ((val.1,()),val.2,())).bind fun val_2=>(Ak (val_2.1.1,val_2.2.1,0,[],0,[],5,[],val.1.1,[],())).bind fun val=>some ((val.2.2.2.2.2,()),val.1,()) else ((Aa val_1.2.1 8).bind fun val=>some ((val.1,()),val.2,())).bind fun val_2=>(Ak (val_2.1.1,val_2.2.1,0,[],0,[],5,[],val.1.1,[],())).bind fun val=>some ((val.2.2.2.2.2,()),val.1,()) else ((Aa val.2.1 8).bind fun val=>some ((val.1,()),val.2,())).bind fun val=>(Ak (val.1.1,val.2.1,0,[],0,[],5,[],-1,[],())).bind fun val=>some ((val.2.2.2.2.2,()),val.1,()) else ((Aa val.2.1 4).bind fun val=>some ((val.1,()),val.2,())).bind fun val=>bif decide (0≤val.1.1) then bif decide (val.1.1 < nI [1,2,0,6].length) then ((Aa val.2.1 4).bind fun val=>some ((val.1,()),val.2,())).bind fun val_1=>bif val_1.1.1==0 then ((Aa val_1.2.1 5).bind fun val=>some ((val.1,()),val.2,())).bind fun val_2=>((Aa val_2.2.1 4).bind fun val=>some ((val.1,()),val.2,())).bind fun val_3=>bif val_3.1.1==0 then ((Aa val_3.2.1 14).bind fun val=>some ((val.1,()),val.2,())).bind fun val_4=>((Aa val_4.2.1 8).bind fun val=>some ((val.1,()),val.2,())).bind fun val_5=>(Ak (val_5.1.1,val_5.2.1,0,[],0,[],[1,2,0,6].getD (Int.toNat val.1.1) 0,[],val_4.1.1,[],())).bind fun val=>some ((val.2.2.2.2.2,()),val.1,()) else ((Aa val_3.2.1 8).bind fun val=>some ((val.1,()),val.2,())).bind fun val_4=>(Ak (val_4.1.1,val_4.2.1,0,[],0,[],[1,2,0,6].getD (Int.toNat val.1.1) 0,[],val_2.1.1,[],())).bind fun val=>some ((val.2.2.2.2.2,()),val.1,()) else ((Aa val_1.2.1 8).bind fun val=>some ((val.1,()),val.2,())).bind fun val_2=>(Ak (val_2.1.1,val_2.2.1,0,[],0,[],[1,2,0,6].getD (Int.toNat val.1.1) 0,[],-1,[],())).bind fun val=>some ((val.2.2.2.2.2,()),val.1,()) else none else none else bif decide (val.1.1 < 11) then (Fv val.2.1).bind fun val=>((Aa val.2.1 4).bind fun val=>some ((val.1,()),val.2,())).bind fun val_1=>bif val_1.1.1==0 then ((Aa val_1.2.1 5).bind fun val=>some ((val.1,()),val.2,())).bind fun val_2=>((Aa val_2.2.1 4).bind fun val=>some ((val.1,()),val.2,())).bind fun val_3=>bif val_3.1.1==0 then ((Aa val_3.2.1 14).bind fun val=>some ((val.1,()),val.2,())).bind fun val_4=>((Aa val_4.2.1 8).bind fun val=>some ((val.1,()),val.2,())).bind fun val_5=>(Ak (val_5.1.1,val_5.2.1,0,[],0,[],2,val.1.1,val_4.1.1,[],())).bind fun val=>some ((val.2.2.2.2.2,()),val.1,()) else ((Aa val_3.2.1 8).bind fun val=>some ((val.1,()),val.2,())).bind fun val_4=>(Ak (val_4.1.1,val_4.2.1,0,[],0,[],2,val.1.1,val_2.1.1,[],())).bind fun val=>some ((val.2.2.2.2.2,()),val.1,()) else ((Aa val_1.2.1 8).bind fun val=>some ((val.1,()),val.2,())).bind fun val_2=>(Ak (val_2.1.1,val_2.2.1,0,[],0,[],2,val.1.1,-1,[],())).bind fun val=>some ((val.2.2.2.2.2,()),val.1,()) else bif decide (val.1.1 < 14) then ((Aa val.2.1 4).bind fun val=>some ((val.1,()),val.2,())).bind fun val=>bif val.1.1==0 then ((Aa val.2.1 5).bind fun val=>some ((val.1,()),val.2,())).bind fun val=>((Aa val.2.1 4).bind fun val=>some ((val.1,()),val.2,())).bind fun val_1=>bif val_1.1.1==0 then ((Aa val_1.2.1 14).bind fun val=>some ((val.1,()),val.2,())).bind fun val=>((Aa val.2.1 8).bind fun val=>some ((val.1,()),val.2,())).bind fun val_2=>(Ak (val_2.1.1,val_2.2.1,0,[],0,[],3,[],val.1.1,[],())).bind fun val=>some ((val.2.2.2.2.2,()),val.1,()) else ((Aa val_1.2.1 8).bind fun val=>some ((val.1,()),val.2,())).bind fun val_2=>(Ak (val_2.1.1,val_2.2.1,0,[],0,[],3,[],val.1.1,[],())).bind fun val=>some ((val.2.2.2.2.2,()),val.1,()) else ((Aa val.2.1 8).bind fun val=>some ((val.1,()),val.2,())).bind fun val=>(Ak (val.1.1,val.2.1,0,[],0,[],3,[],-1,[],())).bind fun val=>some ((val.2.2.2.2.2,()),val.1,()) else bif decide (val.1.1 < 17) then ((Aa val.2.1 4).bind fun val=>some ((val.1,()),val.2,())).bind fun val=>bif val.1.1==0 then ((Aa val.2.1 5).bind fun val=>some ((val.1,()),val.2,())).bind fun val=>((Aa val.2.1 4).bind fun val=>some ((val.1,()),val.2,())).bind fun val_1=>bif val_1.1.1==0 then ((Aa val_1.2.1 14).bind fun val=>some ((val.1,()),val.2,())).bind fun val=>((Aa val.2.1 8).bind fun val=>some ((val.1,()),val.2,())).bind fun val_2=>(Ak (val_2.1.1,val_2.2.1,0,[],0,[],4,[],val.1.1,[],())).bind fun val=>some ((val.2.2.2.2.2,()),val.1,()) else ((Aa val_1.2.1 8).bind fun val=>some ((val.1,()),val.2,())).bind fun val_2=>(Ak (val_2.1.1,val_2.2.1,0,[],0,[],4,[],val.1.1,[],())).bind fun val=>some ((val.2.2.2.2.2,()),val.1,()) else ((Aa val.2.1 8).bind fun val=>some ((val.1,()),val.2,())).bind fun val=>(Ak (val.1.1,val.2.1,0,[],0,[],4,[],-1,[],())).bind fun val=>some ((val.2.2.2.2.2,()),val.1,()) else bif decide (val.1.1 < 19) then ((Aa val.2.1 4).bind fun val=>some ((val.1,()),val.2,())).bind fun val=>bif val.1.1==0 then ((Aa val.2.1 5).bind fun val=>some ((val.1,()),val.2,())).bind fun val=>((Aa val.2.1 4).bind fun val=>some ((val.1,()),val.2,())).bind fun val_1=>bif val_1.1.1==0 then ((Aa val_1.2.1 14).bind fun val=>some ((val.1,()),val.2,())).bind fun val=>((Aa val.2.1 8).bind fun val=>some ((val.1,()),val.2,())).bind fun val_2=>(Ak (val_2.1.1,val_2.2.1,0,[],0,[],5,[],val.1.1,[],())).bind fun val=>some ((val.2.2.2.2.2,()),val.1,()) else ((Aa val_1.2.1 8).bind fun val=>some ((val.1,()),val.2,())).bind fun val_2=>(Ak (val_2.1.1,val_2.2.1,0,[],0,[],5,[],val.1.1,[],())).bind fun val=>some ((val.2.2.2.2.2,()),val.1,()) else ((Aa val.2.1 8).bind fun val=>some ((val.1,()),val.2,())).bind fun val=>(Ak (val.1.1,val.2.1,0,[],0,[],5,[],-1,[],())).bind fun val=>some ((val.2.2.2.2.2,()),val.1,()) else ((Aa val.2.1 4).bind fun val=>some ((val.1,()),val.2,())).bind fun val=>bif decide (0≤val.1.1) then bif decide (val.1.1 < nI [1,2,0,6].length) then ((Aa val.2.1 4).bind fun val=>some ((val.1,()),val.2,())).bind fun val_1=>bif val_1.1.1==0 then ((Aa val_1.2.1 5).bind fun val=>some ((val.1,()),val.2,())).bind fun val_2=>((Aa val_2.2.1 4).bind fun val=>some ((val.1,()),val.2,())).bind fun val_3=>bif val_3.1.1==0 then ((Aa val_3.2.1 14).bind fun val=>some ((val.1,()),val.2,())).bind fun val_4=>((Aa val_4.2.1 8).bind fun val=>some ((val.1,()),val.2,())).bind fun val_5=>(Ak (val_5.1.1,val_5.2.1,0,[],0,[],[1,2,0,6].getD (Int.toNat val.1.1) 0,[],val_4.1.1,[],())).bind fun val=>some ((val.2.2.2.2.2,()),val.1,()) else ((Aa val_3.2.1 8).bind fun val=>some ((val.1,()),val.2,())).bind fun val_4=>(Ak (val_4.1.1,val_4.2.1,0,[],0,[],[1,2,0,6].getD (Int.toNat val.1.1) 0,[],val_2.1.1,[],())).bind fun val=>some ((val.2.2.2.2.2,()),val.1,()) else ((Aa val_1.2.1 8).bind fun val=>some ((val.1,()),val.2,())).bind fun val_2=>(Ak (val_2.1.1,val_2.2.1,0,[],0,[],[1,2,0,6].getD (Int.toNat val.1.1) 0,[],-1,[],())).bind fun val=>some ((val.2.2.2.2.2,()),val.1,()) else none else none
theorem l3:∃ f,f=@M6:=⟨_,rfl⟩
def L2:=Classical.choose l3
theorem l4:@L2=@M6:=Classical.choose_spec l3
def l5:SD:=⟨Am8,fun x=>L2 x.1 x.2.1⟩
theorem A2j (x1:Int) (x2:List Bq) (x3:Int) (x4:List Int) (y1:Int) (y2:List Bq) (y3:Int):∀ (n m K:Nat) (r:Rd) (f:List Int),n < m→f.length + n≤100→Pl K r→K + 2 * n < 1000000000000→
  Ao (Cf m n r x1 x2 x3 x4 y1 y2 y3 f) fun q=>Pl (K + 2 * n) q.1
 | 0,m + 1,K,r,f,_,_,h,_=>by
  simp only [Cf,H3]
  exact Ao.no (by rfl) (Ao.some h)
 | n + 1,m + 1,K,r,f,hm,hf,h,hK=>by
  simp only [Cf,H3]
  refine Ao.go (Ag (by omega)) ?_
  refine Av h (by omega) (by omega) fun v r1 v0 v1 h1=>?_
  dsimp only
  refine Av h1 (by omega) (by omega) fun u r2 u0 u1 h2=>?_
  dsimp only
  refine Ao.go (Ag u0) (Ao.go (Ag u1) (Ao.go (Ag (by rw [Et]; omega)) ?_))
  rw [show IntKind.i64.wrap (((n + 1:Nat):Int) - 1)=(n:Int) by rw [Al (by omega) (by omega)]; omega]
  refine (A2j x1 x2 x3 x4 y1 y2 y3 n m (K + 1 + 1) r2 _ (by omega) (by rw [Ey,Et]; omega) h2 (by omega)).mono fun q hq=>hq.mono (by omega)
theorem A0s {K:Nat} {r:Rd} (kind:Int) (b:List Bq) (cut:Int) (h:Pl K r) (hK:K + 100 < 1000000000000):
  Ao (((Aa r 8).bind fun val=>some ((val.1,()),val.2,())).bind fun val=>(Cf (Ej val.1.1 val.2.1 0 [] 0 [] kind b cut []) val.1.1 val.2.1 0 [] 0 [] kind b cut []).bind fun val=>some (((val.2.2.2.2.2,()),val.1,()):((m9×Unit)×(Rd×Unit)))) fun q=>Pl (K + 40) q.2.1:=by
 refine Av h (by omega) (by omega) fun v r1 v0 v1 h1=>?_
 dsimp only
 obtain ⟨n,rfl⟩:∃ n:Nat,v=(n:Int):=⟨v.toNat,by omega⟩
 refine Ao.bind (A2j 0 [] 0 [] kind b cut n _ (K + 1) r1 [] (by simp only [Ej]; omega) (by simp; omega) h1 (by omega)) fun q hq=>Ao.some ?_
 exact hq.mono (by omega)
theorem Akr {K:Nat} {r:Rd} (kind:Int) (b:List Bq) (h:Pl K r) (hK:K + 200 < 1000000000000):
  Ao (((Aa r 4).bind fun val=>some ((val.1,()),val.2,())).bind fun val_1=>bif val_1.1.1==0 then
   ((Aa val_1.2.1 5).bind fun val=>some ((val.1,()),val.2,())).bind fun val_2=>
    ((Aa val_2.2.1 4).bind fun val=>some ((val.1,()),val.2,())).bind fun val_3=>
     bif val_3.1.1==0 then
      ((Aa val_3.2.1 14).bind fun val=>some ((val.1,()),val.2,())).bind fun val_4=>
       ((Aa val_4.2.1 8).bind fun val=>some ((val.1,()),val.2,())).bind fun val=>(Cf (Ej val.1.1 val.2.1 0 [] 0 [] kind b val_4.1.1 []) val.1.1 val.2.1 0 [] 0 [] kind b val_4.1.1 []).bind fun val=>some (((val.2.2.2.2.2,()),val.1,()):((m9×Unit)×(Rd×Unit)))
     else
      ((Aa val_3.2.1 8).bind fun val=>some ((val.1,()),val.2,())).bind fun val=>(Cf (Ej val.1.1 val.2.1 0 [] 0 [] kind b val_2.1.1 []) val.1.1 val.2.1 0 [] 0 [] kind b val_2.1.1 []).bind fun val=>some (((val.2.2.2.2.2,()),val.1,()):((m9×Unit)×(Rd×Unit)))
   else
    ((Aa val_1.2.1 8).bind fun val=>some ((val.1,()),val.2,())).bind fun val=>(Cf (Ej val.1.1 val.2.1 0 [] 0 [] kind b (-1) []) val.1.1 val.2.1 0 [] 0 [] kind b (-1) []).bind fun val=>some (((val.2.2.2.2.2,()),val.1,()):((m9×Unit)×(Rd×Unit)))) fun q=>Pl (K + 50) q.2.1:=by
 refine Av h (by omega) (by omega) fun v r1 v0 v1 h1=>?_
 dsimp only
 refine Ao.cond (fun _=>?_) fun _=>(A0s kind b (-1) h1 (by omega)).mono fun q hq=>hq.mono (by omega)
 refine Av h1 (by omega) (by omega) fun c r2 c0 c1 h2=>?_
 dsimp only
 refine Av h2 (by omega) (by omega) fun u r3 u0 u1 h3=>?_
 dsimp only
 refine Ao.cond (fun _=>?_) fun _=>(A0s kind b c h3 (by omega)).mono fun q hq=>hq.mono (by omega)
 refine Av h3 (by omega) (by omega) fun z r4 z0 z1 h4=>?_
 dsimp only
 exact (A0s kind b z h4 (by omega)).mono fun q hq=>hq.mono (by omega)
theorem A6l {K:Nat} {r:Rd} (up:Bool) (h:Pl K r) (hK:K + 1000 < 1000000000000):Ao (L2 r up) fun q=>Pl (K + 500) q.2.1:=by
 rw [l4]
 unfold M6
 refine Av h (by omega) (by omega) fun v r1 v0 v1 h1=>?_
 dsimp only
 refine Ao.cond (fun _=>Ao.cond (fun _=>(Akr 1 [] h1 (by omega)).mono fun q hq=>hq.mono (by omega)) fun _=>?_) fun _=>?_
 all_goals
  refine Ao.cond (fun _=>?_) fun _=>Ao.cond (fun _=>(Akr 3 [] h1 (by omega)).mono fun q hq=>hq.mono (by omega)) fun _=>Ao.cond (fun _=>(Akr 4 [] h1 (by omega)).mono fun q hq=>hq.mono (by omega)) fun _=>Ao.cond (fun _=>(Akr 5 [] h1 (by omega)).mono fun q hq=>hq.mono (by omega)) fun _=>?_
  ·refine Ao.bind (A6k h1 (by omega)) fun q hq=>?_
   exact (Akr 2 q.1.1 hq.2 (by omega)).mono fun q hq=>hq.mono (by omega)
  ·refine Av h1 (by omega) (by omega) fun c r2 c0 c1 h2=>?_
   dsimp only
   refine Ao.go (Ag c0) (Ao.go (Ag c1) ?_)
   exact (Akr _ [] h2 (by omega)).mono fun q hq=>hq.mono (by omega)
def U3 {R:Type} (k:Kt R):=(N3 (In 21) (.exit 0) 2 k)
def Abv {R:Type}:Lt R In:=(G3 (pat:=In) 21 (fun d k=>(Ak d).bind (U3 k)) Jo)
theorem l6:A4 Try.prog k9:=A9 ⟨B5,Ac3,trivial⟩
theorem Afp {R:Type}:Bg Try.prog R 71 1 In Abv U2:=
 C8 (cfg:=⟨k9,1,71,In⟩) 21 [] (fun NX X d=>(u4 (u4 (Ad (Ad Aj)))) (H3  NX X) d) (fun m d=>(u4 (u4 (Ad (Ad Aj)))) (Cf m) d) (fun d=>(u4 (u4 (Ad (Ad Aj)))) Ej d) U3 l6 trivial (fun f NX d=>by simp only [u4,Ad,Aj]; unfold H3; simp only [nb])
theorem Am9:Cg Try.prog 82 l5:=
 Ba (pat:=In) [U2] Abv l6 ⟨Afp,trivial⟩ Try.func82 (de:=fun x=>M6 x.1 x.2.1) (fun x r h=>by have q:L2 x.1 x.2.1=some r:=h; rw [l4] at q; exact q) fun _=>by kernel_rfl
def Jn (v4:Int) (_:(List Int)×Int×Unit) (_ _:Da):Nat:=v4.toNat + 1
def Aim:H6:=⟨[.bx 116 (.pair (.sl (.int .u8)) (.pair tI .unit))],[none],[.rd tI,.own 9 .str,.own 82 Db,.rd .bool,.rd tI,.rd tI,.rd tI,.rd tI,.rd tI,.rd tI,.rd tI,.rd tI,.rd tI,.rd (.sl B4),.own 30 Li,.own 9 .str],[some 16]⟩
def Wo:Tb:=tb [(42,Br),(78,Aaq),(79,j8),(80,k8),(81,Z5),(82,l5)]
def Gr:Nat→Dv×(Nat→Dv):=Jc [(6,⟨[.boxSl 2 1 .str,.boxSl 2 2 Db,.boxSl 2 13 B4,.boxSl 2 14 Li,.boxSl 2 15 .str,.boxSl 3 1 .str,.boxSl 3 2 Db,.boxSl 3 13 B4,.boxSl 3 14 Li,.boxSl 3 15 .str],[(0,.lf (.ptr 0 0)),(2,.lf (.ptr 1 0)),(3,.lf (.ptr 2 0)),(4,.lf (.d tI))],[.box 116 [.d (.pair (.sl (.int .u8)) (.pair tI .unit))],.box 98 [.d Nc],.box 98 [.d Nc]]⟩,[(2,⟨[.boxSl 2 1 .str,.boxSl 2 2 Db,.boxSl 2 13 B4,.boxSl 2 14 Li,.boxSl 2 15 .str,.boxSl 3 1 .str,.boxSl 3 2 Db,.boxSl 3 13 B4,.boxSl 3 14 Li,.boxSl 3 15 .str],[(0,.lf (.ptr 0 0)),(2,.lf (.ptr 1 0)),(3,.lf (.ptr 2 0))],[.box 116 [.d (.pair (.sl (.int .u8)) (.pair tI .unit))],.box 98 [.d Nc],.box 98 [.d Nc]]⟩)])]
def Sm:Code:=(Ax (Bs Try.f58)).getD 0 .skip
def G1 {R:Type}  (NX:((Int)×((List Int)×Int×Unit)×Da×Da×Unit)→Option R) (X2:(((List Int)×Int×Unit)×Da×Da×Unit)→Option R) (v4:Int) (b0:(List Int)×Int×Unit) (b1:Da) (b2:Da):Option R:=
 bif decide (v4 > 0) then (L2 b0 b2.2.2.1).bind fun val=>(Ke b2 val.1.1).bind fun val_1=>NX (IntKind.i64.wrap (v4 - 1),val.2.1,b1,val_1.1) else X2 (b0,b1,b2,())
def Dz:Nat→(Int)→((List Int)×Int×Unit)→Da→Da →  Option (((List Int)×Int×Unit)×Da×Da×Unit)
 | 0,_,_,_,_=>none
 | m + 1,v4,b0,b1,b2=>G1  (fun d=>Dz m d.1 d.2.1 d.2.2.1 d.2.2.2.1) (fun d=>some (d)) v4 b0 b1 b2
def Ac4 (d:(Int)×((List Int)×Int×Unit)×Da×Da×Unit):Option (((List Int)×Int×Unit)×Da×Da×Unit):=(u4 Aj) (Dz ((u4 Aj) Jn d)) d
def Lg (a0:(List Int)×Int×Unit):Option ((((Int)×(List Ab)×(List Wr)×(Bool)×(Int)×(Int)×(Int)×(Int)×(Int)×(Int)×(Int)×(Int)×(Int)×(List Bx)×(List Kb)×(List Ab)×Unit)×(((List Int)×Int×Unit)×Unit))):=
 ((Aa a0 16).bind fun val=>some ((val.1,()),val.2,())).bind fun val=>bif val.1.1==0 then (Lz val.2.1).bind fun val=>(Je val.1.1).bind fun val_1=>some (val_1.1,val.2) else (L1 val.2.1).bind fun val=>((Aa val.2.1 30).bind fun val=>some ((val.1,()),val.2,())).bind fun val_1=>((fun d=>Dz (Jn d.1 d.2.1 d.2.2.1 d.2.2.2.1) d.1 d.2.1 d.2.2.1 d.2.2.2.1) (val_1.1.1,val_1.2.1,(0,([],[],()),false,(0,0,0,(0,0,0,0,()),0,0,([],()),()),[],[],()),val.1)).bind fun val=>((Aa val.1 4).bind fun val=>some ((val.1,()),val.2,())).bind fun val_2=>bif decide (val_2.1.1 > 0) then (Ke val.2.2.1 (1,[],-1,[],())).bind fun val=>(Je val.1.1).bind fun val=>some (val.1,val_2.2) else (Je val.2.2.1).bind fun val=>some (val.1,val_2.2)
theorem Wp:∃ f,f=@Lg:=⟨_,rfl⟩
def J9:=Classical.choose Wp
theorem Wq:@J9=@Lg:=Classical.choose_spec Wp
def Ws:SD:=⟨Aim,fun x=>J9 x.1⟩
theorem A71 (b1:Da):∀ (n m K:Nat) (r:Rd) (x:Da),n < m→n≤1000→Pl K r→K + 600 * n < 1000000000→WOk x→
  Ao (Dz m n r b1 x) fun q=>Pl (K + 600 * n) q.1∧WOk q.2.2.1:=by
 intro n
 induction n with
 | zero=>
  intro m K r x hm _ h _ hw
  cases m with
  | zero=>omega
  | succ m=>
   simp only [Dz,G1]
   exact Ao.no (by rfl) (Ao.some ⟨h,hw⟩)
 | succ n ih=>
  intro m K r x hm hn h hK hw
  cases m with
  | zero=>omega
  | succ m=>
   simp only [Dz,G1]
   refine Ao.go (Ag (by omega)) ?_
   refine Ao.bind (A6l _ h (by omega)) fun q hq=>?_
   refine Ao.bind (A2i hw _) fun z hz=>?_
   have hw':WOk z.1.1:=by rw [hz]; exact hw.doI _
   rw [show IntKind.i64.wrap (((n + 1:Nat):Int) - 1)=(n:Int) by rw [Al (by omega) (by omega)]; omega]
   exact (ih m (K + 500) q.2.1 z.1.1 (by omega) (by omega) hq (by omega) hw').mono fun y hy=>⟨hy.1.mono (by omega),hy.2⟩
theorem A0t {K:Nat} {r:Rd} (h:Pl K r) (hK:K + 100000 < 1000000000):Ao (J9 r) fun q=>WOk (unW q.1)∧Pl (K + 20000) q.2.1:=by
 rw [Wq]
 unfold Lg
 refine Av h (by omega) (by omega) fun v r1 v0 v1 h1=>?_
 dsimp only
 refine Ao.cond (fun _=>?_) fun _=>?_
 ·refine Ao.bind (A6i h1 (by omega)) fun q hq=>?_
  refine Ao.bind (Av0 hq.1) fun z hz=>Ao.some ⟨?_,hq.2.mono (by omega)⟩
  show WOk (unW z.1)
  rw [hz]
  exact hq.1
 ·refine Ao.bind (A6j h1 (by omega)) fun q hq=>?_
  refine Av hq.2 (by omega) (by omega) fun u r2 u0 u1 h2=>?_
  dsimp only
  obtain ⟨n,rfl⟩:∃ n:Nat,u=(n:Int):=⟨u.toNat,by omega⟩
  refine Ao.bind (A71 _ n _ _ r2 q.1.1 (by simp only [Jn]; omega) (by omega) h2 (by omega) hq.1) fun y hy=>?_
  refine Av hy.1 (by omega) (by omega) fun t r3 t0 t1 h3=>?_
  dsimp only
  refine Ao.cond (fun _=>?_) fun _=>?_
  ·refine Ao.bind (A2i hy.2 _) fun z hz=>?_
   have hw':WOk z.1.1:=by rw [hz]; exact hy.2.doI _
   refine Ao.bind (Av0 hw') fun y hy=>Ao.some ⟨?_,h3.mono (by omega)⟩
   show WOk (unW y.1)
   rw [hy]
   exact hw'
  ·refine Ao.bind (Av0 hy.2) fun z hz=>Ao.some ⟨?_,h3.mono (by omega)⟩
   show WOk (unW z.1)
   rw [hz]
   exact hy.2
def Sn {R:Type} (k:Kt R):=(N3 (Gr 6) (.exit 0) 2 k)
def Y0 {R:Type}:Lt R Gr:=(G3 (pat:=Gr) 6 (fun d k=>(Ac4 d).bind (Sn k)) Jo)
theorem Wt:A4 Try.prog Wo:=A9 ⟨B5,Aqq,Am5,Am7,Aih,Am9,trivial⟩
theorem Ac5 {R:Type}:Bg Try.prog R 33 1 Gr Y0 Sm:=
 C8 (cfg:=⟨Wo,1,33,Gr⟩) 6 [] (fun NX X d=>(u4 Aj) (G1  NX X) d) (fun m d=>(u4 Aj) (Dz m) d) (fun d=>(u4 Aj) Jn d) Sn Wt trivial (fun f NX d=>by simp only [u4,Ad,Aj]; unfold G1; simp only [nb])
theorem Ain:Cg Try.prog 58 Ws:=
 Ba (pat:=Gr) [Sm] Y0 Wt ⟨Ac5,trivial⟩ Try.func58 (de:=fun x=>Lg x.1) (fun x r h=>by have q:J9 x.1=some r:=h; rw [Wq] at q; exact q) fun _=>by kernel_rfl
def Kr (v6:Int) (_:(List Int)×Int×Unit) (_:List Ab) (_:List Wr) (_:List Ab) (r6:List Wr):Nat:=v6.toNat - r6.length + 1
def Ks (v7:Int) (_:(List Int)×Int×Unit) (_:List Ab) (_:List Wr) (r5:List Ab) (_:List Wr):Nat:=v7.toNat - r5.length + 1
def Ana:H6:=⟨[.bx 116 (.pair (.sl (.int .u8)) (.pair tI .unit)),.rd yDk],[none,some 2],[.rd (.sl .str),.own 82 Db],[some 2]⟩
def Ry:Tb:=tb [(42,Br),(43,Ru),(47,Ht)]
def Dq:Nat→Dv×(Nat→Dv):=Jc [(17,⟨[.boxRow 4 0 9 .str,.boxRow 4 1 82 Db,.boxRow 5 0 9 .str,.boxRow 5 1 82 Db],[(4,.lf (.ptr 1 0)),(5,.lf (.ptr 2 0)),(6,.lf (.d tI))],[.box 116 [.d (.pair (.sl (.int .u8)) (.pair tI .unit))],.box 41 [.row 3,.row 4],.box 41 [.row 5,.row 6],.row 9 .str,.row 82 Db,.row 9 .str,.row 82 Db]⟩,[(3,⟨[.boxRow 4 0 9 .str,.boxRow 4 1 82 Db,.boxRow 5 0 9 .str,.boxRow 5 1 82 Db],[(4,.lf (.ptr 1 0)),(5,.lf (.ptr 2 0))],[.box 116 [.d (.pair (.sl (.int .u8)) (.pair tI .unit))],.box 41 [.row 3,.row 4],.box 41 [.row 5,.row 6],.row 9 .str,.row 82 Db,.row 9 .str,.row 82 Db]⟩)]),(21,⟨[.boxRow 4 0 9 .str,.boxRow 4 1 82 Db,.boxRow 5 0 9 .str,.boxRow 5 1 82 Db],[(4,.lf (.ptr 1 0)),(5,.lf (.ptr 2 0)),(7,.lf (.d tI))],[.box 116 [.d (.pair (.sl (.int .u8)) (.pair tI .unit))],.box 41 [.row 3,.row 4],.box 41 [.row 5,.row 6],.row 9 .str,.row 82 Db,.row 9 .str,.row 82 Db]⟩,[(5,⟨[.boxRow 4 0 9 .str,.boxRow 4 1 82 Db,.boxRow 5 0 9 .str,.boxRow 5 1 82 Db],[(4,.lf (.ptr 1 0)),(5,.lf (.ptr 2 0))],[.box 116 [.d (.pair (.sl (.int .u8)) (.pair tI .unit))],.box 41 [.row 3,.row 4],.box 41 [.row 5,.row 6],.row 9 .str,.row 82 Db,.row 9 .str,.row 82 Db]⟩)])]
def U4:Code:=(Ax (Bs Try.f59)).getD 0 .skip
def U5:Code:=(Ax (Bs Try.f59)).getD 1 .skip
def H4 {R:Type}  (NX:((Int)×((List Int)×Int×Unit)×(List Ab)×(List Wr)×(List Ab)×(List Wr)×Unit)→Option R) (X5:(((List Int)×Int×Unit)×(List Ab)×(List Wr)×(List Ab)×(List Wr)×Unit)→Option R) (v7:Int) (b0:(List Int)×Int×Unit) (r3:List Ab) (r4:List Wr) (r5:List Ab) (r6:List Wr):Option R:=
 bif decide (nI r5.length < v7) then bif decide ((r5.length + [Dl].length) * 16≤140737488355328) then NX (v7,b0,r3,r4,r5++[Dl],r6,()) else none else X5 (b0,r3,r4,r5,r6,())
def Ek:Nat→(Int)→((List Int)×Int×Unit)→(List Ab)→(List Wr)→(List Ab)→(List Wr) →  Option (((List Int)×Int×Unit)×(List Ab)×(List Wr)×(List Ab)×(List Wr)×Unit)
 | 0,_,_,_,_,_,_=>none
 | m + 1,v7,b0,r3,r4,r5,r6=>H4  (fun d=>Ek m d.1 d.2.1 d.2.2.1 d.2.2.2.1 d.2.2.2.2.1 d.2.2.2.2.2.1) (fun d=>some (d)) v7 b0 r3 r4 r5 r6
def Afq (d:(Int)×((List Int)×Int×Unit)×(List Ab)×(List Wr)×(List Ab)×(List Wr)×Unit):Option (((List Int)×Int×Unit)×(List Ab)×(List Wr)×(List Ab)×(List Wr)×Unit):=(u4 (Ad (Ad Aj))) (Ek ((u4 (Ad (Ad Aj))) Ks d)) d
def H5 {R:Type}  (NX:((Int)×((List Int)×Int×Unit)×(List Ab)×(List Wr)×(List Ab)×(List Wr)×Unit)→Option R) (X3:(((List Int)×Int×Unit)×(List Ab)×(List Wr)×(List Ab)×(List Wr)×Unit)→Option R) (v6:Int) (b0:(List Int)×Int×Unit) (r3:List Ab) (r4:List Wr) (r5:List Ab) (r6:List Wr):Option R:=
 bif decide (nI r6.length < v6) then bif decide ((r6.length + [(3,Dl,())].length) * 24≤140737488355328) then NX (v6,b0,r3,r4,r5,r6++[(3,Dl,())],()) else none else X3 (b0,r3,r4,r5,r6,())
def Em:Nat→(Int)→((List Int)×Int×Unit)→(List Ab)→(List Wr)→(List Ab)→(List Wr) →  Option (((List Int)×Int×Unit)×(List Ab)×(List Wr)×(List Ab)×(List Wr)×Unit)
 | 0,_,_,_,_,_,_=>none
 | m + 1,v6,b0,r3,r4,r5,r6=>H5  (fun d=>Em m d.1 d.2.1 d.2.2.1 d.2.2.2.1 d.2.2.2.2.1 d.2.2.2.2.2.1) (fun d=>some (d)) v6 b0 r3 r4 r5 r6
def Afr (d:(Int)×((List Int)×Int×Unit)×(List Ab)×(List Wr)×(List Ab)×(List Wr)×Unit):Option (((List Int)×Int×Unit)×(List Ab)×(List Wr)×(List Ab)×(List Wr)×Unit):=(u4 (Ad (Ad Aj))) (Em ((u4 (Ad (Ad Aj))) Kr d)) d
def M7 (a0:(List Int)×Int×Unit) (a1:Dk):Option ((Dk×(((List Int)×Int×Unit)×Unit))):=
 ((Cs a1).bind fun val=>some (val,())).bind fun val=>((Aa a0 7).bind fun val=>some ((val.1,()),val.2,())).bind fun val_1=>bif val_1.1.1==0 then bif decide (nI (List.length val.1.1) > 0) then ((Aa val_1.2.1 (nI (List.length val.1.1))).bind fun val=>some ((val.1,()),val.2,())).bind fun val_2=>bif decide (0≤val_2.1.1) then bif decide (val_2.1.1 < nI (List.length val.1.1)) then bif decide (Int.toNat val_2.1.1 < List.length val.1.1) then some ((List.set val.1.1 (Int.toNat val_2.1.1) (ByteArray.mk #[115,104,111,114,116]),val.1.2),val_2.2) else none else none else none else some (val.1,val_1.2) else bif val_1.1.1==1 then ((Aa val_1.2.1 (IntKind.i64.wrap (nI (List.length val.1.1) + 1))).bind fun val=>some ((val.1,()),val.2,())).bind fun val_2=>bif decide (0≤val_2.1.1) then bif decide (val_2.1.1≤nI (List.length val.1.1)) then some ((List.drop (Int.toNat 0) (List.take (Int.toNat val_2.1.1) val.1.1),val.1.2),val_2.2) else none else none else bif val_1.1.1==2 then ((Aa val_1.2.1 3).bind fun val=>some ((val.1,()),val.2,())).bind fun val_2=>bif decide (0≤val_2.1.1) then bif decide (val_2.1.1 < nI [-1,nI (List.length val.1.1),0].length) then bif decide ((List.length val.1.2.1 + [([-1,nI (List.length val.1.1),0].getD (Int.toNat val_2.1.1) 0,Dl,())].length) * 24≤140737488355328) then some ((val.1.1,val.1.2.1++[([-1,nI (List.length val.1.1),0].getD (Int.toNat val_2.1.1) 0,Dl,())],()),val_2.2) else none else none else none else bif val_1.1.1==3 then bif decide ((List.length val.1.2.1 + [(2,ByteArray.mk #[115,104,111,114,116],())].length) * 24≤140737488355328) then some ((val.1.1,val.1.2.1++[(2,ByteArray.mk #[115,104,111,114,116],())],()),val_1.2) else none else bif val_1.1.1==4 then ((Aa val_1.2.1 2).bind fun val=>some ((val.1,()),val.2,())).bind fun val_2=>((fun d=>Em (Kr d.1 d.2.1 d.2.2.1 d.2.2.2.1 d.2.2.2.2.1 d.2.2.2.2.2.1) d.1 d.2.1 d.2.2.1 d.2.2.2.1 d.2.2.2.2.1 d.2.2.2.2.2.1) (IntKind.i64.wrap (300 + val_2.1.1),val_2.2.1,[],[],val.1)).bind fun val=>some (val.2.2.2,val.1,()) else bif val_1.1.1==5 then ((Aa val_1.2.1 2).bind fun val=>some ((val.1,()),val.2,())).bind fun val_2=>((fun d=>Ek (Ks d.1 d.2.1 d.2.2.1 d.2.2.2.1 d.2.2.2.2.1 d.2.2.2.2.2.1) d.1 d.2.1 d.2.2.1 d.2.2.2.1 d.2.2.2.2.1 d.2.2.2.2.2.1) (IntKind.i64.wrap (200 + val_2.1.1),val_2.2.1,[],[],val.1)).bind fun val=>some (val.2.2.2,val.1,()) else bif decide (nI (List.length val.1.1) > 4) then ((Aa val_1.2.1 2).bind fun val=>some ((val.1,()),val.2,())).bind fun val_2=>((Aa val_2.2.1 (nI (List.length val.1.1))).bind fun val=>some ((val.1,()),val.2,())).bind fun val_3=>bif decide (0≤val_3.1.1) then bif decide (val_3.1.1 < nI (List.length val.1.1)) then bif decide (0≤IntKind.i64.wrap (2 + val_2.1.1)) then bif decide (IntKind.i64.wrap (2 + val_2.1.1) < nI (List.length val.1.1)) then bif decide ((IntKind.i64.wrap (2 + val_2.1.1)).toNat < List.length val.1.1) then some ((List.set val.1.1 (IntKind.i64.wrap (2 + val_2.1.1)).toNat (List.getD val.1.1 (Int.toNat val_3.1.1) (Af)),val.1.2),val_3.2) else none else none else none else none else none else some (val.1,val_1.2)
theorem l7:∃ f,f=@M7:=⟨_,rfl⟩
def Gb:=Classical.choose l7
theorem l8:@Gb=@M7:=Classical.choose_spec l7
def l9:SD:=⟨Ana,fun x=>Gb x.1 x.2.1⟩
theorem Bac (r:Rd) (r3:List Ab) (r4:List Wr) (r5:List Ab) (v:Int) (hv:v≤1000):∀ (k m:Nat) (l:List Wr),v≤(l.length:Int) + k→k < m→l.length + k≤2000001000→
  Ao (Em m v r r3 r4 r5 l) fun q=>q.1=r∧q.2.2.2.1=r5∧q.2.2.2.2.1.length≤l.length + k
 | 0,m + 1,l,h,_,_=>by
  simp only [Em,H5]
  exact Ao.no (Bi (by simp only [nI]; omega)) (Ao.some ⟨rfl,rfl,Nat.le_refl _⟩)
 | k + 1,m + 1,l,h,hm,hl=>by
  simp only [Em,H5]
  refine Ao.cond (fun c=>?_) fun _=>Ao.some ⟨rfl,rfl,by dsimp only; omega⟩
  have c:=Fw c
  simp only [nI] at c
  refine Ao.go (Ag (by simp only [Et]; omega)) ?_
  refine (Bac r r3 r4 r5 v hv k m _ (by rw [Ey,Et]; omega) (by omega) (by rw [Ey,Et]; omega)).mono fun q hq=>⟨hq.1,hq.2.1,?_⟩
  have:=hq.2.2
  rw [Ey,Et] at this
  omega
theorem Bad (r:Rd) (r3:List Ab) (r4 r6:List Wr) (v:Int) (hv:v≤1000):∀ (k m:Nat) (l:List Ab),v≤(l.length:Int) + k→k < m→l.length + k≤2000001000→
  Ao (Ek m v r r3 r4 l r6) fun q=>q.1=r∧q.2.2.2.2.1=r6∧q.2.2.2.1.length≤l.length + k
 | 0,m + 1,l,h,_,_=>by
  simp only [Ek,H4]
  exact Ao.no (Bi (by simp only [nI]; omega)) (Ao.some ⟨rfl,rfl,Nat.le_refl _⟩)
 | k + 1,m + 1,l,h,hm,hl=>by
  simp only [Ek,H4]
  refine Ao.cond (fun c=>?_) fun _=>Ao.some ⟨rfl,rfl,by dsimp only; omega⟩
  have c:=Fw c
  simp only [nI] at c
  refine Ao.go (Ag (by simp only [Et]; omega)) ?_
  refine (Bad r r3 r4 r6 v hv k m _ (by rw [Ey,Et]; omega) (by omega) (by rw [Ey,Et]; omega)).mono fun q hq=>⟨hq.1,hq.2.1,?_⟩
  have:=hq.2.2
  rw [Ey,Et] at this
  omega
theorem A3y {K:Nat} {r:Rd} {d:Dk} (h:Pl K r) (hK:K + 100 < 1000000000000) (h1:d.1.length≤1073741824) (h2:d.2.1.length≤1073741824):
  Ao (Gb r d) fun q=>(q.1.1.length≤1073751824∧q.1.2.1.length≤1073751824)∧Pl (K + 10) q.2.1:=by
 rw [l8]
 unfold M7
 refine Ao.bind (Q:=fun q=>q=(d,())) (Ao.bind ⟨_,if_pos ⟨Nat.le_trans h1 (by decide),Nat.le_trans h2 (by decide)⟩,rfl⟩ fun a ha=>Ao.some (by rw [ha])) fun q hq=>?_
 subst hq
 refine Av h (by omega) (by omega) fun v r1 v0 v1 g1=>?_
 dsimp only
 have hn:nI d.1.length=(d.1.length:Int):=rfl
 refine Ao.cond (fun _=>?_) fun _=>Ao.cond (fun _=>?_) fun _=>Ao.cond (fun _=>?_) fun _=>Ao.cond (fun _=>?_) fun _=>Ao.cond (fun _=>?_) fun _=>Ao.cond (fun _=>?_) fun _=>?_
 ·refine Ao.cond (fun c=>?_) fun _=>Ao.some ⟨⟨by dsimp only; omega,by dsimp only; omega⟩,g1.mono (by omega)⟩
  have c:=Fw c
  refine Av g1 (by omega) (by omega) fun u r2 u0 u1 g2=>?_
  dsimp only
  refine Ao.go (Ag u0) (Ao.go (Ag u1) (Ao.go (Ag (by omega)) (Ao.some ⟨⟨?_,by dsimp only; omega⟩,g2.mono (by omega)⟩)))
  dsimp only
  rw [List.length_set]
  omega
 ·rw [show IntKind.i64.wrap (nI d.1.length + 1)=nI d.1.length + 1 from Al (by omega) (by omega)]
  refine Av g1 (by omega) (by omega) fun u r2 u0 u1 g2=>?_
  dsimp only
  refine Ao.go (Ag u0) (Ao.go (Ag (by omega)) (Ao.some ⟨⟨?_,by dsimp only; omega⟩,g2.mono (by omega)⟩))
  simp only [List.length_drop,List.length_take]
  omega
 ·refine Av g1 (by omega) (by omega) fun u r2 u0 u1 g2=>?_
  dsimp only
  refine Ao.go (Ag u0) (Ao.go (Ag u1) (Ao.go (Ag (by simp only [Et]; omega)) (Ao.some ⟨⟨by dsimp only; omega,by simp only [Ey,Et]; omega⟩,g2.mono (by omega)⟩)))
 ·refine Ao.go (Ag (by simp only [Et]; omega)) (Ao.some ⟨⟨by dsimp only; omega,by simp only [Ey,Et]; omega⟩,g1.mono (by omega)⟩)
 ·refine Av g1 (by omega) (by omega) fun u r2 u0 u1 g2=>?_
  dsimp only
  rw [show IntKind.i64.wrap (300 + u)=300 + u from Al (by omega) (by omega)]
  refine Ao.bind (Bac r2 [] [] d.1 (300 + u) (by omega) ((300 + u).toNat - d.2.1.length) _ d.2.1 (by omega) (by simp only [Kr]; omega) (by omega)) fun q hq=>Ao.some ⟨⟨?_,?_⟩,?_⟩
  ·show q.2.2.2.1.length≤_; rw [hq.2.1]; omega
  ·show q.2.2.2.2.1.length≤_; have:=hq.2.2; omega
  ·show Pl _ q.1; rw [hq.1]; exact g2.mono (by omega)
 ·refine Av g1 (by omega) (by omega) fun u r2 u0 u1 g2=>?_
  dsimp only
  rw [show IntKind.i64.wrap (200 + u)=200 + u from Al (by omega) (by omega)]
  refine Ao.bind (Bad r2 [] [] d.2.1 (200 + u) (by omega) ((200 + u).toNat - d.1.length) _ d.1 (by omega) (by simp only [Ks]; omega) (by omega)) fun q hq=>Ao.some ⟨⟨?_,?_⟩,?_⟩
  ·show q.2.2.2.1.length≤_; have:=hq.2.2; omega
  ·show q.2.2.2.2.1.length≤_; rw [hq.2.1]; omega
  ·show Pl _ q.1; rw [hq.1]; exact g2.mono (by omega)
 ·refine Ao.cond (fun c=>?_) fun _=>Ao.some ⟨⟨by dsimp only; omega,by dsimp only; omega⟩,g1.mono (by omega)⟩
  have c:=Fw c
  refine Av g1 (by omega) (by omega) fun u r2 u0 u1 g2=>?_
  dsimp only
  refine Av g2 (by omega) (by omega) fun z r3 z0 z1 g3=>?_
  dsimp only
  rw [show IntKind.i64.wrap (2 + u)=2 + u from Al (by omega) (by omega)]
  refine Ao.go (Ag z0) (Ao.go (Ag z1) (Ao.go (Ag (by omega)) (Ao.go (Ag (by omega)) (Ao.go (Ag (by omega)) (Ao.some ⟨⟨?_,by dsimp only; omega⟩,g3.mono (by omega)⟩)))))
  dsimp only
  rw [List.length_set]
  omega
def U6 {R:Type} (k:Kt R):=(N3 (Dq 17) (.exit 1) 3 k)
def U7 {R:Type} (k:Kt R):=(N3 (Dq 21) (.exit 3) 5 k)
def U8 {R:Type}:Lt R Dq:=(G3 (pat:=Dq) 17 (fun d k=>(Afr d).bind (U6 k)) (G3 (pat:=Dq) 21 (fun d k=>(Afq d).bind (U7 k)) Jo))
theorem Rz:A4 Try.prog Ry:=A9 ⟨B5,i8,Jv,trivial⟩
theorem Afs {R:Type}:Bg Try.prog R 116 1 Dq U8 U5:=
 C8 (cfg:=⟨Ry,1,116,Dq⟩) 21 [] (fun NX X d=>(u4 (Ad (Ad Aj))) (H4  NX X) d) (fun m d=>(u4 (Ad (Ad Aj))) (Ek m) d) (fun d=>(u4 (Ad (Ad Aj))) Ks d) U7 Rz trivial (fun f NX d=>by simp only [u4,Ad,Aj]; unfold H4; simp only [nb])
theorem Aft {R:Type}:Bg Try.prog R 116 1 Dq U8 U4:=
 C8 (cfg:=⟨Ry,1,116,Dq⟩) 17 [] (fun NX X d=>(u4 (Ad (Ad Aj))) (H5  NX X) d) (fun m d=>(u4 (Ad (Ad Aj))) (Em m) d) (fun d=>(u4 (Ad (Ad Aj))) Kr d) U6 Rz trivial (fun f NX d=>by simp only [u4,Ad,Aj]; unfold H5; simp only [nb])
theorem Anb:Cg Try.prog 59 l9:=
 Ba (pat:=Dq) [U4,U5] U8 Rz ⟨Aft,Afs,trivial⟩ Try.func59 (de:=fun x=>M7 x.1 x.2.1) (fun x r h=>by have q:Gb x.1 x.2.1=some r:=h; rw [l8] at q; exact q) fun _=>by kernel_rfl
def Ku (_:List Int) (_ v8:Int) (_:List Ab) (_:List Wr) (_:List Int) (_:Int) (_:List Wr) (_:List Ab):Nat:=(2 - v8).toNat + 1
def Abw:H6:=⟨[.rd (.sl (.int .u8))],[none],[.rd yDk,.rd tI],[some 2,none]⟩
def Ra:Tb:=tb [(23,Lq),(25,Ju),(39,Tr),(42,Br),(56,Fq),(58,Ws),(59,l9)]
def Es:Nat→Dv×(Nat→Dv):=Jc [(8,⟨[.sl 0 0 (.int .u8),.boxSl 2 0 .str,.boxSl 2 1 Db,.boxSl 4 0 (.int .u8),.boxRow 6 0 9 .str,.boxSl 6 1 Db],[(0,.lf (.d (.sl (.int .u8)))),(2,.lf (.ptr 0 0)),(4,.lf (.ptr 1 0)),(6,.lf (.ptr 2 0)),(7,.lf (.d tI)),(8,.lf (.d tI))],[.box 41 [.d (.sl .str),.d (.sl Db)],.box 116 [.d (.sl (.int .u8)),.d tI],.box 41 [.row 3,.d (.sl Db)],.row 9 .str]⟩,[(2,⟨[.boxSl 2 0 .str,.boxSl 2 1 Db,.boxSl 4 0 (.int .u8),.boxRow 6 0 9 .str,.boxSl 6 1 Db],[(2,.lf (.ptr 0 0)),(4,.lf (.ptr 1 0)),(6,.lf (.ptr 2 0)),(7,.lf (.d tI))],[.box 41 [.d (.sl .str),.d (.sl Db)],.box 116 [.d (.sl (.int .u8)),.d tI],.box 41 [.row 3,.d (.sl Db)],.row 9 .str]⟩)])]
def Pd:Code:=(Ax (Bs Try.f26)).getD 0 .skip
def E9 {R:Type}  (NX:((List Int)×(Int)×(Int)×(List Ab)×(List Wr)×(List Int)×(Int)×(List Wr)×(List Ab)×Unit)→Option R) (X2:((Int)×(List Ab)×(List Wr)×(List Int)×(Int)×(List Wr)×(List Ab)×Unit)→Option R) (v0:List Int) (v7:Int) (v8:Int) (b0_0:List Ab) (b0_1:List Wr) (b1_0:List Int) (b1_1:Int) (b2_1:List Wr) (r3:List Ab):Option R:=
 bif decide (v8 < 2) then (Fc v0).bind fun val=>((Aa (b1_0,b1_1,()) 3).bind fun val=>some ((val.1,()),val.2,())).bind fun val_1=>((Aa val_1.2.1 2).bind fun val=>some ((val.1,()),val.2,())).bind fun val_2=>((Aa val_2.2.1 6).bind fun val=>some ((val.1,()),val.2,())).bind fun val_3=>bif val_3.1.1==0 then ((Aa val_3.2.1 4).bind fun val=>some ((val.1,()),val.2,())).bind fun val=>((Aa val.2.1 2).bind fun val=>some ((val.1,()),val.2,())).bind fun val_4=>((Aa val_4.2.1 4).bind fun val=>some ((val.1,()),val.2,())).bind fun val_5=>bif decide (0≤val_5.1.1) then bif decide (val_5.1.1 < nI [ByteArray.mk #[0,0,0,0,1],ByteArray.mk #[2,0,0,0,1],ByteArray.mk #[0,0,0,0,0],ByteArray.mk #[1,0,0,1]].length) then bif nI (B1 (IntKind.i64.wrap (1 + val.1.1),1,IntKind.i64.wrap (2 + val_4.1.1),[ByteArray.mk #[0,0,0,0,1],ByteArray.mk #[2,0,0,0,1],ByteArray.mk #[0,0,0,0,0],ByteArray.mk #[1,0,0,1]].getD (Int.toNat val_5.1.1) (Af),()) v7).size==64 then bif decide (0≤val_2.1.1) then bif decide (val_2.1.1 < nI r3.length) then bif decide (Int.toNat val_2.1.1 < r3.length) then bif decide ((0 + v0.length) * 1≤140737488355328) then bif decide ((([]++v0).length + [IntKind.u8.wrap (IntKind.i64.wrap (v8 + 3))].length) * 1≤140737488355328) then NX ([]++v0++[IntKind.u8.wrap (IntKind.i64.wrap (v8 + 3))],v7,IntKind.i64.wrap (v8 + 1),b0_0,b0_1,val_5.2.1.1,val_5.2.1.2.1,b2_1,r3.set (Int.toNat val_2.1.1) (B1 (IntKind.i64.wrap (1 + val.1.1),1,IntKind.i64.wrap (2 + val_4.1.1),[ByteArray.mk #[0,0,0,0,1],ByteArray.mk #[2,0,0,0,1],ByteArray.mk #[0,0,0,0,0],ByteArray.mk #[1,0,0,1]].getD (Int.toNat val_5.1.1) (Af),()) v7),()) else none else none else none else none else none else bif decide ((0 + v0.length) * 1≤140737488355328) then bif decide ((([]++v0).length + [IntKind.u8.wrap (IntKind.i64.wrap (v8 + 3))].length) * 1≤140737488355328) then NX ([]++v0++[IntKind.u8.wrap (IntKind.i64.wrap (v8 + 3))],v7,IntKind.i64.wrap (v8 + 1),b0_0,b0_1,val_5.2.1.1,val_5.2.1.2.1,b2_1,r3,()) else none else none else none else none else bif nI (C1 (IntKind.i64.wrap (val.1.1.1 + val_1.1.1),val.1.1.2) v7).size==64 then bif decide (0≤val_2.1.1) then bif decide (val_2.1.1 < nI r3.length) then bif decide (Int.toNat val_2.1.1 < r3.length) then bif decide ((0 + v0.length) * 1≤140737488355328) then bif decide ((([]++v0).length + [IntKind.u8.wrap (IntKind.i64.wrap (v8 + 3))].length) * 1≤140737488355328) then NX ([]++v0++[IntKind.u8.wrap (IntKind.i64.wrap (v8 + 3))],v7,IntKind.i64.wrap (v8 + 1),b0_0,b0_1,val_3.2.1.1,val_3.2.1.2.1,b2_1,r3.set (Int.toNat val_2.1.1) (C1 (IntKind.i64.wrap (val.1.1.1 + val_1.1.1),val.1.1.2) v7),()) else none else none else none else none else none else bif decide ((0 + v0.length) * 1≤140737488355328) then bif decide ((([]++v0).length + [IntKind.u8.wrap (IntKind.i64.wrap (v8 + 3))].length) * 1≤140737488355328) then NX ([]++v0++[IntKind.u8.wrap (IntKind.i64.wrap (v8 + 3))],v7,IntKind.i64.wrap (v8 + 1),b0_0,b0_1,val_3.2.1.1,val_3.2.1.2.1,b2_1,r3,()) else none else none else X2 (v7,b0_0,b0_1,b1_0,b1_1,b2_1,r3,())
def Cc:Nat→(List Int)→(Int)→(Int)→(List Ab)→(List Wr)→(List Int)→(Int)→(List Wr)→(List Ab) →  Option ((Int)×(List Ab)×(List Wr)×(List Int)×(Int)×(List Wr)×(List Ab)×Unit)
 | 0,_,_,_,_,_,_,_,_,_=>none
 | m + 1,v0,v7,v8,b0_0,b0_1,b1_0,b1_1,b2_1,r3=>E9  (fun d=>Cc m d.1 d.2.1 d.2.2.1 d.2.2.2.1 d.2.2.2.2.1 d.2.2.2.2.2.1 d.2.2.2.2.2.2.1 d.2.2.2.2.2.2.2.1 d.2.2.2.2.2.2.2.2.1) (fun d=>some (d)) v0 v7 v8 b0_0 b0_1 b1_0 b1_1 b2_1 r3
def Z6 (d:(List Int)×(Int)×(Int)×(List Ab)×(List Wr)×(List Int)×(Int)×(List Wr)×(List Ab)×Unit):Option ((Int)×(List Ab)×(List Wr)×(List Int)×(Int)×(List Wr)×(List Ab)×Unit):=(u4 (u4 (Ad Aj))) (Cc ((u4 (u4 (Ad Aj))) Ku d)) d
def I8 (a0:List Int):Option (((Dk×(Int)×Unit)×(Unit))):=
 (K6 a0).bind fun val=>(J9 val.1.1).bind fun val=>((Aa val.2.1 2).bind fun val=>some ((val.1,()),val.2,())).bind fun val_1=>bif val_1.1.1==0 then bif decide (nI (List.length val.1.2.1) > 1) then ((fun d=>Cc (Ku d.1 d.2.1 d.2.2.1 d.2.2.2.1 d.2.2.2.2.1 d.2.2.2.2.2.1 d.2.2.2.2.2.2.1 d.2.2.2.2.2.2.2.1 d.2.2.2.2.2.2.2.2.1) d.1 d.2.1 d.2.2.1 d.2.2.2.1 d.2.2.2.2.1 d.2.2.2.2.2.1 d.2.2.2.2.2.2.1 d.2.2.2.2.2.2.2.1 d.2.2.2.2.2.2.2.2.1) (a0,val.1.1,0,[],[],val_1.2.1.1,val_1.2.1.2.1,val.1.2.2.1,val.1.2.1,())).bind fun val=>((Aa (val.2.2.2.1,val.2.2.2.2.1,()) 12).bind fun val=>some ((val.1,()),val.2,())).bind fun val_2=>bif val_2.1.1==0 then (Gb val_2.2.1 (val.2.2.2.2.2.2.1,val.2.2.2.2.2.1,())).bind fun val_3=>some ((val_3.1,val.1,()),()) else ((Aa val_2.2.1 12).bind fun val=>some ((val.1,()),val.2,())).bind fun val_3=>bif val_3.1.1==0 then ((Aa val_3.2.1 3).bind fun val=>some ((val.1,()),val.2,())).bind fun val_4=>bif decide (0≤val_4.1.1) then bif decide (val_4.1.1 < nI [0,9,3].length) then some (((val.2.2.2.2.2.2.1,val.2.2.2.2.2.1,()),[0,9,3].getD (Int.toNat val_4.1.1) 0,()),()) else none else none else some (((val.2.2.2.2.2.2.1,val.2.2.2.2.2.1,()),val.1,()),()) else ((Aa val_1.2.1 12).bind fun val=>some ((val.1,()),val.2,())).bind fun val_2=>bif val_2.1.1==0 then (Gb val_2.2.1 (val.1.2.1,val.1.2.2.1,())).bind fun val_3=>some ((val_3.1,val.1.1,()),()) else ((Aa val_2.2.1 12).bind fun val=>some ((val.1,()),val.2,())).bind fun val_3=>bif val_3.1.1==0 then ((Aa val_3.2.1 3).bind fun val=>some ((val.1,()),val.2,())).bind fun val_4=>bif decide (0≤val_4.1.1) then bif decide (val_4.1.1 < nI [0,9,3].length) then some (((val.1.2.1,val.1.2.2.1,()),[0,9,3].getD (Int.toNat val_4.1.1) 0,()),()) else none else none else some (((val.1.2.1,val.1.2.2.1,()),val.1.1,()),()) else ((Aa val_1.2.1 12).bind fun val=>some ((val.1,()),val.2,())).bind fun val_2=>bif val_2.1.1==0 then (Gb val_2.2.1 (val.1.2.1,val.1.2.2.1,())).bind fun val_3=>some ((val_3.1,val.1.1,()),()) else ((Aa val_2.2.1 12).bind fun val=>some ((val.1,()),val.2,())).bind fun val_3=>bif val_3.1.1==0 then ((Aa val_3.2.1 3).bind fun val=>some ((val.1,()),val.2,())).bind fun val_4=>bif decide (0≤val_4.1.1) then bif decide (val_4.1.1 < nI [0,9,3].length) then some (((val.1.2.1,val.1.2.2.1,()),[0,9,3].getD (Int.toNat val_4.1.1) 0,()),()) else none else none else some (((val.1.2.1,val.1.2.2.1,()),val.1.1,()),())
theorem Rb:∃ f,f=@I8:=⟨_,rfl⟩
def G2:=Classical.choose Rb
theorem Rc:@G2=@I8:=Classical.choose_spec Rb
def Re:SD:=⟨Abw,fun x=>G2 x.1⟩
theorem A3z {l:List Int} {x:Int} (h:R1 (.sl (.int .u8)) l) (hx:R1 (.int .u8) x) (hl:l.length + 1≤1048600):R1 (.sl (.int .u8)) (l++[x]):=by
 refine ⟨(show List.length (α:=Int) (l++[x])≤reachBytes from Nat.le_trans (by rw [Ey]; exact hl) (show 1048600≤reachBytes by decide)),fun i y hy=>?_⟩
 have hy:(l++[x])[i]? = some y:=hy
 by_cases q:i < l.length
 ·rw [List.getElem?_append_left q] at hy
  exact h.2 i y hy
 ·rw [List.getElem?_append_right (by omega)] at hy
  have:i - l.length=0:=by
   have:=(List.getElem?_eq_some_iff.1 hy).1
   simp at this
   omega
  rw [this] at hy
  cases hy
  exact hx
theorem A72 {i:Nat} (h:i < 2):R1 (.int .u8) (IntKind.u8.wrap (IntKind.i64.wrap ((i:Int) + 3))):=by
 have:i=0∨i=1:=by omega
 rcases this with rfl | rfl
 ·show (Lit.int .u8 _).wf=true; decide +kernel
 ·show (Lit.int .u8 _).wf=true; decide +kernel
theorem A73 (v7:Int) (b0:List Ab) (b1 P:List Wr):∀ (k m i K:Nat) (v0:List Int) (r:Rd) (D:List Ab),i + k=2→k < m→R1 (.sl (.int .u8)) v0→v0.length + k≤1048600→Pl K r→2≤D.length→K + 100 * k < 1000000000→
  Ao (Cc m v0 v7 i b0 b1 r.1 r.2.1 P D) fun q=>Pl (K + 10 * k) (q.2.2.2.1,q.2.2.2.2.1,())∧q.2.2.2.2.2.2.1.length=D.length∧q.2.2.2.2.2.1=P:=by
 intro k
 induction k with
 | zero=>
  intro m i K v0 r D hi hm _ _ h _ _
  cases m with
  | zero=>omega
  | succ m=>
   simp only [Cc,E9]
   exact Ao.no (Bi (by omega)) (Ao.some ⟨h,rfl,rfl⟩)
 | succ k ih=>
  intro m i K v0 r D hi hm hv hl h hD hK
  cases m with
  | zero=>omega
  | succ m=>
   have e1:IntKind.i64.wrap ((i:Int) + 1)=((i + 1:Nat):Int):=wI (by omega)
   have hb:=A72 (show i < 2 by omega)
   have next:∀ (r':Rd) (D':List Ab),Pl (K + 8) r'→D'.length=D.length→
     Ao (bif decide ((0 + v0.length) * 1≤140737488355328) then bif decide ((([]++v0).length + [IntKind.u8.wrap (IntKind.i64.wrap ((i:Int) + 3))].length) * 1≤140737488355328) then Cc m ([]++v0++[IntKind.u8.wrap (IntKind.i64.wrap ((i:Int) + 3))]) v7 (IntKind.i64.wrap ((i:Int) + 1)) b0 b1 r'.1 r'.2.1 P D' else none else none)
      fun q=>Pl (K + 10 * (k + 1)) (q.2.2.2.1,q.2.2.2.2.1,())∧q.2.2.2.2.2.2.1.length=D.length∧q.2.2.2.2.2.1=P:=fun r' D' h' hD'=>by
    refine Ao.go (Ag (by omega)) (Ao.go (Ag (by simp only [List.nil_append,Et]; omega)) ?_)
    rw [e1,List.nil_append]
    refine (ih m (i + 1) (K + 8) _ r' D' (by omega) (by omega) (A3z hv hb (by omega)) (by rw [Ey,Et]; omega) h' (by omega) (by omega)).mono fun q hq=>?_
    exact ⟨hq.1.mono (by omega),hq.2.1.trans hD',hq.2.2⟩
   simp only [Cc,E9]
   refine Ao.go (Ag (by omega)) ?_
   refine Ao.bind (Alo v0 hv) fun x hx=>?_
   refine Av h (by omega) (by omega) fun a r1 a0 a1 h1=>?_
   refine Av h1 (by omega) (by omega) fun b r2 b0 b1 h2=>?_
   refine Av h2 (by omega) (by omega) fun c r3 c0 c1 h3=>?_
   refine Ao.cond (fun _=>?_) fun _=>?_
   ·refine Av h3 (by omega) (by omega) fun d r4 d0 d1 h4=>?_
    refine Av h4 (by omega) (by omega) fun e r5 e0 e1 h5=>?_
    refine Av h5 (by omega) (by omega) fun f r6 f0 f1 h6=>?_
    refine Ao.go (Ag f0) (Ao.go (Ag f1) (Ao.cond (fun _=>?_) fun _=>next r6 D (h6.mono (by omega)) rfl))
    refine Ao.go (Ag b0) (Ao.go (Ag (by show b < (D.length:Int); omega)) (Ao.go (Ag (by show b.toNat < D.length; omega)) ?_))
    exact next r6 _ (h6.mono (by omega)) (by rw [List.length_set])
   ·refine Ao.cond (fun _=>?_) fun _=>next r3 D (h3.mono (by omega)) rfl
    refine Ao.go (Ag b0) (Ao.go (Ag (by show b < (D.length:Int); omega)) (Ao.go (Ag (by show b.toNat < D.length; omega)) ?_))
    exact next r3 _ (h3.mono (by omega)) (by rw [List.length_set])
theorem Ayr (b:List Int) (h:R1 (.sl (.int .u8)) b) (hl:b.length≤1048576):Ao (G2 b) fun _=>True:=by
 rw [Rc]
 unfold I8
 refine Ao.bind (A2b b h) fun q hq=>?_
 refine Ao.bind (A0t hq (by omega)) fun x hx=>?_
 obtain ⟨hw,h0⟩:=hx
 have hd:=Kh hw.v
 have d1:x.1.2.1.length≤200:=hd.n200
 have d2:x.1.2.2.1.length≤300:=hd.p300
 refine Av h0 (by omega) (by omega) fun v r1 v0 v1 h1=>?_
 have fin:∀ (K:Nat) (r:Rd) (D:List Ab) (P:List Wr) (w:Int),Pl K r→K + 1000 < 1000000000→D.length≤1073741824→P.length≤1073741824→
   Ao (((Aa r 12).bind fun val=>some ((val.1,()),val.2,())).bind fun val_2=>
      bif val_2.1.1==0 then (Gb val_2.2.1 (D,P,())).bind fun val_3=>some ((val_3.1,w,()),())
      else
       ((Aa val_2.2.1 12).bind fun val=>some ((val.1,()),val.2,())).bind fun val_3=>
        bif val_3.1.1==0 then
         ((Aa val_3.2.1 3).bind fun val=>some ((val.1,()),val.2,())).bind fun val_4=>
          bif decide (0≤val_4.1.1) then
           bif decide (val_4.1.1 < nI [0,9,3].length) then some (((D,P,()),[0,9,3].getD (Int.toNat val_4.1.1) 0,()),()) else none
          else none
        else some (((D,P,()),w,()),())) fun _=>True:=fun K r D P w h hK hD hP=>by
  refine Av h (by omega) (by omega) fun a r2 a0 a1 h2=>?_
  refine Ao.cond (fun _=>Ao.bind (A3y h2 (by omega) hD hP) fun _ _=>Ao.some trivial) fun _=>?_
  refine Av h2 (by omega) (by omega) fun c r3 c0 c1 h3=>?_
  refine Ao.cond (fun _=>?_) fun _=>Ao.some trivial
  refine Av h3 (by omega) (by omega) fun e r4 e0 e1 h4=>?_
  exact Ao.go (Ag e0) (Ao.go (Ag e1) (Ao.some trivial))
 refine Ao.cond (fun _=>Ao.cond (fun c=>?_) fun _=>fin _ r1 _ _ _ h1 (by omega) (by omega) (by omega)) fun _=>fin _ r1 _ _ _ h1 (by omega) (by omega) (by omega)
 have c:=Fw c
 have c:(x.1.2.1.length:Int) > 1:=c
 refine Ao.bind (A73 x.1.1 [] [] x.1.2.2.1 2 _ 0 _ b r1 x.1.2.1 rfl (by show 2 < (2 - 0:Int).toNat + 1; decide) h (by omega) h1 (by omega) (by omega)) fun z hz=>?_
 obtain ⟨g1,g2,g3⟩:=hz
 exact fin _ _ _ _ _ g1 (by omega) (by omega) (by rw [g3]; omega)
def Pf {R:Type} (k:Kt R):=(N3 (Es 8) (.exit 0) 2 k)
def So {R:Type}:Lt R Es:=(G3 (pat:=Es) 8 (fun d k=>(Z6 d).bind (Pf k)) Jo)
theorem Rf:A4 Try.prog Ra:=A9 ⟨Q3,Ma,Aab,B5,Ha,Ain,Anb,trivial⟩
theorem Z7 {R:Type}:Bg Try.prog R 101 0 Es So Pd:=
 C8 (cfg:=⟨Ra,0,101,Es⟩) 8 [] (fun NX X d=>(u4 (u4 (Ad Aj))) (E9  NX X) d) (fun m d=>(u4 (u4 (Ad Aj))) (Cc m) d) (fun d=>(u4 (u4 (Ad Aj))) Ku d) Pf Rf trivial (fun f NX d=>by simp only [u4,Ad,Aj]; unfold E9; simp only [nb])
theorem Abx:Cg Try.prog 26 Re:=
 Ba (pat:=Es) [Pd] So Rf ⟨Z7,trivial⟩ Try.func26 (de:=fun x=>I8 x.1) (fun x r h=>by have q:G2 x.1=some r:=h; rw [Rc] at q; exact q) fun _=>by kernel_rfl
def U9 (d:Dk) (a:Int):Option Ab:=if d.2.1.length≤1099511627776∧0≤a∧a < (d.1.length:Int) then some (P0 d a) else none
def Jh (v1 v5:Int) (b0_0:List Ab) (b0_1:List Wr):Nat:=(v5 + 1).toNat + 1
def Ays:H6:=⟨[.rd yDk,.rd tI],[some 2,none],[.rd .str],[none]⟩
def Al0:SD:=⟨Ays,fun x=>(U9 x.1 x.2.1).bind fun r=>some ((r,()),(()))⟩
def Al1:Tb:=tb []
def L3:Nat→Dv×(Nat→Dv):=Jc [(3,⟨[.boxSl 2 0 .str,.boxSl 2 1 Db],[(1,.lf (.d tI)),(2,.lf (.ptr 0 0)),(5,.lf (.d tI))],[.box 41 [.d (.sl .str),.d (.sl Db)]]⟩,[(2,⟨[.boxSl 2 0 .str,.boxSl 2 1 Db],[(1,.lf (.d tI)),(2,.lf (.ptr 0 0))],[.box 41 [.d (.sl .str),.d (.sl Db)]]⟩),(1,⟨[],[(4,.lf (.d .str))],[]⟩)])]
def Ad4:Code:=(Ax (Bs Try.f50)).getD 0 .skip
def M0 {R:Type}  (NX:((Int)×(Int)×(List Ab)×(List Wr)×Unit)→Option R) (X2:((Int)×(List Ab)×(List Wr)×Unit)→Option R) (X1:((Ab)×Unit)→Option R) (v1:Int) (v5:Int) (b0_0:List Ab) (b0_1:List Wr):Option R:=
 bif decide (v5≥0) then bif decide (0≤v5) then bif decide (v5 < nI b0_1.length) then bif (b0_1.getD v5.toNat (0,Af,())).1==v1 then bif decide (0≤v5) then bif decide (v5 < nI b0_1.length) then X1 (b0_1.getD v5.toNat (0,Af,())).2 else none else none else NX (v1,IntKind.i64.wrap (v5 - 1),b0_0,b0_1,()) else none else none else X2 (v1,b0_0,b0_1,())
def Ea:Nat→(Int)→(Int)→(List Ab)→(List Wr) →  Option (((Int)×(List Ab)×(List Wr)×Unit) ⊕ ((Ab)×Unit))
 | 0,_,_,_,_=>none
 | m + 1,v1,v5,b0_0,b0_1=>M0  (fun d=>Ea m d.1 d.2.1 d.2.2.1 d.2.2.2.1) (fun d=>some (.inl (d))) (fun d=>some (.inr (d))) v1 v5 b0_0 b0_1
def Asp (d:(Int)×(Int)×(List Ab)×(List Wr)×Unit):Option (((Int)×(List Ab)×(List Wr)×Unit) ⊕ ((Ab)×Unit)):=(u4 Aj) (Ea ((u4 Aj) Jh d)) d
def Aby (a0:Dk) (a1:Int):Option ((((Ab)×Unit)×(Unit))):=
 ((fun d=>Ea (Jh d.1 d.2.1 d.2.2.1 d.2.2.2.1) d.1 d.2.1 d.2.2.1 d.2.2.2.1) (a1,IntKind.i64.wrap (nI (List.length a0.2.1) - 1),a0)).bind fun val=>Gu (fun d=>bif decide (0≤d.1) then bif decide (d.1 < nI (List.length d.2.1)) then some ((List.getD d.2.1 (Int.toNat d.1) (Af),()),()) else none else none) (fun d=>some (d,())) val
theorem Ayt (a0:Dk) (a1:Int) r (h:U9 a0 a1=some r):Aby a0 a1=some ((r,()),(())):=by
 unfold U9 at h
 split at h
 ·rename_i hc
  obtain ⟨hp,h0,h1⟩:=hc
  cases h
  have hw:IntKind.i64.wrap (nI a0.2.1.length - 1)=(a0.2.1.length:Int) - 1:=Al (by simp only [nI]; omega) (by simp only [nI]; omega)
  have hL:=Apm (xs:=a0.2.1) zW (fun w=>w.1==a1) (fun w=>.inr (w.2.1,())) (g:=fun m i=>Ea m a1 i a0.1 a0.2.1) (ok:=.inl (a1,a0.1,a0.2.1,())) (fun m i hi=>by
   show Ea (m + 1) a1 i a0.1 a0.2.1=_
   simp only [Ea,M0]
   have hi0:(i:Int)≥0:=by omega
   have hw:IntKind.i64.wrap ((i:Int) - 1)=(i:Int) - 1:=Al (by omega) (by omega)
   rw [Ag hi0,cLt hi,Kx,hw]
   rfl) (fun m=>by
   show Ea (m + 1) a1 (-1) a0.1 a0.2.1=_
   simp only [Ea,M0]
   rfl) (Jh a1 ((a0.2.1.length:Int) - 1) a0.1 a0.2.1) a0.2.1.length (by omega) (by simp [Jh])
  have hL':Ea (Jh a1 ((a0.2.1.length:Int) - 1) a0.1 a0.2.1) a1 ((a0.2.1.length:Int) - 1) a0.1 a0.2.1=_:=hL
  unfold Aby
  rw [hw]
  show (Ea (Jh a1 ((a0.2.1.length:Int) - 1) a0.1 a0.2.1) a1 ((a0.2.1.length:Int) - 1) a0.1 a0.2.1).bind _=_
  rw [hL',List.take_length]
  show Gu _ _ _=_
  have hc1:decide (0≤a1)=true:=Ag h0
  have hc2:decide (a1 < nI a0.1.length)=true:=Ag h1
  unfold P0
  rw [Aer (Gu _ _),Aer (fun r:Ab=>some ((r,()),()))]
  simp only [Gu,hc1,hc2,cond_true]
  rfl
 ·cases h
def Ad5 {R:Type} (k:Kt R):=(Gu (N3 (L3 3) (.exit 0) 2 k) (N3 (L3 3) .ret 1 k))
def Ark {R:Type}:Lt R L3:=(G3 (pat:=L3) 3 (fun d k=>(Asp d).bind (Ad5 k)) Jo)
theorem Al2:A4 Try.prog Al1:=A9 trivial
theorem Asq {R:Type}:Bg Try.prog R 33 0 L3 Ark Ad4:=
 C8 (cfg:=⟨Al1,0,33,L3⟩) 3 [] (fun NX X d=>(u4 Aj) (M0  NX (fun e=>X (.inl (e))) (fun e=>X (.inr (e)))) d) (fun m d=>(u4 Aj) (Ea m) d) (fun d=>(u4 Aj) Jh d) Ad5 Al2 trivial (fun f NX d=>by simp only [u4,Ad,Aj]; unfold M0; simp only [nb])
theorem Ayu:Cg Try.prog 50 Al0:=
 Ba (pat:=L3) [Ad4] Ark Al2 ⟨Asq,trivial⟩ Try.func50 (de:=fun x=>Aby x.1 x.2.1) (fun x r h=>Gd (Ayt x.1 x.2.1) h) fun _=>by kernel_rfl
def Kv (s:Ab):Option Int:=if s.size≤7 then some (x6 s) else none
def M1 (v0:Ab) (v3 v4:Int):Nat:=(nI v0.size - v4).toNat + 1
def Ayv:H6:=⟨[.rd .str],[none],[.rd tI],[none]⟩
def Abz:SD:=⟨Ayv,fun x=>(Kv x.1).bind fun r=>some ((r,()),(()))⟩
def Al3:Tb:=tb []
def N1:Nat→Dv×(Nat→Dv):=Jc [(4,⟨[],[(0,.lf (.d .str)),(3,.lf (.d tI)),(4,.lf (.d tI))],[]⟩,[(2,⟨[],[(3,.lf (.d tI))],[]⟩)])]
def Ad6:Code:=(Ax (Bs Try.f61)).getD 0 .skip
def M2 {R:Type}  (NX:((Ab)×(Int)×(Int)×Unit)→Option R) (X2:((Int)×Unit)→Option R) (v0:Ab) (v3:Int) (v4:Int):Option R:=
 bif decide (v4 < nI v0.size) then bif decide (0≤v4) then bif decide (v4 < nI v0.size) then NX (v0,IntKind.i64.wrap (nI (BitVec.ofInt 64 (IntKind.i64.wrap (v3 * 2 ^ min (Int.toNat 8) 64)) ||| BitVec.ofInt 64 (IntKind.i64.wrap (Am v0 v4))).toNat),IntKind.i64.wrap (v4 + 1),()) else none else none else X2 (v3,())
def Ji:Nat→(Ab)→(Int)→(Int) →  Option ((Int)×Unit)
 | 0,_,_,_=>none
 | m + 1,v0,v3,v4=>M2  (fun d=>Ji m d.1 d.2.1 d.2.2.1) (fun d=>some (d)) v0 v3 v4
def Asr (d:(Ab)×(Int)×(Int)×Unit):Option ((Int)×Unit):=(Ad (Ad (Ad Aj))) (Ji ((Ad (Ad (Ad Aj))) M1 d)) d
def Ab0 (a0:Ab):Option ((((Int)×Unit)×(Unit))):=
 ((fun d=>Ji (M1 d.1 d.2.1 d.2.2.1) d.1 d.2.1 d.2.2.1) (a0,0,0,())).bind fun val=>some (val,())
theorem Ayw (s:Ab) (hs:s.size≤7):∀ (k m i:Nat) (v:Int),i + k=s.size→k < m→0≤v→v < 256 ^ i→Ji m s v i=some (Axn s k i v,())
 | 0,m + 1,i,v,hi,hm,h0,h1=>by
  simp only [Ji,M2]
  rw [Bi (show ¬ ((i:Int) < nI s.size) by simp only [nI]; omega)]
  rfl
 | k + 1,m + 1,i,v,hi,hm,h0,h1=>by
  obtain ⟨hb,hs',e⟩:=A7k s i hi (by omega) h0 h1
  simp only [Ji,M2]
  have c1:(i:Int) < nI s.size:=by simp only [nI]; omega
  rw [Ag c1,Ag (show (0:Int)≤(i:Int) by omega),wI (show i < 4611686018427387904 by omega),e]
  exact Ayw s hs k m (i + 1) _ (by omega) (by omega) hb hs'
theorem Ayx (a0:Ab) r (h:Kv a0=some r):Ab0 a0=some ((r,()),(())):=by
 unfold Kv at h
 split at h
 ·rename_i hc
  cases h
  unfold Ab0
  have hL:=Ayw a0 hc a0.size (M1 a0 0 0) 0 0 (by omega) (by simp only [M1,nI]; omega) (by omega) (by decide)
  exact bi_ hL rfl
 ·cases h
def Ad7 {R:Type} (k:Kt R):=(N3 (N1 4) (.exit 0) 2 k)
def Arl {R:Type}:Lt R N1:=(G3 (pat:=N1) 4 (fun d k=>(Asr d).bind (Ad7 k)) Jo)
theorem Al4:A4 Try.prog Al3:=A9 trivial
theorem Ass {R:Type}:Bg Try.prog R 19 0 N1 Arl Ad6:=
 C8 (cfg:=⟨Al3,0,19,N1⟩) 4 [] (fun NX X d=>(Ad (Ad (Ad Aj))) (M2  NX X) d) (fun m d=>(Ad (Ad (Ad Aj))) (Ji m) d) (fun d=>(Ad (Ad (Ad Aj))) M1 d) Ad7 Al4 trivial (fun f NX d=>by simp only [u4,Ad,Aj]; unfold M2; simp only [nb])
theorem Al5:Cg Try.prog 61 Abz:=
 Ba (pat:=N1) [Ad6] Arl Al4 ⟨Ass,trivial⟩ Try.func61 (de:=fun x=>Ab0 x.1) (fun x r h=>Gd (Ayx x.1) h) fun _=>by kernel_rfl
def A1 (s:Ab) (w:Int):Pg×Bool:=Be s w
def Aks:H6:=⟨[.rd .str,.rd tI],[none,none],[.rd yPg,.rd .bool],[some 4,none]⟩
def Y1:SD:=⟨Aks,fun x=>some (((A1 x.1 x.2.1).1,(A1 x.1 x.2.1).2,()),(()))⟩
def Qq (a0:Ab) (a1:Int):Option (((Pg×(Bool)×Unit)×(Unit))):=
 bif nI a0.size != 64 then some (((0,0,0,Af,()),false,()),()) else bif !D3 a1 1 8 then some (((0,0,0,Af,()),false,()),()) else bif decide (0≤a1) then bif decide (a1≤nI a0.size) then bif decide (7 < nI (Ae a0 a1 (nI a0.size)).size) then bif decide (IntKind.i64.wrap (Am (Ae a0 a1 (nI a0.size)) 7) > IntKind.i64.wrap (IntKind.i64.wrap (64 - a1) - 8)) then some (((0,0,0,Af,()),false,()),()) else bif decide (0 < nI (Ae a0 a1 (nI a0.size)).size) then bif decide (3≤nI (Ae a0 a1 (nI a0.size)).size) then ((Kv (Ae (Ae a0 a1 (nI a0.size)) 1 3)).bind fun val=>some ((val,()),())).bind fun val=>bif decide (7≤nI (Ae a0 a1 (nI a0.size)).size) then ((Kv (Ae (Ae a0 a1 (nI a0.size)) 3 7)).bind fun val=>some ((val,()),())).bind fun val_1=>bif decide (8≤IntKind.i64.wrap (8 + IntKind.i64.wrap (Am (Ae a0 a1 (nI a0.size)) 7))) then bif decide (IntKind.i64.wrap (8 + IntKind.i64.wrap (Am (Ae a0 a1 (nI a0.size)) 7))≤nI (Ae a0 a1 (nI a0.size)).size) then bif !(K1 (IntKind.i64.wrap (Am (Ae a0 a1 (nI a0.size)) 0),val.1.1,val_1.1.1,Ae (Ae a0 a1 (nI a0.size)) 8 (IntKind.i64.wrap (8 + IntKind.i64.wrap (Am (Ae a0 a1 (nI a0.size)) 7))),()) a1).toList==a0.toList then some (((0,0,0,Af,()),false,()),()) else some (((IntKind.i64.wrap (Am (Ae a0 a1 (nI a0.size)) 0),val.1.1,val_1.1.1,Ae (Ae a0 a1 (nI a0.size)) 8 (IntKind.i64.wrap (8 + IntKind.i64.wrap (Am (Ae a0 a1 (nI a0.size)) 7))),()),true,()),()) else none else none else none else none else none else none else none else none
theorem Akt (a0:Ab) (a1:Int):Qq a0 a1=some (((A1 a0 a1).1,(A1 a0 a1).2,()),(())):=by
 unfold Qq A1 Be
 show (bif nI a0.size != 64 then _ else (bif !Cj a1 1 8 then _ else _))=_
 cases hz:nI a0.size != 64 with
 | true=>rfl
 | false=>
   cases hw:Cj a1 1 8 with
   | false=>rfl
   | true=>
    have k1:=(C5 hw).1
    have k2:=(C5 hw).2
    have hs:a0.size=64:=by
     by_cases q:nI a0.size=64
     ·simp only [nI] at q; omega
     ·rw [(bne_iff_ne).2 q] at hz; cases hz
    have hb:(Ae a0 a1 (nI a0.size)).size=(64 - a1).toNat:=by rw [Cw (by omega) (by simp only [nI]; omega) (by simp [nI])]; simp only [nI,hs]; omega
    simp only [Bool.not_true,cond_false,cond_true]
    rw [Ag (show (0:Int)≤a1 by omega),Ag (show a1≤nI a0.size by simp only [nI]; omega)]
    unfold Az1
    generalize Ae a0 a1 (nI a0.size)=b at *
    obtain ⟨b0,b1⟩:=Ig b 7
    obtain ⟨c0,c1⟩:=Ig b 0
    have hB:nI b.size=64 - a1:=by simp only [nI]; omega
    rw [hB,Ag (show (7:Int) < 64 - a1 by omega),Ag (show (0:Int) < 64 - a1 by omega),Ag (show (3:Int)≤64 - a1 by omega),Ag (show (7:Int)≤64 - a1 by omega),Al (n:=Am b 7) (by omega) (by omega),Al (n:=Am b 0) (by omega) (by omega),Al (n:=64 - a1) (by omega) (by omega),Al (n:=64 - a1 - 8) (by omega) (by omega),Al (n:=8 + Am b 7) (by omega) (by omega),show 64 - a1 - 8=56 - a1 by omega]
    by_cases q:Am b 7 > 56 - a1
    ·rw [Ag q]; rfl
    ·rw [Bi q]
     have n1:Kv (Ae b 1 3)=some (x6 (Ae b 1 3)):=if_pos (by rw [Cw (by omega) (by omega) (by omega)]; decide)
     have n2:Kv (Ae b 3 7)=some (x6 (Ae b 3 7)):=if_pos (by rw [Cw (by omega) (by omega) (by omega)]; decide)
     simp only [n1,n2,Option.bind_some,cond_true,cond_false]
     rw [Ag (show 8≤8 + Am b 7 by omega),Ag (show 8 + Am b 7≤64 - a1 by omega)]
     show (bif !(ByteArray.toList (Cr (Az0 b) a1)==ByteArray.toList a0) then _ else _)=_
     cases (ByteArray.toList (Cr (Az0 b) a1)==ByteArray.toList a0)<;>rfl
theorem Aku:Cg Try.prog 60 Y1:=
 Ba (pat:=Eo) [] Jo (A9 (l:=[(45,Ki),(54,Qa),(61,Abz),(83,Zx)]) ⟨Lp,X0,Al5,Ahd,trivial⟩) trivial Try.func60 (de:=fun x=>Qq x.1 x.2.1) (fun x r h=>(Akt x.1 x.2.1).trans h) fun _=>by kernel_rfl
def Ap (d:Dk) (w:Int):Rt:=Bj d w
def Nu (v1 v6:Int) (b0_0:List Ab) (b0_1:List Wr) (b1_0 b1_1 b1_2 b1_3 b2_0 b2_1 b2_2 b2_3:Int):Nat:=3
def Akv:H6:=⟨[.rd yDk,.rd tI],[some 2,none],[.rd yRt],[some 4]⟩
def Y2:SD:=⟨Akv,fun x=>some (((Ap x.1 x.2.1),()),(()))⟩
def Y3:Tb:=tb [(20,Of),(45,Ki),(50,Al0),(53,Om),(60,Y1),(61,Abz)]
def Hi:Nat→Dv×(Nat→Dv):=Jc [(6,⟨[.boxSl 2 0 .str,.boxSl 2 1 Db],[(1,.lf (.d tI)),(2,.lf (.ptr 0 0)),(4,.lf (.ptr 1 0)),(5,.lf (.ptr 2 0)),(6,.lf (.d tI))],[.box 41 [.d (.sl .str),.d (.sl Db)],.box 55 [.d tI,.d tI,.d tI,.d tI],.box 55 [.d tI,.d tI,.d tI,.d tI]]⟩,[(2,⟨[],[(4,.lf (.ptr 0 0)),(5,.lf (.ptr 1 0))],[.box 55 [.d tI,.d tI,.d tI,.d tI],.box 55 [.d tI,.d tI,.d tI,.d tI]]⟩)])]
def Va:Code:=(Ax (Bs Try.f27)).getD 0 .skip
def Kw {R:Type}  (NX:((Int)×(Int)×(List Ab)×(List Wr)×(Int)×(Int)×(Int)×(Int)×(Int)×(Int)×(Int)×(Int)×Unit)→Option R) (X2:((Int)×(Int)×(Int)×(Int)×(Int)×(Int)×(Int)×(Int)×Unit)→Option R) (v1:Int) (v6:Int) (b0_0:List Ab) (b0_1:List Wr) (b1_0:Int) (b1_1:Int) (b1_2:Int) (b1_3:Int) (b2_0:Int) (b2_1:Int) (b2_2:Int) (b2_3:Int):Option R:=
 bif decide (v6 < 2) then ((U9 (b0_0,b0_1,()) v6).bind fun val=>some ((val,()),())).bind fun val=>bif !(A1 val.1.1 v1).2 then NX (v1,IntKind.i64.wrap (v6 + 1),b0_0,b0_1,b1_0,b1_1,b1_2,b1_3,b2_0,b2_1,b2_2,b2_3,()) else bif (A1 val.1.1 v1).1.1 != 4 then NX (v1,IntKind.i64.wrap (v6 + 1),b0_0,b0_1,b1_0,b1_1,b1_2,b1_3,b2_0,b2_1,b2_2,b2_3,()) else bif nI (ByteArray.size (A1 val.1.1 v1).1.2.2.2.1) != 5 then NX (v1,IntKind.i64.wrap (v6 + 1),b0_0,b0_1,b1_0,b1_1,b1_2,b1_3,b2_0,b2_1,b2_2,b2_3,()) else bif Int.tmod (A1 val.1.1 v1).1.2.2.1 2 != v6 then NX (v1,IntKind.i64.wrap (v6 + 1),b0_0,b0_1,b1_0,b1_1,b1_2,b1_3,b2_0,b2_1,b2_2,b2_3,()) else bif decide (0 < nI (ByteArray.size (A1 val.1.1 v1).1.2.2.2.1)) then bif decide (1≤nI (ByteArray.size (A1 val.1.1 v1).1.2.2.2.1)) then ((Kv (Ae (A1 val.1.1 v1).1.2.2.2.1 1 (nI (ByteArray.size (A1 val.1.1 v1).1.2.2.2.1)))).bind fun val=>some ((val,()),())).bind fun val_1=>bif Jt ((A1 val.1.1 v1).1.2.2.1,IntKind.i64.wrap (Am (A1 val.1.1 v1).1.2.2.2.1 0),val_1.1.1,(A1 val.1.1 v1).1.2.1,()) then bif decide ((A1 val.1.1 v1).1.2.2.1 > b2_0) then NX (v1,IntKind.i64.wrap (v6 + 1),b0_0,b0_1,b1_0,b1_1,b1_2,b1_3,(A1 val.1.1 v1).1.2.2.1,IntKind.i64.wrap (Am (A1 val.1.1 v1).1.2.2.2.1 0),val_1.1.1,(A1 val.1.1 v1).1.2.1,()) else NX (v1,IntKind.i64.wrap (v6 + 1),b0_0,b0_1,b1_0,b1_1,b1_2,b1_3,b2_0,b2_1,b2_2,b2_3,()) else NX (v1,IntKind.i64.wrap (v6 + 1),b0_0,b0_1,b1_0,b1_1,b1_2,b1_3,b2_0,b2_1,b2_2,b2_3,()) else none else none else X2 (b1_0,b1_1,b1_2,b1_3,b2_0,b2_1,b2_2,b2_3,())
def En:Nat→(Int)→(Int)→(List Ab)→(List Wr)→(Int)→(Int)→(Int)→(Int)→(Int)→(Int)→(Int)→(Int) →  Option ((Int)×(Int)×(Int)×(Int)×(Int)×(Int)×(Int)×(Int)×Unit)
 | 0,_,_,_,_,_,_,_,_,_,_,_,_=>none
 | m + 1,v1,v6,b0_0,b0_1,b1_0,b1_1,b1_2,b1_3,b2_0,b2_1,b2_2,b2_3=>Kw  (fun d=>En m d.1 d.2.1 d.2.2.1 d.2.2.2.1 d.2.2.2.2.1 d.2.2.2.2.2.1 d.2.2.2.2.2.2.1 d.2.2.2.2.2.2.2.1 d.2.2.2.2.2.2.2.2.1 d.2.2.2.2.2.2.2.2.2.1 d.2.2.2.2.2.2.2.2.2.2.1 d.2.2.2.2.2.2.2.2.2.2.2.1) (fun d=>some (d)) v1 v6 b0_0 b0_1 b1_0 b1_1 b1_2 b1_3 b2_0 b2_1 b2_2 b2_3
def Afu (d:(Int)×(Int)×(List Ab)×(List Wr)×(Int)×(Int)×(Int)×(Int)×(Int)×(Int)×(Int)×(Int)×Unit):Option ((Int)×(Int)×(Int)×(Int)×(Int)×(Int)×(Int)×(Int)×Unit):=(u4 (u4 (u4 Aj))) (En ((u4 (u4 (u4 Aj))) Nu d)) d
def Qr (a0:Dk) (a1:Int):Option (((Rt×Unit)×(Unit))):=
 bif !Js a0 then some (((0,0,0,0,()),()),()) else bif !D3 a1 1 8 then some (((0,0,0,0,()),()),()) else ((fun d=>En (Nu d.1 d.2.1 d.2.2.1 d.2.2.2.1 d.2.2.2.2.1 d.2.2.2.2.2.1 d.2.2.2.2.2.2.1 d.2.2.2.2.2.2.2.1 d.2.2.2.2.2.2.2.2.1 d.2.2.2.2.2.2.2.2.2.1 d.2.2.2.2.2.2.2.2.2.2.1 d.2.2.2.2.2.2.2.2.2.2.2.1) d.1 d.2.1 d.2.2.1 d.2.2.2.1 d.2.2.2.2.1 d.2.2.2.2.2.1 d.2.2.2.2.2.2.1 d.2.2.2.2.2.2.2.1 d.2.2.2.2.2.2.2.2.1 d.2.2.2.2.2.2.2.2.2.1 d.2.2.2.2.2.2.2.2.2.2.1 d.2.2.2.2.2.2.2.2.2.2.2.1) (a1,0,a0.1,a0.2.1,0,0,0,0,0,0,1,0,())).bind fun val=>some ((val.2.2.2.2,()),())
theorem Ayy (d:Dk) (hd:Eu d) (w:Int) (i:Nat) (hi:i < 2) (m:Nat) (x1 x2 x3 x4:Int) (b:Rt):
  En (m + 1) w i d.1 d.2.1 x1 x2 x3 x4 b.1 b.2.1 b.2.2.1 b.2.2.2.1=En m w ((i + 1:Nat):Int) d.1 d.2.1 x1 x2 x3 x4 (Ez (P0 d i) w i b).1 (Ez (P0 d i) w i b).2.1 (Ez (P0 d i) w i b).2.2.1 (Ez (P0 d i) w i b).2.2.2.1:=by
 have n8:=hd.n8
 have p3:=hd.p300
 have hs:U9 (d.1,d.2.1,()) (i:Int)=some (P0 d i):=if_pos ⟨by show d.2.1.length≤_; omega,by omega,by show (i:Int) < (d.1.length:Int); omega⟩
 simp only [En,Kw]
 rw [Ag (show (i:Int) < 2 by omega),hs,wI (show i < 4611686018427387904 by omega)]
 simp only [Option.bind_some,cond_true]
 have e:A1 (P0 d i) w=Be (P0 d i) w:=rfl
 rw [e]
 unfold Ez
 have hf:=@Nf (P0 d i) w
 generalize Be (P0 d i) w=p at *
 obtain ⟨g,o⟩:=p
 cases o
 ·rfl
 ·obtain ⟨_,_,_,hp⟩:=hf rfl
  obtain ⟨_,_,r3,_⟩:=y6 hp
  simp only [Bool.not_true,cond_false,Bool.true_and]
  by_cases h4:g.1=4
  ·rw [bne_eq_false_iff_eq.2 h4,show (g.1==4)=true from beq_iff_eq.2 h4]
   by_cases h5:g.2.2.2.1.size=5
   ·have n1:Kv (Ae g.2.2.2.1 1 (nI g.2.2.2.1.size))=some (x6 (Ae g.2.2.2.1 1 (nI g.2.2.2.1.size))):=if_pos (by rw [Cw (by omega) (by simp only [nI]; omega) (by simp [nI])]; simp only [nI]; omega)
    obtain ⟨b0,b1⟩:=Ig g.2.2.2.1 0
    rw [bne_eq_false_iff_eq.2 (show nI g.2.2.2.1.size=5 by simp only [nI]; omega),Ag h5,Int.tmod_eq_emod_of_nonneg (by omega)]
    simp only [n1,Option.bind_some,cond_false,Bool.true_and]
    rw [Ag (show 0 < nI g.2.2.2.1.size by simp only [nI]; omega),Ag (show 1≤nI g.2.2.2.1.size by simp only [nI]; omega),Al (n:=Am g.2.2.2.1 0) (by omega) (by omega)]
    by_cases h6:g.2.2.1 % 2=(i:Int)
    ·rw [bne_eq_false_iff_eq.2 h6,show (g.2.2.1 % 2==(i:Int))=true from beq_iff_eq.2 h6]
     show (bif Gt (Fm g) then _ else _)=_
     cases Gt (Fm g)
     ·rfl
     ·by_cases h7:g.2.2.1 > b.1
      ·rw [Ag h7]; rfl
      ·rw [Bi h7]; rfl
    ·rw [bne_iff_ne.2 h6,show (g.2.2.1 % 2==(i:Int))=false from beq_eq_false_iff_ne.2 h6]
     rfl
   ·rw [bne_iff_ne.2 (show nI g.2.2.2.1.size≠5 by simp only [nI]; omega),Bi h5]
    rfl
  ·rw [bne_iff_ne.2 h4,show (g.1==4)=false from beq_eq_false_iff_ne.2 h4]
   rfl
theorem Akw (a0:Dk) (a1:Int):Qr a0 a1=some (((Ap a0 a1),()),(())):=by
 unfold Qr Ap Bj
 show (bif !Az a0 then _ else (bif !Cj a1 1 8 then _ else _))=_
 cases hv:Az a0 with
 | false=>rfl
 | true=>
  cases hw:Cj a1 1 8 with
  | false=>rfl
  | true=>
   have hd:=Kh hv
   have h1:=Ayy a0 hd a1 0 (by omega) 2 0 0 0 0 (0,0,1,0,())
   have h2:=Ayy a0 hd a1 1 (by omega) 1 0 0 0 0 (Ez (P0 a0 (0:Nat)) a1 (0:Nat) (0,0,1,0,()))
   have h3:=h1.trans h2
   refine bi_ h3 ?_
   rfl
def Vb {R:Type} (k:Kt R):=(N3 (Hi 6) (.exit 0) 2 k)
def m0 {R:Type}:Lt R Hi:=(G3 (pat:=Hi) 6 (fun d k=>(Afu d).bind (Vb k)) Jo)
theorem Y4:A4 Try.prog Y3:=A9 ⟨Vu,Lp,Ayu,Vw,Aku,Al5,trivial⟩
theorem Afv {R:Type}:Bg Try.prog R 76 0 Hi m0 Va:=
 C8 (cfg:=⟨Y3,0,76,Hi⟩) 6 [] (fun NX X d=>(u4 (u4 (u4 Aj))) (Kw  NX X) d) (fun m d=>(u4 (u4 (u4 Aj))) (En m) d) (fun d=>(u4 (u4 (u4 Aj))) Nu d) Vb Y4 trivial (fun f NX d=>by simp only [u4,Ad,Aj]; unfold Kw; simp only [nb])
theorem Akx:Cg Try.prog 27 Y2:=
 Ba (pat:=Hi) [Va] m0 Y4 ⟨Afv,trivial⟩ Try.func27 (de:=fun x=>Qr x.1 x.2.1) (fun x r h=>(Akw x.1 x.2.1).trans h) fun _=>by kernel_rfl
def B7 (n:Int):Dk:=Kg n
def Anc:H6:=⟨[.rd tI],[none],[.own 9 .str,.own 82 Db],[some 2]⟩
def m5:SD:=⟨Anc,fun x=>some (((B7 x.1).1,(B7 x.1).2.1,()),(()))⟩
def m6:Tb:=tb [(45,Ki),(64,Lc)]
def Io:Nat→Dv×(Nat→Dv):=Jc [(6,⟨[.boxRow 2 0 9 .str,.boxRow 2 1 82 Db,.boxRow 3 0 9 .str,.boxRow 3 1 82 Db],[(0,.lf (.d tI)),(2,.lf (.ptr 0 0)),(3,.lf (.ptr 1 0)),(4,.lf (.d tI))],[.box 41 [.row 2,.row 3],.box 41 [.row 4,.row 5],.row 9 .str,.row 82 Db,.row 9 .str,.row 82 Db]⟩,[(2,⟨[.boxRow 2 0 9 .str,.boxRow 2 1 82 Db,.boxRow 3 0 9 .str,.boxRow 3 1 82 Db],[(2,.lf (.ptr 0 0)),(3,.lf (.ptr 1 0))],[.box 41 [.row 2,.row 3],.box 41 [.row 4,.row 5],.row 9 .str,.row 82 Db,.row 9 .str,.row 82 Db]⟩)])]
def Wu:Code:=(Ax (Bs Try.f29)).getD 0 .skip
def Fa (v0 v4:Int) (r2:List Ab) (r3:List Wr) (r4:List Ab) (r5:List Wr):Nat:=(v0 - v4).toNat + 1
def I9 {R:Type}  (NX:((Int)×(Int)×(List Ab)×(List Wr)×(List Ab)×(List Wr)×Unit)→Option R) (X2:((List Ab)×(List Wr)×(List Ab)×(List Wr)×Unit)→Option R) (v0:Int) (v4:Int) (r2:List Ab) (r3:List Wr) (r4:List Ab) (r5:List Wr):Option R:=
 bif decide (v4 < v0) then ((W0 (ByteArray.mk #[0]) 64).bind fun val=>some ((val,()),())).bind fun val=>bif decide ((r4.length + [val.1.1].length) * 16≤140737488355328) then NX (v0,IntKind.i64.wrap (v4 + 1),r2,r3,r4++[val.1.1],r5,()) else none else X2 (r2,r3,r4,r5,())
def Ce:Nat→(Int)→(Int)→(List Ab)→(List Wr)→(List Ab)→(List Wr) →  Option ((List Ab)×(List Wr)×(List Ab)×(List Wr)×Unit)
 | 0,_,_,_,_,_,_=>none
 | m + 1,v0,v4,r2,r3,r4,r5=>I9  (fun d=>Ce m d.1 d.2.1 d.2.2.1 d.2.2.2.1 d.2.2.2.2.1 d.2.2.2.2.2.1) (fun d=>some (d)) v0 v4 r2 r3 r4 r5
def Aio (d:(Int)×(Int)×(List Ab)×(List Wr)×(List Ab)×(List Wr)×Unit):Option ((List Ab)×(List Wr)×(List Ab)×(List Wr)×Unit):=(u4 (Ad (Ad Aj))) (Ce ((u4 (Ad (Ad Aj))) Fa d)) d
def R0 (a0:Int):Option ((Dk×(Unit))):=
 bif !D3 a0 8 200 then some (([],[],()),()) else ((fun d=>Ce (Fa d.1 d.2.1 d.2.2.1 d.2.2.2.1 d.2.2.2.2.1 d.2.2.2.2.2.1) d.1 d.2.1 d.2.2.1 d.2.2.2.1 d.2.2.2.2.1 d.2.2.2.2.2.1) (a0,0,[],[],[],[],())).bind fun val=>some (val.2.2,())
theorem Bae:W0 (ByteArray.mk #[0]) 64=some zS:=by
 unfold W0
 rw [if_pos (by decide)]
 decide +kernel
theorem Ane (a0:Int):R0 a0=some (((B7 a0).1,(B7 a0).2.1,()),(())):=by
 unfold R0 B7 Kg
 show (bif !Cj a0 8 200 then _ else _)=_
 cases hin:Cj a0 8 200 with
 | false=>rfl
 | true=>
  have k1:=Fw (Ch hin).1
  have k2:=Fw (Ch hin).2
  obtain ⟨n,rfl⟩:∃ n:Nat,a0=(n:Int):=⟨a0.toNat,by omega⟩
  have hL:=Apn (n:=n) (fun _=>zS) (g:=fun m i r=>Ce m n i [] [] r []) (ok:=fun r=>([],[],r,[],())) (fun m i r hi hr=>by
   show Ce (m + 1) n i [] [] r []=_
   simp only [Ce,I9]
   have c1:(i:Int) < (n:Int):=by omega
   have c2:(List.length r + List.length [zS]) * 16≤140737488355328:=by simp; omega
   rw [Ag c1,Bae,wI (show i < 4611686018427387904 by omega)]
   simp only [Option.bind_some,cond_true]
   rw [Ag c2]
   rfl) (fun m r=>by
   show Ce (m + 1) n n [] [] r []=_
   simp only [Ce,I9]
   have c1:¬ (n:Int) < (n:Int):=by omega
   rw [Bi c1]
   rfl) (Fa n 0 [] [] [] []) 0 [] (by omega) (by simp [Fa]) rfl
  have hL':Ce (Fa n 0 [] [] [] []) n 0 [] [] [] []=_:=hL
  show (Ce (Fa n 0 [] [] [] []) n 0 [] [] [] []).bind _=_
  rw [hL',x8,Nat.sub_zero]
  rfl
def Wv {R:Type} (k:Kt R):=(N3 (Io 6) (.exit 0) 2 k)
def Ab1 {R:Type}:Lt R Io:=(G3 (pat:=Io) 6 (fun d k=>(Aio d).bind (Wv k)) Jo)
theorem m7:A4 Try.prog m6:=A9 ⟨Lp,Vx,trivial⟩
theorem Aip {R:Type}:Bg Try.prog R 22 0 Io Ab1 Wu:=
 C8 (cfg:=⟨m6,0,22,Io⟩) 6 [] (fun NX X d=>(u4 (Ad (Ad Aj))) (I9  NX X) d) (fun m d=>(u4 (Ad (Ad Aj))) (Ce m) d) (fun d=>(u4 (Ad (Ad Aj))) Fa d) Wv m7 trivial (fun f NX d=>by simp only [u4,Ad,Aj]; unfold I9; simp only [nb])
theorem Anf:Cg Try.prog 29 m5:=
 Ba (pat:=Io) [Wu] Ab1 m7 ⟨Aip,trivial⟩ Try.func29 (de:=fun x=>R0 x.1) (fun x r h=>(Ane x.1).trans h) fun _=>by kernel_rfl
def Ang:H6:=⟨[.rd (.sl (.int .u8))],[none],[.rd .bool],[none]⟩
def M8 (a0:List Int):Option ((((Bool)×Unit)×(Unit))):=
 bif decide (nI a0.length > 1048576) then some ((true,()),()) else (Fc a0).bind fun val=>bif !(Cl val.1.1 val.1.2.1).toList==(C1 val.1.1 val.1.2.1).toList then some ((false,()),()) else (G2 a0).bind fun val_1=>bif !((Ap val_1.1.1 val_1.1.2.1).1==(Ah val_1.1.1 val_1.1.2.1).1&&((Ap val_1.1.1 val_1.1.2.1).2.1==(Ah val_1.1.1 val_1.1.2.1).2.1&&((Ap val_1.1.1 val_1.1.2.1).2.2.1==(Ah val_1.1.1 val_1.1.2.1).2.2.1&&((Ap val_1.1.1 val_1.1.2.1).2.2.2.1==(Ah val_1.1.1 val_1.1.2.1).2.2.2.1&&true)))) then some ((false,()),()) else bif (Cl val.1.1 val.1.2.1).toList==(Af).toList then some ((true,()),()) else ((F5 (B7 20) [(false,Int.tmod val.1.1.1 2,Cl val.1.1 val.1.2.1,())] 1).bind fun val=>some (val,())).bind fun val_2=>bif !((Ap val_2.1 val.1.2.1).1==val.1.1.1&&((Ap val_2.1 val.1.2.1).2.1==val.1.1.2.1&&((Ap val_2.1 val.1.2.1).2.2.1==val.1.1.2.2.1&&((Ap val_2.1 val.1.2.1).2.2.2.1==val.1.1.2.2.2.1&&true)))) then some ((false,()),()) else bif decide (val.1.1.1 < 2) then some (((Ap (B7 20) val.1.2.1).1==0&&((Ap (B7 20) val.1.2.1).2.1==0&&((Ap (B7 20) val.1.2.1).2.2.1==1&&((Ap (B7 20) val.1.2.1).2.2.2.1==0&&true))),()),()) else bif val.1.1.1==1000000000 then some (((Ap (B7 20) val.1.2.1).1==0&&((Ap (B7 20) val.1.2.1).2.1==0&&((Ap (B7 20) val.1.2.1).2.2.1==1&&((Ap (B7 20) val.1.2.1).2.2.2.1==0&&true))),()),()) else ((F5 val_2.1 [(false,(IntKind.i64.wrap (val.1.1.1 + 1)).tmod 2,Cl (IntKind.i64.wrap (val.1.1.1 + 1),IntKind.i64.wrap (1 - val.1.1.2.1),val.1.1.2.2) val.1.2.1,())] 1).bind fun val=>some (val,())).bind fun val_3=>((F5 val_2.1 [(false,(IntKind.i64.wrap (val.1.1.1 - 1)).tmod 2,Cl (IntKind.i64.wrap (val.1.1.1 - 1),IntKind.i64.wrap (1 - val.1.1.2.1),val.1.1.2.2) val.1.2.1,())] 1).bind fun val=>some (val,())).bind fun val_4=>((F5 val_2.1 [(false,Int.tmod val.1.1.1 2,Cl (IntKind.i64.wrap (val.1.1.1 + 1),IntKind.i64.wrap (1 - val.1.1.2.1),val.1.1.2.2) val.1.2.1,())] 1).bind fun val=>some (val,())).bind fun val_5=>bif (Ap val_3.1 val.1.2.1).1==IntKind.i64.wrap (val.1.1.1 + 1)&&((Ap val_3.1 val.1.2.1).2.1==IntKind.i64.wrap (1 - val.1.1.2.1)&&((Ap val_3.1 val.1.2.1).2.2.1==val.1.1.2.2.1&&((Ap val_3.1 val.1.2.1).2.2.2.1==val.1.1.2.2.2.1&&true))) then bif (Ap val_4.1 val.1.2.1).1==val.1.1.1&&((Ap val_4.1 val.1.2.1).2.1==val.1.1.2.1&&((Ap val_4.1 val.1.2.1).2.2.1==val.1.1.2.2.1&&((Ap val_4.1 val.1.2.1).2.2.2.1==val.1.1.2.2.2.1&&true))) then some (((Ap val_5.1 val.1.2.1).1==0&&((Ap val_5.1 val.1.2.1).2.1==0&&((Ap val_5.1 val.1.2.1).2.2.1==1&&((Ap val_5.1 val.1.2.1).2.2.2.1==0&&true))),()),()) else some ((false,()),()) else some ((false,()),())
def m8:SD:=⟨Ang,fun x=>M8 x.1⟩
theorem Ayz (a0:List Int) (h0:R1 (.sl (.int .u8)) a0):M8 a0=some ((true,()),()):=by
 apply Ao.law
 unfold M8
 refine Ao.cond (fun _=>Ao.some rfl) fun hl=>?_
 have hl:=of_decide_eq_false hl
 have hl:¬ (a0.length:Int) > 1048576:=hl
 refine Ao.bind (Alo a0 h0) fun x hx=>?_
 obtain ⟨⟨r,w,⟨⟩⟩,⟨⟩⟩:=x
 have f1:Cl r w=Cv r w:=rfl
 have f2:C1 r w=Cv r w:=rfl
 dsimp only
 rw [f1,f2]
 refine Ao.no (by simp) ?_
 refine Ao.bind (Ayr a0 h0 (by omega)) fun y _=>?_
 have f3:Ap y.1.1 y.1.2.1=Ah y.1.1 y.1.2.1:=rfl
 rw [f3]
 refine Ao.no (by simp) ?_
 refine Ao.cond (fun _=>Ao.some rfl) fun hne=>?_
 obtain ⟨ok,ht,hlf,hw,h64⟩:=A7w hne
 have hr:Rt1 r w:=⟨ok,ht,hlf,hw⟩
 have t2:=ok.1.2
 have hH:=ok.2.1
 have hm:∀ z:Int,0≤z→z.tmod 2=z % 2:=fun z hz=>Int.tmod_eq_emod_of_nonneg hz
 have hp:∀ (d:Dk) (o:Fy),F5 d [o] 1=some (Cz d [o] 1):=fun d o=>if_pos (show 1≤1099511627776 by decide)
 have f4:B7 20=P5:=rfl
 have f5:∀ d:Dk,Ap d w=Bj d w:=fun _=>rfl
 obtain ⟨ok1,e1⟩:=Ap9 hr
 have hl1:(put P5 (r.1 % 2) (Cv r w)).2.1.length≤1:=by show (P5.2.1++[_]).length≤1; rw [Ey,Et]; have:=L8.2.2; omega
 have p1:∀ (a:Int) (x:Ab),0≤a→a < 20→x.size=64→Cz (put P5 (r.1 % 2) (Cv r w)) [(false,a,x,())] 1=put (put P5 (r.1 % 2) (Cv r w)) a x:=fun a x h0 h1 hx=>(Ayd ok1 L8.2.1 (Nat.le_trans hl1 (by decide)) h0 h1 hx).1
 rw [hp,f4,hm r.1 (by omega),(Ayd L8.1 L8.2.1 (Nat.le_trans L8.2.2 (by decide)) (show 0≤r.1 % 2 by omega) (by omega) h64).1]
 refine Ao.bind (Q:=fun z=>z=(put P5 (r.1 % 2) (Cv r w),())) (Ao.some rfl) fun z hz=>?_
 subst hz
 dsimp only
 rw [f5,e1]
 refine Ao.no (by simp) ?_
 have fn:Bj P5 w=rt0:=A6e hw
 refine Ao.cond (fun _=>Ao.some (by rw [f5,fn]; rfl)) fun c2=>Ao.cond (fun _=>Ao.some (by rw [f5,fn]; rfl)) fun c9=>?_
 have c2:=of_decide_eq_false c2
 have c9:r.1≠1000000000:=beq_eq_false_iff_ne.1 c9
 have w1:IntKind.i64.wrap (r.1 + 1)=r.1 + 1:=Al (by omega) (by omega)
 have w2:IntKind.i64.wrap (r.1 - 1)=r.1 - 1:=Al (by omega) (by omega)
 have w3:IntKind.i64.wrap (1 - r.2.1)=1 - r.2.1:=Al (by omega) (by omega)
 have hmore:Rt1 (r.1 + 1,1 - r.2.1,r.2.2) w:=⟨⟨⟨by show 0≤r.1 + 1; omega,by show r.1 + 1≤1000000000; omega⟩,⟨by show 0≤1 - r.2.1; omega,by show 1 - r.2.1≤1; omega⟩,ok.2.2⟩,by show 1≤r.1 + 1; omega,hlf,hw⟩
 have hless:Rt1 (r.1 - 1,1 - r.2.1,r.2.2) w:=⟨⟨⟨by show 0≤r.1 - 1; omega,by show r.1 - 1≤1000000000; omega⟩,⟨by show 0≤1 - r.2.1; omega,by show 1 - r.2.1≤1; omega⟩,ok.2.2⟩,by show 1≤r.1 - 1; omega,hlf,hw⟩
 have g1:Cl (r.1 + 1,1 - r.2.1,r.2.2) w=Cv (r.1 + 1,1 - r.2.1,r.2.2) w:=rfl
 have g2:Cl (r.1 - 1,1 - r.2.1,r.2.2) w=Cv (r.1 - 1,1 - r.2.1,r.2.2) w:=rfl
 rw [w1,w2,w3,g1,g2,hm (r.1 + 1) (by omega),hm (r.1 - 1) (by omega),hp,hp,hp,p1 _ _ (by omega) (by omega) hmore.s64,p1 _ _ (by omega) (by omega) hless.s64,p1 _ _ (by omega) (by omega) hmore.s64]
 have b1:=Aln hr hmore (by show (r.1 + 1) % 2≠r.1 % 2; omega)
 have b2:=Aln hr hless (by show (r.1 - 1) % 2≠r.1 % 2; omega)
 have b3:=A0l hr hmore (by show (r.1 + 1) % 2≠r.1 % 2; omega)
 rw [Ag (show (r.1 + 1,1 - r.2.1,r.2.2).1 > r.1 by show r.1 + 1 > r.1; omega)] at b1
 rw [Bi (show ¬ (r.1 - 1,1 - r.2.1,r.2.2).1 > r.1 by show ¬ r.1 - 1 > r.1; omega)] at b2
 simp only [cond_true,cond_false] at b1 b2
 refine Ao.bind (Q:=fun z=>z.1=put (put P5 (r.1 % 2) (Cv r w)) ((r.1 + 1) % 2) (Cv (r.1 + 1,1 - r.2.1,r.2.2) w)) (Ao.some rfl) fun z1 h1=>?_
 refine Ao.bind (Q:=fun z=>z.1=put (put P5 (r.1 % 2) (Cv r w)) ((r.1 - 1) % 2) (Cv (r.1 - 1,1 - r.2.1,r.2.2) w)) (Ao.some rfl) fun z2 h2=>?_
 refine Ao.bind (Q:=fun z=>z.1=put (put P5 (r.1 % 2) (Cv r w)) (r.1 % 2) (Cv (r.1 + 1,1 - r.2.1,r.2.2) w)) (Ao.some rfl) fun z3 h3=>?_
 have b1:Bj (put (put P5 (r.1 % 2) (Cv r w)) ((r.1 + 1) % 2) (Cv (r.1 + 1,1 - r.2.1,r.2.2) w)) w=(r.1 + 1,1 - r.2.1,r.2.2):=b1
 have b2:Bj (put (put P5 (r.1 % 2) (Cv r w)) ((r.1 - 1) % 2) (Cv (r.1 - 1,1 - r.2.1,r.2.2) w)) w=r:=b2
 rw [h1,h2,h3,f5,f5,f5,b1,b2,b3]
 refine Ao.go (by simp) (Ao.go (by simp) (Ao.some rfl))
theorem Anh:Cg Try.prog 5 m8:=
 Ba (pat:=Eo) [] Jo (A9 (l:=[(16,a8),(23,Lq),(24,X6),(25,Ju),(26,Re),(27,Y2),(28,Qn),(29,m5)]) ⟨Ame,Q3,Ajz,Ma,Abx,Akx,Yv,Anf,trivial⟩) trivial Try.func5 (de:=fun x=>M8 x.1) (fun x r h=>h) fun _=>by kernel_rfl
end Go.Proofs.Ytfkefgbihlfjmaa.V
end
