/- What the functions that FnCrowded reaches come to: part 2. No condition. -/
import Derived.Test.YtfkefgbihlfjmaaGreatVFnCrowdeda
import Derived.KernelRfl
noncomputable section
set_option linter.unusedVariables false
set_option linter.unusedSimpArgs false
namespace Go.Proofs.YtfkefgbihlfjmaaGreat.V
open Go Go.Proofs.YtfkefgbihlfjmaaGreat.R Go.Proofs
set_option maxRecDepth 100000
def Qr (s:Ez) (life:Int):Option (Ez×List Dc×Bool):=if A3q s then some (j5 s life) else none
def Bby:Hh:=⟨[.rd Yg,.rd tI],[some 10,none],[.rd tI,.rd tI,.rd tI,.rd tI,.rd tI,.rd tI,.rd tI,.rd tI,.rd tI,.own 157 A1,.own 142 E4,.rd .bool],[some 10,none,none]⟩
def Agx:SD:=⟨Bby,fun x=>(Qr x.1 x.2.1).bind fun r=>some ((r.1.1,r.1.2.1,r.1.2.2.1,r.1.2.2.2.1.1,r.1.2.2.2.1.2.1,r.1.2.2.2.1.2.2.1,r.1.2.2.2.1.2.2.2.1,r.1.2.2.2.2.1,r.1.2.2.2.2.2.1,r.1.2.2.2.2.2.2.1.1,r.2.1,r.2.2,()),(()))⟩
def Agy:Tb:=tb [(96,Ny),(99,Xg),(103,Kw),(119,Akp),(120,P1),(121,Mz),(179,Wm),(185,Ae0)]
def I2:Nat→Dq×(Nat→Dq):=Hk [(8,⟨[.row 9 0 9 .str,.sl 52 0 (.sl Dr),.boxSl 2 9 A1,.boxRow 4 9 157 A1],[(1,.lf (.d tI)),(2,.lf (.ptr 0 0)),(4,.lf (.ptr 1 0)),(8,.lf (.ptr 2 0)),(9,.lf (.row 3)),(52,.lf (.d (.sl (.sl Dr)))),(53,.lf (.d tI)),(54,.lf (.d tI))],[.box 33 [.d Yg],.box 33 [.d tI,.d tI,.d tI,.d tI,.d tI,.d tI,.d tI,.d tI,.d tI,.row 4],.box 28 [.d yRt],.row 9 .str,.row 157 A1]⟩,[(2,⟨[.row 9 0 9 .str,.boxSl 2 9 A1,.boxRow 4 9 157 A1],[(1,.lf (.d tI)),(2,.lf (.ptr 0 0)),(4,.lf (.ptr 1 0)),(8,.lf (.ptr 2 0)),(9,.lf (.row 3))],[.box 33 [.d Yg],.box 33 [.d tI,.d tI,.d tI,.d tI,.d tI,.d tI,.d tI,.d tI,.d tI,.row 4],.box 28 [.d yRt],.row 9 .str,.row 157 A1]⟩)]),(14,⟨[.sl 9 0 .str,.row 12 0 142 E4,.sl 72 0 .str,.boxSl 2 9 A1,.boxRow 4 9 157 A1],[(1,.lf (.d tI)),(2,.lf (.ptr 0 0)),(4,.lf (.ptr 1 0)),(8,.lf (.ptr 2 0)),(9,.lf (.d (.sl .str))),(12,.lf (.row 3)),(72,.lf (.d (.sl .str))),(73,.lf (.d tI)),(74,.lf (.d tI))],[.box 33 [.d Yg],.box 33 [.d tI,.d tI,.d tI,.d tI,.d tI,.d tI,.d tI,.d tI,.d tI,.row 4],.box 28 [.d yRt],.row 142 E4,.row 157 A1]⟩,[(4,⟨[.sl 9 0 .str,.row 12 0 142 E4,.boxSl 2 9 A1,.boxRow 4 9 157 A1],[(1,.lf (.d tI)),(2,.lf (.ptr 0 0)),(4,.lf (.ptr 1 0)),(8,.lf (.ptr 2 0)),(9,.lf (.d (.sl .str))),(12,.lf (.row 3))],[.box 33 [.d Yg],.box 33 [.d tI,.d tI,.d tI,.d tI,.d tI,.d tI,.d tI,.d tI,.d tI,.row 4],.box 28 [.d yRt],.row 142 E4,.row 157 A1]⟩)])]
def Ald:Code:=(Ax (Bm Tryz.f104)).getD 0 .skip
def Aht:Code:=(Ax (Bm Tryz.f104)).getD 1 .skip
def Mj (v1:Int) (v9 v72:List Aa) (v73 v74:Int) (b0:Ez) (b1_0 b1_1:Int) (b1_2 b1_3:Int) (b1_4 b1_5:Int) (b1_6 b1_7 b1_8:Int) (b2:Rt) (r3:List Dc) (r4:List A2):Nat:=(v73 - v74).toNat + 1
def Ph {R:Type}  (NX:((Int)×(List Aa)×(List Aa)×(Int)×(Int)×Ez×(Int)×(Int)×(Int)×(Int)×(Int)×(Int)×(Int)×(Int)×(Int)×Rt×(List Dc)×(List A2)×Unit)→Option R) (X4:((Int)×(List Aa)×Ez×(Int)×(Int)×(Int)×(Int)×(Int)×(Int)×(Int)×(Int)×(Int)×Rt×(List Dc)×(List A2)×Unit)→Option R) (v1:Int) (v9:List Aa) (v72:List Aa) (v73:Int) (v74:Int) (b0:Ez) (b1_0:Int) (b1_1:Int) (b1_2:Int) (b1_3:Int) (b1_4:Int) (b1_5:Int) (b1_6:Int) (b1_7:Int) (b1_8:Int) (b2:Rt) (r3:List Dc) (r4:List A2):Option R:=
 bif decide (v74 < v73) then bif decide (0≤v74) then bif decide (v74 < nI v72.length) then bif decide ((r3.length + [(false,IntKind.i64.wrap (Df b2.2.1 b0.2.1 + v74),v72.getD v74.toNat (Ad),())].length) * 32≤140737488355328) then NX (v1,v9,v72,v73,IntKind.i64.wrap (v74 + 1),b0,b1_0,b1_1,b1_2,b1_3,b1_4,b1_5,b1_6,b1_7,b1_8,b2,r3++[(false,IntKind.i64.wrap (Df b2.2.1 b0.2.1 + v74),v72.getD v74.toNat (Ad),())],r4,()) else none else none else none else X4 (v1,v9,b0,b1_0,b1_1,b1_2,b1_3,b1_4,b1_5,b1_6,b1_7,b1_8,b2,r3,r4,())
def Fk:Nat→(Int)→(List Aa)→(List Aa)→(Int)→(Int)→Ez→(Int)→(Int)→(Int)→(Int)→(Int)→(Int)→(Int)→(Int)→(Int)→Rt→(List Dc)→(List A2) →  Option ((Int)×(List Aa)×Ez×(Int)×(Int)×(Int)×(Int)×(Int)×(Int)×(Int)×(Int)×(Int)×Rt×(List Dc)×(List A2)×Unit)
 | 0,_,_,_,_,_,_,_,_,_,_,_,_,_,_,_,_,_,_=>none
 | m + 1,v1,v9,v72,v73,v74,b0,b1_0,b1_1,b1_2,b1_3,b1_4,b1_5,b1_6,b1_7,b1_8,b2,r3,r4=>Ph  (fun d=>Fk m d.1 d.2.1 d.2.2.1 d.2.2.2.1 d.2.2.2.2.1 d.2.2.2.2.2.1 d.2.2.2.2.2.2.1 d.2.2.2.2.2.2.2.1 d.2.2.2.2.2.2.2.2.1 d.2.2.2.2.2.2.2.2.2.1 d.2.2.2.2.2.2.2.2.2.2.1 d.2.2.2.2.2.2.2.2.2.2.2.1 d.2.2.2.2.2.2.2.2.2.2.2.2.1 d.2.2.2.2.2.2.2.2.2.2.2.2.2.1 d.2.2.2.2.2.2.2.2.2.2.2.2.2.2.1 d.2.2.2.2.2.2.2.2.2.2.2.2.2.2.2.1 d.2.2.2.2.2.2.2.2.2.2.2.2.2.2.2.2.1 d.2.2.2.2.2.2.2.2.2.2.2.2.2.2.2.2.2.1) (fun d=>some (d)) v1 v9 v72 v73 v74 b0 b1_0 b1_1 b1_2 b1_3 b1_4 b1_5 b1_6 b1_7 b1_8 b2 r3 r4
def Azz (d:(Int)×(List Aa)×(List Aa)×(Int)×(Int)×Ez×(Int)×(Int)×(Int)×(Int)×(Int)×(Int)×(Int)×(Int)×(Int)×Rt×(List Dc)×(List A2)×Unit):Option ((Int)×(List Aa)×Ez×(Int)×(Int)×(Int)×(Int)×(Int)×(Int)×(Int)×(Int)×(Int)×Rt×(List Dc)×(List A2)×Unit):=(u4 (u4 (u4 (u4 (Ac (Ac Ah)))))) (Fk ((u4 (u4 (u4 (u4 (Ac (Ac Ah)))))) Mj d)) d
def N4 (v1:Int) (v52:List (List Bc)) (v53 v54:Int) (b0:Ez) (b1_0 b1_1:Int) (b1_2 b1_3:Int) (b1_4 b1_5:Int) (b1_6 b1_7 b1_8:Int) (b2:Rt) (r3:List Aa) (r4:List A2):Nat:=(v53 - v54).toNat + 1
def Qs {R:Type}  (NX:((Int)×(List (List Bc))×(Int)×(Int)×Ez×(Int)×(Int)×(Int)×(Int)×(Int)×(Int)×(Int)×(Int)×(Int)×Rt×(List Aa)×(List A2)×Unit)→Option R) (X2:((Int)×Ez×(Int)×(Int)×(Int)×(Int)×(Int)×(Int)×(Int)×(Int)×(Int)×Rt×(List Aa)×(List A2)×Unit)→Option R) (v1:Int) (v52:List (List Bc)) (v53:Int) (v54:Int) (b0:Ez) (b1_0:Int) (b1_1:Int) (b1_2:Int) (b1_3:Int) (b1_4:Int) (b1_5:Int) (b1_6:Int) (b1_7:Int) (b1_8:Int) (b2:Rt) (r3:List Aa) (r4:List A2):Option R:=
 bif decide (v54 < v53) then bif decide (0≤v54) then bif decide (v54 < nI v52.length) then ((S4 (Fu (v52.getD v54.toNat [])) v1 (IntKind.i64.wrap (b2.2.2.1 + nI r3.length)) b0.1).bind fun val=>some ((val,()),())).bind fun val=>bif decide ((r3.length + List.length val.1.1) * 16≤140737488355328) then NX (v1,v52,v53,IntKind.i64.wrap (v54 + 1),b0,b1_0,b1_1,b1_2,b1_3,b1_4,b1_5,b1_6,b1_7,b1_8,b2,r3++val.1.1,r4,()) else none else none else none else X2 (v1,b0,b1_0,b1_1,b1_2,b1_3,b1_4,b1_5,b1_6,b1_7,b1_8,b2,r3,r4,())
def Gm:Nat→(Int)→(List (List Bc))→(Int)→(Int)→Ez→(Int)→(Int)→(Int)→(Int)→(Int)→(Int)→(Int)→(Int)→(Int)→Rt→(List Aa)→(List A2) →  Option ((Int)×Ez×(Int)×(Int)×(Int)×(Int)×(Int)×(Int)×(Int)×(Int)×(Int)×Rt×(List Aa)×(List A2)×Unit)
 | 0,_,_,_,_,_,_,_,_,_,_,_,_,_,_,_,_,_=>none
 | m + 1,v1,v52,v53,v54,b0,b1_0,b1_1,b1_2,b1_3,b1_4,b1_5,b1_6,b1_7,b1_8,b2,r3,r4=>Qs  (fun d=>Gm m d.1 d.2.1 d.2.2.1 d.2.2.2.1 d.2.2.2.2.1 d.2.2.2.2.2.1 d.2.2.2.2.2.2.1 d.2.2.2.2.2.2.2.1 d.2.2.2.2.2.2.2.2.1 d.2.2.2.2.2.2.2.2.2.1 d.2.2.2.2.2.2.2.2.2.2.1 d.2.2.2.2.2.2.2.2.2.2.2.1 d.2.2.2.2.2.2.2.2.2.2.2.2.1 d.2.2.2.2.2.2.2.2.2.2.2.2.2.1 d.2.2.2.2.2.2.2.2.2.2.2.2.2.2.1 d.2.2.2.2.2.2.2.2.2.2.2.2.2.2.2.1 d.2.2.2.2.2.2.2.2.2.2.2.2.2.2.2.2.1) (fun d=>some (d)) v1 v52 v53 v54 b0 b1_0 b1_1 b1_2 b1_3 b1_4 b1_5 b1_6 b1_7 b1_8 b2 r3 r4
def A5c (d:(Int)×(List (List Bc))×(Int)×(Int)×Ez×(Int)×(Int)×(Int)×(Int)×(Int)×(Int)×(Int)×(Int)×(Int)×Rt×(List Aa)×(List A2)×Unit):Option ((Int)×Ez×(Int)×(Int)×(Int)×(Int)×(Int)×(Int)×(Int)×(Int)×(Int)×Rt×(List Aa)×(List A2)×Unit):=(u4 (u4 (u4 (u4 (Ac Ah))))) (Gm ((u4 (u4 (u4 (u4 (Ac Ah))))) N4 d)) d
def Agz (a0:Ez) (a1:Int):Option ((((Int)×(Int)×(Int)×(Int)×(Int)×(Int)×(Int)×(Int)×(Int)×(List A2)×(List Dc)×(Bool)×Unit)×(Unit))):=
 bif decide (IntKind.i64.wrap (a0.2.2.2.1.1 + 1) > 1000000000) then some ((0,0,0,0,0,0,0,0,0,[],[],false,()),()) else bif decide (IntKind.i64.wrap (a0.2.2.2.1.2.2.1 + Bu a0.2.1) > 999999000) then some ((0,0,0,0,0,0,0,0,0,[],[],false,()),()) else ((fun d=>Gm (N4 d.1 d.2.1 d.2.2.1 d.2.2.2.1 d.2.2.2.2.1 d.2.2.2.2.2.1 d.2.2.2.2.2.2.1 d.2.2.2.2.2.2.2.1 d.2.2.2.2.2.2.2.2.1 d.2.2.2.2.2.2.2.2.2.1 d.2.2.2.2.2.2.2.2.2.2.1 d.2.2.2.2.2.2.2.2.2.2.2.1 d.2.2.2.2.2.2.2.2.2.2.2.2.1 d.2.2.2.2.2.2.2.2.2.2.2.2.2.1 d.2.2.2.2.2.2.2.2.2.2.2.2.2.2.1 d.2.2.2.2.2.2.2.2.2.2.2.2.2.2.2.1 d.2.2.2.2.2.2.2.2.2.2.2.2.2.2.2.2.1) d.1 d.2.1 d.2.2.1 d.2.2.2.1 d.2.2.2.2.1 d.2.2.2.2.2.1 d.2.2.2.2.2.2.1 d.2.2.2.2.2.2.2.1 d.2.2.2.2.2.2.2.2.1 d.2.2.2.2.2.2.2.2.2.1 d.2.2.2.2.2.2.2.2.2.2.1 d.2.2.2.2.2.2.2.2.2.2.2.1 d.2.2.2.2.2.2.2.2.2.2.2.2.1 d.2.2.2.2.2.2.2.2.2.2.2.2.2.1 d.2.2.2.2.2.2.2.2.2.2.2.2.2.2.1 d.2.2.2.2.2.2.2.2.2.2.2.2.2.2.2.1 d.2.2.2.2.2.2.2.2.2.2.2.2.2.2.2.2.1) (a1,Ib a0.2.2.2.2.2.2.1,nI (Ib a0.2.2.2.2.2.2.1).length,0,a0,0,0,0,0,0,0,0,0,0,(IntKind.i64.wrap (a0.2.2.2.1.1 + 1),IntKind.i64.wrap (1 - a0.2.2.2.1.2.1),IntKind.i64.wrap (a0.2.2.2.1.2.2.1 + Bu a0.2.1),a1,()),[Dw (3,a1,IntKind.i64.wrap (a0.2.2.2.1.2.2.1 + Bu a0.2.1),Ad,()) a0.1],[],())).bind fun val=>((fun d=>Fk (Mj d.1 d.2.1 d.2.2.1 d.2.2.2.1 d.2.2.2.2.1 d.2.2.2.2.2.1 d.2.2.2.2.2.2.1 d.2.2.2.2.2.2.2.1 d.2.2.2.2.2.2.2.2.1 d.2.2.2.2.2.2.2.2.2.1 d.2.2.2.2.2.2.2.2.2.2.1 d.2.2.2.2.2.2.2.2.2.2.2.1 d.2.2.2.2.2.2.2.2.2.2.2.2.1 d.2.2.2.2.2.2.2.2.2.2.2.2.2.1 d.2.2.2.2.2.2.2.2.2.2.2.2.2.2.1 d.2.2.2.2.2.2.2.2.2.2.2.2.2.2.2.1 d.2.2.2.2.2.2.2.2.2.2.2.2.2.2.2.2.1 d.2.2.2.2.2.2.2.2.2.2.2.2.2.2.2.2.2.1) d.1 d.2.1 d.2.2.1 d.2.2.2.1 d.2.2.2.2.1 d.2.2.2.2.2.1 d.2.2.2.2.2.2.1 d.2.2.2.2.2.2.2.1 d.2.2.2.2.2.2.2.2.1 d.2.2.2.2.2.2.2.2.2.1 d.2.2.2.2.2.2.2.2.2.2.1 d.2.2.2.2.2.2.2.2.2.2.2.1 d.2.2.2.2.2.2.2.2.2.2.2.2.1 d.2.2.2.2.2.2.2.2.2.2.2.2.2.1 d.2.2.2.2.2.2.2.2.2.2.2.2.2.2.1 d.2.2.2.2.2.2.2.2.2.2.2.2.2.2.2.1 d.2.2.2.2.2.2.2.2.2.2.2.2.2.2.2.2.1 d.2.2.2.2.2.2.2.2.2.2.2.2.2.2.2.2.2.1) (val.1,val.2.2.2.2.2.2.2.2.2.2.2.2.1,val.2.2.2.2.2.2.2.2.2.2.2.2.1,nI val.2.2.2.2.2.2.2.2.2.2.2.2.1.length,0,val.2.1,val.2.2.1,val.2.2.2.1,val.2.2.2.2.1,val.2.2.2.2.2.1,val.2.2.2.2.2.2.1,val.2.2.2.2.2.2.2.1,val.2.2.2.2.2.2.2.2.1,val.2.2.2.2.2.2.2.2.2.1,val.2.2.2.2.2.2.2.2.2.2.1,val.2.2.2.2.2.2.2.2.2.2.2.1,[],val.2.2.2.2.2.2.2.2.2.2.2.2.2)).bind fun val=>bif decide ((val.2.2.2.2.2.2.2.2.2.2.2.2.2.1.length + [(true,0,Ad,()),(false,Int.tmod val.2.2.2.2.2.2.2.2.2.2.2.2.1.1 2,Mi val.2.2.2.2.2.2.2.2.2.2.2.2.1 val.2.2.1.1,()),(true,0,Ad,())].length) * 32≤140737488355328) then ((Br val.2.2.1.2.2.2.2.2.2.1).bind fun val=>some (val,())).bind fun val_1=>some ((val.2.2.1.1,val.2.2.1.2.1,val.1,val.2.2.2.2.2.2.2.2.2.2.2.2.1.1,val.2.2.2.2.2.2.2.2.2.2.2.2.1.2.1,val.2.2.2.2.2.2.2.2.2.2.2.2.1.2.2.1,val.2.2.2.2.2.2.2.2.2.2.2.2.1.2.2.2.1,nI (List.length val.2.1),0,val_1.1.1,val.2.2.2.2.2.2.2.2.2.2.2.2.2.1++[(true,0,Ad,()),(false,Int.tmod val.2.2.2.2.2.2.2.2.2.2.2.2.1.1 2,Mi val.2.2.2.2.2.2.2.2.2.2.2.2.1 val.2.2.1.1,()),(true,0,Ad,())],true,()),()) else none
theorem Bhm (v1:Int) (s:Ez) (R:Rt) (S:List (List Bc)) (L:List Aa) (hS:S.length≤101) (hF:0≤R.2.2.1∧R.2.2.1≤1000000099) (hL:L.length≤1):
  Gm (N4 v1 S (nI S.length) 0 s 0 0 0 0 0 0 0 0 0 R L []) v1 S (nI S.length) 0 s 0 0 0 0 0 0 0 0 0 R L []=
  some (v1,s,0,0,0,0,0,0,0,0,0,R,Ds (fun _ b L=>Sq s.1 v1 R.2.2.1 b L) 0 S L,[],()):=by
 have hL:=E6 (xs:=S) [] MvI (fun _ b L=>Sq s.1 v1 R.2.2.1 b L) (g:=fun m i L=>Gm m v1 S (nI S.length) i s 0 0 0 0 0 0 0 0 0 R L []) (ok:=fun L=>(v1,s,0,0,0,0,0,0,0,0,0,R,L,[],())) (fun m i L hi hI=>by
   show Gm (m + 1) v1 S (nI S.length) i s 0 0 0 0 0 0 0 0 0 R L []=_
   simp only [Gm,Qs]
   obtain ⟨h1,h2⟩:=hI
   rw [cLt hi,J1,wI (show i < 4611686018427387904 by omega),Fz]
   have e0:IntKind.i64.wrap (R.2.2.1 + nI L.length)=R.2.2.1 + (L.length:Int):=by simp only [nI]; exact Aj (by omega) (by omega)
   have e1:S4 (Fu (List.getD S i [])) v1 (R.2.2.1 + (L.length:Int)) s.1=some (Xm (Be (List.getD S i [])) v1 (R.2.2.1 + (L.length:Int)) s.1):=if_pos (Nat.le_trans (La _) (by decide))
   rw [e0,e1]
   simp only [cond_true,Option.bind_some]
   have e2:=Am8 (List.getD S i []) v1 (R.2.2.1 + (L.length:Int)) s.1
   rw [Af (show (L.length + (Xm (Be (List.getD S i [])) v1 (R.2.2.1 + (L.length:Int)) s.1).length) * 16≤140737488355328 by omega)]
   rfl) (fun i L hi hI=>hI.step (by omega) _ _ _ _) (fun m L hI=>by
   show Gm (m + 1) v1 S (nI S.length) (S.length:Int) s 0 0 0 0 0 0 0 0 0 R L []=_
   simp only [Gm,Qs]
   rw [Qd]
   rfl) (N4 v1 S (nI S.length) 0 s 0 0 0 0 0 0 0 0 0 R L []) 0 L (by omega) (by simp [N4,nI]) ⟨by omega,by omega⟩
 exact hL
theorem Bfe (v1:Int) (s:Ez) (R:Rt) (L:List Aa) (hL:L.length≤500000) (hH:0≤R.2.1∧R.2.1≤1):
  Fk (Mj v1 L L (nI L.length) 0 s 0 0 0 0 0 0 0 0 0 R [] []) v1 L L (nI L.length) 0 s 0 0 0 0 0 0 0 0 0 R [] []=
  some (v1,L,s,0,0,0,0,0,0,0,0,0,R,C9 (Bk R.2.1 s.2.1) L,[],()):=by
 have hh:=Pm s.2.1
 have hm:0≤R.2.1 * Al s.2.1∧R.2.1 * Al s.2.1≤99:=by
  have:R.2.1=0∨R.2.1=1:=by omega
  rcases this with e | e<;>rw [e]<;>omega
 have e0:Df R.2.1 s.2.1=Bk R.2.1 s.2.1:=by
  show IntKind.i64.wrap (2 + IntKind.i64.wrap (R.2.1 * Al s.2.1))=2 + R.2.1 * Al s.2.1
  rw [Aj (n:=R.2.1 * Al s.2.1) (by omega) (by omega),Aj (by omega) (by omega)]
 have hB:0≤Bk R.2.1 s.2.1∧Bk R.2.1 s.2.1≤101:=by unfold Bk; omega
 have hL:=E6 (xs:=L) z0 (fun i (r:List Dc)=>i≤500000∧r.length=i) (fun (i:Nat) x r=>r++[Lb (Bk R.2.1 s.2.1 + (i:Int)) x]) (g:=fun m i r=>Fk m v1 L L (nI L.length) i s 0 0 0 0 0 0 0 0 0 R r []) (ok:=fun r=>(v1,L,s,0,0,0,0,0,0,0,0,0,R,r,[],())) (fun m i r hi hI=>by
   show Fk (m + 1) v1 L L (nI L.length) i s 0 0 0 0 0 0 0 0 0 R r []=_
   simp only [Fk,Ph]
   obtain ⟨h1,h2⟩:=hI
   rw [cLt hi,J1,wI (show i < 4611686018427387904 by omega),Fz,e0,Aj (n:=Bk R.2.1 s.2.1 + (i:Int)) (by omega) (by omega),En,Af (show (r.length + 1) * 32≤140737488355328 by omega)]
   rfl) (fun i r hi hI=>⟨by omega,by rw [Dn,En,hI.2]⟩) (fun m r hI=>by
   show Fk (m + 1) v1 L L (nI L.length) (L.length:Int) s 0 0 0 0 0 0 0 0 0 R r []=_
   simp only [Fk,Ph]
   rw [Qd]
   rfl) (Mj v1 L L (nI L.length) 0 s 0 0 0 0 0 0 0 0 0 R [] []) 0 [] (by omega) (by simp [Mj,nI]) ⟨by omega,rfl⟩
 rw [Am7,List.drop_zero,List.nil_append,show Bk R.2.1 s.2.1 + ((0:Nat):Int)=Bk R.2.1 s.2.1 by omega] at hL
 exact hL
theorem Bbz (a0:Ez) (a1:Int) r (h:Qr a0 a1=some r):Agz a0 a1=some ((r.1.1,r.1.2.1,r.1.2.2.1,r.1.2.2.2.1.1,r.1.2.2.2.1.2.1,r.1.2.2.2.1.2.2.1,r.1.2.2.2.1.2.2.2.1,r.1.2.2.2.2.1,r.1.2.2.2.2.2.1,r.1.2.2.2.2.2.2.1.1,r.2.1,r.2.2,()),(())):=by
 unfold Qr at h
 split at h
 rotate_left
 ·cases h
 rename_i hk
 cases h
 obtain ⟨⟨t0,t1⟩,⟨h0,h1⟩,⟨f0,f1⟩,hp⟩:=hk
 have hh:=Pm a0.2.1
 unfold Agz j5
 simp only [Bu,Ib,Dw,Mi]
 show (bif decide (IntKind.i64.wrap (a0.2.2.2.1.1 + 1) > 1000000000) then _ else bif decide (IntKind.i64.wrap (a0.2.2.2.1.2.2.1 + Al a0.2.1) > 999999000) then _ else _)=_
 rw [Aj (n:=a0.2.2.2.1.1 + 1) (by omega) (by omega),Aj (n:=a0.2.2.2.1.2.2.1 + Al a0.2.1) (by omega) (by omega),Aj (n:=1 - a0.2.2.2.1.2.1) (by omega) (by omega)]
 cases hc1:decide (a0.2.2.2.1.1 + 1 > 1000000000) with
 | true=>rfl
 | false=>
  cases hc2:decide (a0.2.2.2.1.2.2.1 + Al a0.2.1 > 999999000) with
  | true=>rfl
  | false=>
   simp only [cond_false]
   have hL1:=Bhm a1 a0 ((a0.2.2.2.1.1 + 1),(1 - a0.2.2.2.1.2.1),(a0.2.2.2.1.2.2.1 + Al a0.2.1),a1,()) (Ed a0.2.2.2.2.2.2.1) [Ca (3,a1,a0.2.2.2.1.2.2.1 + Al a0.2.1,z0,()) a0.1] (Tl _) ⟨by dsimp only; omega,by dsimp only; omega⟩ (Nat.le_refl 1)
   have hL2:=Bfe a1 a0 ((a0.2.2.2.1.1 + 1),(1 - a0.2.2.2.1.2.1),(a0.2.2.2.1.2.2.1 + Al a0.2.1),a1,()) (mvL a0 a1) (A1o a0 a1) ⟨by dsimp only; omega,by dsimp only; omega⟩
   have hl:=A1o a0 a1
   have e1:Br (a0.2.2.2.2.2.2.1.1,())=some (a0.2.2.2.2.2.2.1.1,()):=if_pos hp
   have e2:decide (((C9 (Bk (1 - a0.2.2.2.1.2.1) a0.2.1) (mvL a0 a1)).length + 3) * 32≤140737488355328)=true:=Af (by rw [Q7]; omega)
   refine Yi hL1 ?_
   dsimp only
   refine Yi hL2 ?_
   dsimp only
   simp only [List.length_cons,List.length_nil,Nat.zero_add,Nat.reduceAdd]
   rw [e2,e1]
   rfl
def Ale {R:Type} (k:Kt R):=(L7 (I2 8) (.exit 0) 2 k)
def Ahu {R:Type} (k:Kt R):=(L7 (I2 14) (.exit 2) 4 k)
def Alf {R:Type}:Lt R I2:=(Fp (pat:=I2) 8 (fun d k=>(A5c d).bind (Ale k)) (Fp (pat:=I2) 14 (fun d k=>(Azz d).bind (Ahu k)) Ik))
theorem Ag0:A5 Tryz.prog Agy:=Bb ⟨Qk,Ac3,N0,Ayz,Uv,P4,Ael,Aw9,trivial⟩
theorem Az0 {R:Type}:Ba Tryz.prog R 119 0 I2 Alf Aht:=
 Cn (cfg:=⟨Agy,0,119,I2⟩) 14 [] (fun NX X d=>(u4 (u4 (u4 (u4 (Ac (Ac Ah)))))) (Ph  NX X) d) (fun m d=>(u4 (u4 (u4 (u4 (Ac (Ac Ah)))))) (Fk m) d) (fun d=>(u4 (u4 (u4 (u4 (Ac (Ac Ah)))))) Mj d) Ahu Ag0 trivial (fun f NX d=>by simp only [u4,Ac,Ah]; unfold Ph; simp only [nb])
theorem A5d {R:Type}:Ba Tryz.prog R 119 0 I2 Alf Ald:=
 Cn (cfg:=⟨Agy,0,119,I2⟩) 8 [] (fun NX X d=>(u4 (u4 (u4 (u4 (Ac Ah))))) (Qs  NX X) d) (fun m d=>(u4 (u4 (u4 (u4 (Ac Ah))))) (Gm m) d) (fun d=>(u4 (u4 (u4 (u4 (Ac Ah))))) N4 d) Ale Ag0 trivial (fun f NX d=>by simp only [u4,Ac,Ah]; unfold Qs; simp only [nb])
theorem Aud:B8 Tryz.prog 104 Agx:=
 A7 (pat:=I2) [Ald,Aht] Alf Ag0 ⟨A5d,Az0,trivial⟩ Tryz.func104 (de:=fun x=>Agz x.1 x.2.1) (fun x r h=>Hf (Bbz x.1 x.2.1) h) fun _=>by kernel_rfl
def B0 (d:Dk) (w:Int):Pl:=L8 d w
def Aue:Hh:=⟨[.rd yDk,.rd tI],[some 2,none],[.rd tI,.rd tI,.rd tI,.rd tI,.rd tI,.rd tI,.rd tI,.rd tI,.rd tI,.rd tI,.own 157 A1,.own 142 E4],[some 12]⟩
def Bb0:SD:=⟨Aue,fun x=>some (((B0 x.1 x.2.1).1,(B0 x.1 x.2.1).2.1.1,(B0 x.1 x.2.1).2.1.2.1,(B0 x.1 x.2.1).2.1.2.2.1,(B0 x.1 x.2.1).2.1.2.2.2.1.1,(B0 x.1 x.2.1).2.1.2.2.2.1.2.1,(B0 x.1 x.2.1).2.1.2.2.2.1.2.2.1,(B0 x.1 x.2.1).2.1.2.2.2.1.2.2.2.1,(B0 x.1 x.2.1).2.1.2.2.2.2.1,(B0 x.1 x.2.1).2.1.2.2.2.2.2.1,(B0 x.1 x.2.1).2.1.2.2.2.2.2.2.1.1,(B0 x.1 x.2.1).2.2.1,()),(()))⟩
def Auf:Tb:=tb [(94,Hr),(95,Do),(96,Ny),(97,Aew),(98,At5),(99,Xg),(100,Abs),(101,Ac4),(102,b4),(103,Kw),(104,Agx)]
def O5:Nat→Dq×(Nat→Dq):=Hk [(10,⟨[.sl 50 0 .str,.boxRow 4 10 157 A1,.boxRow 4 11 142 E4,.boxSl 8 0 .str,.boxRow 9 0 157 A1],[(1,.lf (.d tI)),(4,.lf (.ptr 0 0)),(5,.lf (.d tI)),(6,.lf (.d tI)),(7,.lf (.ptr 1 0)),(8,.lf (.ptr 2 0)),(9,.lf (.ptr 3 0)),(50,.lf (.d (.sl .str))),(51,.lf (.d tI)),(52,.lf (.d tI))],[.box 68 [.d tI,.d tI,.d tI,.d tI,.d tI,.d tI,.d tI,.d tI,.d tI,.d tI,.row 4,.row 5],.box 28 [.d tI,.d tI,.d tI,.d tI],.box 135 [.d (.sl .str),.d tI,.d tI],.box 31 [.row 6],.row 157 A1,.row 142 E4,.row 157 A1]⟩,[(2,⟨[.boxRow 4 10 157 A1,.boxRow 4 11 142 E4,.boxSl 8 0 .str,.boxRow 9 0 157 A1],[(1,.lf (.d tI)),(4,.lf (.ptr 0 0)),(5,.lf (.d tI)),(6,.lf (.d tI)),(7,.lf (.ptr 1 0)),(8,.lf (.ptr 2 0)),(9,.lf (.ptr 3 0))],[.box 68 [.d tI,.d tI,.d tI,.d tI,.d tI,.d tI,.d tI,.d tI,.d tI,.d tI,.row 4,.row 5],.box 28 [.d tI,.d tI,.d tI,.d tI],.box 135 [.d (.sl .str),.d tI,.d tI],.box 31 [.row 6],.row 157 A1,.row 142 E4,.row 157 A1]⟩),(1,⟨[.boxRow 4 10 157 A1,.boxRow 4 11 142 E4],[(4,.lf (.ptr 0 0))],[.box 68 [.d tI,.d tI,.d tI,.d tI,.d tI,.d tI,.d tI,.d tI,.d tI,.d tI,.row 1,.row 2],.row 157 A1,.row 142 E4]⟩)])]
def Ahv:Code:=(Ax (Bm Tryz.f27)).getD 0 .skip
def Mk (v1 v5 v6:Int) (v50:List Aa) (v51 v52:Int) (b0_0 b0_1:Int) (b0_2 b0_3:Int) (b0_4 b0_5:Int) (b0_6 b0_7:Int) (b0_8 b0_9:Int) (b1_0 b1_1:Int) (b1_2 b1_3:Int) (b2_0:List Aa) (b2_1 b2_2:Int) (r4:List A2) (r5:List Dc) (r6:List A2):Nat:=(v51 - v52).toNat + 1
def Pi {R:Type}  (NX:((Int)×(Int)×(Int)×(List Aa)×(Int)×(Int)×(Int)×(Int)×(Int)×(Int)×(Int)×(Int)×(Int)×(Int)×(Int)×(Int)×(Int)×(Int)×(Int)×(Int)×(List Aa)×(Int)×(Int)×(List A2)×(List Dc)×(List A2)×Unit)→Option R) (X2:((Int)×(Int)×(Int)×(Int)×(Int)×(Int)×(Int)×(Int)×(Int)×(Int)×(Int)×(Int)×(Int)×(Int)×(Int)×(Int)×(Int)×(List Aa)×(Int)×(Int)×(List A2)×(List Dc)×(List A2)×Unit)→Option R) (X1:((Int)×(Int)×(Int)×(Int)×(Int)×(Int)×(Int)×(Int)×(Int)×(Int)×(List A2)×(List Dc)×Unit)→Option R) (v1:Int) (v5:Int) (v6:Int) (v50:List Aa) (v51:Int) (v52:Int) (b0_0:Int) (b0_1:Int) (b0_2:Int) (b0_3:Int) (b0_4:Int) (b0_5:Int) (b0_6:Int) (b0_7:Int) (b0_8:Int) (b0_9:Int) (b1_0:Int) (b1_1:Int) (b1_2:Int) (b1_3:Int) (b2_0:List Aa) (b2_1:Int) (b2_2:Int) (r4:List A2) (r5:List Dc) (r6:List A2):Option R:=
 bif decide (v52 < v51) then bif decide (0≤v52) then bif decide (v52 < nI v50.length) then bif !(Hd (v50.getD v52.toNat (Ad))).2 then X1 (2,0,0,0,0,0,0,0,0,0,[],[],()) else bif (Gq (r6,()) (Hd (v50.getD v52.toNat (Ad))).1).2 != 0 then X1 (2,0,0,0,0,0,0,0,0,0,[],[],()) else NX (v1,v5,v6,v50,v51,IntKind.i64.wrap (v52 + 1),b0_0,b0_1,b0_2,b0_3,b0_4,b0_5,b0_6,b0_7,b0_8,b0_9,b1_0,b1_1,b1_2,b1_3,b2_0,b2_1,b2_2,r4,r5,(Gq (r6,()) (Hd (v50.getD v52.toNat (Ad))).1).1) else none else none else X2 (v1,v5,v6,b0_0,b0_1,b0_2,b0_3,b0_4,b0_5,b0_6,b0_7,b0_8,b0_9,b1_0,b1_1,b1_2,b1_3,b2_0,b2_1,b2_2,r4,r5,r6,())
def Fl:Nat→(Int)→(Int)→(Int)→(List Aa)→(Int)→(Int)→(Int)→(Int)→(Int)→(Int)→(Int)→(Int)→(Int)→(Int)→(Int)→(Int)→(Int)→(Int)→(Int)→(Int)→(List Aa)→(Int)→(Int)→(List A2)→(List Dc)→(List A2) →  Option (((Int)×(Int)×(Int)×(Int)×(Int)×(Int)×(Int)×(Int)×(Int)×(Int)×(Int)×(Int)×(Int)×(Int)×(Int)×(Int)×(Int)×(List Aa)×(Int)×(Int)×(List A2)×(List Dc)×(List A2)×Unit) ⊕ ((Int)×(Int)×(Int)×(Int)×(Int)×(Int)×(Int)×(Int)×(Int)×(Int)×(List A2)×(List Dc)×Unit))
 | 0,_,_,_,_,_,_,_,_,_,_,_,_,_,_,_,_,_,_,_,_,_,_,_,_,_,_=>none
 | m + 1,v1,v5,v6,v50,v51,v52,b0_0,b0_1,b0_2,b0_3,b0_4,b0_5,b0_6,b0_7,b0_8,b0_9,b1_0,b1_1,b1_2,b1_3,b2_0,b2_1,b2_2,r4,r5,r6=>Pi  (fun d=>Fl m d.1 d.2.1 d.2.2.1 d.2.2.2.1 d.2.2.2.2.1 d.2.2.2.2.2.1 d.2.2.2.2.2.2.1 d.2.2.2.2.2.2.2.1 d.2.2.2.2.2.2.2.2.1 d.2.2.2.2.2.2.2.2.2.1 d.2.2.2.2.2.2.2.2.2.2.1 d.2.2.2.2.2.2.2.2.2.2.2.1 d.2.2.2.2.2.2.2.2.2.2.2.2.1 d.2.2.2.2.2.2.2.2.2.2.2.2.2.1 d.2.2.2.2.2.2.2.2.2.2.2.2.2.2.1 d.2.2.2.2.2.2.2.2.2.2.2.2.2.2.2.1 d.2.2.2.2.2.2.2.2.2.2.2.2.2.2.2.2.1 d.2.2.2.2.2.2.2.2.2.2.2.2.2.2.2.2.2.1 d.2.2.2.2.2.2.2.2.2.2.2.2.2.2.2.2.2.2.1 d.2.2.2.2.2.2.2.2.2.2.2.2.2.2.2.2.2.2.2.1 d.2.2.2.2.2.2.2.2.2.2.2.2.2.2.2.2.2.2.2.2.1 d.2.2.2.2.2.2.2.2.2.2.2.2.2.2.2.2.2.2.2.2.2.1 d.2.2.2.2.2.2.2.2.2.2.2.2.2.2.2.2.2.2.2.2.2.2.1 d.2.2.2.2.2.2.2.2.2.2.2.2.2.2.2.2.2.2.2.2.2.2.2.1 d.2.2.2.2.2.2.2.2.2.2.2.2.2.2.2.2.2.2.2.2.2.2.2.2.1 d.2.2.2.2.2.2.2.2.2.2.2.2.2.2.2.2.2.2.2.2.2.2.2.2.2.1) (fun d=>some (.inl (d))) (fun d=>some (.inr (d))) v1 v5 v6 v50 v51 v52 b0_0 b0_1 b0_2 b0_3 b0_4 b0_5 b0_6 b0_7 b0_8 b0_9 b1_0 b1_1 b1_2 b1_3 b2_0 b2_1 b2_2 r4 r5 r6
def Az1 (d:(Int)×(Int)×(Int)×(List Aa)×(Int)×(Int)×(Int)×(Int)×(Int)×(Int)×(Int)×(Int)×(Int)×(Int)×(Int)×(Int)×(Int)×(Int)×(Int)×(Int)×(List Aa)×(Int)×(Int)×(List A2)×(List Dc)×(List A2)×Unit):Option (((Int)×(Int)×(Int)×(Int)×(Int)×(Int)×(Int)×(Int)×(Int)×(Int)×(Int)×(Int)×(Int)×(Int)×(Int)×(Int)×(Int)×(List Aa)×(Int)×(Int)×(List A2)×(List Dc)×(List A2)×Unit) ⊕ ((Int)×(Int)×(Int)×(Int)×(Int)×(Int)×(Int)×(Int)×(Int)×(Int)×(List A2)×(List Dc)×Unit)):=(u4 (u4 (u4 (u4 (u4 (u4 (Ac (Ac Ah)))))))) (Fl ((u4 (u4 (u4 (u4 (u4 (u4 (Ac (Ac Ah)))))))) Mk d)) d
def Ag1 (a0:Dk) (a1:Int):Option ((((Int)×(Int)×(Int)×(Int)×(Int)×(Int)×(Int)×(Int)×(Int)×(Int)×(List A2)×(List Dc)×Unit)×(Unit))):=
 bif !Fv a0 then some ((1,0,0,0,0,0,0,0,0,0,[],[],()),()) else bif !A9 a1 1 8 then some ((1,0,0,0,0,0,0,0,0,0,[],[],()),()) else ((fun d=>Fl (Mk d.1 d.2.1 d.2.2.1 d.2.2.2.1 d.2.2.2.2.1 d.2.2.2.2.2.1 d.2.2.2.2.2.2.1 d.2.2.2.2.2.2.2.1 d.2.2.2.2.2.2.2.2.1 d.2.2.2.2.2.2.2.2.2.1 d.2.2.2.2.2.2.2.2.2.2.1 d.2.2.2.2.2.2.2.2.2.2.2.1 d.2.2.2.2.2.2.2.2.2.2.2.2.1 d.2.2.2.2.2.2.2.2.2.2.2.2.2.1 d.2.2.2.2.2.2.2.2.2.2.2.2.2.2.1 d.2.2.2.2.2.2.2.2.2.2.2.2.2.2.2.1 d.2.2.2.2.2.2.2.2.2.2.2.2.2.2.2.2.1 d.2.2.2.2.2.2.2.2.2.2.2.2.2.2.2.2.2.1 d.2.2.2.2.2.2.2.2.2.2.2.2.2.2.2.2.2.2.1 d.2.2.2.2.2.2.2.2.2.2.2.2.2.2.2.2.2.2.2.1 d.2.2.2.2.2.2.2.2.2.2.2.2.2.2.2.2.2.2.2.2.1 d.2.2.2.2.2.2.2.2.2.2.2.2.2.2.2.2.2.2.2.2.2.1 d.2.2.2.2.2.2.2.2.2.2.2.2.2.2.2.2.2.2.2.2.2.2.1 d.2.2.2.2.2.2.2.2.2.2.2.2.2.2.2.2.2.2.2.2.2.2.2.1 d.2.2.2.2.2.2.2.2.2.2.2.2.2.2.2.2.2.2.2.2.2.2.2.2.1 d.2.2.2.2.2.2.2.2.2.2.2.2.2.2.2.2.2.2.2.2.2.2.2.2.2.1) d.1 d.2.1 d.2.2.1 d.2.2.2.1 d.2.2.2.2.1 d.2.2.2.2.2.1 d.2.2.2.2.2.2.1 d.2.2.2.2.2.2.2.1 d.2.2.2.2.2.2.2.2.1 d.2.2.2.2.2.2.2.2.2.1 d.2.2.2.2.2.2.2.2.2.2.1 d.2.2.2.2.2.2.2.2.2.2.2.1 d.2.2.2.2.2.2.2.2.2.2.2.2.1 d.2.2.2.2.2.2.2.2.2.2.2.2.2.1 d.2.2.2.2.2.2.2.2.2.2.2.2.2.2.1 d.2.2.2.2.2.2.2.2.2.2.2.2.2.2.2.1 d.2.2.2.2.2.2.2.2.2.2.2.2.2.2.2.2.1 d.2.2.2.2.2.2.2.2.2.2.2.2.2.2.2.2.2.1 d.2.2.2.2.2.2.2.2.2.2.2.2.2.2.2.2.2.2.1 d.2.2.2.2.2.2.2.2.2.2.2.2.2.2.2.2.2.2.2.1 d.2.2.2.2.2.2.2.2.2.2.2.2.2.2.2.2.2.2.2.2.1 d.2.2.2.2.2.2.2.2.2.2.2.2.2.2.2.2.2.2.2.2.2.1 d.2.2.2.2.2.2.2.2.2.2.2.2.2.2.2.2.2.2.2.2.2.2.1 d.2.2.2.2.2.2.2.2.2.2.2.2.2.2.2.2.2.2.2.2.2.2.2.1 d.2.2.2.2.2.2.2.2.2.2.2.2.2.2.2.2.2.2.2.2.2.2.2.2.1 d.2.2.2.2.2.2.2.2.2.2.2.2.2.2.2.2.2.2.2.2.2.2.2.2.2.1) (a1,nI (List.length a0.1),Bu (nI (List.length a0.1)),(Hc a0 (Df (A4 a0 a1).2.1 (nI (List.length a0.1))) (Bu (nI (List.length a0.1))) (A4 a0 a1).2.2.1 (A4 a0 a1).2.2.2.1 a1).1,nI (Hc a0 (Df (A4 a0 a1).2.1 (nI (List.length a0.1))) (Bu (nI (List.length a0.1))) (A4 a0 a1).2.2.1 (A4 a0 a1).2.2.2.1 a1).1.length,0,0,0,0,0,0,0,0,0,0,0,(A4 a0 a1).1,(A4 a0 a1).2.1,(A4 a0 a1).2.2.1,(A4 a0 a1).2.2.2.1,(Hc a0 (Df (A4 a0 a1).2.1 (nI (List.length a0.1))) (Bu (nI (List.length a0.1))) (A4 a0 a1).2.2.1 (A4 a0 a1).2.2.2.1 a1).1,(Hc a0 (Df (A4 a0 a1).2.1 (nI (List.length a0.1))) (Bu (nI (List.length a0.1))) (A4 a0 a1).2.2.1 (A4 a0 a1).2.2.2.1 a1).2.1,(Hc a0 (Df (A4 a0 a1).2.1 (nI (List.length a0.1))) (Bu (nI (List.length a0.1))) (A4 a0 a1).2.2.1 (A4 a0 a1).2.2.2.1 a1).2.2.1,[],[],[],())).bind fun val=>Cy (fun d=>bif decide (IntKind.i64.wrap (d.2.2.2.2.2.2.2.2.2.2.2.2.2.2.2.2.2.2.2.1 + 1) > 60000) then some ((3,0,0,0,0,0,0,0,0,0,[],[],()),()) else bif decide (Oo d.2.2.2.2.2.2.2.2.2.2.2.2.2.2.2.2.2.2.2.2.2.2 d.1 > IntKind.i64.wrap (d.2.2.1 - 1)) then some ((4,0,0,0,0,0,0,0,0,0,[],[],()),()) else bif decide (d.2.2.2.2.2.2.2.2.2.2.2.2.2.2.2.2.2.2.1 < d.2.2.1) then some ((0,d.1,d.2.1,IntKind.i64.wrap (d.2.2.2.2.2.2.2.2.2.2.2.2.2.2.2.2.2.2.2.1 + 1),d.2.2.2.2.2.2.2.2.2.2.2.2.2.1,d.2.2.2.2.2.2.2.2.2.2.2.2.2.2.1,d.2.2.2.2.2.2.2.2.2.2.2.2.2.2.2.1,d.2.2.2.2.2.2.2.2.2.2.2.2.2.2.2.2.1,IntKind.i64.wrap (d.2.2.2.2.2.2.2.2.2.2.2.2.2.2.2.2.2.2.1 + 1),0,d.2.2.2.2.2.2.2.2.2.2.2.2.2.2.2.2.2.2.2.2.2.2.1,[(false,IntKind.i64.wrap (Df d.2.2.2.2.2.2.2.2.2.2.2.2.2.2.1 d.2.1 + d.2.2.2.2.2.2.2.2.2.2.2.2.2.2.2.2.2.2.1),Dw (3,IntKind.i64.wrap (d.2.2.2.2.2.2.2.2.2.2.2.2.2.2.2.2.2.2.2.1 + 1),IntKind.i64.wrap (d.2.2.2.2.2.2.2.2.2.2.2.2.2.2.2.1 + d.2.2.2.2.2.2.2.2.2.2.2.2.2.2.2.2.2.2.1),Ad,()) d.1,()),(true,0,Ad,())],()),()) else ((Qr (d.1,d.2.1,IntKind.i64.wrap (d.2.2.2.2.2.2.2.2.2.2.2.2.2.2.2.2.2.2.2.1 + 1),(d.2.2.2.2.2.2.2.2.2.2.2.2.2.1,d.2.2.2.2.2.2.2.2.2.2.2.2.2.2.1,d.2.2.2.2.2.2.2.2.2.2.2.2.2.2.2.1,d.2.2.2.2.2.2.2.2.2.2.2.2.2.2.2.2.1,()),d.2.2.2.2.2.2.2.2.2.2.2.2.2.2.2.2.2.2.1,0,d.2.2.2.2.2.2.2.2.2.2.2.2.2.2.2.2.2.2.2.2.2.2,()) (IntKind.i64.wrap (d.2.2.2.2.2.2.2.2.2.2.2.2.2.2.2.2.2.2.2.1 + 1))).bind fun val=>some ((val.1.1,val.1.2.1,val.1.2.2.1,val.1.2.2.2.1.1,val.1.2.2.2.1.2.1,val.1.2.2.2.1.2.2.1,val.1.2.2.2.1.2.2.2.1,val.1.2.2.2.2.1,val.1.2.2.2.2.2.1,val.1.2.2.2.2.2.2.1.1,val.2.1,val.2.2,()),())).bind fun val=>bif !val.1.2.2.2.2.2.2.2.2.2.2.2.1 then some ((4,0,0,0,0,0,0,0,0,0,[],[],()),()) else some ((0,val.1.1,val.1.2.1,val.1.2.2.1,val.1.2.2.2.1,val.1.2.2.2.2.1,val.1.2.2.2.2.2.1,val.1.2.2.2.2.2.2.1,val.1.2.2.2.2.2.2.2.1,val.1.2.2.2.2.2.2.2.2.1,val.1.2.2.2.2.2.2.2.2.2.1,val.1.2.2.2.2.2.2.2.2.2.2.1,()),())) (fun d=>some (d,())) val
theorem Bff (w n h:Int) (r:Rt) (x:Scd) (hx:x.1.length≤1073741824):
  Fl (Mk w n h x.1 (nI x.1.length) 0 0 0 0 0 0 0 0 0 0 0 r.1 r.2.1 r.2.2.1 r.2.2.2.1 x.1 x.2.1 x.2.2.1 [] [] []) w n h x.1 (nI x.1.length) 0 0 0 0 0 0 0 0 0 0 0 r.1 r.2.1 r.2.2.1 r.2.2.2.1 x.1 x.2.1 x.2.2.1 [] [] []=some (match E1 x.1 Ye with
   | some st=>.inl (w,n,h,0,0,0,0,0,0,0,0,0,0,r.1,r.2.1,r.2.2.1,r.2.2.2.1,x.1,x.2.1,x.2.2.1,[],[],st.1,())
   | none=>.inr (2,0,0,0,0,0,0,0,0,0,[],[],())):=by
 have hL:=Av9 (xs:=x.1) (g:=fun m i q=>Fl m w n h x.1 (nI x.1.length) i 0 0 0 0 0 0 0 0 0 0 r.1 r.2.1 r.2.2.1 r.2.2.2.1 x.1 x.2.1 x.2.2.1 [] [] q) (ok:=fun q=>.inl (w,n,h,0,0,0,0,0,0,0,0,0,0,r.1,r.2.1,r.2.2.1,r.2.2.2.1,x.1,x.2.1,x.2.2.1,[],[],q,())) (bad:=.inr (2,0,0,0,0,0,0,0,0,0,[],[],())) (fun m i q hi=>by
   show Fl (m + 1) w n h x.1 (nI x.1.length) i 0 0 0 0 0 0 0 0 0 0 r.1 r.2.1 r.2.2.1 r.2.2.2.1 x.1 x.2.1 x.2.2.1 [] [] q=_
   simp only [Fl,Pi]
   rw [cLt hi,J1,wI (show i < 4611686018427387904 by omega),Fz]
   rfl) (fun m q=>by
   show Fl (m + 1) w n h x.1 (nI x.1.length) (x.1.length:Int) 0 0 0 0 0 0 0 0 0 0 r.1 r.2.1 r.2.2.1 r.2.2.2.1 x.1 x.2.1 x.2.2.1 [] [] q=_
   simp only [Fl,Pi]
   rw [Qd]
   rfl) (Mk w n h x.1 (nI x.1.length) 0 0 0 0 0 0 0 0 0 0 0 r.1 r.2.1 r.2.2.1 r.2.2.2.1 x.1 x.2.1 x.2.2.1 [] [] []) 0 [] (by omega) (by simp [Mk,nI])
 rw [List.drop_zero] at hL
 exact hL
theorem Bb1 (a0:Dk) (a1:Int):Ag1 a0 a1=some (((B0 a0 a1).1,(B0 a0 a1).2.1.1,(B0 a0 a1).2.1.2.1,(B0 a0 a1).2.1.2.2.1,(B0 a0 a1).2.1.2.2.2.1.1,(B0 a0 a1).2.1.2.2.2.1.2.1,(B0 a0 a1).2.1.2.2.2.1.2.2.1,(B0 a0 a1).2.1.2.2.2.1.2.2.2.1,(B0 a0 a1).2.1.2.2.2.2.1,(B0 a0 a1).2.1.2.2.2.2.2.1,(B0 a0 a1).2.1.2.2.2.2.2.2.1.1,(B0 a0 a1).2.2.1,()),(())):=by
 unfold Ag1 B0 L8
 show (bif !Ap a0 then _ else bif !Bq a1 1 8 then _ else _)=_
 cases hv:Ap a0 with
 | false=>rfl
 | true=>
  cases hw:Bq a1 1 8 with
  | false=>rfl
  | true=>
   simp only [Bool.not_true,cond_false]
   have hr:=To hv hw
   have hm:=Am9 (n:=nI a0.1.length) hr.2.1
   have hh:=Pm (nI a0.1.length)
   have eb:Df (At a0 a1).2.1 (nI a0.1.length)=Bk (At a0 a1).2.1 (nI a0.1.length):=by
    show IntKind.i64.wrap (2 + IntKind.i64.wrap ((At a0 a1).2.1 * Al (nI a0.1.length)))=2 + (At a0 a1).2.1 * Al (nI a0.1.length)
    rw [Aj (n:=(At a0 a1).2.1 * Al (nI a0.1.length)) (by omega) (by omega),Aj (by omega) (by omega)]
   have ex:Hc a0 (Df (A4 a0 a1).2.1 (nI a0.1.length)) (Bu (nI a0.1.length)) (A4 a0 a1).2.2.1 (A4 a0 a1).2.2.2.1 a1=Fs a0 a1:=by
    show Ua a0 (Df (At a0 a1).2.1 (nI a0.1.length)) (Al (nI a0.1.length)) (At a0 a1).2.2.1 (At a0 a1).2.2.2.1 a1=_
    rw [eb]
    rfl
   simp only [ex]
   have hx:(Fs a0 a1).1.length≤1073741824:=G8 (B2 (B2 (A3n a0 (Bk (At a0 a1).2.1 (nI a0.1.length)) (Al (nI a0.1.length)) (At a0 a1).2.2.1 (At a0 a1).2.2.2.1 a1)).1).1
   have hs:=Bea a0 (Bk (At a0 a1).2.1 (nI a0.1.length)) (Al (nI a0.1.length)) (At a0 a1).2.2.1 (At a0 a1).2.2.2.1 a1 hh.1 hr.2.2.2
   refine Yi (Bff a1 (nI a0.1.length) (Al (nI a0.1.length)) (At a0 a1) (Fs a0 a1) hx) ?_
   cases ho:E1 (Fs a0 a1).1 Ye with
   | none=>rfl
   | some st=>
    have hst:=Q8 rfl ho
    replace hs:(0≤(Fs a0 a1).2.1∧(Fs a0 a1).2.1≤Al (nI a0.1.length))∧(0≤(Fs a0 a1).2.2.1∧(Fs a0 a1).2.2.1≤60000):=hs
    clear ho hx ex
    generalize Fs a0 a1=x at *
    generalize At a0 a1=r at *
    show (bif decide (IntKind.i64.wrap (x.2.2.1 + 1) > 60000) then _ else bif decide (C5 st a1 > IntKind.i64.wrap (Al (nI a0.1.length) - 1)) then _ else bif decide (x.2.1 < Al (nI a0.1.length)) then _ else _)=_
    dsimp only
    rw [Aj (n:=x.2.2.1 + 1) (by omega) (by omega),Tm]
    by_cases h1:x.2.2.1 + 1 > 60000
    ·rw [Af h1,Ba5 h1]; rfl
    by_cases h2:C5 st a1 > Al (nI a0.1.length) - 1
    ·rw [Bd h1,Af h2,Ba6 h1 h2]; rfl
    by_cases h3:x.2.1 < Al (nI a0.1.length)
    ·rw [Bd h1,Bd h2,Af h3,A1r h1 h2 h3]
     simp only [cond_true,cond_false]
     obtain ⟨_,hr1,hr2,hr3⟩:=hr
     have hB:0≤Bk r.2.1 (nI a0.1.length)∧Bk r.2.1 (nI a0.1.length)≤101:=by unfold Bk; omega
     rw [eb,Aj (n:=x.2.1 + 1) (by omega) (by omega),Aj (n:=Bk r.2.1 (nI a0.1.length) + x.2.1) (by omega) (by omega),Aj (n:=r.2.2.1 + x.2.1) (by omega) (by omega)]
     rfl
    ·rw [Bd h1,Bd h2,Bd h3,A1s h1 h2 h3]
     simp only [cond_true,cond_false]
     have e1:Qr (a1,nI a0.1.length,x.2.2.1 + 1,r,x.2.1,0,st,()) (x.2.2.1 + 1)=some (j5 (a1,nI a0.1.length,x.2.2.1 + 1,r,x.2.1,0,st,()) (x.2.2.1 + 1)):=if_pos ⟨hr.1,hr.2.1,⟨Int.le_trans (by decide) hr.2.2.1.1,Int.le_trans hr.2.2.1.2 (by decide)⟩,Nat.le_trans (Cb hst) (by decide)⟩
     refine (congrArg (fun q=>Option.bind (Option.bind q _) _) e1).trans ?_
     unfold Ub
     generalize j5 (a1,nI a0.1.length,x.2.2.1 + 1,r,x.2.1,0,st,()) (x.2.2.1 + 1)=q
     obtain ⟨s,ops,b⟩:=q
     cases b<;>rfl
def Ahw {R:Type} (k:Kt R):=(Cy (L7 (O5 10) (.exit 0) 2 k) (L7 (O5 10) .ret 1 k))
def Azb {R:Type}:Lt R O5:=(Fp (pat:=O5) 10 (fun d k=>(Az1 d).bind (Ahw k)) Ik)
theorem Aug:A5 Tryz.prog Auf:=Bb ⟨Jv,D4,Qk,Aw6,Bbx,Ac3,Aua,Aou,Agu,N0,Aud,trivial⟩
theorem Az2 {R:Type}:Ba Tryz.prog R 137 0 O5 Azb Ahv:=
 Cn (cfg:=⟨Auf,0,137,O5⟩) 10 [] (fun NX X d=>(u4 (u4 (u4 (u4 (u4 (u4 (Ac (Ac Ah)))))))) (Pi  NX (fun e=>X (.inl (e))) (fun e=>X (.inr (e)))) d) (fun m d=>(u4 (u4 (u4 (u4 (u4 (u4 (Ac (Ac Ah)))))))) (Fl m) d) (fun d=>(u4 (u4 (u4 (u4 (u4 (u4 (Ac (Ac Ah)))))))) Mk d) Ahw Aug trivial (fun f NX d=>by simp only [u4,Ac,Ah]; unfold Pi; simp only [nb])
theorem Auh:B8 Tryz.prog 27 Bb0:=
 A7 (pat:=O5) [Ahv] Azb Aug ⟨Az2,trivial⟩ Tryz.func27 (de:=fun x=>Ag1 x.1 x.2.1) (fun x r h=>(Bb1 x.1 x.2.1).trans h) fun _=>by kernel_rfl
def Bn (s:Ez):Pl:=Kk s
def Apf:Hh:=⟨[.rd Yg],[some 10],[.rd tI,.rd tI,.rd tI,.rd tI,.rd tI,.rd tI,.rd tI,.rd tI,.rd tI,.rd tI,.own 157 A1,.own 142 E4],[some 12]⟩
def A7q:SD:=⟨Apf,fun x=>some (((Bn x.1).1,(Bn x.1).2.1.1,(Bn x.1).2.1.2.1,(Bn x.1).2.1.2.2.1,(Bn x.1).2.1.2.2.2.1.1,(Bn x.1).2.1.2.2.2.1.2.1,(Bn x.1).2.1.2.2.2.1.2.2.1,(Bn x.1).2.1.2.2.2.1.2.2.2.1,(Bn x.1).2.1.2.2.2.2.1,(Bn x.1).2.1.2.2.2.2.2.1,(Bn x.1).2.1.2.2.2.2.2.2.1.1,(Bn x.1).2.2.1,()),(()))⟩
def Adb (a0:Ez):Option ((((Int)×(Int)×(Int)×(Int)×(Int)×(Int)×(Int)×(Int)×(Int)×(Int)×(List A2)×(List Dc)×Unit)×(Unit))):=
 bif !Hq a0 then some ((1,0,0,0,0,0,0,0,0,0,[],[],()),()) else ((Br a0.2.2.2.2.2.2.1).bind fun val=>some (val,())).bind fun val=>some ((0,a0.1,a0.2.1,a0.2.2.1,a0.2.2.2.1.1,a0.2.2.2.1.2.1,a0.2.2.2.1.2.2.1,a0.2.2.2.1.2.2.2.1,a0.2.2.2.2.1,0,val.1.1,[(true,0,Ad,())],()),())
theorem A7r (a0:Ez):Adb a0=some (((Bn a0).1,(Bn a0).2.1.1,(Bn a0).2.1.2.1,(Bn a0).2.1.2.2.1,(Bn a0).2.1.2.2.2.1.1,(Bn a0).2.1.2.2.2.1.2.1,(Bn a0).2.1.2.2.2.1.2.2.1,(Bn a0).2.1.2.2.2.1.2.2.2.1,(Bn a0).2.1.2.2.2.2.1,(Bn a0).2.1.2.2.2.2.2.1,(Bn a0).2.1.2.2.2.2.2.2.1.1,(Bn a0).2.2.1,()),(())):=by
 unfold Adb Bn Kk
 show (bif !As a0 then _ else _)=_
 cases hv:As a0 with
 | false=>rfl
 | true=>
  have e1:Br (a0.2.2.2.2.2.2.1.1,())=some (a0.2.2.2.2.2.2.1.1,()):=if_pos (Nat.le_trans (Cb (Xf hv).2.2.1) (by decide))
  simp only [Bool.not_true,cond_false]
  rw [e1]
  rfl
theorem Apg:B8 Tryz.prog 34 A7q:=
 A7 (pat:=Ei) [] Ik (Bb (l:=[(117,Lk),(121,Mz)]) ⟨O2,P4,trivial⟩) trivial Tryz.func34 (de:=fun x=>Adb x.1) (fun x r h=>(A7r x.1).trans h) fun _=>by kernel_rfl
def A6 (s:Ez):Pl:=F1 s
def Ahx:Hh:=⟨[.rd Yg],[some 10],[.rd tI,.rd tI,.rd tI,.rd tI,.rd tI,.rd tI,.rd tI,.rd tI,.rd tI,.rd tI,.own 157 A1,.own 142 E4],[some 12]⟩
def Az3:SD:=⟨Ahx,fun x=>some (((A6 x.1).1,(A6 x.1).2.1.1,(A6 x.1).2.1.2.1,(A6 x.1).2.1.2.2.1,(A6 x.1).2.1.2.2.2.1.1,(A6 x.1).2.1.2.2.2.1.2.1,(A6 x.1).2.1.2.2.2.1.2.2.1,(A6 x.1).2.1.2.2.2.1.2.2.2.1,(A6 x.1).2.1.2.2.2.2.1,(A6 x.1).2.1.2.2.2.2.2.1,(A6 x.1).2.1.2.2.2.2.2.2.1.1,(A6 x.1).2.2.1,()),(()))⟩
def Yp (a0:Ez):Option ((((Int)×(Int)×(Int)×(Int)×(Int)×(Int)×(Int)×(Int)×(Int)×(Int)×(List A2)×(List Dc)×Unit)×(Unit))):=
 bif !Hq a0 then some ((1,0,0,0,0,0,0,0,0,0,[],[],()),()) else ((Qr a0 a0.2.2.1).bind fun val=>some ((val.1.1,val.1.2.1,val.1.2.2.1,val.1.2.2.2.1.1,val.1.2.2.2.1.2.1,val.1.2.2.2.1.2.2.1,val.1.2.2.2.1.2.2.2.1,val.1.2.2.2.2.1,val.1.2.2.2.2.2.1,val.1.2.2.2.2.2.2.1.1,val.2.1,val.2.2,()),())).bind fun val=>bif !val.1.2.2.2.2.2.2.2.2.2.2.2.1 then some ((4,0,0,0,0,0,0,0,0,0,[],[],()),()) else some ((0,val.1.1,val.1.2.1,val.1.2.2.1,val.1.2.2.2.1,val.1.2.2.2.2.1,val.1.2.2.2.2.2.1,val.1.2.2.2.2.2.2.1,val.1.2.2.2.2.2.2.2.1,val.1.2.2.2.2.2.2.2.2.1,val.1.2.2.2.2.2.2.2.2.2.1,val.1.2.2.2.2.2.2.2.2.2.2.1,()),())
theorem Az4 (a0:Ez):Yp a0=some (((A6 a0).1,(A6 a0).2.1.1,(A6 a0).2.1.2.1,(A6 a0).2.1.2.2.1,(A6 a0).2.1.2.2.2.1.1,(A6 a0).2.1.2.2.2.1.2.1,(A6 a0).2.1.2.2.2.1.2.2.1,(A6 a0).2.1.2.2.2.1.2.2.2.1,(A6 a0).2.1.2.2.2.2.1,(A6 a0).2.1.2.2.2.2.2.1,(A6 a0).2.1.2.2.2.2.2.2.1.1,(A6 a0).2.2.1,()),(())):=by
 unfold Yp A6 F1
 show (bif !As a0 then _ else _)=_
 cases hv:As a0 with
 | false=>rfl
 | true=>
  have e1:Qr (a0.1,a0.2.1,a0.2.2.1,(a0.2.2.2.1.1,a0.2.2.2.1.2.1,a0.2.2.2.1.2.2.1,a0.2.2.2.1.2.2.2.1,()),a0.2.2.2.2.1,a0.2.2.2.2.2.1,(a0.2.2.2.2.2.2.1.1,()),()) a0.2.2.1=some (j5 a0 a0.2.2.1):=if_pos (A9b hv)
  simp only [Bool.not_true,cond_false,cond_true]
  rw [e1]
  unfold Ub
  generalize j5 a0 a0.2.2.1=r
  obtain ⟨st,ops,b⟩:=r
  cases b<;>rfl
theorem Ahy:B8 Tryz.prog 35 Az3:=
 A7 (pat:=Ei) [] Ik (Bb (l:=[(104,Agx),(117,Lk)]) ⟨Aud,O2,trivial⟩) trivial Tryz.func35 (de:=fun x=>Yp x.1) (fun x r h=>(Az4 x.1).trans h) fun _=>by kernel_rfl
def Is (d:Dk) (f:List Int):Dk:=Eo d f
def Abv:Hh:=⟨[.rd yDk,.rd (.sl tI)],[some 2,none],[.own 9 .str,.own 174 Ew],[some 2]⟩
def Aui:SD:=⟨Abv,fun x=>some (((Is x.1 x.2.1).1,(Is x.1 x.2.1).2.1,()),(()))⟩
def Abw:Tb:=tb [(94,Hr)]
def Jw:Nat→Dq×(Nat→Dq):=Hk [(6,⟨[.sl 1 0 tI,.sl 18 0 Ew,.boxRow 4 0 9 .str,.boxRow 4 1 174 Ew,.boxRow 5 0 9 .str,.boxRow 5 1 174 Ew],[(1,.lf (.d (.sl tI))),(4,.lf (.ptr 0 0)),(5,.lf (.ptr 1 0)),(18,.lf (.d (.sl Ew))),(19,.lf (.d tI)),(20,.lf (.d tI))],[.box 26 [.row 2,.row 3],.box 26 [.row 4,.row 5],.row 9 .str,.row 174 Ew,.row 9 .str,.row 174 Ew]⟩,[(2,⟨[.boxRow 4 0 9 .str,.boxRow 4 1 174 Ew,.boxRow 5 0 9 .str,.boxRow 5 1 174 Ew],[(4,.lf (.ptr 0 0)),(5,.lf (.ptr 1 0))],[.box 26 [.row 2,.row 3],.box 26 [.row 4,.row 5],.row 9 .str,.row 174 Ew,.row 9 .str,.row 174 Ew]⟩)])]
def Zd:Code:=(Ax (Bm Tryz.f60)).getD 0 .skip
def F5 (v1:List Int) (v18:List Wr) (v19 v20:Int) (r2:List Aa) (r3:List Wr) (r4:List Aa) (r5:List Wr):Nat:=(v19 - v20).toNat + 1
def Kc {R:Type}  (NX:((List Int)×(List Wr)×(Int)×(Int)×(List Aa)×(List Wr)×(List Aa)×(List Wr)×Unit)→Option R) (X2:((List Aa)×(List Wr)×(List Aa)×(List Wr)×Unit)→Option R) (v1:List Int) (v18:List Wr) (v19:Int) (v20:Int) (r2:List Aa) (r3:List Wr) (r4:List Aa) (r5:List Wr):Option R:=
 bif decide (v20 < v19) then bif decide (0≤v20) then bif decide (v20 < nI v18.length) then bif decide (v20 < nI v1.length) then bif decide (0≤v20) then bif decide (v20 < nI v1.length) then bif decide (0≤if (if v1.getD v20.toNat 0 < 64 then v1.getD v20.toNat 0 else 64) > 0 then if v1.getD v20.toNat 0 < 64 then v1.getD v20.toNat 0 else 64 else 0) then bif decide ((if (if v1.getD v20.toNat 0 < 64 then v1.getD v20.toNat 0 else 64) > 0 then if v1.getD v20.toNat 0 < 64 then v1.getD v20.toNat 0 else 64 else 0)≤nI (ByteArray.size (v18.getD v20.toNat (0,Ad,())).2.1)) then bif decide (0≤(v18.getD v20.toNat (0,Ad,())).1) then bif decide ((v18.getD v20.toNat (0,Ad,())).1 < nI r4.length) then bif decide (0≤if (if v1.getD v20.toNat 0 < 64 then v1.getD v20.toNat 0 else 64) > 0 then if v1.getD v20.toNat 0 < 64 then v1.getD v20.toNat 0 else 64 else 0) then bif decide ((if (if v1.getD v20.toNat 0 < 64 then v1.getD v20.toNat 0 else 64) > 0 then if v1.getD v20.toNat 0 < 64 then v1.getD v20.toNat 0 else 64 else 0)≤nI (ByteArray.size (r4.getD (Int.toNat (v18.getD v20.toNat (0,Ad,())).1) (Ad)))) then bif decide ((Ag (v18.getD v20.toNat (0,Ad,())).2.1 0 (if (if v1.getD v20.toNat 0 < 64 then v1.getD v20.toNat 0 else 64) > 0 then if v1.getD v20.toNat 0 < 64 then v1.getD v20.toNat 0 else 64 else 0)).size + (Ag (r4.getD (Int.toNat (v18.getD v20.toNat (0,Ad,())).1) (Ad)) (if (if v1.getD v20.toNat 0 < 64 then v1.getD v20.toNat 0 else 64) > 0 then if v1.getD v20.toNat 0 < 64 then v1.getD v20.toNat 0 else 64 else 0) (nI (ByteArray.size (r4.getD (Int.toNat (v18.getD v20.toNat (0,Ad,())).1) (Ad))))).size≤9223372036854775807) then bif decide (0≤(v18.getD v20.toNat (0,Ad,())).1) then bif decide ((v18.getD v20.toNat (0,Ad,())).1 < nI r4.length) then bif decide (Int.toNat (v18.getD v20.toNat (0,Ad,())).1 < r4.length) then NX (v1,v18,v19,IntKind.i64.wrap (v20 + 1),r2,r3,r4.set (Int.toNat (v18.getD v20.toNat (0,Ad,())).1) (Ag (v18.getD v20.toNat (0,Ad,())).2.1 0 (if (if v1.getD v20.toNat 0 < 64 then v1.getD v20.toNat 0 else 64) > 0 then if v1.getD v20.toNat 0 < 64 then v1.getD v20.toNat 0 else 64 else 0)++Ag (r4.getD (Int.toNat (v18.getD v20.toNat (0,Ad,())).1) (Ad)) (if (if v1.getD v20.toNat 0 < 64 then v1.getD v20.toNat 0 else 64) > 0 then if v1.getD v20.toNat 0 < 64 then v1.getD v20.toNat 0 else 64 else 0) (nI (ByteArray.size (r4.getD (Int.toNat (v18.getD v20.toNat (0,Ad,())).1) (Ad))))),r5,()) else none else none else none else none else none else none else none else none else none else none else none else none else bif decide (0≤(v18.getD v20.toNat (0,Ad,())).1) then bif decide ((v18.getD v20.toNat (0,Ad,())).1 < nI r4.length) then bif decide ((Ag (v18.getD v20.toNat (0,Ad,())).2.1 0 0).size + (Ag (r4.getD (Int.toNat (v18.getD v20.toNat (0,Ad,())).1) (Ad)) 0 (nI (ByteArray.size (r4.getD (Int.toNat (v18.getD v20.toNat (0,Ad,())).1) (Ad))))).size≤9223372036854775807) then bif decide (0≤(v18.getD v20.toNat (0,Ad,())).1) then bif decide ((v18.getD v20.toNat (0,Ad,())).1 < nI r4.length) then bif decide (Int.toNat (v18.getD v20.toNat (0,Ad,())).1 < r4.length) then NX (v1,v18,v19,IntKind.i64.wrap (v20 + 1),r2,r3,r4.set (Int.toNat (v18.getD v20.toNat (0,Ad,())).1) (Ag (v18.getD v20.toNat (0,Ad,())).2.1 0 0++Ag (r4.getD (Int.toNat (v18.getD v20.toNat (0,Ad,())).1) (Ad)) 0 (nI (ByteArray.size (r4.getD (Int.toNat (v18.getD v20.toNat (0,Ad,())).1) (Ad))))),r5,()) else none else none else none else none else none else none else none else none else X2 (r2,r3,r4,r5,())
def Ct:Nat→(List Int)→(List Wr)→(Int)→(Int)→(List Aa)→(List Wr)→(List Aa)→(List Wr) →  Option ((List Aa)×(List Wr)×(List Aa)×(List Wr)×Unit)
 | 0,_,_,_,_,_,_,_,_=>none
 | m + 1,v1,v18,v19,v20,r2,r3,r4,r5=>Kc  (fun d=>Ct m d.1 d.2.1 d.2.2.1 d.2.2.2.1 d.2.2.2.2.1 d.2.2.2.2.2.1 d.2.2.2.2.2.2.1 d.2.2.2.2.2.2.2.1) (fun d=>some (d)) v1 v18 v19 v20 r2 r3 r4 r5
def An3 (d:(List Int)×(List Wr)×(Int)×(Int)×(List Aa)×(List Wr)×(List Aa)×(List Wr)×Unit):Option ((List Aa)×(List Wr)×(List Aa)×(List Wr)×Unit):=(u4 (u4 Ah)) (Ct ((u4 (u4 Ah)) F5 d)) d
def U8 (a0:Dk) (a1:List Int):Option ((Dk×(Unit))):=
 bif !Fv a0 then some (([],[],()),()) else bif decide ((0 + List.length a0.1) * 16≤140737488355328) then ((fun d=>Ct (F5 d.1 d.2.1 d.2.2.1 d.2.2.2.1 d.2.2.2.2.1 d.2.2.2.2.2.1 d.2.2.2.2.2.2.1 d.2.2.2.2.2.2.2.1) d.1 d.2.1 d.2.2.1 d.2.2.2.1 d.2.2.2.2.1 d.2.2.2.2.2.1 d.2.2.2.2.2.2.1 d.2.2.2.2.2.2.2.1) (a1,a0.2.1,nI (List.length a0.2.1),0,[],[],[]++a0.1,[],())).bind fun val=>some (val.2.2,()) else none
theorem Auj (a0:Dk) (a1:List Int):U8 a0 a1=some (((Is a0 a1).1,(Is a0 a1).2.1,()),(())):=by
 unfold U8 Is Eo
 show (bif !Ap a0 then _ else _)=_
 cases hv:Ap a0 with
 | false=>rfl
 | true=>
  obtain ⟨k1,k2,k3,k4,k5⟩:=Ki hv
  have c0:(0 + List.length a0.1) * 16≤140737488355328:=by omega
  rw [Af c0]
  have hL:=Adv (xs:=a0.2.1) zW (Asx a0.1.length) (fun i w s=>s.set w.1.toNat (Bmv w.2.1 (s.getD w.1.toNat z0) (V9 a1 i))) (g:=fun m i s=>Ct m a1 a0.2.1 (nI a0.2.1.length) i [] [] s []) (ok:=fun s=>([],[],s,[],())) (fun m i s hi hI=>by
   show Ct (m + 1) a1 a0.2.1 (nI a0.2.1.length) i [] [] s []=_
   simp only [Ct,Kc]
   obtain ⟨w0,w1,w2⟩:=k5 i hi
   have h0:0≤(List.getD a0.2.1 i (0,Ad,())).1:=w0
   have h1:(List.getD a0.2.1 i (0,Ad,())).1 < nI s.length:=by rw [hI.1]; exact w1
   have hsz:ByteArray.size (List.getD a0.2.1 i (0,Ad,())).2.1=64:=w2
   have hj:Int.toNat (List.getD a0.2.1 i (0,Ad,())).1 < s.length:=by
    have h1:(List.getD a0.2.1 i (0,Ad,())).1 < (s.length:Int):=h1
    omega
   have hs2:ByteArray.size (List.getD s (Int.toNat (List.getD a0.2.1 i (0,Ad,())).1) (Ad))=64:=hI.2 _ (by rw [← hI.1]; exact hj)
   have hsum:∀ k:Int,0≤k→k≤64→ByteArray.size (Ag (List.getD a0.2.1 i (0,Ad,())).2.1 0 k) + ByteArray.size (Ag (List.getD s (Int.toNat (List.getD a0.2.1 i (0,Ad,())).1) (Ad)) k (nI (ByteArray.size (List.getD s (Int.toNat (List.getD a0.2.1 i (0,Ad,())).1) (Ad)))))≤9223372036854775807:=by
    intro k q0 q1
    rw [Da (by omega) q0 (by rw [hsz]; omega),Da q0 (by rw [hs2]; simp only [nI]; omega) (by rw [hs2]; simp [nI])]
    rw [hs2]
    simp only [nI]
    omega
   rw [cLt hi,J1,wI (show i < 4611686018427387904 by omega),Fz]
   by_cases hf:i < a1.length
   ·have hfa:V9 a1 i=Rp (List.getD a1 i 0):=if_pos hf
    obtain ⟨q0,q1⟩:=Asw (List.getD a1 i 0)
    have c2:Rp (List.getD a1 i 0)≤nI (ByteArray.size (List.getD a0.2.1 i (0,Ad,())).2.1):=by rw [hsz]; exact q1
    have c5:Rp (List.getD a1 i 0)≤nI (ByteArray.size (List.getD s (Int.toNat (List.getD a0.2.1 i (0,Ad,())).1) (Ad))):=by rw [hs2]; exact q1
    rw [cLt hf,Brk,Af q0,Af c2,Af h0,Af h1,Af c5,Af (hsum _ q0 q1),Af hj,hfa]
    rfl
   ·have hfa:V9 a1 i=0:=if_neg hf
    have nf:¬ (i:Int) < nI a1.length:=by simp only [nI]; omega
    rw [Bd nf,Af h0,Af h1,Af (hsum 0 (by omega) (by omega)),Af hj,hfa]
    rfl) (fun i s hi hI=>hI.set (Av5 (k5 i hi).2.2 (hI.2 _ (by
   have q:=k5 i hi
   omega)) (Z5 a1 i).1 (Z5 a1 i).2)) (fun m s hI=>by
   show Ct (m + 1) a1 a0.2.1 (nI a0.2.1.length) (a0.2.1.length:Int) [] [] s []=_
   simp only [Ct,Kc]
   rw [Qd]
   rfl) (F5 a1 a0.2.1 (nI a0.2.1.length) 0 [] [] a0.1 []) 0 a0.1 (by omega) (by simp [F5,nI]) ⟨rfl,k4⟩
  have hL':Ct (F5 a1 a0.2.1 (nI a0.2.1.length) 0 [] [] a0.1 []) a1 a0.2.1 (nI a0.2.1.length) 0 [] [] a0.1 []=_:=hL
  show (Ct (F5 a1 a0.2.1 (nI a0.2.1.length) 0 [] [] a0.1 []) a1 a0.2.1 (nI a0.2.1.length) 0 [] [] a0.1 []).bind _=_
  rw [hL']
  rfl
def Ze {R:Type} (k:Kt R):=(L7 (Jw 6) (.exit 0) 2 k)
def Ae1 {R:Type}:Lt R Jw:=(Fp (pat:=Jw) 6 (fun d k=>(An3 d).bind (Ze k)) Ik)
theorem Abx:A5 Tryz.prog Abw:=Bb ⟨Jv,trivial⟩
theorem An4 {R:Type}:Ba Tryz.prog R 55 0 Jw Ae1 Zd:=
 Cn (cfg:=⟨Abw,0,55,Jw⟩) 6 [] (fun NX X d=>(u4 (u4 Ah)) (Kc  NX X) d) (fun m d=>(u4 (u4 Ah)) (Ct m) d) (fun d=>(u4 (u4 Ah)) F5 d) Ze Abx trivial (fun f NX d=>by simp only [u4,Ac,Ah]; unfold Kc; simp only [nb])
theorem Aby:B8 Tryz.prog 60 Aui:=
 A7 (pat:=Jw) [Zd] Ae1 Abx ⟨An4,trivial⟩ Tryz.func60 (de:=fun x=>U8 x.1 x.2.1) (fun x r h=>(Auj x.1 x.2.1).trans h) fun _=>by kernel_rfl
def Qt (s:Ez):Bool:=Py s
def Az5:Hh:=⟨[.rd Yg],[some 10],[.rd .bool],[none]⟩
def Ahz:SD:=⟨Az5,fun x=>some (((Qt x.1),()),(()))⟩
def Yq (a0:Ez):Option ((((Bool)×Unit)×(Unit))):=
 bif a0.1==0 then bif a0.2.1==0 then bif a0.2.2.1==0 then bif a0.2.2.2.1.1==0&&(a0.2.2.2.1.2.1==0&&(a0.2.2.2.1.2.2.1==0&&(a0.2.2.2.1.2.2.2.1==0&&true))) then bif a0.2.2.2.2.1==0 then bif a0.2.2.2.2.2.1==0 then some ((nI (List.length a0.2.2.2.2.2.2.1.1)==0,()),()) else some ((false,()),()) else some ((false,()),()) else some ((false,()),()) else some ((false,()),()) else some ((false,()),()) else some ((false,()),())
theorem Az6 (a0:Ez):Yq a0=some (((Qt a0),()),(())):=by
 unfold Yq Qt Py
 simp only [Bpb,Bool.and_true]
theorem Az7:B8 Tryz.prog 156 Ahz:=
 A7 (pat:=Ei) [] Ik (Bb (l:=[]) trivial) trivial Tryz.func156 (de:=fun x=>Yq x.1) (fun x r h=>(Az6 x.1).trans h) fun _=>by kernel_rfl
def M0 (w:Bo):Bool:=B7 w
def Arj:Hh:=⟨[.rd I5],[some 16],[.rd .bool],[none]⟩
def u7:SD:=⟨Arj,fun x=>some (((M0 x.1),()),(()))⟩
def S8:Tb:=tb [(94,Hr),(95,Do),(117,Lk),(150,Io),(156,Ahz)]
def Cq:Nat→Dq×(Nat→Dq):=Hk [(7,⟨[.sl 68 0 F0,.boxSl 1 1 .str,.boxSl 1 2 Ew,.boxSl 1 13 A1,.boxSl 1 14 F0,.boxSl 1 15 .str],[(1,.lf (.ptr 0 0)),(68,.lf (.d (.sl F0))),(69,.lf (.d tI)),(70,.lf (.d tI))],[.box 36 [.d I5]]⟩,[(2,⟨[.boxSl 1 1 .str,.boxSl 1 2 Ew,.boxSl 1 13 A1,.boxSl 1 14 F0,.boxSl 1 15 .str],[(1,.lf (.ptr 0 0))],[.box 36 [.d I5]]⟩),(1,⟨[],[(2,.lf (.d .bool))],[]⟩)]),(13,⟨[.sl 79 0 .str],[(79,.lf (.d (.sl .str))),(80,.lf (.d tI)),(81,.lf (.d tI))],[]⟩,[(4,p0),(1,⟨[],[(2,.lf (.d .bool))],[]⟩)])]
def Ya:Code:=(Ax (Bm Tryz.f64)).getD 0 .skip
def Vw:Code:=(Ax (Bm Tryz.f64)).getD 1 .skip
def Cf (v79:List Aa) (v80 v81:Int):Nat:=(v80 - v81).toNat + 1
def Ij {R:Type}  (NX:((List Aa)×(Int)×(Int)×Unit)→Option R) (X4:(Unit)→Option R) (X1:((Bool)×Unit)→Option R) (v79:List Aa) (v80:Int) (v81:Int):Option R:=
 bif decide (v81 < v80) then bif decide (0≤v81) then bif decide (v81 < nI v79.length) then bif nI (ByteArray.size (v79.getD v81.toNat (Ad))) != 64 then X1 (false,()) else NX (v79,v80,IntKind.i64.wrap (v81 + 1),()) else none else none else X4 PUnit.unit
def Bh:Nat→(List Aa)→(Int)→(Int) →  Option ((Unit) ⊕ ((Bool)×Unit))
 | 0,_,_,_=>none
 | m + 1,v79,v80,v81=>Ij  (fun d=>Bh m d.1 d.2.1 d.2.2.1) (fun d=>some (.inl (d))) (fun d=>some (.inr (d))) v79 v80 v81
def Ai1 (d:(List Aa)×(Int)×(Int)×Unit):Option ((Unit) ⊕ ((Bool)×Unit)):=(Ac (Ac (Ac Ah))) (Bh ((Ac (Ac (Ac Ah))) Cf d)) d
def Di (v68:List Cv) (v69 v70:Int) (b0:Bo):Nat:=(v69 - v70).toNat + 1
def Jj {R:Type}  (NX:((List Cv)×(Int)×(Int)×Bo×Unit)→Option R) (X2:(Bo×Unit)→Option R) (X1:((Bool)×Unit)→Option R) (v68:List Cv) (v69:Int) (v70:Int) (b0:Bo):Option R:=
 bif decide (v70 < v69) then bif decide (0≤v70) then bif decide (v70 < nI v68.length) then bif !Gd (v68.getD v70.toNat ([],())) then X1 (false,()) else NX (v68,v69,IntKind.i64.wrap (v70 + 1),b0,()) else none else none else X2 (b0,())
def B1:Nat→(List Cv)→(Int)→(Int)→Bo →  Option ((Bo×Unit) ⊕ ((Bool)×Unit))
 | 0,_,_,_,_=>none
 | m + 1,v68,v69,v70,b0=>Jj  (fun d=>B1 m d.1 d.2.1 d.2.2.1 d.2.2.2.1) (fun d=>some (.inl (d))) (fun d=>some (.inr (d))) v68 v69 v70 b0
def Alg (d:(List Cv)×(Int)×(Int)×Bo×Unit):Option ((Bo×Unit) ⊕ ((Bool)×Unit)):=(u4 Ah) (B1 ((u4 Ah) Di d)) d
def S9 (a0:Bo):Option ((((Bool)×Unit)×(Unit))):=
 bif !A9 a0.1 1 8 then some ((false,()),()) else bif !Fv a0.2.1 then some ((false,()),()) else bif !A9 (nI (List.length a0.2.2.2.2.1)) 1 200 then some ((false,()),()) else bif decide (nI (List.length a0.2.2.2.2.2.1) > 2000) then some ((false,()),()) else bif a0.2.2.1 then bif !Hq a0.2.2.2.1 then some ((false,()),()) else bif a0.2.2.2.1.1 != a0.1 then some ((false,()),()) else bif a0.2.2.2.1.2.1 != nI (List.length a0.2.1.1) then some ((false,()),()) else bif !a0.2.2.1 then bif !Qt a0.2.2.2.1 then some ((false,()),()) else ((fun d=>B1 (Di d.1 d.2.1 d.2.2.1 d.2.2.2.1) d.1 d.2.1 d.2.2.1 d.2.2.2.1) (a0.2.2.2.2.1,nI (List.length a0.2.2.2.2.1),0,a0,())).bind fun val=>Cy (fun d=>((fun d=>Bh (Cf d.1 d.2.1 d.2.2.1) d.1 d.2.1 d.2.2.1) (d.1.2.2.2.2.2.1,nI (List.length d.1.2.2.2.2.2.1),0,())).bind fun val=>Cy (fun d=>some ((true,()),())) (fun d=>some (d,())) val) (fun d=>some (d,())) val else ((fun d=>B1 (Di d.1 d.2.1 d.2.2.1 d.2.2.2.1) d.1 d.2.1 d.2.2.1 d.2.2.2.1) (a0.2.2.2.2.1,nI (List.length a0.2.2.2.2.1),0,a0,())).bind fun val=>Cy (fun d=>((fun d=>Bh (Cf d.1 d.2.1 d.2.2.1) d.1 d.2.1 d.2.2.1) (d.1.2.2.2.2.2.1,nI (List.length d.1.2.2.2.2.2.1),0,())).bind fun val=>Cy (fun d=>some ((true,()),())) (fun d=>some (d,())) val) (fun d=>some (d,())) val else bif !a0.2.2.1 then bif !Qt a0.2.2.2.1 then some ((false,()),()) else ((fun d=>B1 (Di d.1 d.2.1 d.2.2.1 d.2.2.2.1) d.1 d.2.1 d.2.2.1 d.2.2.2.1) (a0.2.2.2.2.1,nI (List.length a0.2.2.2.2.1),0,a0,())).bind fun val=>Cy (fun d=>((fun d=>Bh (Cf d.1 d.2.1 d.2.2.1) d.1 d.2.1 d.2.2.1) (d.1.2.2.2.2.2.1,nI (List.length d.1.2.2.2.2.2.1),0,())).bind fun val=>Cy (fun d=>some ((true,()),())) (fun d=>some (d,())) val) (fun d=>some (d,())) val else ((fun d=>B1 (Di d.1 d.2.1 d.2.2.1 d.2.2.2.1) d.1 d.2.1 d.2.2.1 d.2.2.2.1) (a0.2.2.2.2.1,nI (List.length a0.2.2.2.2.1),0,a0,())).bind fun val=>Cy (fun d=>((fun d=>Bh (Cf d.1 d.2.1 d.2.2.1) d.1 d.2.1 d.2.2.1) (d.1.2.2.2.2.2.1,nI (List.length d.1.2.2.2.2.2.1),0,())).bind fun val=>Cy (fun d=>some ((true,()),())) (fun d=>some (d,())) val) (fun d=>some (d,())) val
theorem Bhn (xs:List Cv) (h:xs.length≤200) (b0:Bo):
  B1 (Di xs (nI xs.length) 0 b0) xs (nI xs.length) 0 b0=
  some (bif (List.range' 0 xs.length).all (fun i=>Ak (xs.getD i Ye)) then .inl (b0,()) else .inr (false,())):=by
 have hL:=Ns (n:=xs.length) (fun i=>Ak (xs.getD i Ye)) (g:=fun m i=>B1 m xs (nI xs.length) i b0) (ok:=.inl (b0,())) (bad:=.inr (false,())) (fun m i hi=>by
  show B1 (m + 1) xs (nI xs.length) i b0=_
  simp only [B1,Jj]
  rw [cLt hi,J1,wI (show i < 4611686018427387904 by omega),Fz]
  show (bif !Ak (xs.getD i Ye) then _ else _)=_
  cases Ak (xs.getD i Ye)<;>rfl) (fun m=>by
  show B1 (m + 1) xs (nI xs.length) (xs.length:Int) b0=_
  simp only [B1,Jj]
  rw [Qd]
  rfl) (Di xs (nI xs.length) 0 b0) 0 (by omega) (by simp [Di,nI])
 exact hL
theorem A5e (xs:List Aa) (h:xs.length≤2000):Bh (Cf xs (nI xs.length) 0) xs (nI xs.length) 0=
  some (bif (List.range' 0 xs.length).all (fun i=>decide ((xs.getD i z0).size=64)) then .inl () else .inr (false,())):=by
 have hL:=Ns (n:=xs.length) (fun i=>decide ((xs.getD i z0).size=64)) (g:=fun m i=>Bh m xs (nI xs.length) i) (ok:=.inl ()) (bad:=.inr (false,())) (fun m i hi=>by
  show Bh (m + 1) xs (nI xs.length) i=_
  simp only [Bh,Ij]
  have e:(nI (ByteArray.size (List.getD xs i (Ad))) != 64)=!decide ((xs.getD i z0).size=64):=Bkh (xs.getD i z0).size 64
  rw [cLt hi,J1,wI (show i < 4611686018427387904 by omega),Fz,e]
  cases decide ((xs.getD i z0).size=64)<;>rfl) (fun m=>by
  show Bh (m + 1) xs (nI xs.length) (xs.length:Int)=_
  simp only [Bh,Ij]
  rw [Qd]
  rfl) (Cf xs (nI xs.length) 0) 0 (by omega) (by simp [Cf,nI])
 exact hL
theorem Ark (a0:Bo):S9 a0=some (((M0 a0),()),(())):=by
 unfold S9 M0 B7
 show (bif !Bq a0.1 1 8 then _ else bif !Ap a0.2.1 then _ else bif !Bq (nI a0.2.2.2.2.1.length) 1 200 then _ else _)=_
 cases Bq a0.1 1 8 with
 | false=>rfl
 | true=>
  cases Ap a0.2.1 with
  | false=>rfl
  | true=>
   cases hp:Bq (nI a0.2.2.2.2.1.length) 1 200 with
   | false=>rfl
   | true=>
    have hpl:a0.2.2.2.2.1.length≤200:=by have:=(Cw hp).2; simp only [nI] at this; omega
    have e1:decide (nI a0.2.2.2.2.2.1.length > 2000)=!decide (a0.2.2.2.2.2.1.length≤2000):=Ajw _ 2000
    rw [e1]
    cases hw:decide (a0.2.2.2.2.2.1.length≤2000) with
    | false=>rfl
    | true=>
     have hwl:=G8 hw
     simp only [Bool.not_true,Bool.true_and,cond_false]
     have key:∀ b:Bool,(bif b then (bif Yh a0 then (bif Mc a0 then some ((true,()),()) else some ((false,()),())) else some ((false,()),())) else some ((false,()),()))=(some ((b&&(Yh a0&&Mc a0),()),()):Option ((Bool×Unit)×Unit)):=fun b=>by
      cases b<;>cases Yh a0<;>cases Mc a0<;>rfl
     rw [← key]
     simp only [Bhn _ hpl,Option.bind_some]
     show _=(bif Pn a0 then (bif Yh a0 then (bif Mc a0 then _ else _) else _) else _)
     unfold Pn
     have hP:Yh a0=(List.range' 0 a0.2.2.2.2.1.length).all (fun i=>Ak (a0.2.2.2.2.1.getD i Ye)):=rfl
     have hW:Mc a0=(List.range' 0 a0.2.2.2.2.2.1.length).all (fun i=>decide ((a0.2.2.2.2.2.1.getD i z0).size=64)):=rfl
     rw [hP,hW]
     cases hu:a0.2.2.1 with
     | true=>
      simp only [cond_true,Bool.not_true,cond_false]
      show (bif !As a0.2.2.2.1 then _ else _)=_
      have w1:(a0.2.2.2.1.1 != a0.1)=!(a0.2.2.2.1.1==a0.1):=rfl
      have w2:(a0.2.2.2.1.2.1 != nI a0.2.1.1.length)=!(a0.2.2.2.1.2.1==nI a0.2.1.1.length):=rfl
      rw [w1,w2]
      cases As a0.2.2.2.1 with
      | false=>rfl
      | true=>
       cases (a0.2.2.2.1.1==a0.1) with
       | false=>rfl
       | true=>
        cases (a0.2.2.2.1.2.1==nI a0.2.1.1.length) with
        | false=>rfl
        | true=>
         cases (List.range' 0 a0.2.2.2.2.1.length).all (fun i=>Ak (a0.2.2.2.2.1.getD i Ye)) with
         | false=>rfl
         | true=>
          show (Bh (Cf a0.2.2.2.2.2.1 (nI a0.2.2.2.2.2.1.length) 0) a0.2.2.2.2.2.1 (nI a0.2.2.2.2.2.1.length) 0).bind _=_
          rw [A5e _ hwl]
          cases (List.range' 0 a0.2.2.2.2.2.1.length).all (fun i=>decide ((a0.2.2.2.2.2.1.getD i z0).size=64))<;>rfl
     | false=>
      simp only [cond_true,Bool.not_false,cond_false]
      show (bif !Py a0.2.2.2.1 then _ else _)=_
      cases Py a0.2.2.2.1 with
      | false=>rfl
      | true=>
       cases (List.range' 0 a0.2.2.2.2.1.length).all (fun i=>Ak (a0.2.2.2.2.1.getD i Ye)) with
       | false=>rfl
       | true=>
        show (Bh (Cf a0.2.2.2.2.2.1 (nI a0.2.2.2.2.2.1.length) 0) a0.2.2.2.2.2.1 (nI a0.2.2.2.2.2.1.length) 0).bind _=_
        rw [A5e _ hwl]
        cases (List.range' 0 a0.2.2.2.2.2.1.length).all (fun i=>decide ((a0.2.2.2.2.2.1.getD i z0).size=64))<;>rfl
def Yb {R:Type} (k:Kt R):=(Cy (L7 (Cq 7) (.exit 0) 2 k) (L7 (Cq 7) .ret 1 k))
def Vx {R:Type} (k:Kt R):=(Cy (L7 (Cq 13) (.exit 2) 4 k) (L7 (Cq 13) .ret 1 k))
def U9 {R:Type}:Lt R Cq:=(Fp (pat:=Cq) 7 (fun d k=>(Alg d).bind (Yb k)) (Fp (pat:=Cq) 13 (fun d k=>(Ai1 d).bind (Vx k)) Ik))
theorem Ta:A5 Tryz.prog S8:=Bb ⟨Jv,D4,O2,Oz,Az7,trivial⟩
theorem Ai2 {R:Type}:Ba Tryz.prog R 89 0 Cq U9 Vw:=
 Cn (cfg:=⟨S8,0,89,Cq⟩) 13 [] (fun NX X d=>(Ac (Ac (Ac Ah))) (Ij  NX (fun e=>X (.inl (e))) (fun e=>X (.inr (e)))) d) (fun m d=>(Ac (Ac (Ac Ah))) (Bh m) d) (fun d=>(Ac (Ac (Ac Ah))) Cf d) Vx Ta trivial (fun f NX d=>by simp only [u4,Ac,Ah]; unfold Ij; simp only [nb])
theorem Alh {R:Type}:Ba Tryz.prog R 89 0 Cq U9 Ya:=
 Cn (cfg:=⟨S8,0,89,Cq⟩) 7 [] (fun NX X d=>(u4 Ah) (Jj  NX (fun e=>X (.inl (e))) (fun e=>X (.inr (e)))) d) (fun m d=>(u4 Ah) (B1 m) d) (fun d=>(u4 Ah) Di d) Yb Ta trivial (fun f NX d=>by simp only [u4,Ac,Ah]; unfold Jj; simp only [nb])
theorem Arl:B8 Tryz.prog 64 u7:=
 A7 (pat:=Cq) [Ya,Vw] U9 Ta ⟨Alh,Ai2,trivial⟩ Tryz.func64 (de:=fun x=>S9 x.1) (fun x r h=>(Ark x.1).trans h) fun _=>by kernel_rfl
def J2 (d:Dk):Option Dk:=if d.1.length≤1000∧d.2.1.length≤1000 then some (d.1,d.2.1,()) else none
def Axa:Hh:=⟨[.rd yDk],[some 2],[.own 9 .str,.own 174 Ew],[some 2]⟩
def W1:SD:=⟨Axa,fun x=>(J2 x.1).bind fun r=>some ((r.1,r.2.1,()),(()))⟩
def W2 (a0:Dk):Option ((Dk×(Unit))):=
 bif decide ((0 + List.length a0.1) * 16≤140737488355328) then bif decide ((0 + List.length a0.2.1) * 24≤140737488355328) then some (([]++a0.1,[]++a0.2.1,()),()) else none else none
theorem Axb (a0:Dk) r (h:J2 a0=some r):W2 a0=some ((r.1,r.2.1,()),(())):=by
 unfold J2 at h
 split at h
 ·rename_i hc
  cases h
  unfold W2
  rw [Af (show (0 + a0.1.length) * 16≤140737488355328 by omega),Af (show (0 + a0.2.1.length) * 24≤140737488355328 by omega)]
  rfl
 ·cases h
theorem Ae2:B8 Tryz.prog 192 W1:=
 A7 (pat:=Ei) [] Ik (Bb (l:=[]) trivial) trivial Tryz.func192 (de:=fun x=>W2 x.1) (fun x r h=>Hf (Axb x.1) h) fun _=>by kernel_rfl
def Jk (d:Dk) (ops:List Dc) (n:Int):Option Dk:=if ops.length≤1099511627776 then some (B9 d ops n) else none
def Az8:Hh:=⟨[.rd yDk,.rd (.sl E4),.rd tI],[some 2,none,none],[.own 9 .str,.own 174 Ew],[some 2]⟩
def Ah0:SD:=⟨Az8,fun x=>(Jk x.1 x.2.1 x.2.2.1).bind fun r=>some ((r.1,r.2.1,()),(()))⟩
def Yr:Tb:=tb [(94,Hr),(95,Do),(192,W1)]
def Fm:Nat→Dq×(Nat→Dq):=Hk [(6,⟨[.sl 1 0 E4,.boxRow 6 0 9 .str,.boxRow 6 1 174 Ew,.boxRow 7 0 9 .str,.boxRow 7 1 174 Ew],[(1,.lf (.d (.sl E4))),(2,.lf (.d tI)),(6,.lf (.ptr 0 0)),(7,.lf (.ptr 1 0)),(8,.lf (.d tI))],[.box 26 [.row 2,.row 3],.box 26 [.row 4,.row 5],.row 9 .str,.row 174 Ew,.row 9 .str,.row 174 Ew]⟩,[(2,⟨[.boxRow 6 0 9 .str,.boxRow 6 1 174 Ew,.boxRow 7 0 9 .str,.boxRow 7 1 174 Ew],[(6,.lf (.ptr 0 0)),(7,.lf (.ptr 1 0))],[.box 26 [.row 2,.row 3],.box 26 [.row 4,.row 5],.row 9 .str,.row 174 Ew,.row 9 .str,.row 174 Ew]⟩)]),(11,⟨[.sl 1 0 E4,.sl 36 0 Ew,.boxRow 6 0 9 .str,.boxRow 6 1 174 Ew,.boxRow 7 0 9 .str,.boxSl 7 1 Ew],[(1,.lf (.d (.sl E4))),(2,.lf (.d tI)),(6,.lf (.ptr 0 0)),(7,.lf (.ptr 1 0)),(8,.lf (.d tI)),(36,.lf (.d (.sl Ew))),(37,.lf (.d tI)),(38,.lf (.d tI))],[.box 26 [.row 2,.row 3],.box 26 [.row 4,.d (.sl Ew)],.row 9 .str,.row 174 Ew,.row 9 .str]⟩,[(4,⟨[.sl 1 0 E4,.boxRow 6 0 9 .str,.boxRow 6 1 174 Ew,.boxRow 7 0 9 .str,.boxSl 7 1 Ew],[(1,.lf (.d (.sl E4))),(2,.lf (.d tI)),(6,.lf (.ptr 0 0)),(7,.lf (.ptr 1 0)),(8,.lf (.d tI))],[.box 26 [.row 2,.row 3],.box 26 [.row 4,.d (.sl Ew)],.row 9 .str,.row 174 Ew,.row 9 .str]⟩)])]
def Va:Code:=(Ax (Bm Tryz.f113)).getD 0 .skip
def w5:Code:=(Ax Va).getD 0 .skip
def Ls (v1:List Dc) (v2 v8:Int) (v36:List Wr) (v37 v38:Int) (b1_1:List Wr) (r2:List Aa) (r3:List Wr) (r4:List Aa):Nat:=(v37 - v38).toNat + 1
def Lu {R:Type}  (NX:((List Dc)×(Int)×(Int)×(List Wr)×(Int)×(Int)×(List Wr)×(List Aa)×(List Wr)×(List Aa)×Unit)→Option R) (X4:((List Dc)×(Int)×(Int)×(List Wr)×(List Aa)×(List Wr)×(List Aa)×Unit)→Option R) (v1:List Dc) (v2:Int) (v8:Int) (v36:List Wr) (v37:Int) (v38:Int) (b1_1:List Wr) (r2:List Aa) (r3:List Wr) (r4:List Aa):Option R:=
 bif decide (v38 < v37) then bif decide (0≤v38) then bif decide (v38 < nI v36.length) then bif decide (0≤(v36.getD v38.toNat (0,Ad,())).1) then bif decide ((v36.getD v38.toNat (0,Ad,())).1 < nI r4.length) then bif decide (Int.toNat (v36.getD v38.toNat (0,Ad,())).1 < r4.length) then NX (v1,v2,v8,v36,v37,IntKind.i64.wrap (v38 + 1),b1_1,r2,r3,r4.set (Int.toNat (v36.getD v38.toNat (0,Ad,())).1) (v36.getD v38.toNat (0,Ad,())).2.1,()) else none else none else none else none else none else X4 (v1,v2,v8,b1_1,r2,r3,r4,())
def Eg:Nat→(List Dc)→(Int)→(Int)→(List Wr)→(Int)→(Int)→(List Wr)→(List Aa)→(List Wr)→(List Aa) →  Option ((List Dc)×(Int)×(Int)×(List Wr)×(List Aa)×(List Wr)×(List Aa)×Unit)
 | 0,_,_,_,_,_,_,_,_,_,_=>none
 | m + 1,v1,v2,v8,v36,v37,v38,b1_1,r2,r3,r4=>Lu  (fun d=>Eg m d.1 d.2.1 d.2.2.1 d.2.2.2.1 d.2.2.2.2.1 d.2.2.2.2.2.1 d.2.2.2.2.2.2.1 d.2.2.2.2.2.2.2.1 d.2.2.2.2.2.2.2.2.1 d.2.2.2.2.2.2.2.2.2.1) (fun d=>some (d)) v1 v2 v8 v36 v37 v38 b1_1 r2 r3 r4
def Lv (d:(List Dc)×(Int)×(Int)×(List Wr)×(Int)×(Int)×(List Wr)×(List Aa)×(List Wr)×(List Aa)×Unit):Option ((List Dc)×(Int)×(Int)×(List Wr)×(List Aa)×(List Wr)×(List Aa)×Unit):=(u4 (u4 (Ac (Ac Ah)))) (Eg ((u4 (u4 (Ac (Ac Ah)))) Ls d)) d
def Hu (v1:List Dc) (v2 v8:Int) (r2:List Aa) (r3:List Wr) (r4:List Aa) (r5:List Wr):Nat:=(v2 - v8).toNat + 1
def M1 {R:Type} (LO11:((List Dc)×(Int)×(Int)×(List Wr)×(Int)×(Int)×(List Wr)×(List Aa)×(List Wr)×(List Aa)×Unit)→Option ((List Dc)×(Int)×(Int)×(List Wr)×(List Aa)×(List Wr)×(List Aa)×Unit)) (NX:((List Dc)×(Int)×(Int)×(List Aa)×(List Wr)×(List Aa)×(List Wr)×Unit)→Option R) (X2:((List Aa)×(List Wr)×(List Aa)×(List Wr)×Unit)→Option R) (v1:List Dc) (v2 v8:Int) (r2:List Aa) (r3:List Wr) (r4:List Aa) (r5:List Wr):Option R:=
 bif decide (v8 < v2) then bif decide (v8 < nI v1.length) then bif decide (0≤v8) then bif decide (v8 < nI v1.length) then bif (v1.getD v8.toNat (false,0,Ad,())).1 then (LO11 (v1,v2,v8,r5,nI r5.length,0,r5,r2,r3,r4,())).bind fun val=>NX (val.1,val.2.1,IntKind.i64.wrap (val.2.2.1 + 1),val.2.2.2.2.1,val.2.2.2.2.2.1,val.2.2.2.2.2.2.1,[],()) else bif A9 (v1.getD v8.toNat (false,0,Ad,())).2.1 0 (IntKind.i64.wrap (nI r4.length - 1)) then bif nI (ByteArray.size (v1.getD v8.toNat (false,0,Ad,())).2.2.1)==64 then bif decide (nI r5.length < 300) then bif decide ((r5.length + [(v1.getD v8.toNat (false,0,Ad,())).2].length) * 24≤140737488355328) then NX (v1,v2,IntKind.i64.wrap (v8 + 1),r2,r3,r4,r5++[(v1.getD v8.toNat (false,0,Ad,())).2],()) else none else NX (v1,v2,IntKind.i64.wrap (v8 + 1),r2,r3,r4,r5,()) else NX (v1,v2,IntKind.i64.wrap (v8 + 1),r2,r3,r4,r5,()) else NX (v1,v2,IntKind.i64.wrap (v8 + 1),r2,r3,r4,r5,()) else none else none else X2 (r2,r3,r4,r5,()) else X2 (r2,r3,r4,r5,())
def C2:Nat→(List Dc)→(Int)→(Int)→(List Aa)→(List Wr)→(List Aa)→(List Wr) →  Option ((List Aa)×(List Wr)×(List Aa)×(List Wr)×Unit)
 | 0,_,_,_,_,_,_,_=>none
 | m + 1,v1,v2,v8,r2,r3,r4,r5=>M1 Lv (fun d=>C2 m d.1 d.2.1 d.2.2.1 d.2.2.2.1 d.2.2.2.2.1 d.2.2.2.2.2.1 d.2.2.2.2.2.2.1) (fun d=>some (d)) v1 v2 v8 r2 r3 r4 r5
def Auk (d:(List Dc)×(Int)×(Int)×(List Aa)×(List Wr)×(List Aa)×(List Wr)×Unit):Option ((List Aa)×(List Wr)×(List Aa)×(List Wr)×Unit):=(u4 (Ac (Ac (Ac Ah)))) (C2 ((u4 (Ac (Ac (Ac Ah)))) Hu d)) d
def Ys (a0:Dk) (a1:List Dc) (a2:Int):Option ((Dk×(Unit))):=
 bif !Fv a0 then some (([],[],()),()) else ((J2 a0).bind fun val=>some (val,())).bind fun val=>((fun d=>C2 (Hu d.1 d.2.1 d.2.2.1 d.2.2.2.1 d.2.2.2.2.1 d.2.2.2.2.2.1 d.2.2.2.2.2.2.1) d.1 d.2.1 d.2.2.1 d.2.2.2.1 d.2.2.2.2.1 d.2.2.2.2.2.1 d.2.2.2.2.2.2.1) (a1,a2,0,[],[],val.1)).bind fun val=>some (val.2.2,())
theorem Bho (a1:List Dc) (a2 i:Int) (b:List Wr) {sec:List Aa} {ws:List Wr} (hp:ws.length≤300) (hw:∀ i,i < ws.length→0≤(ws.getD i zW).1∧(ws.getD i zW).1 < (sec.length:Int)):
  Eg (Ls a1 a2 i ws (nI ws.length) 0 b [] [] sec) a1 a2 i ws (nI ws.length) 0 b [] [] sec=some (a1,a2,i,b,[],[],Hb sec ws,()):=by
 have hL:=Adv (xs:=ws) zW (fun s:List Aa=>s.length=sec.length) (fun _ w s=>s.set w.1.toNat w.2.1) (g:=fun m i' s=>Eg m a1 a2 i ws (nI ws.length) i' b [] [] s) (ok:=fun s=>(a1,a2,i,b,[],[],s,())) (fun m i' s hi hs=>by
   show Eg (m + 1) a1 a2 i ws (nI ws.length) i' b [] [] s=_
   simp only [Eg,Lu]
   obtain ⟨h0,h1⟩:=hw i' hi
   have c1:decide (0≤(List.getD ws i' (0,Ad,())).1)=true:=Af h0
   have c2:decide ((List.getD ws i' (0,Ad,())).1 < nI s.length)=true:=Af (by rw [hs]; exact h1)
   have c3:decide (Int.toNat (List.getD ws i' (0,Ad,())).1 < s.length)=true:=Af (by
    rw [hs]
    have:(ws.getD i' zW).1.toNat < sec.length:=by
     have h0:0≤(ws.getD i' zW).1:=h0
     have h1:(ws.getD i' zW).1 < (sec.length:Int):=h1
     omega
    exact this)
   rw [cLt hi,J1,wI (show i' < 4611686018427387904 by omega),Fz,c1,c2,c3]
   rfl) (fun i s hi hs=>by rw [List.length_set]; exact hs) (fun m s hs=>by
   show Eg (m + 1) a1 a2 i ws (nI ws.length) (ws.length:Int) b [] [] s=_
   simp only [Eg,Lu]
   rw [Qd]
   rfl) (Ls a1 a2 i ws (nI ws.length) 0 b [] [] sec) 0 sec (by omega) (by simp [Ls,nI]) rfl
 exact hL
theorem Az9 (a0:Dk) (a1:List Dc) (a2:Int) r (h:Jk a0 a1 a2=some r):Ys a0 a1 a2=some ((r.1,r.2.1,()),(())):=by
 unfold Jk at h
 split at h
 rotate_left
 ·cases h
 rename_i hlen
 cases h
 unfold Ys B9
 show (bif !Ap a0 then _ else _)=_
 cases hv:Ap a0 with
 | false=>rfl
 | true=>
  have hok:=Ki hv
  have e1:J2 (a0.1,a0.2.1,())=some (a0.1,a0.2.1,()):=if_pos ⟨Nat.le_trans hok.n200 (by decide),Nat.le_trans hok.p300 (by decide)⟩
  have hxl:(a1.take a2.toNat).length=min a2.toNat a1.length:=List.length_take
  have hL:=E6 (xs:=a1.take a2.toNat) zOp (fun _ d=>If d) (fun _ o d=>opS d o) (g:=fun m i d=>C2 m a1 a2 i [] [] d.1 d.2.1) (ok:=fun d:Dk=>([],[],d.1,d.2.1,())) (fun m i d hi hI=>by
   show C2 (m + 1) a1 a2 i [] [] d.1 d.2.1=_
   simp only [C2,M1,Lv,u4,Ac,Ah]
   rw [hxl] at hi
   have hi1:i < a1.length:=by omega
   have hi2:decide ((i:Int) < a2)=true:=Af (by omega)
   have hg:(a1.take a2.toNat).getD i zOp=List.getD a1 i (false,0,Ad,()):=by
    rw [List.getD_eq_getElem?_getD,List.getElem?_take,if_pos (by omega),← List.getD_eq_getElem?_getD]
    rfl
   rw [hg,hi2,cLt hi1,J1,wI (show i < 4611686018427387904 by omega),Fz]
   simp only [cond_true]
   generalize List.getD a1 i (false,0,Ad,())=o
   unfold opS
   cases ho:o.1 with
   | true=>
    simp only [cond_true]
    rw [Bho a1 a2 i d.2.1 hI.p300 (fun k hk=>⟨(hI.pen k hk).1,(hI.pen k hk).2.1⟩)]
    simp only [Option.bind_some]
    rw [wI (show i < 4611686018427387904 by omega)]
    rfl
   | false=>
    simp only [cond_false]
    have hn:=hI.n8
    have hn2:=hI.n200
    have hp:=hI.p300
    have e2:A9 o.2.1 0 (IntKind.i64.wrap (nI d.1.length - 1))=(decide (0≤o.2.1)&&decide (o.2.1 < (d.1.length:Int))):=by
     rw [Aj (by simp only [nI]; omega) (by simp only [nI]; omega)]
     show (decide (0≤o.2.1)&&decide (o.2.1≤nI d.1.length - 1))=_
     congr 1
     exact decide_eq_decide.2 (by simp only [nI]; omega)
    have e3:(nI (ByteArray.size o.2.2.1)==64)=decide (o.2.2.1.size=64):=by
     by_cases q:o.2.2.1.size=64
     ·rw [q]; rfl
     ·rw [Bd q]
      exact beq_eq_false_iff_ne.2 (by simp only [nI]; omega)
    have e4:decide (nI d.2.1.length < 300)=decide (d.2.1.length < 300):=decide_eq_decide.2 (by simp only [nI]; omega)
    have e5:decide ((d.2.1.length + 1) * 24≤140737488355328)=true:=Af (by omega)
    simp only [En,e2,e3,e4,e5]
    show _=C2 m a1 a2 _ [] [] (bif (decide (0≤o.2.1)&&(decide (o.2.1 < (d.1.length:Int))&&decide (o.2.2.1.size=64)))&&decide (d.2.1.length < 300) then (d.1,d.2.1++[(o.2.1,o.2.2.1,())],()) else d).1 (bif (decide (0≤o.2.1)&&(decide (o.2.1 < (d.1.length:Int))&&decide (o.2.2.1.size=64)))&&decide (d.2.1.length < 300) then (d.1,d.2.1++[(o.2.1,o.2.2.1,())],()) else d).2.1
    cases decide (0≤o.2.1)<;>cases decide (o.2.1 < (d.1.length:Int))<;>cases decide (o.2.2.1.size=64)<;>cases decide (d.2.1.length < 300)<;>rfl) (fun i d hi hI=>hI.op _) (fun m d hI=>by
   show C2 (m + 1) a1 a2 (((a1.take a2.toNat).length:Nat):Int) [] [] d.1 d.2.1=_
   simp only [C2,M1,Lv,u4,Ac,Ah]
   rw [hxl]
   by_cases q:((min a2.toNat a1.length:Nat):Int) < a2
   ·rw [Af q,Bd (show ¬ ((min a2.toNat a1.length:Nat):Int) < nI a1.length by simp only [nI]; omega)]
    rfl
   ·rw [Bd q]
    rfl) (Hu a1 a2 0 [] [] a0.1 a0.2.1) 0 a0 (by omega) (by rw [hxl]; simp only [Hu,nI]; omega) hok
  have hL':C2 (Hu a1 a2 0 [] [] a0.1 a0.2.1) a1 a2 0 [] [] a0.1 a0.2.1=_:=hL
  simp only [Bool.not_true,cond_false]
  rw [e1]
  show (C2 (Hu a1 a2 0 [] [] a0.1 a0.2.1) a1 a2 0 [] [] a0.1 a0.2.1).bind _=_
  rw [hL',List.drop_zero]
  have hf:∀ (l:List Dc) (i:Nat) (d:Dk),Ds (fun _ o d=>opS d o) i l d=l.foldl opS d:=fun l=>by
   induction l with
   | nil=>intro i d; rfl
   | cons o r ih=>intro i d; exact ih _ _
  rw [hf]
  rfl
def Abz {R:Type} (k:Kt R):=(L7 (Fm 6) (.exit 0) 2 k)
def w6 {R:Type} (k:Kt R):=(L7 (Fm 11) (.exit 2) 4 k)
def w8 {R:Type}:Lt R Fm:=(Fp (pat:=Fm) 6 (fun d k=>(Auk d).bind (Abz k)) (Fp (pat:=Fm) 11 (fun d k=>(Lv d).bind (w6 k)) Ik))
theorem Yt:A5 Tryz.prog Yr:=Bb ⟨Jv,D4,Ae2,trivial⟩
theorem Arm {R:Type}:Ba Tryz.prog R 81 0 Fm w8 w5:=
 Cn (cfg:=⟨Yr,0,81,Fm⟩) 11 [] (fun NX X d=>(u4 (u4 (Ac (Ac Ah)))) (Lu  NX X) d) (fun m d=>(u4 (u4 (Ac (Ac Ah)))) (Eg m) d) (fun d=>(u4 (u4 (Ac (Ac Ah)))) Ls d) w6 Yt trivial (fun f NX d=>by simp only [u4,Ac,Ah]; unfold Lu; simp only [nb])
theorem Aul {R:Type}:Ba Tryz.prog R 81 0 Fm w8 Va:=
 Cn (cfg:=⟨Yr,0,81,Fm⟩) 6 [w5] (fun NX X d=>(u4 (Ac (Ac (Ac Ah)))) (M1 Lv NX X) d) (fun m d=>(u4 (Ac (Ac (Ac Ah)))) (C2 m) d) (fun d=>(u4 (Ac (Ac (Ac Ah)))) Hu d) Abz Yt ⟨Arm,trivial⟩ (fun f NX d=>by simp only [u4,Ac,Ah]; unfold M1; simp only [nb])
theorem A0a:B8 Tryz.prog 113 Ah0:=
 A7 (pat:=Fm) [Va] w8 Yt ⟨Aul,trivial⟩ Tryz.func113 (de:=fun x=>Ys x.1 x.2.1 x.2.2.1) (fun x r h=>Hf (Az9 x.1 x.2.1 x.2.2.1) h) fun _=>by kernel_rfl
def Aum:Hh:=⟨[.rd I5],[some 16],[.rd tI,.rd yDk,.rd .bool,.rd Yg,.own 31 F0,.own 9 .str],[some 16]⟩
def Ab0:Tb:=tb [(121,Mz),(192,W1)]
def Jx:Nat→Dq×(Nat→Dq):=Hk [(6,⟨[.row 3 0 31 F0,.sl 17 0 F0,.boxSl 1 1 .str,.boxSl 1 2 Ew,.boxSl 1 13 A1,.boxSl 1 14 F0,.boxSl 1 15 .str,.boxSl 2 1 .str,.boxSl 2 2 Ew,.boxSl 2 13 A1,.boxSl 2 14 F0,.boxSl 2 15 .str],[(1,.lf (.ptr 0 0)),(2,.lf (.ptr 1 0)),(3,.lf (.row 2)),(17,.lf (.d (.sl F0))),(18,.lf (.d tI)),(19,.lf (.d tI))],[.box 36 [.d I5],.box 36 [.d I5],.row 31 F0]⟩,[(2,⟨[.row 3 0 31 F0,.boxSl 1 1 .str,.boxSl 1 2 Ew,.boxSl 1 13 A1,.boxSl 1 14 F0,.boxSl 1 15 .str,.boxSl 2 1 .str,.boxSl 2 2 Ew,.boxSl 2 13 A1,.boxSl 2 14 F0,.boxSl 2 15 .str],[(1,.lf (.ptr 0 0)),(2,.lf (.ptr 1 0)),(3,.lf (.row 2))],[.box 36 [.d I5],.box 36 [.d I5],.row 31 F0]⟩)])]
def Zf:Code:=(Ax (Bm Tryz.f134)).getD 0 .skip
def Nk (v17:List Cv) (v18 v19:Int) (b0 b1:Bo) (r2:List Cv):Nat:=(v18 - v19).toNat + 1
def Kd {R:Type}  (NX:((List Cv)×(Int)×(Int)×Bo×Bo×(List Cv)×Unit)→Option R) (X2:(Bo×Bo×(List Cv)×Unit)→Option R) (v17:List Cv) (v18:Int) (v19:Int) (b0:Bo) (b1:Bo) (r2:List Cv):Option R:=
 bif decide (v19 < v18) then bif decide (0≤v19) then bif decide (v19 < nI v17.length) then ((Br (v17.getD v19.toNat ([],()))).bind fun val=>some (val,())).bind fun val=>bif decide ((r2.length + [val.1].length) * 24≤140737488355328) then NX (v17,v18,IntKind.i64.wrap (v19 + 1),b0,b1,r2++[val.1],()) else none else none else none else X2 (b0,b1,r2,())
def F6:Nat→(List Cv)→(Int)→(Int)→Bo→Bo→(List Cv) →  Option (Bo×Bo×(List Cv)×Unit)
 | 0,_,_,_,_,_,_=>none
 | m + 1,v17,v18,v19,b0,b1,r2=>Kd  (fun d=>F6 m d.1 d.2.1 d.2.2.1 d.2.2.2.1 d.2.2.2.2.1 d.2.2.2.2.2.1) (fun d=>some (d)) v17 v18 v19 b0 b1 r2
def An5 (d:(List Cv)×(Int)×(Int)×Bo×Bo×(List Cv)×Unit):Option (Bo×Bo×(List Cv)×Unit):=(u4 (Ac (Ac Ah))) (F6 ((u4 (Ac (Ac Ah))) Nk d)) d
def P5 (a0:Bo):Option ((((Int)×Dk×(Bool)×Ez×(List Cv)×(List Aa)×Unit)×(Unit))):=
 ((J2 a0.2.1).bind fun val=>some (val,())).bind fun val=>((Br a0.2.2.2.1.2.2.2.2.2.2.1).bind fun val=>some (val,())).bind fun val_1=>((fun d=>F6 (Nk d.1 d.2.1 d.2.2.1 d.2.2.2.1 d.2.2.2.2.1 d.2.2.2.2.2.1) d.1 d.2.1 d.2.2.1 d.2.2.2.1 d.2.2.2.2.1 d.2.2.2.2.2.1) (a0.2.2.2.2.1,nI (List.length a0.2.2.2.2.1),0,(a0.1,val.1,a0.2.2.1,(a0.2.2.2.1.1,a0.2.2.2.1.2.1,a0.2.2.2.1.2.2.1,a0.2.2.2.1.2.2.2.1,a0.2.2.2.1.2.2.2.2.1,a0.2.2.2.1.2.2.2.2.2.1,val_1),a0.2.2.2.2),(0,([],[],()),false,(0,0,0,(0,0,0,0,()),0,0,([],()),()),[],[],()),[],())).bind fun val=>bif decide ((0 + List.length val.1.2.2.2.2.2.1) * 16≤140737488355328) then some ((val.1.1,val.1.2.1,val.1.2.2.1,val.1.2.2.2.1,val.2.2.1,[]++val.1.2.2.2.2.2.1,()),()) else none
theorem Ab1:∃ f,f=@P5:=⟨_,rfl⟩
def N5:=Classical.choose Ab1
theorem Ab2:@N5=@P5:=Classical.choose_spec Ab1
def Ab3:SD:=⟨Aum,fun x=>N5 x.1⟩
theorem Bp0 (v17:List Cv) (b0 b1:Bo) (hv:v17.length≤1000) (hp:∀ x∈v17,x.1.length≤1000):∀ (k m i:Nat) (l:List Cv),i + k=v17.length→k < m→l=v17.take i→
  Av (F6 m v17 (nI v17.length) i b0 b1 l) fun q=>q=(b0,b1,v17,()):=by
 intro k
 induction k with
 | zero=>
  intro m i l hi hm hl
  cases m with
  | zero=>omega
  | succ m=>
   simp only [F6,Kd]
   rw [hl,List.take_of_length_le (by omega)]
   exact Av.no (Bd (by simp only [nI]; omega)) (Av.some rfl)
 | succ k ih=>
  intro m i l hi hm hl
  cases m with
  | zero=>omega
  | succ m=>
   have e1:IntKind.i64.wrap ((i:Int) + 1)=((i + 1:Nat):Int):=wI (by omega)
   have hx:=hp _ (Adu Ye (show i < v17.length by omega))
   have e2:Br (v17.getD (Int.toNat (i:Int)) ([],()))=some (v17.getD i Ye):=if_pos (Nat.le_trans hx (by decide))
   have hll:l.length≤1000:=by rw [hl,List.length_take]; omega
   simp only [F6,Kd,e1,e2,Option.bind_some]
   refine Av.go (Af (by simp only [nI]; omega)) (Av.go (Af (by omega)) (Av.go (Af (by simp only [nI]; omega)) (Av.go (Af (by simp only [En]; omega)) ?_)))
   exact ih m (i + 1) _ (by omega) (by omega) (by rw [hl]; exact (A34 (by omega)).symm)
theorem Bnz {w:Bo} (h:Bnn w):Av (N5 w) fun q=>q.1=w:=by
 obtain ⟨h1,h2,h3,h4,h5,h6⟩:=h
 rw [Ab2]
 unfold P5
 have c1:Av ((J2 w.2.1).bind fun val=>some (val,())) fun q=>q=(w.2.1,()):=Av.bind ⟨_,if_pos ⟨h1,h2⟩,rfl⟩ fun a ha=>Av.some (by rw [← ha])
 have c2:Av ((Br w.2.2.2.1.2.2.2.2.2.2.1).bind fun val=>some (val,())) fun q=>q=(w.2.2.2.1.2.2.2.2.2.2.1,()):=Av.bind ⟨_,if_pos (Nat.le_trans h3 (by decide)),rfl⟩ fun a ha=>Av.some (by rw [← ha])
 refine Av.bind c1 fun q hq=>?_
 subst hq
 refine Av.bind c2 fun q hq=>?_
 subst hq
 refine Av.bind (Bp0 w.2.2.2.2.1 _ _ h4 h5 w.2.2.2.2.1.length _ 0 [] (by omega) (by simp only [Nk,nI]; omega) rfl) fun q hq=>?_
 subst hq
 exact Av.go (Af (by show (0 + w.2.2.2.2.2.1.length) * 16≤_; omega)) (Av.some rfl)
def Zg {R:Type} (k:Kt R):=(L7 (Jx 6) (.exit 0) 2 k)
def Ae3 {R:Type}:Lt R Jx:=(Fp (pat:=Jx) 6 (fun d k=>(An5 d).bind (Zg k)) Ik)
theorem Ab4:A5 Tryz.prog Ab0:=Bb ⟨P4,Ae2,trivial⟩
theorem An6 {R:Type}:Ba Tryz.prog R 36 0 Jx Ae3 Zf:=
 Cn (cfg:=⟨Ab0,0,36,Jx⟩) 6 [] (fun NX X d=>(u4 (Ac (Ac Ah))) (Kd  NX X) d) (fun m d=>(u4 (Ac (Ac Ah))) (F6 m) d) (fun d=>(u4 (Ac (Ac Ah))) Nk d) Zg Ab4 trivial (fun f NX d=>by simp only [u4,Ac,Ah]; unfold Kd; simp only [nb])
theorem Aun:B8 Tryz.prog 134 Ab3:=
 A7 (pat:=Jx) [Zf] Ae3 Ab4 ⟨An6,trivial⟩ Tryz.func134 (de:=fun x=>P5 x.1) (fun x r h=>by have q:N5 x.1=some r:=h; rw [Ab2] at q; exact q) fun _=>by kernel_rfl
theorem Aph:∃ f:Dk→(Int)→Option Pl,f=fun a0 a1=>some (B0 a0 a1):=⟨_,rfl⟩
def Vb:=Classical.choose Aph
theorem Api:Vb=fun a0 a1=>some (B0 a0 a1):=Classical.choose_spec Aph
def Apj:SD:=⟨Aue,fun x=>(Vb x.1 x.2.1).bind fun r=>some ((r.1,r.2.1.1,r.2.1.2.1,r.2.1.2.2.1,r.2.1.2.2.2.1.1,r.2.1.2.2.2.1.2.1,r.2.1.2.2.2.1.2.2.1,r.2.1.2.2.2.1.2.2.2.1,r.2.1.2.2.2.2.1,r.2.1.2.2.2.2.2.1,r.2.1.2.2.2.2.2.2.1.1,r.2.2.1,()),(()))⟩
theorem Ah1:∃ f:Ez→(List Bc)→Option Pl,f=fun a0 a1=>some (A8 a0 a1):=⟨_,rfl⟩
def N6:=Classical.choose Ah1
theorem Ah2:N6=fun a0 a1=>some (A8 a0 a1):=Classical.choose_spec Ah1
def Ah3:SD:=⟨Akr,fun x=>(N6 x.1 x.2.1).bind fun r=>some ((r.1,r.2.1.1,r.2.1.2.1,r.2.1.2.2.1,r.2.1.2.2.2.1.1,r.2.1.2.2.2.1.2.1,r.2.1.2.2.2.1.2.2.1,r.2.1.2.2.2.1.2.2.2.1,r.2.1.2.2.2.2.1,r.2.1.2.2.2.2.2.1,r.2.1.2.2.2.2.2.2.1.1,r.2.2.1,()),(()))⟩
theorem Ali:∃ f:Ez→Option Pl,f=fun a0=>some (Bn a0):=⟨_,rfl⟩
def Kn:=Classical.choose Ali
theorem Alj:Kn=fun a0=>some (Bn a0):=Classical.choose_spec Ali
def Alk:SD:=⟨Apf,fun x=>(Kn x.1).bind fun r=>some ((r.1,r.2.1.1,r.2.1.2.1,r.2.1.2.2.1,r.2.1.2.2.2.1.1,r.2.1.2.2.2.1.2.1,r.2.1.2.2.2.1.2.2.1,r.2.1.2.2.2.1.2.2.2.1,r.2.1.2.2.2.2.1,r.2.1.2.2.2.2.2.1,r.2.1.2.2.2.2.2.2.1.1,r.2.2.1,()),(()))⟩
theorem Ae4:∃ f:Ez→Option Pl,f=fun a0=>some (A6 a0):=⟨_,rfl⟩
def Dy:=Classical.choose Ae4
theorem Ae5:Dy=fun a0=>some (A6 a0):=Classical.choose_spec Ae4
def Ae6:SD:=⟨Ahx,fun x=>(Dy x.1).bind fun r=>some ((r.1,r.2.1.1,r.2.1.2.1,r.2.1.2.2.1,r.2.1.2.2.2.1.1,r.2.1.2.2.2.1.2.1,r.2.1.2.2.2.1.2.2.1,r.2.1.2.2.2.1.2.2.2.1,r.2.1.2.2.2.2.1,r.2.1.2.2.2.2.2.1,r.2.1.2.2.2.2.2.2.1.1,r.2.2.1,()),(()))⟩
theorem w9:∃ f:Dk→(List Int)→Option Dk,f=fun a0 a1=>some (Is a0 a1):=⟨_,rfl⟩
def D9:=Classical.choose w9
theorem Tc:D9=fun a0 a1=>some (Is a0 a1):=Classical.choose_spec w9
def x5:SD:=⟨Abv,fun x=>(D9 x.1 x.2.1).bind fun r=>some ((r.1,r.2.1,()),(()))⟩
def Bhp:Hh:=⟨[.rd I5,.rd Bdn],[some 16,some 4],[.rd I5],[some 16]⟩
def A5f:Tb:=tb [(27,Apj),(33,Ah3),(34,Alk),(35,Ae6),(60,x5),(64,u7),(95,Do),(113,Ah0),(121,Mz),(134,Ab3)]
def W3:Nat→Dq×(Nat→Dq):=Hk [(26,⟨[.row 9 0 9 .str,.sl 99 0 E4,.boxSl 3 1 Dr,.boxSl 3 3 tI,.boxSl 4 1 .str,.boxSl 4 2 Ew,.boxSl 4 13 A1,.boxSl 4 14 F0,.boxSl 4 15 .str,.boxSl 5 1 .str,.boxSl 5 2 Ew,.boxSl 5 13 A1,.boxRow 5 14 31 F0,.boxRow 5 15 9 .str,.boxSl 6 10 A1,.boxSl 6 11 E4],[(3,.lf (.ptr 0 0)),(4,.lf (.ptr 1 0)),(5,.lf (.ptr 2 0)),(6,.lf (.ptr 3 0)),(7,.lf (.d tI)),(8,.lf (.d .bool)),(9,.lf (.row 4)),(99,.lf (.d (.sl E4))),(100,.lf (.d tI)),(101,.lf (.d tI))],[.box 87 [.d Bdn],.box 36 [.d I5],.box 36 [.d tI,.d yDk,.d .bool,.d Yg,.row 5,.row 6],.box 68 [.d Bkg],.row 9 .str,.row 31 F0,.row 9 .str]⟩,[(3,⟨[.row 9 0 9 .str,.boxSl 3 1 Dr,.boxSl 3 3 tI,.boxSl 4 1 .str,.boxSl 4 2 Ew,.boxSl 4 13 A1,.boxSl 4 14 F0,.boxSl 4 15 .str,.boxSl 5 1 .str,.boxSl 5 2 Ew,.boxSl 5 13 A1,.boxRow 5 14 31 F0,.boxRow 5 15 9 .str,.boxSl 6 10 A1,.boxSl 6 11 E4],[(3,.lf (.ptr 0 0)),(4,.lf (.ptr 1 0)),(5,.lf (.ptr 2 0)),(6,.lf (.ptr 3 0)),(7,.lf (.d tI)),(8,.lf (.d .bool)),(9,.lf (.row 4))],[.box 87 [.d Bdn],.box 36 [.d I5],.box 36 [.d tI,.d yDk,.d .bool,.d Yg,.row 5,.row 6],.box 68 [.d Bkg],.row 9 .str,.row 31 F0,.row 9 .str]⟩)])]
def Apk:Code:=(Ax (Bm Tryz.f45)).getD 0 .skip
def Adc (v7:Int) (v8:Bool) (v99:List Dc) (v100 v101:Int) (b0:T8) (b1:Bo) (b2_0:Int) (b2_1:Dk) (b2_3:Bool) (b2_4:Ez) (b3:Pl) (r4:List Aa) (r5:List Cv) (r6:List Aa):Nat:=(v100 - v101).toNat + 1
def R8 {R:Type}  (NX:((Int)×(Bool)×(List Dc)×(Int)×(Int)×T8×Bo×(Int)×Dk×(Bool)×Ez×Pl×(List Aa)×(List Cv)×(List Aa)×Unit)→Option R) (X3:((Int)×(Bool)×T8×Bo×(Int)×Dk×(Bool)×Ez×Pl×(List Aa)×(List Cv)×(List Aa)×Unit)→Option R) (v7:Int) (v8:Bool) (v99:List Dc) (v100:Int) (v101:Int) (b0:T8) (b1:Bo) (b2_0:Int) (b2_1:Dk) (b2_3:Bool) (b2_4:Ez) (b3:Pl) (r4:List Aa) (r5:List Cv) (r6:List Aa):Option R:=
 bif decide (v101 < v100) then
  bif decide (0≤v101) then
   bif decide (v101 < nI v99.length) then
    bif !(v99.getD v101.toNat (false,0,Ad,())).1 then
     bif decide ((r4.length + [(v99.getD v101.toNat (false,0,Ad,())).2.2.1].length) * 16≤140737488355328) then
      NX (v7,v8,v99,v100,IntKind.i64.wrap (v101 + 1),b0,b1,b2_0,b2_1,b2_3,b2_4,b3,r4++[(v99.getD v101.toNat (false,0,Ad,())).2.2.1],r5,r6,())
     else none
    else NX (v7,v8,v99,v100,IntKind.i64.wrap (v101 + 1),b0,b1,b2_0,b2_1,b2_3,b2_4,b3,r4,r5,r6,())
   else none
  else none
 else X3 (v7,v8,b0,b1,b2_0,b2_1,b2_3,b2_4,b3,r4,r5,r6,())
def Ps:Nat→(Int)→(Bool)→(List Dc)→(Int)→(Int)→T8→Bo→(Int)→Dk→(Bool)→Ez→Pl→(List Aa)→(List Cv)→(List Aa) →  Option ((Int)×(Bool)×T8×Bo×(Int)×Dk×(Bool)×Ez×Pl×(List Aa)×(List Cv)×(List Aa)×Unit)
 | 0,_,_,_,_,_,_,_,_,_,_,_,_,_,_,_=>none
 | m + 1,v7,v8,v99,v100,v101,b0,b1,b2_0,b2_1,b2_3,b2_4,b3,r4,r5,r6=>R8  (fun d=>Ps m d.1 d.2.1 d.2.2.1 d.2.2.2.1 d.2.2.2.2.1 d.2.2.2.2.2.1 d.2.2.2.2.2.2.1 d.2.2.2.2.2.2.2.1 d.2.2.2.2.2.2.2.2.1 d.2.2.2.2.2.2.2.2.2.1 d.2.2.2.2.2.2.2.2.2.2.1 d.2.2.2.2.2.2.2.2.2.2.2.1 d.2.2.2.2.2.2.2.2.2.2.2.2.1 d.2.2.2.2.2.2.2.2.2.2.2.2.2.1 d.2.2.2.2.2.2.2.2.2.2.2.2.2.2.1) (fun d=>some (d)) v7 v8 v99 v100 v101 b0 b1 b2_0 b2_1 b2_3 b2_4 b3 r4 r5 r6
def Pt (d:(Int)×(Bool)×(List Dc)×(Int)×(Int)×T8×Bo×(Int)×Dk×(Bool)×Ez×Pl×(List Aa)×(List Cv)×(List Aa)×Unit):Option ((Int)×(Bool)×T8×Bo×(Int)×Dk×(Bool)×Ez×Pl×(List Aa)×(List Cv)×(List Aa)×Unit):=(u4 (u4 (u4 (Ac (Ac (Ac Ah)))))) (Ps ((u4 (u4 (u4 (Ac (Ac (Ac Ah)))))) Adc d)) d
def J3 (val:((Int)×(Bool)×T8×Bo×(Int)×Dk×(Bool)×Ez×Pl×(List Aa)×(List Cv)×(List Aa)×Unit)):Option (((Bo×Unit)×(Unit))):=
 bif decide (IntKind.i64.wrap (nI val.2.2.2.2.2.2.2.2.2.2.2.1.length + nI val.2.2.2.2.2.2.2.2.2.1.length) > 2000) then
  some
   (((val.2.2.2.2.1,val.2.2.2.2.2.1,val.2.2.2.2.2.2.1,val.2.2.2.2.2.2.2.1,val.2.2.2.2.2.2.2.2.2.2),
     ()),
    ())
 else
  bif val.2.2.1.1==2 then
   bif decide (nI val.2.2.2.2.2.2.2.2.2.2.1.length≥200) then
    some
     (((val.2.2.2.2.1,val.2.2.2.2.2.1,val.2.2.2.2.2.2.1,val.2.2.2.2.2.2.2.1,
        val.2.2.2.2.2.2.2.2.2.2),
       ()),
      ())
   else
    bif decide ((val.2.2.2.2.2.2.2.2.2.2.2.1.length + val.2.2.2.2.2.2.2.2.2.1.length) * 16≤140737488355328) then
     bif val.2.2.1.1==2 then
      ((Br val.2.2.2.2.2.2.2.2.1.2.1.2.2.2.2.2.2.1).bind fun val=>some (val,())).bind fun w0=>
       bif decide ((val.2.2.2.2.2.2.2.2.2.2.1.length + [w0.1].length) * 24≤140737488355328) then
        ((Jk val.2.2.2.2.2.1 val.2.2.2.2.2.2.2.2.1.2.2.1 val.1).bind fun val=>some (val,())).bind fun w1=>
         bif val.2.1 then
          ((D9 w1.1 val.2.2.1.2.2.2.1).bind fun val=>some (val,())).bind fun w2=>
           some
            (((val.2.2.2.2.1,w2.1,false,(0,0,0,(0,0,0,0,()),0,0,([],()),()),
               val.2.2.2.2.2.2.2.2.2.2.1++[w0.1],
               val.2.2.2.2.2.2.2.2.2.2.2.1++val.2.2.2.2.2.2.2.2.2.1,()),
              ()),
             ())
         else
          bif val.2.2.1.1 != 2 then
           ((Br val.2.2.2.2.2.2.2.2.1.2.1.2.2.2.2.2.2.1).bind fun val=>some (val,())).bind fun w2=>
            some
             (((val.2.2.2.2.1,w1.1,true,val.2.2.2.2.2.2.2.2.1.2.1,[w2.1],
                val.2.2.2.2.2.2.2.2.2.2.2.1++val.2.2.2.2.2.2.2.2.2.1,()),
               ()),
              ())
          else
           some
            (((val.2.2.2.2.1,w1.1,true,val.2.2.2.2.2.2.2.2.1.2.1,
               val.2.2.2.2.2.2.2.2.2.2.1++[w0.1],
               val.2.2.2.2.2.2.2.2.2.2.2.1++val.2.2.2.2.2.2.2.2.2.1,()),
              ()),
             ())
       else none
     else
      ((Jk val.2.2.2.2.2.1 val.2.2.2.2.2.2.2.2.1.2.2.1 val.1).bind fun val=>some (val,())).bind fun w0=>
       bif val.2.1 then
        ((D9 w0.1 val.2.2.1.2.2.2.1).bind fun val=>some (val,())).bind fun w1=>
         some
          (((val.2.2.2.2.1,w1.1,false,(0,0,0,(0,0,0,0,()),0,0,([],()),()),val.2.2.2.2.2.2.2.2.2.2.1,
             val.2.2.2.2.2.2.2.2.2.2.2.1++val.2.2.2.2.2.2.2.2.2.1,()),
            ()),
           ())
       else
        bif val.2.2.1.1 != 2 then
         ((Br val.2.2.2.2.2.2.2.2.1.2.1.2.2.2.2.2.2.1).bind fun val=>some (val,())).bind fun w1=>
          some
           (((val.2.2.2.2.1,w0.1,true,val.2.2.2.2.2.2.2.2.1.2.1,[w1.1],
              val.2.2.2.2.2.2.2.2.2.2.2.1++val.2.2.2.2.2.2.2.2.2.1,()),
             ()),
            ())
        else
         some
          (((val.2.2.2.2.1,w0.1,true,val.2.2.2.2.2.2.2.2.1.2.1,val.2.2.2.2.2.2.2.2.2.2.1,
             val.2.2.2.2.2.2.2.2.2.2.2.1++val.2.2.2.2.2.2.2.2.2.1,()),
            ()),
           ())
    else none
  else
   bif decide ((val.2.2.2.2.2.2.2.2.2.2.2.1.length + val.2.2.2.2.2.2.2.2.2.1.length) * 16≤140737488355328) then
    bif val.2.2.1.1==2 then
     ((Br val.2.2.2.2.2.2.2.2.1.2.1.2.2.2.2.2.2.1).bind fun val=>some (val,())).bind fun w0=>
      bif decide ((val.2.2.2.2.2.2.2.2.2.2.1.length + [w0.1].length) * 24≤140737488355328) then
       ((Jk val.2.2.2.2.2.1 val.2.2.2.2.2.2.2.2.1.2.2.1 val.1).bind fun val=>some (val,())).bind fun w1=>
        bif val.2.1 then
         ((D9 w1.1 val.2.2.1.2.2.2.1).bind fun val=>some (val,())).bind fun w2=>
          some
           (((val.2.2.2.2.1,w2.1,false,(0,0,0,(0,0,0,0,()),0,0,([],()),()),val.2.2.2.2.2.2.2.2.2.2.1++[w0.1],
              val.2.2.2.2.2.2.2.2.2.2.2.1++val.2.2.2.2.2.2.2.2.2.1,()),
             ()),
            ())
        else
         bif val.2.2.1.1 != 2 then
          ((Br val.2.2.2.2.2.2.2.2.1.2.1.2.2.2.2.2.2.1).bind fun val=>some (val,())).bind fun w2=>
           some
            (((val.2.2.2.2.1,w1.1,true,val.2.2.2.2.2.2.2.2.1.2.1,[w2.1],
               val.2.2.2.2.2.2.2.2.2.2.2.1++val.2.2.2.2.2.2.2.2.2.1,()),
              ()),
             ())
         else
          some
           (((val.2.2.2.2.1,w1.1,true,val.2.2.2.2.2.2.2.2.1.2.1,val.2.2.2.2.2.2.2.2.2.2.1++[w0.1],
              val.2.2.2.2.2.2.2.2.2.2.2.1++val.2.2.2.2.2.2.2.2.2.1,()),
             ()),
            ())
      else none
    else
     ((Jk val.2.2.2.2.2.1 val.2.2.2.2.2.2.2.2.1.2.2.1 val.1).bind fun val=>some (val,())).bind fun w0=>
      bif val.2.1 then
       ((D9 w0.1 val.2.2.1.2.2.2.1).bind fun val=>some (val,())).bind fun w1=>
        some
         (((val.2.2.2.2.1,w1.1,false,(0,0,0,(0,0,0,0,()),0,0,([],()),()),val.2.2.2.2.2.2.2.2.2.2.1,
            val.2.2.2.2.2.2.2.2.2.2.2.1++val.2.2.2.2.2.2.2.2.2.1,()),
           ()),
          ())
      else
       bif val.2.2.1.1 != 2 then
        ((Br val.2.2.2.2.2.2.2.2.1.2.1.2.2.2.2.2.2.1).bind fun val=>some (val,())).bind fun w1=>
         some
          (((val.2.2.2.2.1,w0.1,true,val.2.2.2.2.2.2.2.2.1.2.1,[w1.1],
             val.2.2.2.2.2.2.2.2.2.2.2.1++val.2.2.2.2.2.2.2.2.2.1,()),
            ()),
           ())
       else
        some
         (((val.2.2.2.2.1,w0.1,true,val.2.2.2.2.2.2.2.2.1.2.1,val.2.2.2.2.2.2.2.2.2.2.1,
            val.2.2.2.2.2.2.2.2.2.2.2.1++val.2.2.2.2.2.2.2.2.2.1,()),
           ()),
          ())
   else none
def Eh (a0:Bo) (a1:T8) (val:(((Int)×Dk×(Bool)×Ez×(List Cv)×(List Aa)×Unit)×(Unit))) (val_1:(((Int)×(Int)×(Int)×(Int)×(Int)×(Int)×(Int)×(Int)×(Int)×(Int)×(List A2)×(List Dc)×Unit)×(Unit))):Option (((Bo×Unit)×(Unit))):=
 bif val_1.1.1 != 0 then some (val,())
 else
  bif A9 a1.2.2.1 0 (nI (List.length val_1.1.2.2.2.2.2.2.2.2.2.2.2.1)) then
   bif decide (0≤a1.2.2.1) then
    bif decide (a1.2.2.1≤nI (List.length val_1.1.2.2.2.2.2.2.2.2.2.2.2.1)) then
     (Pt
        (a1.2.2.1,A9 a1.2.2.1 0 (nI (List.length val_1.1.2.2.2.2.2.2.2.2.2.2.2.1)),
         List.drop (Int.toNat 0) (List.take (Int.toNat a1.2.2.1) val_1.1.2.2.2.2.2.2.2.2.2.2.2.1),
         nI (List.drop (Int.toNat 0) (List.take (Int.toNat a1.2.2.1) val_1.1.2.2.2.2.2.2.2.2.2.2.2.1)).length,0,a1,
         (0,([],[],()),false,(0,0,0,(0,0,0,0,()),0,0,([],()),()),[],[],()),val.1.1,val.1.2.1,val.1.2.2.1,val.1.2.2.2.1,
         (val_1.1.1,
          (val_1.1.2.1,val_1.1.2.2.1,val_1.1.2.2.2.1,
           (val_1.1.2.2.2.2.1,val_1.1.2.2.2.2.2.1,val_1.1.2.2.2.2.2.2.1,val_1.1.2.2.2.2.2.2.2.1,()),
           val_1.1.2.2.2.2.2.2.2.2.1,val_1.1.2.2.2.2.2.2.2.2.2.1,(val_1.1.2.2.2.2.2.2.2.2.2.2.1,()),()),
          val_1.1.2.2.2.2.2.2.2.2.2.2.2),
         [],val.1.2.2.2.2)).bind
      J3
    else none
   else none
  else
   bif decide (nI (List.length val_1.1.2.2.2.2.2.2.2.2.2.2.2.1)≤nI (List.length val_1.1.2.2.2.2.2.2.2.2.2.2.2.1)) then
    (Pt
       (nI (List.length val_1.1.2.2.2.2.2.2.2.2.2.2.2.1),
        A9 a1.2.2.1 0 (nI (List.length val_1.1.2.2.2.2.2.2.2.2.2.2.2.1)),
        List.drop (Int.toNat 0)
         (List.take (nI (List.length val_1.1.2.2.2.2.2.2.2.2.2.2.2.1)).toNat val_1.1.2.2.2.2.2.2.2.2.2.2.2.1),
        nI
         (List.drop (Int.toNat 0)
           (List.take (nI (List.length val_1.1.2.2.2.2.2.2.2.2.2.2.2.1)).toNat val_1.1.2.2.2.2.2.2.2.2.2.2.2.1)).length,
        0,a1,(0,([],[],()),false,(0,0,0,(0,0,0,0,()),0,0,([],()),()),[],[],()),val.1.1,val.1.2.1,val.1.2.2.1,val.1.2.2.2.1,
        (val_1.1.1,
         (val_1.1.2.1,val_1.1.2.2.1,val_1.1.2.2.2.1,
          (val_1.1.2.2.2.2.1,val_1.1.2.2.2.2.2.1,val_1.1.2.2.2.2.2.2.1,val_1.1.2.2.2.2.2.2.2.1,()),
          val_1.1.2.2.2.2.2.2.2.2.1,val_1.1.2.2.2.2.2.2.2.2.2.1,(val_1.1.2.2.2.2.2.2.2.2.2.2.1,()),()),
         val_1.1.2.2.2.2.2.2.2.2.2.2.2),
        [],val.1.2.2.2.2)).bind
     J3
   else none
def Ag2 (a0:Bo) (a1:T8):Option (((Bo×Unit)×(Unit))):=
 bif !M0 a0 then some (((0,([],[],()),false,(0,0,0,(0,0,0,0,()),0,0,([],()),()),[],[],()),()),())
 else
  (N5 a0).bind fun val=>
   bif a1.1==5 then
    ((D9 val.1.2.1 a1.2.2.2.1).bind fun val=>some (val,())).bind fun val_1=>
     some (((val.1.1,val_1.1,false,(0,0,0,(0,0,0,0,()),0,0,([],()),()),val.1.2.2.2.2),()),())
   else
    bif a1.1==1 then
     bif !a0.2.2.1 then
      ((Vb val.1.2.1 val.1.1).bind fun val=>
         some
          ((val.1,val.2.1.1,val.2.1.2.1,val.2.1.2.2.1,val.2.1.2.2.2.1.1,val.2.1.2.2.2.1.2.1,
            val.2.1.2.2.2.1.2.2.1,val.2.1.2.2.2.1.2.2.2.1,val.2.1.2.2.2.2.1,val.2.1.2.2.2.2.2.1,
            val.2.1.2.2.2.2.2.2.1.1,val.2.2),
           ())).bind
       (Eh a0 a1 val)
     else
      bif a1.1==2 then
       bif a0.2.2.1 then
        ((N6 val.1.2.2.2.1 a1.2.1).bind fun val=>
           some
            ((val.1,val.2.1.1,val.2.1.2.1,val.2.1.2.2.1,val.2.1.2.2.2.1.1,val.2.1.2.2.2.1.2.1,
              val.2.1.2.2.2.1.2.2.1,val.2.1.2.2.2.1.2.2.2.1,val.2.1.2.2.2.2.1,val.2.1.2.2.2.2.2.1,
              val.2.1.2.2.2.2.2.2.1.1,val.2.2),
             ())).bind
         (Eh a0 a1 val)
       else
        bif a1.1==3 then
         bif a0.2.2.1 then
          ((Kn val.1.2.2.2.1).bind fun val=>
             some
              ((val.1,val.2.1.1,val.2.1.2.1,val.2.1.2.2.1,val.2.1.2.2.2.1.1,val.2.1.2.2.2.1.2.1,
                val.2.1.2.2.2.1.2.2.1,val.2.1.2.2.2.1.2.2.2.1,val.2.1.2.2.2.2.1,val.2.1.2.2.2.2.2.1,
                val.2.1.2.2.2.2.2.2.1.1,val.2.2),
               ())).bind
           (Eh a0 a1 val)
         else
          bif a1.1==4 then
           bif a0.2.2.1 then
            ((Dy val.1.2.2.2.1).bind fun val=>
               some
                ((val.1,val.2.1.1,val.2.1.2.1,val.2.1.2.2.1,val.2.1.2.2.2.1.1,val.2.1.2.2.2.1.2.1,
                  val.2.1.2.2.2.1.2.2.1,val.2.1.2.2.2.1.2.2.2.1,val.2.1.2.2.2.2.1,val.2.1.2.2.2.2.2.1,
                  val.2.1.2.2.2.2.2.2.1.1,val.2.2),
                 ())).bind
             (Eh a0 a1 val)
           else some (val,())
          else some (val,())
        else
         bif a1.1==4 then
          bif a0.2.2.1 then
           ((Dy val.1.2.2.2.1).bind fun val=>
              some
               ((val.1,val.2.1.1,val.2.1.2.1,val.2.1.2.2.1,val.2.1.2.2.2.1.1,val.2.1.2.2.2.1.2.1,
                 val.2.1.2.2.2.1.2.2.1,val.2.1.2.2.2.1.2.2.2.1,val.2.1.2.2.2.2.1,val.2.1.2.2.2.2.2.1,
                 val.2.1.2.2.2.2.2.2.1.1,val.2.2),
                ())).bind
            (Eh a0 a1 val)
          else some (val,())
         else some (val,())
      else
       bif a1.1==3 then
        bif a0.2.2.1 then
         ((Kn val.1.2.2.2.1).bind fun val=>
            some
             ((val.1,val.2.1.1,val.2.1.2.1,val.2.1.2.2.1,val.2.1.2.2.2.1.1,val.2.1.2.2.2.1.2.1,
               val.2.1.2.2.2.1.2.2.1,val.2.1.2.2.2.1.2.2.2.1,val.2.1.2.2.2.2.1,val.2.1.2.2.2.2.2.1,
               val.2.1.2.2.2.2.2.2.1.1,val.2.2),
              ())).bind
          (Eh a0 a1 val)
        else
         bif a1.1==4 then
          bif a0.2.2.1 then
           ((Dy val.1.2.2.2.1).bind fun val=>
              some
               ((val.1,val.2.1.1,val.2.1.2.1,val.2.1.2.2.1,val.2.1.2.2.2.1.1,val.2.1.2.2.2.1.2.1,
                 val.2.1.2.2.2.1.2.2.1,val.2.1.2.2.2.1.2.2.2.1,val.2.1.2.2.2.2.1,val.2.1.2.2.2.2.2.1,
                 val.2.1.2.2.2.2.2.2.1.1,val.2.2),
                ())).bind
            (Eh a0 a1 val)
          else some (val,())
         else some (val,())
       else
        bif a1.1==4 then
         bif a0.2.2.1 then
          ((Dy val.1.2.2.2.1).bind fun val=>
             some
              ((val.1,val.2.1.1,val.2.1.2.1,val.2.1.2.2.1,val.2.1.2.2.2.1.1,val.2.1.2.2.2.1.2.1,
                val.2.1.2.2.2.1.2.2.1,val.2.1.2.2.2.1.2.2.2.1,val.2.1.2.2.2.2.1,val.2.1.2.2.2.2.2.1,
                val.2.1.2.2.2.2.2.2.1.1,val.2.2),
               ())).bind
           (Eh a0 a1 val)
         else some (val,())
        else some (val,())
    else
     bif a1.1==2 then
      bif a0.2.2.1 then
       ((N6 val.1.2.2.2.1 a1.2.1).bind fun val=>
          some
           ((val.1,val.2.1.1,val.2.1.2.1,val.2.1.2.2.1,val.2.1.2.2.2.1.1,val.2.1.2.2.2.1.2.1,
             val.2.1.2.2.2.1.2.2.1,val.2.1.2.2.2.1.2.2.2.1,val.2.1.2.2.2.2.1,val.2.1.2.2.2.2.2.1,
             val.2.1.2.2.2.2.2.2.1.1,val.2.2),
            ())).bind
        (Eh a0 a1 val)
      else
       bif a1.1==3 then
        bif a0.2.2.1 then
         ((Kn val.1.2.2.2.1).bind fun val=>
            some
             ((val.1,val.2.1.1,val.2.1.2.1,val.2.1.2.2.1,val.2.1.2.2.2.1.1,val.2.1.2.2.2.1.2.1,
               val.2.1.2.2.2.1.2.2.1,val.2.1.2.2.2.1.2.2.2.1,val.2.1.2.2.2.2.1,val.2.1.2.2.2.2.2.1,
               val.2.1.2.2.2.2.2.2.1.1,val.2.2),
              ())).bind
          (Eh a0 a1 val)
        else
         bif a1.1==4 then
          bif a0.2.2.1 then
           ((Dy val.1.2.2.2.1).bind fun val=>
              some
               ((val.1,val.2.1.1,val.2.1.2.1,val.2.1.2.2.1,val.2.1.2.2.2.1.1,val.2.1.2.2.2.1.2.1,
                 val.2.1.2.2.2.1.2.2.1,val.2.1.2.2.2.1.2.2.2.1,val.2.1.2.2.2.2.1,val.2.1.2.2.2.2.2.1,
                 val.2.1.2.2.2.2.2.2.1.1,val.2.2),
                ())).bind
            (Eh a0 a1 val)
          else some (val,())
         else some (val,())
       else
        bif a1.1==4 then
         bif a0.2.2.1 then
          ((Dy val.1.2.2.2.1).bind fun val=>
             some
              ((val.1,val.2.1.1,val.2.1.2.1,val.2.1.2.2.1,val.2.1.2.2.2.1.1,val.2.1.2.2.2.1.2.1,
                val.2.1.2.2.2.1.2.2.1,val.2.1.2.2.2.1.2.2.2.1,val.2.1.2.2.2.2.1,val.2.1.2.2.2.2.2.1,
                val.2.1.2.2.2.2.2.2.1.1,val.2.2),
               ())).bind
           (Eh a0 a1 val)
         else some (val,())
        else some (val,())
     else
      bif a1.1==3 then
       bif a0.2.2.1 then
        ((Kn val.1.2.2.2.1).bind fun val=>
           some
            ((val.1,val.2.1.1,val.2.1.2.1,val.2.1.2.2.1,val.2.1.2.2.2.1.1,val.2.1.2.2.2.1.2.1,
              val.2.1.2.2.2.1.2.2.1,val.2.1.2.2.2.1.2.2.2.1,val.2.1.2.2.2.2.1,val.2.1.2.2.2.2.2.1,
              val.2.1.2.2.2.2.2.2.1.1,val.2.2),
             ())).bind
         (Eh a0 a1 val)
       else
        bif a1.1==4 then
         bif a0.2.2.1 then
          ((Dy val.1.2.2.2.1).bind fun val=>
             some
              ((val.1,val.2.1.1,val.2.1.2.1,val.2.1.2.2.1,val.2.1.2.2.2.1.1,val.2.1.2.2.2.1.2.1,
                val.2.1.2.2.2.1.2.2.1,val.2.1.2.2.2.1.2.2.2.1,val.2.1.2.2.2.2.1,val.2.1.2.2.2.2.2.1,
                val.2.1.2.2.2.2.2.2.1.1,val.2.2),
               ())).bind
           (Eh a0 a1 val)
         else some (val,())
        else some (val,())
      else
       bif a1.1==4 then
        bif a0.2.2.1 then
         ((Dy val.1.2.2.2.1).bind fun val=>
            some
             ((val.1,val.2.1.1,val.2.1.2.1,val.2.1.2.2.1,val.2.1.2.2.2.1.1,val.2.1.2.2.2.1.2.1,
               val.2.1.2.2.2.1.2.2.1,val.2.1.2.2.2.1.2.2.2.1,val.2.1.2.2.2.2.1,val.2.1.2.2.2.2.2.1,
               val.2.1.2.2.2.2.2.2.1.1,val.2.2),
              ())).bind
          (Eh a0 a1 val)
        else some (val,())
       else some (val,())
theorem A5g:∃ f,f=@Ag2:=⟨_,rfl⟩
def Pu:=Classical.choose A5g
theorem A5h:@Pu=@Ag2:=Classical.choose_spec A5g
def A5i:SD:=⟨Bhp,fun x=>Pu x.1 x.2.1⟩
theorem A7s:B8 Tryz.prog 27 Apj:=⟨Auh.1,fun x r h=>Auh.2 x r (by have q:(Vb x.1 x.2.1).bind (fun r=>some ((r.1,r.2.1.1,r.2.1.2.1,r.2.1.2.2.1,r.2.1.2.2.2.1.1,r.2.1.2.2.2.1.2.1,r.2.1.2.2.2.1.2.2.1,r.2.1.2.2.2.1.2.2.2.1,r.2.1.2.2.2.2.1,r.2.1.2.2.2.2.2.1,r.2.1.2.2.2.2.2.2.1.1,r.2.2.1,()),(())))=some r:=h; rw [Api] at q; exact q)⟩
theorem A0b:B8 Tryz.prog 33 Ah3:=⟨n7.1,fun x r h=>n7.2 x r (by have q:(N6 x.1 x.2.1).bind (fun r=>some ((r.1,r.2.1.1,r.2.1.2.1,r.2.1.2.2.1,r.2.1.2.2.2.1.1,r.2.1.2.2.2.1.2.1,r.2.1.2.2.2.1.2.2.1,r.2.1.2.2.2.1.2.2.2.1,r.2.1.2.2.2.2.1,r.2.1.2.2.2.2.2.1,r.2.1.2.2.2.2.2.2.1.1,r.2.2.1,()),(())))=some r:=h; rw [Ah2] at q; exact q)⟩
theorem A5j:B8 Tryz.prog 34 Alk:=⟨Apg.1,fun x r h=>Apg.2 x r (by have q:(Kn x.1).bind (fun r=>some ((r.1,r.2.1.1,r.2.1.2.1,r.2.1.2.2.1,r.2.1.2.2.2.1.1,r.2.1.2.2.2.1.2.1,r.2.1.2.2.2.1.2.2.1,r.2.1.2.2.2.1.2.2.2.1,r.2.1.2.2.2.2.1,r.2.1.2.2.2.2.2.1,r.2.1.2.2.2.2.2.2.1.1,r.2.2.1,()),(())))=some r:=h; rw [Alj] at q; exact q)⟩
theorem Axc:B8 Tryz.prog 35 Ae6:=⟨Ahy.1,fun x r h=>Ahy.2 x r (by have q:(Dy x.1).bind (fun r=>some ((r.1,r.2.1.1,r.2.1.2.1,r.2.1.2.2.1,r.2.1.2.2.2.1.1,r.2.1.2.2.2.1.2.1,r.2.1.2.2.2.1.2.2.1,r.2.1.2.2.2.1.2.2.2.1,r.2.1.2.2.2.2.1,r.2.1.2.2.2.2.2.1,r.2.1.2.2.2.2.2.2.1.1,r.2.2.1,()),(())))=some r:=h; rw [Ae5] at q; exact q)⟩
theorem Arn:B8 Tryz.prog 60 x5:=⟨Aby.1,fun x r h=>Aby.2 x r (by have q:(D9 x.1 x.2.1).bind (fun r=>some ((r.1,r.2.1,()),(())))=some r:=h; rw [Tc] at q; exact q)⟩
theorem Bp1 (v7:Int) (v8:Bool) (b0:T8) (b1:Bo) (b2_0:Int) (b2_1:Dk) (b2_3:Bool) (b2_4:Ez) (b3:Pl) (r5:List Cv) (r6:List Aa) (v:List Dc) (hv:v.length≤1073741824):∀ (k m i:Nat) (l:List Aa),i + k=v.length→k < m→l.length + k≤4000000000→l=Db (v.take i)→
  Av (Ps m v7 v8 v (nI v.length) i b0 b1 b2_0 b2_1 b2_3 b2_4 b3 l r5 r6) fun q=>q=(v7,v8,b0,b1,b2_0,b2_1,b2_3,b2_4,b3,Db v,r5,r6,()):=by
 intro k
 induction k with
 | zero=>
  intro m i l hi hm hl he
  cases m with
  | zero=>omega
  | succ m=>
   simp only [Ps,R8]
   rw [he,List.take_of_length_le (by omega)]
   exact Av.no (Bd (by simp only [nI]; omega)) (Av.some rfl)
 | succ k ih=>
  intro m i l hi hm hl he
  cases m with
  | zero=>omega
  | succ m=>
   have e1:IntKind.i64.wrap ((i:Int) + 1)=((i + 1:Nat):Int):=wI (by omega)
   have d:decide ((i:Int) < nI v.length)=true:=Af (by simp only [nI]; omega)
   have hs:=Bpn (v.take i) (v.getD i zOp)
   rw [← A34 (by omega),← he] at hs
   simp only [Ps,R8,e1,d,J1,cond_true]
   have hz:v.getD (Int.toNat (i:Int)) (false,0,Ad,())=v.getD i zOp:=rfl
   rw [hz]
   cases hc:(v.getD i zOp).1 with
   | true=>
    rw [hc] at hs
    refine Av.no rfl (ih m (i + 1) l (by omega) (by omega) (by omega) ?_)
    rw [hs]
    exact (List.append_nil l).symm
   | false=>
    rw [hc] at hs
    exact Av.go rfl (Av.go (Af (by first | omega | (simp only [En]; omega))) (ih m (i + 1) _ (by omega) (by omega) (by rw [Dn,En]; omega) hs.symm))
theorem Bp2 {w:Bo} {e:T8} {x:Pl} (hv:B7 w=true) (hx:XOk x) {n:Int} {cut:Bool} (hc:Wf e x=cut) (hn:Vr e x=n) (zW:Bo):
  Av (J3 (n,cut,e,zW,w.1,w.2.1,w.2.2.1,w.2.2.2.1,x,Db (x.2.2.1.take n.toNat),w.2.2.2.2.1,w.2.2.2.2.2.1,())) fun q=>q.1.1=Cc w e x:=by
 have hl:=(Asz hv).2.1
 have hp:=(Asz hv).2.2
 have hd:=Ki (Asz hv).1
 have ho:=hx.ops
 have hwl:(Db (x.2.2.1.take n.toNat)).length≤1073741824:=by
  unfold Db
  rw [List.length_map]
  refine Nat.le_trans (List.length_filter_le _ _) ?_
  rw [List.length_take]
  omega
 have hW:w.2.2.2.2.2.1++Db (x.2.2.1.take n.toNat)=Gs w e x:=by unfold Gs; rw [hn]
 have hWl:(Gs w e x).length=w.2.2.2.2.2.1.length + (Db (x.2.2.1.take n.toNat)).length:=by rw [← hW,Dn]
 have hst:=Cb hx.s
 have ecs:Br x.2.1.2.2.2.2.2.2.1=some x.2.1.2.2.2.2.2.2.1:=if_pos (Nat.le_trans hst (by decide))
 have epf:Jk w.2.1 x.2.2.1 n=some (B9 w.2.1 x.2.2.1 n):=if_pos (by omega)
 have epl:∀ d:Dk,D9 d e.2.2.2.1=some (Eo d e.2.2.2.1):=fun d=>by rw [Tc]; rfl
 unfold J3
 dsimp only
 rw [show IntKind.i64.wrap (nI w.2.2.2.2.2.1.length + nI (Db (x.2.2.1.take n.toNat)).length)=((Gs w e x).length:Int) by rw [hWl]; simp only [nI]; rw [Aj (by omega) (by omega)]; omega,ecs,epf,hW]
 refine Av.cond (fun d1=>Av.some ?_) fun d1=>?_
 ·have d1:=G8 d1
  exact (Agi (w:=w) (Agj (Af (by omega)) rfl)).symm
 ·have d1:=of_decide_eq_false d1
  have d1':decide ((Gs w e x).length > 2000)=false:=Bd (by omega)
  cases hk:(e.1==2) with
  | true=>
   have hpe:w.2.2.2.2.1++[x.2.1.2.2.2.2.2.2.1]=E7 w e x:=by unfold E7; rw [hk]; rfl
   have hpl:(E7 w e x).length=w.2.2.2.2.1.length + 1:=by rw [← hpe,Dn,En]
   refine Av.go rfl (Av.cond (fun d2=>Av.some ?_) fun d2=>?_)
   ·have d2:=G8 d2
    simp only [nI] at d2
    exact (Agi (w:=w) (by rw [Agj d1' (Af (by omega)),Bool.or_true])).symm
   ·have d2:=of_decide_eq_false d2
    simp only [nI] at d2
    have hf:Om w e x=false:=by rw [Agj d1' (Bd (by omega))]; rfl
    refine Av.go (Af (by rw [hWl] at d1; omega)) (Av.go rfl ?_)
    refine Av.bind ⟨_,rfl,rfl⟩ fun a ha=>?_
    subst ha
    refine Av.go (Af (by first | omega | (simp only [En]; omega))) ?_
    refine Av.bind ⟨_,rfl,rfl⟩ fun a ha=>?_
    subst ha
    dsimp only
    rw [hpe]
    cases cut with
    | true=>
     refine Av.go rfl ?_
     rw [epl]
     refine Av.some ?_
     rw [Awb hf hc,hn]
     rfl
    | false=>
     have hne:(e.1 != 2)=false:=by rw [bne,hk]; rfl
     rw [hne]
     refine Av.no rfl (Av.no rfl (Av.some ?_))
     rw [A33 hf hc,hn,hk]
     rfl
  | false=>
   have hpe:w.2.2.2.2.1=E7 w e x:=by unfold E7; rw [hk]; rfl
   have hf:Om w e x=false:=by rw [Agj d1' (Bd (by rw [← hpe]; omega))]; rfl
   refine Av.no rfl (Av.go (Af (by rw [hWl] at d1; omega)) (Av.no rfl ?_))
   refine Av.bind ⟨_,rfl,rfl⟩ fun a ha=>?_
   subst ha
   dsimp only
   rw [hpe]
   cases cut with
   | true=>
    refine Av.go rfl ?_
    rw [epl]
    refine Av.some ?_
    rw [Awb hf hc,hn]
    rfl
   | false=>
    have hne:(e.1 != 2)=true:=by rw [bne,hk]; rfl
    rw [hne]
    refine Av.no rfl (Av.go rfl (Av.some ?_))
    rw [A33 hf hc,hn,hk]
    rfl
theorem Bb2 {w:Bo} {e:T8} {x:Pl} (hv:B7 w=true) (hx:XOk x) (hS:Ou w e=bif x.1 != 0 then w else Cc w e x) (zW:Bo):
  Av (bif x.1 != 0 then some ((w,()),()) else
   bif A9 e.2.2.1 0 (nI x.2.2.1.length) then
    bif decide (0≤e.2.2.1) then bif decide (e.2.2.1≤nI x.2.2.1.length) then
     (Pt (e.2.2.1,A9 e.2.2.1 0 (nI x.2.2.1.length),List.drop (Int.toNat 0) (List.take (Int.toNat e.2.2.1) x.2.2.1),nI (List.drop (Int.toNat 0) (List.take (Int.toNat e.2.2.1) x.2.2.1)).length,0,e,zW,w.1,w.2.1,w.2.2.1,w.2.2.2.1,x,[],w.2.2.2.2.1,w.2.2.2.2.2.1,())).bind J3
    else none else none
   else
    bif decide (nI x.2.2.1.length≤nI x.2.2.1.length) then
     (Pt (nI x.2.2.1.length,A9 e.2.2.1 0 (nI x.2.2.1.length),List.drop (Int.toNat 0) (List.take (nI x.2.2.1.length).toNat x.2.2.1),nI (List.drop (Int.toNat 0) (List.take (nI x.2.2.1.length).toNat x.2.2.1)).length,0,e,zW,w.1,w.2.1,w.2.2.1,w.2.2.2.1,x,[],w.2.2.2.2.1,w.2.2.2.2.2.1,())).bind J3
    else none) fun q=>q.1.1=Ou w e:=by
 rw [hS]
 have ho:=hx.ops
 have e0:A9 e.2.2.1 0 (nI x.2.2.1.length)=Wf e x:=rfl
 rw [e0]
 have go:∀ (n:Int) (cut:Bool),Wf e x=cut→Vr e x=n→Av ((Pt (n,cut,List.drop (Int.toNat 0) (List.take (Int.toNat n) x.2.2.1),nI (List.drop (Int.toNat 0) (List.take (Int.toNat n) x.2.2.1)).length,0,e,zW,w.1,w.2.1,w.2.2.1,w.2.2.2.1,x,[],w.2.2.2.2.1,w.2.2.2.2.2.1,())).bind J3) fun q=>q.1.1=Cc w e x:=fun n cut h1 h2=>by
  rw [show List.drop (Int.toNat 0) (List.take (Int.toNat n) x.2.2.1)=x.2.2.1.take n.toNat from rfl]
  have hlt:(x.2.2.1.take n.toNat).length≤1073741824:=by rw [List.length_take]; omega
  refine Av.bind (Bp1 n cut e zW w.1 w.2.1 w.2.2.1 w.2.2.2.1 x w.2.2.2.2.1 w.2.2.2.2.2.1 (x.2.2.1.take n.toNat) hlt (x.2.2.1.take n.toNat).length _ 0 [] (by omega) (by simp only [Adc,nI]; omega) (by simp only [List.length_nil]; omega) rfl) fun q hq=>?_
  rw [hq]
  exact Bp2 hv hx h1 h2 zW
 refine Av.cond (fun c=>Av.some (by rw [c]; rfl)) fun c=>?_
 rw [show (bif x.1 != 0 then w else Cc w e x)=Cc w e x by rw [c]; rfl]
 cases hcut:Wf e x with
 | true=>
  obtain ⟨c1,c2⟩:=B2 (show (decide (0≤e.2.2.1)&&decide (e.2.2.1≤(x.2.2.1.length:Int)))=true from hcut)
  exact Av.go rfl (Av.go c1 (Av.go c2 (go _ _ hcut (by unfold Vr; rw [hcut]; rfl))))
 | false=>exact Av.no rfl (Av.go (Af (Int.le_refl _)) (go _ _ hcut (by unfold Vr; rw [hcut]; rfl)))
theorem Axd {w:Bo} (hv:B7 w=true) (h40:w.2.1.1.length≤40) (e:T8):Av (Pu w e) fun q=>q.1.1=Ou w e:=by
 have hw:=Bkw hv h40
 rw [A5h]
 unfold Ag2
 have e0:M0 w=B7 w:=rfl
 rw [e0,hv]
 refine Av.no rfl (Av.bind (Bnz (Bkv hv)) fun q hq=>?_)
 obtain ⟨q,⟨⟩⟩:=q
 have hq:q=w:=hq
 subst hq
 have epl:∀ d:Dk,D9 d e.2.2.2.1=some (Eo d e.2.2.2.1):=fun d=>by rw [Tc]; rfl
 have eop:Vb q.2.1 q.1=some (L8 q.2.1 q.1):=by rw [Api]; rfl
 have eco:N6 q.2.2.2.1 e.2.1=some (Bs q.2.2.2.1 e.2.1):=by rw [Ah2]; rfl
 have efl:Kn q.2.2.2.1=some (Kk q.2.2.2.1):=by rw [Alj]; rfl
 have ecm:Dy q.2.2.2.1=some (F1 q.2.2.2.1):=by rw [Ae5]; rfl
 by_cases h5:e.1=5
 ·have k5:(e.1==5)=true:=beq_iff_eq.2 h5
  have hS:Ou q e=j7 q e.2.2.2.1:=by unfold Ou; rw [k5]; rfl
  rw [hS,k5]
  refine Av.go rfl ?_
  rw [epl]
  exact Av.some rfl
 ·have k5:(e.1==5)=false:=beq_eq_false_iff_ne.2 h5
  have hS0:Ou q e=bif !(Ih q e).2 || (Ih q e).1.1 != 0 then q else Cc q e (Ih q e).1:=by unfold Ou; rw [k5]; rfl
  have hX:=XOk.calls hw e
  have none_:(Ih q e).2=false→Ou q e=q:=fun h=>by rw [hS0,h]; rfl
  have some_:∀ x,Ih q e=(x,true)→Ou q e=bif x.1 != 0 then q else Cc q e x:=fun x h=>by rw [hS0,h]; rfl
  by_cases h1:e.1=1
  ·have k1:(e.1==1)=true:=beq_iff_eq.2 h1
   have k2:(e.1==2)=false:=beq_eq_false_iff_ne.2 (by omega)
   have k3:(e.1==3)=false:=beq_eq_false_iff_ne.2 (by omega)
   have k4:(e.1==4)=false:=beq_eq_false_iff_ne.2 (by omega)
   cases hu:q.2.2.1 with
   | true=>
    simp only [k5,k1,k2,k3,k4,hu,cond_true,cond_false,Bool.not_true,Bool.not_false]
    exact Av.some (none_ (by unfold Ih; rw [k1,hu]; rfl)).symm
   | false=>
    simp only [k5,k1,k2,k3,k4,hu,cond_true,cond_false,Bool.not_true,Bool.not_false,eop,Option.bind_some]
    have hc:Ih q e=(L8 q.2.1 q.1,true):=by unfold Ih; rw [k1,hu]; rfl
    have:=Bb2 hv (x:=L8 q.2.1 q.1) (by rw [hc] at hX; exact hX) (some_ _ hc) (0,([],[],()),false,(0,0,0,(0,0,0,0,()),0,0,([],()),()),[],[],())
    exact this
  ·have k1:(e.1==1)=false:=beq_eq_false_iff_ne.2 h1
   cases hu:q.2.2.1 with
   | false=>
    have hn:(Ih q e).2=false:=by
     unfold Ih
     rw [k1,hu]
     cases (e.1==2)<;>cases (e.1==3)<;>cases (e.1==4)<;>rfl
    simp only [k5,k1,hu,cond_true,cond_false,Bool.not_true,Bool.not_false]
    refine Av.cond (fun _=>Av.cond (fun _=>Av.cond (fun _=>Av.some (none_ hn).symm) fun _=>Av.some (none_ hn).symm) fun _=>Av.cond (fun _=>Av.some (none_ hn).symm) fun _=>Av.some (none_ hn).symm) fun _=>Av.cond (fun _=>Av.cond (fun _=>Av.some (none_ hn).symm) fun _=>Av.some (none_ hn).symm) fun _=>Av.cond (fun _=>Av.some (none_ hn).symm) fun _=>Av.some (none_ hn).symm
   | true=>
    by_cases h2:e.1=2
    ·have k2:(e.1==2)=true:=beq_iff_eq.2 h2
     simp only [k5,k1,k2,hu,cond_true,cond_false,Bool.not_true,Bool.not_false,eco,Option.bind_some]
     have hc:Ih q e=(Bs q.2.2.2.1 e.2.1,true):=by unfold Ih; rw [k1,k2,hu]; rfl
     have:=Bb2 hv (x:=Bs q.2.2.2.1 e.2.1) (by rw [hc] at hX; exact hX) (some_ _ hc) (0,([],[],()),false,(0,0,0,(0,0,0,0,()),0,0,([],()),()),[],[],())
     exact this
    ·have k2:(e.1==2)=false:=beq_eq_false_iff_ne.2 h2
     by_cases h3:e.1=3
     ·have k3:(e.1==3)=true:=beq_iff_eq.2 h3
      simp only [k5,k1,k2,k3,hu,cond_true,cond_false,Bool.not_true,Bool.not_false,efl,Option.bind_some]
      have hc:Ih q e=(Kk q.2.2.2.1,true):=by unfold Ih; rw [k1,k2,k3,hu]; rfl
      have:=Bb2 hv (x:=Kk q.2.2.2.1) (by rw [hc] at hX; exact hX) (some_ _ hc) (0,([],[],()),false,(0,0,0,(0,0,0,0,()),0,0,([],()),()),[],[],())
      exact this
     ·have k3:(e.1==3)=false:=beq_eq_false_iff_ne.2 h3
      by_cases h4:e.1=4
      ·have k4:(e.1==4)=true:=beq_iff_eq.2 h4
       simp only [k5,k1,k2,k3,k4,hu,cond_true,cond_false,Bool.not_true,Bool.not_false,ecm,Option.bind_some]
       have hc:Ih q e=(F1 q.2.2.2.1,true):=by unfold Ih; rw [k1,k2,k3,k4,hu]; rfl
       have:=Bb2 hv (x:=F1 q.2.2.2.1) (by rw [hc] at hX; exact hX) (some_ _ hc) (0,([],[],()),false,(0,0,0,(0,0,0,0,()),0,0,([],()),()),[],[],())
       exact this
      ·have k4:(e.1==4)=false:=beq_eq_false_iff_ne.2 h4
       simp only [k5,k1,k2,k3,k4,hu,cond_true,cond_false,Bool.not_true,Bool.not_false]
       exact Av.some (none_ (by unfold Ih; rw [k1,k2,k3,k4]; rfl)).symm
def Apl {R:Type} (k:Kt R):=(L7 (W3 26) (.exit 1) 3 k)
def A9u {R:Type}:Lt R W3:=(Fp (pat:=W3) 26 (fun d k=>(Pt d).bind (Apl k)) Ik)
theorem A5k:A5 Tryz.prog A5f:=Bb ⟨A7s,A0b,A5j,Axc,Arn,Arl,D4,A0a,P4,Aun,trivial⟩
theorem A7t {R:Type}:Ba Tryz.prog R 182 0 W3 A9u Apk:=
 Cn (cfg:=⟨A5f,0,182,W3⟩) 26 [] (fun NX X (d:(Int)×(Bool)×(List Dc)×(Int)×(Int)×T8×Bo×(Int)×Dk×(Bool)×Ez×Pl×(List Aa)×(List Cv)×(List Aa)×Unit)=>(u4 (u4 (u4 (Ac (Ac (Ac Ah)))))) (R8  NX X) d) (fun m d=>(u4 (u4 (u4 (Ac (Ac (Ac Ah)))))) (Ps m) d) (fun d=>(u4 (u4 (u4 (Ac (Ac (Ac Ah)))))) Adc d) Apl A5k trivial (fun f NX (d:(Int)×(Bool)×(List Dc)×(Int)×(Int)×T8×Bo×(Int)×Dk×(Bool)×Ez×Pl×(List Aa)×(List Cv)×(List Aa)×Unit)=>by simp only [u4,Ac,Ah]; unfold R8; simp only [nb])
theorem Bhq:B8 Tryz.prog 45 A5i:=
 A7 (pat:=W3) [Apk] A9u A5k ⟨A7t,trivial⟩ Tryz.func45 (de:=fun x=>Ag2 x.1 x.2.1) (fun x r h=>by have q:Pu x.1 x.2.1=some r:=h; rw [A5h] at q; exact q) fun _=>by kernel_rfl
def A5l:Hh:=⟨[.rd (.sl (.int .u8))],[none],[.bx 176 (.pair (.sl (.int .u8)) (.pair tI .unit))],[none]⟩
def Vc (a0:List Int):Option (((((List Int)×Int×Unit)×Unit)×(Unit))):=
 bif decide (nI a0.length > 2000) then bif decide (2000≤nI a0.length) then some (((List.drop (Int.toNat 0) (List.take (Int.toNat 2000) a0),0,()),()),()) else none else some (((a0,0,()),()),())
theorem All:∃ f,f=@Vc:=⟨_,rfl⟩
def R9:=Classical.choose All
theorem Alm:@R9=@Vc:=Classical.choose_spec All
def Aln:SD:=⟨A5l,fun x=>R9 x.1⟩
theorem Bp3 (b:List Int) (h:Ajs (.sl (.int .u8)) b):Av (R9 b) fun r=>RdK 0 r.1.1:=by
 obtain ⟨_,h⟩:=h
 have hb:∀ l:List Int,(∀ x∈l,x∈b)→l.length≤2000→rdB l=true:=fun l h1 h2=>by
  unfold rdB
  rw [Af h2,Bool.true_and,List.all_eq_true]
  intro x hx
  obtain ⟨i,hi,e⟩:=List.getElem_of_mem (h1 x hx)
  have q:=h i x (by rw [← e]; exact List.getElem?_eq_getElem hi)
  have q:(Lit.int .u8 x).wf=true:=q
  simp only [Lit.wf,Bool.and_eq_true,decide_eq_true_eq] at q
  simp only [Bool.and_eq_true,decide_eq_true_eq]
  have q1:(0:Int)≤x:=q.1
  have q2:x≤255:=q.2
  omega
 rw [Alm]
 unfold Vc
 refine Av.cond (fun c=>?_) fun c=>?_
 ·simp only [decide_eq_true_eq,nI] at c
  refine Av.go (Af (by simp only [nI]; omega)) (Av.some ⟨hb _ (fun x hx=>List.mem_of_mem_take (List.mem_of_mem_drop hx)) ?_,Int.le_refl 0,Int.le_refl 0⟩)
  simp only [List.drop_zero,List.length_take,Int.toNat_zero]
  omega
 ·simp only [decide_eq_false_iff_not,nI] at c
  exact Av.some ⟨hb _ (fun x hx=>hx) (by show b.length≤2000; omega),Int.le_refl 0,Int.le_refl 0⟩
theorem A5m:B8 Tryz.prog 61 Aln:=
 A7 (pat:=Ei) [] Ik (Bb (l:=[]) trivial) trivial Tryz.func61 (de:=fun x=>Vc x.1) (fun x r h=>by have q:R9 x.1=some r:=h; rw [Alm] at q; exact q) fun _=>by kernel_rfl
def Auo (b:List Int) (p:Int):Int:=IntKind.i64.wrap (IntKind.i64.wrap (IntKind.i64.wrap (IntKind.i64.wrap (IntKind.i64.wrap (b.getD (p.tmod (nI b.length)).toNat 0) * 131) + IntKind.i64.wrap (IntKind.i64.wrap (b.getD ((IntKind.i64.wrap (IntKind.i64.wrap (p * 7) + 3)).tmod (nI b.length)).toNat 0) * 1117)) + IntKind.i64.wrap (p * 29)) + IntKind.i64.wrap (IntKind.i64.wrap (p.tdiv (nI b.length)) * 53))
def A5n (b:List Int) (p n:Int):Int:=bif decide (n < 1) then 0 else bif nI b.length==0 then 0 else bif decide (p < nI b.length) then (IntKind.i64.wrap (b.getD p.toNat 0)).tmod n else
 (IntKind.i64.wrap (nI (BitVec.ofInt 64 (Auo b p) ^^^ BitVec.ofInt 64 (IntKind.i64.wrap ((Auo b p).tdiv 64))).toNat)).tmod n
theorem Bji:∃ f:Rd→Int→Option (Int×Rd),f=fun r n=>if rdB r.1=true∧0≤r.2.1∧r.2.1 < 1099511627776 then some (A5n r.1 r.2.1 n,(r.1,r.2.1 + 1,())) else none:=⟨_,rfl⟩
def Ab (r:Rd) (n:Int):Option (Int×Rd):=Classical.choose Bji r n
theorem Bjj (r:Rd) (n:Int):Ab r n=if rdB r.1=true∧0≤r.2.1∧r.2.1 < 1099511627776 then some (A5n r.1 r.2.1 n,(r.1,r.2.1 + 1,())) else none:=by
 unfold Ab
 rw [Classical.choose_spec Bji]
def Aro:Hh:=⟨[.bx 176 (.pair (.sl (.int .u8)) (.pair tI .unit)),.rd tI],[none,none],[.rd tI],[none]⟩
def Ff:SD:=⟨Aro,fun x=>(Ab x.1 x.2.1).bind fun r=>some ((r.1,()),(r.2,()))⟩
def Td (a0:(List Int)×Int×Unit) (a1:Int):Option ((((Int)×Unit)×(((List Int)×Int×Unit)×Unit))):=
 bif decide (a1 < 1) then some ((0,()),(a0.1,IntKind.i64.wrap (a0.2.1 + 1),()),()) else bif nI (List.length a0.1)==0 then some ((0,()),(a0.1,IntKind.i64.wrap (a0.2.1 + 1),()),()) else bif decide (IntKind.i64.wrap (IntKind.i64.wrap (a0.2.1 + 1) - 1) < nI (List.length a0.1)) then bif decide (0≤IntKind.i64.wrap (IntKind.i64.wrap (a0.2.1 + 1) - 1)) then bif decide (IntKind.i64.wrap (IntKind.i64.wrap (a0.2.1 + 1) - 1) < nI (List.length a0.1)) then bif !decide (a1=0) then some (((IntKind.i64.wrap (List.getD a0.1 (IntKind.i64.wrap (IntKind.i64.wrap (a0.2.1 + 1) - 1)).toNat 0)).tmod a1,()),(a0.1,IntKind.i64.wrap (a0.2.1 + 1),()),()) else none else none else none else bif !decide (nI (List.length a0.1)=0) then bif decide (0≤(IntKind.i64.wrap (IntKind.i64.wrap (a0.2.1 + 1) - 1)).tmod (nI (List.length a0.1))) then bif decide ((IntKind.i64.wrap (IntKind.i64.wrap (a0.2.1 + 1) - 1)).tmod (nI (List.length a0.1)) < nI (List.length a0.1)) then bif !decide (nI (List.length a0.1)=0) then bif decide (0≤(IntKind.i64.wrap (IntKind.i64.wrap (IntKind.i64.wrap (IntKind.i64.wrap (a0.2.1 + 1) - 1) * 7) + 3)).tmod (nI (List.length a0.1))) then bif decide ((IntKind.i64.wrap (IntKind.i64.wrap (IntKind.i64.wrap (IntKind.i64.wrap (a0.2.1 + 1) - 1) * 7) + 3)).tmod (nI (List.length a0.1)) < nI (List.length a0.1)) then bif !decide (nI (List.length a0.1)=0) then bif !decide (a1=0) then some (((IntKind.i64.wrap (nI (BitVec.ofInt 64 (IntKind.i64.wrap (IntKind.i64.wrap (IntKind.i64.wrap (IntKind.i64.wrap (IntKind.i64.wrap (List.getD a0.1 ((IntKind.i64.wrap (IntKind.i64.wrap (a0.2.1 + 1) - 1)).tmod (nI (List.length a0.1))).toNat 0) * 131) + IntKind.i64.wrap (IntKind.i64.wrap (List.getD a0.1 ((IntKind.i64.wrap (IntKind.i64.wrap (IntKind.i64.wrap (IntKind.i64.wrap (a0.2.1 + 1) - 1) * 7) + 3)).tmod (nI (List.length a0.1))).toNat 0) * 1117)) + IntKind.i64.wrap (IntKind.i64.wrap (IntKind.i64.wrap (a0.2.1 + 1) - 1) * 29)) + IntKind.i64.wrap (IntKind.i64.wrap ((IntKind.i64.wrap (IntKind.i64.wrap (a0.2.1 + 1) - 1)).tdiv (nI (List.length a0.1))) * 53))) ^^^ BitVec.ofInt 64 (IntKind.i64.wrap ((IntKind.i64.wrap (IntKind.i64.wrap (IntKind.i64.wrap (IntKind.i64.wrap (IntKind.i64.wrap (List.getD a0.1 ((IntKind.i64.wrap (IntKind.i64.wrap (a0.2.1 + 1) - 1)).tmod (nI (List.length a0.1))).toNat 0) * 131) + IntKind.i64.wrap (IntKind.i64.wrap (List.getD a0.1 ((IntKind.i64.wrap (IntKind.i64.wrap (IntKind.i64.wrap (IntKind.i64.wrap (a0.2.1 + 1) - 1) * 7) + 3)).tmod (nI (List.length a0.1))).toNat 0) * 1117)) + IntKind.i64.wrap (IntKind.i64.wrap (IntKind.i64.wrap (a0.2.1 + 1) - 1) * 29)) + IntKind.i64.wrap (IntKind.i64.wrap ((IntKind.i64.wrap (IntKind.i64.wrap (a0.2.1 + 1) - 1)).tdiv (nI (List.length a0.1))) * 53))).tdiv 64))).toNat)).tmod a1,()),(a0.1,IntKind.i64.wrap (a0.2.1 + 1),()),()) else none else none else none else none else none else none else none else none
theorem Bn0 {b:List Int} {p:Int} (hb:rdB b=true) (h0:0≤p) (h1:p < 1099511627776) (hn:0 < b.length):0≤Auo b p∧Auo b p < 1125899906842624:=by
 have c1:=Bg1 hb (p.tmod (nI b.length)).toNat
 have c2:=Bg1 hb ((IntKind.i64.wrap (IntKind.i64.wrap (p * 7) + 3)).tmod (nI b.length)).toNat
 have c3:0≤p.tdiv (nI b.length)∧p.tdiv (nI b.length)≤p:=by
  rw [Int.tdiv_eq_ediv_of_nonneg h0]
  exact ⟨Int.ediv_nonneg h0 (by simp [nI]),Int.ediv_le_self _ h0⟩
 unfold Auo
 generalize b.getD (p.tmod (nI b.length)).toNat 0=x at *
 generalize b.getD ((IntKind.i64.wrap (IntKind.i64.wrap (p * 7) + 3)).tmod (nI b.length)).toNat 0=y at *
 generalize p.tdiv (nI b.length)=z at *
 rw [Aj (n:=x) (by omega) (by omega),Aj (n:=y) (by omega) (by omega),Aj (n:=z) (by omega) (by omega),Aj (n:=y * 1117) (by omega) (by omega),Aj (n:=x * 131) (by omega) (by omega),Aj (n:=p * 29) (by omega) (by omega),Aj (n:=z * 53) (by omega) (by omega),Aj (n:=x * 131 + y * 1117) (by omega) (by omega),Aj (n:=x * 131 + y * 1117 + p * 29) (by omega) (by omega),Aj (by omega) (by omega)]
 omega
theorem Bn1 {b:List Int} {p n:Int} (hb:rdB b=true) (h0:0≤p) (h1:p < 1099511627776):0≤A5n b p n∧(1≤n→A5n b p n < n)∧(n < 1→A5n b p n=0):=by
 unfold A5n
 by_cases hn:n < 1
 ·rw [Af hn]
  exact ⟨Int.le_refl 0,fun q=>by omega,fun _=>rfl⟩
 ·rw [Bd hn,cond_false]
  refine ⟨?_,fun _=>?_,fun q=>absurd q hn⟩
  all_goals
   by_cases hl:b.length=0
   ·rw [show (nI b.length==0)=true by simp [nI,hl]]
    simp only [cond_true]
    omega
   ·rw [show (nI b.length==0)=false by simp only [nI,beq_eq_false_iff_ne]; omega,cond_false]
    by_cases hp:p < nI b.length
    ·rw [Af hp,cond_true]
     have c:=Bg1 hb p.toNat
     rw [Aj (by omega) (by omega)]
     have:=A1u (x:=b.getD p.toNat 0) (n:=n) c.1 (by omega)
     omega
    ·rw [Bd hp,cond_false]
     obtain ⟨x0,x1⟩:=Bn0 hb h0 h1 (by omega)
     have t:0≤(Auo b p).tdiv 64∧(Auo b p).tdiv 64≤Auo b p:=by
      rw [Int.tdiv_eq_ediv_of_nonneg x0]
      omega
     rw [Aj (n:=(Auo b p).tdiv 64) (by omega) (by omega)]
     have:=A1u (n:=n) (Bkq x0 (by omega) t.1 (by omega)) (by omega)
     omega
theorem Bp4 {k:Nat} {r:Rd} (n:Int) (h:RdK k r) (hk:k < 1099511627776):∃ v,Ab r n=some (v,(r.1,r.2.1 + 1,()))∧0≤v∧(1≤n→v < n)∧(n < 1→v=0)∧RdK (k + 1) (r.1,r.2.1 + 1,()):=by
 obtain ⟨h1,h2,h3⟩:=h
 have hn:=Bn1 (n:=n) h1 h2 (by omega)
 exact ⟨_,by rw [Bjj,if_pos ⟨h1,h2,by omega⟩],hn.1,hn.2.1,hn.2.2,h1,by show 0≤r.2.1 + 1; omega,by show r.2.1 + 1≤((k + 1:Nat):Int); omega⟩
theorem Ek {α:Type} {k:Nat} {r:Rd} {n:Int} {f:(Int×Unit)×Rd×Unit→Option α} {S:α→Prop} (h:RdK k r) (hk:k < 1099511627776) (hn:1≤n) (q:∀ v r',0≤v→v < n→RdK (k + 1) r'→Av (f ((v,()),r',())) S):
  Av (((Ab r n).bind fun val=>some ((val.1,()),val.2,())).bind f) S:=by
 obtain ⟨v,e,v0,v1,_,h'⟩:=Bp4 n h hk
 rw [e]
 exact q v _ v0 (v1 hn) h'
theorem Arp (a0:(List Int)×Int×Unit) (a1:Int) r (h:Ab a0 a1=some r):Td a0 a1=some ((r.1,()),(r.2,())):=by
 rw [Bjj] at h
 split at h
 ·rename_i hc
  obtain ⟨hb,h0,h1⟩:=hc
  cases h
  unfold Td
  have e1:IntKind.i64.wrap (a0.2.1 + 1)=a0.2.1 + 1:=Aj (by omega) (by omega)
  have e2:IntKind.i64.wrap (a0.2.1 + 1 - 1)=a0.2.1:=by rw [Aj (by omega) (by omega)]; omega
  simp only [e1,e2]
  unfold A5n
  by_cases hn:a1 < 1
  ·rw [Af hn]; rfl
  ·rw [Bd hn]
   have hn0:decide (a1=0)=false:=Bd (by omega)
   simp only [cond_false]
   by_cases hl:a0.1.length=0
   ·rw [show (nI a0.1.length==0)=true by simp [nI,hl]]; rfl
   ·rw [show (nI a0.1.length==0)=false by simp only [nI,beq_eq_false_iff_ne]; omega]
    have hl0:decide (nI a0.1.length=0)=false:=Bd (by simp only [nI]; omega)
    simp only [cond_false]
    by_cases hp:a0.2.1 < nI a0.1.length
    ·rw [Af hp,Af h0,hn0]; rfl
    ·have t1:=A1u (n:=nI a0.1.length) h0 (by simp only [nI]; omega)
     have w7:IntKind.i64.wrap (IntKind.i64.wrap (a0.2.1 * 7) + 3)=a0.2.1 * 7 + 3:=by rw [Aj (n:=a0.2.1 * 7) (by omega) (by omega),Aj (by omega) (by omega)]
     have t2:=A1u (x:=a0.2.1 * 7 + 3) (n:=nI a0.1.length) (by omega) (by simp only [nI]; omega)
     rw [← w7] at t2
     rw [Bd hp,hl0,hn0,Af t1.1,Af t1.2,Af t2.1,Af t2.2]
     rfl
 ·cases h
theorem G5:B8 Tryz.prog 63 Ff:=
 A7 (pat:=Ei) [] Ik (Bb (l:=[]) trivial) trivial Tryz.func63 (de:=fun x=>Td x.1 x.2.1) (fun x r h=>Hf (Arp x.1 x.2.1) h) fun _=>by kernel_rfl
def Eu (d:Dk):Option Dk:=if d.1.length≤1099511627776∧d.2.1.length≤1099511627776 then some d else none
def A5o:Hh:=⟨[.rd yDk],[some 2],[.own 9 .str,.own 174 Ew],[some 2]⟩
def N7:SD:=⟨A5o,fun x=>(Eu x.1).bind fun r=>some ((r.1,r.2.1,()),(()))⟩
def x6 (a0:Dk):Option ((Dk×(Unit))):=
 bif decide ((0 + List.length a0.1) * 16≤140737488355328) then bif decide ((0 + List.length a0.2.1) * 24≤140737488355328) then some (([]++a0.1,[]++a0.2.1,()),()) else none else none
theorem A5p (a0:Dk) r (h:Eu a0=some r):x6 a0=some ((r.1,r.2.1,()),(())):=by
 unfold Eu at h
 split at h
 ·rename_i hc
  cases h
  unfold x6
  have c1:(0 + List.length a0.1) * 16≤140737488355328:=by omega
  have c2:(0 + List.length a0.2.1) * 24≤140737488355328:=by omega
  rw [Af c1,Af c2]
  rfl
 ·cases h
theorem Qu:B8 Tryz.prog 187 N7:=
 A7 (pat:=Ei) [] Ik (Bb (l:=[]) trivial) trivial Tryz.func187 (de:=fun x=>x6 x.1) (fun x r h=>Hf (A5p x.1) h) fun _=>by kernel_rfl
def A5q:Hh:=⟨[.rd I5],[some 16],[.rd tI,.own 9 .str,.own 174 Ew,.rd .bool,.rd tI,.rd tI,.rd tI,.rd tI,.rd tI,.rd tI,.rd tI,.rd tI,.rd tI,.rd (.sl A1),.own 31 F0,.own 9 .str],[some 16]⟩
def Alo:Tb:=tb [(77,Qm),(187,N7)]
def N8:Nat→Dq×(Nat→Dq):=Hk [(7,⟨[.boxSl 1 1 .str,.boxSl 1 2 Ew,.boxSl 1 13 A1,.boxSl 1 14 F0,.boxSl 1 15 .str,.boxSl 2 1 .str,.boxSl 2 2 Ew,.boxSl 2 13 A1,.boxSl 2 14 F0,.boxSl 2 15 .str,.boxRow 3 1 9 .str,.boxRow 3 2 174 Ew,.boxSl 3 13 A1,.boxRow 3 14 31 F0,.boxSl 3 15 .str],[(1,.lf (.ptr 0 0)),(2,.lf (.ptr 1 0)),(3,.lf (.ptr 2 0)),(4,.lf (.d tI))],[.box 36 [.d I5],.box 36 [.d I5],.box 36 [.d tI,.row 3,.row 4,.d .bool,.d tI,.d tI,.d tI,.d tI,.d tI,.d tI,.d tI,.d tI,.d tI,.d (.sl A1),.row 5,.d (.sl .str)],.row 9 .str,.row 174 Ew,.row 31 F0]⟩,[(2,⟨[.boxSl 1 1 .str,.boxSl 1 2 Ew,.boxSl 1 13 A1,.boxSl 1 14 F0,.boxSl 1 15 .str,.boxSl 2 1 .str,.boxSl 2 2 Ew,.boxSl 2 13 A1,.boxSl 2 14 F0,.boxSl 2 15 .str,.boxRow 3 1 9 .str,.boxRow 3 2 174 Ew,.boxSl 3 13 A1,.boxRow 3 14 31 F0,.boxSl 3 15 .str],[(1,.lf (.ptr 0 0)),(2,.lf (.ptr 1 0)),(3,.lf (.ptr 2 0))],[.box 36 [.d I5],.box 36 [.d I5],.box 36 [.d tI,.row 3,.row 4,.d .bool,.d tI,.d tI,.d tI,.d tI,.d tI,.d tI,.d tI,.d tI,.d tI,.d (.sl A1),.row 5,.d (.sl .str)],.row 9 .str,.row 174 Ew,.row 31 F0]⟩)])]
def Ae7:Code:=(Ax (Bm Tryz.f130)).getD 0 .skip
def K2 (v4:Int) (b0 b1:Bo) (b2_0:Int) (b2_3:Bool) (b2_4 b2_5:Int) (b2_6 b2_7:Int) (b2_8 b2_9:Int) (b2_10 b2_11 b2_12:Int) (b2_13:List A2) (b2_15 r3:List Aa) (r4:List Wr) (r5:List Cv):Nat:=((List.length b0.2.2.2.2.1:Int) - v4).toNat + 1
def N9 {R:Type}  (NX:((Int)×Bo×Bo×(Int)×(Bool)×(Int)×(Int)×(Int)×(Int)×(Int)×(Int)×(Int)×(Int)×(Int)×(List A2)×(List Aa)×(List Aa)×(List Wr)×(List Cv)×Unit)→Option R) (X2:(Bo×Bo×(Int)×(Bool)×(Int)×(Int)×(Int)×(Int)×(Int)×(Int)×(Int)×(Int)×(Int)×(List A2)×(List Aa)×(List Aa)×(List Wr)×(List Cv)×Unit)→Option R) (v4:Int) (b0:Bo) (b1:Bo) (b2_0:Int) (b2_3:Bool) (b2_4:Int) (b2_5:Int) (b2_6:Int) (b2_7:Int) (b2_8:Int) (b2_9:Int) (b2_10:Int) (b2_11:Int) (b2_12:Int) (b2_13:List A2) (b2_15:List Aa) (r3:List Aa) (r4:List Wr) (r5:List Cv):Option R:=
 bif decide (v4 < nI (List.length b0.2.2.2.2.1)) then bif decide (0≤v4) then bif decide (v4 < nI (List.length b0.2.2.2.2.1)) then ((Et (List.getD b0.2.2.2.2.1 v4.toNat ([],()))).bind fun val=>some (val,())).bind fun val=>bif decide ((r5.length + [val.1].length) * 24≤140737488355328) then NX (IntKind.i64.wrap (v4 + 1),b0,b1,b2_0,b2_3,b2_4,b2_5,b2_6,b2_7,b2_8,b2_9,b2_10,b2_11,b2_12,b2_13,b2_15,r3,r4,r5++[val.1],()) else none else none else none else X2 (b0,b1,b2_0,b2_3,b2_4,b2_5,b2_6,b2_7,b2_8,b2_9,b2_10,b2_11,b2_12,b2_13,b2_15,r3,r4,r5,())
def He:Nat→(Int)→Bo→Bo→(Int)→(Bool)→(Int)→(Int)→(Int)→(Int)→(Int)→(Int)→(Int)→(Int)→(Int)→(List A2)→(List Aa)→(List Aa)→(List Wr)→(List Cv) →  Option (Bo×Bo×(Int)×(Bool)×(Int)×(Int)×(Int)×(Int)×(Int)×(Int)×(Int)×(Int)×(Int)×(List A2)×(List Aa)×(List Aa)×(List Wr)×(List Cv)×Unit)
 | 0,_,_,_,_,_,_,_,_,_,_,_,_,_,_,_,_,_,_,_=>none
 | m + 1,v4,b0,b1,b2_0,b2_3,b2_4,b2_5,b2_6,b2_7,b2_8,b2_9,b2_10,b2_11,b2_12,b2_13,b2_15,r3,r4,r5=>N9  (fun d=>He m d.1 d.2.1 d.2.2.1 d.2.2.2.1 d.2.2.2.2.1 d.2.2.2.2.2.1 d.2.2.2.2.2.2.1 d.2.2.2.2.2.2.2.1 d.2.2.2.2.2.2.2.2.1 d.2.2.2.2.2.2.2.2.2.1 d.2.2.2.2.2.2.2.2.2.2.1 d.2.2.2.2.2.2.2.2.2.2.2.1 d.2.2.2.2.2.2.2.2.2.2.2.2.1 d.2.2.2.2.2.2.2.2.2.2.2.2.2.1 d.2.2.2.2.2.2.2.2.2.2.2.2.2.2.1 d.2.2.2.2.2.2.2.2.2.2.2.2.2.2.2.1 d.2.2.2.2.2.2.2.2.2.2.2.2.2.2.2.2.1 d.2.2.2.2.2.2.2.2.2.2.2.2.2.2.2.2.2.1 d.2.2.2.2.2.2.2.2.2.2.2.2.2.2.2.2.2.2.1) (fun d=>some (d)) v4 b0 b1 b2_0 b2_3 b2_4 b2_5 b2_6 b2_7 b2_8 b2_9 b2_10 b2_11 b2_12 b2_13 b2_15 r3 r4 r5
def Axe (d:(Int)×Bo×Bo×(Int)×(Bool)×(Int)×(Int)×(Int)×(Int)×(Int)×(Int)×(Int)×(Int)×(Int)×(List A2)×(List Aa)×(List Aa)×(List Wr)×(List Cv)×Unit):Option (Bo×Bo×(Int)×(Bool)×(Int)×(Int)×(Int)×(Int)×(Int)×(Int)×(Int)×(Int)×(Int)×(List A2)×(List Aa)×(List Aa)×(List Wr)×(List Cv)×Unit):=(u4 (u4 (u4 (u4 (Ac (Ac (Ac Ah))))))) (He ((u4 (u4 (u4 (u4 (Ac (Ac (Ac Ah))))))) K2 d)) d
def Vd (a0:Bo):Option ((((Int)×(List Aa)×(List Wr)×(Bool)×(Int)×(Int)×(Int)×(Int)×(Int)×(Int)×(Int)×(Int)×(Int)×(List A2)×(List Cv)×(List Aa)×Unit)×(Unit))):=
 ((Eu a0.2.1).bind fun val=>some (val,())).bind fun val=>((Et a0.2.2.2.1.2.2.2.2.2.2.1).bind fun val=>some (val,())).bind fun val_1=>((fun d=>He (K2 d.1 d.2.1 d.2.2.1 d.2.2.2.1 d.2.2.2.2.1 d.2.2.2.2.2.1 d.2.2.2.2.2.2.1 d.2.2.2.2.2.2.2.1 d.2.2.2.2.2.2.2.2.1 d.2.2.2.2.2.2.2.2.2.1 d.2.2.2.2.2.2.2.2.2.2.1 d.2.2.2.2.2.2.2.2.2.2.2.1 d.2.2.2.2.2.2.2.2.2.2.2.2.1 d.2.2.2.2.2.2.2.2.2.2.2.2.2.1 d.2.2.2.2.2.2.2.2.2.2.2.2.2.2.1 d.2.2.2.2.2.2.2.2.2.2.2.2.2.2.2.1 d.2.2.2.2.2.2.2.2.2.2.2.2.2.2.2.2.1 d.2.2.2.2.2.2.2.2.2.2.2.2.2.2.2.2.2.1 d.2.2.2.2.2.2.2.2.2.2.2.2.2.2.2.2.2.2.1) d.1 d.2.1 d.2.2.1 d.2.2.2.1 d.2.2.2.2.1 d.2.2.2.2.2.1 d.2.2.2.2.2.2.1 d.2.2.2.2.2.2.2.1 d.2.2.2.2.2.2.2.2.1 d.2.2.2.2.2.2.2.2.2.1 d.2.2.2.2.2.2.2.2.2.2.1 d.2.2.2.2.2.2.2.2.2.2.2.1 d.2.2.2.2.2.2.2.2.2.2.2.2.1 d.2.2.2.2.2.2.2.2.2.2.2.2.2.1 d.2.2.2.2.2.2.2.2.2.2.2.2.2.2.1 d.2.2.2.2.2.2.2.2.2.2.2.2.2.2.2.1 d.2.2.2.2.2.2.2.2.2.2.2.2.2.2.2.2.1 d.2.2.2.2.2.2.2.2.2.2.2.2.2.2.2.2.2.1 d.2.2.2.2.2.2.2.2.2.2.2.2.2.2.2.2.2.2.1) (0,a0,(0,([],[],()),false,(0,0,0,(0,0,0,0,()),0,0,([],()),()),[],[],()),a0.1,a0.2.2.1,a0.2.2.2.1.1,a0.2.2.2.1.2.1,a0.2.2.2.1.2.2.1,a0.2.2.2.1.2.2.2.1.1,a0.2.2.2.1.2.2.2.1.2.1,a0.2.2.2.1.2.2.2.1.2.2.1,a0.2.2.2.1.2.2.2.1.2.2.2.1,a0.2.2.2.1.2.2.2.2.1,a0.2.2.2.1.2.2.2.2.2.1,val_1.1.1,a0.2.2.2.2.2.1,val.1.1,val.1.2.1,[],())).bind fun val=>bif decide ((0 + List.length val.1.2.2.2.2.2.1) * 16≤140737488355328) then some ((val.2.2.1,val.2.2.2.2.2.2.2.2.2.2.2.2.2.2.2.1,val.2.2.2.2.2.2.2.2.2.2.2.2.2.2.2.2.1,val.2.2.2.1,val.2.2.2.2.1,val.2.2.2.2.2.1,val.2.2.2.2.2.2.1,val.2.2.2.2.2.2.2.1,val.2.2.2.2.2.2.2.2.1,val.2.2.2.2.2.2.2.2.2.1,val.2.2.2.2.2.2.2.2.2.2.1,val.2.2.2.2.2.2.2.2.2.2.2.1,val.2.2.2.2.2.2.2.2.2.2.2.2.1,val.2.2.2.2.2.2.2.2.2.2.2.2.2.1,val.2.2.2.2.2.2.2.2.2.2.2.2.2.2.2.2.2.1,[]++val.1.2.2.2.2.2.1,()),()) else none
theorem Alp:∃ f,f=@Vd:=⟨_,rfl⟩
def Nf:=Classical.choose Alp
theorem Alq:@Nf=@Vd:=Classical.choose_spec Alp
def Alr:SD:=⟨A5q,fun x=>Nf x.1⟩
theorem Bjk (b0 b1:Bo) (b2_0:Int) (b2_3:Bool) (b2_4 b2_5:Int) (b2_6 b2_7:Int) (b2_8 b2_9:Int) (b2_10 b2_11 b2_12:Int) (b2_13:List A2) (b2_15 r3:List Aa) (r4:List Wr) (hs:∀ x∈b0.2.2.2.2.1,Ak x=true) (hn:b0.2.2.2.2.1.length≤200):∀ (k m i:Nat) (r:List Cv),i + k=b0.2.2.2.2.1.length→k < m→r.length=i→r=b0.2.2.2.2.1.take i→
  ∃ r':List Cv,He m i b0 b1 b2_0 b2_3 b2_4 b2_5 b2_6 b2_7 b2_8 b2_9 b2_10 b2_11 b2_12 b2_13 b2_15 r3 r4 r=some (b0,b1,b2_0,b2_3,b2_4,b2_5,b2_6,b2_7,b2_8,b2_9,b2_10,b2_11,b2_12,b2_13,b2_15,r3,r4,r',())∧r'=b0.2.2.2.2.1
 | 0,m + 1,i,r,hi,_,hr,hv=>by
  refine ⟨r,?_,by rw [hv,List.take_of_length_le (by omega)]⟩
  simp only [He,N9]
  rw [Bd (show ¬ (i:Int) < nI b0.2.2.2.2.1.length by simp only [nI]; omega)]
  rfl
 | k + 1,m + 1,i,r,hi,hm,hr,hv=>by
  have e1:IntKind.i64.wrap ((i:Int) + 1)=((i + 1:Nat):Int):=wI (by omega)
  have d2:decide ((i:Int) < nI b0.2.2.2.2.1.length)=true:=Af (by simp only [nI]; omega)
  have hx:Ak (b0.2.2.2.2.1.getD i Ye)=true:=Bg2 (l:=b0.2.2.2.2.1) (d:=Ye) (v:=(i:Int)) (Q:=fun x=>Ak x=true) hs (by omega) (by simp only [nI]; omega)
  have e2:Et (b0.2.2.2.2.1.getD (Int.toNat (i:Int)) ([],()))=some (b0.2.2.2.2.1.getD i Ye):=(if_pos (show (b0.2.2.2.2.1.getD i Ye).1.length≤1000000 from Nat.le_trans (Cb hx) (by decide)))
  simp only [He,N9,d2,J1,e1,e2,cond_true,En,Option.bind_some]
  have d3:decide ((r.length + 1) * 24≤140737488355328)=true:=Af (by omega)
  rw [d3]
  exact Bjk b0 b1 b2_0 b2_3 b2_4 b2_5 b2_6 b2_7 b2_8 b2_9 b2_10 b2_11 b2_12 b2_13 b2_15 r3 r4 hs hn k m (i + 1) (r++[b0.2.2.2.2.1.getD i Ye]) (by omega) (by omega) (by rw [Dn,En,hr]) (by rw [hv]; exact (A34 (by omega)).symm)
theorem Brw {b0:Bo} {b1:Bo} {b2_0:Int} {b2_3:Bool} {b2_4:Int} {b2_5:Int} {b2_6:Int} {b2_7:Int} {b2_8:Int} {b2_9:Int} {b2_10:Int} {b2_11:Int} {b2_12:Int} {b2_13:List A2} {b2_15:List Aa} {r3:List Aa} {r4:List Wr} (hs:∀ x∈b0.2.2.2.2.1,Ak x=true) (hn:b0.2.2.2.2.1.length≤200):
  Av (He (K2 0 b0 b1 b2_0 b2_3 b2_4 b2_5 b2_6 b2_7 b2_8 b2_9 b2_10 b2_11 b2_12 b2_13 b2_15 r3 r4 []) 0 b0 b1 b2_0 b2_3 b2_4 b2_5 b2_6 b2_7 b2_8 b2_9 b2_10 b2_11 b2_12 b2_13 b2_15 r3 r4 []) fun q=>∃ r':List Cv,q=(b0,b1,b2_0,b2_3,b2_4,b2_5,b2_6,b2_7,b2_8,b2_9,b2_10,b2_11,b2_12,b2_13,b2_15,r3,r4,r',())∧r'=b0.2.2.2.2.1:=by
 obtain ⟨r',q1,q2⟩:=Bjk b0 b1 b2_0 b2_3 b2_4 b2_5 b2_6 b2_7 b2_8 b2_9 b2_10 b2_11 b2_12 b2_13 b2_15 r3 r4 hs hn b0.2.2.2.2.1.length (K2 0 b0 b1 b2_0 b2_3 b2_4 b2_5 b2_6 b2_7 b2_8 b2_9 b2_10 b2_11 b2_12 b2_13 b2_15 r3 r4 []) 0 [] (by omega) (by simp only [K2]; omega) rfl rfl
 exact ⟨_,q1,r',rfl,q2⟩
theorem Bb3 {w:Bo} (h:WOk w):Av (Nf w) fun q=>unW q.1=w:=by
 rw [Alq]
 unfold Vd
 have hd:=h.d
 simp only [Kl,Bool.and_eq_true,decide_eq_true_eq] at hd
 have c1:Av ((Eu w.2.1).bind fun val=>some (val,())) fun q=>q=(w.2.1,()):=Av.bind ⟨_,if_pos ⟨Nat.le_trans hd.1.1 (by decide),Nat.le_trans hd.2.1.1 (by decide)⟩,rfl⟩ fun a ha=>Av.some (by rw [ha])
 have c2:Av ((Et w.2.2.2.1.2.2.2.2.2.2.1).bind fun val=>some (val,())) fun q=>q=(w.2.2.2.1.2.2.2.2.2.2.1,()):=Av.bind ⟨_,if_pos (Nat.le_trans (Cb h.s) (by decide)),rfl⟩ fun a ha=>Av.some (by subst ha; rfl)
 refine Av.bind c1 fun q hq=>?_
 subst hq
 refine Av.bind c2 fun q hq=>?_
 subst hq
 refine Av.bind (Brw h.p h.n) fun q hq=>?_
 obtain ⟨r',rfl,q2⟩:=hq
 subst q2
 dsimp only
 have hl:=h.l
 exact Av.go (Af (by omega)) (Av.some rfl)
def Ae8 {R:Type} (k:Kt R):=(L7 (N8 7) (.exit 0) 2 k)
def Apm {R:Type}:Lt R N8:=(Fp (pat:=N8) 7 (fun d k=>(Axe d).bind (Ae8 k)) Ik)
theorem Als:A5 Tryz.prog Alo:=Bb ⟨U1,Qu,trivial⟩
theorem Axf {R:Type}:Ba Tryz.prog R 42 0 N8 Apm Ae7:=
 Cn (cfg:=⟨Alo,0,42,N8⟩) 7 [] (fun NX X (d:(Int)×Bo×Bo×(Int)×(Bool)×(Int)×(Int)×(Int)×(Int)×(Int)×(Int)×(Int)×(Int)×(Int)×(List A2)×(List Aa)×(List Aa)×(List Wr)×(List Cv)×Unit)=>(u4 (u4 (u4 (u4 (Ac (Ac (Ac Ah))))))) (N9  NX X) d) (fun m d=>(u4 (u4 (u4 (u4 (Ac (Ac (Ac Ah))))))) (He m) d) (fun d=>(u4 (u4 (u4 (u4 (Ac (Ac (Ac Ah))))))) K2 d) Ae8 Als trivial (fun f NX (d:(Int)×Bo×Bo×(Int)×(Bool)×(Int)×(Int)×(Int)×(Int)×(Int)×(Int)×(Int)×(Int)×(Int)×(List A2)×(List Aa)×(List Aa)×(List Wr)×(List Cv)×Unit)=>by simp only [u4,Ac,Ah]; unfold N9; simp only [nb])
theorem A5r:B8 Tryz.prog 130 Alr:=
 A7 (pat:=N8) [Ae7] Apm Als ⟨Axf,trivial⟩ Tryz.func130 (de:=fun x=>Vd x.1) (fun x r h=>by have q:Nf x.1=some r:=h; rw [Alq] at q; exact q) fun _=>by kernel_rfl
def I3 (d:Dk):Option Dk:=if d.2.1.length≤1099511627776∧∀ i,i < d.2.1.length→0≤(d.2.1.getD i zW).1∧(d.2.1.getD i zW).1 < (d.1.length:Int) then some (A81 d) else none
def A5s:Hh:=⟨[.own 9 .str,.rd (.sl Ew)],[some 2],[.own 9 .str,.own 174 Ew],[some 2]⟩
def Ve:SD:=⟨A5s,fun x=>(I3 (x.1,x.2.1,())).bind fun r=>some ((r.1,r.2.1,()),(()))⟩
def Alt:Tb:=tb []
def Oa:Nat→Dq×(Nat→Dq):=Hk [(3,⟨[.boxSl 1 1 Ew,.boxRow 2 0 9 .str,.boxRow 2 1 174 Ew],[(1,.lf (.ptr 1 0)),(2,.lf (.ptr 2 0)),(3,.lf (.d tI))],[.row 9 .str,.box 26 [.row 0,.d (.sl Ew)],.box 26 [.row 3,.row 4],.row 9 .str,.row 174 Ew]⟩,[(2,⟨[.boxSl 1 1 Ew,.boxRow 2 0 9 .str,.boxRow 2 1 174 Ew],[(1,.lf (.ptr 1 0)),(2,.lf (.ptr 2 0))],[.row 9 .str,.box 26 [.row 0,.d (.sl Ew)],.box 26 [.row 3,.row 4],.row 9 .str,.row 174 Ew]⟩)])]
def Ae9:Code:=(Ax (Bm Tryz.f186)).getD 0 .skip
def It (v3:Int) (r0:List Aa) (b1_1:List Wr) (r3:List Aa) (r4:List Wr):Nat:=((b1_1.length:Int) - v3).toNat + 1
def Ob {R:Type}  (NX:((Int)×(List Aa)×(List Wr)×(List Aa)×(List Wr)×Unit)→Option R) (X2:((List Aa)×(List Wr)×(List Aa)×(List Wr)×Unit)→Option R) (v3:Int) (r0:List Aa) (b1_1:List Wr) (r3:List Aa) (r4:List Wr):Option R:=
 bif decide (v3 < nI b1_1.length) then bif decide (0≤v3) then bif decide (v3 < nI b1_1.length) then bif decide (0≤v3) then bif decide (v3 < nI b1_1.length) then bif decide (0≤(b1_1.getD v3.toNat (0,Ad,())).1) then bif decide ((b1_1.getD v3.toNat (0,Ad,())).1 < nI r0.length) then bif decide (Int.toNat (b1_1.getD v3.toNat (0,Ad,())).1 < r0.length) then NX (IntKind.i64.wrap (v3 + 1),r0.set (Int.toNat (b1_1.getD v3.toNat (0,Ad,())).1) (b1_1.getD v3.toNat (0,Ad,())).2.1,b1_1,r3,r4,()) else none else none else none else none else none else none else none else X2 (r0,b1_1,r3,r4,())
def D5:Nat→(Int)→(List Aa)→(List Wr)→(List Aa)→(List Wr) →  Option ((List Aa)×(List Wr)×(List Aa)×(List Wr)×Unit)
 | 0,_,_,_,_,_=>none
 | m + 1,v3,r0,b1_1,r3,r4=>Ob  (fun d=>D5 m d.1 d.2.1 d.2.2.1 d.2.2.2.1 d.2.2.2.2.1) (fun d=>some (d)) v3 r0 b1_1 r3 r4
def Axg (d:(Int)×(List Aa)×(List Wr)×(List Aa)×(List Wr)×Unit):Option ((List Aa)×(List Wr)×(List Aa)×(List Wr)×Unit):=(u4 (Ac Ah)) (D5 ((u4 (Ac Ah)) It d)) d
def x7 (a0:List Aa) (a1:List Wr):Option ((Dk×(Unit))):=
 ((fun d=>D5 (It d.1 d.2.1 d.2.2.1 d.2.2.2.1 d.2.2.2.2.1) d.1 d.2.1 d.2.2.1 d.2.2.2.1 d.2.2.2.2.1) (0,a0,a1,[],[],())).bind fun val=>some ((val.1,[],()),())
theorem A5t (a0:List Aa) (a1:List Wr) r (h:I3 (a0,a1,())=some r):x7 a0 a1=some ((r.1,r.2.1,()),(())):=by
 unfold I3 at h
 split at h
 ·rename_i hc
  obtain ⟨hp,hw⟩:=hc
  cases h
  have hL:=Adv (xs:=a1) zW (fun s:List Aa=>s.length=a0.length) (fun _ w s=>s.set w.1.toNat w.2.1) (g:=fun m i s=>D5 m i s a1 [] []) (ok:=fun s=>(s,a1,[],[],())) (fun m i s hi hs=>by
   show D5 (m + 1) i s a1 [] []=_
   simp only [D5,Ob]
   obtain ⟨h0,h1⟩:=hw i hi
   have c1:decide (0≤(List.getD a1 i (0,Ad,())).1)=true:=Af h0
   have c2:decide ((List.getD a1 i (0,Ad,())).1 < nI s.length)=true:=Af (by rw [hs]; exact h1)
   have c3:decide (Int.toNat (List.getD a1 i (0,Ad,())).1 < s.length)=true:=Af (by
    rw [hs]
    have:(a1.getD i zW).1.toNat < a0.length:=by
     have h0:0≤(a1.getD i zW).1:=h0
     have h1:(a1.getD i zW).1 < (a0.length:Int):=h1
     omega
    exact this)
   rw [cLt hi,J1,wI (show i < 4611686018427387904 by have hp:a1.length≤1099511627776:=hp; omega),Fz,c1,c2,c3]
   rfl) (fun i s hi hs=>by rw [List.length_set]; exact hs) (fun m s hs=>by
   show D5 (m + 1) (a1.length:Int) s a1 [] []=_
   simp only [D5,Ob]
   rw [Qd]
   rfl) (It 0 a0 a1 [] []) 0 a0 (by omega) (by simp [It]) rfl
  have hL':D5 (It 0 a0 a1 [] []) 0 a0 a1 [] []=_:=hL
  unfold x7
  show (D5 (It 0 a0 a1 [] []) 0 a0 a1 [] []).bind _=_
  rw [hL']
  rfl
 ·cases h
def Afa {R:Type} (k:Kt R):=(L7 (Oa 3) (.exit 0) 2 k)
def Apn {R:Type}:Lt R Oa:=(Fp (pat:=Oa) 3 (fun d k=>(Axg d).bind (Afa k)) Ik)
theorem Alu:A5 Tryz.prog Alt:=Bb trivial
theorem Axh {R:Type}:Ba Tryz.prog R 29 1 Oa Apn Ae9:=
 Cn (cfg:=⟨Alt,1,29,Oa⟩) 3 [] (fun NX X d=>(u4 (Ac Ah)) (Ob  NX X) d) (fun m d=>(u4 (Ac Ah)) (D5 m) d) (fun d=>(u4 (Ac Ah)) It d) Afa Alu trivial (fun f NX d=>by simp only [u4,Ac,Ah]; unfold Ob; simp only [nb])
theorem x8:B8 Tryz.prog 186 Ve:=
 A7 (pat:=Oa) [Ae9] Apn Alu ⟨Axh,trivial⟩ Tryz.func186 (de:=fun x=>x7 x.1 x.2.1) (fun x r h=>Hf (A5t x.1 x.2.1) h) fun _=>by kernel_rfl
def Gn (d:Dk) (ops:List Dc) (n:Int):Option Dk:=if ops.length≤1099511627776 then some (B9 d ops n) else none
def A0c:Hh:=⟨[.rd yDk,.rd (.sl E4),.rd tI],[some 2,none,none],[.own 9 .str,.own 174 Ew],[some 2]⟩
def Ah4:SD:=⟨A0c,fun x=>(Gn x.1 x.2.1 x.2.2.1).bind fun r=>some ((r.1,r.2.1,()),(()))⟩
def Ah5:Tb:=tb [(66,Ho),(157,Uj),(186,Ve),(187,N7)]
def Ml:Nat→Dq×(Nat→Dq):=Hk [(6,⟨[.sl 1 0 E4,.boxRow 6 0 9 .str,.boxRow 6 1 174 Ew,.boxRow 7 0 9 .str,.boxRow 7 1 174 Ew],[(1,.lf (.d (.sl E4))),(2,.lf (.d tI)),(6,.lf (.ptr 0 0)),(7,.lf (.ptr 1 0)),(8,.lf (.d tI))],[.box 26 [.row 2,.row 3],.box 26 [.row 4,.row 5],.row 9 .str,.row 174 Ew,.row 9 .str,.row 174 Ew]⟩,[(2,⟨[.boxRow 6 0 9 .str,.boxRow 6 1 174 Ew,.boxRow 7 0 9 .str,.boxRow 7 1 174 Ew],[(6,.lf (.ptr 0 0)),(7,.lf (.ptr 1 0))],[.box 26 [.row 2,.row 3],.box 26 [.row 4,.row 5],.row 9 .str,.row 174 Ew,.row 9 .str,.row 174 Ew]⟩)])]
def Ab5:Code:=(Ax (Bm Tryz.f152)).getD 0 .skip
def Hv (v1:List Dc) (v2 v8:Int) (r2:List Aa) (r3:List Wr) (r4:List Aa) (r5:List Wr):Nat:=((v1.length:Int) - v8).toNat + 1
def M2 {R:Type}  (NX:((List Dc)×(Int)×(Int)×(List Aa)×(List Wr)×(List Aa)×(List Wr)×Unit)→Option R) (X2:((List Aa)×(List Wr)×(List Aa)×(List Wr)×Unit)→Option R) (v1:List Dc) (v2:Int) (v8:Int) (r2:List Aa) (r3:List Wr) (r4:List Aa) (r5:List Wr):Option R:=
 bif decide (v8 < nI v1.length) then bif decide (v8 < v2) then bif decide (0≤v8) then bif decide (v8 < nI v1.length) then bif (v1.getD v8.toNat (false,0,Ad,())).1 then ((I3 (r4,r5,())).bind fun val=>some (val,())).bind fun val=>NX (v1,v2,IntKind.i64.wrap (v8 + 1),r2,r3,val.1) else bif decide (0≤v8) then bif decide (v8 < nI v1.length) then bif decide (0≤v8) then bif decide (v8 < nI v1.length) then bif Ks (r4,r5,()) (v1.getD v8.toNat (false,0,Ad,())).2.1 (v1.getD v8.toNat (false,0,Ad,())).2.2.1 then bif decide (nI r5.length < 300) then bif decide (0≤v8) then bif decide (v8 < nI v1.length) then bif decide (0≤v8) then bif decide (v8 < nI v1.length) then bif decide ((r5.length + [(v1.getD v8.toNat (false,0,Ad,())).2].length) * 24≤140737488355328) then NX (v1,v2,IntKind.i64.wrap (v8 + 1),r2,r3,r4,r5++[(v1.getD v8.toNat (false,0,Ad,())).2],()) else none else none else none else none else none else NX (v1,v2,IntKind.i64.wrap (v8 + 1),r2,r3,r4,r5,()) else NX (v1,v2,IntKind.i64.wrap (v8 + 1),r2,r3,r4,r5,()) else none else none else none else none else none else none else X2 (r2,r3,r4,r5,()) else X2 (r2,r3,r4,r5,())
def C3:Nat→(List Dc)→(Int)→(Int)→(List Aa)→(List Wr)→(List Aa)→(List Wr) →  Option ((List Aa)×(List Wr)×(List Aa)×(List Wr)×Unit)
 | 0,_,_,_,_,_,_,_=>none
 | m + 1,v1,v2,v8,r2,r3,r4,r5=>M2  (fun d=>C3 m d.1 d.2.1 d.2.2.1 d.2.2.2.1 d.2.2.2.2.1 d.2.2.2.2.2.1 d.2.2.2.2.2.2.1) (fun d=>some (d)) v1 v2 v8 r2 r3 r4 r5
def Aup (d:(List Dc)×(Int)×(Int)×(List Aa)×(List Wr)×(List Aa)×(List Wr)×Unit):Option ((List Aa)×(List Wr)×(List Aa)×(List Wr)×Unit):=(u4 (Ac (Ac (Ac Ah)))) (C3 ((u4 (Ac (Ac (Ac Ah)))) Hv d)) d
def Yu (a0:Dk) (a1:List Dc) (a2:Int):Option ((Dk×(Unit))):=
 bif !Ft a0 then some (([],[],()),()) else ((Eu a0).bind fun val=>some (val,())).bind fun val=>((fun d=>C3 (Hv d.1 d.2.1 d.2.2.1 d.2.2.2.1 d.2.2.2.2.1 d.2.2.2.2.2.1 d.2.2.2.2.2.2.1) d.1 d.2.1 d.2.2.1 d.2.2.2.1 d.2.2.2.2.1 d.2.2.2.2.2.1 d.2.2.2.2.2.2.1) (a1,a2,0,[],[],val.1)).bind fun val=>some (val.2.2,())
theorem A0d (a0:Dk) (a1:List Dc) (a2:Int) r (h:Gn a0 a1 a2=some r):Yu a0 a1 a2=some ((r.1,r.2.1,()),(())):=by
 unfold Gn at h
 split at h
 rotate_left
 ·cases h
 rename_i hlen
 cases h
 unfold Yu B9
 show (bif !Ap a0 then _ else _)=_
 cases hv:Ap a0 with
 | false=>rfl
 | true=>
  have hok:=Ki hv
  have e1:Eu (a0.1,a0.2.1,())=some (a0.1,a0.2.1,()):=if_pos ⟨Nat.le_trans hok.n200 (by decide),Nat.le_trans hok.p300 (by decide)⟩
  have hxl:(a1.take a2.toNat).length=min a2.toNat a1.length:=List.length_take
  have hL:=E6 (xs:=a1.take a2.toNat) zOp (fun _ d=>If d) (fun _ o d=>opS d o) (g:=fun m i d=>C3 m a1 a2 i [] [] d.1 d.2.1) (ok:=fun d:Dk=>([],[],d.1,d.2.1,())) (fun m i d hi hI=>by
   show C3 (m + 1) a1 a2 i [] [] d.1 d.2.1=_
   simp only [C3,M2]
   rw [hxl] at hi
   have hi1:i < a1.length:=by omega
   have hi2:decide ((i:Int) < a2)=true:=Af (by omega)
   have hg:(a1.take a2.toNat).getD i zOp=List.getD a1 i (false,0,Ad,()):=by
    rw [List.getD_eq_getElem?_getD,List.getElem?_take,if_pos (by omega),← List.getD_eq_getElem?_getD]
    rfl
   rw [hg,hi2,cLt hi1,J1,wI (show i < 4611686018427387904 by omega),Fz]
   simp only [cond_true]
   generalize List.getD a1 i (false,0,Ad,())=o
   unfold opS
   cases ho:o.1 with
   | true=>
    simp only [cond_true]
    have e2:I3 (d.1,d.2.1,())=some (A81 d):=if_pos ⟨Nat.le_trans hI.p300 (by decide),fun k hk=>⟨(hI.pen k hk).1,(hI.pen k hk).2.1⟩⟩
    rw [e2]
    rfl
   | false=>
    simp only [cond_false]
    have hn:=hI.n8
    have hn2:=hI.n200
    have hp:=hI.p300
    have e4:decide (nI d.2.1.length < 300)=decide (d.2.1.length < 300):=decide_eq_decide.2 (by simp only [nI]; omega)
    have e5:decide ((d.2.1.length + 1) * 24≤140737488355328)=true:=Af (by omega)
    simp only [En,e4,e5,Ks,Aiy,cond_true]
    show _=C3 m a1 a2 _ [] [] (bif (decide (0≤o.2.1)&&(decide (o.2.1 < (d.1.length:Int))&&decide (o.2.2.1.size=64)))&&decide (d.2.1.length < 300) then (d.1,d.2.1++[(o.2.1,o.2.2.1,())],()) else d).1 (bif (decide (0≤o.2.1)&&(decide (o.2.1 < (d.1.length:Int))&&decide (o.2.2.1.size=64)))&&decide (d.2.1.length < 300) then (d.1,d.2.1++[(o.2.1,o.2.2.1,())],()) else d).2.1
    cases decide (0≤o.2.1)<;>cases decide (o.2.1 < (d.1.length:Int))<;>cases decide (o.2.2.1.size=64)<;>cases decide (d.2.1.length < 300)<;>rfl) (fun i d hi hI=>hI.op _) (fun m d hI=>by
   show C3 (m + 1) a1 a2 (((a1.take a2.toNat).length:Nat):Int) [] [] d.1 d.2.1=_
   simp only [C3,M2]
   rw [hxl]
   by_cases q:((min a2.toNat a1.length:Nat):Int) < a2
   ·rw [Bd (show ¬ ((min a2.toNat a1.length:Nat):Int) < nI a1.length by simp only [nI]; omega)]
    rfl
   ·rw [Bd q]
    cases decide (((min a2.toNat a1.length:Nat):Int) < nI a1.length)<;>rfl) (Hv a1 a2 0 [] [] a0.1 a0.2.1) 0 a0 (by omega) (by rw [hxl]; simp only [Hv,nI]; omega) hok
  have hL':C3 (Hv a1 a2 0 [] [] a0.1 a0.2.1) a1 a2 0 [] [] a0.1 a0.2.1=_:=hL
  simp only [Bool.not_true,cond_false]
  rw [e1]
  show (C3 (Hv a1 a2 0 [] [] a0.1 a0.2.1) a1 a2 0 [] [] a0.1 a0.2.1).bind _=_
  rw [hL',List.drop_zero]
  have hf:∀ (l:List Dc) (i:Nat) (d:Dk),Ds (fun _ o d=>opS d o) i l d=l.foldl opS d:=fun l=>by
   induction l with
   | nil=>intro i d; rfl
   | cons o r ih=>intro i d; exact ih _ _
  rw [hf]
  rfl
def Ab6 {R:Type} (k:Kt R):=(L7 (Ml 6) (.exit 0) 2 k)
def Alv {R:Type}:Lt R Ml:=(Fp (pat:=Ml) 6 (fun d k=>(Aup d).bind (Ab6 k)) Ik)
theorem Ah6:A5 Tryz.prog Ah5:=Bb ⟨Jr,Abg,x8,Qu,trivial⟩
theorem Auq {R:Type}:Ba Tryz.prog R 68 0 Ml Alv Ab5:=
 Cn (cfg:=⟨Ah5,0,68,Ml⟩) 6 [] (fun NX X d=>(u4 (Ac (Ac (Ac Ah)))) (M2  NX X) d) (fun m d=>(u4 (Ac (Ac (Ac Ah)))) (C3 m) d) (fun d=>(u4 (Ac (Ac (Ac Ah)))) Hv d) Ab6 Ah6 trivial (fun f NX d=>by simp only [u4,Ac,Ah]; unfold M2; simp only [nb])
theorem A0e:B8 Tryz.prog 152 Ah4:=
 A7 (pat:=Ml) [Ab5] Alv Ah6 ⟨Auq,trivial⟩ Tryz.func152 (de:=fun x=>Yu x.1 x.2.1 x.2.2.1) (fun x r h=>Hf (A0d x.1 x.2.1 x.2.2.1) h) fun _=>by kernel_rfl
def K3 (d:Dk) (f:List Int):Dk:=Eo d f
def F7 (v1:List Int) (v6:Int) (r2:List Aa) (r3:List Wr) (r4:List Aa) (r5:List Wr):Nat:=((r5.length:Int) - v6).toNat + 1
def Aur:Hh:=⟨[.rd yDk,.rd (.sl tI)],[some 2,none],[.own 9 .str,.own 174 Ew],[some 2]⟩
def Ab7:SD:=⟨Aur,fun x=>some (((K3 x.1 x.2.1).1,(K3 x.1 x.2.1).2.1,()),(()))⟩
def Ab8:Tb:=tb [(66,Ho),(187,N7)]
def Jy:Nat→Dq×(Nat→Dq):=Hk [(6,⟨[.sl 1 0 tI,.boxRow 4 0 9 .str,.boxRow 4 1 174 Ew,.boxRow 5 0 9 .str,.boxRow 5 1 174 Ew],[(1,.lf (.d (.sl tI))),(4,.lf (.ptr 0 0)),(5,.lf (.ptr 1 0)),(6,.lf (.d tI))],[.box 26 [.row 2,.row 3],.box 26 [.row 4,.row 5],.row 9 .str,.row 174 Ew,.row 9 .str,.row 174 Ew]⟩,[(2,⟨[.boxRow 4 0 9 .str,.boxRow 4 1 174 Ew,.boxRow 5 0 9 .str,.boxRow 5 1 174 Ew],[(4,.lf (.ptr 0 0)),(5,.lf (.ptr 1 0))],[.box 26 [.row 2,.row 3],.box 26 [.row 4,.row 5],.row 9 .str,.row 174 Ew,.row 9 .str,.row 174 Ew]⟩)])]
def Zh:Code:=(Ax (Bm Tryz.f228)).getD 0 .skip
def Ke {R:Type}  (NX:((List Int)×(Int)×(List Aa)×(List Wr)×(List Aa)×(List Wr)×Unit)→Option R) (X2:((List Aa)×(List Wr)×(List Aa)×(List Wr)×Unit)→Option R) (v1:List Int) (v6:Int) (r2:List Aa) (r3:List Wr) (r4:List Aa) (r5:List Wr):Option R:=
 bif decide (v6 < nI r5.length) then bif decide (v6 < nI v1.length) then bif decide (0≤v6) then bif decide (v6 < nI v1.length) then bif decide (v1.getD v6.toNat 0 < 0) then bif decide (0≤v6) then bif decide (v6 < nI r5.length) then bif decide (0≤(r5.getD v6.toNat (0,Ad,())).1) then bif decide ((r5.getD v6.toNat (0,Ad,())).1 < nI r4.length) then bif decide ((Ag (r5.getD v6.toNat (0,Ad,())).2.1 0 0).size + (Ag (r4.getD (Int.toNat (r5.getD v6.toNat (0,Ad,())).1) (Ad)) 0 (nI (ByteArray.size (r4.getD (Int.toNat (r5.getD v6.toNat (0,Ad,())).1) (Ad))))).size≤9223372036854775807) then bif decide (0≤(r5.getD v6.toNat (0,Ad,())).1) then bif decide ((r5.getD v6.toNat (0,Ad,())).1 < nI r4.length) then bif decide (Int.toNat (r5.getD v6.toNat (0,Ad,())).1 < r4.length) then NX (v1,IntKind.i64.wrap (v6 + 1),r2,r3,r4.set (Int.toNat (r5.getD v6.toNat (0,Ad,())).1) (Ag (r5.getD v6.toNat (0,Ad,())).2.1 0 0++Ag (r4.getD (Int.toNat (r5.getD v6.toNat (0,Ad,())).1) (Ad)) 0 (nI (ByteArray.size (r4.getD (Int.toNat (r5.getD v6.toNat (0,Ad,())).1) (Ad))))),r5,()) else none else none else none else none else none else none else none else none else bif decide (v1.getD v6.toNat 0 > 64) then bif decide (0≤v6) then bif decide (v6 < nI r5.length) then bif decide (64≤nI (ByteArray.size (r5.getD v6.toNat (0,Ad,())).2.1)) then bif decide (0≤(r5.getD v6.toNat (0,Ad,())).1) then bif decide ((r5.getD v6.toNat (0,Ad,())).1 < nI r4.length) then bif decide (64≤nI (ByteArray.size (r4.getD (Int.toNat (r5.getD v6.toNat (0,Ad,())).1) (Ad)))) then bif decide ((Ag (r5.getD v6.toNat (0,Ad,())).2.1 0 64).size + (Ag (r4.getD (Int.toNat (r5.getD v6.toNat (0,Ad,())).1) (Ad)) 64 (nI (ByteArray.size (r4.getD (Int.toNat (r5.getD v6.toNat (0,Ad,())).1) (Ad))))).size≤9223372036854775807) then bif decide (0≤(r5.getD v6.toNat (0,Ad,())).1) then bif decide ((r5.getD v6.toNat (0,Ad,())).1 < nI r4.length) then bif decide (Int.toNat (r5.getD v6.toNat (0,Ad,())).1 < r4.length) then NX (v1,IntKind.i64.wrap (v6 + 1),r2,r3,r4.set (Int.toNat (r5.getD v6.toNat (0,Ad,())).1) (Ag (r5.getD v6.toNat (0,Ad,())).2.1 0 64++Ag (r4.getD (Int.toNat (r5.getD v6.toNat (0,Ad,())).1) (Ad)) 64 (nI (ByteArray.size (r4.getD (Int.toNat (r5.getD v6.toNat (0,Ad,())).1) (Ad))))),r5,()) else none else none else none else none else none else none else none else none else none else none else bif decide (0≤v6) then bif decide (v6 < nI r5.length) then bif decide (0≤v1.getD v6.toNat 0) then bif decide (v1.getD v6.toNat 0≤nI (ByteArray.size (r5.getD v6.toNat (0,Ad,())).2.1)) then bif decide (0≤(r5.getD v6.toNat (0,Ad,())).1) then bif decide ((r5.getD v6.toNat (0,Ad,())).1 < nI r4.length) then bif decide (0≤v1.getD v6.toNat 0) then bif decide (v1.getD v6.toNat 0≤nI (ByteArray.size (r4.getD (Int.toNat (r5.getD v6.toNat (0,Ad,())).1) (Ad)))) then bif decide ((Ag (r5.getD v6.toNat (0,Ad,())).2.1 0 (v1.getD v6.toNat 0)).size + (Ag (r4.getD (Int.toNat (r5.getD v6.toNat (0,Ad,())).1) (Ad)) (v1.getD v6.toNat 0) (nI (ByteArray.size (r4.getD (Int.toNat (r5.getD v6.toNat (0,Ad,())).1) (Ad))))).size≤9223372036854775807) then bif decide (0≤(r5.getD v6.toNat (0,Ad,())).1) then bif decide ((r5.getD v6.toNat (0,Ad,())).1 < nI r4.length) then bif decide (Int.toNat (r5.getD v6.toNat (0,Ad,())).1 < r4.length) then NX (v1,IntKind.i64.wrap (v6 + 1),r2,r3,r4.set (Int.toNat (r5.getD v6.toNat (0,Ad,())).1) (Ag (r5.getD v6.toNat (0,Ad,())).2.1 0 (v1.getD v6.toNat 0)++Ag (r4.getD (Int.toNat (r5.getD v6.toNat (0,Ad,())).1) (Ad)) (v1.getD v6.toNat 0) (nI (ByteArray.size (r4.getD (Int.toNat (r5.getD v6.toNat (0,Ad,())).1) (Ad))))),r5,()) else none else none else none else none else none else none else none else none else none else none else none else none else none else none else bif decide (0≤v6) then bif decide (v6 < nI r5.length) then bif decide (0≤(r5.getD v6.toNat (0,Ad,())).1) then bif decide ((r5.getD v6.toNat (0,Ad,())).1 < nI r4.length) then bif decide ((Ag (r5.getD v6.toNat (0,Ad,())).2.1 0 0).size + (Ag (r4.getD (Int.toNat (r5.getD v6.toNat (0,Ad,())).1) (Ad)) 0 (nI (ByteArray.size (r4.getD (Int.toNat (r5.getD v6.toNat (0,Ad,())).1) (Ad))))).size≤9223372036854775807) then bif decide (0≤(r5.getD v6.toNat (0,Ad,())).1) then bif decide ((r5.getD v6.toNat (0,Ad,())).1 < nI r4.length) then bif decide (Int.toNat (r5.getD v6.toNat (0,Ad,())).1 < r4.length) then NX (v1,IntKind.i64.wrap (v6 + 1),r2,r3,r4.set (Int.toNat (r5.getD v6.toNat (0,Ad,())).1) (Ag (r5.getD v6.toNat (0,Ad,())).2.1 0 0++Ag (r4.getD (Int.toNat (r5.getD v6.toNat (0,Ad,())).1) (Ad)) 0 (nI (ByteArray.size (r4.getD (Int.toNat (r5.getD v6.toNat (0,Ad,())).1) (Ad))))),r5,()) else none else none else none else none else none else none else none else none else X2 (r2,r3,r4,r5,())
def Cu:Nat→(List Int)→(Int)→(List Aa)→(List Wr)→(List Aa)→(List Wr) →  Option ((List Aa)×(List Wr)×(List Aa)×(List Wr)×Unit)
 | 0,_,_,_,_,_,_=>none
 | m + 1,v1,v6,r2,r3,r4,r5=>Ke  (fun d=>Cu m d.1 d.2.1 d.2.2.1 d.2.2.2.1 d.2.2.2.2.1 d.2.2.2.2.2.1) (fun d=>some (d)) v1 v6 r2 r3 r4 r5
def An7 (d:(List Int)×(Int)×(List Aa)×(List Wr)×(List Aa)×(List Wr)×Unit):Option ((List Aa)×(List Wr)×(List Aa)×(List Wr)×Unit):=(u4 (Ac (Ac Ah))) (Cu ((u4 (Ac (Ac Ah))) F7 d)) d
def Vf (a0:Dk) (a1:List Int):Option ((Dk×(Unit))):=
 bif !Ft a0 then some (([],[],()),()) else ((Eu a0).bind fun val=>some (val,())).bind fun val=>((fun d=>Cu (F7 d.1 d.2.1 d.2.2.1 d.2.2.2.1 d.2.2.2.2.1 d.2.2.2.2.2.1) d.1 d.2.1 d.2.2.1 d.2.2.2.1 d.2.2.2.2.1 d.2.2.2.2.2.1) (a1,0,[],[],val.1)).bind fun val=>some ((val.2.2.1,[],()),())
theorem Aus (a0:Dk) (a1:List Int):Vf a0 a1=some (((K3 a0 a1).1,(K3 a0 a1).2.1,()),(())):=by
 unfold Vf K3 Eo
 show (bif !Ap a0 then _ else _)=_
 cases hv:Ap a0 with
 | false=>rfl
 | true=>
  obtain ⟨k1,k2,k3,k4,k5⟩:=Ki hv
  have e1:Eu (a0.1,a0.2.1,())=some (a0.1,a0.2.1,()):=if_pos ⟨by show a0.1.length≤_; omega,by show a0.2.1.length≤_; omega⟩
  have hL:=Adv (xs:=a0.2.1) zW (Asx a0.1.length) (fun i w s=>s.set w.1.toNat (Bmv w.2.1 (s.getD w.1.toNat z0) (V9 a1 i))) (g:=fun m i s=>Cu m a1 i [] [] s a0.2.1) (ok:=fun s=>([],[],s,a0.2.1,())) (fun m i s hi hI=>by
   show Cu (m + 1) a1 i [] [] s a0.2.1=_
   simp only [Cu,Ke]
   obtain ⟨w0,w1,w2⟩:=k5 i hi
   have h0:0≤(List.getD a0.2.1 i (0,Ad,())).1:=w0
   have h1:(List.getD a0.2.1 i (0,Ad,())).1 < nI s.length:=by rw [hI.1]; exact w1
   have hsz:ByteArray.size (List.getD a0.2.1 i (0,Ad,())).2.1=64:=w2
   have hj:Int.toNat (List.getD a0.2.1 i (0,Ad,())).1 < s.length:=by
    have h1:(List.getD a0.2.1 i (0,Ad,())).1 < (s.length:Int):=h1
    omega
   have hs2:ByteArray.size (List.getD s (Int.toNat (List.getD a0.2.1 i (0,Ad,())).1) (Ad))=64:=hI.2 _ (by rw [← hI.1]; exact hj)
   have hsum:∀ k:Int,0≤k→k≤64→ByteArray.size (Ag (List.getD a0.2.1 i (0,Ad,())).2.1 0 k) + ByteArray.size (Ag (List.getD s (Int.toNat (List.getD a0.2.1 i (0,Ad,())).1) (Ad)) k (nI (ByteArray.size (List.getD s (Int.toNat (List.getD a0.2.1 i (0,Ad,())).1) (Ad)))))≤9223372036854775807:=by
    intro k q0 q1
    rw [Da (by omega) q0 (by rw [hsz]; omega),Da q0 (by rw [hs2]; simp only [nI]; omega) (by rw [hs2]; simp [nI])]
    rw [hs2]
    simp only [nI]
    omega
   rw [cLt hi,J1,wI (show i < 4611686018427387904 by omega),Fz]
   by_cases hf:i < a1.length
   ·have hfa:V9 a1 i=Rp (List.getD a1 i 0):=if_pos hf
    rw [cLt hf,hfa]
    by_cases q0:(List.getD a1 i 0) < 0
    ·have hz:Rp (List.getD a1 i 0)=0:=if_pos q0
     rw [Af q0,Af h0,Af h1,Af (hsum 0 (by omega) (by omega)),Af hj,hz]
     rfl
    ·rw [Bd q0]
     by_cases q1:(List.getD a1 i 0) > 64
     ·have hz:Rp (List.getD a1 i 0)=64:=(if_neg q0).trans (if_pos q1)
      have c2:(64:Int)≤nI (ByteArray.size (List.getD a0.2.1 i (0,Ad,())).2.1):=by rw [hsz]; exact Int.le_refl _
      have c5:(64:Int)≤nI (ByteArray.size (List.getD s (Int.toNat (List.getD a0.2.1 i (0,Ad,())).1) (Ad))):=by rw [hs2]; exact Int.le_refl _
      rw [Af q1,Af c2,Af h0,Af h1,Af c5,Af (hsum 64 (by omega) (by omega)),Af hj,hz]
      rfl
     ·have hz:Rp (List.getD a1 i 0)=(List.getD a1 i 0):=(if_neg q0).trans (if_neg q1)
      have c1:0≤(List.getD a1 i 0):=by omega
      have c2:(List.getD a1 i 0)≤nI (ByteArray.size (List.getD a0.2.1 i (0,Ad,())).2.1):=by rw [hsz]; simp only [nI]; omega
      have c5:(List.getD a1 i 0)≤nI (ByteArray.size (List.getD s (Int.toNat (List.getD a0.2.1 i (0,Ad,())).1) (Ad))):=by rw [hs2]; simp only [nI]; omega
      rw [Bd q1,Af c1,Af c2,Af h0,Af h1,Af c5,Af (hsum _ c1 (by omega)),Af hj,hz]
      rfl
   ·have hfa:V9 a1 i=0:=if_neg hf
    have nf:¬ (i:Int) < nI a1.length:=by simp only [nI]; omega
    rw [Bd nf,Af h0,Af h1,Af (hsum 0 (by omega) (by omega)),Af hj,hfa]
    rfl) (fun i s hi hI=>hI.set (Av5 (k5 i hi).2.2 (hI.2 _ (by
   have q:=k5 i hi
   omega)) (Z5 a1 i).1 (Z5 a1 i).2)) (fun m s hI=>by
   show Cu (m + 1) a1 (a0.2.1.length:Int) [] [] s a0.2.1=_
   simp only [Cu,Ke]
   rw [Qd]
   rfl) (F7 a1 0 [] [] a0.1 a0.2.1) 0 a0.1 (by omega) (by simp [F7]) ⟨rfl,k4⟩
  have hL':Cu (F7 a1 0 [] [] a0.1 a0.2.1) a1 0 [] [] a0.1 a0.2.1=_:=hL
  rw [e1]
  show (Cu (F7 a1 0 [] [] a0.1 a0.2.1) a1 0 [] [] a0.1 a0.2.1).bind _=_
  rw [hL']
  rfl
def Zi {R:Type} (k:Kt R):=(L7 (Jy 6) (.exit 0) 2 k)
def Afb {R:Type}:Lt R Jy:=(Fp (pat:=Jy) 6 (fun d k=>(An7 d).bind (Zi k)) Ik)
theorem Ab9:A5 Tryz.prog Ab8:=Bb ⟨Jr,Qu,trivial⟩
theorem An8 {R:Type}:Ba Tryz.prog R 60 0 Jy Afb Zh:=
 Cn (cfg:=⟨Ab8,0,60,Jy⟩) 6 [] (fun NX X d=>(u4 (Ac (Ac Ah))) (Ke  NX X) d) (fun m d=>(u4 (Ac (Ac Ah))) (Cu m) d) (fun d=>(u4 (Ac (Ac Ah))) F7 d) Zi Ab9 trivial (fun f NX d=>by simp only [u4,Ac,Ah]; unfold Ke; simp only [nb])
theorem Aut:B8 Tryz.prog 228 Ab7:=
 A7 (pat:=Jy) [Zh] Afb Ab9 ⟨An8,trivial⟩ Tryz.func228 (de:=fun x=>Vf x.1 x.2.1) (fun x r h=>(Aus x.1 x.2.1).trans h) fun _=>by kernel_rfl
def A0f:Hh:=⟨[.rd I5,.rd (.sl tI)],[some 16,none],[.rd I5],[some 16]⟩
def Yv (a0:Bo) (a1:List Int):Option (((Bo×Unit)×(Unit))):=
 some (((a0.1,K3 a0.2.1 a1,false,(0,0,0,(0,0,0,0,()),0,0,([],()),()),a0.2.2.2.2),()),())
theorem Ah7:∃ f,f=@Yv:=⟨_,rfl⟩
def Fg:=Classical.choose Ah7
theorem Ah8:@Fg=@Yv:=Classical.choose_spec Ah7
def Ah9:SD:=⟨A0f,fun x=>Fg x.1 x.2.1⟩
theorem Alw (w:Bo) (f:List Int):Av (Fg w f) fun q=>q=((j7 w f,()),()):=by
 rw [Ah8]
 exact Av.some rfl
theorem A0g:B8 Tryz.prog 202 Ah9:=
 A7 (pat:=Ei) [] Ik (Bb (l:=[(228,Ab7)]) ⟨Aut,trivial⟩) trivial Tryz.func202 (de:=fun x=>Yv x.1 x.2.1) (fun x r h=>by have q:Fg x.1 x.2.1=some r:=h; rw [Ah8] at q; exact q) fun _=>by kernel_rfl
def I4 (s:Aa):Option Int:=if s.size≤7 then some (Aju s) else none
def Oc (v0:Aa) (v3 v4:Int):Nat:=(nI v0.size - v4).toNat + 1
def A5u:Hh:=⟨[.rd .str],[none],[.rd tI],[none]⟩
def x9:SD:=⟨A5u,fun x=>(I4 x.1).bind fun r=>some ((r,()),(()))⟩
def Alx:Tb:=tb []
def Od:Nat→Dq×(Nat→Dq):=Hk [(4,⟨[],[(0,.lf (.d .str)),(3,.lf (.d tI)),(4,.lf (.d tI))],[]⟩,[(2,⟨[],[(3,.lf (.d tI))],[]⟩)])]
def Afc:Code:=(Ax (Bm Tryz.f71)).getD 0 .skip
def Oe {R:Type}  (NX:((Aa)×(Int)×(Int)×Unit)→Option R) (X2:((Int)×Unit)→Option R) (v0:Aa) (v3:Int) (v4:Int):Option R:=
 bif decide (v4 < nI v0.size) then bif decide (0≤v4) then bif decide (v4 < nI v0.size) then NX (v0,IntKind.i64.wrap (IntKind.i64.wrap (v3 * 256) + IntKind.i64.wrap (Aq v0 v4)),IntKind.i64.wrap (v4 + 1),()) else none else none else X2 (v3,())
def Iu:Nat→(Aa)→(Int)→(Int) →  Option ((Int)×Unit)
 | 0,_,_,_=>none
 | m + 1,v0,v3,v4=>Oe  (fun d=>Iu m d.1 d.2.1 d.2.2.1) (fun d=>some (d)) v0 v3 v4
def Axi (d:(Aa)×(Int)×(Int)×Unit):Option ((Int)×Unit):=(Ac (Ac (Ac Ah))) (Iu ((Ac (Ac (Ac Ah))) Oc d)) d
def y5 (a0:Aa):Option ((((Int)×Unit)×(Unit))):=
 ((fun d=>Iu (Oc d.1 d.2.1 d.2.2.1) d.1 d.2.1 d.2.2.1) (a0,0,0,())).bind fun val=>some (val,())
theorem Azc (s:Aa) (hs:s.size≤7):∀ (k m i:Nat) (v:Int),i + k=s.size→k < m→0≤v→v < 256 ^ i→Iu m s v i=some (Bdo s k i v,())
 | 0,m + 1,i,v,hi,hm,h0,h1=>by
  simp only [Iu,Oe]
  rw [Bd (show ¬ ((i:Int) < nI s.size) by simp only [nI]; omega)]
  rfl
 | k + 1,m + 1,i,v,hi,hm,h0,h1=>by
  obtain ⟨hb,hs',e⟩:=Bmx s i hi (by omega) h0 h1
  simp only [Iu,Oe]
  have c1:(i:Int) < nI s.size:=by simp only [nI]; omega
  rw [Af c1,Af (show (0:Int)≤(i:Int) by omega),wI (show i < 4611686018427387904 by omega),e]
  exact Azc s hs k m (i + 1) _ (by omega) (by omega) hb hs'
theorem A5v (a0:Aa) r (h:I4 a0=some r):y5 a0=some ((r,()),(())):=by
 unfold I4 at h
 split at h
 ·rename_i hc
  cases h
  unfold y5
  have hL:=Azc a0 hc a0.size (Oc a0 0 0) 0 0 (by omega) (by simp only [Oc,nI]; omega) (by omega) (by decide)
  exact bi_ hL rfl
 ·cases h
def Afd {R:Type} (k:Kt R):=(L7 (Od 4) (.exit 0) 2 k)
def Apo {R:Type}:Lt R Od:=(Fp (pat:=Od) 4 (fun d k=>(Axi d).bind (Afd k)) Ik)
theorem Aly:A5 Tryz.prog Alx:=Bb trivial
theorem Axj {R:Type}:Ba Tryz.prog R 19 0 Od Apo Afc:=
 Cn (cfg:=⟨Alx,0,19,Od⟩) 4 [] (fun NX X d=>(Ac (Ac (Ac Ah))) (Oe  NX X) d) (fun m d=>(Ac (Ac (Ac Ah))) (Iu m) d) (fun d=>(Ac (Ac (Ac Ah))) Oc d) Afd Aly trivial (fun f NX d=>by simp only [u4,Ac,Ah]; unfold Oe; simp only [nb])
theorem Alz:B8 Tryz.prog 71 x9:=
 A7 (pat:=Od) [Afc] Apo Aly ⟨Axj,trivial⟩ Tryz.func71 (de:=fun x=>y5 x.1) (fun x r h=>Hf (A5v x.1) h) fun _=>by kernel_rfl
def Am (s:Aa) (w:Int):Pg×Bool:=Ay s w
def Axk:Hh:=⟨[.rd .str,.rd tI],[none,none],[.rd yPg,.rd .bool],[some 4,none]⟩
def Ri:SD:=⟨Axk,fun x=>some (((Am x.1 x.2.1).1,(Am x.1 x.2.1).2,()),(()))⟩
def W4 (a0:Aa) (a1:Int):Option (((Pg×(Bool)×Unit)×(Unit))):=
 (Co a1).bind fun val=>bif !val.1.1 then some (((0,0,0,Ad,()),false,()),()) else bif nI a0.size != 64 then some (((0,0,0,Ad,()),false,()),()) else bif decide (0≤a1) then bif decide (a1≤nI a0.size) then bif decide (7 < nI (Ag a0 a1 (nI a0.size)).size) then bif decide (IntKind.i64.wrap (Aq (Ag a0 a1 (nI a0.size)) 7) > IntKind.i64.wrap (IntKind.i64.wrap (64 - a1) - 8)) then some (((0,0,0,Ad,()),false,()),()) else bif decide (0 < nI (Ag a0 a1 (nI a0.size)).size) then bif decide (3≤nI (Ag a0 a1 (nI a0.size)).size) then ((I4 (Ag (Ag a0 a1 (nI a0.size)) 1 3)).bind fun val=>some ((val,()),())).bind fun val=>bif decide (7≤nI (Ag a0 a1 (nI a0.size)).size) then ((I4 (Ag (Ag a0 a1 (nI a0.size)) 3 7)).bind fun val=>some ((val,()),())).bind fun val_1=>bif decide (8≤IntKind.i64.wrap (8 + IntKind.i64.wrap (Aq (Ag a0 a1 (nI a0.size)) 7))) then bif decide (IntKind.i64.wrap (8 + IntKind.i64.wrap (Aq (Ag a0 a1 (nI a0.size)) 7))≤nI (Ag a0 a1 (nI a0.size)).size) then bif !(Dx (IntKind.i64.wrap (Aq (Ag a0 a1 (nI a0.size)) 0),val.1.1,val_1.1.1,Ag (Ag a0 a1 (nI a0.size)) 8 (IntKind.i64.wrap (8 + IntKind.i64.wrap (Aq (Ag a0 a1 (nI a0.size)) 7))),()) a1).toList==a0.toList then some (((0,0,0,Ad,()),false,()),()) else some (((IntKind.i64.wrap (Aq (Ag a0 a1 (nI a0.size)) 0),val.1.1,val_1.1.1,Ag (Ag a0 a1 (nI a0.size)) 8 (IntKind.i64.wrap (8 + IntKind.i64.wrap (Aq (Ag a0 a1 (nI a0.size)) 7))),()),true,()),()) else none else none else none else none else none else none else none else none
theorem Axl (a0:Aa) (a1:Int):W4 a0 a1=some (((Am a0 a1).1,(Am a0 a1).2,()),(())):=by
 unfold W4 Am Ay
 refine bi_ (wid a1) ?_
 show (bif !Bq a1 1 8 then _ else (bif nI a0.size != 64 then _ else _))=_
 cases hz:nI a0.size != 64 with
 | true=>cases Bq a1 1 8<;>rfl
 | false=>
   cases hw:Bq a1 1 8 with
   | false=>rfl
   | true=>
    have k1:=(Cw hw).1
    have k2:=(Cw hw).2
    have hs:a0.size=64:=by
     by_cases q:nI a0.size=64
     ·simp only [nI] at q; omega
     ·rw [(bne_iff_ne).2 q] at hz; cases hz
    have hb:(Ag a0 a1 (nI a0.size)).size=(64 - a1).toNat:=by rw [Da (by omega) (by simp only [nI]; omega) (by simp [nI])]; simp only [nI,hs]; omega
    simp only [Bool.not_true,cond_false,cond_true]
    rw [Af (show (0:Int)≤a1 by omega),Af (show a1≤nI a0.size by simp only [nI]; omega)]
    unfold Bgn
    generalize Ag a0 a1 (nI a0.size)=b at *
    obtain ⟨b0,b1⟩:=Jn b 7
    obtain ⟨c0,c1⟩:=Jn b 0
    have hB:nI b.size=64 - a1:=by simp only [nI]; omega
    rw [hB,Af (show (7:Int) < 64 - a1 by omega),Af (show (0:Int) < 64 - a1 by omega),Af (show (3:Int)≤64 - a1 by omega),Af (show (7:Int)≤64 - a1 by omega),Aj (n:=Aq b 7) (by omega) (by omega),Aj (n:=Aq b 0) (by omega) (by omega),Aj (n:=64 - a1) (by omega) (by omega),Aj (n:=64 - a1 - 8) (by omega) (by omega),Aj (n:=8 + Aq b 7) (by omega) (by omega),show 64 - a1 - 8=56 - a1 by omega]
    by_cases q:Aq b 7 > 56 - a1
    ·rw [Af q]; rfl
    ·rw [Bd q]
     have n1:I4 (Ag b 1 3)=some (Aju (Ag b 1 3)):=if_pos (by rw [Da (by omega) (by omega) (by omega)]; decide)
     have n2:I4 (Ag b 3 7)=some (Aju (Ag b 3 7)):=if_pos (by rw [Da (by omega) (by omega) (by omega)]; decide)
     simp only [n1,n2,Option.bind_some,cond_true,cond_false]
     rw [Af (show 8≤8 + Aq b 7 by omega),Af (show 8 + Aq b 7≤64 - a1 by omega)]
     show (bif !(ByteArray.toList (Ca (Bgm b) a1)==ByteArray.toList a0) then _ else _)=_
     cases (ByteArray.toList (Ca (Bgm b) a1)==ByteArray.toList a0)<;>rfl
theorem W5:B8 Tryz.prog 16 Ri:=
 A7 (pat:=Ei) [] Ik (Bb (l:=[(65,Dv),(70,Uh),(71,x9),(72,Kz)]) ⟨Ej,l7,Alz,N2,trivial⟩) trivial Tryz.func16 (de:=fun x=>W4 x.1 x.2.1) (fun x r h=>(Axl x.1 x.2.1).trans h) fun _=>by kernel_rfl
def J4 (r:Rt) (w:Int):Aa:=B5 r w
def Axm:Hh:=⟨[.rd yRt,.rd tI],[some 4,none],[.rd .str],[none]⟩
def W6:SD:=⟨Axm,fun x=>some (((J4 x.1 x.2.1),()),(()))⟩
def W7 (a0:Rt) (a1:Int):Option ((((Aa)×Unit)×(Unit))):=
 bif decide (a0.2.1 < 0) then some ((Ad,()),()) else bif decide (a0.2.1 > 1) then some ((Ad,()),()) else bif decide (a0.2.2.1 < 1) then some ((Ad,()),()) else bif decide (a0.2.2.1 > 999999000) then some ((Ad,()),()) else ((Ch a0.2.1 1).bind fun val=>some ((val,()),())).bind fun val=>((Ch a0.2.2.1 4).bind fun val=>some ((val,()),())).bind fun val_1=>bif decide (ByteArray.size val.1.1 + ByteArray.size val_1.1.1≤9223372036854775807) then some ((Dx (4,a0.2.2.2.1,a0.1,val.1.1++val_1.1.1,()) a1,()),()) else none
theorem Axn (a0:Rt) (a1:Int):W7 a0 a1=some (((J4 a0 a1),()),(())):=by
 unfold W7 J4 B5 I6
 rw [A3g a0.2.1,A3g a0.2.2.1]
 cases h1:Bq a0.2.1 0 1 with
 | false=>rfl
 | true=>
  cases h2:Bq a0.2.2.1 1 999999000 with
  | false=>rfl
  | true=>
   have q1:=Cw h1
   have q2:=Cw h2
   have n1:Ch a0.2.1 1=some (Dm a0.2.1 1):=(Ir _ _).trans (if_pos (by omega))
   have n2:Ch a0.2.2.1 4=some (Dm a0.2.2.1 4):=(Ir _ _).trans (if_pos (by omega))
   simp only [n1,n2,Option.bind_some,cond_true]
   rw [K9,K9,Af (show 1 + 4≤9223372036854775807 by decide)]
   rfl
theorem Afe:B8 Tryz.prog 191 W6:=
 A7 (pat:=Ei) [] Ik (Bb (l:=[(72,Kz),(160,Ws)]) ⟨N2,Aes,trivial⟩) trivial Tryz.func191 (de:=fun x=>W7 x.1 x.2.1) (fun x r h=>(Axn x.1 x.2.1).trans h) fun _=>by kernel_rfl
def Ev (s:Aa) (at' w:Int):Rt×Bool:=
 bif (Ay s w).2&&decide ((Ay s w).1.2.2.2.1.size=5) then (Fr (Ay s w).1,((B5 (Fr (Ay s w).1) w).toList==s.toList)&&(Int.tmod (Ay s w).1.2.2.1 2==at')) else ((0,0,0,0,()),false)
def Bb4:Hh:=⟨[.rd .str,.rd tI,.rd tI],[none,none,none],[.rd yRt,.rd .bool],[some 4,none]⟩
def Auu:SD:=⟨Bb4,fun x=>some (((Ev x.1 x.2.1 x.2.2.1).1,(Ev x.1 x.2.1 x.2.2.1).2,()),(()))⟩
def Ag3 (a0:Aa) (a1 a2:Int):Option (((Rt×(Bool)×Unit)×(Unit))):=
 bif !(Am a0 a2).2 then some (((0,0,0,0,()),false,()),()) else bif nI (ByteArray.size (Am a0 a2).1.2.2.2.1) != 5 then some (((0,0,0,0,()),false,()),()) else bif decide (0 < nI (ByteArray.size (Am a0 a2).1.2.2.2.1)) then bif decide (1≤nI (ByteArray.size (Am a0 a2).1.2.2.2.1)) then ((I4 (Ag (Am a0 a2).1.2.2.2.1 1 (nI (ByteArray.size (Am a0 a2).1.2.2.2.1)))).bind fun val=>some ((val,()),())).bind fun val=>bif (J4 ((Am a0 a2).1.2.2.1,IntKind.i64.wrap (Aq (Am a0 a2).1.2.2.2.1 0),val.1.1,(Am a0 a2).1.2.1,()) a2).toList==a0.toList then some ((((Am a0 a2).1.2.2.1,IntKind.i64.wrap (Aq (Am a0 a2).1.2.2.2.1 0),val.1.1,(Am a0 a2).1.2.1,()),Int.tmod (Am a0 a2).1.2.2.1 2==a1,()),()) else some ((((Am a0 a2).1.2.2.1,IntKind.i64.wrap (Aq (Am a0 a2).1.2.2.2.1 0),val.1.1,(Am a0 a2).1.2.1,()),false,()),()) else none else none
theorem Bb5 (a0:Aa) (a1 a2:Int):Ag3 a0 a1 a2=some (((Ev a0 a1 a2).1,(Ev a0 a1 a2).2,()),(())):=by
 unfold Ag3 Ev
 have e:Am a0 a2=Ay a0 a2:=rfl
 rw [e]
 generalize Ay a0 a2=p
 obtain ⟨g,o⟩:=p
 cases o
 ·rfl
 ·by_cases h5:g.2.2.2.1.size=5
  ·have n1:I4 (Ag g.2.2.2.1 1 (nI g.2.2.2.1.size))=some (Aju (Ag g.2.2.2.1 1 (nI g.2.2.2.1.size))):=if_pos (by rw [Da (by omega) (by simp only [nI]; omega) (by simp [nI])]; simp only [nI]; omega)
   obtain ⟨b0,b1⟩:=Jn g.2.2.2.1 0
   simp only [n1,Option.bind_some,Bool.not_true,cond_false,Bool.true_and]
   rw [bne_eq_false_iff_eq.2 (show nI g.2.2.2.1.size=5 by simp only [nI]; omega),Af h5,Af (show 0 < nI g.2.2.2.1.size by simp only [nI]; omega),Af (show 1≤nI g.2.2.2.1.size by simp only [nI]; omega),Aj (n:=Aq g.2.2.2.1 0) (by omega) (by omega)]
   show (bif (ByteArray.toList (B5 (Fr g) a2)==ByteArray.toList a0) then _ else _)=_
   cases hq:(ByteArray.toList (B5 (Fr g) a2)==ByteArray.toList a0)<;>rfl
  ·simp only [Bool.not_true,cond_false,Bool.true_and]
   rw [bne_iff_ne.2 (show nI g.2.2.2.1.size≠5 by simp only [nI]; omega),Bd h5]
   rfl
theorem Bb6:B8 Tryz.prog 188 Auu:=
 A7 (pat:=Ei) [] Ik (Bb (l:=[(16,Ri),(71,x9),(191,W6)]) ⟨W5,Alz,Afe,trivial⟩) trivial Tryz.func188 (de:=fun x=>Ag3 x.1 x.2.1 x.2.2.1) (fun x r h=>(Bb5 x.1 x.2.1 x.2.2.1).trans h) fun _=>by kernel_rfl
def An (d:Dk) (w:Int):Rt:=At d w
def Te (v1 v7:Int) (b0_0 b0_1 b0_2 b0_3:Int) (b1_0:List Aa) (b1_1:List Wr) (b2_0 b2_1 b2_2 b2_3:Int):Nat:=3
def Axo:Hh:=⟨[.rd yDk,.rd tI],[some 2,none],[.rd yRt],[some 4]⟩
def Aff:SD:=⟨Axo,fun x=>some (((An x.1 x.2.1),()),(()))⟩
def Afg:Tb:=tb [(65,Dv),(66,Ho),(186,Ve),(187,N7),(188,Auu)]
def K4:Nat→Dq×(Nat→Dq):=Hk [(7,⟨[.boxSl 5 0 .str,.boxSl 5 1 Ew],[(1,.lf (.d tI)),(4,.lf (.ptr 0 0)),(5,.lf (.ptr 1 0)),(6,.lf (.ptr 2 0)),(7,.lf (.d tI))],[.box 28 [.d tI,.d tI,.d tI,.d tI],.box 26 [.d (.sl .str),.d (.sl Ew)],.box 28 [.d tI,.d tI,.d tI,.d tI]]⟩,[(2,⟨[],[(4,.lf (.ptr 0 0)),(6,.lf (.ptr 1 0))],[.box 28 [.d tI,.d tI,.d tI,.d tI],.box 28 [.d tI,.d tI,.d tI,.d tI]]⟩)])]
def y6:Code:=(Ax (Bm Tryz.f107)).getD 0 .skip
def O6 {R:Type}  (NX:((Int)×(Int)×(Int)×(Int)×(Int)×(Int)×(List Aa)×(List Wr)×(Int)×(Int)×(Int)×(Int)×Unit)→Option R) (X2:((Int)×(Int)×(Int)×(Int)×(Int)×(Int)×(Int)×(Int)×Unit)→Option R) (v1:Int) (v7:Int) (b0_0:Int) (b0_1:Int) (b0_2:Int) (b0_3:Int) (b1_0:List Aa) (b1_1:List Wr) (b2_0:Int) (b2_1:Int) (b2_2:Int) (b2_3:Int):Option R:=
 bif decide (v7 < 2) then bif decide (0≤v7) then bif decide (v7 < nI b1_0.length) then bif (Ev (b1_0.getD v7.toNat (Ad)) v7 v1).2 then bif decide ((Ev (b1_0.getD v7.toNat (Ad)) v7 v1).1.1 > b2_0) then NX (v1,IntKind.i64.wrap (v7 + 1),b0_0,b0_1,b0_2,b0_3,b1_0,b1_1,(Ev (b1_0.getD v7.toNat (Ad)) v7 v1).1) else NX (v1,IntKind.i64.wrap (v7 + 1),b0_0,b0_1,b0_2,b0_3,b1_0,b1_1,b2_0,b2_1,b2_2,b2_3,()) else NX (v1,IntKind.i64.wrap (v7 + 1),b0_0,b0_1,b0_2,b0_3,b1_0,b1_1,b2_0,b2_1,b2_2,b2_3,()) else none else none else X2 (b0_0,b0_1,b0_2,b0_3,b2_0,b2_1,b2_2,b2_3,())
def G6:Nat→(Int)→(Int)→(Int)→(Int)→(Int)→(Int)→(List Aa)→(List Wr)→(Int)→(Int)→(Int)→(Int) →  Option ((Int)×(Int)×(Int)×(Int)×(Int)×(Int)×(Int)×(Int)×Unit)
 | 0,_,_,_,_,_,_,_,_,_,_,_,_=>none
 | m + 1,v1,v7,b0_0,b0_1,b0_2,b0_3,b1_0,b1_1,b2_0,b2_1,b2_2,b2_3=>O6  (fun d=>G6 m d.1 d.2.1 d.2.2.1 d.2.2.2.1 d.2.2.2.2.1 d.2.2.2.2.2.1 d.2.2.2.2.2.2.1 d.2.2.2.2.2.2.2.1 d.2.2.2.2.2.2.2.2.1 d.2.2.2.2.2.2.2.2.2.1 d.2.2.2.2.2.2.2.2.2.2.1 d.2.2.2.2.2.2.2.2.2.2.2.1) (fun d=>some (d)) v1 v7 b0_0 b0_1 b0_2 b0_3 b1_0 b1_1 b2_0 b2_1 b2_2 b2_3
def Arq (d:(Int)×(Int)×(Int)×(Int)×(Int)×(Int)×(List Aa)×(List Wr)×(Int)×(Int)×(Int)×(Int)×Unit):Option ((Int)×(Int)×(Int)×(Int)×(Int)×(Int)×(Int)×(Int)×Unit):=(u4 (u4 (u4 Ah))) (G6 ((u4 (u4 (u4 Ah))) Te d)) d
def W8 (a0:Dk) (a1:Int):Option (((Rt×Unit)×(Unit))):=
 bif !Ft a0 then some (((0,0,0,0,()),()),()) else (Co a1).bind fun val=>bif !val.1.1 then some (((0,0,0,0,()),()),()) else ((Eu a0).bind fun val=>some (val,())).bind fun val=>((I3 val.1).bind fun val=>some (val,())).bind fun val=>((fun d=>G6 (Te d.1 d.2.1 d.2.2.1 d.2.2.2.1 d.2.2.2.2.1 d.2.2.2.2.2.1 d.2.2.2.2.2.2.1 d.2.2.2.2.2.2.2.1 d.2.2.2.2.2.2.2.2.1 d.2.2.2.2.2.2.2.2.2.1 d.2.2.2.2.2.2.2.2.2.2.1 d.2.2.2.2.2.2.2.2.2.2.2.1) d.1 d.2.1 d.2.2.1 d.2.2.2.1 d.2.2.2.2.1 d.2.2.2.2.2.1 d.2.2.2.2.2.2.1 d.2.2.2.2.2.2.2.1 d.2.2.2.2.2.2.2.2.1 d.2.2.2.2.2.2.2.2.2.1 d.2.2.2.2.2.2.2.2.2.2.1 d.2.2.2.2.2.2.2.2.2.2.2.1) (a1,0,0,0,0,0,val.1.1,val.1.2.1,0,0,1,0,())).bind fun val=>some ((val.2.2.2.2,()),())
theorem Bp5 (s:Aa) (w:Int) (i:Nat) (b:Rt):(bif (Ev s i w).2 then (bif decide ((Ev s i w).1.1 > b.1) then (Ev s i w).1 else b) else b)=Hl s w i b:=by
 unfold Ev Hl
 have hf:=@Sp s w
 have hr:=@Bkm s w
 generalize Ay s w=p at *
 obtain ⟨g,o⟩:=p
 cases o
 ·rfl
 ·obtain ⟨_,_,_,hp⟩:=hf rfl
  obtain ⟨_,_,r3,_⟩:=Ajy hp
  by_cases h5:g.2.2.2.1.size=5
  ·have hr:=hr rfl h5
   simp only [Af h5,Bool.true_and,cond_true,hr]
   rw [Int.tmod_eq_emod_of_nonneg (by omega)]
   have e:(Fr g).1=g.2.2.1:=rfl
   rw [e]
   cases (g.1==4)<;>cases I6 (Fr g)<;>cases (g.2.2.1 % 2==(i:Int))<;>cases decide (g.2.2.1 > b.1)<;>rfl
  ·simp only [Bd h5,Bool.true_and,cond_false,Bool.and_false,Bool.false_and]
theorem Bfg (X:List Aa) (P:List Wr) (w:Int) (i:Nat) (hi:i < 2) (hX:2≤X.length) (m:Nat) (x1 x2 x3 x4:Int) (b:Rt):
  G6 (m + 1) w i x1 x2 x3 x4 X P b.1 b.2.1 b.2.2.1 b.2.2.2.1=G6 m w ((i + 1:Nat):Int) x1 x2 x3 x4 X P (Hl (X.getD i z0) w i b).1 (Hl (X.getD i z0) w i b).2.1 (Hl (X.getD i z0) w i b).2.2.1 (Hl (X.getD i z0) w i b).2.2.2.1:=by
 simp only [G6,O6]
 rw [Af (show (i:Int) < 2 by omega),J1,Af (show (i:Int) < nI X.length by simp only [nI]; omega),wI (show i < 4611686018427387904 by omega),Fz,← Bp5]
 show (bif (Ev (X.getD i z0) i w).2 then (bif decide ((Ev (X.getD i z0) i w).1.1 > b.1) then _ else _) else _)=_
 cases (Ev (X.getD i z0) i w).2
 ·rfl
 ·cases decide ((Ev (X.getD i z0) i w).1.1 > b.1)<;>rfl
theorem Axp (a0:Dk) (a1:Int):W8 a0 a1=some (((An a0 a1),()),(())):=by
 unfold W8 An At
 show (bif !Ap a0 then _ else _)=_
 cases hv:Ap a0 with
 | false=>rfl
 | true=>
  refine bi_ (wid a1) ?_
  show (bif !Bq a1 1 8 then _ else _)=_
  cases hw:Bq a1 1 8 with
  | false=>rfl
  | true=>
   obtain ⟨k1,k2,k3,k4,k5⟩:=Ki hv
   have e1:Eu (a0.1,a0.2.1,())=some a0:=if_pos ⟨by show a0.1.length≤_; omega,by show a0.2.1.length≤_; omega⟩
   have e2:I3 (a0.1,a0.2.1,())=some (A81 a0):=if_pos ⟨by show a0.2.1.length≤_; omega,fun i hi=>⟨(k5 i hi).1,(k5 i hi).2.1⟩⟩
   have hlen:(Hb a0.1 a0.2.1).length=a0.1.length:=T9 _ _
   have hg:∀ i:Nat,i < 2→(Hb a0.1 a0.2.1).getD i z0=V8 a0 i:=fun i hi=>Bdp a0.1 i (by omega) a0.2.1 (fun w hw=>by
    obtain ⟨j,hj,rfl⟩:=Xn zW hw
    exact (k5 j hj).1)
   have h1:=Bfg (Hb a0.1 a0.2.1) [] a1 0 (by omega) (by omega) 2 0 0 0 0 (0,0,1,0,())
   have h2:=Bfg (Hb a0.1 a0.2.1) [] a1 1 (by omega) (by omega) 1 0 0 0 0 (Hl ((Hb a0.1 a0.2.1).getD 0 z0) a1 (0:Nat) (0,0,1,0,()))
   have h3:=h1.trans h2
   rw [hg 0 (by omega),hg 1 (by omega)] at h3
   simp only [e1,e2,Option.bind_some,Bool.not_true,cond_false]
   exact bi_ h3 rfl
def y7 {R:Type} (k:Kt R):=(L7 (K4 7) (.exit 0) 2 k)
def Aia {R:Type}:Lt R K4:=(Fp (pat:=K4) 7 (fun d k=>(Arq d).bind (y7 k)) Ik)
theorem Afh:A5 Tryz.prog Afg:=Bb ⟨Ej,Jr,x8,Qu,Bb6,trivial⟩
theorem Arr {R:Type}:Ba Tryz.prog R 48 0 K4 Aia y6:=
 Cn (cfg:=⟨Afg,0,48,K4⟩) 7 [] (fun NX X d=>(u4 (u4 (u4 Ah))) (O6  NX X) d) (fun m d=>(u4 (u4 (u4 Ah))) (G6 m) d) (fun d=>(u4 (u4 (u4 Ah))) Te d) y7 Afh trivial (fun f NX d=>by simp only [u4,Ac,Ah]; unfold O6; simp only [nb])
theorem Axq:B8 Tryz.prog 107 Aff:=
 A7 (pat:=K4) [y6] Aia Afh ⟨Arr,trivial⟩ Tryz.func107 (de:=fun x=>W8 x.1 x.2.1) (fun x r h=>(Axp x.1 x.2.1).trans h) fun _=>by kernel_rfl
def Sa (was p:Pg):Bool:=Xp was.1 was.2.1 p
def A5w:Hh:=⟨[.rd yPg,.rd yPg],[some 4,some 4],[.rd .bool],[none]⟩
def Al0:SD:=⟨A5w,fun x=>some (((Sa x.1 x.2.1),()),(()))⟩
def y8 (a0 a1:Pg):Option ((((Bool)×Unit)×(Unit))):=
 bif decide (a1.2.1 < a0.2.1) then some ((false,()),()) else bif a1.1==3 then some ((a0.1 != 1,()),()) else bif a1.1==1 then bif a0.1 != 1 then some ((true,()),()) else some ((a0.2.1==a1.2.1,()),()) else bif a1.1==2 then bif a0.1 != 1 then some ((true,()),()) else some ((a0.2.1==a1.2.1,()),()) else some ((false,()),())
theorem A5x (a0 a1:Pg):y8 a0 a1=some (((Sa a0 a1),()),(())):=by
 unfold y8 Sa Xp
 cases decide (a1.2.1 < a0.2.1)<;>cases (a1.1==3)<;>cases (a1.1==1)<;>cases (a1.1==2)<;>cases (a0.1 != 1)<;>rfl
theorem A5y:B8 Tryz.prog 189 Al0:=
 A7 (pat:=Ei) [] Ik (Bb (l:=[]) trivial) trivial Tryz.func189 (de:=fun x=>y8 x.1 x.2.1) (fun x r h=>(A5x x.1 x.2.1).trans h) fun _=>by kernel_rfl
def Dt (d:Dk) (from_ size first life w:Int):Scd:=Ua d from_ size first life w
def Bb7:Hh:=⟨[.rd yDk,.rd tI,.rd tI,.rd tI,.rd tI,.rd tI],[some 2,none,none,none,none,none],[.own 9 .str,.rd tI,.rd tI],[some 3]⟩
def Auv:SD:=⟨Bb7,fun x=>some (((Dt x.1 x.2.1 x.2.2.1 x.2.2.2.1 x.2.2.2.2.1 x.2.2.2.2.2.1).1,(Dt x.1 x.2.1 x.2.2.1 x.2.2.2.1 x.2.2.2.2.1 x.2.2.2.2.2.1).2.1,(Dt x.1 x.2.1 x.2.2.1 x.2.2.2.1 x.2.2.2.2.1 x.2.2.2.2.2.1).2.2.1,()),(()))⟩
def Auw:Tb:=tb [(16,Ri),(65,Dv),(66,Ho),(186,Ve),(187,N7),(189,Al0)]
def O7:Nat→Dq×(Nat→Dq):=Hk [(9,⟨[.boxRow 12 0 9 .str,.boxSl 13 0 .str,.boxSl 13 1 Ew,.boxRow 14 0 9 .str],[(1,.lf (.d tI)),(2,.lf (.d tI)),(3,.lf (.d tI)),(5,.lf (.d tI)),(12,.lf (.ptr 0 0)),(13,.lf (.ptr 1 0)),(14,.lf (.ptr 2 0)),(15,.lf (.ptr 3 0)),(16,.lf (.d .str)),(17,.lf (.d tI))],[.box 135 [.row 4,.d tI,.d tI],.box 26 [.d (.sl .str),.d (.sl Ew)],.box 135 [.row 5,.d tI,.d tI],.box 41 [.d tI,.d tI,.d tI,.d .str],.row 9 .str,.row 9 .str]⟩,[(2,⟨[.boxRow 12 0 9 .str,.boxRow 14 0 9 .str],[(12,.lf (.ptr 0 0)),(14,.lf (.ptr 1 0))],[.box 135 [.row 2,.d tI,.d tI],.box 135 [.row 3,.d tI,.d tI],.row 9 .str,.row 9 .str]⟩),(1,⟨[.boxRow 12 0 9 .str],[(12,.lf (.ptr 0 0))],[.box 135 [.row 1,.d tI,.d tI],.row 9 .str]⟩)])]
def Al1:Code:=(Ax (Bm Tryz.f108)).getD 0 .skip
def Lw (v1 v2:Int) (v3 v5:Int) (v16:Aa) (v17 b0_1 b0_2:Int) (b1_0:List Aa) (b1_1:List Wr) (b2_1 b2_2:Int) (b3_0 b3_1 b3_2:Int) (b3_3:Aa) (r4 r5:List Aa):Nat:=(v2 - v17).toNat + 1
def Qv {R:Type}  (NX:((Int)×(Int)×(Int)×(Int)×(Aa)×(Int)×(Int)×(Int)×(List Aa)×(List Wr)×(Int)×(Int)×(Int)×(Int)×(Int)×(Aa)×(List Aa)×(List Aa)×Unit)→Option R) (X2:((Int)×(Int)×(Int)×(Int)×(List Aa)×(List Aa)×Unit)→Option R) (X1:((Int)×(Int)×(List Aa)×Unit)→Option R) (v1:Int) (v2:Int) (v3:Int) (v5:Int) (v16:Aa) (v17:Int) (b0_1:Int) (b0_2:Int) (b1_0:List Aa) (b1_1:List Wr) (b2_1:Int) (b2_2:Int) (b3_0:Int) (b3_1:Int) (b3_2:Int) (b3_3:Aa) (r4:List Aa) (r5:List Aa):Option R:=
 bif decide (v17 < v2) then bif decide (0≤IntKind.i64.wrap (v1 + v17)) then bif decide (IntKind.i64.wrap (v1 + v17) < nI b1_0.length) then bif !(Am (b1_0.getD (IntKind.i64.wrap (v1 + v17)).toNat (Ad)) v5).2 then X1 (b2_1,b2_2,r5,()) else bif IntKind.i64.wrap ((Am (b1_0.getD (IntKind.i64.wrap (v1 + v17)).toNat (Ad)) v5).1.2.2.1 - v17) != v3 then X1 (b2_1,b2_2,r5,()) else bif !Sa (b3_0,b3_1,b3_2,b3_3,()) (Am (b1_0.getD (IntKind.i64.wrap (v1 + v17)).toNat (Ad)) v5).1 then X1 (b2_1,b2_2,r5,()) else bif decide (v16.size + ByteArray.size (Am (b1_0.getD (IntKind.i64.wrap (v1 + v17)).toNat (Ad)) v5).1.2.2.2.1≤9223372036854775807) then bif (Am (b1_0.getD (IntKind.i64.wrap (v1 + v17)).toNat (Ad)) v5).1.1==1 then NX (v1,v2,v3,v5,v16++(Am (b1_0.getD (IntKind.i64.wrap (v1 + v17)).toNat (Ad)) v5).1.2.2.2.1,IntKind.i64.wrap (v17 + 1),b0_1,b0_2,b1_0,b1_1,b2_1,b2_2,(Am (b1_0.getD (IntKind.i64.wrap (v1 + v17)).toNat (Ad)) v5).1.1,(Am (b1_0.getD (IntKind.i64.wrap (v1 + v17)).toNat (Ad)) v5).1.2.1,(Am (b1_0.getD (IntKind.i64.wrap (v1 + v17)).toNat (Ad)) v5).1.2.2.1,(Am (b1_0.getD (IntKind.i64.wrap (v1 + v17)).toNat (Ad)) v5).1.2.2.2.1,r4,r5,()) else bif (Am (b1_0.getD (IntKind.i64.wrap (v1 + v17)).toNat (Ad)) v5).1.1==2 then bif decide ((r5.length + [v16++(Am (b1_0.getD (IntKind.i64.wrap (v1 + v17)).toNat (Ad)) v5).1.2.2.2.1].length) * 16≤140737488355328) then NX (v1,v2,v3,v5,Ad,IntKind.i64.wrap (v17 + 1),b0_1,b0_2,b1_0,b1_1,IntKind.i64.wrap (v17 + 1),(Am (b1_0.getD (IntKind.i64.wrap (v1 + v17)).toNat (Ad)) v5).1.2.1,(Am (b1_0.getD (IntKind.i64.wrap (v1 + v17)).toNat (Ad)) v5).1.1,(Am (b1_0.getD (IntKind.i64.wrap (v1 + v17)).toNat (Ad)) v5).1.2.1,(Am (b1_0.getD (IntKind.i64.wrap (v1 + v17)).toNat (Ad)) v5).1.2.2.1,(Am (b1_0.getD (IntKind.i64.wrap (v1 + v17)).toNat (Ad)) v5).1.2.2.2.1,r4,r5++[v16++(Am (b1_0.getD (IntKind.i64.wrap (v1 + v17)).toNat (Ad)) v5).1.2.2.2.1],()) else none else NX (v1,v2,v3,v5,Ad,IntKind.i64.wrap (v17 + 1),b0_1,b0_2,b1_0,b1_1,IntKind.i64.wrap (v17 + 1),(Am (b1_0.getD (IntKind.i64.wrap (v1 + v17)).toNat (Ad)) v5).1.2.1,(Am (b1_0.getD (IntKind.i64.wrap (v1 + v17)).toNat (Ad)) v5).1.1,(Am (b1_0.getD (IntKind.i64.wrap (v1 + v17)).toNat (Ad)) v5).1.2.1,(Am (b1_0.getD (IntKind.i64.wrap (v1 + v17)).toNat (Ad)) v5).1.2.2.1,(Am (b1_0.getD (IntKind.i64.wrap (v1 + v17)).toNat (Ad)) v5).1.2.2.2.1,r4,r5,()) else none else none else none else X2 (b0_1,b0_2,b2_1,b2_2,r4,r5,())
def Hw:Nat→(Int)→(Int)→(Int)→(Int)→(Aa)→(Int)→(Int)→(Int)→(List Aa)→(List Wr)→(Int)→(Int)→(Int)→(Int)→(Int)→(Aa)→(List Aa)→(List Aa) →  Option (((Int)×(Int)×(Int)×(Int)×(List Aa)×(List Aa)×Unit) ⊕ ((Int)×(Int)×(List Aa)×Unit))
 | 0,_,_,_,_,_,_,_,_,_,_,_,_,_,_,_,_,_,_=>none
 | m + 1,v1,v2,v3,v5,v16,v17,b0_1,b0_2,b1_0,b1_1,b2_1,b2_2,b3_0,b3_1,b3_2,b3_3,r4,r5=>Qv  (fun d=>Hw m d.1 d.2.1 d.2.2.1 d.2.2.2.1 d.2.2.2.2.1 d.2.2.2.2.2.1 d.2.2.2.2.2.2.1 d.2.2.2.2.2.2.2.1 d.2.2.2.2.2.2.2.2.1 d.2.2.2.2.2.2.2.2.2.1 d.2.2.2.2.2.2.2.2.2.2.1 d.2.2.2.2.2.2.2.2.2.2.2.1 d.2.2.2.2.2.2.2.2.2.2.2.2.1 d.2.2.2.2.2.2.2.2.2.2.2.2.2.1 d.2.2.2.2.2.2.2.2.2.2.2.2.2.2.1 d.2.2.2.2.2.2.2.2.2.2.2.2.2.2.2.1 d.2.2.2.2.2.2.2.2.2.2.2.2.2.2.2.2.1 d.2.2.2.2.2.2.2.2.2.2.2.2.2.2.2.2.2.1) (fun d=>some (.inl (d))) (fun d=>some (.inr (d))) v1 v2 v3 v5 v16 v17 b0_1 b0_2 b1_0 b1_1 b2_1 b2_2 b3_0 b3_1 b3_2 b3_3 r4 r5
def A5z (d:(Int)×(Int)×(Int)×(Int)×(Aa)×(Int)×(Int)×(Int)×(List Aa)×(List Wr)×(Int)×(Int)×(Int)×(Int)×(Int)×(Aa)×(List Aa)×(List Aa)×Unit):Option (((Int)×(Int)×(Int)×(Int)×(List Aa)×(List Aa)×Unit) ⊕ ((Int)×(Int)×(List Aa)×Unit)):=(u4 (u4 (u4 (u4 (Ac (Ac Ah)))))) (Hw ((u4 (u4 (u4 (u4 (Ac (Ac Ah)))))) Lw d)) d
def Ag4 (a0:Dk) (a1 a2:Int) (a3 a4 a5:Int):Option ((((List Aa)×(Int)×(Int)×Unit)×(Unit))):=
 bif !Ft a0 then some (([],0,0,()),()) else (Co a5).bind fun val=>bif !val.1.1 then some (([],0,0,()),()) else bif decide (a1 < 0) then some (([],0,0,()),()) else bif decide (a2 < 0) then some (([],0,0,()),()) else bif decide (a1 > nI (List.length a0.1)) then some (([],0,0,()),()) else bif decide (a2 > IntKind.i64.wrap (nI (List.length a0.1) - a1)) then some (([],0,0,()),()) else ((Eu a0).bind fun val=>some (val,())).bind fun val=>((I3 val.1).bind fun val=>some (val,())).bind fun val=>((fun d=>Hw (Lw d.1 d.2.1 d.2.2.1 d.2.2.2.1 d.2.2.2.2.1 d.2.2.2.2.2.1 d.2.2.2.2.2.2.1 d.2.2.2.2.2.2.2.1 d.2.2.2.2.2.2.2.2.1 d.2.2.2.2.2.2.2.2.2.1 d.2.2.2.2.2.2.2.2.2.2.1 d.2.2.2.2.2.2.2.2.2.2.2.1 d.2.2.2.2.2.2.2.2.2.2.2.2.1 d.2.2.2.2.2.2.2.2.2.2.2.2.2.1 d.2.2.2.2.2.2.2.2.2.2.2.2.2.2.1 d.2.2.2.2.2.2.2.2.2.2.2.2.2.2.2.1 d.2.2.2.2.2.2.2.2.2.2.2.2.2.2.2.2.1 d.2.2.2.2.2.2.2.2.2.2.2.2.2.2.2.2.2.1) d.1 d.2.1 d.2.2.1 d.2.2.2.1 d.2.2.2.2.1 d.2.2.2.2.2.1 d.2.2.2.2.2.2.1 d.2.2.2.2.2.2.2.1 d.2.2.2.2.2.2.2.2.1 d.2.2.2.2.2.2.2.2.2.1 d.2.2.2.2.2.2.2.2.2.2.1 d.2.2.2.2.2.2.2.2.2.2.2.1 d.2.2.2.2.2.2.2.2.2.2.2.2.1 d.2.2.2.2.2.2.2.2.2.2.2.2.2.1 d.2.2.2.2.2.2.2.2.2.2.2.2.2.2.1 d.2.2.2.2.2.2.2.2.2.2.2.2.2.2.2.1 d.2.2.2.2.2.2.2.2.2.2.2.2.2.2.2.2.1 d.2.2.2.2.2.2.2.2.2.2.2.2.2.2.2.2.2.1) (a1,a2,a3,a5,Ad,0,0,0,val.1.1,val.1.2.1,0,a4,0,a4,0,Ad,[],[],())).bind fun val=>Cy (fun d=>some ((d.2.2.2.2.2.1,d.2.2.1,d.2.2.2.1,()),())) (fun d=>some ((d.2.2.1,d.1,d.2.1,()),())) val
def Bjl (y:(Int×Int×Int×Int×List Aa×List Aa×Unit) ⊕ (Int×Int×List Aa×Unit)):Scd:=match y with
 | .inl v=>(v.2.2.2.2.2.1,v.2.2.1,v.2.2.2.1,())
 | .inr v=>(v.2.2.1,v.1,v.2.1,())
theorem A9v {d:Dk} (hd:If d) (f n:Nat) (hfn:f + n≤d.1.length) (first w b1 b2:Int) (r4:List Aa):∀ (k m i:Nat) (st:Wd) (num:Int) (part:Aa),i + k=n→k < m→Ahc i st→
  ∃ y,Hw m f n first w st.2.2.1 i b1 b2 (Hb d.1 d.2.1) [] st.2.2.2.2.1 st.2.2.2.2.2 st.1 st.2.1 num part r4 st.2.2.2.1=some y∧Bjl y=Cx w first (seen d f i k) i st
 | 0,m + 1,i,st,num,part,hi,_,_=>by
  simp only [Hw,Qv]
  rw [Bd (show ¬ (i:Int) < (n:Int) by omega)]
  exact ⟨_,rfl,rfl⟩
 | k + 1,m + 1,i,st,num,part,hi,hm,hI=>by
  have h200:=hd.n200
  have e1:IntKind.i64.wrap ((f:Int) + (i:Int))=((f + i:Nat):Int):=by rw [Aj (by omega) (by omega)]; omega
  have e2:List.getD (Hb d.1 d.2.1) (f + i) (Ad)=V8 d ((f:Int) + (i:Int)):=Bm5 hd (by omega)
  have e3:decide (((f + i:Nat):Int) < nI (Hb d.1 d.2.1).length)=true:=Af (by rw [T9]; simp only [nI]; omega)
  have e4:IntKind.i64.wrap ((i:Int) + 1)=((i + 1:Nat):Int):=wI (by omega)
  have es:seen d f i (k + 1)=V8 d ((f:Int) + (i:Int))::seen d f (i + 1) k:=rfl
  simp only [Hw,Qv]
  rw [es,Af (show (i:Int) < (n:Int) by omega)]
  simp only [e1,e2,e3,e4,J1,cond_true,Fz,Am,Sa]
  unfold Cx Gk
  generalize hx:V8 d ((f:Int) + (i:Int))=x
  generalize hR:Ay x w=R
  obtain ⟨p,ok⟩:=R
  cases ok with
  | false=>exact ⟨_,rfl,rfl⟩
  | true=>
   obtain ⟨q1,q2,q3⟩:=A1n hR
   have e5:IntKind.i64.wrap (p.2.2.1 - (i:Int))=p.2.2.1 - (i:Int):=Aj (by omega) (by omega)
   simp only [e5,Bool.not_true,cond_false,Bool.true_and,bne]
   cases hn:(p.2.2.1 - (i:Int)==first) with
   | false=>exact ⟨_,rfl,rfl⟩
   | true=>
    simp only [Bool.not_true,cond_false,Bool.true_and]
    have hg:Xp st.1 st.2.1 (p.1,p.2.1,p.2.2.1,p.2.2.2.1,())=Xp st.1 st.2.1 p:=rfl
    try simp only [hg]
    cases hgo:Xp st.1 st.2.1 p with
    | false=>exact ⟨_,rfl,rfl⟩
    | true=>
     have hN:=hI.next (by omega) q3
     have e6:decide (ByteArray.size st.2.2.1 + ByteArray.size p.2.2.2.1≤9223372036854775807)=true:=Af (by have:=hI.2.1; omega)
     have e7:decide ((List.length st.2.2.2.1 + 1) * 16≤140737488355328)=true:=Af (by have:=hI.2.2; omega)
     simp only [e6,Bool.not_true,cond_false,cond_true,En,e7]
     have ih:=fun num part=>A9v hd f n hfn first w b1 b2 r4 k m (i + 1) (C6 i p st) num part (by omega) (by omega) hN
     have ei:(i:Int) + 1=((i + 1:Nat):Int):=by omega
     rw [ei]
     unfold C6 at ih ⊢
     cases h1:(p.1==1) with
     | true=>
      have hp:p.1=1:=eq_of_beq h1
      rw [h1] at ih
      have:=ih p.2.2.1 p.2.2.2.1
      rw [hp]
      exact this
     | false=>
      rw [h1] at ih
      cases h2:(p.1==2) with
      | true=>
       have hp:p.1=2:=eq_of_beq h2
       rw [h2] at ih
       have:=ih p.2.2.1 p.2.2.2.1
       rw [hp]
       simp only [cond_false,cond_true,ei] at this ⊢
       exact this
      | false=>
       rw [h2] at ih
       have:=ih p.2.2.1 p.2.2.2.1
       simp only [cond_false,ei] at this ⊢
       exact this
theorem Bb8 (a0:Dk) (a1 a2:Int) (a3 a4 a5:Int):Ag4 a0 a1 a2 a3 a4 a5=some (((Dt a0 a1 a2 a3 a4 a5).1,(Dt a0 a1 a2 a3 a4 a5).2.1,(Dt a0 a1 a2 a3 a4 a5).2.2.1,()),(())):=by
 unfold Ag4 Dt Ua
 show (bif !Ap a0 then _ else _)=_
 cases hv:Ap a0 with
 | false=>rfl
 | true=>
  have hd:=Ki hv
  simp only [Bool.not_true,cond_false]
  refine bi_ (wid a5) ?_
  cases hw:Bq a5 1 8 with
  | false=>rfl
  | true=>
   simp only [Bool.not_true,cond_false]
   have h200:=hd.n200
   by_cases h1:a1 < 0
   ·rw [Af h1,Bd (show ¬ 0≤a1 by omega)]; rfl
   ·rw [Bd h1,Af (show 0≤a1 by omega)]
    by_cases h2:a2 < 0
    ·rw [Af h2,Bd (show ¬ 0≤a2 by omega)]; rfl
    ·rw [Bd h2,Af (show 0≤a2 by omega)]
     by_cases h3:a1 > nI a0.1.length
     ·rw [Af h3,Bd (show ¬ a1≤(a0.1.length:Int) by simp only [nI] at h3; omega)]; rfl
     ·have h3':a1≤(a0.1.length:Int):=by simp only [nI] at h3; omega
      rw [Bd h3,Af h3']
      rw [Aj (n:=nI a0.1.length - a1) (by simp only [nI]; omega) (by simp only [nI]; omega)]
      by_cases h4:a2 > nI a0.1.length - a1
      ·rw [Af h4,Bd (show ¬ a2≤(a0.1.length:Int) - a1 by simp only [nI] at h4; omega)]; rfl
      ·have h4':a2≤(a0.1.length:Int) - a1:=by simp only [nI] at h4; omega
       rw [Bd h4,Af h4']
       simp only [cond_false,cond_true,Bool.true_and,Bool.and_self]
       have c1:Eu (a0.1,a0.2.1,())=some (a0.1,a0.2.1,()):=if_pos ⟨Nat.le_trans hd.n200 (by decide),Nat.le_trans hd.p300 (by decide)⟩
       have c2:I3 (a0.1,a0.2.1,())=some (A81 a0):=if_pos ⟨Nat.le_trans hd.p300 (by decide),fun k hk=>⟨(hd.pen k hk).1,(hd.pen k hk).2.1⟩⟩
       rw [c1]
       simp only [Option.bind_some]
       rw [c2]
       simp only [Option.bind_some]
       obtain ⟨f,rfl⟩:∃ f:Nat,a1=(f:Int):=⟨a1.toNat,by omega⟩
       obtain ⟨n,rfl⟩:∃ n:Nat,a2=(n:Int):=⟨a2.toNat,by omega⟩
       have hfu:n < Lw f n a3 a5 (Ad) 0 0 0 (Hb a0.1 a0.2.1) [] 0 a4 0 a4 0 (Ad) [] []:=by simp only [Lw]; omega
       generalize hF:Lw f n a3 a5 (Ad) 0 0 0 (Hb a0.1 a0.2.1) [] 0 a4 0 a4 0 (Ad) [] []=F at hfu
       have hfn:f + n≤a0.1.length:=by omega
       have hst:Ahc 0 (0,a4,z0,[],0,a4):=Ahc.zero _ _ _ _
       obtain ⟨y,hy1,hy2⟩:=A9v hd f n hfn a3 a5 0 0 [] n F 0 (0,a4,z0,[],0,a4) 0 (Ad)
        (Nat.zero_add n)
        hfu
        hst
       show (Hw (Lw f n a3 a5 (Ad) 0 0 0 (Hb a0.1 a0.2.1) [] 0 a4 0 a4 0 (Ad) [] []) f n a3 a5 (Ad) 0 0 0 (Hb a0.1 a0.2.1) [] 0 a4 0 a4 0 (Ad) [] []).bind _=_
       rw [hF]
       have hy1':Hw F f n a3 a5 (Ad) 0 0 0 (Hb a0.1 a0.2.1) [] 0 a4 0 a4 0 (Ad) [] []=some y:=hy1
       rw [hy1',Fz]
       simp only [Option.bind_some]
       have hy3:Bjl y=Cx a5 a3 (seen a0 (f:Int) 0 n) 0 (0,a4,z0,[],0,a4):=hy2
       rw [← hy3]
       cases y<;>rfl
def Al2 {R:Type} (k:Kt R):=(Cy (L7 (O7 9) (.exit 0) 2 k) (L7 (O7 9) .ret 1 k))
def Azd {R:Type}:Lt R O7:=(Fp (pat:=O7) 9 (fun d k=>(A5z d).bind (Al2 k)) Ik)
theorem Aux:A5 Tryz.prog Auw:=Bb ⟨W5,Ej,Jr,x8,Qu,A5y,trivial⟩
theorem A50 {R:Type}:Ba Tryz.prog R 118 0 O7 Azd Al1:=
 Cn (cfg:=⟨Auw,0,118,O7⟩) 9 [] (fun NX X d=>(u4 (u4 (u4 (u4 (Ac (Ac Ah)))))) (Qv  NX (fun e=>X (.inl (e))) (fun e=>X (.inr (e)))) d) (fun m d=>(u4 (u4 (u4 (u4 (Ac (Ac Ah)))))) (Hw m) d) (fun d=>(u4 (u4 (u4 (u4 (Ac (Ac Ah)))))) Lw d) Al2 Aux trivial (fun f NX d=>by simp only [u4,Ac,Ah]; unfold Qv; simp only [nb])
theorem Bb9:B8 Tryz.prog 108 Auv:=
 A7 (pat:=O7) [Al1] Azd Aux ⟨A50,trivial⟩ Tryz.func108 (de:=fun x=>Ag4 x.1 x.2.1 x.2.2.1 x.2.2.2.1 x.2.2.2.2.1 x.2.2.2.2.2.1) (fun x r h=>(Bb8 x.1 x.2.1 x.2.2.1 x.2.2.2.1 x.2.2.2.2.1 x.2.2.2.2.2.1).trans h) fun _=>by kernel_rfl
def Lx (s:Aa):Aa×Aa×Bool:=((Bj s).1,bif (Bj s).2.2 then (Bj s).2.1 else ⟨#[]⟩,(Bj s).2.2)
def A0h:Hh:=⟨[.rd .str],[none],[.rd .str,.rd .str,.rd .bool],[none,none,none]⟩
def Aib:SD:=⟨A0h,fun x=>some (((Lx x.1).1,(Lx x.1).2.1,(Lx x.1).2.2,()),(()))⟩
def Yw (a0:Aa):Option ((((Aa)×(Aa)×(Bool)×Unit)×(Unit))):=
 bif decide (nI a0.size < 1) then some ((Ad,Ad,false,()),()) else bif decide (0 < nI a0.size) then bif decide (nI a0.size < IntKind.i64.wrap (1 + IntKind.i64.wrap (Aq a0 0))) then some ((Ad,Ad,false,()),()) else bif decide (0 < nI a0.size) then bif decide (1≤IntKind.i64.wrap (1 + IntKind.i64.wrap (Aq a0 0))) then bif decide (IntKind.i64.wrap (1 + IntKind.i64.wrap (Aq a0 0))≤nI a0.size) then bif decide (0≤IntKind.i64.wrap (1 + IntKind.i64.wrap (Aq a0 0))) then bif decide (IntKind.i64.wrap (1 + IntKind.i64.wrap (Aq a0 0))≤nI a0.size) then some ((Ag a0 1 (IntKind.i64.wrap (1 + IntKind.i64.wrap (Aq a0 0))),Ag a0 (IntKind.i64.wrap (1 + IntKind.i64.wrap (Aq a0 0))) (nI a0.size),true,()),()) else none else none else none else none else none else none
theorem A0i (a0:Aa):Yw a0=some (((Lx a0).1,(Lx a0).2.1,(Lx a0).2.2,()),(())):=by
 unfold Yw Lx Bj
 obtain ⟨b0,b1⟩:=Jn a0 0
 have hw:IntKind.i64.wrap (1 + IntKind.i64.wrap (Aq a0 0))=1 + Aq a0 0:=by
  rw [Aj (n:=Aq a0 0) (by omega) (by omega),Aj (by omega) (by omega)]
 rw [hw]
 by_cases h0:(a0.size:Int) < 1
 ·rw [if_pos (Or.inl h0),Af (show nI a0.size < 1 from h0)]
  rfl
 ·rw [Bd (show ¬ nI a0.size < 1 from h0),Af (show 0 < nI a0.size by simp only [nI]; omega)]
  by_cases h1:(a0.size:Int) < 1 + Aq a0 0
  ·rw [if_pos (Or.inr h1),Af (show nI a0.size < 1 + Aq a0 0 from h1)]
   rfl
  ·rw [if_neg (by omega),Bd (show ¬ nI a0.size < 1 + Aq a0 0 from h1),Af (show 1≤1 + Aq a0 0 by omega),Af (show 0≤1 + Aq a0 0 by omega),Af (show 1 + Aq a0 0≤nI a0.size by simp only [nI]; omega)]
   rfl
theorem A0j:B8 Tryz.prog 226 Aib:=
 A7 (pat:=Ei) [] Ik (Bb (l:=[]) trivial) trivial Tryz.func226 (de:=fun x=>Yw x.1) (fun x r h=>(A0i x.1).trans h) fun _=>by kernel_rfl
def Fw (s:Aa):List Bc×Bool:=A3b s
def Ru (v0 v5:Aa) (r0:List Bc):Nat:=22
def Auy:Hh:=⟨[.rd .str],[none],[.own 99 Dr,.rd .bool],[none,none]⟩
def Aca:SD:=⟨Auy,fun x=>some (((Fw x.1).1,(Fw x.1).2,()),(()))⟩
def Acb:Tb:=tb [(125,Mu),(226,Aib)]
def Hx:Nat→Dq×(Nat→Dq):=Hk [(4,⟨[.row 4 0 99 Dr],[(0,.lf (.d .str)),(4,.lf (.row 0)),(5,.lf (.d .str))],[.row 99 Dr]⟩,[(2,⟨[.row 4 0 99 Dr],[(0,.lf (.d .str)),(4,.lf (.row 0))],[.row 99 Dr]⟩),(1,⟨[.row 2 0 99 Dr],[(2,.lf (.row 0)),(3,.lf (.d .bool))],[.row 99 Dr]⟩)])]
def Zj:Code:=(Ax (Bm Tryz.f190)).getD 0 .skip
def Nl {R:Type}  (NX:((Aa)×(Aa)×(List Bc)×Unit)→Option R) (X2:((Aa)×(List Bc)×Unit)→Option R) (X1:((Bool)×(List Bc)×Unit)→Option R) (v0:Aa) (v5:Aa) (r0:List Bc):Option R:=
 bif decide (nI v5.size > 0) then bif decide (nI r0.length≤20) then bif decide (0 < nI v5.size) then bif decide (1≤nI v5.size) then bif !(Bj (Ag v5 1 (nI v5.size))).2.2 then X1 (false,[],()) else bif !Aq v5 0==1 then bif !(Bj (bif (Bj (Ag v5 1 (nI v5.size))).2.2 then (Bj (Ag v5 1 (nI v5.size))).2.1 else Ad)).2.2 then X1 (false,[],()) else bif decide ((r0.length + [((Bj (Ag v5 1 (nI v5.size))).1,(Bj (bif (Bj (Ag v5 1 (nI v5.size))).2.2 then (Bj (Ag v5 1 (nI v5.size))).2.1 else Ad)).1,Aq v5 0==1,())].length) * 40≤140737488355328) then NX (v0,bif (Bj (bif (Bj (Ag v5 1 (nI v5.size))).2.2 then (Bj (Ag v5 1 (nI v5.size))).2.1 else Ad)).2.2 then (Bj (bif (Bj (Ag v5 1 (nI v5.size))).2.2 then (Bj (Ag v5 1 (nI v5.size))).2.1 else Ad)).2.1 else Ad,r0++[((Bj (Ag v5 1 (nI v5.size))).1,(Bj (bif (Bj (Ag v5 1 (nI v5.size))).2.2 then (Bj (Ag v5 1 (nI v5.size))).2.1 else Ad)).1,Aq v5 0==1,())],()) else none else bif decide ((r0.length + [((Bj (Ag v5 1 (nI v5.size))).1,Ad,Aq v5 0==1,())].length) * 40≤140737488355328) then NX (v0,bif (Bj (Ag v5 1 (nI v5.size))).2.2 then (Bj (Ag v5 1 (nI v5.size))).2.1 else Ad,r0++[((Bj (Ag v5 1 (nI v5.size))).1,Ad,Aq v5 0==1,())],()) else none else none else none else X2 (v0,r0,()) else X2 (v0,r0,())
def H7:Nat→(Aa)→(Aa)→(List Bc) →  Option (((Aa)×(List Bc)×Unit) ⊕ ((Bool)×(List Bc)×Unit))
 | 0,_,_,_=>none
 | m + 1,v0,v5,r0=>Nl  (fun d=>H7 m d.1 d.2.1 d.2.2.1) (fun d=>some (.inl (d))) (fun d=>some (.inr (d))) v0 v5 r0
def An9 (d:(Aa)×(Aa)×(List Bc)×Unit):Option (((Aa)×(List Bc)×Unit) ⊕ ((Bool)×(List Bc)×Unit)):=(Ac (Ac (Ac Ah))) (H7 ((Ac (Ac (Ac Ah))) Ru d)) d
def Vg (a0:Aa):Option ((((List Bc)×(Bool)×Unit)×(Unit))):=
 ((fun d=>H7 (Ru d.1 d.2.1 d.2.2.1) d.1 d.2.1 d.2.2.1) (a0,a0,[],())).bind fun val=>Cy (fun d=>bif nI (ByteArray.size d.1)==0 then some (([],false,()),()) else bif !(Er d.2.1).toList==ByteArray.toList d.1 then some (([],false,()),()) else some ((d.2.1,true,()),())) (fun d=>some ((d.2.1,d.1,()),())) val
def Btd (s0:Aa) (o:Option (List Bc×Aa)):(Aa×List Bc×Unit) ⊕ (Bool×List Bc×Unit):=match o with
 | some (b,t)=>.inl (s0,b,())
 | none=>.inr (false,[],())
theorem A51 (s0:Aa):∀ (f m:Nat) (r:List Bc) (s:Aa),r.length + f=22→f≤m→1≤f→H7 m s0 s r=some (Btd s0 (So false f r s))
 | 0,_,_,_,_,_,h=>by omega
 | f + 1,0,_,_,_,h,_=>by omega
 | f + 1,m + 1,r,s,hf,hm,_=>by
  simp only [H7,Nl,So]
  by_cases hs:s.size > 0
  ·rw [Af (show nI s.size > 0 by simp only [nI]; omega),Af hs]
   by_cases hr:r.length≤20
   ·rw [Af (show nI r.length≤20 by simp only [nI]; omega),Af hr,Af (show 1≤nI s.size by simp only [nI]; omega)]
    unfold Aye
    generalize Bj (Ag s 1 (nI s.size))=p
    simp only [En,Bool.false_and,cond_true,Bool.and_self,cond_false]
    rw [Af (show (r.length + 1) * 40≤140737488355328 by omega)]
    obtain ⟨k,t,o⟩:=p
    cases o
    ·rfl
    ·by_cases h2:Aq s 0=1
     ·rw [h2]
      exact A51 s0 f m (r++[(k,Ad,true,())]) t (by rw [Dn,En]; omega) (by omega) (by omega)
     ·have h3:(Aq s 0==1)=false:=beq_eq_false_iff_ne.2 h2
      rw [h3]
      simp only [Bool.not_true,Bool.not_false,cond_false,cond_true]
      generalize Bj t=q
      obtain ⟨v,u,o⟩:=q
      cases o
      ·rfl
      ·exact A51 s0 f m (r++[(k,v,false,())]) u (by rw [Dn,En]; omega) (by omega) (by omega)
   ·rw [Bd (show ¬ nI r.length≤20 by simp only [nI]; omega),Bd hr]
    rfl
  ·rw [Bd (show ¬ nI s.size > 0 by simp only [nI]; omega),Bd hs]
   rfl
theorem Auz (a0:Aa):Vg a0=some (((Fw a0).1,(Fw a0).2,()),(())):=by
 unfold Vg Fw A3b
 have hL:=A51 a0 22 22 [] a0 rfl (Nat.le_refl _) (by omega)
 refine bi_ hL ?_
 cases So false 22 [] a0 with
 | none=>rfl
 | some bt=>
  obtain ⟨b,t⟩:=bt
  show (bif nI a0.size==0 then _ else (bif !(ByteArray.toList (Be b)==ByteArray.toList a0) then _ else _))=_
  have e:(nI a0.size==0)=(a0.size==0):=by
   by_cases q:a0.size=0
   ·rw [q]; rfl
   ·rw [beq_eq_false_iff_ne.2 q,beq_eq_false_iff_ne.2 (show nI a0.size≠0 by simp only [nI]; omega)]
  rw [e]
  simp only
  cases (a0.size==0)<;>cases (ByteArray.toList (Be b)==ByteArray.toList a0)<;>rfl
def Zk {R:Type} (k:Kt R):=(Cy (L7 (Hx 4) (.exit 0) 2 k) (L7 (Hx 4) .ret 1 k))
def Afi {R:Type}:Lt R Hx:=(Fp (pat:=Hx) 4 (fun d k=>(An9 d).bind (Zk k)) Ik)
theorem Acd:A5 Tryz.prog Acb:=Bb ⟨P0,A0j,trivial⟩
theorem Aoa {R:Type}:Ba Tryz.prog R 70 0 Hx Afi Zj:=
 Cn (cfg:=⟨Acb,0,70,Hx⟩) 4 [] (fun NX X d=>(Ac (Ac (Ac Ah))) (Nl  NX (fun e=>X (.inl (e))) (fun e=>X (.inr (e)))) d) (fun m d=>(Ac (Ac (Ac Ah))) (H7 m) d) (fun d=>(Ac (Ac (Ac Ah))) Ru d) Zk Acd trivial (fun f NX d=>by simp only [u4,Ac,Ah]; unfold Nl; simp only [nb])
theorem Au0:B8 Tryz.prog 190 Aca:=
 A7 (pat:=Hx) [Zj] Afi Acd ⟨Aoa,trivial⟩ Tryz.func190 (de:=fun x=>Vg x.1) (fun x r h=>(Auz x.1).trans h) fun _=>by kernel_rfl
def Sb (es:List Aa):Option (Cv×Bool):=if es.length≤1073741824 then some (Biz es) else none
def A52:Hh:=⟨[.rd (.sl .str)],[none],[.own 157 A1,.rd .bool],[some 1,none]⟩
def Al3:SD:=⟨A52,fun x=>(Sb x.1).bind fun r=>some ((r.1.1,r.2,()),(()))⟩
def Al4:Tb:=tb [(123,Ac9),(190,Aca)]
def Ly:Nat→Dq×(Nat→Dq):=Hk [(4,⟨[.sl 0 0 .str,.boxRow 2 0 157 A1,.boxRow 4 0 157 A1],[(0,.lf (.d (.sl .str))),(2,.lf (.ptr 0 0)),(4,.lf (.ptr 1 0)),(5,.lf (.d tI))],[.box 31 [.row 2],.box 31 [.row 3],.row 157 A1,.row 157 A1]⟩,[(2,⟨[.boxRow 2 0 157 A1,.boxRow 4 0 157 A1],[(2,.lf (.ptr 0 0)),(4,.lf (.ptr 1 0))],[.box 31 [.row 2],.box 31 [.row 3],.row 157 A1,.row 157 A1]⟩),(1,⟨[.boxRow 2 0 157 A1],[(2,.lf (.ptr 0 0)),(3,.lf (.d .bool))],[.box 31 [.row 1],.row 157 A1]⟩)])]
def Afj:Code:=(Ax (Bm Tryz.f110)).getD 0 .skip
def Of (v0:List Aa) (v5:Int) (r2 r3:List A2):Nat:=((v0.length:Int) - v5).toNat + 1
def Og {R:Type}  (NX:((List Aa)×(Int)×(List A2)×(List A2)×Unit)→Option R) (X2:((List A2)×(List A2)×Unit)→Option R) (X1:((Bool)×(List A2)×Unit)→Option R) (v0:List Aa) (v5:Int) (r2:List A2) (r3:List A2):Option R:=
 bif decide (v5 < nI v0.length) then bif decide (0≤v5) then bif decide (v5 < nI v0.length) then bif !(Fw (v0.getD v5.toNat (Ad))).2 then X1 (false,[],()) else bif (Gr (r3,()) (Fw (v0.getD v5.toNat (Ad))).1).2 != 0 then X1 (false,[],()) else NX (v0,IntKind.i64.wrap (v5 + 1),r2,(Gr (r3,()) (Fw (v0.getD v5.toNat (Ad))).1).1) else none else none else X2 (r2,r3,())
def Fy:Nat→(List Aa)→(Int)→(List A2)→(List A2) →  Option (((List A2)×(List A2)×Unit) ⊕ ((Bool)×(List A2)×Unit))
 | 0,_,_,_,_=>none
 | m + 1,v0,v5,r2,r3=>Og  (fun d=>Fy m d.1 d.2.1 d.2.2.1 d.2.2.2.1) (fun d=>some (.inl (d))) (fun d=>some (.inr (d))) v0 v5 r2 r3
def Axr (d:(List Aa)×(Int)×(List A2)×(List A2)×Unit):Option (((List A2)×(List A2)×Unit) ⊕ ((Bool)×(List A2)×Unit)):=(u4 Ah) (Fy ((u4 Ah) Of d)) d
def y9 (a0:List Aa):Option ((((List A2)×(Bool)×Unit)×(Unit))):=
 ((fun d=>Fy (Of d.1 d.2.1 d.2.2.1 d.2.2.2.1) d.1 d.2.1 d.2.2.1 d.2.2.2.1) (a0,0,[],[],())).bind fun val=>Cy (fun d=>some ((d.2.1,true,()),())) (fun d=>some ((d.2.1,d.1,()),())) val
theorem A53 (a0:List Aa) r (h:Sb a0=some r):y9 a0=some ((r.1.1,r.2,()),(())):=by
 unfold Sb at h
 split at h
 rotate_left
 ·cases h
 rename_i hlen
 cases h
 unfold y9 Biz
 have hL:=Av9 (xs:=a0) (g:=fun m i r=>Fy m a0 i [] r) (ok:=fun r=>.inl ([],r,())) (bad:=.inr (false,[],())) (fun m i r hi=>by
   show Fy (m + 1) a0 i [] r=_
   simp only [Fy,Og]
   rw [cLt hi,J1,wI (show i < 4611686018427387904 by omega),Fz]
   simp only [cond_true,Fw,Gr,Bkk]
   rfl) (fun m r=>by
   show Fy (m + 1) a0 (a0.length:Int) [] r=_
   simp only [Fy,Og]
   rw [Qd]
   rfl) (Of a0 0 [] []) 0 [] (by omega) (by simp [Of,nI])
 rw [List.drop_zero] at hL
 refine Yi hL ?_
 show Cy _ _ (match E1 a0 Ye with | some st=>_ | none=>_)=_
 cases E1 a0 Ye<;>rfl
def Afk {R:Type} (k:Kt R):=(Cy (L7 (Ly 4) (.exit 0) 2 k) (L7 (Ly 4) .ret 1 k))
def App {R:Type}:Lt R Ly:=(Fp (pat:=Ly) 4 (fun d k=>(Axr d).bind (Afk k)) Ik)
theorem Al5:A5 Tryz.prog Al4:=Bb ⟨Ao4,Au0,trivial⟩
theorem Axs {R:Type}:Ba Tryz.prog R 39 0 Ly App Afj:=
 Cn (cfg:=⟨Al4,0,39,Ly⟩) 4 [] (fun NX X d=>(u4 Ah) (Og  NX (fun e=>X (.inl (e))) (fun e=>X (.inr (e)))) d) (fun m d=>(u4 Ah) (Fy m) d) (fun d=>(u4 Ah) Of d) Afk Al5 trivial (fun f NX d=>by simp only [u4,Ac,Ah]; unfold Og; simp only [nb])
theorem A54:B8 Tryz.prog 110 Al3:=
 A7 (pat:=Ly) [Afj] App Al5 ⟨Axs,trivial⟩ Tryz.func110 (de:=fun x=>y9 x.1) (fun x r h=>Hf (A53 x.1) h) fun _=>by kernel_rfl
def Ng (s:Ez):Option Pl:=if A3q s then some (Ub s) else none
def A55:Hh:=⟨[.rd Yg],[some 10],[.rd tI,.rd tI,.rd tI,.rd tI,.rd tI,.rd tI,.rd tI,.rd tI,.rd tI,.rd tI,.own 157 A1,.own 142 E4],[some 12]⟩
def z6:SD:=⟨A55,fun x=>(Ng x.1).bind fun r=>some ((r.1,r.2.1.1,r.2.1.2.1,r.2.1.2.2.1,r.2.1.2.2.2.1.1,r.2.1.2.2.2.1.2.1,r.2.1.2.2.2.1.2.2.1,r.2.1.2.2.2.1.2.2.2.1,r.2.1.2.2.2.2.1,r.2.1.2.2.2.2.2.1,r.2.1.2.2.2.2.2.2.1.1,r.2.2.1,()),(()))⟩
def z7:Tb:=tb [(40,Nw),(72,Kz),(77,Qm),(109,U0),(112,Xj),(124,Ak1),(125,Mu),(126,Wg),(191,W6)]
def Gp:Nat→Dq×(Nat→Dq):=Hk [(11,⟨[.row 6 0 142 E4,.sl 7 0 (.sl Dr),.boxSl 1 9 A1,.boxRow 2 10 157 A1,.boxRow 2 11 142 E4],[(1,.lf (.ptr 0 0)),(2,.lf (.ptr 1 0)),(4,.lf (.ptr 2 0)),(5,.lf (.d tI)),(6,.lf (.row 3)),(7,.lf (.d (.sl (.sl Dr)))),(8,.lf (.d tI)),(9,.lf (.d tI))],[.box 33 [.d Yg],.box 68 [.d tI,.d tI,.d tI,.d tI,.d tI,.d tI,.d tI,.d tI,.d tI,.d tI,.row 4,.row 5],.box 28 [.d yRt],.row 142 E4,.row 157 A1,.row 142 E4]⟩,[(2,⟨[.row 6 0 142 E4,.boxSl 1 9 A1,.boxRow 2 10 157 A1,.boxRow 2 11 142 E4],[(1,.lf (.ptr 0 0)),(2,.lf (.ptr 1 0)),(4,.lf (.ptr 2 0)),(6,.lf (.row 3)),(8,.lf (.d tI))],[.box 33 [.d Yg],.box 68 [.d tI,.d tI,.d tI,.d tI,.d tI,.d tI,.d tI,.d tI,.d tI,.d tI,.row 4,.row 5],.box 28 [.d yRt],.row 142 E4,.row 157 A1,.row 142 E4]⟩)]),(15,⟨[.row 6 0 142 E4,.sl 7 0 (.sl Dr),.sl 10 0 .str,.boxSl 1 9 A1,.boxRow 2 10 157 A1,.boxRow 2 11 142 E4],[(1,.lf (.ptr 0 0)),(2,.lf (.ptr 1 0)),(4,.lf (.ptr 2 0)),(5,.lf (.d tI)),(6,.lf (.row 3)),(7,.lf (.d (.sl (.sl Dr)))),(8,.lf (.d tI)),(9,.lf (.d tI)),(10,.lf (.d (.sl .str))),(11,.lf (.d tI))],[.box 33 [.d Yg],.box 68 [.d tI,.d tI,.d tI,.d tI,.d tI,.d tI,.d tI,.d tI,.d tI,.d tI,.row 4,.row 5],.box 28 [.d yRt],.row 142 E4,.row 157 A1,.row 142 E4]⟩,[(4,⟨[.row 6 0 142 E4,.sl 7 0 (.sl Dr),.boxSl 1 9 A1,.boxRow 2 10 157 A1,.boxRow 2 11 142 E4],[(1,.lf (.ptr 0 0)),(2,.lf (.ptr 1 0)),(4,.lf (.ptr 2 0)),(5,.lf (.d tI)),(6,.lf (.row 3)),(7,.lf (.d (.sl (.sl Dr)))),(8,.lf (.d tI)),(9,.lf (.d tI))],[.box 33 [.d Yg],.box 68 [.d tI,.d tI,.d tI,.d tI,.d tI,.d tI,.d tI,.d tI,.d tI,.d tI,.row 4,.row 5],.box 28 [.d yRt],.row 142 E4,.row 157 A1,.row 142 E4]⟩)])]
def Vh:Code:=(Ax (Bm Tryz.f111)).getD 0 .skip
def Ace:Code:=(Ax Vh).getD 0 .skip
def M3 (v5:Int) (v7:List (List Bc)) (v8 v9:Int) (v10:List Aa) (v11:Int) (b0:Ez) (b1_0 b1_1:Int) (b1_2 b1_3:Int) (b1_4 b1_5:Int) (b1_6 b1_7:Int) (b1_8 b1_9:Int) (b2:Rt) (r3:List Dc) (r4:List A2) (r5:List Dc):Nat:=((v10.length:Int) - v11).toNat + 1
def M4 {R:Type}  (NX:((Int)×(List (List Bc))×(Int)×(Int)×(List Aa)×(Int)×Ez×(Int)×(Int)×(Int)×(Int)×(Int)×(Int)×(Int)×(Int)×(Int)×(Int)×Rt×(List Dc)×(List A2)×(List Dc)×Unit)→Option R) (X4:((Int)×(List (List Bc))×(Int)×(Int)×Ez×(Int)×(Int)×(Int)×(Int)×(Int)×(Int)×(Int)×(Int)×(Int)×(Int)×Rt×(List Dc)×(List A2)×(List Dc)×Unit)→Option R) (v5:Int) (v7:List (List Bc)) (v8:Int) (v9:Int) (v10:List Aa) (v11:Int) (b0:Ez) (b1_0:Int) (b1_1:Int) (b1_2:Int) (b1_3:Int) (b1_4:Int) (b1_5:Int) (b1_6:Int) (b1_7:Int) (b1_8:Int) (b1_9:Int) (b2:Rt) (r3:List Dc) (r4:List A2) (r5:List Dc):Option R:=
 bif decide (v11 < nI v10.length) then bif decide (0≤v11) then bif decide (v11 < nI v10.length) then bif decide ((r3.length + [(false,IntKind.i64.wrap (v5 + v8),v10.getD v11.toNat (Ad),())].length) * 32≤140737488355328) then NX (v5,v7,IntKind.i64.wrap (v8 + 1),v9,v10,IntKind.i64.wrap (v11 + 1),b0,b1_0,b1_1,b1_2,b1_3,b1_4,b1_5,b1_6,b1_7,b1_8,b1_9,b2,r3++[(false,IntKind.i64.wrap (v5 + v8),v10.getD v11.toNat (Ad),())],r4,r5,()) else none else none else none else X4 (v5,v7,v8,v9,b0,b1_0,b1_1,b1_2,b1_3,b1_4,b1_5,b1_6,b1_7,b1_8,b1_9,b2,r3,r4,r5,())
def Ey:Nat→(Int)→(List (List Bc))→(Int)→(Int)→(List Aa)→(Int)→Ez→(Int)→(Int)→(Int)→(Int)→(Int)→(Int)→(Int)→(Int)→(Int)→(Int)→Rt→(List Dc)→(List A2)→(List Dc) →  Option ((Int)×(List (List Bc))×(Int)×(Int)×Ez×(Int)×(Int)×(Int)×(Int)×(Int)×(Int)×(Int)×(Int)×(Int)×(Int)×Rt×(List Dc)×(List A2)×(List Dc)×Unit)
 | 0,_,_,_,_,_,_,_,_,_,_,_,_,_,_,_,_,_,_,_,_,_=>none
 | m + 1,v5,v7,v8,v9,v10,v11,b0,b1_0,b1_1,b1_2,b1_3,b1_4,b1_5,b1_6,b1_7,b1_8,b1_9,b2,r3,r4,r5=>M4  (fun d=>Ey m d.1 d.2.1 d.2.2.1 d.2.2.2.1 d.2.2.2.2.1 d.2.2.2.2.2.1 d.2.2.2.2.2.2.1 d.2.2.2.2.2.2.2.1 d.2.2.2.2.2.2.2.2.1 d.2.2.2.2.2.2.2.2.2.1 d.2.2.2.2.2.2.2.2.2.2.1 d.2.2.2.2.2.2.2.2.2.2.2.1 d.2.2.2.2.2.2.2.2.2.2.2.2.1 d.2.2.2.2.2.2.2.2.2.2.2.2.2.1 d.2.2.2.2.2.2.2.2.2.2.2.2.2.2.1 d.2.2.2.2.2.2.2.2.2.2.2.2.2.2.2.1 d.2.2.2.2.2.2.2.2.2.2.2.2.2.2.2.2.1 d.2.2.2.2.2.2.2.2.2.2.2.2.2.2.2.2.2.1 d.2.2.2.2.2.2.2.2.2.2.2.2.2.2.2.2.2.2.1 d.2.2.2.2.2.2.2.2.2.2.2.2.2.2.2.2.2.2.2.1 d.2.2.2.2.2.2.2.2.2.2.2.2.2.2.2.2.2.2.2.2.1) (fun d=>some (d)) v5 v7 v8 v9 v10 v11 b0 b1_0 b1_1 b1_2 b1_3 b1_4 b1_5 b1_6 b1_7 b1_8 b1_9 b2 r3 r4 r5
def M5 (d:(Int)×(List (List Bc))×(Int)×(Int)×(List Aa)×(Int)×Ez×(Int)×(Int)×(Int)×(Int)×(Int)×(Int)×(Int)×(Int)×(Int)×(Int)×Rt×(List Dc)×(List A2)×(List Dc)×Unit):Option ((Int)×(List (List Bc))×(Int)×(Int)×Ez×(Int)×(Int)×(Int)×(Int)×(Int)×(Int)×(Int)×(Int)×(Int)×(Int)×Rt×(List Dc)×(List A2)×(List Dc)×Unit):=(u4 (u4 (u4 (u4 (u4 (Ac Ah)))))) (Ey ((u4 (u4 (u4 (u4 (u4 (Ac Ah)))))) M3 d)) d
def Jz (v5:Int) (v7:List (List Bc)) (v8 v9:Int) (b0:Ez) (b1_0 b1_1:Int) (b1_2 b1_3:Int) (b1_4 b1_5:Int) (b1_6 b1_7:Int) (b1_8 b1_9:Int) (b2:Rt) (r3:List Dc) (r4:List A2) (r5:List Dc):Nat:=((v7.length:Int) - v9).toNat + 1
def M6 {R:Type} (LO15:((Int)×(List (List Bc))×(Int)×(Int)×(List Aa)×(Int)×Ez×(Int)×(Int)×(Int)×(Int)×(Int)×(Int)×(Int)×(Int)×(Int)×(Int)×Rt×(List Dc)×(List A2)×(List Dc)×Unit)→Option ((Int)×(List (List Bc))×(Int)×(Int)×Ez×(Int)×(Int)×(Int)×(Int)×(Int)×(Int)×(Int)×(Int)×(Int)×(Int)×Rt×(List Dc)×(List A2)×(List Dc)×Unit)) (NX:((Int)×(List (List Bc))×(Int)×(Int)×Ez×(Int)×(Int)×(Int)×(Int)×(Int)×(Int)×(Int)×(Int)×(Int)×(Int)×Rt×(List Dc)×(List A2)×(List Dc)×Unit)→Option R) (X2:((Int)×Ez×(Int)×(Int)×(Int)×(Int)×(Int)×(Int)×(Int)×(Int)×(Int)×(Int)×Rt×(List Dc)×(List A2)×(List Dc)×Unit)→Option R) (v5:Int) (v7:List (List Bc)) (v8 v9:Int) (b0:Ez) (b1_0 b1_1:Int) (b1_2 b1_3:Int) (b1_4 b1_5:Int) (b1_6 b1_7:Int) (b1_8 b1_9:Int) (b2:Rt) (r3:List Dc) (r4:List A2) (r5:List Dc):Option R:=
 bif decide (v9 < nI v7.length) then bif decide (0≤v9) then bif decide (v9 < nI v7.length) then ((S5 (Er (v7.getD v9.toNat [])) b0.2.2.1 (IntKind.i64.wrap (b2.2.2.1 + v8)) b0.1).bind fun val=>some ((val,()),())).bind fun val=>(LO15 (v5,v7,v8,v9,val.1.1,0,b0,b1_0,b1_1,b1_2,b1_3,b1_4,b1_5,b1_6,b1_7,b1_8,b1_9,b2,r3,r4,r5,())).bind fun val=>NX (val.1,val.2.1,val.2.2.1,IntKind.i64.wrap (val.2.2.2.1 + 1),val.2.2.2.2) else none else none else X2 (v8,b0,b1_0,b1_1,b1_2,b1_3,b1_4,b1_5,b1_6,b1_7,b1_8,b1_9,b2,r3,r4,r5,())
def Ea:Nat→(Int)→(List (List Bc))→(Int)→(Int)→Ez→(Int)→(Int)→(Int)→(Int)→(Int)→(Int)→(Int)→(Int)→(Int)→(Int)→Rt→(List Dc)→(List A2)→(List Dc) →  Option ((Int)×Ez×(Int)×(Int)×(Int)×(Int)×(Int)×(Int)×(Int)×(Int)×(Int)×(Int)×Rt×(List Dc)×(List A2)×(List Dc)×Unit)
 | 0,_,_,_,_,_,_,_,_,_,_,_,_,_,_,_,_,_,_,_=>none
 | m + 1,v5,v7,v8,v9,b0,b1_0,b1_1,b1_2,b1_3,b1_4,b1_5,b1_6,b1_7,b1_8,b1_9,b2,r3,r4,r5=>M6 M5 (fun d=>Ea m d.1 d.2.1 d.2.2.1 d.2.2.2.1 d.2.2.2.2.1 d.2.2.2.2.2.1 d.2.2.2.2.2.2.1 d.2.2.2.2.2.2.2.1 d.2.2.2.2.2.2.2.2.1 d.2.2.2.2.2.2.2.2.2.1 d.2.2.2.2.2.2.2.2.2.2.1 d.2.2.2.2.2.2.2.2.2.2.2.1 d.2.2.2.2.2.2.2.2.2.2.2.2.1 d.2.2.2.2.2.2.2.2.2.2.2.2.2.1 d.2.2.2.2.2.2.2.2.2.2.2.2.2.2.1 d.2.2.2.2.2.2.2.2.2.2.2.2.2.2.2.1 d.2.2.2.2.2.2.2.2.2.2.2.2.2.2.2.2.1 d.2.2.2.2.2.2.2.2.2.2.2.2.2.2.2.2.2.1 d.2.2.2.2.2.2.2.2.2.2.2.2.2.2.2.2.2.2.1) (fun d=>some (d)) v5 v7 v8 v9 b0 b1_0 b1_1 b1_2 b1_3 b1_4 b1_5 b1_6 b1_7 b1_8 b1_9 b2 r3 r4 r5
def Au1 (d:(Int)×(List (List Bc))×(Int)×(Int)×Ez×(Int)×(Int)×(Int)×(Int)×(Int)×(Int)×(Int)×(Int)×(Int)×(Int)×Rt×(List Dc)×(List A2)×(List Dc)×Unit):Option ((Int)×Ez×(Int)×(Int)×(Int)×(Int)×(Int)×(Int)×(Int)×(Int)×(Int)×(Int)×Rt×(List Dc)×(List A2)×(List Dc)×Unit):=(u4 (u4 (u4 (u4 (Ac (Ac (Ac Ah))))))) (Ea ((u4 (u4 (u4 (u4 (Ac (Ac (Ac Ah))))))) Jz d)) d
def z8 (a0:Ez):Option ((((Int)×(Int)×(Int)×(Int)×(Int)×(Int)×(Int)×(Int)×(Int)×(Int)×(List A2)×(List Dc)×Unit)×(Unit))):=
 bif decide (IntKind.i64.wrap (a0.2.2.2.1.1 + 1) > 1000000000) then some ((4,0,0,0,0,0,0,0,0,0,[],[],()),()) else bif decide (IntKind.i64.wrap (a0.2.2.2.1.2.2.1 + A3 a0.2.1) > 999999000) then some ((4,0,0,0,0,0,0,0,0,0,[],[],()),()) else ((fun d=>Ea (Jz d.1 d.2.1 d.2.2.1 d.2.2.2.1 d.2.2.2.2.1 d.2.2.2.2.2.1 d.2.2.2.2.2.2.1 d.2.2.2.2.2.2.2.1 d.2.2.2.2.2.2.2.2.1 d.2.2.2.2.2.2.2.2.2.1 d.2.2.2.2.2.2.2.2.2.2.1 d.2.2.2.2.2.2.2.2.2.2.2.1 d.2.2.2.2.2.2.2.2.2.2.2.2.1 d.2.2.2.2.2.2.2.2.2.2.2.2.2.1 d.2.2.2.2.2.2.2.2.2.2.2.2.2.2.1 d.2.2.2.2.2.2.2.2.2.2.2.2.2.2.2.1 d.2.2.2.2.2.2.2.2.2.2.2.2.2.2.2.2.1 d.2.2.2.2.2.2.2.2.2.2.2.2.2.2.2.2.2.1 d.2.2.2.2.2.2.2.2.2.2.2.2.2.2.2.2.2.2.1) d.1 d.2.1 d.2.2.1 d.2.2.2.1 d.2.2.2.2.1 d.2.2.2.2.2.1 d.2.2.2.2.2.2.1 d.2.2.2.2.2.2.2.1 d.2.2.2.2.2.2.2.2.1 d.2.2.2.2.2.2.2.2.2.1 d.2.2.2.2.2.2.2.2.2.2.1 d.2.2.2.2.2.2.2.2.2.2.2.1 d.2.2.2.2.2.2.2.2.2.2.2.2.1 d.2.2.2.2.2.2.2.2.2.2.2.2.2.1 d.2.2.2.2.2.2.2.2.2.2.2.2.2.2.1 d.2.2.2.2.2.2.2.2.2.2.2.2.2.2.2.1 d.2.2.2.2.2.2.2.2.2.2.2.2.2.2.2.2.1 d.2.2.2.2.2.2.2.2.2.2.2.2.2.2.2.2.2.1 d.2.2.2.2.2.2.2.2.2.2.2.2.2.2.2.2.2.2.1) (By a0.2.1 (IntKind.i64.wrap (1 - a0.2.2.2.1.2.1)),Me a0.2.2.2.2.2.2.1,1,0,a0,0,0,0,0,0,0,0,0,0,0,(IntKind.i64.wrap (a0.2.2.2.1.1 + 1),IntKind.i64.wrap (1 - a0.2.2.2.1.2.1),IntKind.i64.wrap (a0.2.2.2.1.2.2.1 + A3 a0.2.1),a0.2.2.1,()),[(false,By a0.2.1 (IntKind.i64.wrap (1 - a0.2.2.2.1.2.1)),Dx (3,a0.2.2.1,IntKind.i64.wrap (a0.2.2.2.1.2.2.1 + A3 a0.2.1),Ad,()) a0.1,())],[],[],())).bind fun val=>bif decide ((val.2.2.2.2.2.2.2.2.2.2.2.2.2.1.length + [(true,0,Ad,()),(false,Int.tmod val.2.2.2.2.2.2.2.2.2.2.2.2.1.1 2,J4 val.2.2.2.2.2.2.2.2.2.2.2.2.1 val.2.1.1,()),(true,0,Ad,())].length) * 32≤140737488355328) then ((Et val.2.1.2.2.2.2.2.2.1).bind fun val=>some (val,())).bind fun val_1=>some ((0,val.2.1.1,val.2.1.2.1,val.2.1.2.2.1,val.2.2.2.2.2.2.2.2.2.2.2.2.1.1,val.2.2.2.2.2.2.2.2.2.2.2.2.1.2.1,val.2.2.2.2.2.2.2.2.2.2.2.2.1.2.2.1,val.2.2.2.2.2.2.2.2.2.2.2.2.1.2.2.2.1,val.1,0,val_1.1.1,val.2.2.2.2.2.2.2.2.2.2.2.2.2.1++[(true,0,Ad,()),(false,Int.tmod val.2.2.2.2.2.2.2.2.2.2.2.2.1.1 2,J4 val.2.2.2.2.2.2.2.2.2.2.2.2.1 val.2.1.1,()),(true,0,Ad,())],()),()) else none
theorem Bfh (s:Ez) (R:Rt) (S:List (List Bc)) (v9:Int) (L0 P:List Aa) (hH:0≤R.2.1∧R.2.1≤1) (hL0:L0.length≤500000) (hP:P.length≤4001):
  Ey (M3 (Bk R.2.1 s.2.1) S (nI L0.length) v9 P 0 s 0 0 0 0 0 0 0 0 0 0 R (C9 (Bk R.2.1 s.2.1) L0) [] []) (Bk R.2.1 s.2.1) S (nI L0.length) v9 P 0 s 0 0 0 0 0 0 0 0 0 0 R (C9 (Bk R.2.1 s.2.1) L0) [] []=some (Bk R.2.1 s.2.1,S,nI (L0++P).length,v9,s,0,0,0,0,0,0,0,0,0,0,R,C9 (Bk R.2.1 s.2.1) (L0++P),[],[],()):=by
 have hm:=Am9 (n:=s.2.1) hH
 have hB:0≤Bk R.2.1 s.2.1∧Bk R.2.1 s.2.1≤101:=by unfold Bk; omega
 have hL:=E6 (xs:=P) z0 (fun i (L:List Aa)=>i≤4001∧L.length=L0.length + i) (fun (_:Nat) x L=>L++[x]) (g:=fun m i L=>Ey m (Bk R.2.1 s.2.1) S (nI L.length) v9 P i s 0 0 0 0 0 0 0 0 0 0 R (C9 (Bk R.2.1 s.2.1) L) [] []) (ok:=fun L=>(Bk R.2.1 s.2.1,S,nI L.length,v9,s,0,0,0,0,0,0,0,0,0,0,R,C9 (Bk R.2.1 s.2.1) L,[],[],())) (fun m i L hi hI=>by
   show Ey (m + 1) (Bk R.2.1 s.2.1) S (nI L.length) v9 P i s 0 0 0 0 0 0 0 0 0 0 R (C9 (Bk R.2.1 s.2.1) L) [] []=_
   simp only [Ey,M4]
   obtain ⟨h1,h2⟩:=hI
   have e1:IntKind.i64.wrap (nI L.length + 1)=nI (L.length + 1):=wI (show L.length < 4611686018427387904 by omega)
   have e2:IntKind.i64.wrap (Bk R.2.1 s.2.1 + nI L.length)=Bk R.2.1 s.2.1 + (L.length:Int):=by simp only [nI]; exact Aj (by omega) (by omega)
   rw [cLt hi,J1,wI (show i < 4611686018427387904 by omega),Fz,e1,e2,En,Q7,Af (show (L.length + 1) * 32≤140737488355328 by omega),A9a,Dn,En]
   rfl) (fun i L hi hI=>⟨by omega,by rw [Dn,En,hI.2]; omega⟩) (fun m L hI=>by
   show Ey (m + 1) (Bk R.2.1 s.2.1) S (nI L.length) v9 P (P.length:Int) s 0 0 0 0 0 0 0 0 0 0 R (C9 (Bk R.2.1 s.2.1) L) [] []=_
   simp only [Ey,M4]
   rw [Qd]
   rfl) (M3 (Bk R.2.1 s.2.1) S (nI L0.length) v9 P 0 s 0 0 0 0 0 0 0 0 0 0 R (C9 (Bk R.2.1 s.2.1) L0) [] []) 0 L0 (by omega) (by simp [M3,nI]) ⟨by omega,rfl⟩
 rw [A3o,List.drop_zero] at hL
 exact hL
theorem Bfi (s:Ez) (R:Rt) (S:List (List Bc)) (L:List Aa) (hS:S.length≤101) (hH:0≤R.2.1∧R.2.1≤1) (hF:0≤R.2.2.1∧R.2.2.1≤1000000099) (hL:L.length≤1):
  Ea (Jz (Bk R.2.1 s.2.1) S (nI L.length) 0 s 0 0 0 0 0 0 0 0 0 0 R (C9 (Bk R.2.1 s.2.1) L) [] []) (Bk R.2.1 s.2.1) S (nI L.length) 0 s 0 0 0 0 0 0 0 0 0 0 R (C9 (Bk R.2.1 s.2.1) L) [] []=some (nI (Ds (fun _ b L=>Sq s.1 s.2.2.1 R.2.2.1 b L) 0 S L).length,s,0,0,0,0,0,0,0,0,0,0,R,C9 (Bk R.2.1 s.2.1) (Ds (fun _ b L=>Sq s.1 s.2.2.1 R.2.2.1 b L) 0 S L),[],[],()):=by
 have hL:=E6 (xs:=S) [] MvI (fun _ b L=>Sq s.1 s.2.2.1 R.2.2.1 b L) (g:=fun m i L=>Ea m (Bk R.2.1 s.2.1) S (nI L.length) i s 0 0 0 0 0 0 0 0 0 0 R (C9 (Bk R.2.1 s.2.1) L) [] []) (ok:=fun L=>(nI L.length,s,0,0,0,0,0,0,0,0,0,0,R,C9 (Bk R.2.1 s.2.1) L,[],[],())) (fun m i L hi hI=>by
   show Ea (m + 1) (Bk R.2.1 s.2.1) S (nI L.length) i s 0 0 0 0 0 0 0 0 0 0 R (C9 (Bk R.2.1 s.2.1) L) [] []=_
   simp only [Ea,M6,M5,u4,Ac,Ah]
   obtain ⟨h1,h2⟩:=hI
   rw [cLt hi,J1,Fz]
   have e0:IntKind.i64.wrap (R.2.2.1 + nI L.length)=R.2.2.1 + (L.length:Int):=by simp only [nI]; exact Aj (by omega) (by omega)
   have e1:S5 (Er (List.getD S i [])) s.2.2.1 (R.2.2.1 + (L.length:Int)) s.1=some (Xm (Be (List.getD S i [])) s.2.2.1 (R.2.2.1 + (L.length:Int)) s.1):=if_pos (Nat.le_trans (La _) (by decide))
   rw [e0,e1]
   simp only [cond_true,Option.bind_some]
   refine Yi (Bfh s R S (i:Int) L (Xm (Be (List.getD S i [])) s.2.2.1 (R.2.2.1 + (L.length:Int)) s.1) hH (by omega) (Am8 _ _ _ _)) ?_
   dsimp only
   rw [wI (show i < 4611686018427387904 by omega)]
   rfl) (fun i L hi hI=>hI.step (by omega) _ _ _ _) (fun m L hI=>by
   show Ea (m + 1) (Bk R.2.1 s.2.1) S (nI L.length) (S.length:Int) s 0 0 0 0 0 0 0 0 0 0 R (C9 (Bk R.2.1 s.2.1) L) [] []=_
   simp only [Ea,M6,M5,u4,Ac,Ah]
   rw [Qd]
   rfl) (Jz (Bk R.2.1 s.2.1) S (nI L.length) 0 s 0 0 0 0 0 0 0 0 0 0 R (C9 (Bk R.2.1 s.2.1) L) [] []) 0 L (by omega) (by simp [Jz,nI]) ⟨by omega,by omega⟩
 exact hL
theorem A56 (a0:Ez) r (h:Ng a0=some r):z8 a0=some ((r.1,r.2.1.1,r.2.1.2.1,r.2.1.2.2.1,r.2.1.2.2.2.1.1,r.2.1.2.2.2.1.2.1,r.2.1.2.2.2.1.2.2.1,r.2.1.2.2.2.1.2.2.2.1,r.2.1.2.2.2.2.1,r.2.1.2.2.2.2.2.1,r.2.1.2.2.2.2.2.2.1.1,r.2.2.1,()),(())):=by
 unfold Ng at h
 split at h
 rotate_left
 ·cases h
 rename_i hk
 cases h
 obtain ⟨⟨t0,t1⟩,⟨h0,h1⟩,⟨f0,f1⟩,hp⟩:=hk
 have hh:=Pm a0.2.1
 unfold z8 Ub j5
 simp only [A3,Me,Dx,J4]
 show (bif decide (IntKind.i64.wrap (a0.2.2.2.1.1 + 1) > 1000000000) then _ else bif decide (IntKind.i64.wrap (a0.2.2.2.1.2.2.1 + Al a0.2.1) > 999999000) then _ else _)=_
 rw [Aj (n:=a0.2.2.2.1.1 + 1) (by omega) (by omega),Aj (n:=a0.2.2.2.1.2.2.1 + Al a0.2.1) (by omega) (by omega),Aj (n:=1 - a0.2.2.2.1.2.1) (by omega) (by omega)]
 cases hc1:decide (a0.2.2.2.1.1 + 1 > 1000000000) with
 | true=>rfl
 | false=>
  cases hc2:decide (a0.2.2.2.1.2.2.1 + Al a0.2.1 > 999999000) with
  | true=>rfl
  | false=>
   simp only [cond_false]
   have hm:=Am9 (n:=a0.2.1) (show 0≤1 - a0.2.2.2.1.2.1∧1 - a0.2.2.2.1.2.1≤1 by omega)
   have e0:By a0.2.1 (1 - a0.2.2.2.1.2.1)=Bk (1 - a0.2.2.2.1.2.1) a0.2.1:=by
    show IntKind.i64.wrap (2 + IntKind.i64.wrap ((1 - a0.2.2.2.1.2.1) * Al a0.2.1))=2 + (1 - a0.2.2.2.1.2.1) * Al a0.2.1
    rw [Aj (n:=(1 - a0.2.2.2.1.2.1) * Al a0.2.1) (by omega) (by omega),Aj (by omega) (by omega)]
   rw [e0]
   have hL1:=Bfi a0 ((a0.2.2.2.1.1 + 1),(1 - a0.2.2.2.1.2.1),(a0.2.2.2.1.2.2.1 + Al a0.2.1),a0.2.2.1,()) (Ed a0.2.2.2.2.2.2.1) [Ca (3,a0.2.2.1,a0.2.2.2.1.2.2.1 + Al a0.2.1,z0,()) a0.1] (Tl _) ⟨by dsimp only; omega,by dsimp only; omega⟩ ⟨by dsimp only; omega,by dsimp only; omega⟩ (Nat.le_refl 1)
   have hl:=A1o a0 a0.2.2.1
   have e1:Et (a0.2.2.2.2.2.2.1.1,())=some (a0.2.2.2.2.2.2.1.1,()):=if_pos hp
   have e2:decide (((C9 (Bk (1 - a0.2.2.2.1.2.1) a0.2.1) (mvL a0 a0.2.2.1)).length + 3) * 32≤140737488355328)=true:=Af (by rw [Q7]; omega)
   refine Yi hL1 ?_
   dsimp only
   simp only [List.length_cons,List.length_nil,Nat.zero_add,Nat.reduceAdd]
   refine (congrArg (fun c=>bif c then _ else none) e2).trans ?_
   simp only [cond_true]
   rw [e1]
   rfl
def Acf {R:Type} (k:Kt R):=(L7 (Gp 11) (.exit 0) 2 k)
def Acg {R:Type} (k:Kt R):=(L7 (Gp 15) (.exit 2) 4 k)
def Ade {R:Type}:Lt R Gp:=(Fp (pat:=Gp) 11 (fun d k=>(Au1 d).bind (Acf k)) (Fp (pat:=Gp) 15 (fun d k=>(M5 d).bind (Acg k)) Ik))
theorem Aaa:A5 Tryz.prog z7:=Bb ⟨Qh,N2,U1,n9,Ac8,Ay3,P0,Aed,Afe,trivial⟩
theorem Au2 {R:Type}:Ba Tryz.prog R 125 0 Gp Ade Ace:=
 Cn (cfg:=⟨z7,0,125,Gp⟩) 15 [] (fun NX X d=>(u4 (u4 (u4 (u4 (u4 (Ac Ah)))))) (M4  NX X) d) (fun m d=>(u4 (u4 (u4 (u4 (u4 (Ac Ah)))))) (Ey m) d) (fun d=>(u4 (u4 (u4 (u4 (u4 (Ac Ah)))))) M3 d) Acg Aaa trivial (fun f NX d=>by simp only [u4,Ac,Ah]; unfold M4; simp only [nb])
theorem Au3 {R:Type}:Ba Tryz.prog R 125 0 Gp Ade Vh:=
 Cn (cfg:=⟨z7,0,125,Gp⟩) 11 [Ace] (fun NX X d=>(u4 (u4 (u4 (u4 (Ac (Ac (Ac Ah))))))) (M6 M5 NX X) d) (fun m d=>(u4 (u4 (u4 (u4 (Ac (Ac (Ac Ah))))))) (Ea m) d) (fun d=>(u4 (u4 (u4 (u4 (Ac (Ac (Ac Ah))))))) Jz d) Acf Aaa ⟨Au2,trivial⟩ (fun f NX d=>by simp only [u4,Ac,Ah]; unfold M6; simp only [nb])
theorem Al6:B8 Tryz.prog 111 z6:=
 A7 (pat:=Gp) [Vh] Ade Aaa ⟨Au3,trivial⟩ Tryz.func111 (de:=fun x=>z8 x.1) (fun x r h=>Hf (A56 x.1) h) fun _=>by kernel_rfl
def B6 (d:Dk) (w:Int):Pl:=L8 d w
def Bca:Hh:=⟨[.rd yDk,.rd tI],[some 2,none],[.rd tI,.rd tI,.rd tI,.rd tI,.rd tI,.rd tI,.rd tI,.rd tI,.rd tI,.rd tI,.own 157 A1,.own 142 E4],[some 12]⟩
def Au4:SD:=⟨Bca,fun x=>some (((B6 x.1 x.2.1).1,(B6 x.1 x.2.1).2.1.1,(B6 x.1 x.2.1).2.1.2.1,(B6 x.1 x.2.1).2.1.2.2.1,(B6 x.1 x.2.1).2.1.2.2.2.1.1,(B6 x.1 x.2.1).2.1.2.2.2.1.2.1,(B6 x.1 x.2.1).2.1.2.2.2.1.2.2.1,(B6 x.1 x.2.1).2.1.2.2.2.1.2.2.2.1,(B6 x.1 x.2.1).2.1.2.2.2.2.1,(B6 x.1 x.2.1).2.1.2.2.2.2.2.1,(B6 x.1 x.2.1).2.1.2.2.2.2.2.2.1.1,(B6 x.1 x.2.1).2.2.1,()),(()))⟩
def Ag5 (a0:Dk) (a1:Int):Option ((((Int)×(Int)×(Int)×(Int)×(Int)×(Int)×(Int)×(Int)×(Int)×(Int)×(List A2)×(List Dc)×Unit)×(Unit))):=
 bif !Ft a0 then some ((1,0,0,0,0,0,0,0,0,0,[],[],()),()) else (Co a1).bind fun val=>bif !val.1.1 then some ((1,0,0,0,0,0,0,0,0,0,[],[],()),()) else ((Sb (Dt a0 (By (nI (List.length a0.1)) (An a0 a1).2.1) (A3 (nI (List.length a0.1))) (An a0 a1).2.2.1 (An a0 a1).2.2.2.1 a1).1).bind fun val=>some ((val.1.1,val.2,()),())).bind fun val=>bif !val.1.2.1 then some ((2,0,0,0,0,0,0,0,0,0,[],[],()),()) else bif decide (IntKind.i64.wrap ((Dt a0 (By (nI (List.length a0.1)) (An a0 a1).2.1) (A3 (nI (List.length a0.1))) (An a0 a1).2.2.1 (An a0 a1).2.2.2.1 a1).2.2.1 + 1) > 60000) then some ((3,0,0,0,0,0,0,0,0,0,[],[],()),()) else bif decide (On (val.1.1,()) a1 > IntKind.i64.wrap (A3 (nI (List.length a0.1)) - 1)) then some ((4,0,0,0,0,0,0,0,0,0,[],[],()),()) else bif decide ((Dt a0 (By (nI (List.length a0.1)) (An a0 a1).2.1) (A3 (nI (List.length a0.1))) (An a0 a1).2.2.1 (An a0 a1).2.2.2.1 a1).2.1≥A3 (nI (List.length a0.1))) then ((Ng (a1,nI (List.length a0.1),IntKind.i64.wrap ((Dt a0 (By (nI (List.length a0.1)) (An a0 a1).2.1) (A3 (nI (List.length a0.1))) (An a0 a1).2.2.1 (An a0 a1).2.2.2.1 a1).2.2.1 + 1),An a0 a1,(Dt a0 (By (nI (List.length a0.1)) (An a0 a1).2.1) (A3 (nI (List.length a0.1))) (An a0 a1).2.2.1 (An a0 a1).2.2.2.1 a1).2.1,0,(val.1.1,()),())).bind fun val=>some ((val.1,val.2.1.1,val.2.1.2.1,val.2.1.2.2.1,val.2.1.2.2.2.1.1,val.2.1.2.2.2.1.2.1,val.2.1.2.2.2.1.2.2.1,val.2.1.2.2.2.1.2.2.2.1,val.2.1.2.2.2.2.1,val.2.1.2.2.2.2.2.1,val.2.1.2.2.2.2.2.2.1.1,val.2.2),())).bind fun val=>some val else some ((0,a1,nI (List.length a0.1),IntKind.i64.wrap ((Dt a0 (By (nI (List.length a0.1)) (An a0 a1).2.1) (A3 (nI (List.length a0.1))) (An a0 a1).2.2.1 (An a0 a1).2.2.2.1 a1).2.2.1 + 1),(An a0 a1).1,(An a0 a1).2.1,(An a0 a1).2.2.1,(An a0 a1).2.2.2.1,IntKind.i64.wrap ((Dt a0 (By (nI (List.length a0.1)) (An a0 a1).2.1) (A3 (nI (List.length a0.1))) (An a0 a1).2.2.1 (An a0 a1).2.2.2.1 a1).2.1 + 1),0,val.1.1,[(false,IntKind.i64.wrap (By (nI (List.length a0.1)) (An a0 a1).2.1 + (Dt a0 (By (nI (List.length a0.1)) (An a0 a1).2.1) (A3 (nI (List.length a0.1))) (An a0 a1).2.2.1 (An a0 a1).2.2.2.1 a1).2.1),Dx (3,IntKind.i64.wrap ((Dt a0 (By (nI (List.length a0.1)) (An a0 a1).2.1) (A3 (nI (List.length a0.1))) (An a0 a1).2.2.1 (An a0 a1).2.2.2.1 a1).2.2.1 + 1),IntKind.i64.wrap ((An a0 a1).2.2.1 + (Dt a0 (By (nI (List.length a0.1)) (An a0 a1).2.1) (A3 (nI (List.length a0.1))) (An a0 a1).2.2.1 (An a0 a1).2.2.2.1 a1).2.1),Ad,()) a1,()),(true,0,Ad,())],()),())
theorem Bcb (a0:Dk) (a1:Int):Ag5 a0 a1=some (((B6 a0 a1).1,(B6 a0 a1).2.1.1,(B6 a0 a1).2.1.2.1,(B6 a0 a1).2.1.2.2.1,(B6 a0 a1).2.1.2.2.2.1.1,(B6 a0 a1).2.1.2.2.2.1.2.1,(B6 a0 a1).2.1.2.2.2.1.2.2.1,(B6 a0 a1).2.1.2.2.2.1.2.2.2.1,(B6 a0 a1).2.1.2.2.2.2.1,(B6 a0 a1).2.1.2.2.2.2.2.1,(B6 a0 a1).2.1.2.2.2.2.2.2.1.1,(B6 a0 a1).2.2.1,()),(())):=by
 unfold Ag5 B6 L8
 have ew:(bif decide (a1≥1) then (some ((decide (a1≤8),()),()):Option ((Bool×Unit)×Unit)) else some ((false,()),()))=some ((Bq a1 1 8,()),()):=by
  unfold Bq
  show (bif decide (1≤a1) then _ else _)=_
  cases decide (1≤a1)<;>rfl
 first
  | rw [ew]
  | rw [show Co a1=some ((Bq a1 1 8,()),()) from ew]
 show (bif !Ap a0 then _ else bif !Bq a1 1 8 then _ else _)=_
 cases hv:Ap a0 with
 | false=>rfl
 | true=>
  cases hw:Bq a1 1 8 with
  | false=>rfl
  | true=>
   simp only [Bool.not_true,cond_false]
   have hr:=To hv hw
   have hm:=Am9 (n:=nI a0.1.length) hr.2.1
   have hh:=Pm (nI a0.1.length)
   have eb:By (nI a0.1.length) (At a0 a1).2.1=Bk (At a0 a1).2.1 (nI a0.1.length):=by
    show IntKind.i64.wrap (2 + IntKind.i64.wrap ((At a0 a1).2.1 * Al (nI a0.1.length)))=2 + (At a0 a1).2.1 * Al (nI a0.1.length)
    rw [Aj (n:=(At a0 a1).2.1 * Al (nI a0.1.length)) (by omega) (by omega),Aj (by omega) (by omega)]
   have ex:Dt a0 (By (nI a0.1.length) (An a0 a1).2.1) (A3 (nI a0.1.length)) (An a0 a1).2.2.1 (An a0 a1).2.2.2.1 a1=Fs a0 a1:=by
    show Ua a0 (By (nI a0.1.length) (At a0 a1).2.1) (Al (nI a0.1.length)) (At a0 a1).2.2.1 (At a0 a1).2.2.2.1 a1=_
    rw [eb]
    rfl
   simp only [ex]
   have hx:(Fs a0 a1).1.length≤1073741824:=G8 (B2 (B2 (A3n a0 (Bk (At a0 a1).2.1 (nI a0.1.length)) (Al (nI a0.1.length)) (At a0 a1).2.2.1 (At a0 a1).2.2.2.1 a1)).1).1
   have hs:=Bea a0 (Bk (At a0 a1).2.1 (nI a0.1.length)) (Al (nI a0.1.length)) (At a0 a1).2.2.1 (At a0 a1).2.2.2.1 a1 hh.1 hr.2.2.2
   have hf:Sb (Fs a0 a1).1=some (Biz (Fs a0 a1).1):=if_pos hx
   rw [hf]
   unfold Biz
   cases ho:E1 (Fs a0 a1).1 Ye with
   | none=>rfl
   | some st=>
    have hst:=Q8 rfl ho
    replace hs:(0≤(Fs a0 a1).2.1∧(Fs a0 a1).2.1≤Al (nI a0.1.length))∧(0≤(Fs a0 a1).2.2.1∧(Fs a0 a1).2.2.1≤60000):=hs
    clear ho hx ex hf
    have eR:An a0 a1=At a0 a1:=rfl
    have eH:A3 (nI a0.1.length)=Al (nI a0.1.length):=rfl
    rw [eR,eH]
    generalize Fs a0 a1=x at *
    generalize At a0 a1=r at *
    show (bif decide (IntKind.i64.wrap (x.2.2.1 + 1) > 60000) then _ else bif decide (C5 st a1 > IntKind.i64.wrap (Al (nI a0.1.length) - 1)) then _ else bif decide (x.2.1≥Al (nI a0.1.length)) then _ else _)=_
    dsimp only
    rw [Aj (n:=x.2.2.1 + 1) (by omega) (by omega),Tm]
    by_cases h1:x.2.2.1 + 1 > 60000
    ·rw [Af h1,Ba5 h1]; rfl
    by_cases h2:C5 st a1 > Al (nI a0.1.length) - 1
    ·rw [Bd h1,Af h2,Ba6 h1 h2]; rfl
    by_cases h3:x.2.1 < Al (nI a0.1.length)
    ·rw [Bd h1,Bd h2,Bd (show ¬ x.2.1≥Al (nI a0.1.length) by omega),A1r h1 h2 h3]
     simp only [cond_true,cond_false]
     obtain ⟨_,hr1,hr2,hr3⟩:=hr
     have hB:0≤Bk r.2.1 (nI a0.1.length)∧Bk r.2.1 (nI a0.1.length)≤101:=by unfold Bk; omega
     rw [eb,Aj (n:=x.2.1 + 1) (by omega) (by omega),Aj (n:=Bk r.2.1 (nI a0.1.length) + x.2.1) (by omega) (by omega),Aj (n:=r.2.2.1 + x.2.1) (by omega) (by omega)]
     rfl
    ·rw [Bd h1,Bd h2,Af (show x.2.1≥Al (nI a0.1.length) by omega),A1s h1 h2 h3]
     simp only [cond_true,cond_false]
     have e1:Ng (a1,nI a0.1.length,x.2.2.1 + 1,r,x.2.1,0,st,())=some (Ub (a1,nI a0.1.length,x.2.2.1 + 1,r,x.2.1,0,st,())):=if_pos ⟨hr.1,hr.2.1,⟨Int.le_trans (by decide) hr.2.2.1.1,Int.le_trans hr.2.2.1.2 (by decide)⟩,Nat.le_trans (Cb hst) (by decide)⟩
     refine (congrArg (fun q=>Option.bind (Option.bind q _) _) e1).trans ?_
     rfl
theorem Bcc:B8 Tryz.prog 29 Au4:=
 A7 (pat:=Ei) [] Ik (Bb (l:=[(40,Nw),(41,Z9),(65,Dv),(66,Ho),(72,Kz),(107,Aff),(108,Auv),(109,U0),(110,Al3),(111,z6),(112,Xj)]) ⟨Qh,Agp,Ej,Jr,N2,Axq,Bb9,n9,A54,Al6,Ac8,trivial⟩) trivial Tryz.func29 (de:=fun x=>Ag5 x.1 x.2.1) (fun x r h=>(Bcb x.1 x.2.1).trans h) fun _=>by kernel_rfl
def Bp (s:Ez):Pl:=Kk s
def A7u:Hh:=⟨[.rd Yg],[some 10],[.rd tI,.rd tI,.rd tI,.rd tI,.rd tI,.rd tI,.rd tI,.rd tI,.rd tI,.rd tI,.own 157 A1,.own 142 E4],[some 12]⟩
def Apq:SD:=⟨A7u,fun x=>some (((Bp x.1).1,(Bp x.1).2.1.1,(Bp x.1).2.1.2.1,(Bp x.1).2.1.2.2.1,(Bp x.1).2.1.2.2.2.1.1,(Bp x.1).2.1.2.2.2.1.2.1,(Bp x.1).2.1.2.2.2.1.2.2.1,(Bp x.1).2.1.2.2.2.1.2.2.2.1,(Bp x.1).2.1.2.2.2.2.1,(Bp x.1).2.1.2.2.2.2.2.1,(Bp x.1).2.1.2.2.2.2.2.2.1.1,(Bp x.1).2.2.1,()),(()))⟩
def Adf (a0:Ez):Option ((((Int)×(Int)×(Int)×(Int)×(Int)×(Int)×(Int)×(Int)×(Int)×(Int)×(List A2)×(List Dc)×Unit)×(Unit))):=
 bif !Hn a0 then some ((1,0,0,0,0,0,0,0,0,0,[],[],()),()) else ((Et a0.2.2.2.2.2.2.1).bind fun val=>some (val,())).bind fun val=>some ((0,a0.1,a0.2.1,a0.2.2.1,a0.2.2.2.1.1,a0.2.2.2.1.2.1,a0.2.2.2.1.2.2.1,a0.2.2.2.1.2.2.2.1,a0.2.2.2.2.1,0,val.1.1,[(true,0,Ad,())],()),())
theorem A7v (a0:Ez):Adf a0=some (((Bp a0).1,(Bp a0).2.1.1,(Bp a0).2.1.2.1,(Bp a0).2.1.2.2.1,(Bp a0).2.1.2.2.2.1.1,(Bp a0).2.1.2.2.2.1.2.1,(Bp a0).2.1.2.2.2.1.2.2.1,(Bp a0).2.1.2.2.2.1.2.2.2.1,(Bp a0).2.1.2.2.2.2.1,(Bp a0).2.1.2.2.2.2.2.1,(Bp a0).2.1.2.2.2.2.2.2.1.1,(Bp a0).2.2.1,()),(())):=by
 unfold Adf Bp Kk
 show (bif !As a0 then _ else _)=_
 cases hv:As a0 with
 | false=>rfl
 | true=>
  have e1:Et (a0.2.2.2.2.2.2.1.1,())=some (a0.2.2.2.2.2.2.1.1,()):=if_pos (Nat.le_trans (Cb (Xf hv).2.2.1) (by decide))
  simp only [Bool.not_true,cond_false]
  rw [e1]
  rfl
theorem A7w:B8 Tryz.prog 37 Apq:=
 A7 (pat:=Ei) [] Ik (Bb (l:=[(30,Lh),(77,Qm)]) ⟨Ox,U1,trivial⟩) trivial Tryz.func37 (de:=fun x=>Adf x.1) (fun x r h=>(A7v x.1).trans h) fun _=>by kernel_rfl
def Bf (s:Ez):Pl:=F1 s
def A0k:Hh:=⟨[.rd Yg],[some 10],[.rd tI,.rd tI,.rd tI,.rd tI,.rd tI,.rd tI,.rd tI,.rd tI,.rd tI,.rd tI,.own 157 A1,.own 142 E4],[some 12]⟩
def Aic:SD:=⟨A0k,fun x=>some (((Bf x.1).1,(Bf x.1).2.1.1,(Bf x.1).2.1.2.1,(Bf x.1).2.1.2.2.1,(Bf x.1).2.1.2.2.2.1.1,(Bf x.1).2.1.2.2.2.1.2.1,(Bf x.1).2.1.2.2.2.1.2.2.1,(Bf x.1).2.1.2.2.2.1.2.2.2.1,(Bf x.1).2.1.2.2.2.2.1,(Bf x.1).2.1.2.2.2.2.2.1,(Bf x.1).2.1.2.2.2.2.2.2.1.1,(Bf x.1).2.2.1,()),(()))⟩
def Yx (a0:Ez):Option ((((Int)×(Int)×(Int)×(Int)×(Int)×(Int)×(Int)×(Int)×(Int)×(Int)×(List A2)×(List Dc)×Unit)×(Unit))):=
 bif !Hn a0 then some ((1,0,0,0,0,0,0,0,0,0,[],[],()),()) else ((Ng a0).bind fun val=>some ((val.1,val.2.1.1,val.2.1.2.1,val.2.1.2.2.1,val.2.1.2.2.2.1.1,val.2.1.2.2.2.1.2.1,val.2.1.2.2.2.1.2.2.1,val.2.1.2.2.2.1.2.2.2.1,val.2.1.2.2.2.2.1,val.2.1.2.2.2.2.2.1,val.2.1.2.2.2.2.2.2.1.1,val.2.2),())).bind fun val=>some val
theorem A0l (a0:Ez):Yx a0=some (((Bf a0).1,(Bf a0).2.1.1,(Bf a0).2.1.2.1,(Bf a0).2.1.2.2.1,(Bf a0).2.1.2.2.2.1.1,(Bf a0).2.1.2.2.2.1.2.1,(Bf a0).2.1.2.2.2.1.2.2.1,(Bf a0).2.1.2.2.2.1.2.2.2.1,(Bf a0).2.1.2.2.2.2.1,(Bf a0).2.1.2.2.2.2.2.1,(Bf a0).2.1.2.2.2.2.2.2.1.1,(Bf a0).2.2.1,()),(())):=by
 unfold Yx Bf F1
 show (bif !As a0 then _ else _)=_
 cases hv:As a0 with
 | false=>rfl
 | true=>
  have e1:Ng (a0.1,a0.2.1,a0.2.2.1,(a0.2.2.2.1.1,a0.2.2.2.1.2.1,a0.2.2.2.1.2.2.1,a0.2.2.2.1.2.2.2.1,()),a0.2.2.2.2.1,a0.2.2.2.2.2.1,(a0.2.2.2.2.2.2.1.1,()),())=some (Ub a0):=if_pos (A9b hv)
  simp only [Bool.not_true,cond_false,cond_true]
  rw [e1]
  rfl
theorem A0m:B8 Tryz.prog 38 Aic:=
 A7 (pat:=Ei) [] Ik (Bb (l:=[(30,Lh),(111,z6)]) ⟨Ox,Al6,trivial⟩) trivial Tryz.func38 (de:=fun x=>Yx x.1) (fun x r h=>(A0l x.1).trans h) fun _=>by kernel_rfl
def A57:Hh:=⟨[.rd I5,.rd Bdn],[some 16,some 4],[.rd Bkg,.rd .bool],[some 12,none]⟩
def Vi (a0:Bo) (a1:T8):Option (((Pl×(Bool)×Unit)×(Unit))):=
 bif a1.1==1 then some ((B6 a0.2.1 a0.1,!a0.2.2.1,()),()) else bif a1.1==2 then some ((A0 a0.2.2.2.1 a1.2.1,a0.2.2.1,()),()) else bif a1.1==3 then some ((Bp a0.2.2.2.1,a0.2.2.1,()),()) else bif a1.1==4 then some ((Bf a0.2.2.2.1,a0.2.2.1,()),()) else some (((0,(0,0,0,(0,0,0,0,()),0,0,([],()),()),[],()),false,()),())
theorem Al7:∃ f,f=@Vi:=⟨_,rfl⟩
def Sc:=Classical.choose Al7
theorem Al8:@Sc=@Vi:=Classical.choose_spec Al7
def Al9:SD:=⟨A57,fun x=>Sc x.1 x.2.1⟩
theorem Bp6 {w:Bo} (h:WOk w) (e:T8):Av (Sc w e) fun q=>q.1=((Ih w e).1,(Ih w e).2,()):=by
 rw [Al8]
 unfold Vi Ih
 refine Av.cond (fun c=>Av.some ?_) fun c=>Av.cond (fun c2=>Av.some ?_) fun c2=>Av.cond (fun c3=>Av.some ?_) fun c3=>Av.cond (fun c4=>Av.some ?_) fun c4=>Av.some ?_
 ·rw [c]; rfl
 ·rw [c,c2]; rfl
 ·rw [c,c2,c3]; rfl
 ·rw [c,c2,c3,c4]; rfl
 ·rw [c,c2,c3,c4]; rfl
theorem A58:B8 Tryz.prog 203 Al9:=
 A7 (pat:=Ei) [] Ik (Bb (l:=[(29,Au4),(36,U2),(37,Apq),(38,Aic)]) ⟨Bcc,s8,A7w,A0m,trivial⟩) trivial Tryz.func203 (de:=fun x=>Vi x.1 x.2.1) (fun x r h=>by have q:Sc x.1 x.2.1=some r:=h; rw [Al8] at q; exact q) fun _=>by kernel_rfl
end Go.Proofs.YtfkefgbihlfjmaaGreat.V
end
