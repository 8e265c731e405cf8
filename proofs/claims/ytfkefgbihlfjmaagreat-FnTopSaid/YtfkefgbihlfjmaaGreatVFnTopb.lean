/- What the functions that FnTop reaches come to: part 2. No condition. -/
import Derived.Test.YtfkefgbihlfjmaaGreatVFnTopa
import Derived.KernelRfl
noncomputable section
set_option linter.unusedVariables false
set_option linter.unusedSimpArgs false
namespace Go.Proofs.YtfkefgbihlfjmaaGreat.V
open Go Go.Proofs.YtfkefgbihlfjmaaGreat.R Go.Proofs
set_option maxRecDepth 100000
def Bq (d:Dk) (w:Int):R0:=Oo d w
def Ayq:Gc:=⟨[.rd yDk,.rd tI],[some 2,none],[.rd tI,.rd tI,.rd tI,.rd tI,.rd tI,.rd tI,.rd tI,.rd tI,.rd tI,.rd tI,.own 157 Ax,.own 142 Fe],[some 12]⟩
def Ayr:SD:=⟨Ayq,fun x=>some (((Bq x.1 x.2.1).1,(Bq x.1 x.2.1).2.1.1,(Bq x.1 x.2.1).2.1.2.1,(Bq x.1 x.2.1).2.1.2.2.1,(Bq x.1 x.2.1).2.1.2.2.2.1.1,(Bq x.1 x.2.1).2.1.2.2.2.1.2.1,(Bq x.1 x.2.1).2.1.2.2.2.1.2.2.1,(Bq x.1 x.2.1).2.1.2.2.2.1.2.2.2.1,(Bq x.1 x.2.1).2.1.2.2.2.2.1,(Bq x.1 x.2.1).2.1.2.2.2.2.2.1,(Bq x.1 x.2.1).2.1.2.2.2.2.2.2.1.1,(Bq x.1 x.2.1).2.2.1,()),(()))⟩
def Ays:Tb:=tb [(94,Hz),(95,Dm),(96,O9),(97,Ahr),(98,Ayh),(99,Zj),(100,Aec),(101,Afz),(102,z6),(103,Lh),(104,Aj8)]
def Qr:Nat→C2×(Nat→C2):=F0 [(10,⟨[.sl 50 0 .str,.boxRow 4 10 157 Ax,.boxRow 4 11 142 Fe,.boxSl 8 0 .str,.boxRow 9 0 157 Ax],[(1,.lf (.d tI)),(4,.lf (.ptr 0 0)),(5,.lf (.d tI)),(6,.lf (.d tI)),(7,.lf (.ptr 1 0)),(8,.lf (.ptr 2 0)),(9,.lf (.ptr 3 0)),(50,.lf (.d (.sl .str))),(51,.lf (.d tI)),(52,.lf (.d tI))],[.box 68 [.d tI,.d tI,.d tI,.d tI,.d tI,.d tI,.d tI,.d tI,.d tI,.d tI,.row 4,.row 5],.box 28 [.d tI,.d tI,.d tI,.d tI],.box 135 [.d (.sl .str),.d tI,.d tI],.box 31 [.row 6],.row 157 Ax,.row 142 Fe,.row 157 Ax]⟩,[(2,⟨[.boxRow 4 10 157 Ax,.boxRow 4 11 142 Fe,.boxSl 8 0 .str,.boxRow 9 0 157 Ax],[(1,.lf (.d tI)),(4,.lf (.ptr 0 0)),(5,.lf (.d tI)),(6,.lf (.d tI)),(7,.lf (.ptr 1 0)),(8,.lf (.ptr 2 0)),(9,.lf (.ptr 3 0))],[.box 68 [.d tI,.d tI,.d tI,.d tI,.d tI,.d tI,.d tI,.d tI,.d tI,.d tI,.row 4,.row 5],.box 28 [.d tI,.d tI,.d tI,.d tI],.box 135 [.d (.sl .str),.d tI,.d tI],.box 31 [.row 6],.row 157 Ax,.row 142 Fe,.row 157 Ax]⟩),(1,⟨[.boxRow 4 10 157 Ax,.boxRow 4 11 142 Fe],[(4,.lf (.ptr 0 0))],[.box 68 [.d tI,.d tI,.d tI,.d tI,.d tI,.d tI,.d tI,.d tI,.d tI,.d tI,.row 1,.row 2],.row 157 Ax,.row 142 Fe]⟩)])]
def Ak6:Code:=(At (Bb Tryz.f27)).getD 0 .skip
def Ng (v1 v5 v6:Int) (v50:List Aa) (v51 v52:Int) (b0_0 b0_1:Int) (b0_2 b0_3:Int) (b0_4 b0_5:Int) (b0_6 b0_7:Int) (b0_8 b0_9:Int) (b1_0 b1_1:Int) (b1_2 b1_3:Int) (b2_0:List Aa) (b2_1 b2_2:Int) (r4:List A1) (r5:List Dl) (r6:List A1):Nat:=(v51 - v52).toNat + 1
def Q2 {R:Type}  (NX:((Int)×(Int)×(Int)×(List Aa)×(Int)×(Int)×(Int)×(Int)×(Int)×(Int)×(Int)×(Int)×(Int)×(Int)×(Int)×(Int)×(Int)×(Int)×(Int)×(Int)×(List Aa)×(Int)×(Int)×(List A1)×(List Dl)×(List A1)×Unit)→Option R) (X2:((Int)×(Int)×(Int)×(Int)×(Int)×(Int)×(Int)×(Int)×(Int)×(Int)×(Int)×(Int)×(Int)×(Int)×(Int)×(Int)×(Int)×(List Aa)×(Int)×(Int)×(List A1)×(List Dl)×(List A1)×Unit)→Option R) (X1:((Int)×(Int)×(Int)×(Int)×(Int)×(Int)×(Int)×(Int)×(Int)×(Int)×(List A1)×(List Dl)×Unit)→Option R) (v1:Int) (v5:Int) (v6:Int) (v50:List Aa) (v51:Int) (v52:Int) (b0_0:Int) (b0_1:Int) (b0_2:Int) (b0_3:Int) (b0_4:Int) (b0_5:Int) (b0_6:Int) (b0_7:Int) (b0_8:Int) (b0_9:Int) (b1_0:Int) (b1_1:Int) (b1_2:Int) (b1_3:Int) (b2_0:List Aa) (b2_1:Int) (b2_2:Int) (r4:List A1) (r5:List Dl) (r6:List A1):Option R:=
 bif decide (v52 < v51) then bif decide (0≤v52) then bif decide (v52 < nI v50.length) then bif !(Ht (v50.getD v52.toNat (Ad))).2 then X1 (2,0,0,0,0,0,0,0,0,0,[],[],()) else bif (G6 (r6,()) (Ht (v50.getD v52.toNat (Ad))).1).2 != 0 then X1 (2,0,0,0,0,0,0,0,0,0,[],[],()) else NX (v1,v5,v6,v50,v51,IntKind.i64.wrap (v52 + 1),b0_0,b0_1,b0_2,b0_3,b0_4,b0_5,b0_6,b0_7,b0_8,b0_9,b1_0,b1_1,b1_2,b1_3,b2_0,b2_1,b2_2,r4,r5,(G6 (r6,()) (Ht (v50.getD v52.toNat (Ad))).1).1) else none else none else X2 (v1,v5,v6,b0_0,b0_1,b0_2,b0_3,b0_4,b0_5,b0_6,b0_7,b0_8,b0_9,b1_0,b1_1,b1_2,b1_3,b2_0,b2_1,b2_2,r4,r5,r6,())
def Ft:Nat→(Int)→(Int)→(Int)→(List Aa)→(Int)→(Int)→(Int)→(Int)→(Int)→(Int)→(Int)→(Int)→(Int)→(Int)→(Int)→(Int)→(Int)→(Int)→(Int)→(Int)→(List Aa)→(Int)→(Int)→(List A1)→(List Dl)→(List A1) →  Option (((Int)×(Int)×(Int)×(Int)×(Int)×(Int)×(Int)×(Int)×(Int)×(Int)×(Int)×(Int)×(Int)×(Int)×(Int)×(Int)×(Int)×(List Aa)×(Int)×(Int)×(List A1)×(List Dl)×(List A1)×Unit) ⊕ ((Int)×(Int)×(Int)×(Int)×(Int)×(Int)×(Int)×(Int)×(Int)×(Int)×(List A1)×(List Dl)×Unit))
 | 0,_,_,_,_,_,_,_,_,_,_,_,_,_,_,_,_,_,_,_,_,_,_,_,_,_,_=>none
 | m + 1,v1,v5,v6,v50,v51,v52,b0_0,b0_1,b0_2,b0_3,b0_4,b0_5,b0_6,b0_7,b0_8,b0_9,b1_0,b1_1,b1_2,b1_3,b2_0,b2_1,b2_2,r4,r5,r6=>Q2  (fun d=>Ft m d.1 d.2.1 d.2.2.1 d.2.2.2.1 d.2.2.2.2.1 d.2.2.2.2.2.1 d.2.2.2.2.2.2.1 d.2.2.2.2.2.2.2.1 d.2.2.2.2.2.2.2.2.1 d.2.2.2.2.2.2.2.2.2.1 d.2.2.2.2.2.2.2.2.2.2.1 d.2.2.2.2.2.2.2.2.2.2.2.1 d.2.2.2.2.2.2.2.2.2.2.2.2.1 d.2.2.2.2.2.2.2.2.2.2.2.2.2.1 d.2.2.2.2.2.2.2.2.2.2.2.2.2.2.1 d.2.2.2.2.2.2.2.2.2.2.2.2.2.2.2.1 d.2.2.2.2.2.2.2.2.2.2.2.2.2.2.2.2.1 d.2.2.2.2.2.2.2.2.2.2.2.2.2.2.2.2.2.1 d.2.2.2.2.2.2.2.2.2.2.2.2.2.2.2.2.2.2.1 d.2.2.2.2.2.2.2.2.2.2.2.2.2.2.2.2.2.2.2.1 d.2.2.2.2.2.2.2.2.2.2.2.2.2.2.2.2.2.2.2.2.1 d.2.2.2.2.2.2.2.2.2.2.2.2.2.2.2.2.2.2.2.2.2.1 d.2.2.2.2.2.2.2.2.2.2.2.2.2.2.2.2.2.2.2.2.2.2.1 d.2.2.2.2.2.2.2.2.2.2.2.2.2.2.2.2.2.2.2.2.2.2.2.1 d.2.2.2.2.2.2.2.2.2.2.2.2.2.2.2.2.2.2.2.2.2.2.2.2.1 d.2.2.2.2.2.2.2.2.2.2.2.2.2.2.2.2.2.2.2.2.2.2.2.2.2.1) (fun d=>some (.inl (d))) (fun d=>some (.inr (d))) v1 v5 v6 v50 v51 v52 b0_0 b0_1 b0_2 b0_3 b0_4 b0_5 b0_6 b0_7 b0_8 b0_9 b1_0 b1_1 b1_2 b1_3 b2_0 b2_1 b2_2 r4 r5 r6
def A44 (d:(Int)×(Int)×(Int)×(List Aa)×(Int)×(Int)×(Int)×(Int)×(Int)×(Int)×(Int)×(Int)×(Int)×(Int)×(Int)×(Int)×(Int)×(Int)×(Int)×(Int)×(List Aa)×(Int)×(Int)×(List A1)×(List Dl)×(List A1)×Unit):Option (((Int)×(Int)×(Int)×(Int)×(Int)×(Int)×(Int)×(Int)×(Int)×(Int)×(Int)×(Int)×(Int)×(Int)×(Int)×(Int)×(Int)×(List Aa)×(Int)×(Int)×(List A1)×(List Dl)×(List A1)×Unit) ⊕ ((Int)×(Int)×(Int)×(Int)×(Int)×(Int)×(Int)×(Int)×(Int)×(Int)×(List A1)×(List Dl)×Unit)):=(u4 (u4 (u4 (u4 (u4 (u4 (Ac (Ac Ae)))))))) (Ft ((u4 (u4 (u4 (u4 (u4 (u4 (Ac (Ac Ae)))))))) Ng d)) d
def Akc (a0:Dk) (a1:Int):Option ((((Int)×(Int)×(Int)×(Int)×(Int)×(Int)×(Int)×(Int)×(Int)×(Int)×(List A1)×(List Dl)×Unit)×(Unit))):=
 bif !F4 a0 then some ((1,0,0,0,0,0,0,0,0,0,[],[],()),()) else bif !Ba a1 1 8 then some ((1,0,0,0,0,0,0,0,0,0,[],[],()),()) else ((fun d=>Ft (Ng d.1 d.2.1 d.2.2.1 d.2.2.2.1 d.2.2.2.2.1 d.2.2.2.2.2.1 d.2.2.2.2.2.2.1 d.2.2.2.2.2.2.2.1 d.2.2.2.2.2.2.2.2.1 d.2.2.2.2.2.2.2.2.2.1 d.2.2.2.2.2.2.2.2.2.2.1 d.2.2.2.2.2.2.2.2.2.2.2.1 d.2.2.2.2.2.2.2.2.2.2.2.2.1 d.2.2.2.2.2.2.2.2.2.2.2.2.2.1 d.2.2.2.2.2.2.2.2.2.2.2.2.2.2.1 d.2.2.2.2.2.2.2.2.2.2.2.2.2.2.2.1 d.2.2.2.2.2.2.2.2.2.2.2.2.2.2.2.2.1 d.2.2.2.2.2.2.2.2.2.2.2.2.2.2.2.2.2.1 d.2.2.2.2.2.2.2.2.2.2.2.2.2.2.2.2.2.2.1 d.2.2.2.2.2.2.2.2.2.2.2.2.2.2.2.2.2.2.2.1 d.2.2.2.2.2.2.2.2.2.2.2.2.2.2.2.2.2.2.2.2.1 d.2.2.2.2.2.2.2.2.2.2.2.2.2.2.2.2.2.2.2.2.2.1 d.2.2.2.2.2.2.2.2.2.2.2.2.2.2.2.2.2.2.2.2.2.2.1 d.2.2.2.2.2.2.2.2.2.2.2.2.2.2.2.2.2.2.2.2.2.2.2.1 d.2.2.2.2.2.2.2.2.2.2.2.2.2.2.2.2.2.2.2.2.2.2.2.2.1 d.2.2.2.2.2.2.2.2.2.2.2.2.2.2.2.2.2.2.2.2.2.2.2.2.2.1) d.1 d.2.1 d.2.2.1 d.2.2.2.1 d.2.2.2.2.1 d.2.2.2.2.2.1 d.2.2.2.2.2.2.1 d.2.2.2.2.2.2.2.1 d.2.2.2.2.2.2.2.2.1 d.2.2.2.2.2.2.2.2.2.1 d.2.2.2.2.2.2.2.2.2.2.1 d.2.2.2.2.2.2.2.2.2.2.2.1 d.2.2.2.2.2.2.2.2.2.2.2.2.1 d.2.2.2.2.2.2.2.2.2.2.2.2.2.1 d.2.2.2.2.2.2.2.2.2.2.2.2.2.2.1 d.2.2.2.2.2.2.2.2.2.2.2.2.2.2.2.1 d.2.2.2.2.2.2.2.2.2.2.2.2.2.2.2.2.1 d.2.2.2.2.2.2.2.2.2.2.2.2.2.2.2.2.2.1 d.2.2.2.2.2.2.2.2.2.2.2.2.2.2.2.2.2.2.1 d.2.2.2.2.2.2.2.2.2.2.2.2.2.2.2.2.2.2.2.1 d.2.2.2.2.2.2.2.2.2.2.2.2.2.2.2.2.2.2.2.2.1 d.2.2.2.2.2.2.2.2.2.2.2.2.2.2.2.2.2.2.2.2.2.1 d.2.2.2.2.2.2.2.2.2.2.2.2.2.2.2.2.2.2.2.2.2.2.1 d.2.2.2.2.2.2.2.2.2.2.2.2.2.2.2.2.2.2.2.2.2.2.2.1 d.2.2.2.2.2.2.2.2.2.2.2.2.2.2.2.2.2.2.2.2.2.2.2.2.1 d.2.2.2.2.2.2.2.2.2.2.2.2.2.2.2.2.2.2.2.2.2.2.2.2.2.1) (a1,nI (List.length a0.1),Bv (nI (List.length a0.1)),(Hs a0 (Df (A8 a0 a1).2.1 (nI (List.length a0.1))) (Bv (nI (List.length a0.1))) (A8 a0 a1).2.2.1 (A8 a0 a1).2.2.2.1 a1).1,nI (Hs a0 (Df (A8 a0 a1).2.1 (nI (List.length a0.1))) (Bv (nI (List.length a0.1))) (A8 a0 a1).2.2.1 (A8 a0 a1).2.2.2.1 a1).1.length,0,0,0,0,0,0,0,0,0,0,0,(A8 a0 a1).1,(A8 a0 a1).2.1,(A8 a0 a1).2.2.1,(A8 a0 a1).2.2.2.1,(Hs a0 (Df (A8 a0 a1).2.1 (nI (List.length a0.1))) (Bv (nI (List.length a0.1))) (A8 a0 a1).2.2.1 (A8 a0 a1).2.2.2.1 a1).1,(Hs a0 (Df (A8 a0 a1).2.1 (nI (List.length a0.1))) (Bv (nI (List.length a0.1))) (A8 a0 a1).2.2.1 (A8 a0 a1).2.2.2.1 a1).2.1,(Hs a0 (Df (A8 a0 a1).2.1 (nI (List.length a0.1))) (Bv (nI (List.length a0.1))) (A8 a0 a1).2.2.1 (A8 a0 a1).2.2.2.1 a1).2.2.1,[],[],[],())).bind fun val=>Bx (fun d=>bif decide (IntKind.i64.wrap (d.2.2.2.2.2.2.2.2.2.2.2.2.2.2.2.2.2.2.2.1 + 1) > 60000) then some ((3,0,0,0,0,0,0,0,0,0,[],[],()),()) else bif decide (Qb d.2.2.2.2.2.2.2.2.2.2.2.2.2.2.2.2.2.2.2.2.2.2 d.1 > IntKind.i64.wrap (d.2.2.1 - 1)) then some ((4,0,0,0,0,0,0,0,0,0,[],[],()),()) else bif decide (d.2.2.2.2.2.2.2.2.2.2.2.2.2.2.2.2.2.2.1 < d.2.2.1) then some ((0,d.1,d.2.1,IntKind.i64.wrap (d.2.2.2.2.2.2.2.2.2.2.2.2.2.2.2.2.2.2.2.1 + 1),d.2.2.2.2.2.2.2.2.2.2.2.2.2.1,d.2.2.2.2.2.2.2.2.2.2.2.2.2.2.1,d.2.2.2.2.2.2.2.2.2.2.2.2.2.2.2.1,d.2.2.2.2.2.2.2.2.2.2.2.2.2.2.2.2.1,IntKind.i64.wrap (d.2.2.2.2.2.2.2.2.2.2.2.2.2.2.2.2.2.2.1 + 1),0,d.2.2.2.2.2.2.2.2.2.2.2.2.2.2.2.2.2.2.2.2.2.2.1,[(false,IntKind.i64.wrap (Df d.2.2.2.2.2.2.2.2.2.2.2.2.2.2.1 d.2.1 + d.2.2.2.2.2.2.2.2.2.2.2.2.2.2.2.2.2.2.1),Dt (3,IntKind.i64.wrap (d.2.2.2.2.2.2.2.2.2.2.2.2.2.2.2.2.2.2.2.1 + 1),IntKind.i64.wrap (d.2.2.2.2.2.2.2.2.2.2.2.2.2.2.2.1 + d.2.2.2.2.2.2.2.2.2.2.2.2.2.2.2.2.2.2.1),Ad,()) d.1,()),(true,0,Ad,())],()),()) else ((Sg (d.1,d.2.1,IntKind.i64.wrap (d.2.2.2.2.2.2.2.2.2.2.2.2.2.2.2.2.2.2.2.1 + 1),(d.2.2.2.2.2.2.2.2.2.2.2.2.2.1,d.2.2.2.2.2.2.2.2.2.2.2.2.2.2.1,d.2.2.2.2.2.2.2.2.2.2.2.2.2.2.2.1,d.2.2.2.2.2.2.2.2.2.2.2.2.2.2.2.2.1,()),d.2.2.2.2.2.2.2.2.2.2.2.2.2.2.2.2.2.2.1,0,d.2.2.2.2.2.2.2.2.2.2.2.2.2.2.2.2.2.2.2.2.2.2,()) (IntKind.i64.wrap (d.2.2.2.2.2.2.2.2.2.2.2.2.2.2.2.2.2.2.2.1 + 1))).bind fun val=>some ((val.1.1,val.1.2.1,val.1.2.2.1,val.1.2.2.2.1.1,val.1.2.2.2.1.2.1,val.1.2.2.2.1.2.2.1,val.1.2.2.2.1.2.2.2.1,val.1.2.2.2.2.1,val.1.2.2.2.2.2.1,val.1.2.2.2.2.2.2.1.1,val.2.1,val.2.2,()),())).bind fun val=>bif !val.1.2.2.2.2.2.2.2.2.2.2.2.1 then some ((4,0,0,0,0,0,0,0,0,0,[],[],()),()) else some ((0,val.1.1,val.1.2.1,val.1.2.2.1,val.1.2.2.2.1,val.1.2.2.2.2.1,val.1.2.2.2.2.2.1,val.1.2.2.2.2.2.2.1,val.1.2.2.2.2.2.2.2.1,val.1.2.2.2.2.2.2.2.2.1,val.1.2.2.2.2.2.2.2.2.2.1,val.1.2.2.2.2.2.2.2.2.2.2.1,()),())) (fun d=>some (d,())) val
theorem Blk (w n h:Int) (r:Rt) (x:Scd) (hx:x.1.length≤1073741824):
  Ft (Ng w n h x.1 (nI x.1.length) 0 0 0 0 0 0 0 0 0 0 0 r.1 r.2.1 r.2.2.1 r.2.2.2.1 x.1 x.2.1 x.2.2.1 [] [] []) w n h x.1 (nI x.1.length) 0 0 0 0 0 0 0 0 0 0 0 r.1 r.2.1 r.2.2.1 r.2.2.2.1 x.1 x.2.1 x.2.2.1 [] [] []=some (match E8 x.1 Ut with
   | some st=>.inl (w,n,h,0,0,0,0,0,0,0,0,0,0,r.1,r.2.1,r.2.2.1,r.2.2.2.1,x.1,x.2.1,x.2.2.1,[],[],st.1,())
   | none=>.inr (2,0,0,0,0,0,0,0,0,0,[],[],())):=by
 have hL:=A0z (xs:=x.1) (g:=fun m i q=>Ft m w n h x.1 (nI x.1.length) i 0 0 0 0 0 0 0 0 0 0 r.1 r.2.1 r.2.2.1 r.2.2.2.1 x.1 x.2.1 x.2.2.1 [] [] q) (ok:=fun q=>.inl (w,n,h,0,0,0,0,0,0,0,0,0,0,r.1,r.2.1,r.2.2.1,r.2.2.2.1,x.1,x.2.1,x.2.2.1,[],[],q,())) (bad:=.inr (2,0,0,0,0,0,0,0,0,0,[],[],())) (fun m i q hi=>by
   show Ft (m + 1) w n h x.1 (nI x.1.length) i 0 0 0 0 0 0 0 0 0 0 r.1 r.2.1 r.2.2.1 r.2.2.2.1 x.1 x.2.1 x.2.2.1 [] [] q=_
   simp only [Ft,Q2]
   rw [Xv hi,G9,wI (show i < 4611686018427387904 by omega),En]
   rfl) (fun m q=>by
   show Ft (m + 1) w n h x.1 (nI x.1.length) (x.1.length:Int) 0 0 0 0 0 0 0 0 0 0 r.1 r.2.1 r.2.2.1 r.2.2.2.1 x.1 x.2.1 x.2.2.1 [] [] q=_
   simp only [Ft,Q2]
   rw [Od]
   rfl) (Ng w n h x.1 (nI x.1.length) 0 0 0 0 0 0 0 0 0 0 0 r.1 r.2.1 r.2.2.1 r.2.2.2.1 x.1 x.2.1 x.2.2.1 [] [] []) 0 [] (by omega) (by simp [Ng,nI])
 rw [List.drop_zero] at hL
 exact hL
theorem Bh8 (a0:Dk) (a1:Int):Akc a0 a1=some (((Bq a0 a1).1,(Bq a0 a1).2.1.1,(Bq a0 a1).2.1.2.1,(Bq a0 a1).2.1.2.2.1,(Bq a0 a1).2.1.2.2.2.1.1,(Bq a0 a1).2.1.2.2.2.1.2.1,(Bq a0 a1).2.1.2.2.2.1.2.2.1,(Bq a0 a1).2.1.2.2.2.1.2.2.2.1,(Bq a0 a1).2.1.2.2.2.2.1,(Bq a0 a1).2.1.2.2.2.2.2.1,(Bq a0 a1).2.1.2.2.2.2.2.2.1.1,(Bq a0 a1).2.2.1,()),(())):=by
 unfold Akc Bq Oo
 show (bif !Ar a0 then _ else bif !Bw a1 1 8 then _ else _)=_
 cases hv:Ar a0 with
 | false=>rfl
 | true=>
  cases hw:Bw a1 1 8 with
  | false=>rfl
  | true=>
   simp only [Bool.not_true,cond_false]
   have hr:=Vr hv hw
   have hm:=Arg (n:=nI a0.1.length) hr.2.1
   have hh:=Ra (nI a0.1.length)
   have eb:Df (Aw a0 a1).2.1 (nI a0.1.length)=Bn (Aw a0 a1).2.1 (nI a0.1.length):=by
    show IntKind.i64.wrap (2 + IntKind.i64.wrap ((Aw a0 a1).2.1 * Al (nI a0.1.length)))=2 + (Aw a0 a1).2.1 * Al (nI a0.1.length)
    rw [Aj (n:=(Aw a0 a1).2.1 * Al (nI a0.1.length)) (by omega) (by omega),Aj (by omega) (by omega)]
   have ex:Hs a0 (Df (A8 a0 a1).2.1 (nI a0.1.length)) (Bv (nI a0.1.length)) (A8 a0 a1).2.2.1 (A8 a0 a1).2.2.2.1 a1=F3 a0 a1:=by
    show V9 a0 (Df (Aw a0 a1).2.1 (nI a0.1.length)) (Al (nI a0.1.length)) (Aw a0 a1).2.2.1 (Aw a0 a1).2.2.2.1 a1=_
    rw [eb]
    rfl
   simp only [ex]
   have hx:(F3 a0 a1).1.length≤1073741824:=Io (B6 (B6 (A8x a0 (Bn (Aw a0 a1).2.1 (nI a0.1.length)) (Al (nI a0.1.length)) (Aw a0 a1).2.2.1 (Aw a0 a1).2.2.2.1 a1)).1).1
   have hs:=Bkh a0 (Bn (Aw a0 a1).2.1 (nI a0.1.length)) (Al (nI a0.1.length)) (Aw a0 a1).2.2.1 (Aw a0 a1).2.2.2.1 a1 hh.1 hr.2.2.2
   refine Qe (Blk a1 (nI a0.1.length) (Al (nI a0.1.length)) (Aw a0 a1) (F3 a0 a1) hx) ?_
   cases ho:E8 (F3 a0 a1).1 Ut with
   | none=>rfl
   | some st=>
    have hst:=Sz rfl ho
    replace hs:(0≤(F3 a0 a1).2.1∧(F3 a0 a1).2.1≤Al (nI a0.1.length))∧(0≤(F3 a0 a1).2.2.1∧(F3 a0 a1).2.2.1≤60000):=hs
    clear ho hx ex
    generalize F3 a0 a1=x at *
    generalize Aw a0 a1=r at *
    show (bif decide (IntKind.i64.wrap (x.2.2.1 + 1) > 60000) then _ else bif decide (D4 st a1 > IntKind.i64.wrap (Al (nI a0.1.length) - 1)) then _ else bif decide (x.2.1 < Al (nI a0.1.length)) then _ else _)=_
    dsimp only
    rw [Aj (n:=x.2.2.1 + 1) (by omega) (by omega),Vp]
    by_cases h1:x.2.2.1 + 1 > 60000
    ·rw [Ag h1,Bhd h1]; rfl
    by_cases h2:D4 st a1 > Al (nI a0.1.length) - 1
    ·rw [Bd h1,Ag h2,Bhe h1 h2]; rfl
    by_cases h3:x.2.1 < Al (nI a0.1.length)
    ·rw [Bd h1,Bd h2,Ag h3,A61 h1 h2 h3]
     simp only [cond_true,cond_false]
     obtain ⟨_,hr1,hr2,hr3⟩:=hr
     have hB:0≤Bn r.2.1 (nI a0.1.length)∧Bn r.2.1 (nI a0.1.length)≤101:=by unfold Bn; omega
     rw [eb,Aj (n:=x.2.1 + 1) (by omega) (by omega),Aj (n:=Bn r.2.1 (nI a0.1.length) + x.2.1) (by omega) (by omega),Aj (n:=r.2.2.1 + x.2.1) (by omega) (by omega)]
     rfl
    ·rw [Bd h1,Bd h2,Bd h3,A62 h1 h2 h3]
     simp only [cond_true,cond_false]
     have e1:Sg (a1,nI a0.1.length,x.2.2.1 + 1,r,x.2.1,0,st,()) (x.2.2.1 + 1)=some (Aa0 (a1,nI a0.1.length,x.2.2.1 + 1,r,x.2.1,0,st,()) (x.2.2.1 + 1)):=if_pos ⟨hr.1,hr.2.1,⟨Int.le_trans (by decide) hr.2.2.1.1,Int.le_trans hr.2.2.1.2 (by decide)⟩,Nat.le_trans (Ca hst) (by decide)⟩
     refine (congrArg (fun q=>Option.bind (Option.bind q _) _) e1).trans ?_
     unfold Wa
     generalize Aa0 (a1,nI a0.1.length,x.2.2.1 + 1,r,x.2.1,0,st,()) (x.2.2.1 + 1)=q
     obtain ⟨s,ops,b⟩:=q
     cases b<;>rfl
def Ak7 {R:Type} (k:Kt R):=(Bx (I3 (Qr 10) (.exit 0) 2 k) (I3 (Qr 10) .ret 1 k))
def A4a {R:Type}:Lt R Qr:=(Ea (pat:=Qr) 10 (fun d k=>(A44 d).bind (Ak7 k)) Hn)
theorem Ayt:A2 Tryz.prog Ays:=A5 ⟨J8,D2,R6,A1y,Bh4,Afy,Aym,As9,Aj1,O7,Ayp,trivial⟩
theorem A45 {R:Type}:A4 Tryz.prog R 137 0 Qr A4a Ak6:=
 B8 (cfg:=⟨Ays,0,137,Qr⟩) 10 [] (fun NX X d=>(u4 (u4 (u4 (u4 (u4 (u4 (Ac (Ac Ae)))))))) (Q2  NX (fun e=>X (.inl (e))) (fun e=>X (.inr (e)))) d) (fun m d=>(u4 (u4 (u4 (u4 (u4 (u4 (Ac (Ac Ae)))))))) (Ft m) d) (fun d=>(u4 (u4 (u4 (u4 (u4 (u4 (Ac (Ac Ae)))))))) Ng d) Ak7 Ayt trivial (fun f NX d=>by simp only [u4,Ac,Ae]; unfold Q2; simp only [nb])
theorem Akd:Bs Tryz.prog 27 Ayr:=
 A3 (pat:=Qr) [Ak6] A4a Ayt ⟨A45,trivial⟩ Tryz.func27 (de:=fun x=>Akc x.1 x.2.1) (fun x r h=>(Bh8 x.1 x.2.1).trans h) fun _=>by kernel_rfl
def Jl (w:Bg):B5×Int:=L7 w
def Bdd:Gc:=⟨[.rd Gv],[some 16],[.own 157 Ax,.rd tI],[some 1,none]⟩
def Af1:SD:=⟨Bdd,fun x=>some (((Jl x.1).1.1,(Jl x.1).2,()),(()))⟩
def Af2 (a0:Bg):Option ((((List A1)×(Int)×Unit)×(Unit))):=
 bif !H4 a0 then some (([],1,()),()) else bif decide ((0 + List.length a0.2.1.1) * 16≤140737488355328) then some (((Bq ([]++a0.2.1.1,[],()) a0.1).2.1.2.2.2.2.2.2.1.1,(Bq ([]++a0.2.1.1,[],()) a0.1).1,()),()) else none
theorem Bde (a0:Bg):Af2 a0=some (((Jl a0).1.1,(Jl a0).2,()),(())):=by
 unfold Af2 Jl L7
 show (bif !Bf a0 then _ else _)=_
 cases hv:Bf a0 with
 | false=>rfl
 | true=>
  simp only [Bool.not_true,cond_false]
  have hd:=(Ix (x9 hv).1).n200
  rw [Ag (show (0 + List.length a0.2.1.1) * 16≤140737488355328 by omega)]
  rfl
theorem Atc:Bs Tryz.prog 20 Af1:=
 A3 (pat:=Dp) [] Hn (A5 (l:=[(27,Ayr),(64,Ql)]) ⟨Akd,U1,trivial⟩) trivial Tryz.func20 (de:=fun x=>Af2 x.1) (fun x r h=>(Bde x.1).trans h) fun _=>by kernel_rfl
def E0 (a b:B5):Option Bool:=if a.1.length≤1073741824 then some (eqL (fun x y:A1=>eqB Ax x y) a.1 b.1) else none
def Baq:Gc:=⟨[.rd C8,.rd C8],[some 1,some 1],[.rd .bool],[none]⟩
def Si:SD:=⟨Baq,fun x=>(E0 x.1 x.2.1).bind fun r=>some ((r,()),(()))⟩
def Ao1:Tb:=tb []
def Mm:Nat→C2×(Nat→C2):=F0 [(5,⟨[.boxSl 2 0 Ax,.boxSl 3 0 Ax],[(2,.lf (.ptr 0 0)),(3,.lf (.ptr 1 0)),(5,.lf (.d tI))],[.box 31 [.d (.sl Ax)],.box 31 [.d (.sl Ax)]]⟩,[(2,p0),(1,⟨[],[(4,.lf (.d .bool))],[]⟩)])]
def Ah0:Code:=(At (Bb Tryz.f39)).getD 0 .skip
def Pn (v5:Int) (b0_0 b1_0:List A1):Nat:=((b0_0.length:Int) - v5).toNat + 1
def Po {R:Type}  (NX:((Int)×(List A1)×(List A1)×Unit)→Option R) (X2:(Unit)→Option R) (X1:((Bool)×Unit)→Option R) (v5:Int) (b0_0:List A1) (b1_0:List A1):Option R:=
 bif decide (v5 < nI b0_0.length) then bif decide (0≤v5) then bif decide (v5 < nI b0_0.length) then bif decide (0≤v5) then bif decide (v5 < nI b1_0.length) then bif !(ByteArray.toList (b0_0.getD v5.toNat (Ad,Ad,())).1==ByteArray.toList (b1_0.getD v5.toNat (Ad,Ad,())).1&&(ByteArray.toList (b0_0.getD v5.toNat (Ad,Ad,())).2.1==ByteArray.toList (b1_0.getD v5.toNat (Ad,Ad,())).2.1&&true)) then X1 (false,()) else NX (IntKind.i64.wrap (v5 + 1),b0_0,b1_0,()) else none else none else none else none else X2 PUnit.unit
def F7:Nat→(Int)→(List A1)→(List A1) →  Option ((Unit) ⊕ ((Bool)×Unit))
 | 0,_,_,_=>none
 | m + 1,v5,b0_0,b1_0=>Po  (fun d=>F7 m d.1 d.2.1 d.2.2.1) (fun d=>some (.inl (d))) (fun d=>some (.inr (d))) v5 b0_0 b1_0
def A16 (d:(Int)×(List A1)×(List A1)×Unit):Option ((Unit) ⊕ ((Bool)×Unit)):=(Ac (Ac (Ac Ae))) (F7 ((Ac (Ac (Ac Ae))) Pn d)) d
def Abx (a0 a1:B5):Option ((((Bool)×Unit)×(Unit))):=
 bif nI (List.length a0.1) != nI (List.length a1.1) then some ((false,()),()) else ((fun d=>F7 (Pn d.1 d.2.1 d.2.2.1) d.1 d.2.1 d.2.2.1) (0,a0.1,a1)).bind fun val=>Bx (fun d=>some ((true,()),())) (fun d=>some (d,())) val
theorem Bar (a0 a1:B5) r (h:E0 a0 a1=some r):Abx a0 a1=some ((r,()),(())):=by
 unfold E0 at h
 split at h
 rotate_left
 ·cases h
 rename_i hlen
 cases h
 unfold Abx
 by_cases hl:a1.1.length=a0.1.length
 ·have c1:(nI a0.1.length != nI a1.1.length)=false:=by simp [nI,hl]
  rw [c1]
  have hL:=A6v (xs:=a0.1) (ys:=a1.1) zP (fun x y:A1=>eqB Ax x y) (g:=fun m i=>F7 m i a0.1 a1.1) (ok:=.inl ()) (bad:=.inr (false,())) hl (fun m i hi=>by
   show F7 (m + 1) i a0.1 a1.1=_
   simp only [F7,Po]
   rw [Xv hi,G9,Xv (show i < a1.1.length by omega),wI (by omega)]
   simp only [cond_true,En]
   show (bif !(eqB Ax (a0.1.getD i zP) (a1.1.getD i zP)) then _ else _)=bif eqB Ax (a0.1.getD i zP) (a1.1.getD i zP) then _ else _
   cases eqB Ax (a0.1.getD i zP) (a1.1.getD i zP)<;>rfl) (fun m=>by
   show F7 (m + 1) (a0.1.length:Int) a0.1 a1.1=_
   simp only [F7,Po]
   rw [Od]
   rfl) (Pn 0 a0.1 a1.1) 0 (by omega) (by simp [Pn,nI])
  refine Qe hL ?_
  rw [List.drop_zero,List.drop_zero]
  show Bx _ _ (bif eqL (fun x y:A1=>eqB Ax x y) a0.1 a1.1 then _ else _)=_
  cases eqL (fun x y:A1=>eqB Ax x y) a0.1 a1.1<;>rfl
 ·have c1:(nI a0.1.length != nI a1.1.length)=true:=by simp [nI]; omega
  rw [c1,show eqL (fun x y:A1=>eqB Ax x y) a0.1 a1.1=false from A6u fun q=>hl q.symm]
  rfl
def Ah1 {R:Type} (k:Kt R):=(Bx (I3 (Mm 5) (.exit 0) 2 k) (I3 (Mm 5) .ret 1 k))
def Atd {R:Type}:Lt R Mm:=(Ea (pat:=Mm) 5 (fun d k=>(A16 d).bind (Ah1 k)) Hn)
theorem Ao2:A2 Tryz.prog Ao1:=A5 trivial
theorem A17 {R:Type}:A4 Tryz.prog R 31 0 Mm Atd Ah0:=
 B8 (cfg:=⟨Ao1,0,31,Mm⟩) 5 [] (fun NX X d=>(Ac (Ac (Ac Ae))) (Po  NX (fun e=>X (.inl (e))) (fun e=>X (.inr (e)))) d) (fun m d=>(Ac (Ac (Ac Ae))) (F7 m) d) (fun d=>(Ac (Ac (Ac Ae))) Pn d) Ah1 Ao2 trivial (fun f NX d=>by simp only [u4,Ac,Ae]; unfold Po; simp only [nb])
theorem W7:Bs Tryz.prog 39 Si:=
 A3 (pat:=Mm) [Ah0] Atd Ao2 ⟨A17,trivial⟩ Tryz.func39 (de:=fun x=>Abx x.1 x.2.1) (fun x r h=>F1 (Bar x.1 x.2.1) h) fun _=>by kernel_rfl
def E1 (s:B5):Option B5:=if s.1.length≤1000000 then some (s.1,()) else none
def Bat:Gc:=⟨[.rd C8],[some 1],[.own 157 Ax],[some 1]⟩
def Sj:SD:=⟨Bat,fun x=>(E1 x.1).bind fun r=>some ((r.1,()),(()))⟩
def Aby (a0:B5):Option ((B5×(Unit))):=
 bif decide ((0 + List.length a0.1) * 32≤140737488355328) then some (([]++a0.1,()),()) else none
theorem Bau (a0:B5) r (h:E1 a0=some r):Aby a0=some ((r.1,()),(())):=by
 unfold E1 at h
 split at h
 ·rename_i hc
  cases h
  unfold Aby
  rw [Ag (show (0 + a0.1.length) * 32≤140737488355328 by omega)]
  rfl
 ·cases h
theorem W8:Bs Tryz.prog 77 Sj:=
 A3 (pat:=Dp) [] Hn (A5 (l:=[]) trivial) trivial Tryz.func77 (de:=fun x=>Aby x.1) (fun x r h=>F1 (Bau x.1) h) fun _=>by kernel_rfl
def E2 (d:Dk):Option Dk:=if d.1.length≤1099511627776∧d.2.1.length≤1099511627776 then some d else none
def Bav:Gc:=⟨[.rd yDk],[some 2],[.own 9 .str,.own 174 Em],[some 2]⟩
def Pp:SD:=⟨Bav,fun x=>(E2 x.1).bind fun r=>some ((r.1,r.2.1,()),(()))⟩
def Abz (a0:Dk):Option ((Dk×(Unit))):=
 bif decide ((0 + List.length a0.1) * 16≤140737488355328) then bif decide ((0 + List.length a0.2.1) * 24≤140737488355328) then some (([]++a0.1,[]++a0.2.1,()),()) else none else none
theorem Baw (a0:Dk) r (h:E2 a0=some r):Abz a0=some ((r.1,r.2.1,()),(())):=by
 unfold E2 at h
 split at h
 ·rename_i hc
  cases h
  unfold Abz
  have c1:(0 + List.length a0.1) * 16≤140737488355328:=by omega
  have c2:(0 + List.length a0.2.1) * 24≤140737488355328:=by omega
  rw [Ag c1,Ag c2]
  rfl
 ·cases h
theorem Sk:Bs Tryz.prog 187 Pp:=
 A3 (pat:=Dp) [] Hn (A5 (l:=[]) trivial) trivial Tryz.func187 (de:=fun x=>Abz x.1) (fun x r h=>F1 (Baw x.1) h) fun _=>by kernel_rfl
def Bax:Gc:=⟨[.rd Gv],[some 16],[.rd tI,.own 9 .str,.own 174 Em,.rd .bool,.rd tI,.rd tI,.rd tI,.rd tI,.rd tI,.rd tI,.rd tI,.rd tI,.rd tI,.rd (.sl Ax),.own 31 C8,.own 9 .str],[some 16]⟩
def Ao3:Tb:=tb [(77,Sj),(187,Pp)]
def Pq:Nat→C2×(Nat→C2):=F0 [(7,⟨[.boxSl 1 1 .str,.boxSl 1 2 Em,.boxSl 1 13 Ax,.boxSl 1 14 C8,.boxSl 1 15 .str,.boxSl 2 1 .str,.boxSl 2 2 Em,.boxSl 2 13 Ax,.boxSl 2 14 C8,.boxSl 2 15 .str,.boxRow 3 1 9 .str,.boxRow 3 2 174 Em,.boxSl 3 13 Ax,.boxRow 3 14 31 C8,.boxSl 3 15 .str],[(1,.lf (.ptr 0 0)),(2,.lf (.ptr 1 0)),(3,.lf (.ptr 2 0)),(4,.lf (.d tI))],[.box 36 [.d Gv],.box 36 [.d Gv],.box 36 [.d tI,.row 3,.row 4,.d .bool,.d tI,.d tI,.d tI,.d tI,.d tI,.d tI,.d tI,.d tI,.d tI,.d (.sl Ax),.row 5,.d (.sl .str)],.row 9 .str,.row 174 Em,.row 31 C8]⟩,[(2,⟨[.boxSl 1 1 .str,.boxSl 1 2 Em,.boxSl 1 13 Ax,.boxSl 1 14 C8,.boxSl 1 15 .str,.boxSl 2 1 .str,.boxSl 2 2 Em,.boxSl 2 13 Ax,.boxSl 2 14 C8,.boxSl 2 15 .str,.boxRow 3 1 9 .str,.boxRow 3 2 174 Em,.boxSl 3 13 Ax,.boxRow 3 14 31 C8,.boxSl 3 15 .str],[(1,.lf (.ptr 0 0)),(2,.lf (.ptr 1 0)),(3,.lf (.ptr 2 0))],[.box 36 [.d Gv],.box 36 [.d Gv],.box 36 [.d tI,.row 3,.row 4,.d .bool,.d tI,.d tI,.d tI,.d tI,.d tI,.d tI,.d tI,.d tI,.d tI,.d (.sl Ax),.row 5,.d (.sl .str)],.row 9 .str,.row 174 Em,.row 31 C8]⟩)])]
def Ah2:Code:=(At (Bb Tryz.f130)).getD 0 .skip
def Ls (v4:Int) (b0 b1:Bg) (b2_0:Int) (b2_3:Bool) (b2_4 b2_5:Int) (b2_6 b2_7:Int) (b2_8 b2_9:Int) (b2_10 b2_11 b2_12:Int) (b2_13:List A1) (b2_15 r3:List Aa) (r4:List Wr) (r5:List B5):Nat:=((List.length b0.2.2.2.2.1:Int) - v4).toNat + 1
def Ps {R:Type}  (NX:((Int)×Bg×Bg×(Int)×(Bool)×(Int)×(Int)×(Int)×(Int)×(Int)×(Int)×(Int)×(Int)×(Int)×(List A1)×(List Aa)×(List Aa)×(List Wr)×(List B5)×Unit)→Option R) (X2:(Bg×Bg×(Int)×(Bool)×(Int)×(Int)×(Int)×(Int)×(Int)×(Int)×(Int)×(Int)×(Int)×(List A1)×(List Aa)×(List Aa)×(List Wr)×(List B5)×Unit)→Option R) (v4:Int) (b0:Bg) (b1:Bg) (b2_0:Int) (b2_3:Bool) (b2_4:Int) (b2_5:Int) (b2_6:Int) (b2_7:Int) (b2_8:Int) (b2_9:Int) (b2_10:Int) (b2_11:Int) (b2_12:Int) (b2_13:List A1) (b2_15:List Aa) (r3:List Aa) (r4:List Wr) (r5:List B5):Option R:=
 bif decide (v4 < nI (List.length b0.2.2.2.2.1)) then bif decide (0≤v4) then bif decide (v4 < nI (List.length b0.2.2.2.2.1)) then ((E1 (List.getD b0.2.2.2.2.1 v4.toNat ([],()))).bind fun val=>some (val,())).bind fun val=>bif decide ((r5.length + [val.1].length) * 24≤140737488355328) then NX (IntKind.i64.wrap (v4 + 1),b0,b1,b2_0,b2_3,b2_4,b2_5,b2_6,b2_7,b2_8,b2_9,b2_10,b2_11,b2_12,b2_13,b2_15,r3,r4,r5++[val.1],()) else none else none else none else X2 (b0,b1,b2_0,b2_3,b2_4,b2_5,b2_6,b2_7,b2_8,b2_9,b2_10,b2_11,b2_12,b2_13,b2_15,r3,r4,r5,())
def Hu:Nat→(Int)→Bg→Bg→(Int)→(Bool)→(Int)→(Int)→(Int)→(Int)→(Int)→(Int)→(Int)→(Int)→(Int)→(List A1)→(List Aa)→(List Aa)→(List Wr)→(List B5) →  Option (Bg×Bg×(Int)×(Bool)×(Int)×(Int)×(Int)×(Int)×(Int)×(Int)×(Int)×(Int)×(Int)×(List A1)×(List Aa)×(List Aa)×(List Wr)×(List B5)×Unit)
 | 0,_,_,_,_,_,_,_,_,_,_,_,_,_,_,_,_,_,_,_=>none
 | m + 1,v4,b0,b1,b2_0,b2_3,b2_4,b2_5,b2_6,b2_7,b2_8,b2_9,b2_10,b2_11,b2_12,b2_13,b2_15,r3,r4,r5=>Ps  (fun d=>Hu m d.1 d.2.1 d.2.2.1 d.2.2.2.1 d.2.2.2.2.1 d.2.2.2.2.2.1 d.2.2.2.2.2.2.1 d.2.2.2.2.2.2.2.1 d.2.2.2.2.2.2.2.2.1 d.2.2.2.2.2.2.2.2.2.1 d.2.2.2.2.2.2.2.2.2.2.1 d.2.2.2.2.2.2.2.2.2.2.2.1 d.2.2.2.2.2.2.2.2.2.2.2.2.1 d.2.2.2.2.2.2.2.2.2.2.2.2.2.1 d.2.2.2.2.2.2.2.2.2.2.2.2.2.2.1 d.2.2.2.2.2.2.2.2.2.2.2.2.2.2.2.1 d.2.2.2.2.2.2.2.2.2.2.2.2.2.2.2.2.1 d.2.2.2.2.2.2.2.2.2.2.2.2.2.2.2.2.2.1 d.2.2.2.2.2.2.2.2.2.2.2.2.2.2.2.2.2.2.1) (fun d=>some (d)) v4 b0 b1 b2_0 b2_3 b2_4 b2_5 b2_6 b2_7 b2_8 b2_9 b2_10 b2_11 b2_12 b2_13 b2_15 r3 r4 r5
def A18 (d:(Int)×Bg×Bg×(Int)×(Bool)×(Int)×(Int)×(Int)×(Int)×(Int)×(Int)×(Int)×(Int)×(Int)×(List A1)×(List Aa)×(List Aa)×(List Wr)×(List B5)×Unit):Option (Bg×Bg×(Int)×(Bool)×(Int)×(Int)×(Int)×(Int)×(Int)×(Int)×(Int)×(Int)×(Int)×(List A1)×(List Aa)×(List Aa)×(List Wr)×(List B5)×Unit):=(u4 (u4 (u4 (u4 (Ac (Ac (Ac Ae))))))) (Hu ((u4 (u4 (u4 (u4 (Ac (Ac (Ac Ae))))))) Ls d)) d
def W9 (a0:Bg):Option ((((Int)×(List Aa)×(List Wr)×(Bool)×(Int)×(Int)×(Int)×(Int)×(Int)×(Int)×(Int)×(Int)×(Int)×(List A1)×(List B5)×(List Aa)×Unit)×(Unit))):=
 ((E2 a0.2.1).bind fun val=>some (val,())).bind fun val=>((E1 a0.2.2.2.1.2.2.2.2.2.2.1).bind fun val=>some (val,())).bind fun val_1=>((fun d=>Hu (Ls d.1 d.2.1 d.2.2.1 d.2.2.2.1 d.2.2.2.2.1 d.2.2.2.2.2.1 d.2.2.2.2.2.2.1 d.2.2.2.2.2.2.2.1 d.2.2.2.2.2.2.2.2.1 d.2.2.2.2.2.2.2.2.2.1 d.2.2.2.2.2.2.2.2.2.2.1 d.2.2.2.2.2.2.2.2.2.2.2.1 d.2.2.2.2.2.2.2.2.2.2.2.2.1 d.2.2.2.2.2.2.2.2.2.2.2.2.2.1 d.2.2.2.2.2.2.2.2.2.2.2.2.2.2.1 d.2.2.2.2.2.2.2.2.2.2.2.2.2.2.2.1 d.2.2.2.2.2.2.2.2.2.2.2.2.2.2.2.2.1 d.2.2.2.2.2.2.2.2.2.2.2.2.2.2.2.2.2.1 d.2.2.2.2.2.2.2.2.2.2.2.2.2.2.2.2.2.2.1) d.1 d.2.1 d.2.2.1 d.2.2.2.1 d.2.2.2.2.1 d.2.2.2.2.2.1 d.2.2.2.2.2.2.1 d.2.2.2.2.2.2.2.1 d.2.2.2.2.2.2.2.2.1 d.2.2.2.2.2.2.2.2.2.1 d.2.2.2.2.2.2.2.2.2.2.1 d.2.2.2.2.2.2.2.2.2.2.2.1 d.2.2.2.2.2.2.2.2.2.2.2.2.1 d.2.2.2.2.2.2.2.2.2.2.2.2.2.1 d.2.2.2.2.2.2.2.2.2.2.2.2.2.2.1 d.2.2.2.2.2.2.2.2.2.2.2.2.2.2.2.1 d.2.2.2.2.2.2.2.2.2.2.2.2.2.2.2.2.1 d.2.2.2.2.2.2.2.2.2.2.2.2.2.2.2.2.2.1 d.2.2.2.2.2.2.2.2.2.2.2.2.2.2.2.2.2.2.1) (0,a0,(0,([],[],()),false,(0,0,0,(0,0,0,0,()),0,0,([],()),()),[],[],()),a0.1,a0.2.2.1,a0.2.2.2.1.1,a0.2.2.2.1.2.1,a0.2.2.2.1.2.2.1,a0.2.2.2.1.2.2.2.1.1,a0.2.2.2.1.2.2.2.1.2.1,a0.2.2.2.1.2.2.2.1.2.2.1,a0.2.2.2.1.2.2.2.1.2.2.2.1,a0.2.2.2.1.2.2.2.2.1,a0.2.2.2.1.2.2.2.2.2.1,val_1.1.1,a0.2.2.2.2.2.1,val.1.1,val.1.2.1,[],())).bind fun val=>bif decide ((0 + List.length val.1.2.2.2.2.2.1) * 16≤140737488355328) then some ((val.2.2.1,val.2.2.2.2.2.2.2.2.2.2.2.2.2.2.2.1,val.2.2.2.2.2.2.2.2.2.2.2.2.2.2.2.2.1,val.2.2.2.1,val.2.2.2.2.1,val.2.2.2.2.2.1,val.2.2.2.2.2.2.1,val.2.2.2.2.2.2.2.1,val.2.2.2.2.2.2.2.2.1,val.2.2.2.2.2.2.2.2.2.1,val.2.2.2.2.2.2.2.2.2.2.1,val.2.2.2.2.2.2.2.2.2.2.2.1,val.2.2.2.2.2.2.2.2.2.2.2.2.1,val.2.2.2.2.2.2.2.2.2.2.2.2.2.1,val.2.2.2.2.2.2.2.2.2.2.2.2.2.2.2.2.2.1,[]++val.1.2.2.2.2.2.1,()),()) else none
theorem Ao4:∃ f,f=@W9:=⟨_,rfl⟩
def Jm:=Classical.choose Ao4
theorem Ao5:@Jm=@W9:=Classical.choose_spec Ao4
def Ab0:SD:=⟨Bax,fun x=>Jm x.1⟩
theorem Bps (b0 b1:Bg) (b2_0:Int) (b2_3:Bool) (b2_4 b2_5:Int) (b2_6 b2_7:Int) (b2_8 b2_9:Int) (b2_10 b2_11 b2_12:Int) (b2_13:List A1) (b2_15 r3:List Aa) (r4:List Wr) (hs:∀ x∈b0.2.2.2.2.1,Ak x=true) (hn:b0.2.2.2.2.1.length≤200):∀ (k m i:Nat) (r:List B5),i + k=b0.2.2.2.2.1.length→k < m→r.length=i→r=b0.2.2.2.2.1.take i→
  ∃ r':List B5,Hu m i b0 b1 b2_0 b2_3 b2_4 b2_5 b2_6 b2_7 b2_8 b2_9 b2_10 b2_11 b2_12 b2_13 b2_15 r3 r4 r=some (b0,b1,b2_0,b2_3,b2_4,b2_5,b2_6,b2_7,b2_8,b2_9,b2_10,b2_11,b2_12,b2_13,b2_15,r3,r4,r',())∧r'=b0.2.2.2.2.1
 | 0,m + 1,i,r,hi,_,hr,hv=>by
  refine ⟨r,?_,by rw [hv,List.take_of_length_le (by omega)]⟩
  simp only [Hu,Ps]
  rw [Bd (show ¬ (i:Int) < nI b0.2.2.2.2.1.length by simp only [nI]; omega)]
  rfl
 | k + 1,m + 1,i,r,hi,hm,hr,hv=>by
  have e1:IntKind.i64.wrap ((i:Int) + 1)=((i + 1:Nat):Int):=wI (by omega)
  have d2:decide ((i:Int) < nI b0.2.2.2.2.1.length)=true:=Ag (by simp only [nI]; omega)
  have hx:Ak (b0.2.2.2.2.1.getD i Ut)=true:=Bnc (l:=b0.2.2.2.2.1) (d:=Ut) (v:=(i:Int)) (Q:=fun x=>Ak x=true) hs (by omega) (by simp only [nI]; omega)
  have e2:E1 (b0.2.2.2.2.1.getD (Int.toNat (i:Int)) ([],()))=some (b0.2.2.2.2.1.getD i Ut):=(if_pos (show (b0.2.2.2.2.1.getD i Ut).1.length≤1000000 from Nat.le_trans (Ca hx) (by decide)))
  simp only [Hu,Ps,d2,G9,e1,e2,cond_true,Et,Option.bind_some]
  have d3:decide ((r.length + 1) * 24≤140737488355328)=true:=Ag (by omega)
  rw [d3]
  exact Bps b0 b1 b2_0 b2_3 b2_4 b2_5 b2_6 b2_7 b2_8 b2_9 b2_10 b2_11 b2_12 b2_13 b2_15 r3 r4 hs hn k m (i + 1) (r++[b0.2.2.2.2.1.getD i Ut]) (by omega) (by omega) (by rw [Ef,Et,hr]) (by rw [hv]; exact (A9f (by omega)).symm)
theorem Bx1 {b0:Bg} {b1:Bg} {b2_0:Int} {b2_3:Bool} {b2_4:Int} {b2_5:Int} {b2_6:Int} {b2_7:Int} {b2_8:Int} {b2_9:Int} {b2_10:Int} {b2_11:Int} {b2_12:Int} {b2_13:List A1} {b2_15:List Aa} {r3:List Aa} {r4:List Wr} (hs:∀ x∈b0.2.2.2.2.1,Ak x=true) (hn:b0.2.2.2.2.1.length≤200):
  As (Hu (Ls 0 b0 b1 b2_0 b2_3 b2_4 b2_5 b2_6 b2_7 b2_8 b2_9 b2_10 b2_11 b2_12 b2_13 b2_15 r3 r4 []) 0 b0 b1 b2_0 b2_3 b2_4 b2_5 b2_6 b2_7 b2_8 b2_9 b2_10 b2_11 b2_12 b2_13 b2_15 r3 r4 []) fun q=>∃ r':List B5,q=(b0,b1,b2_0,b2_3,b2_4,b2_5,b2_6,b2_7,b2_8,b2_9,b2_10,b2_11,b2_12,b2_13,b2_15,r3,r4,r',())∧r'=b0.2.2.2.2.1:=by
 obtain ⟨r',q1,q2⟩:=Bps b0 b1 b2_0 b2_3 b2_4 b2_5 b2_6 b2_7 b2_8 b2_9 b2_10 b2_11 b2_12 b2_13 b2_15 r3 r4 hs hn b0.2.2.2.2.1.length (Ls 0 b0 b1 b2_0 b2_3 b2_4 b2_5 b2_6 b2_7 b2_8 b2_9 b2_10 b2_11 b2_12 b2_13 b2_15 r3 r4 []) 0 [] (by omega) (by simp only [Ls]; omega) rfl rfl
 exact ⟨_,q1,r',rfl,q2⟩
theorem Ayu {w:Bg} (h:WOk w):As (Jm w) fun q=>unW q.1=w:=by
 rw [Ao5]
 unfold W9
 have hd:=h.d
 simp only [K8,Bool.and_eq_true,decide_eq_true_eq] at hd
 have c1:As ((E2 w.2.1).bind fun val=>some (val,())) fun q=>q=(w.2.1,()):=As.bind ⟨_,if_pos ⟨Nat.le_trans hd.1.1 (by decide),Nat.le_trans hd.2.1.1 (by decide)⟩,rfl⟩ fun a ha=>As.some (by rw [ha])
 have c2:As ((E1 w.2.2.2.1.2.2.2.2.2.2.1).bind fun val=>some (val,())) fun q=>q=(w.2.2.2.1.2.2.2.2.2.2.1,()):=As.bind ⟨_,if_pos (Nat.le_trans (Ca h.s) (by decide)),rfl⟩ fun a ha=>As.some (by subst ha; rfl)
 refine As.bind c1 fun q hq=>?_
 subst hq
 refine As.bind c2 fun q hq=>?_
 subst hq
 refine As.bind (Bx1 h.p h.n) fun q hq=>?_
 obtain ⟨r',rfl,q2⟩:=hq
 subst q2
 dsimp only
 have hl:=h.l
 exact As.go (Ag (by omega)) (As.some rfl)
def Ah3 {R:Type} (k:Kt R):=(I3 (Pq 7) (.exit 0) 2 k)
def Ate {R:Type}:Lt R Pq:=(Ea (pat:=Pq) 7 (fun d k=>(A18 d).bind (Ah3 k)) Hn)
theorem Ao6:A2 Tryz.prog Ao3:=A5 ⟨W8,Sk,trivial⟩
theorem A19 {R:Type}:A4 Tryz.prog R 42 0 Pq Ate Ah2:=
 B8 (cfg:=⟨Ao3,0,42,Pq⟩) 7 [] (fun NX X (d:(Int)×Bg×Bg×(Int)×(Bool)×(Int)×(Int)×(Int)×(Int)×(Int)×(Int)×(Int)×(Int)×(Int)×(List A1)×(List Aa)×(List Aa)×(List Wr)×(List B5)×Unit)=>(u4 (u4 (u4 (u4 (Ac (Ac (Ac Ae))))))) (Ps  NX X) d) (fun m d=>(u4 (u4 (u4 (u4 (Ac (Ac (Ac Ae))))))) (Hu m) d) (fun d=>(u4 (u4 (u4 (u4 (Ac (Ac (Ac Ae))))))) Ls d) Ah3 Ao6 trivial (fun f NX (d:(Int)×Bg×Bg×(Int)×(Bool)×(Int)×(Int)×(Int)×(Int)×(Int)×(Int)×(Int)×(Int)×(Int)×(List A1)×(List Aa)×(List Aa)×(List Wr)×(List B5)×Unit)=>by simp only [u4,Ac,Ae]; unfold Ps; simp only [nb])
theorem Ao7:Bs Tryz.prog 130 Ab0:=
 A3 (pat:=Pq) [Ah2] Ate Ao6 ⟨A19,trivial⟩ Tryz.func130 (de:=fun x=>W9 x.1) (fun x r h=>by have q:Jm x.1=some r:=h; rw [Ao5] at q; exact q) fun _=>by kernel_rfl
def Jn (d:Dk):Option Dk:=if d.2.1.length≤1099511627776∧∀ i,i < d.2.1.length→0≤(d.2.1.getD i zW).1∧(d.2.1.getD i zW).1 < (d.1.length:Int) then some (Be4 d) else none
def Bay:Gc:=⟨[.own 9 .str,.rd (.sl Em)],[some 2],[.own 9 .str,.own 174 Em],[some 2]⟩
def Xa:SD:=⟨Bay,fun x=>(Jn (x.1,x.2.1,())).bind fun r=>some ((r.1,r.2.1,()),(()))⟩
def Ao8:Tb:=tb []
def Pt:Nat→C2×(Nat→C2):=F0 [(3,⟨[.boxSl 1 1 Em,.boxRow 2 0 9 .str,.boxRow 2 1 174 Em],[(1,.lf (.ptr 1 0)),(2,.lf (.ptr 2 0)),(3,.lf (.d tI))],[.row 9 .str,.box 26 [.row 0,.d (.sl Em)],.box 26 [.row 3,.row 4],.row 9 .str,.row 174 Em]⟩,[(2,⟨[.boxSl 1 1 Em,.boxRow 2 0 9 .str,.boxRow 2 1 174 Em],[(1,.lf (.ptr 1 0)),(2,.lf (.ptr 2 0))],[.row 9 .str,.box 26 [.row 0,.d (.sl Em)],.box 26 [.row 3,.row 4],.row 9 .str,.row 174 Em]⟩)])]
def Ah4:Code:=(At (Bb Tryz.f186)).getD 0 .skip
def I9 (v3:Int) (r0:List Aa) (b1_1:List Wr) (r3:List Aa) (r4:List Wr):Nat:=((b1_1.length:Int) - v3).toNat + 1
def Pu {R:Type}  (NX:((Int)×(List Aa)×(List Wr)×(List Aa)×(List Wr)×Unit)→Option R) (X2:((List Aa)×(List Wr)×(List Aa)×(List Wr)×Unit)→Option R) (v3:Int) (r0:List Aa) (b1_1:List Wr) (r3:List Aa) (r4:List Wr):Option R:=
 bif decide (v3 < nI b1_1.length) then bif decide (0≤v3) then bif decide (v3 < nI b1_1.length) then bif decide (0≤v3) then bif decide (v3 < nI b1_1.length) then bif decide (0≤(b1_1.getD v3.toNat (0,Ad,())).1) then bif decide ((b1_1.getD v3.toNat (0,Ad,())).1 < nI r0.length) then bif decide (Int.toNat (b1_1.getD v3.toNat (0,Ad,())).1 < r0.length) then NX (IntKind.i64.wrap (v3 + 1),r0.set (Int.toNat (b1_1.getD v3.toNat (0,Ad,())).1) (b1_1.getD v3.toNat (0,Ad,())).2.1,b1_1,r3,r4,()) else none else none else none else none else none else none else none else X2 (r0,b1_1,r3,r4,())
def D3:Nat→(Int)→(List Aa)→(List Wr)→(List Aa)→(List Wr) →  Option ((List Aa)×(List Wr)×(List Aa)×(List Wr)×Unit)
 | 0,_,_,_,_,_=>none
 | m + 1,v3,r0,b1_1,r3,r4=>Pu  (fun d=>D3 m d.1 d.2.1 d.2.2.1 d.2.2.2.1 d.2.2.2.2.1) (fun d=>some (d)) v3 r0 b1_1 r3 r4
def A2a (d:(Int)×(List Aa)×(List Wr)×(List Aa)×(List Wr)×Unit):Option ((List Aa)×(List Wr)×(List Aa)×(List Wr)×Unit):=(u4 (Ac Ae)) (D3 ((u4 (Ac Ae)) I9 d)) d
def Ab1 (a0:List Aa) (a1:List Wr):Option ((Dk×(Unit))):=
 ((fun d=>D3 (I9 d.1 d.2.1 d.2.2.1 d.2.2.2.1 d.2.2.2.2.1) d.1 d.2.1 d.2.2.1 d.2.2.2.1 d.2.2.2.2.1) (0,a0,a1,[],[],())).bind fun val=>some ((val.1,[],()),())
theorem Baz (a0:List Aa) (a1:List Wr) r (h:Jn (a0,a1,())=some r):Ab1 a0 a1=some ((r.1,r.2.1,()),(())):=by
 unfold Jn at h
 split at h
 ·rename_i hc
  obtain ⟨hp,hw⟩:=hc
  cases h
  have hL:=Agr (xs:=a1) zW (fun s:List Aa=>s.length=a0.length) (fun _ w s=>s.set w.1.toNat w.2.1) (g:=fun m i s=>D3 m i s a1 [] []) (ok:=fun s=>(s,a1,[],[],())) (fun m i s hi hs=>by
   show D3 (m + 1) i s a1 [] []=_
   simp only [D3,Pu]
   obtain ⟨h0,h1⟩:=hw i hi
   have c1:decide (0≤(List.getD a1 i (0,Ad,())).1)=true:=Ag h0
   have c2:decide ((List.getD a1 i (0,Ad,())).1 < nI s.length)=true:=Ag (by rw [hs]; exact h1)
   have c3:decide (Int.toNat (List.getD a1 i (0,Ad,())).1 < s.length)=true:=Ag (by
    rw [hs]
    have:(a1.getD i zW).1.toNat < a0.length:=by
     have h0:0≤(a1.getD i zW).1:=h0
     have h1:(a1.getD i zW).1 < (a0.length:Int):=h1
     omega
    exact this)
   rw [Xv hi,G9,wI (show i < 4611686018427387904 by have hp:a1.length≤1099511627776:=hp; omega),En,c1,c2,c3]
   rfl) (fun i s hi hs=>by rw [List.length_set]; exact hs) (fun m s hs=>by
   show D3 (m + 1) (a1.length:Int) s a1 [] []=_
   simp only [D3,Pu]
   rw [Od]
   rfl) (I9 0 a0 a1 [] []) 0 a0 (by omega) (by simp [I9]) rfl
  have hL':D3 (I9 0 a0 a1 [] []) 0 a0 a1 [] []=_:=hL
  unfold Ab1
  show (D3 (I9 0 a0 a1 [] []) 0 a0 a1 [] []).bind _=_
  rw [hL']
  rfl
 ·cases h
def Ah5 {R:Type} (k:Kt R):=(I3 (Pt 3) (.exit 0) 2 k)
def Atf {R:Type}:Lt R Pt:=(Ea (pat:=Pt) 3 (fun d k=>(A2a d).bind (Ah5 k)) Hn)
theorem Ao9:A2 Tryz.prog Ao8:=A5 trivial
theorem A2b {R:Type}:A4 Tryz.prog R 29 1 Pt Atf Ah4:=
 B8 (cfg:=⟨Ao8,1,29,Pt⟩) 3 [] (fun NX X d=>(u4 (Ac Ae)) (Pu  NX X) d) (fun m d=>(u4 (Ac Ae)) (D3 m) d) (fun d=>(u4 (Ac Ae)) I9 d) Ah5 Ao9 trivial (fun f NX d=>by simp only [u4,Ac,Ae]; unfold Pu; simp only [nb])
theorem Ab2:Bs Tryz.prog 186 Xa:=
 A3 (pat:=Pt) [Ah4] Atf Ao9 ⟨A2b,trivial⟩ Tryz.func186 (de:=fun x=>Ab1 x.1 x.2.1) (fun x r h=>F1 (Baz x.1 x.2.1) h) fun _=>by kernel_rfl
def G4 (d:Dk) (ops:List Dl) (n:Int):Option Dk:=if ops.length≤1099511627776 then some (Cn d ops n) else none
def A46:Gc:=⟨[.rd yDk,.rd (.sl Fe),.rd tI],[some 2,none,none],[.own 9 .str,.own 174 Em],[some 2]⟩
def Ak8:SD:=⟨A46,fun x=>(G4 x.1 x.2.1 x.2.2.1).bind fun r=>some ((r.1,r.2.1,()),(()))⟩
def Ak9:Tb:=tb [(66,H6),(157,Wx),(186,Xa),(187,Pp)]
def Nh:Nat→C2×(Nat→C2):=F0 [(6,⟨[.sl 1 0 Fe,.boxRow 6 0 9 .str,.boxRow 6 1 174 Em,.boxRow 7 0 9 .str,.boxRow 7 1 174 Em],[(1,.lf (.d (.sl Fe))),(2,.lf (.d tI)),(6,.lf (.ptr 0 0)),(7,.lf (.ptr 1 0)),(8,.lf (.d tI))],[.box 26 [.row 2,.row 3],.box 26 [.row 4,.row 5],.row 9 .str,.row 174 Em,.row 9 .str,.row 174 Em]⟩,[(2,⟨[.boxRow 6 0 9 .str,.boxRow 6 1 174 Em,.boxRow 7 0 9 .str,.boxRow 7 1 174 Em],[(6,.lf (.ptr 0 0)),(7,.lf (.ptr 1 0))],[.box 26 [.row 2,.row 3],.box 26 [.row 4,.row 5],.row 9 .str,.row 174 Em,.row 9 .str,.row 174 Em]⟩)])]
def Aef:Code:=(At (Bb Tryz.f152)).getD 0 .skip
def H9 (v1:List Dl) (v2 v8:Int) (r2:List Aa) (r3:List Wr) (r4:List Aa) (r5:List Wr):Nat:=((v1.length:Int) - v8).toNat + 1
def Nx {R:Type}  (NX:((List Dl)×(Int)×(Int)×(List Aa)×(List Wr)×(List Aa)×(List Wr)×Unit)→Option R) (X2:((List Aa)×(List Wr)×(List Aa)×(List Wr)×Unit)→Option R) (v1:List Dl) (v2:Int) (v8:Int) (r2:List Aa) (r3:List Wr) (r4:List Aa) (r5:List Wr):Option R:=
 bif decide (v8 < nI v1.length) then bif decide (v8 < v2) then bif decide (0≤v8) then bif decide (v8 < nI v1.length) then bif (v1.getD v8.toNat (false,0,Ad,())).1 then ((Jn (r4,r5,())).bind fun val=>some (val,())).bind fun val=>NX (v1,v2,IntKind.i64.wrap (v8 + 1),r2,r3,val.1) else bif decide (0≤v8) then bif decide (v8 < nI v1.length) then bif decide (0≤v8) then bif decide (v8 < nI v1.length) then bif Ll (r4,r5,()) (v1.getD v8.toNat (false,0,Ad,())).2.1 (v1.getD v8.toNat (false,0,Ad,())).2.2.1 then bif decide (nI r5.length < 300) then bif decide (0≤v8) then bif decide (v8 < nI v1.length) then bif decide (0≤v8) then bif decide (v8 < nI v1.length) then bif decide ((r5.length + [(v1.getD v8.toNat (false,0,Ad,())).2].length) * 24≤140737488355328) then NX (v1,v2,IntKind.i64.wrap (v8 + 1),r2,r3,r4,r5++[(v1.getD v8.toNat (false,0,Ad,())).2],()) else none else none else none else none else none else NX (v1,v2,IntKind.i64.wrap (v8 + 1),r2,r3,r4,r5,()) else NX (v1,v2,IntKind.i64.wrap (v8 + 1),r2,r3,r4,r5,()) else none else none else none else none else none else none else X2 (r2,r3,r4,r5,()) else X2 (r2,r3,r4,r5,())
def C0:Nat→(List Dl)→(Int)→(Int)→(List Aa)→(List Wr)→(List Aa)→(List Wr) →  Option ((List Aa)×(List Wr)×(List Aa)×(List Wr)×Unit)
 | 0,_,_,_,_,_,_,_=>none
 | m + 1,v1,v2,v8,r2,r3,r4,r5=>Nx  (fun d=>C0 m d.1 d.2.1 d.2.2.1 d.2.2.2.1 d.2.2.2.2.1 d.2.2.2.2.2.1 d.2.2.2.2.2.2.1) (fun d=>some (d)) v1 v2 v8 r2 r3 r4 r5
def Ayv (d:(List Dl)×(Int)×(Int)×(List Aa)×(List Wr)×(List Aa)×(List Wr)×Unit):Option ((List Aa)×(List Wr)×(List Aa)×(List Wr)×Unit):=(u4 (Ac (Ac (Ac Ae)))) (C0 ((u4 (Ac (Ac (Ac Ae)))) H9 d)) d
def f9 (a0:Dk) (a1:List Dl) (a2:Int):Option ((Dk×(Unit))):=
 bif !F6 a0 then some (([],[],()),()) else ((E2 a0).bind fun val=>some (val,())).bind fun val=>((fun d=>C0 (H9 d.1 d.2.1 d.2.2.1 d.2.2.2.1 d.2.2.2.2.1 d.2.2.2.2.2.1 d.2.2.2.2.2.2.1) d.1 d.2.1 d.2.2.1 d.2.2.2.1 d.2.2.2.2.1 d.2.2.2.2.2.1 d.2.2.2.2.2.2.1) (a1,a2,0,[],[],val.1)).bind fun val=>some (val.2.2,())
theorem A47 (a0:Dk) (a1:List Dl) (a2:Int) r (h:G4 a0 a1 a2=some r):f9 a0 a1 a2=some ((r.1,r.2.1,()),(())):=by
 unfold G4 at h
 split at h
 rotate_left
 ·cases h
 rename_i hlen
 cases h
 unfold f9 Cn
 show (bif !Ar a0 then _ else _)=_
 cases hv:Ar a0 with
 | false=>rfl
 | true=>
  have hok:=Ix hv
  have e1:E2 (a0.1,a0.2.1,())=some (a0.1,a0.2.1,()):=if_pos ⟨Nat.le_trans hok.n200 (by decide),Nat.le_trans hok.p300 (by decide)⟩
  have hxl:(a1.take a2.toNat).length=min a2.toNat a1.length:=List.length_take
  have hL:=E4 (xs:=a1.take a2.toNat) zOp (fun _ d=>Iw d) (fun _ o d=>opS d o) (g:=fun m i d=>C0 m a1 a2 i [] [] d.1 d.2.1) (ok:=fun d:Dk=>([],[],d.1,d.2.1,())) (fun m i d hi hI=>by
   show C0 (m + 1) a1 a2 i [] [] d.1 d.2.1=_
   simp only [C0,Nx]
   rw [hxl] at hi
   have hi1:i < a1.length:=by omega
   have hi2:decide ((i:Int) < a2)=true:=Ag (by omega)
   have hg:(a1.take a2.toNat).getD i zOp=List.getD a1 i (false,0,Ad,()):=by
    rw [List.getD_eq_getElem?_getD,List.getElem?_take,if_pos (by omega),← List.getD_eq_getElem?_getD]
    rfl
   rw [hg,hi2,Xv hi1,G9,wI (show i < 4611686018427387904 by omega),En]
   simp only [cond_true]
   generalize List.getD a1 i (false,0,Ad,())=o
   unfold opS
   cases ho:o.1 with
   | true=>
    simp only [cond_true]
    have e2:Jn (d.1,d.2.1,())=some (Be4 d):=if_pos ⟨Nat.le_trans hI.p300 (by decide),fun k hk=>⟨(hI.pen k hk).1,(hI.pen k hk).2.1⟩⟩
    rw [e2]
    rfl
   | false=>
    simp only [cond_false]
    have hn:=hI.n8
    have hn2:=hI.n200
    have hp:=hI.p300
    have e4:decide (nI d.2.1.length < 300)=decide (d.2.1.length < 300):=decide_eq_decide.2 (by simp only [nI]; omega)
    have e5:decide ((d.2.1.length + 1) * 24≤140737488355328)=true:=Ag (by omega)
    simp only [Et,e4,e5,Ll,Anf,cond_true]
    show _=C0 m a1 a2 _ [] [] (bif (decide (0≤o.2.1)&&(decide (o.2.1 < (d.1.length:Int))&&decide (o.2.2.1.size=64)))&&decide (d.2.1.length < 300) then (d.1,d.2.1++[(o.2.1,o.2.2.1,())],()) else d).1 (bif (decide (0≤o.2.1)&&(decide (o.2.1 < (d.1.length:Int))&&decide (o.2.2.1.size=64)))&&decide (d.2.1.length < 300) then (d.1,d.2.1++[(o.2.1,o.2.2.1,())],()) else d).2.1
    cases decide (0≤o.2.1)<;>cases decide (o.2.1 < (d.1.length:Int))<;>cases decide (o.2.2.1.size=64)<;>cases decide (d.2.1.length < 300)<;>rfl) (fun i d hi hI=>hI.op _) (fun m d hI=>by
   show C0 (m + 1) a1 a2 (((a1.take a2.toNat).length:Nat):Int) [] [] d.1 d.2.1=_
   simp only [C0,Nx]
   rw [hxl]
   by_cases q:((min a2.toNat a1.length:Nat):Int) < a2
   ·rw [Bd (show ¬ ((min a2.toNat a1.length:Nat):Int) < nI a1.length by simp only [nI]; omega)]
    rfl
   ·rw [Bd q]
    cases decide (((min a2.toNat a1.length:Nat):Int) < nI a1.length)<;>rfl) (H9 a1 a2 0 [] [] a0.1 a0.2.1) 0 a0 (by omega) (by rw [hxl]; simp only [H9,nI]; omega) hok
  have hL':C0 (H9 a1 a2 0 [] [] a0.1 a0.2.1) a1 a2 0 [] [] a0.1 a0.2.1=_:=hL
  simp only [Bool.not_true,cond_false]
  rw [e1]
  show (C0 (H9 a1 a2 0 [] [] a0.1 a0.2.1) a1 a2 0 [] [] a0.1 a0.2.1).bind _=_
  rw [hL',List.drop_zero]
  have hf:∀ (l:List Dl) (i:Nat) (d:Dk),C9 (fun _ o d=>opS d o) i l d=l.foldl opS d:=fun l=>by
   induction l with
   | nil=>intro i d; rfl
   | cons o r ih=>intro i d; exact ih _ _
  rw [hf]
  rfl
def Aeg {R:Type} (k:Kt R):=(I3 (Nh 6) (.exit 0) 2 k)
def Apa {R:Type}:Lt R Nh:=(Ea (pat:=Nh) 6 (fun d k=>(Ayv d).bind (Aeg k)) Hn)
theorem Ala:A2 Tryz.prog Ak9:=A5 ⟨Ke,Ad7,Ab2,Sk,trivial⟩
theorem Ayw {R:Type}:A4 Tryz.prog R 68 0 Nh Apa Aef:=
 B8 (cfg:=⟨Ak9,0,68,Nh⟩) 6 [] (fun NX X d=>(u4 (Ac (Ac (Ac Ae)))) (Nx  NX X) d) (fun m d=>(u4 (Ac (Ac (Ac Ae)))) (C0 m) d) (fun d=>(u4 (Ac (Ac (Ac Ae)))) H9 d) Aeg Ala trivial (fun f NX d=>by simp only [u4,Ac,Ae]; unfold Nx; simp only [nb])
theorem A48:Bs Tryz.prog 152 Ak8:=
 A3 (pat:=Nh) [Aef] Apa Ala ⟨Ayw,trivial⟩ Tryz.func152 (de:=fun x=>f9 x.1 x.2.1 x.2.2.1) (fun x r h=>F1 (A47 x.1 x.2.1 x.2.2.1) h) fun _=>by kernel_rfl
def Lu (d:Dk) (f:List Int):Dk:=E9 d f
def Gi (v1:List Int) (v6:Int) (r2:List Aa) (r3:List Wr) (r4:List Aa) (r5:List Wr):Nat:=((r5.length:Int) - v6).toNat + 1
def Ayx:Gc:=⟨[.rd yDk,.rd (.sl tI)],[some 2,none],[.own 9 .str,.own 174 Em],[some 2]⟩
def Aeh:SD:=⟨Ayx,fun x=>some (((Lu x.1 x.2.1).1,(Lu x.1 x.2.1).2.1,()),(()))⟩
def Aei:Tb:=tb [(66,H6),(187,Pp)]
def Kg:Nat→C2×(Nat→C2):=F0 [(6,⟨[.sl 1 0 tI,.boxRow 4 0 9 .str,.boxRow 4 1 174 Em,.boxRow 5 0 9 .str,.boxRow 5 1 174 Em],[(1,.lf (.d (.sl tI))),(4,.lf (.ptr 0 0)),(5,.lf (.ptr 1 0)),(6,.lf (.d tI))],[.box 26 [.row 2,.row 3],.box 26 [.row 4,.row 5],.row 9 .str,.row 174 Em,.row 9 .str,.row 174 Em]⟩,[(2,⟨[.boxRow 4 0 9 .str,.boxRow 4 1 174 Em,.boxRow 5 0 9 .str,.boxRow 5 1 174 Em],[(4,.lf (.ptr 0 0)),(5,.lf (.ptr 1 0))],[.box 26 [.row 2,.row 3],.box 26 [.row 4,.row 5],.row 9 .str,.row 174 Em,.row 9 .str,.row 174 Em]⟩)])]
def m6:Code:=(At (Bb Tryz.f228)).getD 0 .skip
def K1 {R:Type}  (NX:((List Int)×(Int)×(List Aa)×(List Wr)×(List Aa)×(List Wr)×Unit)→Option R) (X2:((List Aa)×(List Wr)×(List Aa)×(List Wr)×Unit)→Option R) (v1:List Int) (v6:Int) (r2:List Aa) (r3:List Wr) (r4:List Aa) (r5:List Wr):Option R:=
 bif decide (v6 < nI r5.length) then bif decide (v6 < nI v1.length) then bif decide (0≤v6) then bif decide (v6 < nI v1.length) then bif decide (v1.getD v6.toNat 0 < 0) then bif decide (0≤v6) then bif decide (v6 < nI r5.length) then bif decide (0≤(r5.getD v6.toNat (0,Ad,())).1) then bif decide ((r5.getD v6.toNat (0,Ad,())).1 < nI r4.length) then bif decide ((Ah (r5.getD v6.toNat (0,Ad,())).2.1 0 0).size + (Ah (r4.getD (Int.toNat (r5.getD v6.toNat (0,Ad,())).1) (Ad)) 0 (nI (ByteArray.size (r4.getD (Int.toNat (r5.getD v6.toNat (0,Ad,())).1) (Ad))))).size≤9223372036854775807) then bif decide (0≤(r5.getD v6.toNat (0,Ad,())).1) then bif decide ((r5.getD v6.toNat (0,Ad,())).1 < nI r4.length) then bif decide (Int.toNat (r5.getD v6.toNat (0,Ad,())).1 < r4.length) then NX (v1,IntKind.i64.wrap (v6 + 1),r2,r3,r4.set (Int.toNat (r5.getD v6.toNat (0,Ad,())).1) (Ah (r5.getD v6.toNat (0,Ad,())).2.1 0 0++Ah (r4.getD (Int.toNat (r5.getD v6.toNat (0,Ad,())).1) (Ad)) 0 (nI (ByteArray.size (r4.getD (Int.toNat (r5.getD v6.toNat (0,Ad,())).1) (Ad))))),r5,()) else none else none else none else none else none else none else none else none else bif decide (v1.getD v6.toNat 0 > 64) then bif decide (0≤v6) then bif decide (v6 < nI r5.length) then bif decide (64≤nI (ByteArray.size (r5.getD v6.toNat (0,Ad,())).2.1)) then bif decide (0≤(r5.getD v6.toNat (0,Ad,())).1) then bif decide ((r5.getD v6.toNat (0,Ad,())).1 < nI r4.length) then bif decide (64≤nI (ByteArray.size (r4.getD (Int.toNat (r5.getD v6.toNat (0,Ad,())).1) (Ad)))) then bif decide ((Ah (r5.getD v6.toNat (0,Ad,())).2.1 0 64).size + (Ah (r4.getD (Int.toNat (r5.getD v6.toNat (0,Ad,())).1) (Ad)) 64 (nI (ByteArray.size (r4.getD (Int.toNat (r5.getD v6.toNat (0,Ad,())).1) (Ad))))).size≤9223372036854775807) then bif decide (0≤(r5.getD v6.toNat (0,Ad,())).1) then bif decide ((r5.getD v6.toNat (0,Ad,())).1 < nI r4.length) then bif decide (Int.toNat (r5.getD v6.toNat (0,Ad,())).1 < r4.length) then NX (v1,IntKind.i64.wrap (v6 + 1),r2,r3,r4.set (Int.toNat (r5.getD v6.toNat (0,Ad,())).1) (Ah (r5.getD v6.toNat (0,Ad,())).2.1 0 64++Ah (r4.getD (Int.toNat (r5.getD v6.toNat (0,Ad,())).1) (Ad)) 64 (nI (ByteArray.size (r4.getD (Int.toNat (r5.getD v6.toNat (0,Ad,())).1) (Ad))))),r5,()) else none else none else none else none else none else none else none else none else none else none else bif decide (0≤v6) then bif decide (v6 < nI r5.length) then bif decide (0≤v1.getD v6.toNat 0) then bif decide (v1.getD v6.toNat 0≤nI (ByteArray.size (r5.getD v6.toNat (0,Ad,())).2.1)) then bif decide (0≤(r5.getD v6.toNat (0,Ad,())).1) then bif decide ((r5.getD v6.toNat (0,Ad,())).1 < nI r4.length) then bif decide (0≤v1.getD v6.toNat 0) then bif decide (v1.getD v6.toNat 0≤nI (ByteArray.size (r4.getD (Int.toNat (r5.getD v6.toNat (0,Ad,())).1) (Ad)))) then bif decide ((Ah (r5.getD v6.toNat (0,Ad,())).2.1 0 (v1.getD v6.toNat 0)).size + (Ah (r4.getD (Int.toNat (r5.getD v6.toNat (0,Ad,())).1) (Ad)) (v1.getD v6.toNat 0) (nI (ByteArray.size (r4.getD (Int.toNat (r5.getD v6.toNat (0,Ad,())).1) (Ad))))).size≤9223372036854775807) then bif decide (0≤(r5.getD v6.toNat (0,Ad,())).1) then bif decide ((r5.getD v6.toNat (0,Ad,())).1 < nI r4.length) then bif decide (Int.toNat (r5.getD v6.toNat (0,Ad,())).1 < r4.length) then NX (v1,IntKind.i64.wrap (v6 + 1),r2,r3,r4.set (Int.toNat (r5.getD v6.toNat (0,Ad,())).1) (Ah (r5.getD v6.toNat (0,Ad,())).2.1 0 (v1.getD v6.toNat 0)++Ah (r4.getD (Int.toNat (r5.getD v6.toNat (0,Ad,())).1) (Ad)) (v1.getD v6.toNat 0) (nI (ByteArray.size (r4.getD (Int.toNat (r5.getD v6.toNat (0,Ad,())).1) (Ad))))),r5,()) else none else none else none else none else none else none else none else none else none else none else none else none else none else none else bif decide (0≤v6) then bif decide (v6 < nI r5.length) then bif decide (0≤(r5.getD v6.toNat (0,Ad,())).1) then bif decide ((r5.getD v6.toNat (0,Ad,())).1 < nI r4.length) then bif decide ((Ah (r5.getD v6.toNat (0,Ad,())).2.1 0 0).size + (Ah (r4.getD (Int.toNat (r5.getD v6.toNat (0,Ad,())).1) (Ad)) 0 (nI (ByteArray.size (r4.getD (Int.toNat (r5.getD v6.toNat (0,Ad,())).1) (Ad))))).size≤9223372036854775807) then bif decide (0≤(r5.getD v6.toNat (0,Ad,())).1) then bif decide ((r5.getD v6.toNat (0,Ad,())).1 < nI r4.length) then bif decide (Int.toNat (r5.getD v6.toNat (0,Ad,())).1 < r4.length) then NX (v1,IntKind.i64.wrap (v6 + 1),r2,r3,r4.set (Int.toNat (r5.getD v6.toNat (0,Ad,())).1) (Ah (r5.getD v6.toNat (0,Ad,())).2.1 0 0++Ah (r4.getD (Int.toNat (r5.getD v6.toNat (0,Ad,())).1) (Ad)) 0 (nI (ByteArray.size (r4.getD (Int.toNat (r5.getD v6.toNat (0,Ad,())).1) (Ad))))),r5,()) else none else none else none else none else none else none else none else none else X2 (r2,r3,r4,r5,())
def Ct:Nat→(List Int)→(Int)→(List Aa)→(List Wr)→(List Aa)→(List Wr) →  Option ((List Aa)×(List Wr)×(List Aa)×(List Wr)×Unit)
 | 0,_,_,_,_,_,_=>none
 | m + 1,v1,v6,r2,r3,r4,r5=>K1  (fun d=>Ct m d.1 d.2.1 d.2.2.1 d.2.2.2.1 d.2.2.2.2.1 d.2.2.2.2.2.1) (fun d=>some (d)) v1 v6 r2 r3 r4 r5
def Ar6 (d:(List Int)×(Int)×(List Aa)×(List Wr)×(List Aa)×(List Wr)×Unit):Option ((List Aa)×(List Wr)×(List Aa)×(List Wr)×Unit):=(u4 (Ac (Ac Ae))) (Ct ((u4 (Ac (Ac Ae))) Gi d)) d
def Xb (a0:Dk) (a1:List Int):Option ((Dk×(Unit))):=
 bif !F6 a0 then some (([],[],()),()) else ((E2 a0).bind fun val=>some (val,())).bind fun val=>((fun d=>Ct (Gi d.1 d.2.1 d.2.2.1 d.2.2.2.1 d.2.2.2.2.1 d.2.2.2.2.2.1) d.1 d.2.1 d.2.2.1 d.2.2.2.1 d.2.2.2.2.1 d.2.2.2.2.2.1) (a1,0,[],[],val.1)).bind fun val=>some ((val.2.2.1,[],()),())
theorem Ayy (a0:Dk) (a1:List Int):Xb a0 a1=some (((Lu a0 a1).1,(Lu a0 a1).2.1,()),(())):=by
 unfold Xb Lu E9
 show (bif !Ar a0 then _ else _)=_
 cases hv:Ar a0 with
 | false=>rfl
 | true=>
  obtain ⟨k1,k2,k3,k4,k5⟩:=Ix hv
  have e1:E2 (a0.1,a0.2.1,())=some (a0.1,a0.2.1,()):=if_pos ⟨by show a0.1.length≤_; omega,by show a0.2.1.length≤_; omega⟩
  have hL:=Agr (xs:=a0.2.1) zW (Axd a0.1.length) (fun i w s=>s.set w.1.toNat (Bs6 w.2.1 (s.getD w.1.toNat z0) (Yh a1 i))) (g:=fun m i s=>Ct m a1 i [] [] s a0.2.1) (ok:=fun s=>([],[],s,a0.2.1,())) (fun m i s hi hI=>by
   show Ct (m + 1) a1 i [] [] s a0.2.1=_
   simp only [Ct,K1]
   obtain ⟨w0,w1,w2⟩:=k5 i hi
   have h0:0≤(List.getD a0.2.1 i (0,Ad,())).1:=w0
   have h1:(List.getD a0.2.1 i (0,Ad,())).1 < nI s.length:=by rw [hI.1]; exact w1
   have hsz:ByteArray.size (List.getD a0.2.1 i (0,Ad,())).2.1=64:=w2
   have hj:Int.toNat (List.getD a0.2.1 i (0,Ad,())).1 < s.length:=by
    have h1:(List.getD a0.2.1 i (0,Ad,())).1 < (s.length:Int):=h1
    omega
   have hs2:ByteArray.size (List.getD s (Int.toNat (List.getD a0.2.1 i (0,Ad,())).1) (Ad))=64:=hI.2 _ (by rw [← hI.1]; exact hj)
   have hsum:∀ k:Int,0≤k→k≤64→ByteArray.size (Ah (List.getD a0.2.1 i (0,Ad,())).2.1 0 k) + ByteArray.size (Ah (List.getD s (Int.toNat (List.getD a0.2.1 i (0,Ad,())).1) (Ad)) k (nI (ByteArray.size (List.getD s (Int.toNat (List.getD a0.2.1 i (0,Ad,())).1) (Ad)))))≤9223372036854775807:=by
    intro k q0 q1
    rw [C6 (by omega) q0 (by rw [hsz]; omega),C6 q0 (by rw [hs2]; simp only [nI]; omega) (by rw [hs2]; simp [nI])]
    rw [hs2]
    simp only [nI]
    omega
   rw [Xv hi,G9,wI (show i < 4611686018427387904 by omega),En]
   by_cases hf:i < a1.length
   ·have hfa:Yh a1 i=Tl (List.getD a1 i 0):=if_pos hf
    rw [Xv hf,hfa]
    by_cases q0:(List.getD a1 i 0) < 0
    ·have hz:Tl (List.getD a1 i 0)=0:=if_pos q0
     rw [Ag q0,Ag h0,Ag h1,Ag (hsum 0 (by omega) (by omega)),Ag hj,hz]
     rfl
    ·rw [Bd q0]
     by_cases q1:(List.getD a1 i 0) > 64
     ·have hz:Tl (List.getD a1 i 0)=64:=(if_neg q0).trans (if_pos q1)
      have c2:(64:Int)≤nI (ByteArray.size (List.getD a0.2.1 i (0,Ad,())).2.1):=by rw [hsz]; exact Int.le_refl _
      have c5:(64:Int)≤nI (ByteArray.size (List.getD s (Int.toNat (List.getD a0.2.1 i (0,Ad,())).1) (Ad))):=by rw [hs2]; exact Int.le_refl _
      rw [Ag q1,Ag c2,Ag h0,Ag h1,Ag c5,Ag (hsum 64 (by omega) (by omega)),Ag hj,hz]
      rfl
     ·have hz:Tl (List.getD a1 i 0)=(List.getD a1 i 0):=(if_neg q0).trans (if_neg q1)
      have c1:0≤(List.getD a1 i 0):=by omega
      have c2:(List.getD a1 i 0)≤nI (ByteArray.size (List.getD a0.2.1 i (0,Ad,())).2.1):=by rw [hsz]; simp only [nI]; omega
      have c5:(List.getD a1 i 0)≤nI (ByteArray.size (List.getD s (Int.toNat (List.getD a0.2.1 i (0,Ad,())).1) (Ad))):=by rw [hs2]; simp only [nI]; omega
      rw [Bd q1,Ag c1,Ag c2,Ag h0,Ag h1,Ag c5,Ag (hsum _ c1 (by omega)),Ag hj,hz]
      rfl
   ·have hfa:Yh a1 i=0:=if_neg hf
    have nf:¬ (i:Int) < nI a1.length:=by simp only [nI]; omega
    rw [Bd nf,Ag h0,Ag h1,Ag (hsum 0 (by omega) (by omega)),Ag hj,hfa]
    rfl) (fun i s hi hI=>hI.set (A0v (k5 i hi).2.2 (hI.2 _ (by
   have q:=k5 i hi
   omega)) (x8 a1 i).1 (x8 a1 i).2)) (fun m s hI=>by
   show Ct (m + 1) a1 (a0.2.1.length:Int) [] [] s a0.2.1=_
   simp only [Ct,K1]
   rw [Od]
   rfl) (Gi a1 0 [] [] a0.1 a0.2.1) 0 a0.1 (by omega) (by simp [Gi]) ⟨rfl,k4⟩
  have hL':Ct (Gi a1 0 [] [] a0.1 a0.2.1) a1 0 [] [] a0.1 a0.2.1=_:=hL
  rw [e1]
  show (Ct (Gi a1 0 [] [] a0.1 a0.2.1) a1 0 [] [] a0.1 a0.2.1).bind _=_
  rw [hL']
  rfl
def m7 {R:Type} (k:Kt R):=(I3 (Kg 6) (.exit 0) 2 k)
def Ah6 {R:Type}:Lt R Kg:=(Ea (pat:=Kg) 6 (fun d k=>(Ar6 d).bind (m7 k)) Hn)
theorem Aej:A2 Tryz.prog Aei:=A5 ⟨Ke,Sk,trivial⟩
theorem Ar7 {R:Type}:A4 Tryz.prog R 60 0 Kg Ah6 m6:=
 B8 (cfg:=⟨Aei,0,60,Kg⟩) 6 [] (fun NX X d=>(u4 (Ac (Ac Ae))) (K1  NX X) d) (fun m d=>(u4 (Ac (Ac Ae))) (Ct m) d) (fun d=>(u4 (Ac (Ac Ae))) Gi d) m7 Aej trivial (fun f NX d=>by simp only [u4,Ac,Ae]; unfold K1; simp only [nb])
theorem Ayz:Bs Tryz.prog 228 Aeh:=
 A3 (pat:=Kg) [m6] Ah6 Aej ⟨Ar7,trivial⟩ Tryz.func228 (de:=fun x=>Xb x.1 x.2.1) (fun x r h=>(Ayy x.1 x.2.1).trans h) fun _=>by kernel_rfl
def A49:Gc:=⟨[.rd Gv,.rd (.sl tI)],[some 16,none],[.rd Gv],[some 16]⟩
def g6 (a0:Bg) (a1:List Int):Option (((Bg×Unit)×(Unit))):=
 some (((a0.1,Lu a0.2.1 a1,false,(0,0,0,(0,0,0,0,()),0,0,([],()),()),a0.2.2.2.2),()),())
theorem Alb:∃ f,f=@g6:=⟨_,rfl⟩
def Fp:=Classical.choose Alb
theorem Alc:@Fp=@g6:=Classical.choose_spec Alb
def Ald:SD:=⟨A49,fun x=>Fp x.1 x.2.1⟩
theorem Apb (w:Bg) (f:List Int):As (Fp w f) fun q=>q=((Ag2 w f,()),()):=by
 rw [Alc]
 exact As.some rfl
theorem A5a:Bs Tryz.prog 202 Ald:=
 A3 (pat:=Dp) [] Hn (A5 (l:=[(228,Aeh)]) ⟨Ayz,trivial⟩) trivial Tryz.func202 (de:=fun x=>g6 x.1 x.2.1) (fun x r h=>by have q:Fp x.1 x.2.1=some r:=h; rw [Alc] at q; exact q) fun _=>by kernel_rfl
def Kn (r:Rt) (w:Int):Aa:=Cb r w
def A2c:Gc:=⟨[.rd yRt,.rd tI],[some 4,none],[.rd .str],[none]⟩
def Y6:SD:=⟨A2c,fun x=>some (((Kn x.1 x.2.1),()),(()))⟩
def Y7 (a0:Rt) (a1:Int):Option ((((Aa)×Unit)×(Unit))):=
 bif decide (a0.2.1 < 0) then some ((Ad,()),()) else bif decide (a0.2.1 > 1) then some ((Ad,()),()) else bif decide (a0.2.2.1 < 1) then some ((Ad,()),()) else bif decide (a0.2.2.1 > 999999000) then some ((Ad,()),()) else ((Ch a0.2.1 1).bind fun val=>some ((val,()),())).bind fun val=>((Ch a0.2.2.1 4).bind fun val=>some ((val,()),())).bind fun val_1=>bif decide (ByteArray.size val.1.1 + ByteArray.size val_1.1.1≤9223372036854775807) then some ((Dv (4,a0.2.2.2.1,a0.1,val.1.1++val_1.1.1,()) a1,()),()) else none
theorem A2d (a0:Rt) (a1:Int):Y7 a0 a1=some (((Kn a0 a1),()),(())):=by
 unfold Y7 Kn Cb Jo
 rw [A8q a0.2.1,A8q a0.2.2.1]
 cases h1:Bw a0.2.1 0 1 with
 | false=>rfl
 | true=>
  cases h2:Bw a0.2.2.1 1 999999000 with
  | false=>rfl
  | true=>
   have q1:=Cv h1
   have q2:=Cv h2
   have n1:Ch a0.2.1 1=some (Dj a0.2.1 1):=(I8 _ _).trans (if_pos (by omega))
   have n2:Ch a0.2.2.1 4=some (Dj a0.2.2.1 4):=(I8 _ _).trans (if_pos (by omega))
   simp only [n1,n2,Option.bind_some,cond_true]
   rw [L4,L4,Ag (show 1 + 4≤9223372036854775807 by decide)]
   rfl
theorem Ah7:Bs Tryz.prog 191 Y6:=
 A3 (pat:=Dp) [] Hn (A5 (l:=[(72,Ln),(160,Yy)]) ⟨Pi,Ahn,trivial⟩) trivial Tryz.func191 (de:=fun x=>Y7 x.1 x.2.1) (fun x r h=>(A2d x.1 x.2.1).trans h) fun _=>by kernel_rfl
def E3 (s:Aa) (at' w:Int):Rt×Bool:=
 bif (Av s w).2&&decide ((Av s w).1.2.2.2.1.size=5) then (F2 (Av s w).1,((Cb (F2 (Av s w).1) w).toList==s.toList)&&(Int.tmod (Av s w).1.2.2.1 2==at')) else ((0,0,0,0,()),false)
def Bh9:Gc:=⟨[.rd .str,.rd tI,.rd tI],[none,none,none],[.rd yRt,.rd .bool],[some 4,none]⟩
def Ay0:SD:=⟨Bh9,fun x=>some (((E3 x.1 x.2.1 x.2.2.1).1,(E3 x.1 x.2.1 x.2.2.1).2,()),(()))⟩
def Ake (a0:Aa) (a1 a2:Int):Option (((Rt×(Bool)×Unit)×(Unit))):=
 bif !(Am a0 a2).2 then some (((0,0,0,0,()),false,()),()) else bif nI (ByteArray.size (Am a0 a2).1.2.2.2.1) != 5 then some (((0,0,0,0,()),false,()),()) else bif decide (0 < nI (ByteArray.size (Am a0 a2).1.2.2.2.1)) then bif decide (1≤nI (ByteArray.size (Am a0 a2).1.2.2.2.1)) then ((Jh (Ah (Am a0 a2).1.2.2.2.1 1 (nI (ByteArray.size (Am a0 a2).1.2.2.2.1)))).bind fun val=>some ((val,()),())).bind fun val=>bif (Kn ((Am a0 a2).1.2.2.1,IntKind.i64.wrap (Ap (Am a0 a2).1.2.2.2.1 0),val.1.1,(Am a0 a2).1.2.1,()) a2).toList==a0.toList then some ((((Am a0 a2).1.2.2.1,IntKind.i64.wrap (Ap (Am a0 a2).1.2.2.2.1 0),val.1.1,(Am a0 a2).1.2.1,()),Int.tmod (Am a0 a2).1.2.2.1 2==a1,()),()) else some ((((Am a0 a2).1.2.2.1,IntKind.i64.wrap (Ap (Am a0 a2).1.2.2.2.1 0),val.1.1,(Am a0 a2).1.2.1,()),false,()),()) else none else none
theorem Bia (a0:Aa) (a1 a2:Int):Ake a0 a1 a2=some (((E3 a0 a1 a2).1,(E3 a0 a1 a2).2,()),(())):=by
 unfold Ake E3
 have e:Am a0 a2=Av a0 a2:=rfl
 rw [e]
 generalize Av a0 a2=p
 obtain ⟨g,o⟩:=p
 cases o
 ·rfl
 ·by_cases h5:g.2.2.2.1.size=5
  ·have n1:Jh (Ah g.2.2.2.1 1 (nI g.2.2.2.1.size))=some (Ang (Ah g.2.2.2.1 1 (nI g.2.2.2.1.size))):=if_pos (by rw [C6 (by omega) (by simp only [nI]; omega) (by simp [nI])]; simp only [nI]; omega)
   obtain ⟨b0,b1⟩:=J7 g.2.2.2.1 0
   simp only [n1,Option.bind_some,Bool.not_true,cond_false,Bool.true_and]
   rw [bne_eq_false_iff_eq.2 (show nI g.2.2.2.1.size=5 by simp only [nI]; omega),Ag h5,Ag (show 0 < nI g.2.2.2.1.size by simp only [nI]; omega),Ag (show 1≤nI g.2.2.2.1.size by simp only [nI]; omega),Aj (n:=Ap g.2.2.2.1 0) (by omega) (by omega)]
   show (bif (ByteArray.toList (Cb (F2 g) a2)==ByteArray.toList a0) then _ else _)=_
   cases hq:(ByteArray.toList (Cb (F2 g) a2)==ByteArray.toList a0)<;>rfl
  ·simp only [Bool.not_true,cond_false,Bool.true_and]
   rw [bne_iff_ne.2 (show nI g.2.2.2.1.size≠5 by simp only [nI]; omega),Bd h5]
   rfl
theorem Bib:Bs Tryz.prog 188 Ay0:=
 A3 (pat:=Dp) [] Hn (A5 (l:=[(16,Pj),(71,Abl),(191,Y6)]) ⟨S6,Aol,Ah7,trivial⟩) trivial Tryz.func188 (de:=fun x=>Ake x.1 x.2.1 x.2.2.1) (fun x r h=>(Bia x.1 x.2.1 x.2.2.1).trans h) fun _=>by kernel_rfl
def An (d:Dk) (w:Int):Rt:=Aw d w
def Vd (v1 v7:Int) (b0_0 b0_1 b0_2 b0_3:Int) (b1_0:List Aa) (b1_1:List Wr) (b2_0 b2_1 b2_2 b2_3:Int):Nat:=3
def A2e:Gc:=⟨[.rd yDk,.rd tI],[some 2,none],[.rd yRt],[some 4]⟩
def Ah8:SD:=⟨A2e,fun x=>some (((An x.1 x.2.1),()),(()))⟩
def Ah9:Tb:=tb [(65,Du),(66,H6),(186,Xa),(187,Pp),(188,Ay0)]
def Lv:Nat→C2×(Nat→C2):=F0 [(7,⟨[.boxSl 5 0 .str,.boxSl 5 1 Em],[(1,.lf (.d tI)),(4,.lf (.ptr 0 0)),(5,.lf (.ptr 1 0)),(6,.lf (.ptr 2 0)),(7,.lf (.d tI))],[.box 28 [.d tI,.d tI,.d tI,.d tI],.box 26 [.d (.sl .str),.d (.sl Em)],.box 28 [.d tI,.d tI,.d tI,.d tI]]⟩,[(2,⟨[],[(4,.lf (.ptr 0 0)),(6,.lf (.ptr 1 0))],[.box 28 [.d tI,.d tI,.d tI,.d tI],.box 28 [.d tI,.d tI,.d tI,.d tI]]⟩)])]
def Ab3:Code:=(At (Bb Tryz.f107)).getD 0 .skip
def Qs {R:Type}  (NX:((Int)×(Int)×(Int)×(Int)×(Int)×(Int)×(List Aa)×(List Wr)×(Int)×(Int)×(Int)×(Int)×Unit)→Option R) (X2:((Int)×(Int)×(Int)×(Int)×(Int)×(Int)×(Int)×(Int)×Unit)→Option R) (v1:Int) (v7:Int) (b0_0:Int) (b0_1:Int) (b0_2:Int) (b0_3:Int) (b1_0:List Aa) (b1_1:List Wr) (b2_0:Int) (b2_1:Int) (b2_2:Int) (b2_3:Int):Option R:=
 bif decide (v7 < 2) then bif decide (0≤v7) then bif decide (v7 < nI b1_0.length) then bif (E3 (b1_0.getD v7.toNat (Ad)) v7 v1).2 then bif decide ((E3 (b1_0.getD v7.toNat (Ad)) v7 v1).1.1 > b2_0) then NX (v1,IntKind.i64.wrap (v7 + 1),b0_0,b0_1,b0_2,b0_3,b1_0,b1_1,(E3 (b1_0.getD v7.toNat (Ad)) v7 v1).1) else NX (v1,IntKind.i64.wrap (v7 + 1),b0_0,b0_1,b0_2,b0_3,b1_0,b1_1,b2_0,b2_1,b2_2,b2_3,()) else NX (v1,IntKind.i64.wrap (v7 + 1),b0_0,b0_1,b0_2,b0_3,b1_0,b1_1,b2_0,b2_1,b2_2,b2_3,()) else none else none else X2 (b0_0,b0_1,b0_2,b0_3,b2_0,b2_1,b2_2,b2_3,())
def Hl:Nat→(Int)→(Int)→(Int)→(Int)→(Int)→(Int)→(List Aa)→(List Wr)→(Int)→(Int)→(Int)→(Int) →  Option ((Int)×(Int)×(Int)×(Int)×(Int)×(Int)×(Int)×(Int)×Unit)
 | 0,_,_,_,_,_,_,_,_,_,_,_,_=>none
 | m + 1,v1,v7,b0_0,b0_1,b0_2,b0_3,b1_0,b1_1,b2_0,b2_1,b2_2,b2_3=>Qs  (fun d=>Hl m d.1 d.2.1 d.2.2.1 d.2.2.2.1 d.2.2.2.2.1 d.2.2.2.2.2.1 d.2.2.2.2.2.2.1 d.2.2.2.2.2.2.2.1 d.2.2.2.2.2.2.2.2.1 d.2.2.2.2.2.2.2.2.2.1 d.2.2.2.2.2.2.2.2.2.2.1 d.2.2.2.2.2.2.2.2.2.2.2.1) (fun d=>some (d)) v1 v7 b0_0 b0_1 b0_2 b0_3 b1_0 b1_1 b2_0 b2_1 b2_2 b2_3
def Avz (d:(Int)×(Int)×(Int)×(Int)×(Int)×(Int)×(List Aa)×(List Wr)×(Int)×(Int)×(Int)×(Int)×Unit):Option ((Int)×(Int)×(Int)×(Int)×(Int)×(Int)×(Int)×(Int)×Unit):=(u4 (u4 (u4 Ae))) (Hl ((u4 (u4 (u4 Ae))) Vd d)) d
def Y8 (a0:Dk) (a1:Int):Option (((Rt×Unit)×(Unit))):=
 bif !F6 a0 then some (((0,0,0,0,()),()),()) else (Cp a1).bind fun val=>bif !val.1.1 then some (((0,0,0,0,()),()),()) else ((E2 a0).bind fun val=>some (val,())).bind fun val=>((Jn val.1).bind fun val=>some (val,())).bind fun val=>((fun d=>Hl (Vd d.1 d.2.1 d.2.2.1 d.2.2.2.1 d.2.2.2.2.1 d.2.2.2.2.2.1 d.2.2.2.2.2.2.1 d.2.2.2.2.2.2.2.1 d.2.2.2.2.2.2.2.2.1 d.2.2.2.2.2.2.2.2.2.1 d.2.2.2.2.2.2.2.2.2.2.1 d.2.2.2.2.2.2.2.2.2.2.2.1) d.1 d.2.1 d.2.2.1 d.2.2.2.1 d.2.2.2.2.1 d.2.2.2.2.2.1 d.2.2.2.2.2.2.1 d.2.2.2.2.2.2.2.1 d.2.2.2.2.2.2.2.2.1 d.2.2.2.2.2.2.2.2.2.1 d.2.2.2.2.2.2.2.2.2.2.1 d.2.2.2.2.2.2.2.2.2.2.2.1) (a1,0,0,0,0,0,val.1.1,val.1.2.1,0,0,1,0,())).bind fun val=>some ((val.2.2.2.2,()),())
theorem Bv5 (s:Aa) (w:Int) (i:Nat) (b:Rt):(bif (E3 s i w).2 then (bif decide ((E3 s i w).1.1 > b.1) then (E3 s i w).1 else b) else b)=Hy s w i b:=by
 unfold E3 Hy
 have hf:=@Us s w
 have hr:=@Bqx s w
 generalize Av s w=p at *
 obtain ⟨g,o⟩:=p
 cases o
 ·rfl
 ·obtain ⟨_,_,_,hp⟩:=hf rfl
  obtain ⟨_,_,r3,_⟩:=Ank hp
  by_cases h5:g.2.2.2.1.size=5
  ·have hr:=hr rfl h5
   simp only [Ag h5,Bool.true_and,cond_true,hr]
   rw [Int.tmod_eq_emod_of_nonneg (by omega)]
   have e:(F2 g).1=g.2.2.1:=rfl
   rw [e]
   cases (g.1==4)<;>cases Jo (F2 g)<;>cases (g.2.2.1 % 2==(i:Int))<;>cases decide (g.2.2.1 > b.1)<;>rfl
  ·simp only [Bd h5,Bool.true_and,cond_false,Bool.and_false,Bool.false_and]
theorem Bll (X:List Aa) (P:List Wr) (w:Int) (i:Nat) (hi:i < 2) (hX:2≤X.length) (m:Nat) (x1 x2 x3 x4:Int) (b:Rt):
  Hl (m + 1) w i x1 x2 x3 x4 X P b.1 b.2.1 b.2.2.1 b.2.2.2.1=Hl m w ((i + 1:Nat):Int) x1 x2 x3 x4 X P (Hy (X.getD i z0) w i b).1 (Hy (X.getD i z0) w i b).2.1 (Hy (X.getD i z0) w i b).2.2.1 (Hy (X.getD i z0) w i b).2.2.2.1:=by
 simp only [Hl,Qs]
 rw [Ag (show (i:Int) < 2 by omega),G9,Ag (show (i:Int) < nI X.length by simp only [nI]; omega),wI (show i < 4611686018427387904 by omega),En,← Bv5]
 show (bif (E3 (X.getD i z0) i w).2 then (bif decide ((E3 (X.getD i z0) i w).1.1 > b.1) then _ else _) else _)=_
 cases (E3 (X.getD i z0) i w).2
 ·rfl
 ·cases decide ((E3 (X.getD i z0) i w).1.1 > b.1)<;>rfl
theorem A2f (a0:Dk) (a1:Int):Y8 a0 a1=some (((An a0 a1),()),(())):=by
 unfold Y8 An Aw
 show (bif !Ar a0 then _ else _)=_
 cases hv:Ar a0 with
 | false=>rfl
 | true=>
  refine bi_ (wid a1) ?_
  show (bif !Bw a1 1 8 then _ else _)=_
  cases hw:Bw a1 1 8 with
  | false=>rfl
  | true=>
   obtain ⟨k1,k2,k3,k4,k5⟩:=Ix hv
   have e1:E2 (a0.1,a0.2.1,())=some a0:=if_pos ⟨by show a0.1.length≤_; omega,by show a0.2.1.length≤_; omega⟩
   have e2:Jn (a0.1,a0.2.1,())=some (Be4 a0):=if_pos ⟨by show a0.2.1.length≤_; omega,fun i hi=>⟨(k5 i hi).1,(k5 i hi).2.1⟩⟩
   have hlen:(Hq a0.1 a0.2.1).length=a0.1.length:=V8 _ _
   have hg:∀ i:Nat,i < 2→(Hq a0.1 a0.2.1).getD i z0=Yg a0 i:=fun i hi=>Bjv a0.1 i (by omega) a0.2.1 (fun w hw=>by
    obtain ⟨j,hj,rfl⟩:=Zs zW hw
    exact (k5 j hj).1)
   have h1:=Bll (Hq a0.1 a0.2.1) [] a1 0 (by omega) (by omega) 2 0 0 0 0 (0,0,1,0,())
   have h2:=Bll (Hq a0.1 a0.2.1) [] a1 1 (by omega) (by omega) 1 0 0 0 0 (Hy ((Hq a0.1 a0.2.1).getD 0 z0) a1 (0:Nat) (0,0,1,0,()))
   have h3:=h1.trans h2
   rw [hg 0 (by omega),hg 1 (by omega)] at h3
   simp only [e1,e2,Option.bind_some,Bool.not_true,cond_false]
   exact bi_ h3 rfl
def Ab4 {R:Type} (k:Kt R):=(I3 (Lv 7) (.exit 0) 2 k)
def Ale {R:Type}:Lt R Lv:=(Ea (pat:=Lv) 7 (fun d k=>(Avz d).bind (Ab4 k)) Hn)
theorem Aia:A2 Tryz.prog Ah9:=A5 ⟨Er,Ke,Ab2,Sk,Bib,trivial⟩
theorem Av0 {R:Type}:A4 Tryz.prog R 48 0 Lv Ale Ab3:=
 B8 (cfg:=⟨Ah9,0,48,Lv⟩) 7 [] (fun NX X d=>(u4 (u4 (u4 Ae))) (Qs  NX X) d) (fun m d=>(u4 (u4 (u4 Ae))) (Hl m) d) (fun d=>(u4 (u4 (u4 Ae))) Vd d) Ab4 Aia trivial (fun f NX d=>by simp only [u4,Ac,Ae]; unfold Qs; simp only [nb])
theorem A2g:Bs Tryz.prog 107 Ah8:=
 A3 (pat:=Lv) [Ab3] Ale Aia ⟨Av0,trivial⟩ Tryz.func107 (de:=fun x=>Y8 x.1 x.2.1) (fun x r h=>(A2f x.1 x.2.1).trans h) fun _=>by kernel_rfl
def T7 (was p:Pg):Bool:=Zu was.1 was.2.1 p
def Ba0:Gc:=⟨[.rd yPg,.rd yPg],[some 4,some 4],[.rd .bool],[none]⟩
def Apc:SD:=⟨Ba0,fun x=>some (((T7 x.1 x.2.1),()),(()))⟩
def Ab5 (a0 a1:Pg):Option ((((Bool)×Unit)×(Unit))):=
 bif decide (a1.2.1 < a0.2.1) then some ((false,()),()) else bif a1.1==3 then some ((a0.1 != 1,()),()) else bif a1.1==1 then bif a0.1 != 1 then some ((true,()),()) else some ((a0.2.1==a1.2.1,()),()) else bif a1.1==2 then bif a0.1 != 1 then some ((true,()),()) else some ((a0.2.1==a1.2.1,()),()) else some ((false,()),())
theorem Ba1 (a0 a1:Pg):Ab5 a0 a1=some (((T7 a0 a1),()),(())):=by
 unfold Ab5 T7 Zu
 cases decide (a1.2.1 < a0.2.1)<;>cases (a1.1==3)<;>cases (a1.1==1)<;>cases (a1.1==2)<;>cases (a0.1 != 1)<;>rfl
theorem Ba2:Bs Tryz.prog 189 Apc:=
 A3 (pat:=Dp) [] Hn (A5 (l:=[]) trivial) trivial Tryz.func189 (de:=fun x=>Ab5 x.1 x.2.1) (fun x r h=>(Ba1 x.1 x.2.1).trans h) fun _=>by kernel_rfl
def Dq (d:Dk) (from_ size first life w:Int):Scd:=V9 d from_ size first life w
def Bic:Gc:=⟨[.rd yDk,.rd tI,.rd tI,.rd tI,.rd tI,.rd tI],[some 2,none,none,none,none,none],[.own 9 .str,.rd tI,.rd tI],[some 3]⟩
def Ay1:SD:=⟨Bic,fun x=>some (((Dq x.1 x.2.1 x.2.2.1 x.2.2.2.1 x.2.2.2.2.1 x.2.2.2.2.2.1).1,(Dq x.1 x.2.1 x.2.2.1 x.2.2.2.1 x.2.2.2.2.1 x.2.2.2.2.2.1).2.1,(Dq x.1 x.2.1 x.2.2.1 x.2.2.2.1 x.2.2.2.2.1 x.2.2.2.2.2.1).2.2.1,()),(()))⟩
def Ay2:Tb:=tb [(16,Pj),(65,Du),(66,H6),(186,Xa),(187,Pp),(189,Apc)]
def Qt:Nat→C2×(Nat→C2):=F0 [(9,⟨[.boxRow 12 0 9 .str,.boxSl 13 0 .str,.boxSl 13 1 Em,.boxRow 14 0 9 .str],[(1,.lf (.d tI)),(2,.lf (.d tI)),(3,.lf (.d tI)),(5,.lf (.d tI)),(12,.lf (.ptr 0 0)),(13,.lf (.ptr 1 0)),(14,.lf (.ptr 2 0)),(15,.lf (.ptr 3 0)),(16,.lf (.d .str)),(17,.lf (.d tI))],[.box 135 [.row 4,.d tI,.d tI],.box 26 [.d (.sl .str),.d (.sl Em)],.box 135 [.row 5,.d tI,.d tI],.box 41 [.d tI,.d tI,.d tI,.d .str],.row 9 .str,.row 9 .str]⟩,[(2,⟨[.boxRow 12 0 9 .str,.boxRow 14 0 9 .str],[(12,.lf (.ptr 0 0)),(14,.lf (.ptr 1 0))],[.box 135 [.row 2,.d tI,.d tI],.box 135 [.row 3,.d tI,.d tI],.row 9 .str,.row 9 .str]⟩),(1,⟨[.boxRow 12 0 9 .str],[(12,.lf (.ptr 0 0))],[.box 135 [.row 1,.d tI,.d tI],.row 9 .str]⟩)])]
def Apd:Code:=(At (Bb Tryz.f108)).getD 0 .skip
def Mn (v1 v2:Int) (v3 v5:Int) (v16:Aa) (v17 b0_1 b0_2:Int) (b1_0:List Aa) (b1_1:List Wr) (b2_1 b2_2:Int) (b3_0 b3_1 b3_2:Int) (b3_3:Aa) (r4 r5:List Aa):Nat:=(v2 - v17).toNat + 1
def Sm {R:Type}  (NX:((Int)×(Int)×(Int)×(Int)×(Aa)×(Int)×(Int)×(Int)×(List Aa)×(List Wr)×(Int)×(Int)×(Int)×(Int)×(Int)×(Aa)×(List Aa)×(List Aa)×Unit)→Option R) (X2:((Int)×(Int)×(Int)×(Int)×(List Aa)×(List Aa)×Unit)→Option R) (X1:((Int)×(Int)×(List Aa)×Unit)→Option R) (v1:Int) (v2:Int) (v3:Int) (v5:Int) (v16:Aa) (v17:Int) (b0_1:Int) (b0_2:Int) (b1_0:List Aa) (b1_1:List Wr) (b2_1:Int) (b2_2:Int) (b3_0:Int) (b3_1:Int) (b3_2:Int) (b3_3:Aa) (r4:List Aa) (r5:List Aa):Option R:=
 bif decide (v17 < v2) then bif decide (0≤IntKind.i64.wrap (v1 + v17)) then bif decide (IntKind.i64.wrap (v1 + v17) < nI b1_0.length) then bif !(Am (b1_0.getD (IntKind.i64.wrap (v1 + v17)).toNat (Ad)) v5).2 then X1 (b2_1,b2_2,r5,()) else bif IntKind.i64.wrap ((Am (b1_0.getD (IntKind.i64.wrap (v1 + v17)).toNat (Ad)) v5).1.2.2.1 - v17) != v3 then X1 (b2_1,b2_2,r5,()) else bif !T7 (b3_0,b3_1,b3_2,b3_3,()) (Am (b1_0.getD (IntKind.i64.wrap (v1 + v17)).toNat (Ad)) v5).1 then X1 (b2_1,b2_2,r5,()) else bif decide (v16.size + ByteArray.size (Am (b1_0.getD (IntKind.i64.wrap (v1 + v17)).toNat (Ad)) v5).1.2.2.2.1≤9223372036854775807) then bif (Am (b1_0.getD (IntKind.i64.wrap (v1 + v17)).toNat (Ad)) v5).1.1==1 then NX (v1,v2,v3,v5,v16++(Am (b1_0.getD (IntKind.i64.wrap (v1 + v17)).toNat (Ad)) v5).1.2.2.2.1,IntKind.i64.wrap (v17 + 1),b0_1,b0_2,b1_0,b1_1,b2_1,b2_2,(Am (b1_0.getD (IntKind.i64.wrap (v1 + v17)).toNat (Ad)) v5).1.1,(Am (b1_0.getD (IntKind.i64.wrap (v1 + v17)).toNat (Ad)) v5).1.2.1,(Am (b1_0.getD (IntKind.i64.wrap (v1 + v17)).toNat (Ad)) v5).1.2.2.1,(Am (b1_0.getD (IntKind.i64.wrap (v1 + v17)).toNat (Ad)) v5).1.2.2.2.1,r4,r5,()) else bif (Am (b1_0.getD (IntKind.i64.wrap (v1 + v17)).toNat (Ad)) v5).1.1==2 then bif decide ((r5.length + [v16++(Am (b1_0.getD (IntKind.i64.wrap (v1 + v17)).toNat (Ad)) v5).1.2.2.2.1].length) * 16≤140737488355328) then NX (v1,v2,v3,v5,Ad,IntKind.i64.wrap (v17 + 1),b0_1,b0_2,b1_0,b1_1,IntKind.i64.wrap (v17 + 1),(Am (b1_0.getD (IntKind.i64.wrap (v1 + v17)).toNat (Ad)) v5).1.2.1,(Am (b1_0.getD (IntKind.i64.wrap (v1 + v17)).toNat (Ad)) v5).1.1,(Am (b1_0.getD (IntKind.i64.wrap (v1 + v17)).toNat (Ad)) v5).1.2.1,(Am (b1_0.getD (IntKind.i64.wrap (v1 + v17)).toNat (Ad)) v5).1.2.2.1,(Am (b1_0.getD (IntKind.i64.wrap (v1 + v17)).toNat (Ad)) v5).1.2.2.2.1,r4,r5++[v16++(Am (b1_0.getD (IntKind.i64.wrap (v1 + v17)).toNat (Ad)) v5).1.2.2.2.1],()) else none else NX (v1,v2,v3,v5,Ad,IntKind.i64.wrap (v17 + 1),b0_1,b0_2,b1_0,b1_1,IntKind.i64.wrap (v17 + 1),(Am (b1_0.getD (IntKind.i64.wrap (v1 + v17)).toNat (Ad)) v5).1.2.1,(Am (b1_0.getD (IntKind.i64.wrap (v1 + v17)).toNat (Ad)) v5).1.1,(Am (b1_0.getD (IntKind.i64.wrap (v1 + v17)).toNat (Ad)) v5).1.2.1,(Am (b1_0.getD (IntKind.i64.wrap (v1 + v17)).toNat (Ad)) v5).1.2.2.1,(Am (b1_0.getD (IntKind.i64.wrap (v1 + v17)).toNat (Ad)) v5).1.2.2.2.1,r4,r5,()) else none else none else none else X2 (b0_1,b0_2,b2_1,b2_2,r4,r5,())
def Ia:Nat→(Int)→(Int)→(Int)→(Int)→(Aa)→(Int)→(Int)→(Int)→(List Aa)→(List Wr)→(Int)→(Int)→(Int)→(Int)→(Int)→(Aa)→(List Aa)→(List Aa) →  Option (((Int)×(Int)×(Int)×(Int)×(List Aa)×(List Aa)×Unit) ⊕ ((Int)×(Int)×(List Aa)×Unit))
 | 0,_,_,_,_,_,_,_,_,_,_,_,_,_,_,_,_,_,_=>none
 | m + 1,v1,v2,v3,v5,v16,v17,b0_1,b0_2,b1_0,b1_1,b2_1,b2_2,b3_0,b3_1,b3_2,b3_3,r4,r5=>Sm  (fun d=>Ia m d.1 d.2.1 d.2.2.1 d.2.2.2.1 d.2.2.2.2.1 d.2.2.2.2.2.1 d.2.2.2.2.2.2.1 d.2.2.2.2.2.2.2.1 d.2.2.2.2.2.2.2.2.1 d.2.2.2.2.2.2.2.2.2.1 d.2.2.2.2.2.2.2.2.2.2.1 d.2.2.2.2.2.2.2.2.2.2.2.1 d.2.2.2.2.2.2.2.2.2.2.2.2.1 d.2.2.2.2.2.2.2.2.2.2.2.2.2.1 d.2.2.2.2.2.2.2.2.2.2.2.2.2.2.1 d.2.2.2.2.2.2.2.2.2.2.2.2.2.2.2.1 d.2.2.2.2.2.2.2.2.2.2.2.2.2.2.2.2.1 d.2.2.2.2.2.2.2.2.2.2.2.2.2.2.2.2.2.1) (fun d=>some (.inl (d))) (fun d=>some (.inr (d))) v1 v2 v3 v5 v16 v17 b0_1 b0_2 b1_0 b1_1 b2_1 b2_2 b3_0 b3_1 b3_2 b3_3 r4 r5
def Ba3 (d:(Int)×(Int)×(Int)×(Int)×(Aa)×(Int)×(Int)×(Int)×(List Aa)×(List Wr)×(Int)×(Int)×(Int)×(Int)×(Int)×(Aa)×(List Aa)×(List Aa)×Unit):Option (((Int)×(Int)×(Int)×(Int)×(List Aa)×(List Aa)×Unit) ⊕ ((Int)×(Int)×(List Aa)×Unit)):=(u4 (u4 (u4 (u4 (Ac (Ac Ae)))))) (Ia ((u4 (u4 (u4 (u4 (Ac (Ac Ae)))))) Mn d)) d
def Akf (a0:Dk) (a1 a2:Int) (a3 a4 a5:Int):Option ((((List Aa)×(Int)×(Int)×Unit)×(Unit))):=
 bif !F6 a0 then some (([],0,0,()),()) else (Cp a5).bind fun val=>bif !val.1.1 then some (([],0,0,()),()) else bif decide (a1 < 0) then some (([],0,0,()),()) else bif decide (a2 < 0) then some (([],0,0,()),()) else bif decide (a1 > nI (List.length a0.1)) then some (([],0,0,()),()) else bif decide (a2 > IntKind.i64.wrap (nI (List.length a0.1) - a1)) then some (([],0,0,()),()) else ((E2 a0).bind fun val=>some (val,())).bind fun val=>((Jn val.1).bind fun val=>some (val,())).bind fun val=>((fun d=>Ia (Mn d.1 d.2.1 d.2.2.1 d.2.2.2.1 d.2.2.2.2.1 d.2.2.2.2.2.1 d.2.2.2.2.2.2.1 d.2.2.2.2.2.2.2.1 d.2.2.2.2.2.2.2.2.1 d.2.2.2.2.2.2.2.2.2.1 d.2.2.2.2.2.2.2.2.2.2.1 d.2.2.2.2.2.2.2.2.2.2.2.1 d.2.2.2.2.2.2.2.2.2.2.2.2.1 d.2.2.2.2.2.2.2.2.2.2.2.2.2.1 d.2.2.2.2.2.2.2.2.2.2.2.2.2.2.1 d.2.2.2.2.2.2.2.2.2.2.2.2.2.2.2.1 d.2.2.2.2.2.2.2.2.2.2.2.2.2.2.2.2.1 d.2.2.2.2.2.2.2.2.2.2.2.2.2.2.2.2.2.1) d.1 d.2.1 d.2.2.1 d.2.2.2.1 d.2.2.2.2.1 d.2.2.2.2.2.1 d.2.2.2.2.2.2.1 d.2.2.2.2.2.2.2.1 d.2.2.2.2.2.2.2.2.1 d.2.2.2.2.2.2.2.2.2.1 d.2.2.2.2.2.2.2.2.2.2.1 d.2.2.2.2.2.2.2.2.2.2.2.1 d.2.2.2.2.2.2.2.2.2.2.2.2.1 d.2.2.2.2.2.2.2.2.2.2.2.2.2.1 d.2.2.2.2.2.2.2.2.2.2.2.2.2.2.1 d.2.2.2.2.2.2.2.2.2.2.2.2.2.2.2.1 d.2.2.2.2.2.2.2.2.2.2.2.2.2.2.2.2.1 d.2.2.2.2.2.2.2.2.2.2.2.2.2.2.2.2.2.1) (a1,a2,a3,a5,Ad,0,0,0,val.1.1,val.1.2.1,0,a4,0,a4,0,Ad,[],[],())).bind fun val=>Bx (fun d=>some ((d.2.2.2.2.2.1,d.2.2.1,d.2.2.2.1,()),())) (fun d=>some ((d.2.2.1,d.1,d.2.1,()),())) val
def Bpt (y:(Int×Int×Int×Int×List Aa×List Aa×Unit) ⊕ (Int×Int×List Aa×Unit)):Scd:=match y with
 | .inl v=>(v.2.2.2.2.2.1,v.2.2.1,v.2.2.2.1,())
 | .inr v=>(v.2.2.1,v.1,v.2.1,())
theorem Bf1 {d:Dk} (hd:Iw d) (f n:Nat) (hfn:f + n≤d.1.length) (first w b1 b2:Int) (r4:List Aa):∀ (k m i:Nat) (st:Yk) (num:Int) (part:Aa),i + k=n→k < m→Ako i st→
  ∃ y,Ia m f n first w st.2.2.1 i b1 b2 (Hq d.1 d.2.1) [] st.2.2.2.2.1 st.2.2.2.2.2 st.1 st.2.1 num part r4 st.2.2.2.1=some y∧Bpt y=Cw w first (seen d f i k) i st
 | 0,m + 1,i,st,num,part,hi,_,_=>by
  simp only [Ia,Sm]
  rw [Bd (show ¬ (i:Int) < (n:Int) by omega)]
  exact ⟨_,rfl,rfl⟩
 | k + 1,m + 1,i,st,num,part,hi,hm,hI=>by
  have h200:=hd.n200
  have e1:IntKind.i64.wrap ((f:Int) + (i:Int))=((f + i:Nat):Int):=by rw [Aj (by omega) (by omega)]; omega
  have e2:List.getD (Hq d.1 d.2.1) (f + i) (Ad)=Yg d ((f:Int) + (i:Int)):=Btj hd (by omega)
  have e3:decide (((f + i:Nat):Int) < nI (Hq d.1 d.2.1).length)=true:=Ag (by rw [V8]; simp only [nI]; omega)
  have e4:IntKind.i64.wrap ((i:Int) + 1)=((i + 1:Nat):Int):=wI (by omega)
  have es:seen d f i (k + 1)=Yg d ((f:Int) + (i:Int))::seen d f (i + 1) k:=rfl
  simp only [Ia,Sm]
  rw [es,Ag (show (i:Int) < (n:Int) by omega)]
  simp only [e1,e2,e3,e4,G9,cond_true,En,Am,T7]
  unfold Cw G1
  generalize hx:Yg d ((f:Int) + (i:Int))=x
  generalize hR:Av x w=R
  obtain ⟨p,ok⟩:=R
  cases ok with
  | false=>exact ⟨_,rfl,rfl⟩
  | true=>
   obtain ⟨q1,q2,q3⟩:=A6x hR
   have e5:IntKind.i64.wrap (p.2.2.1 - (i:Int))=p.2.2.1 - (i:Int):=Aj (by omega) (by omega)
   simp only [e5,Bool.not_true,cond_false,Bool.true_and,bne]
   cases hn:(p.2.2.1 - (i:Int)==first) with
   | false=>exact ⟨_,rfl,rfl⟩
   | true=>
    simp only [Bool.not_true,cond_false,Bool.true_and]
    have hg:Zu st.1 st.2.1 (p.1,p.2.1,p.2.2.1,p.2.2.2.1,())=Zu st.1 st.2.1 p:=rfl
    try simp only [hg]
    cases hgo:Zu st.1 st.2.1 p with
    | false=>exact ⟨_,rfl,rfl⟩
    | true=>
     have hN:=hI.next (by omega) q3
     have e6:decide (ByteArray.size st.2.2.1 + ByteArray.size p.2.2.2.1≤9223372036854775807)=true:=Ag (by have:=hI.2.1; omega)
     have e7:decide ((List.length st.2.2.2.1 + 1) * 16≤140737488355328)=true:=Ag (by have:=hI.2.2; omega)
     simp only [e6,Bool.not_true,cond_false,cond_true,Et,e7]
     have ih:=fun num part=>Bf1 hd f n hfn first w b1 b2 r4 k m (i + 1) (C3 i p st) num part (by omega) (by omega) hN
     have ei:(i:Int) + 1=((i + 1:Nat):Int):=by omega
     rw [ei]
     unfold C3 at ih ⊢
     cases h1:(p.1==1) with
     | true=>
      have hp:p.1=1:=eq_of_beq h1
      rw [h1] at ih
      have:=ih p.2.2.1 p.2.2.2.1
      rw [hp]
      exact this
     | false=>
      rw [h1] at ih
      cases h2:(p.1==2) with
      | true=>
       have hp:p.1=2:=eq_of_beq h2
       rw [h2] at ih
       have:=ih p.2.2.1 p.2.2.2.1
       rw [hp]
       simp only [cond_false,cond_true,ei] at this ⊢
       exact this
      | false=>
       rw [h2] at ih
       have:=ih p.2.2.1 p.2.2.2.1
       simp only [cond_false,ei] at this ⊢
       exact this
theorem Bid (a0:Dk) (a1 a2:Int) (a3 a4 a5:Int):Akf a0 a1 a2 a3 a4 a5=some (((Dq a0 a1 a2 a3 a4 a5).1,(Dq a0 a1 a2 a3 a4 a5).2.1,(Dq a0 a1 a2 a3 a4 a5).2.2.1,()),(())):=by
 unfold Akf Dq V9
 show (bif !Ar a0 then _ else _)=_
 cases hv:Ar a0 with
 | false=>rfl
 | true=>
  have hd:=Ix hv
  simp only [Bool.not_true,cond_false]
  refine bi_ (wid a5) ?_
  cases hw:Bw a5 1 8 with
  | false=>rfl
  | true=>
   simp only [Bool.not_true,cond_false]
   have h200:=hd.n200
   by_cases h1:a1 < 0
   ·rw [Ag h1,Bd (show ¬ 0≤a1 by omega)]; rfl
   ·rw [Bd h1,Ag (show 0≤a1 by omega)]
    by_cases h2:a2 < 0
    ·rw [Ag h2,Bd (show ¬ 0≤a2 by omega)]; rfl
    ·rw [Bd h2,Ag (show 0≤a2 by omega)]
     by_cases h3:a1 > nI a0.1.length
     ·rw [Ag h3,Bd (show ¬ a1≤(a0.1.length:Int) by simp only [nI] at h3; omega)]; rfl
     ·have h3':a1≤(a0.1.length:Int):=by simp only [nI] at h3; omega
      rw [Bd h3,Ag h3']
      rw [Aj (n:=nI a0.1.length - a1) (by simp only [nI]; omega) (by simp only [nI]; omega)]
      by_cases h4:a2 > nI a0.1.length - a1
      ·rw [Ag h4,Bd (show ¬ a2≤(a0.1.length:Int) - a1 by simp only [nI] at h4; omega)]; rfl
      ·have h4':a2≤(a0.1.length:Int) - a1:=by simp only [nI] at h4; omega
       rw [Bd h4,Ag h4']
       simp only [cond_false,cond_true,Bool.true_and,Bool.and_self]
       have c1:E2 (a0.1,a0.2.1,())=some (a0.1,a0.2.1,()):=if_pos ⟨Nat.le_trans hd.n200 (by decide),Nat.le_trans hd.p300 (by decide)⟩
       have c2:Jn (a0.1,a0.2.1,())=some (Be4 a0):=if_pos ⟨Nat.le_trans hd.p300 (by decide),fun k hk=>⟨(hd.pen k hk).1,(hd.pen k hk).2.1⟩⟩
       rw [c1]
       simp only [Option.bind_some]
       rw [c2]
       simp only [Option.bind_some]
       obtain ⟨f,rfl⟩:∃ f:Nat,a1=(f:Int):=⟨a1.toNat,by omega⟩
       obtain ⟨n,rfl⟩:∃ n:Nat,a2=(n:Int):=⟨a2.toNat,by omega⟩
       have hfu:n < Mn f n a3 a5 (Ad) 0 0 0 (Hq a0.1 a0.2.1) [] 0 a4 0 a4 0 (Ad) [] []:=by simp only [Mn]; omega
       generalize hF:Mn f n a3 a5 (Ad) 0 0 0 (Hq a0.1 a0.2.1) [] 0 a4 0 a4 0 (Ad) [] []=F at hfu
       have hfn:f + n≤a0.1.length:=by omega
       have hst:Ako 0 (0,a4,z0,[],0,a4):=Ako.zero _ _ _ _
       obtain ⟨y,hy1,hy2⟩:=Bf1 hd f n hfn a3 a5 0 0 [] n F 0 (0,a4,z0,[],0,a4) 0 (Ad)
        (Nat.zero_add n)
        hfu
        hst
       show (Ia (Mn f n a3 a5 (Ad) 0 0 0 (Hq a0.1 a0.2.1) [] 0 a4 0 a4 0 (Ad) [] []) f n a3 a5 (Ad) 0 0 0 (Hq a0.1 a0.2.1) [] 0 a4 0 a4 0 (Ad) [] []).bind _=_
       rw [hF]
       have hy1':Ia F f n a3 a5 (Ad) 0 0 0 (Hq a0.1 a0.2.1) [] 0 a4 0 a4 0 (Ad) [] []=some y:=hy1
       rw [hy1',En]
       simp only [Option.bind_some]
       have hy3:Bpt y=Cw a5 a3 (seen a0 (f:Int) 0 n) 0 (0,a4,z0,[],0,a4):=hy2
       rw [← hy3]
       cases y<;>rfl
def Ape {R:Type} (k:Kt R):=(Bx (I3 (Qt 9) (.exit 0) 2 k) (I3 (Qt 9) .ret 1 k))
def A4b {R:Type}:Lt R Qt:=(Ea (pat:=Qt) 9 (fun d k=>(Ba3 d).bind (Ape k)) Hn)
theorem Ay3:A2 Tryz.prog Ay2:=A5 ⟨S6,Er,Ke,Ab2,Sk,Ba2,trivial⟩
theorem Ba4 {R:Type}:A4 Tryz.prog R 118 0 Qt A4b Apd:=
 B8 (cfg:=⟨Ay2,0,118,Qt⟩) 9 [] (fun NX X d=>(u4 (u4 (u4 (u4 (Ac (Ac Ae)))))) (Sm  NX (fun e=>X (.inl (e))) (fun e=>X (.inr (e)))) d) (fun m d=>(u4 (u4 (u4 (u4 (Ac (Ac Ae)))))) (Ia m) d) (fun d=>(u4 (u4 (u4 (u4 (Ac (Ac Ae)))))) Mn d) Ape Ay3 trivial (fun f NX d=>by simp only [u4,Ac,Ae]; unfold Sm; simp only [nb])
theorem Bie:Bs Tryz.prog 108 Ay1:=
 A3 (pat:=Qt) [Apd] A4b Ay3 ⟨Ba4,trivial⟩ Tryz.func108 (de:=fun x=>Akf x.1 x.2.1 x.2.2.1 x.2.2.2.1 x.2.2.2.2.1 x.2.2.2.2.2.1) (fun x r h=>(Bid x.1 x.2.1 x.2.2.1 x.2.2.2.1 x.2.2.2.2.1 x.2.2.2.2.2.1).trans h) fun _=>by kernel_rfl
def B0 (n h:Int):Int:=IntKind.i64.wrap (2 + IntKind.i64.wrap (h * A7 n))
def Ba5:Gc:=⟨[.rd tI,.rd tI],[none,none],[.rd tI],[none]⟩
def Xc:SD:=⟨Ba5,fun x=>some (((B0 x.1 x.2.1),()),(()))⟩
def Apf (a0 a1:Int):Option ((((Int)×Unit)×(Unit))):=
 some ((IntKind.i64.wrap (2 + IntKind.i64.wrap (a1 * A7 a0)),()),())
theorem Ba6 (a0 a1:Int):Apf a0 a1=some (((B0 a0 a1),()),(())):=rfl
theorem Ab6:Bs Tryz.prog 109 Xc:=
 A3 (pat:=Dp) [] Hn (A5 (l:=[(40,Pb)]) ⟨R9,trivial⟩) trivial Tryz.func109 (de:=fun x=>Apf x.1 x.2.1) (fun x r h=>(Ba6 x.1 x.2.1).trans h) fun _=>by kernel_rfl
def Q3 (s:B5) (c:Be):Option B5:=if s.1.length≤1000000 then some (Arr c s.1,()) else none
def A2h:Gc:=⟨[.rd C8,.rd Do],[some 1,some 3],[.own 157 Ax],[some 1]⟩
def Aib:SD:=⟨A2h,fun x=>(Q3 x.1 x.2.1).bind fun r=>some ((r.1,()),(()))⟩
def Aic:Tb:=tb []
def Lw:Nat→C2×(Nat→C2):=F0 [(5,⟨[.boxSl 2 0 Ax,.boxRow 4 0 157 Ax,.boxRow 5 0 157 Ax],[(2,.lf (.ptr 0 0)),(3,.lf (.ptr 1 0)),(4,.lf (.ptr 2 0)),(5,.lf (.ptr 3 0)),(6,.lf (.d .bool)),(7,.lf (.d tI))],[.box 31 [.d (.sl Ax)],.box 99 [.d .str,.d .str,.d .bool],.box 31 [.row 4],.box 31 [.row 5],.row 157 Ax,.row 157 Ax]⟩,[(2,⟨[.boxRow 4 0 157 Ax,.boxRow 5 0 157 Ax],[(3,.lf (.ptr 0 0)),(4,.lf (.ptr 1 0)),(5,.lf (.ptr 2 0)),(6,.lf (.d .bool))],[.box 99 [.d .str,.d .str,.d .bool],.box 31 [.row 3],.box 31 [.row 4],.row 157 Ax,.row 157 Ax]⟩)])]
def Ab7:Code:=(At (Bb Tryz.f199)).getD 0 .skip
def Mo (v6:Bool) (v7:Int) (b0_0:List A1) (b1_0 b1_1:Aa) (b1_2:Bool) (r4 r5:List A1):Nat:=((b0_0.length:Int) - v7).toNat + 1
def Mq {R:Type}  (NX:((Bool)×(Int)×(List A1)×(Aa)×(Aa)×(Bool)×(List A1)×(List A1)×Unit)→Option R) (X2:((Bool)×(Aa)×(Aa)×(Bool)×(List A1)×(List A1)×Unit)→Option R) (v6:Bool) (v7:Int) (b0_0:List A1) (b1_0:Aa) (b1_1:Aa) (b1_2:Bool) (r4:List A1) (r5:List A1):Option R:=
 bif decide (v7 < nI b0_0.length) then bif !v6 then bif decide (0≤v7) then bif decide (v7 < nI b0_0.length) then bif !(Op.bytesLess (ByteArray.toList (b0_0.getD v7.toNat (Ad,Ad,())).1) b1_0.toList || ByteArray.toList (b0_0.getD v7.toNat (Ad,Ad,())).1==b1_0.toList) then bif decide ((r5.length + [(b1_0,b1_1,())].length) * 32≤140737488355328) then bif decide (0≤v7) then bif decide (v7 < nI b0_0.length) then bif !ByteArray.toList (b0_0.getD v7.toNat (Ad,Ad,())).1==b1_0.toList then bif decide (0≤v7) then bif decide (v7 < nI b0_0.length) then bif decide (((r5++[(b1_0,b1_1,())]).length + [b0_0.getD v7.toNat (Ad,Ad,())].length) * 32≤140737488355328) then NX (true,IntKind.i64.wrap (v7 + 1),b0_0,b1_0,b1_1,b1_2,r4,r5++[(b1_0,b1_1,())]++[b0_0.getD v7.toNat (Ad,Ad,())],()) else none else none else none else NX (true,IntKind.i64.wrap (v7 + 1),b0_0,b1_0,b1_1,b1_2,r4,r5++[(b1_0,b1_1,())],()) else none else none else none else bif decide (0≤v7) then bif decide (v7 < nI b0_0.length) then bif !ByteArray.toList (b0_0.getD v7.toNat (Ad,Ad,())).1==b1_0.toList then bif decide (0≤v7) then bif decide (v7 < nI b0_0.length) then bif decide ((r5.length + [b0_0.getD v7.toNat (Ad,Ad,())].length) * 32≤140737488355328) then NX (v6,IntKind.i64.wrap (v7 + 1),b0_0,b1_0,b1_1,b1_2,r4,r5++[b0_0.getD v7.toNat (Ad,Ad,())],()) else none else none else none else NX (v6,IntKind.i64.wrap (v7 + 1),b0_0,b1_0,b1_1,b1_2,r4,r5,()) else none else none else none else none else bif decide (0≤v7) then bif decide (v7 < nI b0_0.length) then bif !ByteArray.toList (b0_0.getD v7.toNat (Ad,Ad,())).1==b1_0.toList then bif decide (0≤v7) then bif decide (v7 < nI b0_0.length) then bif decide ((r5.length + [b0_0.getD v7.toNat (Ad,Ad,())].length) * 32≤140737488355328) then NX (v6,IntKind.i64.wrap (v7 + 1),b0_0,b1_0,b1_1,b1_2,r4,r5++[b0_0.getD v7.toNat (Ad,Ad,())],()) else none else none else none else NX (v6,IntKind.i64.wrap (v7 + 1),b0_0,b1_0,b1_1,b1_2,r4,r5,()) else none else none else X2 (v6,b1_0,b1_1,b1_2,r4,r5,())
def Eh:Nat→(Bool)→(Int)→(List A1)→(Aa)→(Aa)→(Bool)→(List A1)→(List A1) →  Option ((Bool)×(Aa)×(Aa)×(Bool)×(List A1)×(List A1)×Unit)
 | 0,_,_,_,_,_,_,_,_=>none
 | m + 1,v6,v7,b0_0,b1_0,b1_1,b1_2,r4,r5=>Mq  (fun d=>Eh m d.1 d.2.1 d.2.2.1 d.2.2.2.1 d.2.2.2.2.1 d.2.2.2.2.2.1 d.2.2.2.2.2.2.1 d.2.2.2.2.2.2.2.1) (fun d=>some (d)) v6 v7 b0_0 b1_0 b1_1 b1_2 r4 r5
def Av1 (d:(Bool)×(Int)×(List A1)×(Aa)×(Aa)×(Bool)×(List A1)×(List A1)×Unit):Option ((Bool)×(Aa)×(Aa)×(Bool)×(List A1)×(List A1)×Unit):=(u4 (u4 Ae)) (Eh ((u4 (u4 Ae)) Mo d)) d
def Y9 (a0:B5) (a1:Be):Option ((B5×(Unit))):=
 ((fun d=>Eh (Mo d.1 d.2.1 d.2.2.1 d.2.2.2.1 d.2.2.2.2.1 d.2.2.2.2.2.1 d.2.2.2.2.2.2.1 d.2.2.2.2.2.2.2.1) d.1 d.2.1 d.2.2.1 d.2.2.2.1 d.2.2.2.2.1 d.2.2.2.2.2.1 d.2.2.2.2.2.2.1 d.2.2.2.2.2.2.2.1) (a1.2.2.1,0,a0.1,a1.1,a1.2.1,a1.2.2.1,[],[],())).bind fun val=>bif !val.1 then bif decide ((val.2.2.2.2.2.1.length + [(val.2.1,val.2.2.1,())].length) * 32≤140737488355328) then some ((val.2.2.2.2.2.1++[(val.2.1,val.2.2.1,())],()),()) else none else some (val.2.2.2.2.2,())
theorem A2i (a0:B5) (a1:Be) r (h:Q3 a0 a1=some r):Y9 a0 a1=some ((r.1,()),(())):=by
 unfold Q3 at h
 split at h
 rotate_left
 ·cases h
 rename_i hlen
 cases h
 unfold Y9
 have hL:=E4 (xs:=a0.1) zP (fun i (s:Bool×List A1)=>i≤1000000∧s.2.length≤2 * i) (fun _ p s=>Aa1 a1.1 a1.2.1 p s) (g:=fun m i s=>Eh m s.1 i a0.1 a1.1 a1.2.1 a1.2.2.1 [] s.2) (ok:=fun s=>(s.1,a1.1,a1.2.1,a1.2.2.1,[],s.2,())) (fun m i s hi hI=>by
   show Eh (m + 1) s.1 i a0.1 a1.1 a1.2.1 a1.2.2.1 [] s.2=_
   obtain ⟨d,out⟩:=s
   obtain ⟨h1,h2⟩:=hI
   simp only at h2 ⊢
   simp only [Eh,Mq]
   have e1:decide ((out.length + 1) * 32≤140737488355328)=true:=Ag (by omega)
   have e2:decide ((out.length + 1 + 1) * 32≤140737488355328)=true:=Ag (by omega)
   rw [Xv hi,G9,wI (show i < 4611686018427387904 by omega),En]
   simp only [cond_true,Et,Ef,e1,e2]
   unfold Aa1 gtS bl
   show (bif !d then (bif !(Op.bytesLess (List.getD a0.1 i zP).1.toList a1.1.toList || (List.getD a0.1 i zP).1.toList==a1.1.toList) then _ else _) else _)=_
   cases d with
   | true=>
    simp only [Bool.not_true,Bool.false_and,cond_false]
    show (bif !((List.getD a0.1 i zP).1.toList==a1.1.toList) then _ else _)=_
    cases ((List.getD a0.1 i zP).1.toList==a1.1.toList)<;>rfl
   | false=>
    simp only [Bool.not_false,Bool.true_and,cond_true]
    cases hq:!(Op.bytesLess (List.getD a0.1 i zP).1.toList a1.1.toList || (List.getD a0.1 i zP).1.toList==a1.1.toList) with
    | true=>
     simp only [cond_true]
     show (bif !((List.getD a0.1 i zP).1.toList==a1.1.toList) then _ else _)=_
     cases ((List.getD a0.1 i zP).1.toList==a1.1.toList)<;>rfl
    | false=>
     simp only [cond_false]
     show (bif !((List.getD a0.1 i zP).1.toList==a1.1.toList) then _ else _)=_
     cases ((List.getD a0.1 i zP).1.toList==a1.1.toList)<;>rfl) (fun i s hi hI=>⟨by omega,by have:=A9a a1.1 a1.2.1 (a0.1.getD i zP) s; omega⟩) (fun m s hI=>by
   show Eh (m + 1) s.1 (a0.1.length:Int) a0.1 a1.1 a1.2.1 a1.2.2.1 [] s.2=_
   simp only [Eh,Mq]
   rw [Od]
   rfl) (Mo a1.2.2.1 0 a0.1 a1.1 a1.2.1 a1.2.2.1 [] []) 0 (a1.2.2.1,[]) (by omega) (by simp [Mo,nI]) ⟨by omega,Nat.le_refl _⟩
 have hE:=Bpa a1.1 a1.2.1 a0.1 0 (a1.2.2.1,[])
 have hB:(C9 (fun _ p s=>Aa1 a1.1 a1.2.1 p s) 0 a0.1 (a1.2.2.1,[])).2.length≤2 * a0.1.length:=by
  have:=Aae zP (fun i (s:Bool×List A1)=>s.2.length≤2 * i) (fun _ p s=>Aa1 a1.1 a1.2.1 p s) (xs:=a0.1) (fun i s hi hI=>by have:=A9a a1.1 a1.2.1 (a0.1.getD i zP) s; omega) a0.1.length 0 (a1.2.2.1,[]) (by omega) (Nat.le_refl _)
  exact this
 rw [List.drop_zero] at hL
 refine Qe hL ?_
 dsimp only
 generalize C9 (fun _ p s=>Aa1 a1.1 a1.2.1 p s) 0 a0.1 (a1.2.2.1,[])=q at hE hB
 obtain ⟨d,out⟩:=q
 simp only at hB
 simp only [List.nil_append] at hE
 show _=some ((Vq a1.1 a1.2.1 a1.2.2.1 a0.1,()),())
 rw [← hE]
 unfold Bkb
 have e1:decide ((out.length + 1) * 32≤140737488355328)=true:=Ag (by omega)
 cases d with
 | true=>rfl
 | false=>
  simp only [Bool.not_false,cond_true,cond_false,Et,e1]
def Ab8 {R:Type} (k:Kt R):=(I3 (Lw 5) (.exit 0) 2 k)
def Alf {R:Type}:Lt R Lw:=(Ea (pat:=Lw) 5 (fun d k=>(Av1 d).bind (Ab8 k)) Hn)
theorem Aid:A2 Tryz.prog Aic:=A5 trivial
theorem Av2 {R:Type}:A4 Tryz.prog R 73 0 Lw Alf Ab7:=
 B8 (cfg:=⟨Aic,0,73,Lw⟩) 5 [] (fun NX X (d:(Bool)×(Int)×(List A1)×(Aa)×(Aa)×(Bool)×(List A1)×(List A1)×Unit)=>(u4 (u4 Ae)) (Mq  NX X) d) (fun m d=>(u4 (u4 Ae)) (Eh m) d) (fun d=>(u4 (u4 Ae)) Mo d) Ab8 Aid trivial (fun f NX (d:(Bool)×(Int)×(List A1)×(Aa)×(Aa)×(Bool)×(List A1)×(List A1)×Unit)=>by simp only [u4,Ac,Ae]; unfold Mq; simp only [nb])
theorem A2j:Bs Tryz.prog 199 Aib:=
 A3 (pat:=Lw) [Ab7] Alf Aid ⟨Av2,trivial⟩ Tryz.func199 (de:=fun x=>Y9 x.1 x.2.1) (fun x r h=>F1 (A2i x.1 x.2.1) h) fun _=>by kernel_rfl
def G7 (s:B5) (b:List Be):B5×Int:=B7 s b
def Bdf:Gc:=⟨[.rd C8,.rd (.sl Do)],[some 1,none],[.own 157 Ax,.rd tI],[some 1,none]⟩
def Af3:SD:=⟨Bdf,fun x=>some (((G7 x.1 x.2.1).1.1,(G7 x.1 x.2.1).2,()),(()))⟩
def Atg:Tb:=tb [(69,Mb),(77,Sj),(122,Qm),(199,Aib)]
def Re:Nat→C2×(Nat→C2):=F0 [(6,⟨[.sl 1 0 Do,.boxRow 4 0 157 Ax,.boxRow 6 0 157 Ax],[(1,.lf (.d (.sl Do))),(4,.lf (.ptr 0 0)),(6,.lf (.ptr 1 0)),(7,.lf (.d tI))],[.box 31 [.row 2],.box 31 [.row 3],.row 157 Ax,.row 157 Ax]⟩,[(2,⟨[.boxRow 4 0 157 Ax,.boxRow 6 0 157 Ax],[(4,.lf (.ptr 0 0)),(6,.lf (.ptr 1 0))],[.box 31 [.row 2],.box 31 [.row 3],.row 157 Ax,.row 157 Ax]⟩)])]
def Alg:Code:=(At (Bb Tryz.f123)).getD 0 .skip
def Ni (v1:List Be) (v7:Int) (r2 r3:List A1):Nat:=((v1.length:Int) - v7).toNat + 1
def Q4 {R:Type}  (NX:((List Be)×(Int)×(List A1)×(List A1)×Unit)→Option R) (X2:((List A1)×(List A1)×Unit)→Option R) (v1:List Be) (v7:Int) (r2:List A1) (r3:List A1):Option R:=
 bif decide (v7 < nI v1.length) then bif decide (0≤v7) then bif decide (v7 < nI v1.length) then ((Q3 (r3,()) (v1.getD v7.toNat (Ad,Ad,false,()))).bind fun val=>some (val,())).bind fun val=>NX (v1,IntKind.i64.wrap (v7 + 1),r2,val.1) else none else none else X2 (r2,r3,())
def Fu:Nat→(List Be)→(Int)→(List A1)→(List A1) →  Option ((List A1)×(List A1)×Unit)
 | 0,_,_,_,_=>none
 | m + 1,v1,v7,r2,r3=>Q4  (fun d=>Fu m d.1 d.2.1 d.2.2.1 d.2.2.2.1) (fun d=>some (d)) v1 v7 r2 r3
def A5b (d:(List Be)×(Int)×(List A1)×(List A1)×Unit):Option ((List A1)×(List A1)×Unit):=(u4 Ae) (Fu ((u4 Ae) Ni d)) d
def Af4 (a0:B5) (a1:List Be):Option ((((List A1)×(Int)×Unit)×(Unit))):=
 bif !Gr a0 then some (([],1,()),()) else bif !Kb a1 then some (([],1,()),()) else ((E1 a0).bind fun val=>some (val,())).bind fun val=>((fun d=>Fu (Ni d.1 d.2.1 d.2.2.1 d.2.2.2.1) d.1 d.2.1 d.2.2.1 d.2.2.2.1) (a1,0,[],val.1)).bind fun val=>bif decide (nI val.2.1.length > 100) then some (([],2,()),()) else some ((val.2.1,0,()),())
theorem Bif (b:List Be) (xs:List A1) (hb:b.length≤20) (hx:xs.length≤100):Fu (Ni b 0 [] xs) b 0 [] xs=some ([],Rn xs b,()):=by
 have hL:=E4 (xs:=b) zC (fun i (l:List A1)=>i≤20∧l.length≤100 + i) (fun _ c l=>Arr c l) (g:=fun m i l=>Fu m b i [] l) (ok:=fun l=>([],l,())) (fun m i l hi hI=>by
   show Fu (m + 1) b i [] l=_
   simp only [Fu,Q4]
   rw [Xv hi,G9,wI (show i < 4611686018427387904 by omega),En]
   simp only [cond_true]
   have e1:Q3 (l,()) ((List.getD b i zC).1,(List.getD b i zC).2.1,(List.getD b i zC).2.2.1,())=some (Arr (List.getD b i zC) l,()):=if_pos (by show l.length≤1000000; omega)
   refine (congrArg (fun y=>Option.bind (Option.bind y _) _) e1).trans ?_
   rfl) (fun i l hi hI=>⟨by omega,by have:=Bvl (b.getD i zC) l; omega⟩) (fun m l hI=>by
   show Fu (m + 1) b (b.length:Int) [] l=_
   simp only [Fu,Q4]
   rw [Od]
   rfl) (Ni b 0 [] xs) 0 xs (by omega) (by simp [Ni,nI]) ⟨by omega,by omega⟩
 rw [List.drop_zero] at hL
 exact hL
theorem Bdg (a0:B5) (a1:List Be):Af4 a0 a1=some (((G7 a0 a1).1.1,(G7 a0 a1).2,()),(())):=by
 unfold Af4 G7 B7
 show (bif !Ak a0 then _ else bif !A0 a1 then _ else _)=_
 cases hv:Ak a0 with
 | false=>rfl
 | true=>
  cases hb:A0 a1 with
  | false=>rfl
  | true=>
   simp only [Bool.not_true,cond_false]
   have hl:=Ca hv
   have hb2:=Cv (B6 hb).1
   have e1:E1 (a0.1,())=some (a0.1,()):=if_pos (Nat.le_trans hl (by decide))
   rw [e1]
   simp only [Option.bind_some]
   refine Qe (Bif a1 a0.1 (by omega) hl) ?_
   dsimp only
   by_cases q:(Rn a0.1 a1).length > 100
   ·rw [Ag (show nI (Rn a0.1 a1).length > 100 by simp only [nI]; omega),Ag q]
    rfl
   ·rw [Bd (show ¬ nI (Rn a0.1 a1).length > 100 by simp only [nI]; omega),Bd q]
    rfl
def Alh {R:Type} (k:Kt R):=(I3 (Re 6) (.exit 0) 2 k)
def Ay4 {R:Type}:Lt R Re:=(Ea (pat:=Re) 6 (fun d k=>(A5b d).bind (Alh k)) Hn)
theorem Ath:A2 Tryz.prog Atg:=A5 ⟨Qn,W8,U3,A2j,trivial⟩
theorem A5c {R:Type}:A4 Tryz.prog R 37 0 Re Ay4 Alg:=
 B8 (cfg:=⟨Atg,0,37,Re⟩) 6 [] (fun NX X d=>(u4 Ae) (Q4  NX X) d) (fun m d=>(u4 Ae) (Fu m) d) (fun d=>(u4 Ae) Ni d) Alh Ath trivial (fun f NX d=>by simp only [u4,Ac,Ae]; unfold Q4; simp only [nb])
theorem Ati:Bs Tryz.prog 123 Af3:=
 A3 (pat:=Re) [Alg] Ay4 Ath ⟨A5c,trivial⟩ Tryz.func123 (de:=fun x=>Af4 x.1 x.2.1) (fun x r h=>(Bdg x.1 x.2.1).trans h) fun _=>by kernel_rfl
def Mr (s:Aa):Aa×Aa×Bool:=((Bm s).1,bif (Bm s).2.2 then (Bm s).2.1 else ⟨#[]⟩,(Bm s).2.2)
def A5d:Gc:=⟨[.rd .str],[none],[.rd .str,.rd .str,.rd .bool],[none,none,none]⟩
def Ali:SD:=⟨A5d,fun x=>some (((Mr x.1).1,(Mr x.1).2.1,(Mr x.1).2.2,()),(()))⟩
def g7 (a0:Aa):Option ((((Aa)×(Aa)×(Bool)×Unit)×(Unit))):=
 bif decide (nI a0.size < 1) then some ((Ad,Ad,false,()),()) else bif decide (0 < nI a0.size) then bif decide (nI a0.size < IntKind.i64.wrap (1 + IntKind.i64.wrap (Ap a0 0))) then some ((Ad,Ad,false,()),()) else bif decide (0 < nI a0.size) then bif decide (1≤IntKind.i64.wrap (1 + IntKind.i64.wrap (Ap a0 0))) then bif decide (IntKind.i64.wrap (1 + IntKind.i64.wrap (Ap a0 0))≤nI a0.size) then bif decide (0≤IntKind.i64.wrap (1 + IntKind.i64.wrap (Ap a0 0))) then bif decide (IntKind.i64.wrap (1 + IntKind.i64.wrap (Ap a0 0))≤nI a0.size) then some ((Ah a0 1 (IntKind.i64.wrap (1 + IntKind.i64.wrap (Ap a0 0))),Ah a0 (IntKind.i64.wrap (1 + IntKind.i64.wrap (Ap a0 0))) (nI a0.size),true,()),()) else none else none else none else none else none else none
theorem A5e (a0:Aa):g7 a0=some (((Mr a0).1,(Mr a0).2.1,(Mr a0).2.2,()),(())):=by
 unfold g7 Mr Bm
 obtain ⟨b0,b1⟩:=J7 a0 0
 have hw:IntKind.i64.wrap (1 + IntKind.i64.wrap (Ap a0 0))=1 + Ap a0 0:=by
  rw [Aj (n:=Ap a0 0) (by omega) (by omega),Aj (by omega) (by omega)]
 rw [hw]
 by_cases h0:(a0.size:Int) < 1
 ·rw [if_pos (Or.inl h0),Ag (show nI a0.size < 1 from h0)]
  rfl
 ·rw [Bd (show ¬ nI a0.size < 1 from h0),Ag (show 0 < nI a0.size by simp only [nI]; omega)]
  by_cases h1:(a0.size:Int) < 1 + Ap a0 0
  ·rw [if_pos (Or.inr h1),Ag (show nI a0.size < 1 + Ap a0 0 from h1)]
   rfl
  ·rw [if_neg (by omega),Bd (show ¬ nI a0.size < 1 + Ap a0 0 from h1),Ag (show 1≤1 + Ap a0 0 by omega),Ag (show 0≤1 + Ap a0 0 by omega),Ag (show 1 + Ap a0 0≤nI a0.size by simp only [nI]; omega)]
   rfl
theorem A5f:Bs Tryz.prog 226 Ali:=
 A3 (pat:=Dp) [] Hn (A5 (l:=[]) trivial) trivial Tryz.func226 (de:=fun x=>g7 x.1) (fun x r h=>(A5e x.1).trans h) fun _=>by kernel_rfl
def F8 (s:Aa):List Be×Bool:=A8l s
def Tp (v0 v5:Aa) (r0:List Be):Nat:=22
def Ay5:Gc:=⟨[.rd .str],[none],[.own 99 Do,.rd .bool],[none,none]⟩
def Aek:SD:=⟨Ay5,fun x=>some (((F8 x.1).1,(F8 x.1).2,()),(()))⟩
def Ael:Tb:=tb [(125,Ns),(226,Ali)]
def Ib:Nat→C2×(Nat→C2):=F0 [(4,⟨[.row 4 0 99 Do],[(0,.lf (.d .str)),(4,.lf (.row 0)),(5,.lf (.d .str))],[.row 99 Do]⟩,[(2,⟨[.row 4 0 99 Do],[(0,.lf (.d .str)),(4,.lf (.row 0))],[.row 99 Do]⟩),(1,⟨[.row 2 0 99 Do],[(2,.lf (.row 0)),(3,.lf (.d .bool))],[.row 99 Do]⟩)])]
def m8:Code:=(At (Bb Tryz.f190)).getD 0 .skip
def Ov {R:Type}  (NX:((Aa)×(Aa)×(List Be)×Unit)→Option R) (X2:((Aa)×(List Be)×Unit)→Option R) (X1:((Bool)×(List Be)×Unit)→Option R) (v0:Aa) (v5:Aa) (r0:List Be):Option R:=
 bif decide (nI v5.size > 0) then bif decide (nI r0.length≤20) then bif decide (0 < nI v5.size) then bif decide (1≤nI v5.size) then bif !(Bm (Ah v5 1 (nI v5.size))).2.2 then X1 (false,[],()) else bif !Ap v5 0==1 then bif !(Bm (bif (Bm (Ah v5 1 (nI v5.size))).2.2 then (Bm (Ah v5 1 (nI v5.size))).2.1 else Ad)).2.2 then X1 (false,[],()) else bif decide ((r0.length + [((Bm (Ah v5 1 (nI v5.size))).1,(Bm (bif (Bm (Ah v5 1 (nI v5.size))).2.2 then (Bm (Ah v5 1 (nI v5.size))).2.1 else Ad)).1,Ap v5 0==1,())].length) * 40≤140737488355328) then NX (v0,bif (Bm (bif (Bm (Ah v5 1 (nI v5.size))).2.2 then (Bm (Ah v5 1 (nI v5.size))).2.1 else Ad)).2.2 then (Bm (bif (Bm (Ah v5 1 (nI v5.size))).2.2 then (Bm (Ah v5 1 (nI v5.size))).2.1 else Ad)).2.1 else Ad,r0++[((Bm (Ah v5 1 (nI v5.size))).1,(Bm (bif (Bm (Ah v5 1 (nI v5.size))).2.2 then (Bm (Ah v5 1 (nI v5.size))).2.1 else Ad)).1,Ap v5 0==1,())],()) else none else bif decide ((r0.length + [((Bm (Ah v5 1 (nI v5.size))).1,Ad,Ap v5 0==1,())].length) * 40≤140737488355328) then NX (v0,bif (Bm (Ah v5 1 (nI v5.size))).2.2 then (Bm (Ah v5 1 (nI v5.size))).2.1 else Ad,r0++[((Bm (Ah v5 1 (nI v5.size))).1,Ad,Ap v5 0==1,())],()) else none else none else none else X2 (v0,r0,()) else X2 (v0,r0,())
def Im:Nat→(Aa)→(Aa)→(List Be) →  Option (((Aa)×(List Be)×Unit) ⊕ ((Bool)×(List Be)×Unit))
 | 0,_,_,_=>none
 | m + 1,v0,v5,r0=>Ov  (fun d=>Im m d.1 d.2.1 d.2.2.1) (fun d=>some (.inl (d))) (fun d=>some (.inr (d))) v0 v5 r0
def Ar8 (d:(Aa)×(Aa)×(List Be)×Unit):Option (((Aa)×(List Be)×Unit) ⊕ ((Bool)×(List Be)×Unit)):=(Ac (Ac (Ac Ae))) (Im ((Ac (Ac (Ac Ae))) Tp d)) d
def Xd (a0:Aa):Option ((((List Be)×(Bool)×Unit)×(Unit))):=
 ((fun d=>Im (Tp d.1 d.2.1 d.2.2.1) d.1 d.2.1 d.2.2.1) (a0,a0,[],())).bind fun val=>Bx (fun d=>bif nI (ByteArray.size d.1)==0 then some (([],false,()),()) else bif !(Ew d.2.1).toList==ByteArray.toList d.1 then some (([],false,()),()) else some ((d.2.1,true,()),())) (fun d=>some ((d.2.1,d.1,()),())) val
def Bzb (s0:Aa) (o:Option (List Be×Aa)):(Aa×List Be×Unit) ⊕ (Bool×List Be×Unit):=match o with
 | some (b,t)=>.inl (s0,b,())
 | none=>.inr (false,[],())
theorem Ba7 (s0:Aa):∀ (f m:Nat) (r:List Be) (s:Aa),r.length + f=22→f≤m→1≤f→Im m s0 s r=some (Bzb s0 (Uq false f r s))
 | 0,_,_,_,_,_,h=>by omega
 | f + 1,0,_,_,_,h,_=>by omega
 | f + 1,m + 1,r,s,hf,hm,_=>by
  simp only [Im,Ov,Uq]
  by_cases hs:s.size > 0
  ·rw [Ag (show nI s.size > 0 by simp only [nI]; omega),Ag hs]
   by_cases hr:r.length≤20
   ·rw [Ag (show nI r.length≤20 by simp only [nI]; omega),Ag hr,Ag (show 1≤nI s.size by simp only [nI]; omega)]
    unfold A3g
    generalize Bm (Ah s 1 (nI s.size))=p
    simp only [Et,Bool.false_and,cond_true,Bool.and_self,cond_false]
    rw [Ag (show (r.length + 1) * 40≤140737488355328 by omega)]
    obtain ⟨k,t,o⟩:=p
    cases o
    ·rfl
    ·by_cases h2:Ap s 0=1
     ·rw [h2]
      exact Ba7 s0 f m (r++[(k,Ad,true,())]) t (by rw [Ef,Et]; omega) (by omega) (by omega)
     ·have h3:(Ap s 0==1)=false:=beq_eq_false_iff_ne.2 h2
      rw [h3]
      simp only [Bool.not_true,Bool.not_false,cond_false,cond_true]
      generalize Bm t=q
      obtain ⟨v,u,o⟩:=q
      cases o
      ·rfl
      ·exact Ba7 s0 f m (r++[(k,v,false,())]) u (by rw [Ef,Et]; omega) (by omega) (by omega)
   ·rw [Bd (show ¬ nI r.length≤20 by simp only [nI]; omega),Bd hr]
    rfl
  ·rw [Bd (show ¬ nI s.size > 0 by simp only [nI]; omega),Bd hs]
   rfl
theorem Ay6 (a0:Aa):Xd a0=some (((F8 a0).1,(F8 a0).2,()),(())):=by
 unfold Xd F8 A8l
 have hL:=Ba7 a0 22 22 [] a0 rfl (Nat.le_refl _) (by omega)
 refine bi_ hL ?_
 cases Uq false 22 [] a0 with
 | none=>rfl
 | some bt=>
  obtain ⟨b,t⟩:=bt
  show (bif nI a0.size==0 then _ else (bif !(ByteArray.toList (Bh b)==ByteArray.toList a0) then _ else _))=_
  have e:(nI a0.size==0)=(a0.size==0):=by
   by_cases q:a0.size=0
   ·rw [q]; rfl
   ·rw [beq_eq_false_iff_ne.2 q,beq_eq_false_iff_ne.2 (show nI a0.size≠0 by simp only [nI]; omega)]
  rw [e]
  simp only
  cases (a0.size==0)<;>cases (ByteArray.toList (Bh b)==ByteArray.toList a0)<;>rfl
def m9 {R:Type} (k:Kt R):=(Bx (I3 (Ib 4) (.exit 0) 2 k) (I3 (Ib 4) .ret 1 k))
def Aie {R:Type}:Lt R Ib:=(Ea (pat:=Ib) 4 (fun d k=>(Ar8 d).bind (m9 k)) Hn)
theorem Aem:A2 Tryz.prog Ael:=A5 ⟨Rr,A5f,trivial⟩
theorem Ar9 {R:Type}:A4 Tryz.prog R 70 0 Ib Aie m8:=
 B8 (cfg:=⟨Ael,0,70,Ib⟩) 4 [] (fun NX X d=>(Ac (Ac (Ac Ae))) (Ov  NX (fun e=>X (.inl (e))) (fun e=>X (.inr (e)))) d) (fun m d=>(Ac (Ac (Ac Ae))) (Im m) d) (fun d=>(Ac (Ac (Ac Ae))) Tp d) m9 Aem trivial (fun f NX d=>by simp only [u4,Ac,Ae]; unfold Ov; simp only [nb])
theorem Ay7:Bs Tryz.prog 190 Aek:=
 A3 (pat:=Ib) [m8] Aie Aem ⟨Ar9,trivial⟩ Tryz.func190 (de:=fun x=>Xd x.1) (fun x r h=>(Ay6 x.1).trans h) fun _=>by kernel_rfl
def T8 (es:List Aa):Option (B5×Bool):=if es.length≤1073741824 then some (Bpc es) else none
def Ba8:Gc:=⟨[.rd (.sl .str)],[none],[.own 157 Ax,.rd .bool],[some 1,none]⟩
def Apg:SD:=⟨Ba8,fun x=>(T8 x.1).bind fun r=>some ((r.1.1,r.2,()),(()))⟩
def Aph:Tb:=tb [(123,Af3),(190,Aek)]
def Ms:Nat→C2×(Nat→C2):=F0 [(4,⟨[.sl 0 0 .str,.boxRow 2 0 157 Ax,.boxRow 4 0 157 Ax],[(0,.lf (.d (.sl .str))),(2,.lf (.ptr 0 0)),(4,.lf (.ptr 1 0)),(5,.lf (.d tI))],[.box 31 [.row 2],.box 31 [.row 3],.row 157 Ax,.row 157 Ax]⟩,[(2,⟨[.boxRow 2 0 157 Ax,.boxRow 4 0 157 Ax],[(2,.lf (.ptr 0 0)),(4,.lf (.ptr 1 0))],[.box 31 [.row 2],.box 31 [.row 3],.row 157 Ax,.row 157 Ax]⟩),(1,⟨[.boxRow 2 0 157 Ax],[(2,.lf (.ptr 0 0)),(3,.lf (.d .bool))],[.box 31 [.row 1],.row 157 Ax]⟩)])]
def Aif:Code:=(At (Bb Tryz.f110)).getD 0 .skip
def Pw (v0:List Aa) (v5:Int) (r2 r3:List A1):Nat:=((v0.length:Int) - v5).toNat + 1
def Px {R:Type}  (NX:((List Aa)×(Int)×(List A1)×(List A1)×Unit)→Option R) (X2:((List A1)×(List A1)×Unit)→Option R) (X1:((Bool)×(List A1)×Unit)→Option R) (v0:List Aa) (v5:Int) (r2:List A1) (r3:List A1):Option R:=
 bif decide (v5 < nI v0.length) then bif decide (0≤v5) then bif decide (v5 < nI v0.length) then bif !(F8 (v0.getD v5.toNat (Ad))).2 then X1 (false,[],()) else bif (G7 (r3,()) (F8 (v0.getD v5.toNat (Ad))).1).2 != 0 then X1 (false,[],()) else NX (v0,IntKind.i64.wrap (v5 + 1),r2,(G7 (r3,()) (F8 (v0.getD v5.toNat (Ad))).1).1) else none else none else X2 (r2,r3,())
def F9:Nat→(List Aa)→(Int)→(List A1)→(List A1) →  Option (((List A1)×(List A1)×Unit) ⊕ ((Bool)×(List A1)×Unit))
 | 0,_,_,_,_=>none
 | m + 1,v0,v5,r2,r3=>Px  (fun d=>F9 m d.1 d.2.1 d.2.2.1 d.2.2.2.1) (fun d=>some (.inl (d))) (fun d=>some (.inr (d))) v0 v5 r2 r3
def A2k (d:(List Aa)×(Int)×(List A1)×(List A1)×Unit):Option (((List A1)×(List A1)×Unit) ⊕ ((Bool)×(List A1)×Unit)):=(u4 Ae) (F9 ((u4 Ae) Pw d)) d
def Ab9 (a0:List Aa):Option ((((List A1)×(Bool)×Unit)×(Unit))):=
 ((fun d=>F9 (Pw d.1 d.2.1 d.2.2.1 d.2.2.2.1) d.1 d.2.1 d.2.2.1 d.2.2.2.1) (a0,0,[],[],())).bind fun val=>Bx (fun d=>some ((d.2.1,true,()),())) (fun d=>some ((d.2.1,d.1,()),())) val
theorem Ba9 (a0:List Aa) r (h:T8 a0=some r):Ab9 a0=some ((r.1.1,r.2,()),(())):=by
 unfold T8 at h
 split at h
 rotate_left
 ·cases h
 rename_i hlen
 cases h
 unfold Ab9 Bpc
 have hL:=A0z (xs:=a0) (g:=fun m i r=>F9 m a0 i [] r) (ok:=fun r=>.inl ([],r,())) (bad:=.inr (false,[],())) (fun m i r hi=>by
   show F9 (m + 1) a0 i [] r=_
   simp only [F9,Px]
   rw [Xv hi,G9,wI (show i < 4611686018427387904 by omega),En]
   simp only [cond_true,F8,G7,Bqv]
   rfl) (fun m r=>by
   show F9 (m + 1) a0 (a0.length:Int) [] r=_
   simp only [F9,Px]
   rw [Od]
   rfl) (Pw a0 0 [] []) 0 [] (by omega) (by simp [Pw,nI])
 rw [List.drop_zero] at hL
 refine Qe hL ?_
 show Bx _ _ (match E8 a0 Ut with | some st=>_ | none=>_)=_
 cases E8 a0 Ut<;>rfl
def Aig {R:Type} (k:Kt R):=(Bx (I3 (Ms 4) (.exit 0) 2 k) (I3 (Ms 4) .ret 1 k))
def Atj {R:Type}:Lt R Ms:=(Ea (pat:=Ms) 4 (fun d k=>(A2k d).bind (Aig k)) Hn)
theorem Api:A2 Tryz.prog Aph:=A5 ⟨Ati,Ay7,trivial⟩
theorem A2l {R:Type}:A4 Tryz.prog R 39 0 Ms Atj Aif:=
 B8 (cfg:=⟨Aph,0,39,Ms⟩) 4 [] (fun NX X d=>(u4 Ae) (Px  NX (fun e=>X (.inl (e))) (fun e=>X (.inr (e)))) d) (fun m d=>(u4 Ae) (F9 m) d) (fun d=>(u4 Ae) Pw d) Aig Api trivial (fun f NX d=>by simp only [u4,Ac,Ae]; unfold Px; simp only [nb])
theorem Bba:Bs Tryz.prog 110 Apg:=
 A3 (pat:=Ms) [Aif] Atj Api ⟨A2l,trivial⟩ Tryz.func110 (de:=fun x=>Ab9 x.1) (fun x r h=>F1 (Ba9 x.1) h) fun _=>by kernel_rfl
def Ay8 (a:Int) (d:Aa):Dl:=(false,a,d,())
def Bdh:Gc:=⟨[.rd tI,.rd .str],[none,none],[.rd Fe],[some 3]⟩
def Zm:SD:=⟨Bdh,fun x=>some (((Ay8 x.1 x.2.1),()),(()))⟩
def Atk (a0:Int) (a1:Aa):Option (((Dl×Unit)×(Unit))):=
 some (((false,a0,a1,()),()),())
theorem Bdi (a0:Int) (a1:Aa):Atk a0 a1=some (((Ay8 a0 a1),()),(())):=rfl
theorem Af5:Bs Tryz.prog 112 Zm:=
 A3 (pat:=Dp) [] Hn (A5 (l:=[]) trivial) trivial Tryz.func112 (de:=fun x=>Atk x.1 x.2.1) (fun x r h=>(Bdi x.1 x.2.1).trans h) fun _=>by kernel_rfl
def Ve (e:Aa) (life first w:Int):Option (List Aa):=if e.size≤1048576 then some (c7 e life first w) else none
def Rf (v1 v2 v3:Int) (v10:List Aa) (v11:Int) (r0:List Aa):Nat:=(nI v10.length - v11).toNat + 1
def Blm:Gc:=⟨[.rd .str,.rd tI,.rd tI,.rd tI],[none,none,none,none],[.own 9 .str],[none]⟩
def Apj:SD:=⟨Blm,fun x=>(Ve x.1 x.2.1 x.2.2.1 x.2.2.2.1).bind fun r=>some ((r,()),(()))⟩
def A4c:Tb:=tb [(65,Du),(72,Ln),(200,e9)]
def Vw:Nat→C2×(Nat→C2):=F0 [(9,⟨[.row 9 0 9 .str,.sl 10 0 .str],[(1,.lf (.d tI)),(2,.lf (.d tI)),(3,.lf (.d tI)),(9,.lf (.row 0)),(10,.lf (.d (.sl .str))),(11,.lf (.d tI))],[.row 9 .str]⟩,[(2,⟨[.row 9 0 9 .str],[(9,.lf (.row 0))],[.row 9 .str]⟩)])]
def Atl:Code:=(At (Bb Tryz.f124)).getD 0 .skip
def T9 {R:Type}  (NX:((Int)×(Int)×(Int)×(List Aa)×(Int)×(List Aa)×Unit)→Option R) (X2:((List Aa)×Unit)→Option R) (v1:Int) (v2:Int) (v3:Int) (v10:List Aa) (v11:Int) (r0:List Aa):Option R:=
 bif decide (v11 < nI v10.length) then bif v11==IntKind.i64.wrap (nI v10.length - 1) then bif decide (0≤v11) then bif decide (v11 < nI v10.length) then bif decide ((r0.length + [Dv (2,v1,IntKind.i64.wrap (v2 + v11),v10.getD v11.toNat (Ad),()) v3].length) * 16≤140737488355328) then NX (v1,v2,v3,v10,IntKind.i64.wrap (v11 + 1),r0++[Dv (2,v1,IntKind.i64.wrap (v2 + v11),v10.getD v11.toNat (Ad),()) v3],()) else none else none else none else bif decide (0≤v11) then bif decide (v11 < nI v10.length) then bif decide ((r0.length + [Dv (1,v1,IntKind.i64.wrap (v2 + v11),v10.getD v11.toNat (Ad),()) v3].length) * 16≤140737488355328) then NX (v1,v2,v3,v10,IntKind.i64.wrap (v11 + 1),r0++[Dv (1,v1,IntKind.i64.wrap (v2 + v11),v10.getD v11.toNat (Ad),()) v3],()) else none else none else none else X2 (r0,())
def Hw:Nat→(Int)→(Int)→(Int)→(List Aa)→(Int)→(List Aa) →  Option ((List Aa)×Unit)
 | 0,_,_,_,_,_,_=>none
 | m + 1,v1,v2,v3,v10,v11,r0=>T9  (fun d=>Hw m d.1 d.2.1 d.2.2.1 d.2.2.2.1 d.2.2.2.2.1 d.2.2.2.2.2.1) (fun d=>some (d)) v1 v2 v3 v10 v11 r0
def Bdj (d:(Int)×(Int)×(Int)×(List Aa)×(Int)×(List Aa)×Unit):Option ((List Aa)×Unit):=(u4 (Ac (Ac Ae))) (Hw ((u4 (Ac (Ac Ae))) Rf d)) d
def Apk (a0:Aa) (a1 a2 a3:Int):Option ((((List Aa)×Unit)×(Unit))):=
 (Cp a3).bind fun val=>bif !val.1.1 then some (([],()),()) else bif decide (a1 < 1) then some (([],()),()) else bif decide (a1 > 60000) then some (([],()),()) else bif decide (a2 < 1) then some (([],()),()) else bif decide (a2 > 1000000000) then some (([],()),()) else ((Me a0 a3).bind fun val=>some ((val,()),())).bind fun val=>bif decide (nI (List.length val.1.1) > IntKind.i64.wrap (IntKind.i64.wrap (1000000000 - a2) + 1)) then some (([],()),()) else ((fun d=>Hw (Rf d.1 d.2.1 d.2.2.1 d.2.2.2.1 d.2.2.2.2.1 d.2.2.2.2.2.1) d.1 d.2.1 d.2.2.1 d.2.2.2.1 d.2.2.2.2.1 d.2.2.2.2.2.1) (a1,a2,a3,val.1.1,0,[],())).bind fun val=>some (val,())
theorem Bln (a0:Aa) (a1 a2 a3:Int) r (h:Ve a0 a1 a2 a3=some r):Apk a0 a1 a2 a3=some ((r,()),(())):=by
 unfold Ve at h
 split at h
 rotate_left
 ·cases h
 rename_i hc
 cases h
 unfold Apk c7
 refine bi_ (wid a3) ?_
 rw [A8q a1]
 show (bif !Bw a3 1 8 then _ else (bif Bw a1 1 60000 then _ else _))=_
 cases hw:Bw a3 1 8 with
 | false=>rfl
 | true=>
  obtain ⟨k1,k2⟩:=Cv hw
  have hp:=Aay (s:=a0) hw
  have hP:Ge a0.size a3=((Ao a0 a3).length:Int):=by unfold Ge; rw [hw]; exact hp.symm
  have hlen:(Ao a0 a3).length≤a0.size + 1:=Anl _ _ _
  have h1:1≤(Ao a0 a3).length:=by
   have:(1:Int)≤((Ao a0 a3).length:Int):=by rw [hp]; split<;>omega
   omega
  have n1:Me a0 a3=some (Ao a0 a3):=if_pos ⟨by omega,k1,k2⟩
  rw [hP]
  cases hl:Bw a1 1 60000 with
  | false=>rfl
  | true=>
   by_cases q1:a2 < 1
   ·rw [Ag q1,Bd (show ¬ 1≤a2 by omega)]; rfl
   ·rw [Bd q1,Ag (show 1≤a2 by omega)]
    by_cases q0:a2 > 1000000000
    ·rw [Ag q0,Bd (show ¬ a2≤1000000000 - ((Ao a0 a3).length:Int) + 1 by omega)]; rfl
    ·rw [Bd q0]
     refine bi_ (bi_ n1 rfl) ?_
     show (bif decide (nI (Ao a0 a3).length > IntKind.i64.wrap (IntKind.i64.wrap (1000000000 - a2) + 1)) then _ else (Option.bind (Hw (Rf a1 a2 a3 (Ao a0 a3) 0 []) a1 a2 a3 (Ao a0 a3) 0 []) _))=_
     rw [Aj (n:=1000000000 - a2) (by omega) (by omega),Aj (n:=1000000000 - a2 + 1) (by omega) (by omega)]
     simp only [nI]
     by_cases q2:a2 > 1000000000 - ((Ao a0 a3).length:Int) + 1
     ·rw [Ag (show ((Ao a0 a3).length:Int) > 1000000000 - a2 + 1 by omega),Bd (show ¬ a2≤1000000000 - ((Ao a0 a3).length:Int) + 1 by omega)]; rfl
     ·rw [Bd (show ¬ ((Ao a0 a3).length:Int) > 1000000000 - a2 + 1 by omega),Ag (show a2≤1000000000 - ((Ao a0 a3).length:Int) + 1 by omega)]
      generalize Ao a0 a3=P at *
      have hL:=Aq9 P.length (fun i r=>r.length=i) (fun i r=>r++[Cc ((if i + 1=P.length then 2 else 1),a1,a2 + (i:Int),P.getD i z0,()) a3]) (g:=fun m i r=>Hw m a1 a2 a3 P i r) (ok:=fun r=>(r,())) (fun m i r hi hr=>by
       show Hw (m + 1) a1 a2 a3 P i r=_
       simp only [Hw,T9]
       rw [Xv hi,G9,wI (show i < 4611686018427387904 by omega),En,Aj (n:=a2 + (i:Int)) (by omega) (by omega),Aj (n:=nI P.length - 1) (by simp only [nI]; omega) (by simp only [nI]; omega),Et,Et,Ag (show (r.length + 1) * 16≤140737488355328 by omega)]
       by_cases e:i + 1=P.length
       ·rw [show ((i:Int)==nI P.length - 1)=true from beq_iff_eq.2 (by simp only [nI]; omega),if_pos e]; rfl
       ·rw [show ((i:Int)==nI P.length - 1)=false from beq_eq_false_iff_ne.2 (by simp only [nI]; omega),if_neg e]; rfl) (fun m r _=>by
       show Hw (m + 1) a1 a2 a3 P (P.length:Int) r=_
       simp only [Hw,T9]
       rw [Od]
       rfl) (fun i r hi hr=>by rw [Ef,Et,hr]) P.length (Rf a1 a2 a3 P 0 []) 0 [] (by omega) (by simp only [Rf,nI]; omega) rfl
      rw [Bfb (fun i=>Cc ((if i + 1=P.length then 2 else 1),a1,a2 + (i:Int),P.getD i z0,()) a3),List.nil_append,← Zt] at hL
      exact bi_ hL rfl
def Atm {R:Type} (k:Kt R):=(I3 (Vw 9) (.exit 0) 2 k)
def Bbb {R:Type}:Lt R Vw:=(Ea (pat:=Vw) 9 (fun d k=>(Bdj d).bind (Atm k)) Hn)
theorem A4d:A2 Tryz.prog A4c:=A5 ⟨Er,Pi,Aky,trivial⟩
theorem Bdk {R:Type}:A4 Tryz.prog R 71 0 Vw Bbb Atl:=
 B8 (cfg:=⟨A4c,0,71,Vw⟩) 9 [] (fun NX X d=>(u4 (Ac (Ac Ae))) (T9  NX X) d) (fun m d=>(u4 (Ac (Ac Ae))) (Hw m) d) (fun d=>(u4 (Ac (Ac Ae))) Rf d) Atm A4d trivial (fun f NX d=>by simp only [u4,Ac,Ae]; unfold T9; simp only [nb])
theorem A4e:Bs Tryz.prog 124 Apj:=
 A3 (pat:=Vw) [Atl] Bbb A4d ⟨Bdk,trivial⟩ Tryz.func124 (de:=fun x=>Apk x.1 x.2.1 x.2.2.1 x.2.2.2.1) (fun x r h=>F1 (Bln x.1 x.2.1 x.2.2.1 x.2.2.2.1) h) fun _=>by kernel_rfl
def Oh (s:E5):Option R0:=if A80 s then some (Wa s) else none
def Bbc:Gc:=⟨[.rd Yf],[some 10],[.rd tI,.rd tI,.rd tI,.rd tI,.rd tI,.rd tI,.rd tI,.rd tI,.rd tI,.rd tI,.own 157 Ax,.own 142 Fe],[some 12]⟩
def Aca:SD:=⟨Bbc,fun x=>(Oh x.1).bind fun r=>some ((r.1,r.2.1.1,r.2.1.2.1,r.2.1.2.2.1,r.2.1.2.2.2.1.1,r.2.1.2.2.2.1.2.1,r.2.1.2.2.2.1.2.2.1,r.2.1.2.2.2.1.2.2.2.1,r.2.1.2.2.2.2.1,r.2.1.2.2.2.2.2.1,r.2.1.2.2.2.2.2.2.1.1,r.2.2.1,()),(()))⟩
def Acb:Tb:=tb [(40,Pb),(72,Ln),(77,Sj),(109,Xc),(112,Zm),(124,Apj),(125,Ns),(126,Yv),(191,Y6)]
def G5:Nat→C2×(Nat→C2):=F0 [(11,⟨[.row 6 0 142 Fe,.sl 7 0 (.sl Do),.boxSl 1 9 Ax,.boxRow 2 10 157 Ax,.boxRow 2 11 142 Fe],[(1,.lf (.ptr 0 0)),(2,.lf (.ptr 1 0)),(4,.lf (.ptr 2 0)),(5,.lf (.d tI)),(6,.lf (.row 3)),(7,.lf (.d (.sl (.sl Do)))),(8,.lf (.d tI)),(9,.lf (.d tI))],[.box 33 [.d Yf],.box 68 [.d tI,.d tI,.d tI,.d tI,.d tI,.d tI,.d tI,.d tI,.d tI,.d tI,.row 4,.row 5],.box 28 [.d yRt],.row 142 Fe,.row 157 Ax,.row 142 Fe]⟩,[(2,⟨[.row 6 0 142 Fe,.boxSl 1 9 Ax,.boxRow 2 10 157 Ax,.boxRow 2 11 142 Fe],[(1,.lf (.ptr 0 0)),(2,.lf (.ptr 1 0)),(4,.lf (.ptr 2 0)),(6,.lf (.row 3)),(8,.lf (.d tI))],[.box 33 [.d Yf],.box 68 [.d tI,.d tI,.d tI,.d tI,.d tI,.d tI,.d tI,.d tI,.d tI,.d tI,.row 4,.row 5],.box 28 [.d yRt],.row 142 Fe,.row 157 Ax,.row 142 Fe]⟩)]),(15,⟨[.row 6 0 142 Fe,.sl 7 0 (.sl Do),.sl 10 0 .str,.boxSl 1 9 Ax,.boxRow 2 10 157 Ax,.boxRow 2 11 142 Fe],[(1,.lf (.ptr 0 0)),(2,.lf (.ptr 1 0)),(4,.lf (.ptr 2 0)),(5,.lf (.d tI)),(6,.lf (.row 3)),(7,.lf (.d (.sl (.sl Do)))),(8,.lf (.d tI)),(9,.lf (.d tI)),(10,.lf (.d (.sl .str))),(11,.lf (.d tI))],[.box 33 [.d Yf],.box 68 [.d tI,.d tI,.d tI,.d tI,.d tI,.d tI,.d tI,.d tI,.d tI,.d tI,.row 4,.row 5],.box 28 [.d yRt],.row 142 Fe,.row 157 Ax,.row 142 Fe]⟩,[(4,⟨[.row 6 0 142 Fe,.sl 7 0 (.sl Do),.boxSl 1 9 Ax,.boxRow 2 10 157 Ax,.boxRow 2 11 142 Fe],[(1,.lf (.ptr 0 0)),(2,.lf (.ptr 1 0)),(4,.lf (.ptr 2 0)),(5,.lf (.d tI)),(6,.lf (.row 3)),(7,.lf (.d (.sl (.sl Do)))),(8,.lf (.d tI)),(9,.lf (.d tI))],[.box 33 [.d Yf],.box 68 [.d tI,.d tI,.d tI,.d tI,.d tI,.d tI,.d tI,.d tI,.d tI,.d tI,.row 4,.row 5],.box 28 [.d yRt],.row 142 Fe,.row 157 Ax,.row 142 Fe]⟩)])]
def Xe:Code:=(At (Bb Tryz.f111)).getD 0 .skip
def Aen:Code:=(At Xe).getD 0 .skip
def Ny (v5:Int) (v7:List (List Be)) (v8 v9:Int) (v10:List Aa) (v11:Int) (b0:E5) (b1_0 b1_1:Int) (b1_2 b1_3:Int) (b1_4 b1_5:Int) (b1_6 b1_7:Int) (b1_8 b1_9:Int) (b2:Rt) (r3:List Dl) (r4:List A1) (r5:List Dl):Nat:=((v10.length:Int) - v11).toNat + 1
def Nz {R:Type}  (NX:((Int)×(List (List Be))×(Int)×(Int)×(List Aa)×(Int)×E5×(Int)×(Int)×(Int)×(Int)×(Int)×(Int)×(Int)×(Int)×(Int)×(Int)×Rt×(List Dl)×(List A1)×(List Dl)×Unit)→Option R) (X4:((Int)×(List (List Be))×(Int)×(Int)×E5×(Int)×(Int)×(Int)×(Int)×(Int)×(Int)×(Int)×(Int)×(Int)×(Int)×Rt×(List Dl)×(List A1)×(List Dl)×Unit)→Option R) (v5:Int) (v7:List (List Be)) (v8:Int) (v9:Int) (v10:List Aa) (v11:Int) (b0:E5) (b1_0:Int) (b1_1:Int) (b1_2:Int) (b1_3:Int) (b1_4:Int) (b1_5:Int) (b1_6:Int) (b1_7:Int) (b1_8:Int) (b1_9:Int) (b2:Rt) (r3:List Dl) (r4:List A1) (r5:List Dl):Option R:=
 bif decide (v11 < nI v10.length) then bif decide (0≤v11) then bif decide (v11 < nI v10.length) then bif decide ((r3.length + [(false,IntKind.i64.wrap (v5 + v8),v10.getD v11.toNat (Ad),())].length) * 32≤140737488355328) then NX (v5,v7,IntKind.i64.wrap (v8 + 1),v9,v10,IntKind.i64.wrap (v11 + 1),b0,b1_0,b1_1,b1_2,b1_3,b1_4,b1_5,b1_6,b1_7,b1_8,b1_9,b2,r3++[(false,IntKind.i64.wrap (v5 + v8),v10.getD v11.toNat (Ad),())],r4,r5,()) else none else none else none else X4 (v5,v7,v8,v9,b0,b1_0,b1_1,b1_2,b1_3,b1_4,b1_5,b1_6,b1_7,b1_8,b1_9,b2,r3,r4,r5,())
def E6:Nat→(Int)→(List (List Be))→(Int)→(Int)→(List Aa)→(Int)→E5→(Int)→(Int)→(Int)→(Int)→(Int)→(Int)→(Int)→(Int)→(Int)→(Int)→Rt→(List Dl)→(List A1)→(List Dl) →  Option ((Int)×(List (List Be))×(Int)×(Int)×E5×(Int)×(Int)×(Int)×(Int)×(Int)×(Int)×(Int)×(Int)×(Int)×(Int)×Rt×(List Dl)×(List A1)×(List Dl)×Unit)
 | 0,_,_,_,_,_,_,_,_,_,_,_,_,_,_,_,_,_,_,_,_,_=>none
 | m + 1,v5,v7,v8,v9,v10,v11,b0,b1_0,b1_1,b1_2,b1_3,b1_4,b1_5,b1_6,b1_7,b1_8,b1_9,b2,r3,r4,r5=>Nz  (fun d=>E6 m d.1 d.2.1 d.2.2.1 d.2.2.2.1 d.2.2.2.2.1 d.2.2.2.2.2.1 d.2.2.2.2.2.2.1 d.2.2.2.2.2.2.2.1 d.2.2.2.2.2.2.2.2.1 d.2.2.2.2.2.2.2.2.2.1 d.2.2.2.2.2.2.2.2.2.2.1 d.2.2.2.2.2.2.2.2.2.2.2.1 d.2.2.2.2.2.2.2.2.2.2.2.2.1 d.2.2.2.2.2.2.2.2.2.2.2.2.2.1 d.2.2.2.2.2.2.2.2.2.2.2.2.2.2.1 d.2.2.2.2.2.2.2.2.2.2.2.2.2.2.2.1 d.2.2.2.2.2.2.2.2.2.2.2.2.2.2.2.2.1 d.2.2.2.2.2.2.2.2.2.2.2.2.2.2.2.2.2.1 d.2.2.2.2.2.2.2.2.2.2.2.2.2.2.2.2.2.2.1 d.2.2.2.2.2.2.2.2.2.2.2.2.2.2.2.2.2.2.2.1 d.2.2.2.2.2.2.2.2.2.2.2.2.2.2.2.2.2.2.2.2.1) (fun d=>some (d)) v5 v7 v8 v9 v10 v11 b0 b1_0 b1_1 b1_2 b1_3 b1_4 b1_5 b1_6 b1_7 b1_8 b1_9 b2 r3 r4 r5
def N0 (d:(Int)×(List (List Be))×(Int)×(Int)×(List Aa)×(Int)×E5×(Int)×(Int)×(Int)×(Int)×(Int)×(Int)×(Int)×(Int)×(Int)×(Int)×Rt×(List Dl)×(List A1)×(List Dl)×Unit):Option ((Int)×(List (List Be))×(Int)×(Int)×E5×(Int)×(Int)×(Int)×(Int)×(Int)×(Int)×(Int)×(Int)×(Int)×(Int)×Rt×(List Dl)×(List A1)×(List Dl)×Unit):=(u4 (u4 (u4 (u4 (u4 (Ac Ae)))))) (E6 ((u4 (u4 (u4 (u4 (u4 (Ac Ae)))))) Ny d)) d
def Kh (v5:Int) (v7:List (List Be)) (v8 v9:Int) (b0:E5) (b1_0 b1_1:Int) (b1_2 b1_3:Int) (b1_4 b1_5:Int) (b1_6 b1_7:Int) (b1_8 b1_9:Int) (b2:Rt) (r3:List Dl) (r4:List A1) (r5:List Dl):Nat:=((v7.length:Int) - v9).toNat + 1
def N1 {R:Type} (LO15:((Int)×(List (List Be))×(Int)×(Int)×(List Aa)×(Int)×E5×(Int)×(Int)×(Int)×(Int)×(Int)×(Int)×(Int)×(Int)×(Int)×(Int)×Rt×(List Dl)×(List A1)×(List Dl)×Unit)→Option ((Int)×(List (List Be))×(Int)×(Int)×E5×(Int)×(Int)×(Int)×(Int)×(Int)×(Int)×(Int)×(Int)×(Int)×(Int)×Rt×(List Dl)×(List A1)×(List Dl)×Unit)) (NX:((Int)×(List (List Be))×(Int)×(Int)×E5×(Int)×(Int)×(Int)×(Int)×(Int)×(Int)×(Int)×(Int)×(Int)×(Int)×Rt×(List Dl)×(List A1)×(List Dl)×Unit)→Option R) (X2:((Int)×E5×(Int)×(Int)×(Int)×(Int)×(Int)×(Int)×(Int)×(Int)×(Int)×(Int)×Rt×(List Dl)×(List A1)×(List Dl)×Unit)→Option R) (v5:Int) (v7:List (List Be)) (v8 v9:Int) (b0:E5) (b1_0 b1_1:Int) (b1_2 b1_3:Int) (b1_4 b1_5:Int) (b1_6 b1_7:Int) (b1_8 b1_9:Int) (b2:Rt) (r3:List Dl) (r4:List A1) (r5:List Dl):Option R:=
 bif decide (v9 < nI v7.length) then bif decide (0≤v9) then bif decide (v9 < nI v7.length) then ((Ve (Ew (v7.getD v9.toNat [])) b0.2.2.1 (IntKind.i64.wrap (b2.2.2.1 + v8)) b0.1).bind fun val=>some ((val,()),())).bind fun val=>(LO15 (v5,v7,v8,v9,val.1.1,0,b0,b1_0,b1_1,b1_2,b1_3,b1_4,b1_5,b1_6,b1_7,b1_8,b1_9,b2,r3,r4,r5,())).bind fun val=>NX (val.1,val.2.1,val.2.2.1,IntKind.i64.wrap (val.2.2.2.1 + 1),val.2.2.2.2) else none else none else X2 (v8,b0,b1_0,b1_1,b1_2,b1_3,b1_4,b1_5,b1_6,b1_7,b1_8,b1_9,b2,r3,r4,r5,())
def D7:Nat→(Int)→(List (List Be))→(Int)→(Int)→E5→(Int)→(Int)→(Int)→(Int)→(Int)→(Int)→(Int)→(Int)→(Int)→(Int)→Rt→(List Dl)→(List A1)→(List Dl) →  Option ((Int)×E5×(Int)×(Int)×(Int)×(Int)×(Int)×(Int)×(Int)×(Int)×(Int)×(Int)×Rt×(List Dl)×(List A1)×(List Dl)×Unit)
 | 0,_,_,_,_,_,_,_,_,_,_,_,_,_,_,_,_,_,_,_=>none
 | m + 1,v5,v7,v8,v9,b0,b1_0,b1_1,b1_2,b1_3,b1_4,b1_5,b1_6,b1_7,b1_8,b1_9,b2,r3,r4,r5=>N1 N0 (fun d=>D7 m d.1 d.2.1 d.2.2.1 d.2.2.2.1 d.2.2.2.2.1 d.2.2.2.2.2.1 d.2.2.2.2.2.2.1 d.2.2.2.2.2.2.2.1 d.2.2.2.2.2.2.2.2.1 d.2.2.2.2.2.2.2.2.2.1 d.2.2.2.2.2.2.2.2.2.2.1 d.2.2.2.2.2.2.2.2.2.2.2.1 d.2.2.2.2.2.2.2.2.2.2.2.2.1 d.2.2.2.2.2.2.2.2.2.2.2.2.2.1 d.2.2.2.2.2.2.2.2.2.2.2.2.2.2.1 d.2.2.2.2.2.2.2.2.2.2.2.2.2.2.2.1 d.2.2.2.2.2.2.2.2.2.2.2.2.2.2.2.2.1 d.2.2.2.2.2.2.2.2.2.2.2.2.2.2.2.2.2.1 d.2.2.2.2.2.2.2.2.2.2.2.2.2.2.2.2.2.2.1) (fun d=>some (d)) v5 v7 v8 v9 b0 b1_0 b1_1 b1_2 b1_3 b1_4 b1_5 b1_6 b1_7 b1_8 b1_9 b2 r3 r4 r5
def Ay9 (d:(Int)×(List (List Be))×(Int)×(Int)×E5×(Int)×(Int)×(Int)×(Int)×(Int)×(Int)×(Int)×(Int)×(Int)×(Int)×Rt×(List Dl)×(List A1)×(List Dl)×Unit):Option ((Int)×E5×(Int)×(Int)×(Int)×(Int)×(Int)×(Int)×(Int)×(Int)×(Int)×(Int)×Rt×(List Dl)×(List A1)×(List Dl)×Unit):=(u4 (u4 (u4 (u4 (Ac (Ac (Ac Ae))))))) (D7 ((u4 (u4 (u4 (u4 (Ac (Ac (Ac Ae))))))) Kh d)) d
def Acd (a0:E5):Option ((((Int)×(Int)×(Int)×(Int)×(Int)×(Int)×(Int)×(Int)×(Int)×(Int)×(List A1)×(List Dl)×Unit)×(Unit))):=
 bif decide (IntKind.i64.wrap (a0.2.2.2.1.1 + 1) > 1000000000) then some ((4,0,0,0,0,0,0,0,0,0,[],[],()),()) else bif decide (IntKind.i64.wrap (a0.2.2.2.1.2.2.1 + A7 a0.2.1) > 999999000) then some ((4,0,0,0,0,0,0,0,0,0,[],[],()),()) else ((fun d=>D7 (Kh d.1 d.2.1 d.2.2.1 d.2.2.2.1 d.2.2.2.2.1 d.2.2.2.2.2.1 d.2.2.2.2.2.2.1 d.2.2.2.2.2.2.2.1 d.2.2.2.2.2.2.2.2.1 d.2.2.2.2.2.2.2.2.2.1 d.2.2.2.2.2.2.2.2.2.2.1 d.2.2.2.2.2.2.2.2.2.2.2.1 d.2.2.2.2.2.2.2.2.2.2.2.2.1 d.2.2.2.2.2.2.2.2.2.2.2.2.2.1 d.2.2.2.2.2.2.2.2.2.2.2.2.2.2.1 d.2.2.2.2.2.2.2.2.2.2.2.2.2.2.2.1 d.2.2.2.2.2.2.2.2.2.2.2.2.2.2.2.2.1 d.2.2.2.2.2.2.2.2.2.2.2.2.2.2.2.2.2.1 d.2.2.2.2.2.2.2.2.2.2.2.2.2.2.2.2.2.2.1) d.1 d.2.1 d.2.2.1 d.2.2.2.1 d.2.2.2.2.1 d.2.2.2.2.2.1 d.2.2.2.2.2.2.1 d.2.2.2.2.2.2.2.1 d.2.2.2.2.2.2.2.2.1 d.2.2.2.2.2.2.2.2.2.1 d.2.2.2.2.2.2.2.2.2.2.1 d.2.2.2.2.2.2.2.2.2.2.2.1 d.2.2.2.2.2.2.2.2.2.2.2.2.1 d.2.2.2.2.2.2.2.2.2.2.2.2.2.1 d.2.2.2.2.2.2.2.2.2.2.2.2.2.2.1 d.2.2.2.2.2.2.2.2.2.2.2.2.2.2.2.1 d.2.2.2.2.2.2.2.2.2.2.2.2.2.2.2.2.1 d.2.2.2.2.2.2.2.2.2.2.2.2.2.2.2.2.2.1 d.2.2.2.2.2.2.2.2.2.2.2.2.2.2.2.2.2.2.1) (B0 a0.2.1 (IntKind.i64.wrap (1 - a0.2.2.2.1.2.1)),Na a0.2.2.2.2.2.2.1,1,0,a0,0,0,0,0,0,0,0,0,0,0,(IntKind.i64.wrap (a0.2.2.2.1.1 + 1),IntKind.i64.wrap (1 - a0.2.2.2.1.2.1),IntKind.i64.wrap (a0.2.2.2.1.2.2.1 + A7 a0.2.1),a0.2.2.1,()),[(false,B0 a0.2.1 (IntKind.i64.wrap (1 - a0.2.2.2.1.2.1)),Dv (3,a0.2.2.1,IntKind.i64.wrap (a0.2.2.2.1.2.2.1 + A7 a0.2.1),Ad,()) a0.1,())],[],[],())).bind fun val=>bif decide ((val.2.2.2.2.2.2.2.2.2.2.2.2.2.1.length + [(true,0,Ad,()),(false,Int.tmod val.2.2.2.2.2.2.2.2.2.2.2.2.1.1 2,Kn val.2.2.2.2.2.2.2.2.2.2.2.2.1 val.2.1.1,()),(true,0,Ad,())].length) * 32≤140737488355328) then ((E1 val.2.1.2.2.2.2.2.2.1).bind fun val=>some (val,())).bind fun val_1=>some ((0,val.2.1.1,val.2.1.2.1,val.2.1.2.2.1,val.2.2.2.2.2.2.2.2.2.2.2.2.1.1,val.2.2.2.2.2.2.2.2.2.2.2.2.1.2.1,val.2.2.2.2.2.2.2.2.2.2.2.2.1.2.2.1,val.2.2.2.2.2.2.2.2.2.2.2.2.1.2.2.2.1,val.1,0,val_1.1.1,val.2.2.2.2.2.2.2.2.2.2.2.2.2.1++[(true,0,Ad,()),(false,Int.tmod val.2.2.2.2.2.2.2.2.2.2.2.2.1.1 2,Kn val.2.2.2.2.2.2.2.2.2.2.2.2.1 val.2.1.1,()),(true,0,Ad,())],()),()) else none
theorem Blo (s:E5) (R:Rt) (S:List (List Be)) (v9:Int) (L0 P:List Aa) (hH:0≤R.2.1∧R.2.1≤1) (hL0:L0.length≤500000) (hP:P.length≤4001):
  E6 (Ny (Bn R.2.1 s.2.1) S (nI L0.length) v9 P 0 s 0 0 0 0 0 0 0 0 0 0 R (C7 (Bn R.2.1 s.2.1) L0) [] []) (Bn R.2.1 s.2.1) S (nI L0.length) v9 P 0 s 0 0 0 0 0 0 0 0 0 0 R (C7 (Bn R.2.1 s.2.1) L0) [] []=some (Bn R.2.1 s.2.1,S,nI (L0++P).length,v9,s,0,0,0,0,0,0,0,0,0,0,R,C7 (Bn R.2.1 s.2.1) (L0++P),[],[],()):=by
 have hm:=Arg (n:=s.2.1) hH
 have hB:0≤Bn R.2.1 s.2.1∧Bn R.2.1 s.2.1≤101:=by unfold Bn; omega
 have hL:=E4 (xs:=P) z0 (fun i (L:List Aa)=>i≤4001∧L.length=L0.length + i) (fun (_:Nat) x L=>L++[x]) (g:=fun m i L=>E6 m (Bn R.2.1 s.2.1) S (nI L.length) v9 P i s 0 0 0 0 0 0 0 0 0 0 R (C7 (Bn R.2.1 s.2.1) L) [] []) (ok:=fun L=>(Bn R.2.1 s.2.1,S,nI L.length,v9,s,0,0,0,0,0,0,0,0,0,0,R,C7 (Bn R.2.1 s.2.1) L,[],[],())) (fun m i L hi hI=>by
   show E6 (m + 1) (Bn R.2.1 s.2.1) S (nI L.length) v9 P i s 0 0 0 0 0 0 0 0 0 0 R (C7 (Bn R.2.1 s.2.1) L) [] []=_
   simp only [E6,Nz]
   obtain ⟨h1,h2⟩:=hI
   have e1:IntKind.i64.wrap (nI L.length + 1)=nI (L.length + 1):=wI (show L.length < 4611686018427387904 by omega)
   have e2:IntKind.i64.wrap (Bn R.2.1 s.2.1 + nI L.length)=Bn R.2.1 s.2.1 + (L.length:Int):=by simp only [nI]; exact Aj (by omega) (by omega)
   rw [Xv hi,G9,wI (show i < 4611686018427387904 by omega),En,e1,e2,Et,Sy,Ag (show (L.length + 1) * 32≤140737488355328 by omega),Bfd,Ef,Et]
   rfl) (fun i L hi hI=>⟨by omega,by rw [Ef,Et,hI.2]; omega⟩) (fun m L hI=>by
   show E6 (m + 1) (Bn R.2.1 s.2.1) S (nI L.length) v9 P (P.length:Int) s 0 0 0 0 0 0 0 0 0 0 R (C7 (Bn R.2.1 s.2.1) L) [] []=_
   simp only [E6,Nz]
   rw [Od]
   rfl) (Ny (Bn R.2.1 s.2.1) S (nI L0.length) v9 P 0 s 0 0 0 0 0 0 0 0 0 0 R (C7 (Bn R.2.1 s.2.1) L0) [] []) 0 L0 (by omega) (by simp [Ny,nI]) ⟨by omega,rfl⟩
 rw [A8y,List.drop_zero] at hL
 exact hL
theorem Blp (s:E5) (R:Rt) (S:List (List Be)) (L:List Aa) (hS:S.length≤101) (hH:0≤R.2.1∧R.2.1≤1) (hF:0≤R.2.2.1∧R.2.2.1≤1000000099) (hL:L.length≤1):
  D7 (Kh (Bn R.2.1 s.2.1) S (nI L.length) 0 s 0 0 0 0 0 0 0 0 0 0 R (C7 (Bn R.2.1 s.2.1) L) [] []) (Bn R.2.1 s.2.1) S (nI L.length) 0 s 0 0 0 0 0 0 0 0 0 0 R (C7 (Bn R.2.1 s.2.1) L) [] []=some (nI (C9 (fun _ b L=>Uu s.1 s.2.2.1 R.2.2.1 b L) 0 S L).length,s,0,0,0,0,0,0,0,0,0,0,R,C7 (Bn R.2.1 s.2.1) (C9 (fun _ b L=>Uu s.1 s.2.2.1 R.2.2.1 b L) 0 S L),[],[],()):=by
 have hL:=E4 (xs:=S) [] MvI (fun _ b L=>Uu s.1 s.2.2.1 R.2.2.1 b L) (g:=fun m i L=>D7 m (Bn R.2.1 s.2.1) S (nI L.length) i s 0 0 0 0 0 0 0 0 0 0 R (C7 (Bn R.2.1 s.2.1) L) [] []) (ok:=fun L=>(nI L.length,s,0,0,0,0,0,0,0,0,0,0,R,C7 (Bn R.2.1 s.2.1) L,[],[],())) (fun m i L hi hI=>by
   show D7 (m + 1) (Bn R.2.1 s.2.1) S (nI L.length) i s 0 0 0 0 0 0 0 0 0 0 R (C7 (Bn R.2.1 s.2.1) L) [] []=_
   simp only [D7,N1,N0,u4,Ac,Ae]
   obtain ⟨h1,h2⟩:=hI
   rw [Xv hi,G9,En]
   have e0:IntKind.i64.wrap (R.2.2.1 + nI L.length)=R.2.2.1 + (L.length:Int):=by simp only [nI]; exact Aj (by omega) (by omega)
   have e1:Ve (Ew (List.getD S i [])) s.2.2.1 (R.2.2.1 + (L.length:Int)) s.1=some (c7 (Bh (List.getD S i [])) s.2.2.1 (R.2.2.1 + (L.length:Int)) s.1):=if_pos (Nat.le_trans (L5 _) (by decide))
   rw [e0,e1]
   simp only [cond_true,Option.bind_some]
   refine Qe (Blo s R S (i:Int) L (c7 (Bh (List.getD S i [])) s.2.2.1 (R.2.2.1 + (L.length:Int)) s.1) hH (by omega) (Arf _ _ _ _)) ?_
   dsimp only
   rw [wI (show i < 4611686018427387904 by omega)]
   rfl) (fun i L hi hI=>hI.step (by omega) _ _ _ _) (fun m L hI=>by
   show D7 (m + 1) (Bn R.2.1 s.2.1) S (nI L.length) (S.length:Int) s 0 0 0 0 0 0 0 0 0 0 R (C7 (Bn R.2.1 s.2.1) L) [] []=_
   simp only [D7,N1,N0,u4,Ac,Ae]
   rw [Od]
   rfl) (Kh (Bn R.2.1 s.2.1) S (nI L.length) 0 s 0 0 0 0 0 0 0 0 0 0 R (C7 (Bn R.2.1 s.2.1) L) [] []) 0 L (by omega) (by simp [Kh,nI]) ⟨by omega,by omega⟩
 exact hL
theorem Bbd (a0:E5) r (h:Oh a0=some r):Acd a0=some ((r.1,r.2.1.1,r.2.1.2.1,r.2.1.2.2.1,r.2.1.2.2.2.1.1,r.2.1.2.2.2.1.2.1,r.2.1.2.2.2.1.2.2.1,r.2.1.2.2.2.1.2.2.2.1,r.2.1.2.2.2.2.1,r.2.1.2.2.2.2.2.1,r.2.1.2.2.2.2.2.2.1.1,r.2.2.1,()),(())):=by
 unfold Oh at h
 split at h
 rotate_left
 ·cases h
 rename_i hk
 cases h
 obtain ⟨⟨t0,t1⟩,⟨h0,h1⟩,⟨f0,f1⟩,hp⟩:=hk
 have hh:=Ra a0.2.1
 unfold Acd Wa Aa0
 simp only [A7,Na,Dv,Kn]
 show (bif decide (IntKind.i64.wrap (a0.2.2.2.1.1 + 1) > 1000000000) then _ else bif decide (IntKind.i64.wrap (a0.2.2.2.1.2.2.1 + Al a0.2.1) > 999999000) then _ else _)=_
 rw [Aj (n:=a0.2.2.2.1.1 + 1) (by omega) (by omega),Aj (n:=a0.2.2.2.1.2.2.1 + Al a0.2.1) (by omega) (by omega),Aj (n:=1 - a0.2.2.2.1.2.1) (by omega) (by omega)]
 cases hc1:decide (a0.2.2.2.1.1 + 1 > 1000000000) with
 | true=>rfl
 | false=>
  cases hc2:decide (a0.2.2.2.1.2.2.1 + Al a0.2.1 > 999999000) with
  | true=>rfl
  | false=>
   simp only [cond_false]
   have hm:=Arg (n:=a0.2.1) (show 0≤1 - a0.2.2.2.1.2.1∧1 - a0.2.2.2.1.2.1≤1 by omega)
   have e0:B0 a0.2.1 (1 - a0.2.2.2.1.2.1)=Bn (1 - a0.2.2.2.1.2.1) a0.2.1:=by
    show IntKind.i64.wrap (2 + IntKind.i64.wrap ((1 - a0.2.2.2.1.2.1) * Al a0.2.1))=2 + (1 - a0.2.2.2.1.2.1) * Al a0.2.1
    rw [Aj (n:=(1 - a0.2.2.2.1.2.1) * Al a0.2.1) (by omega) (by omega),Aj (by omega) (by omega)]
   rw [e0]
   have hL1:=Blp a0 ((a0.2.2.2.1.1 + 1),(1 - a0.2.2.2.1.2.1),(a0.2.2.2.1.2.2.1 + Al a0.2.1),a0.2.2.1,()) (Ec a0.2.2.2.2.2.2.1) [Cc (3,a0.2.2.1,a0.2.2.2.1.2.2.1 + Al a0.2.1,z0,()) a0.1] (Vo _) ⟨by dsimp only; omega,by dsimp only; omega⟩ ⟨by dsimp only; omega,by dsimp only; omega⟩ (Nat.le_refl 1)
   have hl:=A6y a0 a0.2.2.1
   have e1:E1 (a0.2.2.2.2.2.2.1.1,())=some (a0.2.2.2.2.2.2.1.1,()):=if_pos hp
   have e2:decide (((C7 (Bn (1 - a0.2.2.2.1.2.1) a0.2.1) (mvL a0 a0.2.2.1)).length + 3) * 32≤140737488355328)=true:=Ag (by rw [Sy]; omega)
   refine Qe hL1 ?_
   dsimp only
   simp only [List.length_cons,List.length_nil,Nat.zero_add,Nat.reduceAdd]
   refine (congrArg (fun c=>bif c then _ else none) e2).trans ?_
   simp only [cond_true]
   rw [e1]
   rfl
def Aeo {R:Type} (k:Kt R):=(I3 (G5 11) (.exit 0) 2 k)
def Aep {R:Type} (k:Kt R):=(I3 (G5 15) (.exit 2) 4 k)
def Af6 {R:Type}:Lt R G5:=(Ea (pat:=G5) 11 (fun d k=>(Ay9 d).bind (Aeo k)) (Ea (pat:=G5) 15 (fun d k=>(N0 d).bind (Aep k)) Hn))
theorem Ace:A2 Tryz.prog Acb:=A5 ⟨R9,Pi,W8,Ab6,Af5,A4e,Rr,Ahh,Ah7,trivial⟩
theorem Aza {R:Type}:A4 Tryz.prog R 125 0 G5 Af6 Aen:=
 B8 (cfg:=⟨Acb,0,125,G5⟩) 15 [] (fun NX X d=>(u4 (u4 (u4 (u4 (u4 (Ac Ae)))))) (Nz  NX X) d) (fun m d=>(u4 (u4 (u4 (u4 (u4 (Ac Ae)))))) (E6 m) d) (fun d=>(u4 (u4 (u4 (u4 (u4 (Ac Ae)))))) Ny d) Aep Ace trivial (fun f NX d=>by simp only [u4,Ac,Ae]; unfold Nz; simp only [nb])
theorem Azb {R:Type}:A4 Tryz.prog R 125 0 G5 Af6 Xe:=
 B8 (cfg:=⟨Acb,0,125,G5⟩) 11 [Aen] (fun NX X d=>(u4 (u4 (u4 (u4 (Ac (Ac (Ac Ae))))))) (N1 N0 NX X) d) (fun m d=>(u4 (u4 (u4 (u4 (Ac (Ac (Ac Ae))))))) (D7 m) d) (fun d=>(u4 (u4 (u4 (u4 (Ac (Ac (Ac Ae))))))) Kh d) Aeo Ace ⟨Aza,trivial⟩ (fun f NX d=>by simp only [u4,Ac,Ae]; unfold N1; simp only [nb])
theorem Apl:Bs Tryz.prog 111 Aca:=
 A3 (pat:=G5) [Xe] Af6 Ace ⟨Azb,trivial⟩ Tryz.func111 (de:=fun x=>Acd x.1) (fun x r h=>F1 (Bbd x.1) h) fun _=>by kernel_rfl
def B9 (d:Dk) (w:Int):R0:=Oo d w
def Big:Gc:=⟨[.rd yDk,.rd tI],[some 2,none],[.rd tI,.rd tI,.rd tI,.rd tI,.rd tI,.rd tI,.rd tI,.rd tI,.rd tI,.rd tI,.own 157 Ax,.own 142 Fe],[some 12]⟩
def Azc:SD:=⟨Big,fun x=>some (((B9 x.1 x.2.1).1,(B9 x.1 x.2.1).2.1.1,(B9 x.1 x.2.1).2.1.2.1,(B9 x.1 x.2.1).2.1.2.2.1,(B9 x.1 x.2.1).2.1.2.2.2.1.1,(B9 x.1 x.2.1).2.1.2.2.2.1.2.1,(B9 x.1 x.2.1).2.1.2.2.2.1.2.2.1,(B9 x.1 x.2.1).2.1.2.2.2.1.2.2.2.1,(B9 x.1 x.2.1).2.1.2.2.2.2.1,(B9 x.1 x.2.1).2.1.2.2.2.2.2.1,(B9 x.1 x.2.1).2.1.2.2.2.2.2.2.1.1,(B9 x.1 x.2.1).2.2.1,()),(()))⟩
def Akg (a0:Dk) (a1:Int):Option ((((Int)×(Int)×(Int)×(Int)×(Int)×(Int)×(Int)×(Int)×(Int)×(Int)×(List A1)×(List Dl)×Unit)×(Unit))):=
 bif !F6 a0 then some ((1,0,0,0,0,0,0,0,0,0,[],[],()),()) else (Cp a1).bind fun val=>bif !val.1.1 then some ((1,0,0,0,0,0,0,0,0,0,[],[],()),()) else ((T8 (Dq a0 (B0 (nI (List.length a0.1)) (An a0 a1).2.1) (A7 (nI (List.length a0.1))) (An a0 a1).2.2.1 (An a0 a1).2.2.2.1 a1).1).bind fun val=>some ((val.1.1,val.2,()),())).bind fun val=>bif !val.1.2.1 then some ((2,0,0,0,0,0,0,0,0,0,[],[],()),()) else bif decide (IntKind.i64.wrap ((Dq a0 (B0 (nI (List.length a0.1)) (An a0 a1).2.1) (A7 (nI (List.length a0.1))) (An a0 a1).2.2.1 (An a0 a1).2.2.2.1 a1).2.2.1 + 1) > 60000) then some ((3,0,0,0,0,0,0,0,0,0,[],[],()),()) else bif decide (Qc (val.1.1,()) a1 > IntKind.i64.wrap (A7 (nI (List.length a0.1)) - 1)) then some ((4,0,0,0,0,0,0,0,0,0,[],[],()),()) else bif decide ((Dq a0 (B0 (nI (List.length a0.1)) (An a0 a1).2.1) (A7 (nI (List.length a0.1))) (An a0 a1).2.2.1 (An a0 a1).2.2.2.1 a1).2.1≥A7 (nI (List.length a0.1))) then ((Oh (a1,nI (List.length a0.1),IntKind.i64.wrap ((Dq a0 (B0 (nI (List.length a0.1)) (An a0 a1).2.1) (A7 (nI (List.length a0.1))) (An a0 a1).2.2.1 (An a0 a1).2.2.2.1 a1).2.2.1 + 1),An a0 a1,(Dq a0 (B0 (nI (List.length a0.1)) (An a0 a1).2.1) (A7 (nI (List.length a0.1))) (An a0 a1).2.2.1 (An a0 a1).2.2.2.1 a1).2.1,0,(val.1.1,()),())).bind fun val=>some ((val.1,val.2.1.1,val.2.1.2.1,val.2.1.2.2.1,val.2.1.2.2.2.1.1,val.2.1.2.2.2.1.2.1,val.2.1.2.2.2.1.2.2.1,val.2.1.2.2.2.1.2.2.2.1,val.2.1.2.2.2.2.1,val.2.1.2.2.2.2.2.1,val.2.1.2.2.2.2.2.2.1.1,val.2.2),())).bind fun val=>some val else some ((0,a1,nI (List.length a0.1),IntKind.i64.wrap ((Dq a0 (B0 (nI (List.length a0.1)) (An a0 a1).2.1) (A7 (nI (List.length a0.1))) (An a0 a1).2.2.1 (An a0 a1).2.2.2.1 a1).2.2.1 + 1),(An a0 a1).1,(An a0 a1).2.1,(An a0 a1).2.2.1,(An a0 a1).2.2.2.1,IntKind.i64.wrap ((Dq a0 (B0 (nI (List.length a0.1)) (An a0 a1).2.1) (A7 (nI (List.length a0.1))) (An a0 a1).2.2.1 (An a0 a1).2.2.2.1 a1).2.1 + 1),0,val.1.1,[(false,IntKind.i64.wrap (B0 (nI (List.length a0.1)) (An a0 a1).2.1 + (Dq a0 (B0 (nI (List.length a0.1)) (An a0 a1).2.1) (A7 (nI (List.length a0.1))) (An a0 a1).2.2.1 (An a0 a1).2.2.2.1 a1).2.1),Dv (3,IntKind.i64.wrap ((Dq a0 (B0 (nI (List.length a0.1)) (An a0 a1).2.1) (A7 (nI (List.length a0.1))) (An a0 a1).2.2.1 (An a0 a1).2.2.2.1 a1).2.2.1 + 1),IntKind.i64.wrap ((An a0 a1).2.2.1 + (Dq a0 (B0 (nI (List.length a0.1)) (An a0 a1).2.1) (A7 (nI (List.length a0.1))) (An a0 a1).2.2.1 (An a0 a1).2.2.2.1 a1).2.1),Ad,()) a1,()),(true,0,Ad,())],()),())
theorem Bih (a0:Dk) (a1:Int):Akg a0 a1=some (((B9 a0 a1).1,(B9 a0 a1).2.1.1,(B9 a0 a1).2.1.2.1,(B9 a0 a1).2.1.2.2.1,(B9 a0 a1).2.1.2.2.2.1.1,(B9 a0 a1).2.1.2.2.2.1.2.1,(B9 a0 a1).2.1.2.2.2.1.2.2.1,(B9 a0 a1).2.1.2.2.2.1.2.2.2.1,(B9 a0 a1).2.1.2.2.2.2.1,(B9 a0 a1).2.1.2.2.2.2.2.1,(B9 a0 a1).2.1.2.2.2.2.2.2.1.1,(B9 a0 a1).2.2.1,()),(())):=by
 unfold Akg B9 Oo
 have ew:(bif decide (a1≥1) then (some ((decide (a1≤8),()),()):Option ((Bool×Unit)×Unit)) else some ((false,()),()))=some ((Bw a1 1 8,()),()):=by
  unfold Bw
  show (bif decide (1≤a1) then _ else _)=_
  cases decide (1≤a1)<;>rfl
 first
  | rw [ew]
  | rw [show Cp a1=some ((Bw a1 1 8,()),()) from ew]
 show (bif !Ar a0 then _ else bif !Bw a1 1 8 then _ else _)=_
 cases hv:Ar a0 with
 | false=>rfl
 | true=>
  cases hw:Bw a1 1 8 with
  | false=>rfl
  | true=>
   simp only [Bool.not_true,cond_false]
   have hr:=Vr hv hw
   have hm:=Arg (n:=nI a0.1.length) hr.2.1
   have hh:=Ra (nI a0.1.length)
   have eb:B0 (nI a0.1.length) (Aw a0 a1).2.1=Bn (Aw a0 a1).2.1 (nI a0.1.length):=by
    show IntKind.i64.wrap (2 + IntKind.i64.wrap ((Aw a0 a1).2.1 * Al (nI a0.1.length)))=2 + (Aw a0 a1).2.1 * Al (nI a0.1.length)
    rw [Aj (n:=(Aw a0 a1).2.1 * Al (nI a0.1.length)) (by omega) (by omega),Aj (by omega) (by omega)]
   have ex:Dq a0 (B0 (nI a0.1.length) (An a0 a1).2.1) (A7 (nI a0.1.length)) (An a0 a1).2.2.1 (An a0 a1).2.2.2.1 a1=F3 a0 a1:=by
    show V9 a0 (B0 (nI a0.1.length) (Aw a0 a1).2.1) (Al (nI a0.1.length)) (Aw a0 a1).2.2.1 (Aw a0 a1).2.2.2.1 a1=_
    rw [eb]
    rfl
   simp only [ex]
   have hx:(F3 a0 a1).1.length≤1073741824:=Io (B6 (B6 (A8x a0 (Bn (Aw a0 a1).2.1 (nI a0.1.length)) (Al (nI a0.1.length)) (Aw a0 a1).2.2.1 (Aw a0 a1).2.2.2.1 a1)).1).1
   have hs:=Bkh a0 (Bn (Aw a0 a1).2.1 (nI a0.1.length)) (Al (nI a0.1.length)) (Aw a0 a1).2.2.1 (Aw a0 a1).2.2.2.1 a1 hh.1 hr.2.2.2
   have hf:T8 (F3 a0 a1).1=some (Bpc (F3 a0 a1).1):=if_pos hx
   rw [hf]
   unfold Bpc
   cases ho:E8 (F3 a0 a1).1 Ut with
   | none=>rfl
   | some st=>
    have hst:=Sz rfl ho
    replace hs:(0≤(F3 a0 a1).2.1∧(F3 a0 a1).2.1≤Al (nI a0.1.length))∧(0≤(F3 a0 a1).2.2.1∧(F3 a0 a1).2.2.1≤60000):=hs
    clear ho hx ex hf
    have eR:An a0 a1=Aw a0 a1:=rfl
    have eH:A7 (nI a0.1.length)=Al (nI a0.1.length):=rfl
    rw [eR,eH]
    generalize F3 a0 a1=x at *
    generalize Aw a0 a1=r at *
    show (bif decide (IntKind.i64.wrap (x.2.2.1 + 1) > 60000) then _ else bif decide (D4 st a1 > IntKind.i64.wrap (Al (nI a0.1.length) - 1)) then _ else bif decide (x.2.1≥Al (nI a0.1.length)) then _ else _)=_
    dsimp only
    rw [Aj (n:=x.2.2.1 + 1) (by omega) (by omega),Vp]
    by_cases h1:x.2.2.1 + 1 > 60000
    ·rw [Ag h1,Bhd h1]; rfl
    by_cases h2:D4 st a1 > Al (nI a0.1.length) - 1
    ·rw [Bd h1,Ag h2,Bhe h1 h2]; rfl
    by_cases h3:x.2.1 < Al (nI a0.1.length)
    ·rw [Bd h1,Bd h2,Bd (show ¬ x.2.1≥Al (nI a0.1.length) by omega),A61 h1 h2 h3]
     simp only [cond_true,cond_false]
     obtain ⟨_,hr1,hr2,hr3⟩:=hr
     have hB:0≤Bn r.2.1 (nI a0.1.length)∧Bn r.2.1 (nI a0.1.length)≤101:=by unfold Bn; omega
     rw [eb,Aj (n:=x.2.1 + 1) (by omega) (by omega),Aj (n:=Bn r.2.1 (nI a0.1.length) + x.2.1) (by omega) (by omega),Aj (n:=r.2.2.1 + x.2.1) (by omega) (by omega)]
     rfl
    ·rw [Bd h1,Bd h2,Ag (show x.2.1≥Al (nI a0.1.length) by omega),A62 h1 h2 h3]
     simp only [cond_true,cond_false]
     have e1:Oh (a1,nI a0.1.length,x.2.2.1 + 1,r,x.2.1,0,st,())=some (Wa (a1,nI a0.1.length,x.2.2.1 + 1,r,x.2.1,0,st,())):=if_pos ⟨hr.1,hr.2.1,⟨Int.le_trans (by decide) hr.2.2.1.1,Int.le_trans hr.2.2.1.2 (by decide)⟩,Nat.le_trans (Ca hst) (by decide)⟩
     refine (congrArg (fun q=>Option.bind (Option.bind q _) _) e1).trans ?_
     rfl
theorem Bii:Bs Tryz.prog 29 Azc:=
 A3 (pat:=Dp) [] Hn (A5 (l:=[(40,Pb),(41,z7),(65,Du),(66,H6),(72,Ln),(107,Ah8),(108,Ay1),(109,Xc),(110,Apg),(111,Aca),(112,Zm)]) ⟨R9,Aj3,Er,Ke,Pi,A2g,Bie,Ab6,Bba,Apl,Af5,trivial⟩) trivial Tryz.func29 (de:=fun x=>Akg x.1 x.2.1) (fun x r h=>(Bih x.1 x.2.1).trans h) fun _=>by kernel_rfl
def A6 (s:E5) (b:List Be):R0:=Es s b
def Bbe:Gc:=⟨[.rd Yf,.rd (.sl Do)],[some 10,none],[.rd tI,.rd tI,.rd tI,.rd tI,.rd tI,.rd tI,.rd tI,.rd tI,.rd tI,.rd tI,.own 157 Ax,.own 142 Fe],[some 12]⟩
def Acf:SD:=⟨Bbe,fun x=>some (((A6 x.1 x.2.1).1,(A6 x.1 x.2.1).2.1.1,(A6 x.1 x.2.1).2.1.2.1,(A6 x.1 x.2.1).2.1.2.2.1,(A6 x.1 x.2.1).2.1.2.2.2.1.1,(A6 x.1 x.2.1).2.1.2.2.2.1.2.1,(A6 x.1 x.2.1).2.1.2.2.2.1.2.2.1,(A6 x.1 x.2.1).2.1.2.2.2.1.2.2.2.1,(A6 x.1 x.2.1).2.1.2.2.2.2.1,(A6 x.1 x.2.1).2.1.2.2.2.2.2.1,(A6 x.1 x.2.1).2.1.2.2.2.2.2.2.1.1,(A6 x.1 x.2.1).2.2.1,()),(()))⟩
def Apm:Tb:=tb [(30,Mg),(40,Pb),(41,z7),(109,Xc),(112,Zm),(122,Qm),(123,Af3),(124,Apj),(125,Ns)]
def Py:Nat→C2×(Nat→C2):=F0 [(17,⟨[.sl 8 0 .str,.row 10 0 142 Fe,.boxSl 2 9 Ax,.boxRow 4 10 157 Ax,.boxRow 4 11 142 Fe,.boxRow 9 9 157 Ax],[(2,.lf (.ptr 0 0)),(4,.lf (.ptr 1 0)),(8,.lf (.d (.sl .str))),(9,.lf (.ptr 2 0)),(10,.lf (.row 3)),(11,.lf (.d tI))],[.box 33 [.d tI,.d tI,.d tI,.d tI,.d tI,.d tI,.d tI,.d tI,.d tI,.d (.sl Ax)],.box 68 [.d tI,.d tI,.d tI,.d tI,.d tI,.d tI,.d tI,.d tI,.d tI,.d tI,.row 4,.row 5],.box 33 [.d tI,.d tI,.d tI,.d tI,.d tI,.d tI,.d tI,.d tI,.d tI,.row 6],.row 142 Fe,.row 157 Ax,.row 142 Fe,.row 157 Ax]⟩,[(2,⟨[.row 10 0 142 Fe,.boxRow 4 10 157 Ax,.boxRow 4 11 142 Fe,.boxRow 9 9 157 Ax],[(4,.lf (.ptr 0 0)),(9,.lf (.ptr 1 0)),(10,.lf (.row 2))],[.box 68 [.d tI,.d tI,.d tI,.d tI,.d tI,.d tI,.d tI,.d tI,.d tI,.d tI,.row 3,.row 4],.box 33 [.d tI,.d tI,.d tI,.d tI,.d tI,.d tI,.d tI,.d tI,.d tI,.row 5],.row 142 Fe,.row 157 Ax,.row 142 Fe,.row 157 Ax]⟩)])]
def Aeq:Code:=(At (Bb Tryz.f36)).getD 0 .skip
def Ki (v8:List Aa) (v11 b0_0:Int) (b0_1 b0_2:Int) (b0_3 b0_4:Int) (b0_5 b0_6:Int) (b0_7 b0_8:Int) (b0_9:List A1) (b1_0 b1_1:Int) (b1_2 b1_3:Int) (b1_4 b1_5:Int) (b1_6 b1_7:Int) (b1_8 b1_9:Int) (b2_0 b2_1:Int) (b2_2 b2_3:Int) (b2_4 b2_5:Int) (b2_6 b2_7 b2_8:Int) (r3:List Dl) (r4:List A1) (r5:List Dl) (r6:List A1):Nat:=((v8.length:Int) - v11).toNat + 1
def N2 {R:Type}  (NX:((List Aa)×(Int)×(Int)×(Int)×(Int)×(Int)×(Int)×(Int)×(Int)×(Int)×(Int)×(List A1)×(Int)×(Int)×(Int)×(Int)×(Int)×(Int)×(Int)×(Int)×(Int)×(Int)×(Int)×(Int)×(Int)×(Int)×(Int)×(Int)×(Int)×(Int)×(Int)×(List Dl)×(List A1)×(List Dl)×(List A1)×Unit)→Option R) (X2:((Int)×(Int)×(Int)×(Int)×(Int)×(Int)×(Int)×(Int)×(Int)×(Int)×(Int)×(Int)×(Int)×(Int)×(Int)×(Int)×(Int)×(Int)×(Int)×(List Dl)×(List A1)×(List Dl)×(List A1)×Unit)→Option R) (v8:List Aa) (v11:Int) (b0_0:Int) (b0_1:Int) (b0_2:Int) (b0_3:Int) (b0_4:Int) (b0_5:Int) (b0_6:Int) (b0_7:Int) (b0_8:Int) (b0_9:List A1) (b1_0:Int) (b1_1:Int) (b1_2:Int) (b1_3:Int) (b1_4:Int) (b1_5:Int) (b1_6:Int) (b1_7:Int) (b1_8:Int) (b1_9:Int) (b2_0:Int) (b2_1:Int) (b2_2:Int) (b2_3:Int) (b2_4:Int) (b2_5:Int) (b2_6:Int) (b2_7:Int) (b2_8:Int) (r3:List Dl) (r4:List A1) (r5:List Dl) (r6:List A1):Option R:=
 bif decide (v11 < nI v8.length) then bif decide (0≤v11) then bif decide (v11 < nI v8.length) then bif decide ((r3.length + [(false,IntKind.i64.wrap (B0 b0_1 b0_4 + b2_7),v8.getD v11.toNat (Ad),())].length) * 32≤140737488355328) then NX (v8,IntKind.i64.wrap (v11 + 1),b0_0,b0_1,b0_2,b0_3,b0_4,b0_5,b0_6,b0_7,b0_8,b0_9,b1_0,b1_1,b1_2,b1_3,b1_4,b1_5,b1_6,b1_7,b1_8,b1_9,b2_0,b2_1,b2_2,b2_3,b2_4,b2_5,b2_6,IntKind.i64.wrap (b2_7 + 1),IntKind.i64.wrap (b2_8 + 1),r3++[(false,IntKind.i64.wrap (B0 b0_1 b0_4 + b2_7),v8.getD v11.toNat (Ad),())],r4,r5,r6,()) else none else none else none else X2 (b1_0,b1_1,b1_2,b1_3,b1_4,b1_5,b1_6,b1_7,b1_8,b1_9,b2_0,b2_1,b2_2,b2_3,b2_4,b2_5,b2_6,b2_7,b2_8,r3,r4,r5,r6,())
def Dg:Nat→(List Aa)→(Int)→(Int)→(Int)→(Int)→(Int)→(Int)→(Int)→(Int)→(Int)→(Int)→(List A1)→(Int)→(Int)→(Int)→(Int)→(Int)→(Int)→(Int)→(Int)→(Int)→(Int)→(Int)→(Int)→(Int)→(Int)→(Int)→(Int)→(Int)→(Int)→(Int)→(List Dl)→(List A1)→(List Dl)→(List A1) →  Option ((Int)×(Int)×(Int)×(Int)×(Int)×(Int)×(Int)×(Int)×(Int)×(Int)×(Int)×(Int)×(Int)×(Int)×(Int)×(Int)×(Int)×(Int)×(Int)×(List Dl)×(List A1)×(List Dl)×(List A1)×Unit)
 | 0,_,_,_,_,_,_,_,_,_,_,_,_,_,_,_,_,_,_,_,_,_,_,_,_,_,_,_,_,_,_,_,_,_,_,_=>none
 | m + 1,v8,v11,b0_0,b0_1,b0_2,b0_3,b0_4,b0_5,b0_6,b0_7,b0_8,b0_9,b1_0,b1_1,b1_2,b1_3,b1_4,b1_5,b1_6,b1_7,b1_8,b1_9,b2_0,b2_1,b2_2,b2_3,b2_4,b2_5,b2_6,b2_7,b2_8,r3,r4,r5,r6=>N2  (fun d=>Dg m d.1 d.2.1 d.2.2.1 d.2.2.2.1 d.2.2.2.2.1 d.2.2.2.2.2.1 d.2.2.2.2.2.2.1 d.2.2.2.2.2.2.2.1 d.2.2.2.2.2.2.2.2.1 d.2.2.2.2.2.2.2.2.2.1 d.2.2.2.2.2.2.2.2.2.2.1 d.2.2.2.2.2.2.2.2.2.2.2.1 d.2.2.2.2.2.2.2.2.2.2.2.2.1 d.2.2.2.2.2.2.2.2.2.2.2.2.2.1 d.2.2.2.2.2.2.2.2.2.2.2.2.2.2.1 d.2.2.2.2.2.2.2.2.2.2.2.2.2.2.2.1 d.2.2.2.2.2.2.2.2.2.2.2.2.2.2.2.2.1 d.2.2.2.2.2.2.2.2.2.2.2.2.2.2.2.2.2.1 d.2.2.2.2.2.2.2.2.2.2.2.2.2.2.2.2.2.2.1 d.2.2.2.2.2.2.2.2.2.2.2.2.2.2.2.2.2.2.2.1 d.2.2.2.2.2.2.2.2.2.2.2.2.2.2.2.2.2.2.2.2.1 d.2.2.2.2.2.2.2.2.2.2.2.2.2.2.2.2.2.2.2.2.2.1 d.2.2.2.2.2.2.2.2.2.2.2.2.2.2.2.2.2.2.2.2.2.2.1 d.2.2.2.2.2.2.2.2.2.2.2.2.2.2.2.2.2.2.2.2.2.2.2.1 d.2.2.2.2.2.2.2.2.2.2.2.2.2.2.2.2.2.2.2.2.2.2.2.2.1 d.2.2.2.2.2.2.2.2.2.2.2.2.2.2.2.2.2.2.2.2.2.2.2.2.2.1 d.2.2.2.2.2.2.2.2.2.2.2.2.2.2.2.2.2.2.2.2.2.2.2.2.2.2.1 d.2.2.2.2.2.2.2.2.2.2.2.2.2.2.2.2.2.2.2.2.2.2.2.2.2.2.2.1 d.2.2.2.2.2.2.2.2.2.2.2.2.2.2.2.2.2.2.2.2.2.2.2.2.2.2.2.2.1 d.2.2.2.2.2.2.2.2.2.2.2.2.2.2.2.2.2.2.2.2.2.2.2.2.2.2.2.2.2.1 d.2.2.2.2.2.2.2.2.2.2.2.2.2.2.2.2.2.2.2.2.2.2.2.2.2.2.2.2.2.2.1 d.2.2.2.2.2.2.2.2.2.2.2.2.2.2.2.2.2.2.2.2.2.2.2.2.2.2.2.2.2.2.2.1 d.2.2.2.2.2.2.2.2.2.2.2.2.2.2.2.2.2.2.2.2.2.2.2.2.2.2.2.2.2.2.2.2.1 d.2.2.2.2.2.2.2.2.2.2.2.2.2.2.2.2.2.2.2.2.2.2.2.2.2.2.2.2.2.2.2.2.2.1 d.2.2.2.2.2.2.2.2.2.2.2.2.2.2.2.2.2.2.2.2.2.2.2.2.2.2.2.2.2.2.2.2.2.2.1) (fun d=>some (d)) v8 v11 b0_0 b0_1 b0_2 b0_3 b0_4 b0_5 b0_6 b0_7 b0_8 b0_9 b1_0 b1_1 b1_2 b1_3 b1_4 b1_5 b1_6 b1_7 b1_8 b1_9 b2_0 b2_1 b2_2 b2_3 b2_4 b2_5 b2_6 b2_7 b2_8 r3 r4 r5 r6
def Azd (d:(List Aa)×(Int)×(Int)×(Int)×(Int)×(Int)×(Int)×(Int)×(Int)×(Int)×(Int)×(List A1)×(Int)×(Int)×(Int)×(Int)×(Int)×(Int)×(Int)×(Int)×(Int)×(Int)×(Int)×(Int)×(Int)×(Int)×(Int)×(Int)×(Int)×(Int)×(Int)×(List Dl)×(List A1)×(List Dl)×(List A1)×Unit):Option ((Int)×(Int)×(Int)×(Int)×(Int)×(Int)×(Int)×(Int)×(Int)×(Int)×(Int)×(Int)×(Int)×(Int)×(Int)×(Int)×(Int)×(Int)×(Int)×(List Dl)×(List A1)×(List Dl)×(List A1)×Unit):=(u4 (u4 (u4 (u4 (u4 (u4 (u4 (u4 (Ac (Ac (Ac Ae))))))))))) (Dg ((u4 (u4 (u4 (u4 (u4 (u4 (u4 (u4 (Ac (Ac (Ac Ae))))))))))) Ki d)) d
def Acg (a0:E5) (a1:List Be):Option ((((Int)×(Int)×(Int)×(Int)×(Int)×(Int)×(Int)×(Int)×(Int)×(Int)×(List A1)×(List Dl)×Unit)×(Unit))):=
 bif !H5 a0 then some ((1,0,0,0,0,0,0,0,0,0,[],[],()),()) else bif !Kb a1 then some ((1,0,0,0,0,0,0,0,0,0,[],[],()),()) else bif (G7 a0.2.2.2.2.2.2.1 a1).2 != 0 then some ((2,0,0,0,0,0,0,0,0,0,[],[],()),()) else bif decide (Qc (G7 a0.2.2.2.2.2.2.1 a1).1 a0.1 > IntKind.i64.wrap (A7 a0.2.1 - 1)) then some ((3,0,0,0,0,0,0,0,0,0,[],[],()),()) else ((Ve (Ew a1) a0.2.2.1 (IntKind.i64.wrap (a0.2.2.2.1.2.2.1 + a0.2.2.2.2.1)) a0.1).bind fun val=>some ((val,()),())).bind fun val=>bif decide (nI (List.length val.1.1) > IntKind.i64.wrap (A7 a0.2.1 - a0.2.2.2.2.1)) then some ((4,0,0,0,0,0,0,0,0,0,[],[],()),()) else ((fun d=>Dg (Ki d.1 d.2.1 d.2.2.1 d.2.2.2.1 d.2.2.2.2.1 d.2.2.2.2.2.1 d.2.2.2.2.2.2.1 d.2.2.2.2.2.2.2.1 d.2.2.2.2.2.2.2.2.1 d.2.2.2.2.2.2.2.2.2.1 d.2.2.2.2.2.2.2.2.2.2.1 d.2.2.2.2.2.2.2.2.2.2.2.1 d.2.2.2.2.2.2.2.2.2.2.2.2.1 d.2.2.2.2.2.2.2.2.2.2.2.2.2.1 d.2.2.2.2.2.2.2.2.2.2.2.2.2.2.1 d.2.2.2.2.2.2.2.2.2.2.2.2.2.2.2.1 d.2.2.2.2.2.2.2.2.2.2.2.2.2.2.2.2.1 d.2.2.2.2.2.2.2.2.2.2.2.2.2.2.2.2.2.1 d.2.2.2.2.2.2.2.2.2.2.2.2.2.2.2.2.2.2.1 d.2.2.2.2.2.2.2.2.2.2.2.2.2.2.2.2.2.2.2.1 d.2.2.2.2.2.2.2.2.2.2.2.2.2.2.2.2.2.2.2.2.1 d.2.2.2.2.2.2.2.2.2.2.2.2.2.2.2.2.2.2.2.2.2.1 d.2.2.2.2.2.2.2.2.2.2.2.2.2.2.2.2.2.2.2.2.2.2.1 d.2.2.2.2.2.2.2.2.2.2.2.2.2.2.2.2.2.2.2.2.2.2.2.1 d.2.2.2.2.2.2.2.2.2.2.2.2.2.2.2.2.2.2.2.2.2.2.2.2.1 d.2.2.2.2.2.2.2.2.2.2.2.2.2.2.2.2.2.2.2.2.2.2.2.2.2.1 d.2.2.2.2.2.2.2.2.2.2.2.2.2.2.2.2.2.2.2.2.2.2.2.2.2.2.1 d.2.2.2.2.2.2.2.2.2.2.2.2.2.2.2.2.2.2.2.2.2.2.2.2.2.2.2.1 d.2.2.2.2.2.2.2.2.2.2.2.2.2.2.2.2.2.2.2.2.2.2.2.2.2.2.2.2.1 d.2.2.2.2.2.2.2.2.2.2.2.2.2.2.2.2.2.2.2.2.2.2.2.2.2.2.2.2.2.1 d.2.2.2.2.2.2.2.2.2.2.2.2.2.2.2.2.2.2.2.2.2.2.2.2.2.2.2.2.2.2.1 d.2.2.2.2.2.2.2.2.2.2.2.2.2.2.2.2.2.2.2.2.2.2.2.2.2.2.2.2.2.2.2.1 d.2.2.2.2.2.2.2.2.2.2.2.2.2.2.2.2.2.2.2.2.2.2.2.2.2.2.2.2.2.2.2.2.1 d.2.2.2.2.2.2.2.2.2.2.2.2.2.2.2.2.2.2.2.2.2.2.2.2.2.2.2.2.2.2.2.2.2.1 d.2.2.2.2.2.2.2.2.2.2.2.2.2.2.2.2.2.2.2.2.2.2.2.2.2.2.2.2.2.2.2.2.2.2.1) d.1 d.2.1 d.2.2.1 d.2.2.2.1 d.2.2.2.2.1 d.2.2.2.2.2.1 d.2.2.2.2.2.2.1 d.2.2.2.2.2.2.2.1 d.2.2.2.2.2.2.2.2.1 d.2.2.2.2.2.2.2.2.2.1 d.2.2.2.2.2.2.2.2.2.2.1 d.2.2.2.2.2.2.2.2.2.2.2.1 d.2.2.2.2.2.2.2.2.2.2.2.2.1 d.2.2.2.2.2.2.2.2.2.2.2.2.2.1 d.2.2.2.2.2.2.2.2.2.2.2.2.2.2.1 d.2.2.2.2.2.2.2.2.2.2.2.2.2.2.2.1 d.2.2.2.2.2.2.2.2.2.2.2.2.2.2.2.2.1 d.2.2.2.2.2.2.2.2.2.2.2.2.2.2.2.2.2.1 d.2.2.2.2.2.2.2.2.2.2.2.2.2.2.2.2.2.2.1 d.2.2.2.2.2.2.2.2.2.2.2.2.2.2.2.2.2.2.2.1 d.2.2.2.2.2.2.2.2.2.2.2.2.2.2.2.2.2.2.2.2.1 d.2.2.2.2.2.2.2.2.2.2.2.2.2.2.2.2.2.2.2.2.2.1 d.2.2.2.2.2.2.2.2.2.2.2.2.2.2.2.2.2.2.2.2.2.2.1 d.2.2.2.2.2.2.2.2.2.2.2.2.2.2.2.2.2.2.2.2.2.2.2.1 d.2.2.2.2.2.2.2.2.2.2.2.2.2.2.2.2.2.2.2.2.2.2.2.2.1 d.2.2.2.2.2.2.2.2.2.2.2.2.2.2.2.2.2.2.2.2.2.2.2.2.2.1 d.2.2.2.2.2.2.2.2.2.2.2.2.2.2.2.2.2.2.2.2.2.2.2.2.2.2.1 d.2.2.2.2.2.2.2.2.2.2.2.2.2.2.2.2.2.2.2.2.2.2.2.2.2.2.2.1 d.2.2.2.2.2.2.2.2.2.2.2.2.2.2.2.2.2.2.2.2.2.2.2.2.2.2.2.2.1 d.2.2.2.2.2.2.2.2.2.2.2.2.2.2.2.2.2.2.2.2.2.2.2.2.2.2.2.2.2.1 d.2.2.2.2.2.2.2.2.2.2.2.2.2.2.2.2.2.2.2.2.2.2.2.2.2.2.2.2.2.2.1 d.2.2.2.2.2.2.2.2.2.2.2.2.2.2.2.2.2.2.2.2.2.2.2.2.2.2.2.2.2.2.2.1 d.2.2.2.2.2.2.2.2.2.2.2.2.2.2.2.2.2.2.2.2.2.2.2.2.2.2.2.2.2.2.2.2.1 d.2.2.2.2.2.2.2.2.2.2.2.2.2.2.2.2.2.2.2.2.2.2.2.2.2.2.2.2.2.2.2.2.2.1 d.2.2.2.2.2.2.2.2.2.2.2.2.2.2.2.2.2.2.2.2.2.2.2.2.2.2.2.2.2.2.2.2.2.2.1) (val.1.1,0,a0.1,a0.2.1,a0.2.2.1,a0.2.2.2.1.1,a0.2.2.2.1.2.1,a0.2.2.2.1.2.2.1,a0.2.2.2.1.2.2.2.1,a0.2.2.2.2.1,a0.2.2.2.2.2.1,a0.2.2.2.2.2.2.1.1,0,0,0,0,0,0,0,0,0,0,a0.1,a0.2.1,a0.2.2.1,a0.2.2.2.1.1,a0.2.2.2.1.2.1,a0.2.2.2.1.2.2.1,a0.2.2.2.1.2.2.2.1,a0.2.2.2.2.1,a0.2.2.2.2.2.1,[],[],[],(G7 a0.2.2.2.2.2.2.1 a1).1)).bind fun val=>some ((0,val.2.2.2.2.2.2.2.2.2.2.1,val.2.2.2.2.2.2.2.2.2.2.2.1,val.2.2.2.2.2.2.2.2.2.2.2.2.1,val.2.2.2.2.2.2.2.2.2.2.2.2.2.1,val.2.2.2.2.2.2.2.2.2.2.2.2.2.2.1,val.2.2.2.2.2.2.2.2.2.2.2.2.2.2.2.1,val.2.2.2.2.2.2.2.2.2.2.2.2.2.2.2.2.1,val.2.2.2.2.2.2.2.2.2.2.2.2.2.2.2.2.2.1,val.2.2.2.2.2.2.2.2.2.2.2.2.2.2.2.2.2.2.1,val.2.2.2.2.2.2.2.2.2.2.2.2.2.2.2.2.2.2.2.2.2.2.1,val.2.2.2.2.2.2.2.2.2.2.2.2.2.2.2.2.2.2.2.1,()),())
theorem Bdl (p0 p1 p2 p3 p4 p5 p6 p7 p8 q0 q1 q2 q3 q4 q5 q6 q7 q8:Int) (p9 r6:List A1) (L:List Aa) (hL:L.length≤4001) (hH:0≤p4∧p4≤1) (hU:0≤q7∧q7≤99) (hV:0≤q8∧q8≤99):
  Dg (Ki L 0 p0 p1 p2 p3 p4 p5 p6 p7 p8 p9 0 0 0 0 0 0 0 0 0 0 q0 q1 q2 q3 q4 q5 q6 q7 q8 [] [] [] r6) L 0 p0 p1 p2 p3 p4 p5 p6 p7 p8 p9 0 0 0 0 0 0 0 0 0 0 q0 q1 q2 q3 q4 q5 q6 q7 q8 [] [] [] r6=some (0,0,0,0,0,0,0,0,0,0,q0,q1,q2,q3,q4,q5,q6,q7 + nI L.length,q8 + nI L.length,(C7 (Bn p4 p1 + q7) L),[],[],r6,()):=by
 have hm:=Arg (n:=p1) hH
 have e0:B0 p1 p4=Bn p4 p1:=by
  show IntKind.i64.wrap (2 + IntKind.i64.wrap (p4 * Al p1))=2 + p4 * Al p1
  rw [Aj (n:=p4 * Al p1) (by omega) (by omega),Aj (by omega) (by omega)]
 have hB:0≤Bn p4 p1∧Bn p4 p1≤101:=by unfold Bn; omega
 have hL:=E4 (xs:=L) z0 (fun i (r:List Dl)=>i≤4001∧r.length=i) (fun (i:Nat) x r=>r++[L6 (Bn p4 p1 + q7 + (i:Int)) x]) (g:=fun m (i:Int) r=>Dg m L i p0 p1 p2 p3 p4 p5 p6 p7 p8 p9 0 0 0 0 0 0 0 0 0 0 q0 q1 q2 q3 q4 q5 q6 (q7 + i) (q8 + i) r [] [] r6) (ok:=fun r=>(0,0,0,0,0,0,0,0,0,0,q0,q1,q2,q3,q4,q5,q6,q7 + nI L.length,q8 + nI L.length,r,[],[],r6,())) (fun m i r hi hI=>by
   show Dg (m + 1) L i p0 p1 p2 p3 p4 p5 p6 p7 p8 p9 0 0 0 0 0 0 0 0 0 0 q0 q1 q2 q3 q4 q5 q6 (q7 + (i:Int)) (q8 + (i:Int)) r [] [] r6=Dg m L ((i + 1:Nat):Int) p0 p1 p2 p3 p4 p5 p6 p7 p8 p9 0 0 0 0 0 0 0 0 0 0 q0 q1 q2 q3 q4 q5 q6 (q7 + ((i + 1:Nat):Int)) (q8 + ((i + 1:Nat):Int)) _ [] [] r6
   simp only [Dg,N2]
   obtain ⟨h1,h2⟩:=hI
   rw [Xv hi,G9,wI (show i < 4611686018427387904 by omega),En,e0,Aj (n:=Bn p4 p1 + (q7 + (i:Int))) (by omega) (by omega),Aj (n:=q7 + (i:Int) + 1) (by omega) (by omega),Aj (n:=q8 + (i:Int) + 1) (by omega) (by omega),Et,Ag (show (r.length + 1) * 32≤140737488355328 by omega),
    show q7 + (i:Int) + 1=q7 + ((i + 1:Nat):Int) by omega,show q8 + (i:Int) + 1=q8 + ((i + 1:Nat):Int) by omega,show Bn p4 p1 + (q7 + (i:Int))=Bn p4 p1 + q7 + (i:Int) by omega]
   rfl) (fun i r hi hI=>⟨by omega,by rw [Ef,Et,hI.2]⟩) (fun m r hI=>by
   show Dg (m + 1) L (L.length:Int) p0 p1 p2 p3 p4 p5 p6 p7 p8 p9 0 0 0 0 0 0 0 0 0 0 q0 q1 q2 q3 q4 q5 q6 (q7 + (L.length:Int)) (q8 + (L.length:Int)) r [] [] r6=_
   simp only [Dg,N2]
   rw [Od]
   rfl) (Ki L 0 p0 p1 p2 p3 p4 p5 p6 p7 p8 p9 0 0 0 0 0 0 0 0 0 0 q0 q1 q2 q3 q4 q5 q6 q7 q8 [] [] [] r6) 0 [] (by omega) (by simp [Ki,nI]) ⟨by omega,rfl⟩
 rw [Are,List.drop_zero,List.nil_append,show Bn p4 p1 + q7 + ((0:Nat):Int)=Bn p4 p1 + q7 by omega] at hL
 simp only [show q7 + ((0:Nat):Int)=q7 by omega,show q8 + ((0:Nat):Int)=q8 by omega] at hL
 exact hL
theorem Bbf (a0:E5) (a1:List Be):Acg a0 a1=some (((A6 a0 a1).1,(A6 a0 a1).2.1.1,(A6 a0 a1).2.1.2.1,(A6 a0 a1).2.1.2.2.1,(A6 a0 a1).2.1.2.2.2.1.1,(A6 a0 a1).2.1.2.2.2.1.2.1,(A6 a0 a1).2.1.2.2.2.1.2.2.1,(A6 a0 a1).2.1.2.2.2.1.2.2.2.1,(A6 a0 a1).2.1.2.2.2.2.1,(A6 a0 a1).2.1.2.2.2.2.2.1,(A6 a0 a1).2.1.2.2.2.2.2.2.1.1,(A6 a0 a1).2.2.1,()),(())):=by
 unfold Acg A6 Es
 simp only [A7,Ew,G7,Qc]
 show (bif !Au a0 then _ else bif !A0 a1 then _ else _)=_
 cases hv:Au a0 with
 | false=>rfl
 | true=>
  cases hb:A0 a1 with
  | false=>rfl
  | true=>
   simp only [Bool.not_true,cond_false]
   obtain ⟨_,_,h3,_,_,h6,_,h8,h9,_⟩:=Zi hv
   obtain ⟨r1,r2⟩:=B6 h6
   have r1:=Cv r1
   have r2:=Cv r2
   have hh:=Ra a0.2.1
   show (bif (B7 a0.2.2.2.2.2.2.1 a1).2 != 0 then _ else _)=_
   rcases A9b h3 hb with hc | hc
   ·rw [hc]
    show (bif decide (D4 (B7 a0.2.2.2.2.2.2.1 a1).1 a0.1 > IntKind.i64.wrap (Al a0.2.1 - 1)) then _ else _)=(_:Option _)
    rw [Vp]
    show _=some (((bif decide (D4 (B7 a0.2.2.2.2.2.2.1 a1).1 a0.1 > Al a0.2.1 - 1) then Ada 3 else _:R0).1,_),_)
    cases hr:decide (D4 (B7 a0.2.2.2.2.2.2.1 a1).1 a0.1 > Al a0.2.1 - 1) with
    | true=>simp only [cond_true,bne_self_eq_false,cond_false]; rfl
    | false=>
     simp only [cond_false,bne_self_eq_false]
     have hl:=Arf a1 a0.2.2.1 (a0.2.2.2.1.2.2.1 + a0.2.2.2.2.1) a0.1
     have e1:Ve (Bh a1) a0.2.2.1 (a0.2.2.2.1.2.2.1 + a0.2.2.2.2.1) a0.1=some (Gn a0 a1):=if_pos (Nat.le_trans (L5 _) (by decide))
     rw [Aj (n:=a0.2.2.2.1.2.2.1 + a0.2.2.2.2.1) (by omega) (by omega),e1]
     simp only [Option.bind_some]
     have hw:IntKind.i64.wrap (Al a0.2.1 - a0.2.2.2.2.1)=Al a0.2.1 - a0.2.2.2.2.1:=Aj (by omega) (by omega)
     simp only [hw]
     cases hq:decide (nI (Gn a0 a1).length > Al a0.2.1 - a0.2.2.2.2.1) with
     | true=>rfl
     | false=>
      simp only [cond_false]
      have hl:(Gn a0 a1).length≤4001:=hl
      refine Qe (Bdl a0.1 a0.2.1 a0.2.2.1 a0.2.2.2.1.1 a0.2.2.2.1.2.1 a0.2.2.2.1.2.2.1 a0.2.2.2.1.2.2.2.1 a0.2.2.2.2.1 a0.2.2.2.2.2.1 a0.1 a0.2.1 a0.2.2.1 a0.2.2.2.1.1 a0.2.2.2.1.2.1 a0.2.2.2.1.2.2.1 a0.2.2.2.1.2.2.2.1 a0.2.2.2.2.1 a0.2.2.2.2.2.1 a0.2.2.2.2.2.2.1.1 (B7 a0.2.2.2.2.2.2.1 a1).1.1 (Gn a0 a1) hl r1 ⟨by omega,by omega⟩ ⟨by omega,by omega⟩) ?_
      rfl
   ·rw [hc]
    rfl
def Aer {R:Type} (k:Kt R):=(I3 (Py 17) (.exit 0) 2 k)
def Atn {R:Type}:Lt R Py:=(Ea (pat:=Py) 17 (fun d k=>(Azd d).bind (Aer k)) Hn)
theorem Apn:A2 Tryz.prog Apm:=A5 ⟨Qo,R9,Aj3,Ab6,Af5,U3,Ati,A4e,Rr,trivial⟩
theorem Aze {R:Type}:A4 Tryz.prog R 101 0 Py Atn Aeq:=
 B8 (cfg:=⟨Apm,0,101,Py⟩) 17 [] (fun NX X d=>(u4 (u4 (u4 (u4 (u4 (u4 (u4 (u4 (Ac (Ac (Ac Ae))))))))))) (N2  NX X) d) (fun m d=>(u4 (u4 (u4 (u4 (u4 (u4 (u4 (u4 (Ac (Ac (Ac Ae))))))))))) (Dg m) d) (fun d=>(u4 (u4 (u4 (u4 (u4 (u4 (u4 (u4 (Ac (Ac (Ac Ae))))))))))) Ki d) Aer Apn trivial (fun f NX d=>by simp only [u4,Ac,Ae]; unfold N2; simp only [nb])
theorem Apo:Bs Tryz.prog 36 Acf:=
 A3 (pat:=Py) [Aeq] Atn Apn ⟨Aze,trivial⟩ Tryz.func36 (de:=fun x=>Acg x.1 x.2.1) (fun x r h=>(Bbf x.1 x.2.1).trans h) fun _=>by kernel_rfl
def Br (s:E5):R0:=O4 s
def Bdm:Gc:=⟨[.rd Yf],[some 10],[.rd tI,.rd tI,.rd tI,.rd tI,.rd tI,.rd tI,.rd tI,.rd tI,.rd tI,.rd tI,.own 157 Ax,.own 142 Fe],[some 12]⟩
def Ato:SD:=⟨Bdm,fun x=>some (((Br x.1).1,(Br x.1).2.1.1,(Br x.1).2.1.2.1,(Br x.1).2.1.2.2.1,(Br x.1).2.1.2.2.2.1.1,(Br x.1).2.1.2.2.2.1.2.1,(Br x.1).2.1.2.2.2.1.2.2.1,(Br x.1).2.1.2.2.2.1.2.2.2.1,(Br x.1).2.1.2.2.2.2.1,(Br x.1).2.1.2.2.2.2.2.1,(Br x.1).2.1.2.2.2.2.2.2.1.1,(Br x.1).2.2.1,()),(()))⟩
def Af7 (a0:E5):Option ((((Int)×(Int)×(Int)×(Int)×(Int)×(Int)×(Int)×(Int)×(Int)×(Int)×(List A1)×(List Dl)×Unit)×(Unit))):=
 bif !H5 a0 then some ((1,0,0,0,0,0,0,0,0,0,[],[],()),()) else ((E1 a0.2.2.2.2.2.2.1).bind fun val=>some (val,())).bind fun val=>some ((0,a0.1,a0.2.1,a0.2.2.1,a0.2.2.2.1.1,a0.2.2.2.1.2.1,a0.2.2.2.1.2.2.1,a0.2.2.2.1.2.2.2.1,a0.2.2.2.2.1,0,val.1.1,[(true,0,Ad,())],()),())
theorem Bdn (a0:E5):Af7 a0=some (((Br a0).1,(Br a0).2.1.1,(Br a0).2.1.2.1,(Br a0).2.1.2.2.1,(Br a0).2.1.2.2.2.1.1,(Br a0).2.1.2.2.2.1.2.1,(Br a0).2.1.2.2.2.1.2.2.1,(Br a0).2.1.2.2.2.1.2.2.2.1,(Br a0).2.1.2.2.2.2.1,(Br a0).2.1.2.2.2.2.2.1,(Br a0).2.1.2.2.2.2.2.2.1.1,(Br a0).2.2.1,()),(())):=by
 unfold Af7 Br O4
 show (bif !Au a0 then _ else _)=_
 cases hv:Au a0 with
 | false=>rfl
 | true=>
  have e1:E1 (a0.2.2.2.2.2.2.1.1,())=some (a0.2.2.2.2.2.2.1.1,()):=if_pos (Nat.le_trans (Ca (Zi hv).2.2.1) (by decide))
  simp only [Bool.not_true,cond_false]
  rw [e1]
  rfl
theorem Bdo:Bs Tryz.prog 37 Ato:=
 A3 (pat:=Dp) [] Hn (A5 (l:=[(30,Mg),(77,Sj)]) ⟨Qo,W8,trivial⟩) trivial Tryz.func37 (de:=fun x=>Af7 x.1) (fun x r h=>(Bdn x.1).trans h) fun _=>by kernel_rfl
def Bc (s:E5):R0:=Hr s
def A5g:Gc:=⟨[.rd Yf],[some 10],[.rd tI,.rd tI,.rd tI,.rd tI,.rd tI,.rd tI,.rd tI,.rd tI,.rd tI,.rd tI,.own 157 Ax,.own 142 Fe],[some 12]⟩
def Alj:SD:=⟨A5g,fun x=>some (((Bc x.1).1,(Bc x.1).2.1.1,(Bc x.1).2.1.2.1,(Bc x.1).2.1.2.2.1,(Bc x.1).2.1.2.2.2.1.1,(Bc x.1).2.1.2.2.2.1.2.1,(Bc x.1).2.1.2.2.2.1.2.2.1,(Bc x.1).2.1.2.2.2.1.2.2.2.1,(Bc x.1).2.1.2.2.2.2.1,(Bc x.1).2.1.2.2.2.2.2.1,(Bc x.1).2.1.2.2.2.2.2.2.1.1,(Bc x.1).2.2.1,()),(()))⟩
def g8 (a0:E5):Option ((((Int)×(Int)×(Int)×(Int)×(Int)×(Int)×(Int)×(Int)×(Int)×(Int)×(List A1)×(List Dl)×Unit)×(Unit))):=
 bif !H5 a0 then some ((1,0,0,0,0,0,0,0,0,0,[],[],()),()) else ((Oh a0).bind fun val=>some ((val.1,val.2.1.1,val.2.1.2.1,val.2.1.2.2.1,val.2.1.2.2.2.1.1,val.2.1.2.2.2.1.2.1,val.2.1.2.2.2.1.2.2.1,val.2.1.2.2.2.1.2.2.2.1,val.2.1.2.2.2.2.1,val.2.1.2.2.2.2.2.1,val.2.1.2.2.2.2.2.2.1.1,val.2.2),())).bind fun val=>some val
theorem A5h (a0:E5):g8 a0=some (((Bc a0).1,(Bc a0).2.1.1,(Bc a0).2.1.2.1,(Bc a0).2.1.2.2.1,(Bc a0).2.1.2.2.2.1.1,(Bc a0).2.1.2.2.2.1.2.1,(Bc a0).2.1.2.2.2.1.2.2.1,(Bc a0).2.1.2.2.2.1.2.2.2.1,(Bc a0).2.1.2.2.2.2.1,(Bc a0).2.1.2.2.2.2.2.1,(Bc a0).2.1.2.2.2.2.2.2.1.1,(Bc a0).2.2.1,()),(())):=by
 unfold g8 Bc Hr
 show (bif !Au a0 then _ else _)=_
 cases hv:Au a0 with
 | false=>rfl
 | true=>
  have e1:Oh (a0.1,a0.2.1,a0.2.2.1,(a0.2.2.2.1.1,a0.2.2.2.1.2.1,a0.2.2.2.1.2.2.1,a0.2.2.2.1.2.2.2.1,()),a0.2.2.2.2.1,a0.2.2.2.2.2.1,(a0.2.2.2.2.2.2.1.1,()),())=some (Wa a0):=if_pos (Bfe hv)
  simp only [Bool.not_true,cond_false,cond_true]
  rw [e1]
  rfl
theorem A5i:Bs Tryz.prog 38 Alj:=
 A3 (pat:=Dp) [] Hn (A5 (l:=[(30,Mg),(111,Aca)]) ⟨Qo,Apl,trivial⟩) trivial Tryz.func38 (de:=fun x=>g8 x.1) (fun x r h=>(A5h x.1).trans h) fun _=>by kernel_rfl
def Bbg:Gc:=⟨[.rd Gv,.rd Arq],[some 16,some 4],[.rd Bqq,.rd .bool],[some 12,none]⟩
def Xf (a0:Bg) (a1:Qw):Option (((R0×(Bool)×Unit)×(Unit))):=
 bif a1.1==1 then some ((B9 a0.2.1 a0.1,!a0.2.2.1,()),()) else bif a1.1==2 then some ((A6 a0.2.2.2.1 a1.2.1,a0.2.2.1,()),()) else bif a1.1==3 then some ((Br a0.2.2.2.1,a0.2.2.1,()),()) else bif a1.1==4 then some ((Bc a0.2.2.2.1,a0.2.2.1,()),()) else some (((0,(0,0,0,(0,0,0,0,()),0,0,([],()),()),[],()),false,()),())
theorem App:∃ f,f=@Xf:=⟨_,rfl⟩
def Ua:=Classical.choose App
theorem Apq:@Ua=@Xf:=Classical.choose_spec App
def Apr:SD:=⟨Bbg,fun x=>Ua x.1 x.2.1⟩
theorem Bv6 {w:Bg} (h:WOk w) (e:Qw):As (Ua w e) fun q=>q.1=((Jq w e).1,(Jq w e).2,()):=by
 rw [Apq]
 unfold Xf Jq
 refine As.cond (fun c=>As.some ?_) fun c=>As.cond (fun c2=>As.some ?_) fun c2=>As.cond (fun c3=>As.some ?_) fun c3=>As.cond (fun c4=>As.some ?_) fun c4=>As.some ?_
 ·rw [c]; rfl
 ·rw [c,c2]; rfl
 ·rw [c,c2,c3]; rfl
 ·rw [c,c2,c3,c4]; rfl
 ·rw [c,c2,c3,c4]; rfl
theorem Bbh:Bs Tryz.prog 203 Apr:=
 A3 (pat:=Dp) [] Hn (A5 (l:=[(29,Azc),(36,Acf),(37,Ato),(38,Alj)]) ⟨Bii,Apo,Bdo,A5i,trivial⟩) trivial Tryz.func203 (de:=fun x=>Xf x.1 x.2.1) (fun x r h=>by have q:Ua x.1 x.2.1=some r:=h; rw [Apq] at q; exact q) fun _=>by kernel_rfl
def Bij:Gc:=⟨[.rd Gv,.rd Arq],[some 16,some 4],[.rd Gv],[some 16]⟩
def Azf:Tb:=tb [(152,Ak8),(202,Ald),(203,Apr)]
def S9:Nat→C2×(Nat→C2):=F0 [(13,⟨[.row 9 0 9 .str,.boxSl 2 1 .str,.boxSl 2 2 Em,.boxSl 2 13 Ax,.boxSl 2 14 C8,.boxSl 2 15 .str,.boxSl 3 1 Do,.boxSl 3 3 tI,.boxSl 4 1 .str,.boxSl 4 2 Em,.boxSl 4 13 Ax,.boxSl 4 14 C8,.boxSl 4 15 .str,.boxSl 5 10 Ax,.boxSl 5 11 Fe],[(2,.lf (.ptr 0 0)),(3,.lf (.ptr 1 0)),(4,.lf (.ptr 2 0)),(5,.lf (.ptr 3 0)),(7,.lf (.d tI)),(8,.lf (.d .bool)),(9,.lf (.row 4)),(10,.lf (.d tI))],[.box 36 [.d Gv],.box 87 [.d Arq],.box 36 [.d Gv],.box 68 [.d Bqq],.row 9 .str]⟩,[(2,⟨[.row 9 0 9 .str,.boxSl 2 1 .str,.boxSl 2 2 Em,.boxSl 2 13 Ax,.boxSl 2 14 C8,.boxSl 2 15 .str,.boxSl 3 1 Do,.boxSl 3 3 tI,.boxSl 4 1 .str,.boxSl 4 2 Em,.boxSl 4 13 Ax,.boxSl 4 14 C8,.boxSl 4 15 .str,.boxSl 5 10 Ax,.boxSl 5 11 Fe],[(2,.lf (.ptr 0 0)),(3,.lf (.ptr 1 0)),(4,.lf (.ptr 2 0)),(5,.lf (.ptr 3 0)),(7,.lf (.d tI)),(8,.lf (.d .bool)),(9,.lf (.row 4))],[.box 36 [.d Gv],.box 87 [.d Arq],.box 36 [.d Gv],.box 68 [.d Bqq],.row 9 .str]⟩)])]
def Alk:Code:=(At (Bb Tryz.f131)).getD 0 .skip
def It (v7:Int) (v8:Bool) (v10:Int) (b0:Bg) (b1:Qw) (b2:Bg) (b3:R0) (r4:List Aa):Nat:=(v7 - v10).toNat + 1
def Q5 {R:Type}  (NX:((Int)×(Bool)×(Int)×Bg×Qw×Bg×R0×(List Aa)×Unit)→Option R) (X2:((Int)×(Bool)×Bg×Qw×Bg×R0×(List Aa)×Unit)→Option R) (v7:Int) (v8:Bool) (v10:Int) (b0:Bg) (b1:Qw) (b2:Bg) (b3:R0) (r4:List Aa):Option R:=
 bif decide (v10 < v7) then bif decide (0≤v10) then bif decide (v10 < nI (List.length b3.2.2.1)) then bif !(List.getD b3.2.2.1 v10.toNat (false,0,Ad,())).1 then bif decide (0≤v10) then bif decide (v10 < nI (List.length b3.2.2.1)) then bif decide ((r4.length + [(List.getD b3.2.2.1 v10.toNat (false,0,Ad,())).2.2.1].length) * 16≤140737488355328) then NX (v7,v8,IntKind.i64.wrap (v10 + 1),b0,b1,b2,b3,r4++[(List.getD b3.2.2.1 v10.toNat (false,0,Ad,())).2.2.1],()) else none else none else none else NX (v7,v8,IntKind.i64.wrap (v10 + 1),b0,b1,b2,b3,r4,()) else none else none else X2 (v7,v8,b0,b1,b2,b3,r4,())
def Fv:Nat→(Int)→(Bool)→(Int)→Bg→Qw→Bg→R0→(List Aa) →  Option ((Int)×(Bool)×Bg×Qw×Bg×R0×(List Aa)×Unit)
 | 0,_,_,_,_,_,_,_,_=>none
 | m + 1,v7,v8,v10,b0,b1,b2,b3,r4=>Q5  (fun d=>Fv m d.1 d.2.1 d.2.2.1 d.2.2.2.1 d.2.2.2.2.1 d.2.2.2.2.2.1 d.2.2.2.2.2.2.1 d.2.2.2.2.2.2.2.1) (fun d=>some (d)) v7 v8 v10 b0 b1 b2 b3 r4
def A5j (d:(Int)×(Bool)×(Int)×Bg×Qw×Bg×R0×(List Aa)×Unit):Option ((Int)×(Bool)×Bg×Qw×Bg×R0×(List Aa)×Unit):=(u4 (u4 Ae)) (Fv ((u4 (u4 Ae)) It d)) d
def Aaa (a0:Bg) (a1:Qw):Option (((Bg×Unit)×(Unit))):=
 bif a1.1==5 then (Fp a0 a1.2.2.2.1).bind fun val=>some val else (Ua a0 a1).bind fun val=>bif !val.1.2.1 then some ((a0,()),()) else bif val.1.1.1 != 0 then some ((a0,()),()) else bif decide (a1.2.2.1≥0) then bif decide (a1.2.2.1≤nI (List.length val.1.1.2.2.1)) then bif decide ((0 + List.length a0.2.2.2.2.2.1) * 16≤140737488355328) then ((fun d=>Fv (It d.1 d.2.1 d.2.2.1 d.2.2.2.1 d.2.2.2.2.1 d.2.2.2.2.2.1 d.2.2.2.2.2.2.1 d.2.2.2.2.2.2.2.1) d.1 d.2.1 d.2.2.1 d.2.2.2.1 d.2.2.2.2.1 d.2.2.2.2.2.1 d.2.2.2.2.2.2.1 d.2.2.2.2.2.2.2.1) (a1.2.2.1,decide (a1.2.2.1≤nI (List.length val.1.1.2.2.1)),0,a0,a1,(0,([],[],()),false,(0,0,0,(0,0,0,0,()),0,0,([],()),()),[],[],()),val.1.1,[]++a0.2.2.2.2.2.1,())).bind fun val=>bif val.2.2.2.1.1==2 then bif decide ((0 + List.length val.2.2.1.2.2.2.2.1) * 24≤140737488355328) then bif decide ((([]++val.2.2.1.2.2.2.2.1).length + [val.2.2.2.2.2.1.2.1.2.2.2.2.2.2.1].length) * 24≤140737488355328) then bif decide (nI val.2.2.2.2.2.2.1.length > 2000) then some ((val.2.2.1,()),()) else bif decide (nI ([]++val.2.2.1.2.2.2.2.1++[val.2.2.2.2.2.1.2.1.2.2.2.2.2.2.1]).length > 200) then some ((val.2.2.1,()),()) else ((G4 val.2.2.1.2.1 val.2.2.2.2.2.1.2.2.1 val.1).bind fun val=>some (val,())).bind fun val_1=>bif val.2.1 then (Fp (val.2.2.1.1,val_1.1,val.2.2.1.2.2.1,val.2.2.1.2.2.2.1,[]++val.2.2.1.2.2.2.2.1++[val.2.2.2.2.2.1.2.1.2.2.2.2.2.2.1],val.2.2.2.2.2.2) val.2.2.2.1.2.2.2.1).bind fun val=>some val else bif val.2.2.2.1.1 != 2 then some (((val.2.2.1.1,val_1.1,true,val.2.2.2.2.2.1.2.1,[val.2.2.2.2.2.1.2.1.2.2.2.2.2.2.1],val.2.2.2.2.2.2),()),()) else some (((val.2.2.1.1,val_1.1,true,val.2.2.2.2.2.1.2.1,[]++val.2.2.1.2.2.2.2.1++[val.2.2.2.2.2.1.2.1.2.2.2.2.2.2.1],val.2.2.2.2.2.2),()),()) else none else none else bif decide (nI val.2.2.2.2.2.2.1.length > 2000) then some ((val.2.2.1,()),()) else bif decide (nI (List.length val.2.2.1.2.2.2.2.1) > 200) then some ((val.2.2.1,()),()) else ((G4 val.2.2.1.2.1 val.2.2.2.2.2.1.2.2.1 val.1).bind fun val=>some (val,())).bind fun val_1=>bif val.2.1 then (Fp (val.2.2.1.1,val_1.1,val.2.2.1.2.2.1,val.2.2.1.2.2.2.1,val.2.2.1.2.2.2.2.1,val.2.2.2.2.2.2) val.2.2.2.1.2.2.2.1).bind fun val=>some val else bif val.2.2.2.1.1 != 2 then some (((val.2.2.1.1,val_1.1,true,val.2.2.2.2.2.1.2.1,[val.2.2.2.2.2.1.2.1.2.2.2.2.2.2.1],val.2.2.2.2.2.2),()),()) else some (((val.2.2.1.1,val_1.1,true,val.2.2.2.2.2.1.2.1,val.2.2.1.2.2.2.2.1,val.2.2.2.2.2.2),()),()) else none else bif decide ((0 + List.length a0.2.2.2.2.2.1) * 16≤140737488355328) then ((fun d=>Fv (It d.1 d.2.1 d.2.2.1 d.2.2.2.1 d.2.2.2.2.1 d.2.2.2.2.2.1 d.2.2.2.2.2.2.1 d.2.2.2.2.2.2.2.1) d.1 d.2.1 d.2.2.1 d.2.2.2.1 d.2.2.2.2.1 d.2.2.2.2.2.1 d.2.2.2.2.2.2.1 d.2.2.2.2.2.2.2.1) (nI (List.length val.1.1.2.2.1),decide (a1.2.2.1≤nI (List.length val.1.1.2.2.1)),0,a0,a1,(0,([],[],()),false,(0,0,0,(0,0,0,0,()),0,0,([],()),()),[],[],()),val.1.1,[]++a0.2.2.2.2.2.1,())).bind fun val=>bif val.2.2.2.1.1==2 then bif decide ((0 + List.length val.2.2.1.2.2.2.2.1) * 24≤140737488355328) then bif decide ((([]++val.2.2.1.2.2.2.2.1).length + [val.2.2.2.2.2.1.2.1.2.2.2.2.2.2.1].length) * 24≤140737488355328) then bif decide (nI val.2.2.2.2.2.2.1.length > 2000) then some ((val.2.2.1,()),()) else bif decide (nI ([]++val.2.2.1.2.2.2.2.1++[val.2.2.2.2.2.1.2.1.2.2.2.2.2.2.1]).length > 200) then some ((val.2.2.1,()),()) else ((G4 val.2.2.1.2.1 val.2.2.2.2.2.1.2.2.1 val.1).bind fun val=>some (val,())).bind fun val_1=>bif val.2.1 then (Fp (val.2.2.1.1,val_1.1,val.2.2.1.2.2.1,val.2.2.1.2.2.2.1,[]++val.2.2.1.2.2.2.2.1++[val.2.2.2.2.2.1.2.1.2.2.2.2.2.2.1],val.2.2.2.2.2.2) val.2.2.2.1.2.2.2.1).bind fun val=>some val else bif val.2.2.2.1.1 != 2 then some (((val.2.2.1.1,val_1.1,true,val.2.2.2.2.2.1.2.1,[val.2.2.2.2.2.1.2.1.2.2.2.2.2.2.1],val.2.2.2.2.2.2),()),()) else some (((val.2.2.1.1,val_1.1,true,val.2.2.2.2.2.1.2.1,[]++val.2.2.1.2.2.2.2.1++[val.2.2.2.2.2.1.2.1.2.2.2.2.2.2.1],val.2.2.2.2.2.2),()),()) else none else none else bif decide (nI val.2.2.2.2.2.2.1.length > 2000) then some ((val.2.2.1,()),()) else bif decide (nI (List.length val.2.2.1.2.2.2.2.1) > 200) then some ((val.2.2.1,()),()) else ((G4 val.2.2.1.2.1 val.2.2.2.2.2.1.2.2.1 val.1).bind fun val=>some (val,())).bind fun val_1=>bif val.2.1 then (Fp (val.2.2.1.1,val_1.1,val.2.2.1.2.2.1,val.2.2.1.2.2.2.1,val.2.2.1.2.2.2.2.1,val.2.2.2.2.2.2) val.2.2.2.1.2.2.2.1).bind fun val=>some val else bif val.2.2.2.1.1 != 2 then some (((val.2.2.1.1,val_1.1,true,val.2.2.2.2.2.1.2.1,[val.2.2.2.2.2.1.2.1.2.2.2.2.2.2.1],val.2.2.2.2.2.2),()),()) else some (((val.2.2.1.1,val_1.1,true,val.2.2.2.2.2.1.2.1,val.2.2.1.2.2.2.2.1,val.2.2.2.2.2.2),()),()) else none else bif decide ((0 + List.length a0.2.2.2.2.2.1) * 16≤140737488355328) then ((fun d=>Fv (It d.1 d.2.1 d.2.2.1 d.2.2.2.1 d.2.2.2.2.1 d.2.2.2.2.2.1 d.2.2.2.2.2.2.1 d.2.2.2.2.2.2.2.1) d.1 d.2.1 d.2.2.1 d.2.2.2.1 d.2.2.2.2.1 d.2.2.2.2.2.1 d.2.2.2.2.2.2.1 d.2.2.2.2.2.2.2.1) (nI (List.length val.1.1.2.2.1),false,0,a0,a1,(0,([],[],()),false,(0,0,0,(0,0,0,0,()),0,0,([],()),()),[],[],()),val.1.1,[]++a0.2.2.2.2.2.1,())).bind fun val=>bif val.2.2.2.1.1==2 then bif decide ((0 + List.length val.2.2.1.2.2.2.2.1) * 24≤140737488355328) then bif decide ((([]++val.2.2.1.2.2.2.2.1).length + [val.2.2.2.2.2.1.2.1.2.2.2.2.2.2.1].length) * 24≤140737488355328) then bif decide (nI val.2.2.2.2.2.2.1.length > 2000) then some ((val.2.2.1,()),()) else bif decide (nI ([]++val.2.2.1.2.2.2.2.1++[val.2.2.2.2.2.1.2.1.2.2.2.2.2.2.1]).length > 200) then some ((val.2.2.1,()),()) else ((G4 val.2.2.1.2.1 val.2.2.2.2.2.1.2.2.1 val.1).bind fun val=>some (val,())).bind fun val_1=>bif val.2.1 then (Fp (val.2.2.1.1,val_1.1,val.2.2.1.2.2.1,val.2.2.1.2.2.2.1,[]++val.2.2.1.2.2.2.2.1++[val.2.2.2.2.2.1.2.1.2.2.2.2.2.2.1],val.2.2.2.2.2.2) val.2.2.2.1.2.2.2.1).bind fun val=>some val else bif val.2.2.2.1.1 != 2 then some (((val.2.2.1.1,val_1.1,true,val.2.2.2.2.2.1.2.1,[val.2.2.2.2.2.1.2.1.2.2.2.2.2.2.1],val.2.2.2.2.2.2),()),()) else some (((val.2.2.1.1,val_1.1,true,val.2.2.2.2.2.1.2.1,[]++val.2.2.1.2.2.2.2.1++[val.2.2.2.2.2.1.2.1.2.2.2.2.2.2.1],val.2.2.2.2.2.2),()),()) else none else none else bif decide (nI val.2.2.2.2.2.2.1.length > 2000) then some ((val.2.2.1,()),()) else bif decide (nI (List.length val.2.2.1.2.2.2.2.1) > 200) then some ((val.2.2.1,()),()) else ((G4 val.2.2.1.2.1 val.2.2.2.2.2.1.2.2.1 val.1).bind fun val=>some (val,())).bind fun val_1=>bif val.2.1 then (Fp (val.2.2.1.1,val_1.1,val.2.2.1.2.2.1,val.2.2.1.2.2.2.1,val.2.2.1.2.2.2.2.1,val.2.2.2.2.2.2) val.2.2.2.1.2.2.2.1).bind fun val=>some val else bif val.2.2.2.1.1 != 2 then some (((val.2.2.1.1,val_1.1,true,val.2.2.2.2.2.1.2.1,[val.2.2.2.2.2.1.2.1.2.2.2.2.2.2.1],val.2.2.2.2.2.2),()),()) else some (((val.2.2.1.1,val_1.1,true,val.2.2.2.2.2.1.2.1,val.2.2.1.2.2.2.2.1,val.2.2.2.2.2.2),()),()) else none
theorem Azg:∃ f,f=@Aaa:=⟨_,rfl⟩
def Iu:=Classical.choose Azg
theorem Azh:@Iu=@Aaa:=Classical.choose_spec Azg
def Aab:SD:=⟨Bij,fun x=>Iu x.1 x.2.1⟩
theorem Bik (v8:Bool) (b0:Bg) (b1:Qw) (b2:Bg) (b3:R0):∀ (k m i:Nat) (n:Int) (r:List Aa),(i:Int) + k=n→k < m→n≤(b3.2.2.1.length:Int)→b3.2.2.1.length≤1073741824→r.length + k≤4000000000→
  ∃ r':List Aa,Fv m n v8 i b0 b1 b2 b3 r=some (n,v8,b0,b1,b2,b3,r',())∧r'.length≤r.length + k∧r'=r++Ep ((b3.2.2.1.drop i).take k)
 | 0,m + 1,i,n,r,hi,_,_,_,_=>by
  refine ⟨r,?_,by omega,by simp [Ep]⟩
  simp only [Fv,Q5]
  rw [Bd (show ¬ (i:Int) < n by omega)]
  rfl
 | k + 1,m + 1,i,n,r,hi,hm,hn,hl,hr=>by
  have e1:IntKind.i64.wrap ((i:Int) + 1)=((i + 1:Nat):Int):=wI (by omega)
  have d1:decide ((i:Int) < n)=true:=Ag (by omega)
  have d2:decide ((i:Int) < nI b3.2.2.1.length)=true:=Ag (by simp only [nI]; omega)
  simp only [Fv,Q5,d1,d2,G9,e1,cond_true,Et]
  have d3:decide ((r.length + 1) * 16≤140737488355328)=true:=Ag (by omega)
  rw [d3]
  cases hc:(b3.2.2.1.getD (Int.toNat (i:Int)) (false,0,Ad,())).1 with
  | true=>
   obtain ⟨r',q1,q2,q3⟩:=Bik v8 b0 b1 b2 b3 k m (i + 1) n r (by omega) (by omega) hn hl (by omega)
   have hc':(b3.2.2.1.getD i zOp).1=true:=hc
   exact ⟨r',q1,by omega,by rw [q3,Bpf k (by omega),hc']; rfl⟩
  | false=>
   obtain ⟨r',q1,q2,q3⟩:=Bik v8 b0 b1 b2 b3 k m (i + 1) n (r++[(b3.2.2.1.getD (Int.toNat (i:Int)) (false,0,Ad,())).2.2.1]) (by omega) (by omega) hn hl (by rw [Ef,Et]; omega)
   rw [Ef,Et] at q2
   have hc':(b3.2.2.1.getD i zOp).1=false:=hc
   exact ⟨r',q1,by omega,by rw [q3,Bpf k (by omega),hc',List.append_assoc]; rfl⟩
theorem Bny {v8:Bool} {b0:Bg} {b1:Qw} {b2:Bg} {b3:R0} {n:Int} {r:List Aa} (h0:0≤n) (hn:n≤(b3.2.2.1.length:Int)) (hl:b3.2.2.1.length≤1073741824) (hr:r.length≤2000000000):
  As (Fv (It n v8 0 b0 b1 b2 b3 r) n v8 0 b0 b1 b2 b3 r) fun q=>∃ r':List Aa,q=(n,v8,b0,b1,b2,b3,r',())∧r'=r++Ep (b3.2.2.1.take n.toNat):=by
 obtain ⟨k,rfl⟩:∃ k:Nat,n=(k:Int):=⟨n.toNat,by omega⟩
 obtain ⟨r',q1,_,q3⟩:=Bik v8 b0 b1 b2 b3 k (It k v8 0 b0 b1 b2 b3 r) 0 k r (by omega) (by simp only [It]; omega) hn hl (by omega)
 exact ⟨_,q1,r',rfl,q3⟩
theorem Blq {w:Bg} (h:WOk w) (e:Qw):As (Iu w e) fun q=>q.1.1=doS w e:=by
 rw [Azh]
 unfold Aaa
 refine As.cond (fun c0=>As.bind (Apb w _) fun q hq=>As.some ?_) fun c0=>?_
 ·rw [hq]; unfold doS; rw [c0]; rfl
 refine As.bind (Bv6 h e) fun q hx=>?_
 obtain ⟨⟨x,asked,⟨⟩⟩,⟨⟩⟩:=q
 dsimp only at hx ⊢
 have hx1:x=(Jq w e).1:=congrArg (fun z=>z.1) hx
 have hx2:asked=(Jq w e).2:=congrArg (fun z=>z.2.1) hx
 have hX:XOk x:=by rw [hx1]; exact XOk.calls h e
 have hS:doS w e=bif !asked || x.1 != 0 then w else Ff w e x:=by unfold doS; rw [c0,hx1,hx2]; rfl
 rw [hS]
 refine As.cond (fun c1=>As.some ?_) fun c1=>As.cond (fun c2=>As.some ?_) fun c2=>?_
 ·rw [c1]; rfl
 ·rw [c1,c2]; rfl
 rw [show (bif !asked || x.1 != 0 then w else Ff w e x)=Ff w e x by rw [c1,c2]; rfl]
 have ho:=hX.ops
 have hl:=h.l
 have hp:=h.n
 have hd:=Ix h.v
 have hperf:∀ n:Int,As (((G4 (w.2.1.1,w.2.1.2.1,()) x.2.2.1 n).bind fun val=>some (val,()))) fun q=>q=(Cn w.2.1 x.2.2.1 n,()):=fun n=>As.bind ⟨_,if_pos (by omega),rfl⟩ fun a ha=>As.some (by rw [ha])
 have fin:∀ (v8:Bool) (m:Int),d5 e x=v8→y7 e x=m→∀ (pst:List B5) (wr:List Aa),wr=K9 w e x→pst=Gp w e x→Tt w e x=false→∀ (y:Option (((Bg×Unit)×Unit))),
   (v8=true→As y fun q=>q.1.1=(w.1,E9 (Cn w.2.1 x.2.2.1 m) e.2.2.2.1,false,b8,pst,wr,()))→(v8=false→As y fun q=>q.1.1=(w.1,Cn w.2.1 x.2.2.1 m,true,x.2.1,(bif e.1==2 then pst else [x.2.1.2.2.2.2.2.2.1]),wr,()))→As y fun q=>q.1.1=Ff w e x:=fun v8 m h1 h2 pst wr h3 h4 h5 y k1 k2=>by
  cases v8 with
  | true=>rw [A02 h5 h1,h2,← h3,← h4]; exact k1 rfl
  | false=>rw [A9e h5 h1,h2,← h3,← h4]; exact k2 rfl
 have full1:decide ((K9 w e x).length > 2000)=true→Ff w e x=w:=fun g=>Ajt (Aju g rfl)
 have full2:∀ {a},decide ((K9 w e x).length > 2000)=a→decide ((Gp w e x).length > 200)=true→Ff w e x=w:=fun g1 g2=>Ajt (by rw [Aju g1 g2,Bool.or_true])
 have full3:decide ((K9 w e x).length > 2000)=false→decide ((Gp w e x).length > 200)=false→Tt w e x=false:=fun g1 g2=>by rw [Aju g1 g2]; rfl
 have n2:∀ {α:Type} (l:List α),decide (nI l.length > 2000)=decide (l.length > 2000):=fun l=>by
  by_cases q:l.length > 2000
  ·rw [Ag q]; exact Ag (by simp only [nI]; omega)
  ·rw [Bd q]; exact Bd (by simp only [nI]; omega)
 have n1:∀ {α:Type} (l:List α),decide (nI l.length > 200)=decide (l.length > 200):=fun l=>by
  by_cases q:l.length > 200
  ·rw [Ag q]; exact Ag (by simp only [nI]; omega)
  ·rw [Bd q]; exact Bd (by simp only [nI]; omega)
 refine As.cond (fun c3=>As.cond (fun c4=>?_) fun c4=>?_) fun c3=>?_
 ·have c3':=Io c3
  have c4':=Io c4
  have hcb:d5 e x=decide (e.2.2.1≤nI x.2.2.1.length):=by unfold d5; rw [Ag (show 0≤e.2.2.1 from c3'),Bool.true_and]
  have hcn:y7 e x=e.2.2.1:=by unfold y7; rw [hcb,c4]; rfl
  refine As.go (Ag (by omega)) ?_
  refine As.bind (Bny c3' c4' ho (by rw [List.nil_append]; omega)) fun q hq=>?_
  obtain ⟨r',rfl,hr⟩:=hq
  dsimp only
  have hw:r'=K9 w e x:=by rw [hr]; unfold K9; rw [hcn,List.nil_append]
  refine As.cond (fun k=>As.go (Ag (by omega)) (As.go (Ag (by rw [List.nil_append,Et]; omega)) ?_)) fun k=>?_
  ·have hpast:[]++w.2.2.2.2.1++[(x.2.1.2.2.2.2.2.2.1.1,())]=Gp w e x:=by unfold Gp; rw [k]; rfl
   rw [hpast,n2 r',n1 (Gp w e x),hw]
   refine As.cond (fun d1=>As.some (full1 d1).symm) fun d1=>As.cond (fun d2=>As.some (full2 d1 d2).symm) fun d2=>?_
   refine As.bind (hperf _) fun q hq=>fin _ _ hcb hcn _ _ rfl rfl (full3 d1 d2) _ (fun g=>?_) fun g=>?_
   ·rw [g,hq]
    exact As.bind (Apb _ _) fun q hq=>As.some (by rw [hq]; rfl)
   ·rw [g,hq]
    refine As.no rfl (As.cond (fun z=>?_) fun _=>As.some (by rw [k]; rfl))
    rw [beq_iff_eq.1 k] at z; cases z
  ·have hpast:w.2.2.2.2.1=Gp w e x:=by unfold Gp; rw [k]; rfl
   rw [n2 r',n1 w.2.2.2.2.1,hw,hpast]
   refine As.cond (fun d1=>As.some (full1 d1).symm) fun d1=>As.cond (fun d2=>As.some (full2 d1 d2).symm) fun d2=>?_
   refine As.bind (hperf _) fun q hq=>fin _ _ hcb hcn _ _ rfl rfl (full3 d1 d2) _ (fun g=>?_) fun g=>?_
   ·rw [g,hq]
    exact As.bind (Apb _ _) fun q hq=>As.some (by rw [hq]; rfl)
   ·rw [g,hq]
    refine As.no rfl (As.cond (fun z=>As.some (by rw [k]; rfl)) fun z=>?_)
    have:(e.1 != 2)=true:=by rw [bne,k]; rfl
    rw [this] at z; cases z
 ·have c3':=Io c3
  have hcb:d5 e x=decide (e.2.2.1≤nI x.2.2.1.length):=by unfold d5; rw [Ag (show 0≤e.2.2.1 from c3'),Bool.true_and]
  have hcn:y7 e x=nI x.2.2.1.length:=by unfold y7; rw [hcb,c4]; rfl
  refine As.go (Ag (by omega)) ?_
  refine As.bind (Bny (by simp only [nI]; omega) (Int.le_refl _) ho (by rw [List.nil_append]; omega)) fun q hq=>?_
  obtain ⟨r',rfl,hr⟩:=hq
  dsimp only
  have hw:r'=K9 w e x:=by rw [hr]; unfold K9; rw [hcn,List.nil_append]
  refine As.cond (fun k=>As.go (Ag (by omega)) (As.go (Ag (by rw [List.nil_append,Et]; omega)) ?_)) fun k=>?_
  ·have hpast:[]++w.2.2.2.2.1++[(x.2.1.2.2.2.2.2.2.1.1,())]=Gp w e x:=by unfold Gp; rw [k]; rfl
   rw [hpast,n2 r',n1 (Gp w e x),hw]
   refine As.cond (fun d1=>As.some (full1 d1).symm) fun d1=>As.cond (fun d2=>As.some (full2 d1 d2).symm) fun d2=>?_
   refine As.bind (hperf _) fun q hq=>fin _ _ hcb hcn _ _ rfl rfl (full3 d1 d2) _ (fun g=>?_) fun g=>?_
   ·rw [g,hq]
    exact As.bind (Apb _ _) fun q hq=>As.some (by rw [hq]; rfl)
   ·rw [g,hq]
    refine As.no rfl (As.cond (fun z=>?_) fun _=>As.some (by rw [k]; rfl))
    rw [beq_iff_eq.1 k] at z; cases z
  ·have hpast:w.2.2.2.2.1=Gp w e x:=by unfold Gp; rw [k]; rfl
   rw [n2 r',n1 w.2.2.2.2.1,hw,hpast]
   refine As.cond (fun d1=>As.some (full1 d1).symm) fun d1=>As.cond (fun d2=>As.some (full2 d1 d2).symm) fun d2=>?_
   refine As.bind (hperf _) fun q hq=>fin _ _ hcb hcn _ _ rfl rfl (full3 d1 d2) _ (fun g=>?_) fun g=>?_
   ·rw [g,hq]
    exact As.bind (Apb _ _) fun q hq=>As.some (by rw [hq]; rfl)
   ·rw [g,hq]
    refine As.no rfl (As.cond (fun z=>As.some (by rw [k]; rfl)) fun z=>?_)
    have:(e.1 != 2)=true:=by rw [bne,k]; rfl
    rw [this] at z; cases z
 ·have c3':=of_decide_eq_false c3
  have hcb:d5 e x=false:=by unfold d5; rw [Bd (show ¬ 0≤e.2.2.1 from c3')]; rfl
  have hcn:y7 e x=nI x.2.2.1.length:=by unfold y7; rw [hcb]; rfl
  refine As.go (Ag (by omega)) ?_
  refine As.bind (Bny (by simp only [nI]; omega) (Int.le_refl _) ho (by rw [List.nil_append]; omega)) fun q hq=>?_
  obtain ⟨r',rfl,hr⟩:=hq
  dsimp only
  have hw:r'=K9 w e x:=by rw [hr]; unfold K9; rw [hcn,List.nil_append]
  refine As.cond (fun k=>As.go (Ag (by omega)) (As.go (Ag (by rw [List.nil_append,Et]; omega)) ?_)) fun k=>?_
  ·have hpast:[]++w.2.2.2.2.1++[(x.2.1.2.2.2.2.2.2.1.1,())]=Gp w e x:=by unfold Gp; rw [k]; rfl
   rw [hpast,n2 r',n1 (Gp w e x),hw]
   refine As.cond (fun d1=>As.some (full1 d1).symm) fun d1=>As.cond (fun d2=>As.some (full2 d1 d2).symm) fun d2=>?_
   refine As.bind (hperf _) fun q hq=>fin _ _ hcb hcn _ _ rfl rfl (full3 d1 d2) _ (fun g=>?_) fun g=>?_
   ·cases g
   ·rw [hq]
    refine As.no rfl (As.cond (fun z=>?_) fun _=>As.some (by rw [k]; rfl))
    rw [beq_iff_eq.1 k] at z; cases z
  ·have hpast:w.2.2.2.2.1=Gp w e x:=by unfold Gp; rw [k]; rfl
   rw [n2 r',n1 w.2.2.2.2.1,hw,hpast]
   refine As.cond (fun d1=>As.some (full1 d1).symm) fun d1=>As.cond (fun d2=>As.some (full2 d1 d2).symm) fun d2=>?_
   refine As.bind (hperf _) fun q hq=>fin _ _ hcb hcn _ _ rfl rfl (full3 d1 d2) _ (fun g=>?_) fun g=>?_
   ·cases g
   ·rw [hq]
    refine As.no rfl (As.cond (fun z=>As.some (by rw [k]; rfl)) fun z=>?_)
    have:(e.1 != 2)=true:=by rw [bne,k]; rfl
    rw [this] at z; cases z
def All {R:Type} (k:Kt R):=(I3 (S9 13) (.exit 0) 2 k)
def A4f {R:Type}:Lt R S9:=(Ea (pat:=S9) 13 (fun d k=>(A5j d).bind (All k)) Hn)
theorem Azi:A2 Tryz.prog Azf:=A5 ⟨A48,A5a,Bbh,trivial⟩
theorem A5k {R:Type}:A4 Tryz.prog R 124 0 S9 A4f Alk:=
 B8 (cfg:=⟨Azf,0,124,S9⟩) 13 [] (fun NX X (d:(Int)×(Bool)×(Int)×Bg×Qw×Bg×R0×(List Aa)×Unit)=>(u4 (u4 Ae)) (Q5  NX X) d) (fun m d=>(u4 (u4 Ae)) (Fv m) d) (fun d=>(u4 (u4 Ae)) It d) All Azi trivial (fun f NX (d:(Int)×(Bool)×(Int)×Bg×Qw×Bg×R0×(List Aa)×Unit)=>by simp only [u4,Ac,Ae]; unfold Q5; simp only [nb])
theorem Akh:Bs Tryz.prog 131 Aab:=
 A3 (pat:=S9) [Alk] A4f Azi ⟨A5k,trivial⟩ Tryz.func131 (de:=fun x=>Aaa x.1 x.2.1) (fun x r h=>by have q:Iu x.1 x.2.1=some r:=h; rw [Azh] at q; exact q) fun _=>by kernel_rfl
def Bnz:Gc:=⟨[.rd Gv,.rd Arq],[some 16,some 4],[.rd Gv],[some 16]⟩
def Aki (a0:Bg) (a1:Qw):Option (((Bg×Unit)×(Unit))):=
 bif !Gt a0 then some (((0,([],[],()),false,(0,0,0,(0,0,0,0,()),0,0,([],()),()),[],[],()),()),()) else (Jm a0).bind fun val=>(Iu (val.1.1,(val.1.2.1,val.1.2.2.1,()),val.1.2.2.2.1,(val.1.2.2.2.2.1,val.1.2.2.2.2.2.1,val.1.2.2.2.2.2.2.1,(val.1.2.2.2.2.2.2.2.1,val.1.2.2.2.2.2.2.2.2.1,val.1.2.2.2.2.2.2.2.2.2.1,val.1.2.2.2.2.2.2.2.2.2.2.1,()),val.1.2.2.2.2.2.2.2.2.2.2.2.1,val.1.2.2.2.2.2.2.2.2.2.2.2.2.1,(val.1.2.2.2.2.2.2.2.2.2.2.2.2.2.1,()),()),val.1.2.2.2.2.2.2.2.2.2.2.2.2.2.2) a1).bind fun val=>(Jm val.1.1).bind fun val=>some (((val.1.1,(val.1.2.1,val.1.2.2.1,()),val.1.2.2.2.1,(val.1.2.2.2.2.1,val.1.2.2.2.2.2.1,val.1.2.2.2.2.2.2.1,(val.1.2.2.2.2.2.2.2.1,val.1.2.2.2.2.2.2.2.2.1,val.1.2.2.2.2.2.2.2.2.2.1,val.1.2.2.2.2.2.2.2.2.2.2.1,()),val.1.2.2.2.2.2.2.2.2.2.2.2.1,val.1.2.2.2.2.2.2.2.2.2.2.2.2.1,(val.1.2.2.2.2.2.2.2.2.2.2.2.2.2.1,()),()),val.1.2.2.2.2.2.2.2.2.2.2.2.2.2.2),()),())
theorem Bbi:∃ f,f=@Aki:=⟨_,rfl⟩
def Aih:=Classical.choose Bbi
theorem Bbj:@Aih=@Aki:=Classical.choose_spec Bbi
def Bbk:SD:=⟨Bnz,fun x=>Aih x.1 x.2.1⟩
theorem Bx2 {w:Bg} (hv:Bf w=true) (h40:w.2.1.1.length≤40) (e:Qw):As (Aih w e) fun q=>q.1.1=doS w e:=by
 have hw:=Bfp hv h40
 rw [Bbj]
 unfold Aki
 have e0:Gt w=Bf w:=rfl
 rw [e0,hv]
 refine As.no rfl (As.bind (Ayu hw) fun q hq=>?_)
 have e1:∀ {α:Type} (f:(Bg×Unit)×Unit→Option α) (S:α→Prop),As ((Iu (unW q.1) e).bind f) S→As ((Iu (unW q.1) e).bind f) S:=fun f S h=>h
 refine As.bind (Q:=fun z=>z.1.1=doS w e) (by
  show As (Iu (unW q.1) e) _
  rw [hq]
  exact Blq hw e) fun z hz=>?_
 refine As.bind (Ayu (w:=z.1.1) (by rw [hz]; exact hw.doI e)) fun y hy=>As.some ?_
 show unW y.1=_
 rw [hy,hz]
theorem Bn0:Bs Tryz.prog 43 Bbk:=
 A3 (pat:=Dp) [] Hn (A5 (l:=[(15,Qp),(130,Ab0),(131,Aab)]) ⟨U9,Ao7,Akh,trivial⟩) trivial Tryz.func43 (de:=fun x=>Aki x.1 x.2.1) (fun x r h=>by have q:Aih x.1 x.2.1=some r:=h; rw [Bbj] at q; exact q) fun _=>by kernel_rfl
def Bi (s:E5) (b:List Be):R0:=Es s b
def Aps:Gc:=⟨[.rd Yf,.rd (.sl Do)],[some 10,none],[.rd tI,.rd tI,.rd tI,.rd tI,.rd tI,.rd tI,.rd tI,.rd tI,.rd tI,.rd tI,.own 157 Ax,.own 142 Fe],[some 12]⟩
def Bbl:SD:=⟨Aps,fun x=>some (((Bi x.1 x.2.1).1,(Bi x.1 x.2.1).2.1.1,(Bi x.1 x.2.1).2.1.2.1,(Bi x.1 x.2.1).2.1.2.2.1,(Bi x.1 x.2.1).2.1.2.2.2.1.1,(Bi x.1 x.2.1).2.1.2.2.2.1.2.1,(Bi x.1 x.2.1).2.1.2.2.2.1.2.2.1,(Bi x.1 x.2.1).2.1.2.2.2.1.2.2.2.1,(Bi x.1 x.2.1).2.1.2.2.2.2.1,(Bi x.1 x.2.1).2.1.2.2.2.2.2.1,(Bi x.1 x.2.1).2.1.2.2.2.2.2.2.1.1,(Bi x.1 x.2.1).2.2.1,()),(()))⟩
def Apt:Tb:=tb [(96,O9),(99,Zj),(101,Afz),(102,z6),(117,Ma),(118,Ha),(119,Aow),(120,Rp)]
def Pz:Nat→C2×(Nat→C2):=F0 [(16,⟨[.sl 8 0 .str,.sl 69 0 .str,.boxSl 2 9 Ax,.boxRow 4 10 157 Ax,.boxRow 4 11 142 Fe,.boxRow 9 10 157 Ax,.boxRow 9 11 142 Fe],[(2,.lf (.ptr 0 0)),(4,.lf (.ptr 1 0)),(8,.lf (.d (.sl .str))),(9,.lf (.ptr 2 0)),(69,.lf (.d (.sl .str))),(70,.lf (.d tI)),(71,.lf (.d tI))],[.box 33 [.d tI,.d tI,.d tI,.d tI,.d tI,.d tI,.d tI,.d tI,.d tI,.d (.sl Ax)],.box 68 [.d tI,.d tI,.d tI,.d tI,.d tI,.d tI,.d tI,.d tI,.d tI,.d tI,.row 3,.row 4],.box 68 [.d tI,.d tI,.d tI,.d tI,.d tI,.d tI,.d tI,.d tI,.d tI,.d tI,.row 5,.row 6],.row 157 Ax,.row 142 Fe,.row 157 Ax,.row 142 Fe]⟩,[(2,⟨[.sl 8 0 .str,.boxRow 4 10 157 Ax,.boxRow 4 11 142 Fe,.boxRow 9 10 157 Ax,.boxRow 9 11 142 Fe],[(4,.lf (.ptr 0 0)),(8,.lf (.d (.sl .str))),(9,.lf (.ptr 1 0))],[.box 68 [.d tI,.d tI,.d tI,.d tI,.d tI,.d tI,.d tI,.d tI,.d tI,.d tI,.row 2,.row 3],.box 68 [.d tI,.d tI,.d tI,.d tI,.d tI,.d tI,.d tI,.d tI,.d tI,.d tI,.row 4,.row 5],.row 157 Ax,.row 142 Fe,.row 157 Ax,.row 142 Fe]⟩)])]
def Aes:Code:=(At (Bb Tryz.f33)).getD 0 .skip
def Kj (v8 v69:List Aa) (v70 v71:Int) (b0_0 b0_1:Int) (b0_2 b0_3:Int) (b0_4 b0_5:Int) (b0_6 b0_7 b0_8:Int) (b0_9:List A1) (b1_0 b1_1:Int) (b1_2 b1_3:Int) (b1_4 b1_5:Int) (b1_6 b1_7:Int) (b1_8 b1_9:Int) (b2_0 b2_1:Int) (b2_2 b2_3:Int) (b2_4 b2_5:Int) (b2_6 b2_7:Int) (b2_8 b2_9:Int) (r3:List A1) (r4:List Dl) (r5:List A1) (r6:List Dl):Nat:=(v70 - v71).toNat + 1
def N3 {R:Type}  (NX:((List Aa)×(List Aa)×(Int)×(Int)×(Int)×(Int)×(Int)×(Int)×(Int)×(Int)×(Int)×(Int)×(Int)×(List A1)×(Int)×(Int)×(Int)×(Int)×(Int)×(Int)×(Int)×(Int)×(Int)×(Int)×(Int)×(Int)×(Int)×(Int)×(Int)×(Int)×(Int)×(Int)×(Int)×(Int)×(List A1)×(List Dl)×(List A1)×(List Dl)×Unit)→Option R) (X2:((List Aa)×(Int)×(Int)×(Int)×(Int)×(Int)×(Int)×(Int)×(Int)×(Int)×(Int)×(Int)×(Int)×(Int)×(Int)×(Int)×(Int)×(Int)×(Int)×(Int)×(Int)×(List A1)×(List Dl)×(List A1)×(List Dl)×Unit)→Option R) (v8:List Aa) (v69:List Aa) (v70:Int) (v71:Int) (b0_0:Int) (b0_1:Int) (b0_2:Int) (b0_3:Int) (b0_4:Int) (b0_5:Int) (b0_6:Int) (b0_7:Int) (b0_8:Int) (b0_9:List A1) (b1_0:Int) (b1_1:Int) (b1_2:Int) (b1_3:Int) (b1_4:Int) (b1_5:Int) (b1_6:Int) (b1_7:Int) (b1_8:Int) (b1_9:Int) (b2_0:Int) (b2_1:Int) (b2_2:Int) (b2_3:Int) (b2_4:Int) (b2_5:Int) (b2_6:Int) (b2_7:Int) (b2_8:Int) (b2_9:Int) (r3:List A1) (r4:List Dl) (r5:List A1) (r6:List Dl):Option R:=
 bif decide (v71 < v70) then bif decide (0≤v71) then bif decide (v71 < nI v69.length) then bif decide ((r6.length + [(false,IntKind.i64.wrap (IntKind.i64.wrap (Df b0_4 b0_1 + b0_7) + v71),v69.getD v71.toNat (Ad),())].length) * 32≤140737488355328) then NX (v8,v69,v70,IntKind.i64.wrap (v71 + 1),b0_0,b0_1,b0_2,b0_3,b0_4,b0_5,b0_6,b0_7,b0_8,b0_9,b1_0,b1_1,b1_2,b1_3,b1_4,b1_5,b1_6,b1_7,b1_8,b1_9,b2_0,b2_1,b2_2,b2_3,b2_4,b2_5,b2_6,b2_7,b2_8,b2_9,r3,r4,r5,r6++[(false,IntKind.i64.wrap (IntKind.i64.wrap (Df b0_4 b0_1 + b0_7) + v71),v69.getD v71.toNat (Ad),())],()) else none else none else none else X2 (v8,b1_0,b1_1,b1_2,b1_3,b1_4,b1_5,b1_6,b1_7,b1_8,b1_9,b2_0,b2_1,b2_2,b2_3,b2_4,b2_5,b2_6,b2_7,b2_8,b2_9,r3,r4,r5,r6,())
def D8:Nat→(List Aa)→(List Aa)→(Int)→(Int)→(Int)→(Int)→(Int)→(Int)→(Int)→(Int)→(Int)→(Int)→(Int)→(List A1)→(Int)→(Int)→(Int)→(Int)→(Int)→(Int)→(Int)→(Int)→(Int)→(Int)→(Int)→(Int)→(Int)→(Int)→(Int)→(Int)→(Int)→(Int)→(Int)→(Int)→(List A1)→(List Dl)→(List A1)→(List Dl) →  Option ((List Aa)×(Int)×(Int)×(Int)×(Int)×(Int)×(Int)×(Int)×(Int)×(Int)×(Int)×(Int)×(Int)×(Int)×(Int)×(Int)×(Int)×(Int)×(Int)×(Int)×(Int)×(List A1)×(List Dl)×(List A1)×(List Dl)×Unit)
 | 0,_,_,_,_,_,_,_,_,_,_,_,_,_,_,_,_,_,_,_,_,_,_,_,_,_,_,_,_,_,_,_,_,_,_,_,_,_,_=>none
 | m + 1,v8,v69,v70,v71,b0_0,b0_1,b0_2,b0_3,b0_4,b0_5,b0_6,b0_7,b0_8,b0_9,b1_0,b1_1,b1_2,b1_3,b1_4,b1_5,b1_6,b1_7,b1_8,b1_9,b2_0,b2_1,b2_2,b2_3,b2_4,b2_5,b2_6,b2_7,b2_8,b2_9,r3,r4,r5,r6=>N3  (fun d=>D8 m d.1 d.2.1 d.2.2.1 d.2.2.2.1 d.2.2.2.2.1 d.2.2.2.2.2.1 d.2.2.2.2.2.2.1 d.2.2.2.2.2.2.2.1 d.2.2.2.2.2.2.2.2.1 d.2.2.2.2.2.2.2.2.2.1 d.2.2.2.2.2.2.2.2.2.2.1 d.2.2.2.2.2.2.2.2.2.2.2.1 d.2.2.2.2.2.2.2.2.2.2.2.2.1 d.2.2.2.2.2.2.2.2.2.2.2.2.2.1 d.2.2.2.2.2.2.2.2.2.2.2.2.2.2.1 d.2.2.2.2.2.2.2.2.2.2.2.2.2.2.2.1 d.2.2.2.2.2.2.2.2.2.2.2.2.2.2.2.2.1 d.2.2.2.2.2.2.2.2.2.2.2.2.2.2.2.2.2.1 d.2.2.2.2.2.2.2.2.2.2.2.2.2.2.2.2.2.2.1 d.2.2.2.2.2.2.2.2.2.2.2.2.2.2.2.2.2.2.2.1 d.2.2.2.2.2.2.2.2.2.2.2.2.2.2.2.2.2.2.2.2.1 d.2.2.2.2.2.2.2.2.2.2.2.2.2.2.2.2.2.2.2.2.2.1 d.2.2.2.2.2.2.2.2.2.2.2.2.2.2.2.2.2.2.2.2.2.2.1 d.2.2.2.2.2.2.2.2.2.2.2.2.2.2.2.2.2.2.2.2.2.2.2.1 d.2.2.2.2.2.2.2.2.2.2.2.2.2.2.2.2.2.2.2.2.2.2.2.2.1 d.2.2.2.2.2.2.2.2.2.2.2.2.2.2.2.2.2.2.2.2.2.2.2.2.2.1 d.2.2.2.2.2.2.2.2.2.2.2.2.2.2.2.2.2.2.2.2.2.2.2.2.2.2.1 d.2.2.2.2.2.2.2.2.2.2.2.2.2.2.2.2.2.2.2.2.2.2.2.2.2.2.2.1 d.2.2.2.2.2.2.2.2.2.2.2.2.2.2.2.2.2.2.2.2.2.2.2.2.2.2.2.2.1 d.2.2.2.2.2.2.2.2.2.2.2.2.2.2.2.2.2.2.2.2.2.2.2.2.2.2.2.2.2.1 d.2.2.2.2.2.2.2.2.2.2.2.2.2.2.2.2.2.2.2.2.2.2.2.2.2.2.2.2.2.2.1 d.2.2.2.2.2.2.2.2.2.2.2.2.2.2.2.2.2.2.2.2.2.2.2.2.2.2.2.2.2.2.2.1 d.2.2.2.2.2.2.2.2.2.2.2.2.2.2.2.2.2.2.2.2.2.2.2.2.2.2.2.2.2.2.2.2.1 d.2.2.2.2.2.2.2.2.2.2.2.2.2.2.2.2.2.2.2.2.2.2.2.2.2.2.2.2.2.2.2.2.2.1 d.2.2.2.2.2.2.2.2.2.2.2.2.2.2.2.2.2.2.2.2.2.2.2.2.2.2.2.2.2.2.2.2.2.2.1 d.2.2.2.2.2.2.2.2.2.2.2.2.2.2.2.2.2.2.2.2.2.2.2.2.2.2.2.2.2.2.2.2.2.2.2.1 d.2.2.2.2.2.2.2.2.2.2.2.2.2.2.2.2.2.2.2.2.2.2.2.2.2.2.2.2.2.2.2.2.2.2.2.2.1 d.2.2.2.2.2.2.2.2.2.2.2.2.2.2.2.2.2.2.2.2.2.2.2.2.2.2.2.2.2.2.2.2.2.2.2.2.2.1) (fun d=>some (d)) v8 v69 v70 v71 b0_0 b0_1 b0_2 b0_3 b0_4 b0_5 b0_6 b0_7 b0_8 b0_9 b1_0 b1_1 b1_2 b1_3 b1_4 b1_5 b1_6 b1_7 b1_8 b1_9 b2_0 b2_1 b2_2 b2_3 b2_4 b2_5 b2_6 b2_7 b2_8 b2_9 r3 r4 r5 r6
def Azj (d:(List Aa)×(List Aa)×(Int)×(Int)×(Int)×(Int)×(Int)×(Int)×(Int)×(Int)×(Int)×(Int)×(Int)×(List A1)×(Int)×(Int)×(Int)×(Int)×(Int)×(Int)×(Int)×(Int)×(Int)×(Int)×(Int)×(Int)×(Int)×(Int)×(Int)×(Int)×(Int)×(Int)×(Int)×(Int)×(List A1)×(List Dl)×(List A1)×(List Dl)×Unit):Option ((List Aa)×(Int)×(Int)×(Int)×(Int)×(Int)×(Int)×(Int)×(Int)×(Int)×(Int)×(Int)×(Int)×(Int)×(Int)×(Int)×(Int)×(Int)×(Int)×(Int)×(Int)×(List A1)×(List Dl)×(List A1)×(List Dl)×Unit):=(u4 (u4 (u4 (u4 (u4 (u4 (u4 (u4 (u4 (Ac (Ac Ae))))))))))) (D8 ((u4 (u4 (u4 (u4 (u4 (u4 (u4 (u4 (u4 (Ac (Ac Ae))))))))))) Kj d)) d
def Ach (a0:E5) (a1:List Be):Option ((((Int)×(Int)×(Int)×(Int)×(Int)×(Int)×(Int)×(Int)×(Int)×(Int)×(List A1)×(List Dl)×Unit)×(Unit))):=
 bif !H3 a0 then some ((1,0,0,0,0,0,0,0,0,0,[],[],()),()) else bif !H0 a1 then some ((1,0,0,0,0,0,0,0,0,0,[],[],()),()) else bif (G6 a0.2.2.2.2.2.2.1 a1).2 != 0 then some (((G6 a0.2.2.2.2.2.2.1 a1).2,0,0,0,0,0,0,0,0,0,[],[],()),()) else bif decide (Qb (G6 a0.2.2.2.2.2.2.1 a1).1 a0.1 > IntKind.i64.wrap (Bv a0.2.1 - 1)) then some ((3,0,0,0,0,0,0,0,0,0,[],[],()),()) else ((Vc (F5 a1) a0.2.2.1 (IntKind.i64.wrap (a0.2.2.2.1.2.2.1 + a0.2.2.2.2.1)) a0.1).bind fun val=>some ((val,()),())).bind fun val=>bif decide (nI (List.length val.1.1) > IntKind.i64.wrap (Bv a0.2.1 - a0.2.2.2.2.1)) then some ((4,0,0,0,0,0,0,0,0,0,[],[],()),()) else ((fun d=>D8 (Kj d.1 d.2.1 d.2.2.1 d.2.2.2.1 d.2.2.2.2.1 d.2.2.2.2.2.1 d.2.2.2.2.2.2.1 d.2.2.2.2.2.2.2.1 d.2.2.2.2.2.2.2.2.1 d.2.2.2.2.2.2.2.2.2.1 d.2.2.2.2.2.2.2.2.2.2.1 d.2.2.2.2.2.2.2.2.2.2.2.1 d.2.2.2.2.2.2.2.2.2.2.2.2.1 d.2.2.2.2.2.2.2.2.2.2.2.2.2.1 d.2.2.2.2.2.2.2.2.2.2.2.2.2.2.1 d.2.2.2.2.2.2.2.2.2.2.2.2.2.2.2.1 d.2.2.2.2.2.2.2.2.2.2.2.2.2.2.2.2.1 d.2.2.2.2.2.2.2.2.2.2.2.2.2.2.2.2.2.1 d.2.2.2.2.2.2.2.2.2.2.2.2.2.2.2.2.2.2.1 d.2.2.2.2.2.2.2.2.2.2.2.2.2.2.2.2.2.2.2.1 d.2.2.2.2.2.2.2.2.2.2.2.2.2.2.2.2.2.2.2.2.1 d.2.2.2.2.2.2.2.2.2.2.2.2.2.2.2.2.2.2.2.2.2.1 d.2.2.2.2.2.2.2.2.2.2.2.2.2.2.2.2.2.2.2.2.2.2.1 d.2.2.2.2.2.2.2.2.2.2.2.2.2.2.2.2.2.2.2.2.2.2.2.1 d.2.2.2.2.2.2.2.2.2.2.2.2.2.2.2.2.2.2.2.2.2.2.2.2.1 d.2.2.2.2.2.2.2.2.2.2.2.2.2.2.2.2.2.2.2.2.2.2.2.2.2.1 d.2.2.2.2.2.2.2.2.2.2.2.2.2.2.2.2.2.2.2.2.2.2.2.2.2.2.1 d.2.2.2.2.2.2.2.2.2.2.2.2.2.2.2.2.2.2.2.2.2.2.2.2.2.2.2.1 d.2.2.2.2.2.2.2.2.2.2.2.2.2.2.2.2.2.2.2.2.2.2.2.2.2.2.2.2.1 d.2.2.2.2.2.2.2.2.2.2.2.2.2.2.2.2.2.2.2.2.2.2.2.2.2.2.2.2.2.1 d.2.2.2.2.2.2.2.2.2.2.2.2.2.2.2.2.2.2.2.2.2.2.2.2.2.2.2.2.2.2.1 d.2.2.2.2.2.2.2.2.2.2.2.2.2.2.2.2.2.2.2.2.2.2.2.2.2.2.2.2.2.2.2.1 d.2.2.2.2.2.2.2.2.2.2.2.2.2.2.2.2.2.2.2.2.2.2.2.2.2.2.2.2.2.2.2.2.1 d.2.2.2.2.2.2.2.2.2.2.2.2.2.2.2.2.2.2.2.2.2.2.2.2.2.2.2.2.2.2.2.2.2.1 d.2.2.2.2.2.2.2.2.2.2.2.2.2.2.2.2.2.2.2.2.2.2.2.2.2.2.2.2.2.2.2.2.2.2.1 d.2.2.2.2.2.2.2.2.2.2.2.2.2.2.2.2.2.2.2.2.2.2.2.2.2.2.2.2.2.2.2.2.2.2.2.1 d.2.2.2.2.2.2.2.2.2.2.2.2.2.2.2.2.2.2.2.2.2.2.2.2.2.2.2.2.2.2.2.2.2.2.2.2.1 d.2.2.2.2.2.2.2.2.2.2.2.2.2.2.2.2.2.2.2.2.2.2.2.2.2.2.2.2.2.2.2.2.2.2.2.2.2.1) d.1 d.2.1 d.2.2.1 d.2.2.2.1 d.2.2.2.2.1 d.2.2.2.2.2.1 d.2.2.2.2.2.2.1 d.2.2.2.2.2.2.2.1 d.2.2.2.2.2.2.2.2.1 d.2.2.2.2.2.2.2.2.2.1 d.2.2.2.2.2.2.2.2.2.2.1 d.2.2.2.2.2.2.2.2.2.2.2.1 d.2.2.2.2.2.2.2.2.2.2.2.2.1 d.2.2.2.2.2.2.2.2.2.2.2.2.2.1 d.2.2.2.2.2.2.2.2.2.2.2.2.2.2.1 d.2.2.2.2.2.2.2.2.2.2.2.2.2.2.2.1 d.2.2.2.2.2.2.2.2.2.2.2.2.2.2.2.2.1 d.2.2.2.2.2.2.2.2.2.2.2.2.2.2.2.2.2.1 d.2.2.2.2.2.2.2.2.2.2.2.2.2.2.2.2.2.2.1 d.2.2.2.2.2.2.2.2.2.2.2.2.2.2.2.2.2.2.2.1 d.2.2.2.2.2.2.2.2.2.2.2.2.2.2.2.2.2.2.2.2.1 d.2.2.2.2.2.2.2.2.2.2.2.2.2.2.2.2.2.2.2.2.2.1 d.2.2.2.2.2.2.2.2.2.2.2.2.2.2.2.2.2.2.2.2.2.2.1 d.2.2.2.2.2.2.2.2.2.2.2.2.2.2.2.2.2.2.2.2.2.2.2.1 d.2.2.2.2.2.2.2.2.2.2.2.2.2.2.2.2.2.2.2.2.2.2.2.2.1 d.2.2.2.2.2.2.2.2.2.2.2.2.2.2.2.2.2.2.2.2.2.2.2.2.2.1 d.2.2.2.2.2.2.2.2.2.2.2.2.2.2.2.2.2.2.2.2.2.2.2.2.2.2.1 d.2.2.2.2.2.2.2.2.2.2.2.2.2.2.2.2.2.2.2.2.2.2.2.2.2.2.2.1 d.2.2.2.2.2.2.2.2.2.2.2.2.2.2.2.2.2.2.2.2.2.2.2.2.2.2.2.2.1 d.2.2.2.2.2.2.2.2.2.2.2.2.2.2.2.2.2.2.2.2.2.2.2.2.2.2.2.2.2.1 d.2.2.2.2.2.2.2.2.2.2.2.2.2.2.2.2.2.2.2.2.2.2.2.2.2.2.2.2.2.2.1 d.2.2.2.2.2.2.2.2.2.2.2.2.2.2.2.2.2.2.2.2.2.2.2.2.2.2.2.2.2.2.2.1 d.2.2.2.2.2.2.2.2.2.2.2.2.2.2.2.2.2.2.2.2.2.2.2.2.2.2.2.2.2.2.2.2.1 d.2.2.2.2.2.2.2.2.2.2.2.2.2.2.2.2.2.2.2.2.2.2.2.2.2.2.2.2.2.2.2.2.2.1 d.2.2.2.2.2.2.2.2.2.2.2.2.2.2.2.2.2.2.2.2.2.2.2.2.2.2.2.2.2.2.2.2.2.2.1 d.2.2.2.2.2.2.2.2.2.2.2.2.2.2.2.2.2.2.2.2.2.2.2.2.2.2.2.2.2.2.2.2.2.2.2.1 d.2.2.2.2.2.2.2.2.2.2.2.2.2.2.2.2.2.2.2.2.2.2.2.2.2.2.2.2.2.2.2.2.2.2.2.2.1 d.2.2.2.2.2.2.2.2.2.2.2.2.2.2.2.2.2.2.2.2.2.2.2.2.2.2.2.2.2.2.2.2.2.2.2.2.2.1) (val.1.1,val.1.1,nI (List.length val.1.1),0,a0.1,a0.2.1,a0.2.2.1,a0.2.2.2.1.1,a0.2.2.2.1.2.1,a0.2.2.2.1.2.2.1,a0.2.2.2.1.2.2.2.1,a0.2.2.2.2.1,a0.2.2.2.2.2.1,a0.2.2.2.2.2.2.1.1,0,0,0,0,0,0,0,0,0,0,0,a0.1,a0.2.1,a0.2.2.1,a0.2.2.2.1.1,a0.2.2.2.1.2.1,a0.2.2.2.1.2.2.1,a0.2.2.2.1.2.2.2.1,a0.2.2.2.2.1,a0.2.2.2.2.2.1,[],[],(G6 a0.2.2.2.2.2.2.1 a1).1.1,[],())).bind fun val=>some ((val.2.2.2.2.2.2.2.2.2.2.2.1,val.2.2.2.2.2.2.2.2.2.2.2.2.1,val.2.2.2.2.2.2.2.2.2.2.2.2.2.1,val.2.2.2.2.2.2.2.2.2.2.2.2.2.2.1,val.2.2.2.2.2.2.2.2.2.2.2.2.2.2.2.1,val.2.2.2.2.2.2.2.2.2.2.2.2.2.2.2.2.1,val.2.2.2.2.2.2.2.2.2.2.2.2.2.2.2.2.2.1,val.2.2.2.2.2.2.2.2.2.2.2.2.2.2.2.2.2.2.1,IntKind.i64.wrap (val.2.2.2.2.2.2.2.2.2.2.2.2.2.2.2.2.2.2.2.1 + nI (List.length val.1)),IntKind.i64.wrap (val.2.2.2.2.2.2.2.2.2.2.2.2.2.2.2.2.2.2.2.2.1 + nI (List.length val.1)),val.2.2.2.2.2.2.2.2.2.2.2.2.2.2.2.2.2.2.2.2.2.2.2),())
theorem Bdp (p0 p1 p2 p3 p4 p5 p6 p7 p8 q0 q1 q2 q3 q4 q5 q6 q7 q8 q9:Int) (p9 r5:List A1) (L:List Aa) (hL:L.length≤4001) (hH:0≤p4∧p4≤1) (hU:0≤p7∧p7≤99):
  D8 (Kj L L (nI L.length) 0 p0 p1 p2 p3 p4 p5 p6 p7 p8 p9 0 0 0 0 0 0 0 0 0 0 q0 q1 q2 q3 q4 q5 q6 q7 q8 q9 [] [] r5 []) L L (nI L.length) 0 p0 p1 p2 p3 p4 p5 p6 p7 p8 p9 0 0 0 0 0 0 0 0 0 0 q0 q1 q2 q3 q4 q5 q6 q7 q8 q9 [] [] r5 []=some (L,0,0,0,0,0,0,0,0,0,0,q0,q1,q2,q3,q4,q5,q6,q7,q8,q9,[],[],r5,(C7 (Bn p4 p1 + p7) L),()):=by
 have hm:=Arg (n:=p1) hH
 have e0:Df p4 p1=Bn p4 p1:=by
  show IntKind.i64.wrap (2 + IntKind.i64.wrap (p4 * Al p1))=2 + p4 * Al p1
  rw [Aj (n:=p4 * Al p1) (by omega) (by omega),Aj (by omega) (by omega)]
 have hB:0≤Bn p4 p1∧Bn p4 p1≤101:=by unfold Bn; omega
 have hL:=E4 (xs:=L) z0 (fun i (r:List Dl)=>i≤4001∧r.length=i) (fun (i:Nat) x r=>r++[L6 (Bn p4 p1 + p7 + (i:Int)) x]) (g:=fun m i r=>D8 m L L (nI L.length) i p0 p1 p2 p3 p4 p5 p6 p7 p8 p9 0 0 0 0 0 0 0 0 0 0 q0 q1 q2 q3 q4 q5 q6 q7 q8 q9 [] [] r5 r) (ok:=fun r=>(L,0,0,0,0,0,0,0,0,0,0,q0,q1,q2,q3,q4,q5,q6,q7,q8,q9,[],[],r5,r,())) (fun m i r hi hI=>by
   show D8 (m + 1) L L (nI L.length) i p0 p1 p2 p3 p4 p5 p6 p7 p8 p9 0 0 0 0 0 0 0 0 0 0 q0 q1 q2 q3 q4 q5 q6 q7 q8 q9 [] [] r5 r=_
   simp only [D8,N3]
   obtain ⟨h1,h2⟩:=hI
   rw [Xv hi,G9,wI (show i < 4611686018427387904 by omega),En,e0,Aj (n:=Bn p4 p1 + p7) (by omega) (by omega),Aj (n:=Bn p4 p1 + p7 + (i:Int)) (by omega) (by omega),Et,Ag (show (r.length + 1) * 32≤140737488355328 by omega)]
   rfl) (fun i r hi hI=>⟨by omega,by rw [Ef,Et,hI.2]⟩) (fun m r hI=>by
   show D8 (m + 1) L L (nI L.length) (L.length:Int) p0 p1 p2 p3 p4 p5 p6 p7 p8 p9 0 0 0 0 0 0 0 0 0 0 q0 q1 q2 q3 q4 q5 q6 q7 q8 q9 [] [] r5 r=_
   simp only [D8,N3]
   rw [Od]
   rfl) (Kj L L (nI L.length) 0 p0 p1 p2 p3 p4 p5 p6 p7 p8 p9 0 0 0 0 0 0 0 0 0 0 q0 q1 q2 q3 q4 q5 q6 q7 q8 q9 [] [] r5 []) 0 [] (by omega) (by simp [Kj,nI]) ⟨by omega,rfl⟩
 rw [Are,List.drop_zero,List.nil_append,show Bn p4 p1 + p7 + ((0:Nat):Int)=Bn p4 p1 + p7 by omega] at hL
 exact hL
theorem Bbm (a0:E5) (a1:List Be):Ach a0 a1=some (((Bi a0 a1).1,(Bi a0 a1).2.1.1,(Bi a0 a1).2.1.2.1,(Bi a0 a1).2.1.2.2.1,(Bi a0 a1).2.1.2.2.2.1.1,(Bi a0 a1).2.1.2.2.2.1.2.1,(Bi a0 a1).2.1.2.2.2.1.2.2.1,(Bi a0 a1).2.1.2.2.2.1.2.2.2.1,(Bi a0 a1).2.1.2.2.2.2.1,(Bi a0 a1).2.1.2.2.2.2.2.1,(Bi a0 a1).2.1.2.2.2.2.2.2.1.1,(Bi a0 a1).2.2.1,()),(())):=by
 unfold Ach Bi Es
 simp only [Bv,F5,G6,Qb]
 show (bif !Au a0 then _ else bif !A0 a1 then _ else _)=_
 cases hv:Au a0 with
 | false=>rfl
 | true=>
  cases hb:A0 a1 with
  | false=>rfl
  | true=>
   simp only [Bool.not_true,cond_false]
   obtain ⟨_,_,h3,_,_,h6,_,h8,h9,_⟩:=Zi hv
   obtain ⟨r1,r2⟩:=B6 h6
   have r1:=Cv r1
   have r2:=Cv r2
   have hh:=Ra a0.2.1
   show (bif (B7 a0.2.2.2.2.2.2.1 a1).2 != 0 then _ else _)=_
   rcases A9b h3 hb with hc | hc
   ·rw [hc]
    show (bif decide (D4 (B7 a0.2.2.2.2.2.2.1 a1).1 a0.1 > IntKind.i64.wrap (Al a0.2.1 - 1)) then _ else _)=(_:Option _)
    rw [Vp]
    show _=some (((bif decide (D4 (B7 a0.2.2.2.2.2.2.1 a1).1 a0.1 > Al a0.2.1 - 1) then Ada 3 else _:R0).1,_),_)
    cases hr:decide (D4 (B7 a0.2.2.2.2.2.2.1 a1).1 a0.1 > Al a0.2.1 - 1) with
    | true=>simp only [cond_true,bne_self_eq_false,cond_false]; rfl
    | false=>
     simp only [cond_false,bne_self_eq_false]
     have hl:=Arf a1 a0.2.2.1 (a0.2.2.2.1.2.2.1 + a0.2.2.2.2.1) a0.1
     have e1:Vc (Bh a1) a0.2.2.1 (a0.2.2.2.1.2.2.1 + a0.2.2.2.2.1) a0.1=some (Gn a0 a1):=if_pos (Nat.le_trans (L5 _) (by decide))
     rw [Aj (n:=a0.2.2.2.1.2.2.1 + a0.2.2.2.2.1) (by omega) (by omega),e1]
     simp only [Option.bind_some]
     have hw:IntKind.i64.wrap (Al a0.2.1 - a0.2.2.2.2.1)=Al a0.2.1 - a0.2.2.2.2.1:=Aj (by omega) (by omega)
     simp only [hw]
     cases hq:decide (nI (Gn a0 a1).length > Al a0.2.1 - a0.2.2.2.2.1) with
     | true=>rfl
     | false=>
      simp only [cond_false]
      have hl:(Gn a0 a1).length≤4001:=hl
      refine Qe (Bdp a0.1 a0.2.1 a0.2.2.1 a0.2.2.2.1.1 a0.2.2.2.1.2.1 a0.2.2.2.1.2.2.1 a0.2.2.2.1.2.2.2.1 a0.2.2.2.2.1 a0.2.2.2.2.2.1 0 a0.1 a0.2.1 a0.2.2.1 a0.2.2.2.1.1 a0.2.2.2.1.2.1 a0.2.2.2.1.2.2.1 a0.2.2.2.1.2.2.2.1 a0.2.2.2.2.1 a0.2.2.2.2.2.1 a0.2.2.2.2.2.2.1.1 (B7 a0.2.2.2.2.2.2.1 a1).1.1 (Gn a0 a1) hl r1 ⟨by omega,by omega⟩) ?_
      dsimp only
      rw [Aj (n:=a0.2.2.2.2.1 + nI (Gn a0 a1).length) (by simp only [nI]; omega) (by simp only [nI]; omega),Aj (n:=a0.2.2.2.2.2.1 + nI (Gn a0 a1).length) (by simp only [nI]; omega) (by simp only [nI]; omega)]
   ·rw [hc]
    rfl
def Aet {R:Type} (k:Kt R):=(I3 (Pz 16) (.exit 0) 2 k)
def Atp {R:Type}:Lt R Pz:=(Ea (pat:=Pz) 16 (fun d k=>(Azj d).bind (Aet k)) Hn)
theorem Apu:A2 Tryz.prog Apt:=A5 ⟨R6,Afy,As9,Aj1,Qk,Qh,A39,Wp,trivial⟩
theorem Azk {R:Type}:A4 Tryz.prog R 112 0 Pz Atp Aes:=
 B8 (cfg:=⟨Apt,0,112,Pz⟩) 16 [] (fun NX X d=>(u4 (u4 (u4 (u4 (u4 (u4 (u4 (u4 (u4 (Ac (Ac Ae))))))))))) (N3  NX X) d) (fun m d=>(u4 (u4 (u4 (u4 (u4 (u4 (u4 (u4 (u4 (Ac (Ac Ae))))))))))) (D8 m) d) (fun d=>(u4 (u4 (u4 (u4 (u4 (u4 (u4 (u4 (u4 (Ac (Ac Ae))))))))))) Kj d) Aet Apu trivial (fun f NX d=>by simp only [u4,Ac,Ae]; unfold N3; simp only [nb])
theorem Apv:Bs Tryz.prog 33 Bbl:=
 A3 (pat:=Pz) [Aes] Atp Apu ⟨Azk,trivial⟩ Tryz.func33 (de:=fun x=>Ach x.1 x.2.1) (fun x r h=>(Bbm x.1 x.2.1).trans h) fun _=>by kernel_rfl
def Bp (s:E5):R0:=O4 s
def Atq:Gc:=⟨[.rd Yf],[some 10],[.rd tI,.rd tI,.rd tI,.rd tI,.rd tI,.rd tI,.rd tI,.rd tI,.rd tI,.rd tI,.own 157 Ax,.own 142 Fe],[some 12]⟩
def Bdq:SD:=⟨Atq,fun x=>some (((Bp x.1).1,(Bp x.1).2.1.1,(Bp x.1).2.1.2.1,(Bp x.1).2.1.2.2.1,(Bp x.1).2.1.2.2.2.1.1,(Bp x.1).2.1.2.2.2.1.2.1,(Bp x.1).2.1.2.2.2.1.2.2.1,(Bp x.1).2.1.2.2.2.1.2.2.2.1,(Bp x.1).2.1.2.2.2.2.1,(Bp x.1).2.1.2.2.2.2.2.1,(Bp x.1).2.1.2.2.2.2.2.2.1.1,(Bp x.1).2.2.1,()),(()))⟩
def Af8 (a0:E5):Option ((((Int)×(Int)×(Int)×(Int)×(Int)×(Int)×(Int)×(Int)×(Int)×(Int)×(List A1)×(List Dl)×Unit)×(Unit))):=
 bif !H3 a0 then some ((1,0,0,0,0,0,0,0,0,0,[],[],()),()) else ((Bt a0.2.2.2.2.2.2.1).bind fun val=>some (val,())).bind fun val=>some ((0,a0.1,a0.2.1,a0.2.2.1,a0.2.2.2.1.1,a0.2.2.2.1.2.1,a0.2.2.2.1.2.2.1,a0.2.2.2.1.2.2.2.1,a0.2.2.2.2.1,0,val.1.1,[(true,0,Ad,())],()),())
theorem Bdr (a0:E5):Af8 a0=some (((Bp a0).1,(Bp a0).2.1.1,(Bp a0).2.1.2.1,(Bp a0).2.1.2.2.1,(Bp a0).2.1.2.2.2.1.1,(Bp a0).2.1.2.2.2.1.2.1,(Bp a0).2.1.2.2.2.1.2.2.1,(Bp a0).2.1.2.2.2.1.2.2.2.1,(Bp a0).2.1.2.2.2.2.1,(Bp a0).2.1.2.2.2.2.2.1,(Bp a0).2.1.2.2.2.2.2.2.1.1,(Bp a0).2.2.1,()),(())):=by
 unfold Af8 Bp O4
 show (bif !Au a0 then _ else _)=_
 cases hv:Au a0 with
 | false=>rfl
 | true=>
  have e1:Bt (a0.2.2.2.2.2.2.1.1,())=some (a0.2.2.2.2.2.2.1.1,()):=if_pos (Nat.le_trans (Ca (Zi hv).2.2.1) (by decide))
  simp only [Bool.not_true,cond_false]
  rw [e1]
  rfl
theorem Atr:Bs Tryz.prog 34 Bdq:=
 A3 (pat:=Dp) [] Hn (A5 (l:=[(117,Ma),(121,Nw)]) ⟨Qk,Rs,trivial⟩) trivial Tryz.func34 (de:=fun x=>Af8 x.1) (fun x r h=>(Bdr x.1).trans h) fun _=>by kernel_rfl
def A9 (s:E5):R0:=Hr s
def Alm:Gc:=⟨[.rd Yf],[some 10],[.rd tI,.rd tI,.rd tI,.rd tI,.rd tI,.rd tI,.rd tI,.rd tI,.rd tI,.rd tI,.own 157 Ax,.own 142 Fe],[some 12]⟩
def A5l:SD:=⟨Alm,fun x=>some (((A9 x.1).1,(A9 x.1).2.1.1,(A9 x.1).2.1.2.1,(A9 x.1).2.1.2.2.1,(A9 x.1).2.1.2.2.2.1.1,(A9 x.1).2.1.2.2.2.1.2.1,(A9 x.1).2.1.2.2.2.1.2.2.1,(A9 x.1).2.1.2.2.2.1.2.2.2.1,(A9 x.1).2.1.2.2.2.2.1,(A9 x.1).2.1.2.2.2.2.2.1,(A9 x.1).2.1.2.2.2.2.2.2.1.1,(A9 x.1).2.2.1,()),(()))⟩
def g9 (a0:E5):Option ((((Int)×(Int)×(Int)×(Int)×(Int)×(Int)×(Int)×(Int)×(Int)×(Int)×(List A1)×(List Dl)×Unit)×(Unit))):=
 bif !H3 a0 then some ((1,0,0,0,0,0,0,0,0,0,[],[],()),()) else ((Sg a0 a0.2.2.1).bind fun val=>some ((val.1.1,val.1.2.1,val.1.2.2.1,val.1.2.2.2.1.1,val.1.2.2.2.1.2.1,val.1.2.2.2.1.2.2.1,val.1.2.2.2.1.2.2.2.1,val.1.2.2.2.2.1,val.1.2.2.2.2.2.1,val.1.2.2.2.2.2.2.1.1,val.2.1,val.2.2,()),())).bind fun val=>bif !val.1.2.2.2.2.2.2.2.2.2.2.2.1 then some ((4,0,0,0,0,0,0,0,0,0,[],[],()),()) else some ((0,val.1.1,val.1.2.1,val.1.2.2.1,val.1.2.2.2.1,val.1.2.2.2.2.1,val.1.2.2.2.2.2.1,val.1.2.2.2.2.2.2.1,val.1.2.2.2.2.2.2.2.1,val.1.2.2.2.2.2.2.2.2.1,val.1.2.2.2.2.2.2.2.2.2.1,val.1.2.2.2.2.2.2.2.2.2.2.1,()),())
theorem A5m (a0:E5):g9 a0=some (((A9 a0).1,(A9 a0).2.1.1,(A9 a0).2.1.2.1,(A9 a0).2.1.2.2.1,(A9 a0).2.1.2.2.2.1.1,(A9 a0).2.1.2.2.2.1.2.1,(A9 a0).2.1.2.2.2.1.2.2.1,(A9 a0).2.1.2.2.2.1.2.2.2.1,(A9 a0).2.1.2.2.2.2.1,(A9 a0).2.1.2.2.2.2.2.1,(A9 a0).2.1.2.2.2.2.2.2.1.1,(A9 a0).2.2.1,()),(())):=by
 unfold g9 A9 Hr
 show (bif !Au a0 then _ else _)=_
 cases hv:Au a0 with
 | false=>rfl
 | true=>
  have e1:Sg (a0.1,a0.2.1,a0.2.2.1,(a0.2.2.2.1.1,a0.2.2.2.1.2.1,a0.2.2.2.1.2.2.1,a0.2.2.2.1.2.2.2.1,()),a0.2.2.2.2.1,a0.2.2.2.2.2.1,(a0.2.2.2.2.2.2.1.1,()),()) a0.2.2.1=some (Aa0 a0 a0.2.2.1):=if_pos (Bfe hv)
  simp only [Bool.not_true,cond_false,cond_true]
  rw [e1]
  unfold Wa
  generalize Aa0 a0 a0.2.2.1=r
  obtain ⟨st,ops,b⟩:=r
  cases b<;>rfl
theorem Aln:Bs Tryz.prog 35 A5l:=
 A3 (pat:=Dp) [] Hn (A5 (l:=[(104,Aj8),(117,Ma)]) ⟨Ayp,Qk,trivial⟩) trivial Tryz.func35 (de:=fun x=>g9 x.1) (fun x r h=>(A5m x.1).trans h) fun _=>by kernel_rfl
def Ja (d:Dk) (f:List Int):Dk:=E9 d f
def Aeu:Gc:=⟨[.rd yDk,.rd (.sl tI)],[some 2,none],[.own 9 .str,.own 174 Em],[some 2]⟩
def Azl:SD:=⟨Aeu,fun x=>some (((Ja x.1 x.2.1).1,(Ja x.1 x.2.1).2.1,()),(()))⟩
def Aev:Tb:=tb [(94,Hz)]
def Kk:Nat→C2×(Nat→C2):=F0 [(6,⟨[.sl 1 0 tI,.sl 18 0 Em,.boxRow 4 0 9 .str,.boxRow 4 1 174 Em,.boxRow 5 0 9 .str,.boxRow 5 1 174 Em],[(1,.lf (.d (.sl tI))),(4,.lf (.ptr 0 0)),(5,.lf (.ptr 1 0)),(18,.lf (.d (.sl Em))),(19,.lf (.d tI)),(20,.lf (.d tI))],[.box 26 [.row 2,.row 3],.box 26 [.row 4,.row 5],.row 9 .str,.row 174 Em,.row 9 .str,.row 174 Em]⟩,[(2,⟨[.boxRow 4 0 9 .str,.boxRow 4 1 174 Em,.boxRow 5 0 9 .str,.boxRow 5 1 174 Em],[(4,.lf (.ptr 0 0)),(5,.lf (.ptr 1 0))],[.box 26 [.row 2,.row 3],.box 26 [.row 4,.row 5],.row 9 .str,.row 174 Em,.row 9 .str,.row 174 Em]⟩)])]
def n0:Code:=(At (Bb Tryz.f60)).getD 0 .skip
def Gj (v1:List Int) (v18:List Wr) (v19 v20:Int) (r2:List Aa) (r3:List Wr) (r4:List Aa) (r5:List Wr):Nat:=(v19 - v20).toNat + 1
def K2 {R:Type}  (NX:((List Int)×(List Wr)×(Int)×(Int)×(List Aa)×(List Wr)×(List Aa)×(List Wr)×Unit)→Option R) (X2:((List Aa)×(List Wr)×(List Aa)×(List Wr)×Unit)→Option R) (v1:List Int) (v18:List Wr) (v19:Int) (v20:Int) (r2:List Aa) (r3:List Wr) (r4:List Aa) (r5:List Wr):Option R:=
 bif decide (v20 < v19) then bif decide (0≤v20) then bif decide (v20 < nI v18.length) then bif decide (v20 < nI v1.length) then bif decide (0≤v20) then bif decide (v20 < nI v1.length) then bif decide (0≤if (if v1.getD v20.toNat 0 < 64 then v1.getD v20.toNat 0 else 64) > 0 then if v1.getD v20.toNat 0 < 64 then v1.getD v20.toNat 0 else 64 else 0) then bif decide ((if (if v1.getD v20.toNat 0 < 64 then v1.getD v20.toNat 0 else 64) > 0 then if v1.getD v20.toNat 0 < 64 then v1.getD v20.toNat 0 else 64 else 0)≤nI (ByteArray.size (v18.getD v20.toNat (0,Ad,())).2.1)) then bif decide (0≤(v18.getD v20.toNat (0,Ad,())).1) then bif decide ((v18.getD v20.toNat (0,Ad,())).1 < nI r4.length) then bif decide (0≤if (if v1.getD v20.toNat 0 < 64 then v1.getD v20.toNat 0 else 64) > 0 then if v1.getD v20.toNat 0 < 64 then v1.getD v20.toNat 0 else 64 else 0) then bif decide ((if (if v1.getD v20.toNat 0 < 64 then v1.getD v20.toNat 0 else 64) > 0 then if v1.getD v20.toNat 0 < 64 then v1.getD v20.toNat 0 else 64 else 0)≤nI (ByteArray.size (r4.getD (Int.toNat (v18.getD v20.toNat (0,Ad,())).1) (Ad)))) then bif decide ((Ah (v18.getD v20.toNat (0,Ad,())).2.1 0 (if (if v1.getD v20.toNat 0 < 64 then v1.getD v20.toNat 0 else 64) > 0 then if v1.getD v20.toNat 0 < 64 then v1.getD v20.toNat 0 else 64 else 0)).size + (Ah (r4.getD (Int.toNat (v18.getD v20.toNat (0,Ad,())).1) (Ad)) (if (if v1.getD v20.toNat 0 < 64 then v1.getD v20.toNat 0 else 64) > 0 then if v1.getD v20.toNat 0 < 64 then v1.getD v20.toNat 0 else 64 else 0) (nI (ByteArray.size (r4.getD (Int.toNat (v18.getD v20.toNat (0,Ad,())).1) (Ad))))).size≤9223372036854775807) then bif decide (0≤(v18.getD v20.toNat (0,Ad,())).1) then bif decide ((v18.getD v20.toNat (0,Ad,())).1 < nI r4.length) then bif decide (Int.toNat (v18.getD v20.toNat (0,Ad,())).1 < r4.length) then NX (v1,v18,v19,IntKind.i64.wrap (v20 + 1),r2,r3,r4.set (Int.toNat (v18.getD v20.toNat (0,Ad,())).1) (Ah (v18.getD v20.toNat (0,Ad,())).2.1 0 (if (if v1.getD v20.toNat 0 < 64 then v1.getD v20.toNat 0 else 64) > 0 then if v1.getD v20.toNat 0 < 64 then v1.getD v20.toNat 0 else 64 else 0)++Ah (r4.getD (Int.toNat (v18.getD v20.toNat (0,Ad,())).1) (Ad)) (if (if v1.getD v20.toNat 0 < 64 then v1.getD v20.toNat 0 else 64) > 0 then if v1.getD v20.toNat 0 < 64 then v1.getD v20.toNat 0 else 64 else 0) (nI (ByteArray.size (r4.getD (Int.toNat (v18.getD v20.toNat (0,Ad,())).1) (Ad))))),r5,()) else none else none else none else none else none else none else none else none else none else none else none else none else bif decide (0≤(v18.getD v20.toNat (0,Ad,())).1) then bif decide ((v18.getD v20.toNat (0,Ad,())).1 < nI r4.length) then bif decide ((Ah (v18.getD v20.toNat (0,Ad,())).2.1 0 0).size + (Ah (r4.getD (Int.toNat (v18.getD v20.toNat (0,Ad,())).1) (Ad)) 0 (nI (ByteArray.size (r4.getD (Int.toNat (v18.getD v20.toNat (0,Ad,())).1) (Ad))))).size≤9223372036854775807) then bif decide (0≤(v18.getD v20.toNat (0,Ad,())).1) then bif decide ((v18.getD v20.toNat (0,Ad,())).1 < nI r4.length) then bif decide (Int.toNat (v18.getD v20.toNat (0,Ad,())).1 < r4.length) then NX (v1,v18,v19,IntKind.i64.wrap (v20 + 1),r2,r3,r4.set (Int.toNat (v18.getD v20.toNat (0,Ad,())).1) (Ah (v18.getD v20.toNat (0,Ad,())).2.1 0 0++Ah (r4.getD (Int.toNat (v18.getD v20.toNat (0,Ad,())).1) (Ad)) 0 (nI (ByteArray.size (r4.getD (Int.toNat (v18.getD v20.toNat (0,Ad,())).1) (Ad))))),r5,()) else none else none else none else none else none else none else none else none else X2 (r2,r3,r4,r5,())
def Cu:Nat→(List Int)→(List Wr)→(Int)→(Int)→(List Aa)→(List Wr)→(List Aa)→(List Wr) →  Option ((List Aa)×(List Wr)×(List Aa)×(List Wr)×Unit)
 | 0,_,_,_,_,_,_,_,_=>none
 | m + 1,v1,v18,v19,v20,r2,r3,r4,r5=>K2  (fun d=>Cu m d.1 d.2.1 d.2.2.1 d.2.2.2.1 d.2.2.2.2.1 d.2.2.2.2.2.1 d.2.2.2.2.2.2.1 d.2.2.2.2.2.2.2.1) (fun d=>some (d)) v1 v18 v19 v20 r2 r3 r4 r5
def Asa (d:(List Int)×(List Wr)×(Int)×(Int)×(List Aa)×(List Wr)×(List Aa)×(List Wr)×Unit):Option ((List Aa)×(List Wr)×(List Aa)×(List Wr)×Unit):=(u4 (u4 Ae)) (Cu ((u4 (u4 Ae)) Gj d)) d
def Xg (a0:Dk) (a1:List Int):Option ((Dk×(Unit))):=
 bif !F4 a0 then some (([],[],()),()) else bif decide ((0 + List.length a0.1) * 16≤140737488355328) then ((fun d=>Cu (Gj d.1 d.2.1 d.2.2.1 d.2.2.2.1 d.2.2.2.2.1 d.2.2.2.2.2.1 d.2.2.2.2.2.2.1 d.2.2.2.2.2.2.2.1) d.1 d.2.1 d.2.2.1 d.2.2.2.1 d.2.2.2.2.1 d.2.2.2.2.2.1 d.2.2.2.2.2.2.1 d.2.2.2.2.2.2.2.1) (a1,a0.2.1,nI (List.length a0.2.1),0,[],[],[]++a0.1,[],())).bind fun val=>some (val.2.2,()) else none
theorem Azm (a0:Dk) (a1:List Int):Xg a0 a1=some (((Ja a0 a1).1,(Ja a0 a1).2.1,()),(())):=by
 unfold Xg Ja E9
 show (bif !Ar a0 then _ else _)=_
 cases hv:Ar a0 with
 | false=>rfl
 | true=>
  obtain ⟨k1,k2,k3,k4,k5⟩:=Ix hv
  have c0:(0 + List.length a0.1) * 16≤140737488355328:=by omega
  rw [Ag c0]
  have hL:=Agr (xs:=a0.2.1) zW (Axd a0.1.length) (fun i w s=>s.set w.1.toNat (Bs6 w.2.1 (s.getD w.1.toNat z0) (Yh a1 i))) (g:=fun m i s=>Cu m a1 a0.2.1 (nI a0.2.1.length) i [] [] s []) (ok:=fun s=>([],[],s,[],())) (fun m i s hi hI=>by
   show Cu (m + 1) a1 a0.2.1 (nI a0.2.1.length) i [] [] s []=_
   simp only [Cu,K2]
   obtain ⟨w0,w1,w2⟩:=k5 i hi
   have h0:0≤(List.getD a0.2.1 i (0,Ad,())).1:=w0
   have h1:(List.getD a0.2.1 i (0,Ad,())).1 < nI s.length:=by rw [hI.1]; exact w1
   have hsz:ByteArray.size (List.getD a0.2.1 i (0,Ad,())).2.1=64:=w2
   have hj:Int.toNat (List.getD a0.2.1 i (0,Ad,())).1 < s.length:=by
    have h1:(List.getD a0.2.1 i (0,Ad,())).1 < (s.length:Int):=h1
    omega
   have hs2:ByteArray.size (List.getD s (Int.toNat (List.getD a0.2.1 i (0,Ad,())).1) (Ad))=64:=hI.2 _ (by rw [← hI.1]; exact hj)
   have hsum:∀ k:Int,0≤k→k≤64→ByteArray.size (Ah (List.getD a0.2.1 i (0,Ad,())).2.1 0 k) + ByteArray.size (Ah (List.getD s (Int.toNat (List.getD a0.2.1 i (0,Ad,())).1) (Ad)) k (nI (ByteArray.size (List.getD s (Int.toNat (List.getD a0.2.1 i (0,Ad,())).1) (Ad)))))≤9223372036854775807:=by
    intro k q0 q1
    rw [C6 (by omega) q0 (by rw [hsz]; omega),C6 q0 (by rw [hs2]; simp only [nI]; omega) (by rw [hs2]; simp [nI])]
    rw [hs2]
    simp only [nI]
    omega
   rw [Xv hi,G9,wI (show i < 4611686018427387904 by omega),En]
   by_cases hf:i < a1.length
   ·have hfa:Yh a1 i=Tl (List.getD a1 i 0):=if_pos hf
    obtain ⟨q0,q1⟩:=Axc (List.getD a1 i 0)
    have c2:Tl (List.getD a1 i 0)≤nI (ByteArray.size (List.getD a0.2.1 i (0,Ad,())).2.1):=by rw [hsz]; exact q1
    have c5:Tl (List.getD a1 i 0)≤nI (ByteArray.size (List.getD s (Int.toNat (List.getD a0.2.1 i (0,Ad,())).1) (Ad))):=by rw [hs2]; exact q1
    rw [Xv hf,Bxq,Ag q0,Ag c2,Ag h0,Ag h1,Ag c5,Ag (hsum _ q0 q1),Ag hj,hfa]
    rfl
   ·have hfa:Yh a1 i=0:=if_neg hf
    have nf:¬ (i:Int) < nI a1.length:=by simp only [nI]; omega
    rw [Bd nf,Ag h0,Ag h1,Ag (hsum 0 (by omega) (by omega)),Ag hj,hfa]
    rfl) (fun i s hi hI=>hI.set (A0v (k5 i hi).2.2 (hI.2 _ (by
   have q:=k5 i hi
   omega)) (x8 a1 i).1 (x8 a1 i).2)) (fun m s hI=>by
   show Cu (m + 1) a1 a0.2.1 (nI a0.2.1.length) (a0.2.1.length:Int) [] [] s []=_
   simp only [Cu,K2]
   rw [Od]
   rfl) (Gj a1 a0.2.1 (nI a0.2.1.length) 0 [] [] a0.1 []) 0 a0.1 (by omega) (by simp [Gj,nI]) ⟨rfl,k4⟩
  have hL':Cu (Gj a1 a0.2.1 (nI a0.2.1.length) 0 [] [] a0.1 []) a1 a0.2.1 (nI a0.2.1.length) 0 [] [] a0.1 []=_:=hL
  show (Cu (Gj a1 a0.2.1 (nI a0.2.1.length) 0 [] [] a0.1 []) a1 a0.2.1 (nI a0.2.1.length) 0 [] [] a0.1 []).bind _=_
  rw [hL']
  rfl
def n5 {R:Type} (k:Kt R):=(I3 (Kk 6) (.exit 0) 2 k)
def Aii {R:Type}:Lt R Kk:=(Ea (pat:=Kk) 6 (fun d k=>(Asa d).bind (n5 k)) Hn)
theorem Aew:A2 Tryz.prog Aev:=A5 ⟨J8,trivial⟩
theorem Asb {R:Type}:A4 Tryz.prog R 55 0 Kk Aii n0:=
 B8 (cfg:=⟨Aev,0,55,Kk⟩) 6 [] (fun NX X d=>(u4 (u4 Ae)) (K2  NX X) d) (fun m d=>(u4 (u4 Ae)) (Cu m) d) (fun d=>(u4 (u4 Ae)) Gj d) n5 Aew trivial (fun f NX d=>by simp only [u4,Ac,Ae]; unfold K2; simp only [nb])
theorem Aex:Bs Tryz.prog 60 Azl:=
 A3 (pat:=Kk) [n0] Aii Aew ⟨Asb,trivial⟩ Tryz.func60 (de:=fun x=>Xg x.1 x.2.1) (fun x r h=>(Azm x.1 x.2.1).trans h) fun _=>by kernel_rfl
def Ko (d:Dk):Option Dk:=if d.1.length≤1000∧d.2.1.length≤1000 then some (d.1,d.2.1,()) else none
def A2m:Gc:=⟨[.rd yDk],[some 2],[.own 9 .str,.own 174 Em],[some 2]⟩
def Za:SD:=⟨A2m,fun x=>(Ko x.1).bind fun r=>some ((r.1,r.2.1,()),(()))⟩
def Zb (a0:Dk):Option ((Dk×(Unit))):=
 bif decide ((0 + List.length a0.1) * 16≤140737488355328) then bif decide ((0 + List.length a0.2.1) * 24≤140737488355328) then some (([]++a0.1,[]++a0.2.1,()),()) else none else none
theorem A2n (a0:Dk) r (h:Ko a0=some r):Zb a0=some ((r.1,r.2.1,()),(())):=by
 unfold Ko at h
 split at h
 ·rename_i hc
  cases h
  unfold Zb
  rw [Ag (show (0 + a0.1.length) * 16≤140737488355328 by omega),Ag (show (0 + a0.2.1.length) * 24≤140737488355328 by omega)]
  rfl
 ·cases h
theorem Aij:Bs Tryz.prog 192 Za:=
 A3 (pat:=Dp) [] Hn (A5 (l:=[]) trivial) trivial Tryz.func192 (de:=fun x=>Zb x.1) (fun x r h=>F1 (A2n x.1) h) fun _=>by kernel_rfl
def J2 (d:Dk) (ops:List Dl) (n:Int):Option Dk:=if ops.length≤1099511627776 then some (Cn d ops n) else none
def A5n:Gc:=⟨[.rd yDk,.rd (.sl Fe),.rd tI],[some 2,none,none],[.own 9 .str,.own 174 Em],[some 2]⟩
def Alo:SD:=⟨A5n,fun x=>(J2 x.1 x.2.1 x.2.2.1).bind fun r=>some ((r.1,r.2.1,()),(()))⟩
def i6:Tb:=tb [(94,Hz),(95,Dm),(192,Za)]
def Fw:Nat→C2×(Nat→C2):=F0 [(6,⟨[.sl 1 0 Fe,.boxRow 6 0 9 .str,.boxRow 6 1 174 Em,.boxRow 7 0 9 .str,.boxRow 7 1 174 Em],[(1,.lf (.d (.sl Fe))),(2,.lf (.d tI)),(6,.lf (.ptr 0 0)),(7,.lf (.ptr 1 0)),(8,.lf (.d tI))],[.box 26 [.row 2,.row 3],.box 26 [.row 4,.row 5],.row 9 .str,.row 174 Em,.row 9 .str,.row 174 Em]⟩,[(2,⟨[.boxRow 6 0 9 .str,.boxRow 6 1 174 Em,.boxRow 7 0 9 .str,.boxRow 7 1 174 Em],[(6,.lf (.ptr 0 0)),(7,.lf (.ptr 1 0))],[.box 26 [.row 2,.row 3],.box 26 [.row 4,.row 5],.row 9 .str,.row 174 Em,.row 9 .str,.row 174 Em]⟩)]),(11,⟨[.sl 1 0 Fe,.sl 36 0 Em,.boxRow 6 0 9 .str,.boxRow 6 1 174 Em,.boxRow 7 0 9 .str,.boxSl 7 1 Em],[(1,.lf (.d (.sl Fe))),(2,.lf (.d tI)),(6,.lf (.ptr 0 0)),(7,.lf (.ptr 1 0)),(8,.lf (.d tI)),(36,.lf (.d (.sl Em))),(37,.lf (.d tI)),(38,.lf (.d tI))],[.box 26 [.row 2,.row 3],.box 26 [.row 4,.d (.sl Em)],.row 9 .str,.row 174 Em,.row 9 .str]⟩,[(4,⟨[.sl 1 0 Fe,.boxRow 6 0 9 .str,.boxRow 6 1 174 Em,.boxRow 7 0 9 .str,.boxSl 7 1 Em],[(1,.lf (.d (.sl Fe))),(2,.lf (.d tI)),(6,.lf (.ptr 0 0)),(7,.lf (.ptr 1 0)),(8,.lf (.d tI))],[.box 26 [.row 2,.row 3],.box 26 [.row 4,.d (.sl Em)],.row 9 .str,.row 174 Em,.row 9 .str]⟩)])]
def Xh:Code:=(At (Bb Tryz.f113)).getD 0 .skip
def Aci:Code:=(At Xh).getD 0 .skip
def Mt (v1:List Dl) (v2 v8:Int) (v36:List Wr) (v37 v38:Int) (b1_1:List Wr) (r2:List Aa) (r3:List Wr) (r4:List Aa):Nat:=(v37 - v38).toNat + 1
def Mu {R:Type}  (NX:((List Dl)×(Int)×(Int)×(List Wr)×(Int)×(Int)×(List Wr)×(List Aa)×(List Wr)×(List Aa)×Unit)→Option R) (X4:((List Dl)×(Int)×(Int)×(List Wr)×(List Aa)×(List Wr)×(List Aa)×Unit)→Option R) (v1:List Dl) (v2:Int) (v8:Int) (v36:List Wr) (v37:Int) (v38:Int) (b1_1:List Wr) (r2:List Aa) (r3:List Wr) (r4:List Aa):Option R:=
 bif decide (v38 < v37) then bif decide (0≤v38) then bif decide (v38 < nI v36.length) then bif decide (0≤(v36.getD v38.toNat (0,Ad,())).1) then bif decide ((v36.getD v38.toNat (0,Ad,())).1 < nI r4.length) then bif decide (Int.toNat (v36.getD v38.toNat (0,Ad,())).1 < r4.length) then NX (v1,v2,v8,v36,v37,IntKind.i64.wrap (v38 + 1),b1_1,r2,r3,r4.set (Int.toNat (v36.getD v38.toNat (0,Ad,())).1) (v36.getD v38.toNat (0,Ad,())).2.1,()) else none else none else none else none else none else X4 (v1,v2,v8,b1_1,r2,r3,r4,())
def Ei:Nat→(List Dl)→(Int)→(Int)→(List Wr)→(Int)→(Int)→(List Wr)→(List Aa)→(List Wr)→(List Aa) →  Option ((List Dl)×(Int)×(Int)×(List Wr)×(List Aa)×(List Wr)×(List Aa)×Unit)
 | 0,_,_,_,_,_,_,_,_,_,_=>none
 | m + 1,v1,v2,v8,v36,v37,v38,b1_1,r2,r3,r4=>Mu  (fun d=>Ei m d.1 d.2.1 d.2.2.1 d.2.2.2.1 d.2.2.2.2.1 d.2.2.2.2.2.1 d.2.2.2.2.2.2.1 d.2.2.2.2.2.2.2.1 d.2.2.2.2.2.2.2.2.1 d.2.2.2.2.2.2.2.2.2.1) (fun d=>some (d)) v1 v2 v8 v36 v37 v38 b1_1 r2 r3 r4
def Mv (d:(List Dl)×(Int)×(Int)×(List Wr)×(Int)×(Int)×(List Wr)×(List Aa)×(List Wr)×(List Aa)×Unit):Option ((List Dl)×(Int)×(Int)×(List Wr)×(List Aa)×(List Wr)×(List Aa)×Unit):=(u4 (u4 (Ac (Ac Ae)))) (Ei ((u4 (u4 (Ac (Ac Ae)))) Mt d)) d
def Ic (v1:List Dl) (v2 v8:Int) (r2:List Aa) (r3:List Wr) (r4:List Aa) (r5:List Wr):Nat:=(v2 - v8).toNat + 1
def N4 {R:Type} (LO11:((List Dl)×(Int)×(Int)×(List Wr)×(Int)×(Int)×(List Wr)×(List Aa)×(List Wr)×(List Aa)×Unit)→Option ((List Dl)×(Int)×(Int)×(List Wr)×(List Aa)×(List Wr)×(List Aa)×Unit)) (NX:((List Dl)×(Int)×(Int)×(List Aa)×(List Wr)×(List Aa)×(List Wr)×Unit)→Option R) (X2:((List Aa)×(List Wr)×(List Aa)×(List Wr)×Unit)→Option R) (v1:List Dl) (v2 v8:Int) (r2:List Aa) (r3:List Wr) (r4:List Aa) (r5:List Wr):Option R:=
 bif decide (v8 < v2) then bif decide (v8 < nI v1.length) then bif decide (0≤v8) then bif decide (v8 < nI v1.length) then bif (v1.getD v8.toNat (false,0,Ad,())).1 then (LO11 (v1,v2,v8,r5,nI r5.length,0,r5,r2,r3,r4,())).bind fun val=>NX (val.1,val.2.1,IntKind.i64.wrap (val.2.2.1 + 1),val.2.2.2.2.1,val.2.2.2.2.2.1,val.2.2.2.2.2.2.1,[],()) else bif Ba (v1.getD v8.toNat (false,0,Ad,())).2.1 0 (IntKind.i64.wrap (nI r4.length - 1)) then bif nI (ByteArray.size (v1.getD v8.toNat (false,0,Ad,())).2.2.1)==64 then bif decide (nI r5.length < 300) then bif decide ((r5.length + [(v1.getD v8.toNat (false,0,Ad,())).2].length) * 24≤140737488355328) then NX (v1,v2,IntKind.i64.wrap (v8 + 1),r2,r3,r4,r5++[(v1.getD v8.toNat (false,0,Ad,())).2],()) else none else NX (v1,v2,IntKind.i64.wrap (v8 + 1),r2,r3,r4,r5,()) else NX (v1,v2,IntKind.i64.wrap (v8 + 1),r2,r3,r4,r5,()) else NX (v1,v2,IntKind.i64.wrap (v8 + 1),r2,r3,r4,r5,()) else none else none else X2 (r2,r3,r4,r5,()) else X2 (r2,r3,r4,r5,())
def C1:Nat→(List Dl)→(Int)→(Int)→(List Aa)→(List Wr)→(List Aa)→(List Wr) →  Option ((List Aa)×(List Wr)×(List Aa)×(List Wr)×Unit)
 | 0,_,_,_,_,_,_,_=>none
 | m + 1,v1,v2,v8,r2,r3,r4,r5=>N4 Mv (fun d=>C1 m d.1 d.2.1 d.2.2.1 d.2.2.2.1 d.2.2.2.2.1 d.2.2.2.2.2.1 d.2.2.2.2.2.2.1) (fun d=>some (d)) v1 v2 v8 r2 r3 r4 r5
def Azn (d:(List Dl)×(Int)×(Int)×(List Aa)×(List Wr)×(List Aa)×(List Wr)×Unit):Option ((List Aa)×(List Wr)×(List Aa)×(List Wr)×Unit):=(u4 (Ac (Ac (Ac Ae)))) (C1 ((u4 (Ac (Ac (Ac Ae)))) Ic d)) d
def i7 (a0:Dk) (a1:List Dl) (a2:Int):Option ((Dk×(Unit))):=
 bif !F4 a0 then some (([],[],()),()) else ((Ko a0).bind fun val=>some (val,())).bind fun val=>((fun d=>C1 (Ic d.1 d.2.1 d.2.2.1 d.2.2.2.1 d.2.2.2.2.1 d.2.2.2.2.2.1 d.2.2.2.2.2.2.1) d.1 d.2.1 d.2.2.1 d.2.2.2.1 d.2.2.2.2.1 d.2.2.2.2.2.1 d.2.2.2.2.2.2.1) (a1,a2,0,[],[],val.1)).bind fun val=>some (val.2.2,())
theorem Bn1 (a1:List Dl) (a2 i:Int) (b:List Wr) {sec:List Aa} {ws:List Wr} (hp:ws.length≤300) (hw:∀ i,i < ws.length→0≤(ws.getD i zW).1∧(ws.getD i zW).1 < (sec.length:Int)):
  Ei (Mt a1 a2 i ws (nI ws.length) 0 b [] [] sec) a1 a2 i ws (nI ws.length) 0 b [] [] sec=some (a1,a2,i,b,[],[],Hq sec ws,()):=by
 have hL:=Agr (xs:=ws) zW (fun s:List Aa=>s.length=sec.length) (fun _ w s=>s.set w.1.toNat w.2.1) (g:=fun m i' s=>Ei m a1 a2 i ws (nI ws.length) i' b [] [] s) (ok:=fun s=>(a1,a2,i,b,[],[],s,())) (fun m i' s hi hs=>by
   show Ei (m + 1) a1 a2 i ws (nI ws.length) i' b [] [] s=_
   simp only [Ei,Mu]
   obtain ⟨h0,h1⟩:=hw i' hi
   have c1:decide (0≤(List.getD ws i' (0,Ad,())).1)=true:=Ag h0
   have c2:decide ((List.getD ws i' (0,Ad,())).1 < nI s.length)=true:=Ag (by rw [hs]; exact h1)
   have c3:decide (Int.toNat (List.getD ws i' (0,Ad,())).1 < s.length)=true:=Ag (by
    rw [hs]
    have:(ws.getD i' zW).1.toNat < sec.length:=by
     have h0:0≤(ws.getD i' zW).1:=h0
     have h1:(ws.getD i' zW).1 < (sec.length:Int):=h1
     omega
    exact this)
   rw [Xv hi,G9,wI (show i' < 4611686018427387904 by omega),En,c1,c2,c3]
   rfl) (fun i s hi hs=>by rw [List.length_set]; exact hs) (fun m s hs=>by
   show Ei (m + 1) a1 a2 i ws (nI ws.length) (ws.length:Int) b [] [] s=_
   simp only [Ei,Mu]
   rw [Od]
   rfl) (Mt a1 a2 i ws (nI ws.length) 0 b [] [] sec) 0 sec (by omega) (by simp [Mt,nI]) rfl
 exact hL
theorem A5o (a0:Dk) (a1:List Dl) (a2:Int) r (h:J2 a0 a1 a2=some r):i7 a0 a1 a2=some ((r.1,r.2.1,()),(())):=by
 unfold J2 at h
 split at h
 rotate_left
 ·cases h
 rename_i hlen
 cases h
 unfold i7 Cn
 show (bif !Ar a0 then _ else _)=_
 cases hv:Ar a0 with
 | false=>rfl
 | true=>
  have hok:=Ix hv
  have e1:Ko (a0.1,a0.2.1,())=some (a0.1,a0.2.1,()):=if_pos ⟨Nat.le_trans hok.n200 (by decide),Nat.le_trans hok.p300 (by decide)⟩
  have hxl:(a1.take a2.toNat).length=min a2.toNat a1.length:=List.length_take
  have hL:=E4 (xs:=a1.take a2.toNat) zOp (fun _ d=>Iw d) (fun _ o d=>opS d o) (g:=fun m i d=>C1 m a1 a2 i [] [] d.1 d.2.1) (ok:=fun d:Dk=>([],[],d.1,d.2.1,())) (fun m i d hi hI=>by
   show C1 (m + 1) a1 a2 i [] [] d.1 d.2.1=_
   simp only [C1,N4,Mv,u4,Ac,Ae]
   rw [hxl] at hi
   have hi1:i < a1.length:=by omega
   have hi2:decide ((i:Int) < a2)=true:=Ag (by omega)
   have hg:(a1.take a2.toNat).getD i zOp=List.getD a1 i (false,0,Ad,()):=by
    rw [List.getD_eq_getElem?_getD,List.getElem?_take,if_pos (by omega),← List.getD_eq_getElem?_getD]
    rfl
   rw [hg,hi2,Xv hi1,G9,wI (show i < 4611686018427387904 by omega),En]
   simp only [cond_true]
   generalize List.getD a1 i (false,0,Ad,())=o
   unfold opS
   cases ho:o.1 with
   | true=>
    simp only [cond_true]
    rw [Bn1 a1 a2 i d.2.1 hI.p300 (fun k hk=>⟨(hI.pen k hk).1,(hI.pen k hk).2.1⟩)]
    simp only [Option.bind_some]
    rw [wI (show i < 4611686018427387904 by omega)]
    rfl
   | false=>
    simp only [cond_false]
    have hn:=hI.n8
    have hn2:=hI.n200
    have hp:=hI.p300
    have e2:Ba o.2.1 0 (IntKind.i64.wrap (nI d.1.length - 1))=(decide (0≤o.2.1)&&decide (o.2.1 < (d.1.length:Int))):=by
     rw [Aj (by simp only [nI]; omega) (by simp only [nI]; omega)]
     show (decide (0≤o.2.1)&&decide (o.2.1≤nI d.1.length - 1))=_
     congr 1
     exact decide_eq_decide.2 (by simp only [nI]; omega)
    have e3:(nI (ByteArray.size o.2.2.1)==64)=decide (o.2.2.1.size=64):=by
     by_cases q:o.2.2.1.size=64
     ·rw [q]; rfl
     ·rw [Bd q]
      exact beq_eq_false_iff_ne.2 (by simp only [nI]; omega)
    have e4:decide (nI d.2.1.length < 300)=decide (d.2.1.length < 300):=decide_eq_decide.2 (by simp only [nI]; omega)
    have e5:decide ((d.2.1.length + 1) * 24≤140737488355328)=true:=Ag (by omega)
    simp only [Et,e2,e3,e4,e5]
    show _=C1 m a1 a2 _ [] [] (bif (decide (0≤o.2.1)&&(decide (o.2.1 < (d.1.length:Int))&&decide (o.2.2.1.size=64)))&&decide (d.2.1.length < 300) then (d.1,d.2.1++[(o.2.1,o.2.2.1,())],()) else d).1 (bif (decide (0≤o.2.1)&&(decide (o.2.1 < (d.1.length:Int))&&decide (o.2.2.1.size=64)))&&decide (d.2.1.length < 300) then (d.1,d.2.1++[(o.2.1,o.2.2.1,())],()) else d).2.1
    cases decide (0≤o.2.1)<;>cases decide (o.2.1 < (d.1.length:Int))<;>cases decide (o.2.2.1.size=64)<;>cases decide (d.2.1.length < 300)<;>rfl) (fun i d hi hI=>hI.op _) (fun m d hI=>by
   show C1 (m + 1) a1 a2 (((a1.take a2.toNat).length:Nat):Int) [] [] d.1 d.2.1=_
   simp only [C1,N4,Mv,u4,Ac,Ae]
   rw [hxl]
   by_cases q:((min a2.toNat a1.length:Nat):Int) < a2
   ·rw [Ag q,Bd (show ¬ ((min a2.toNat a1.length:Nat):Int) < nI a1.length by simp only [nI]; omega)]
    rfl
   ·rw [Bd q]
    rfl) (Ic a1 a2 0 [] [] a0.1 a0.2.1) 0 a0 (by omega) (by rw [hxl]; simp only [Ic,nI]; omega) hok
  have hL':C1 (Ic a1 a2 0 [] [] a0.1 a0.2.1) a1 a2 0 [] [] a0.1 a0.2.1=_:=hL
  simp only [Bool.not_true,cond_false]
  rw [e1]
  show (C1 (Ic a1 a2 0 [] [] a0.1 a0.2.1) a1 a2 0 [] [] a0.1 a0.2.1).bind _=_
  rw [hL',List.drop_zero]
  have hf:∀ (l:List Dl) (i:Nat) (d:Dk),C9 (fun _ o d=>opS d o) i l d=l.foldl opS d:=fun l=>by
   induction l with
   | nil=>intro i d; rfl
   | cons o r ih=>intro i d; exact ih _ _
  rw [hf]
  rfl
def Aey {R:Type} (k:Kt R):=(I3 (Fw 6) (.exit 0) 2 k)
def Acj {R:Type} (k:Kt R):=(I3 (Fw 11) (.exit 2) 4 k)
def Ack {R:Type}:Lt R Fw:=(Ea (pat:=Fw) 6 (fun d k=>(Azn d).bind (Aey k)) (Ea (pat:=Fw) 11 (fun d k=>(Mv d).bind (Acj k)) Hn))
theorem i8:A2 Tryz.prog i6:=A5 ⟨J8,D2,Aij,trivial⟩
theorem Av3 {R:Type}:A4 Tryz.prog R 81 0 Fw Ack Aci:=
 B8 (cfg:=⟨i6,0,81,Fw⟩) 11 [] (fun NX X d=>(u4 (u4 (Ac (Ac Ae)))) (Mu  NX X) d) (fun m d=>(u4 (u4 (Ac (Ac Ae)))) (Ei m) d) (fun d=>(u4 (u4 (Ac (Ac Ae)))) Mt d) Acj i8 trivial (fun f NX d=>by simp only [u4,Ac,Ae]; unfold Mu; simp only [nb])
theorem Azo {R:Type}:A4 Tryz.prog R 81 0 Fw Ack Xh:=
 B8 (cfg:=⟨i6,0,81,Fw⟩) 6 [Aci] (fun NX X d=>(u4 (Ac (Ac (Ac Ae)))) (N4 Mv NX X) d) (fun m d=>(u4 (Ac (Ac (Ac Ae)))) (C1 m) d) (fun d=>(u4 (Ac (Ac (Ac Ae)))) Ic d) Aey i8 ⟨Av3,trivial⟩ (fun f NX d=>by simp only [u4,Ac,Ae]; unfold N4; simp only [nb])
theorem A5p:Bs Tryz.prog 113 Alo:=
 A3 (pat:=Fw) [Xh] Ack i8 ⟨Azo,trivial⟩ Tryz.func113 (de:=fun x=>i7 x.1 x.2.1 x.2.2.1) (fun x r h=>F1 (A5o x.1 x.2.1 x.2.2.1) h) fun _=>by kernel_rfl
def Azp:Gc:=⟨[.rd Gv],[some 16],[.rd tI,.rd yDk,.rd .bool,.rd Yf,.own 31 C8,.own 9 .str],[some 16]⟩
def Aez:Tb:=tb [(121,Nw),(192,Za)]
def Kl:Nat→C2×(Nat→C2):=F0 [(6,⟨[.row 3 0 31 C8,.sl 17 0 C8,.boxSl 1 1 .str,.boxSl 1 2 Em,.boxSl 1 13 Ax,.boxSl 1 14 C8,.boxSl 1 15 .str,.boxSl 2 1 .str,.boxSl 2 2 Em,.boxSl 2 13 Ax,.boxSl 2 14 C8,.boxSl 2 15 .str],[(1,.lf (.ptr 0 0)),(2,.lf (.ptr 1 0)),(3,.lf (.row 2)),(17,.lf (.d (.sl C8))),(18,.lf (.d tI)),(19,.lf (.d tI))],[.box 36 [.d Gv],.box 36 [.d Gv],.row 31 C8]⟩,[(2,⟨[.row 3 0 31 C8,.boxSl 1 1 .str,.boxSl 1 2 Em,.boxSl 1 13 Ax,.boxSl 1 14 C8,.boxSl 1 15 .str,.boxSl 2 1 .str,.boxSl 2 2 Em,.boxSl 2 13 Ax,.boxSl 2 14 C8,.boxSl 2 15 .str],[(1,.lf (.ptr 0 0)),(2,.lf (.ptr 1 0)),(3,.lf (.row 2))],[.box 36 [.d Gv],.box 36 [.d Gv],.row 31 C8]⟩)])]
def n7:Code:=(At (Bb Tryz.f134)).getD 0 .skip
def Ow (v17:List B5) (v18 v19:Int) (b0 b1:Bg) (r2:List B5):Nat:=(v18 - v19).toNat + 1
def K3 {R:Type}  (NX:((List B5)×(Int)×(Int)×Bg×Bg×(List B5)×Unit)→Option R) (X2:(Bg×Bg×(List B5)×Unit)→Option R) (v17:List B5) (v18:Int) (v19:Int) (b0:Bg) (b1:Bg) (r2:List B5):Option R:=
 bif decide (v19 < v18) then bif decide (0≤v19) then bif decide (v19 < nI v17.length) then ((Bt (v17.getD v19.toNat ([],()))).bind fun val=>some (val,())).bind fun val=>bif decide ((r2.length + [val.1].length) * 24≤140737488355328) then NX (v17,v18,IntKind.i64.wrap (v19 + 1),b0,b1,r2++[val.1],()) else none else none else none else X2 (b0,b1,r2,())
def Gk:Nat→(List B5)→(Int)→(Int)→Bg→Bg→(List B5) →  Option (Bg×Bg×(List B5)×Unit)
 | 0,_,_,_,_,_,_=>none
 | m + 1,v17,v18,v19,b0,b1,r2=>K3  (fun d=>Gk m d.1 d.2.1 d.2.2.1 d.2.2.2.1 d.2.2.2.2.1 d.2.2.2.2.2.1) (fun d=>some (d)) v17 v18 v19 b0 b1 r2
def Asc (d:(List B5)×(Int)×(Int)×Bg×Bg×(List B5)×Unit):Option (Bg×Bg×(List B5)×Unit):=(u4 (Ac (Ac Ae))) (Gk ((u4 (Ac (Ac Ae))) Ow d)) d
def Ru (a0:Bg):Option ((((Int)×Dk×(Bool)×E5×(List B5)×(List Aa)×Unit)×(Unit))):=
 ((Ko a0.2.1).bind fun val=>some (val,())).bind fun val=>((Bt a0.2.2.2.1.2.2.2.2.2.2.1).bind fun val=>some (val,())).bind fun val_1=>((fun d=>Gk (Ow d.1 d.2.1 d.2.2.1 d.2.2.2.1 d.2.2.2.2.1 d.2.2.2.2.2.1) d.1 d.2.1 d.2.2.1 d.2.2.2.1 d.2.2.2.2.1 d.2.2.2.2.2.1) (a0.2.2.2.2.1,nI (List.length a0.2.2.2.2.1),0,(a0.1,val.1,a0.2.2.1,(a0.2.2.2.1.1,a0.2.2.2.1.2.1,a0.2.2.2.1.2.2.1,a0.2.2.2.1.2.2.2.1,a0.2.2.2.1.2.2.2.2.1,a0.2.2.2.1.2.2.2.2.2.1,val_1),a0.2.2.2.2),(0,([],[],()),false,(0,0,0,(0,0,0,0,()),0,0,([],()),()),[],[],()),[],())).bind fun val=>bif decide ((0 + List.length val.1.2.2.2.2.2.1) * 16≤140737488355328) then some ((val.1.1,val.1.2.1,val.1.2.2.1,val.1.2.2.2.1,val.2.2.1,[]++val.1.2.2.2.2.2.1,()),()) else none
theorem Ae0:∃ f,f=@Ru:=⟨_,rfl⟩
def P0:=Classical.choose Ae0
theorem Ae1:@P0=@Ru:=Classical.choose_spec Ae0
def Ae2:SD:=⟨Azp,fun x=>P0 x.1⟩
theorem Bv7 (v17:List B5) (b0 b1:Bg) (hv:v17.length≤1000) (hp:∀ x∈v17,x.1.length≤1000):∀ (k m i:Nat) (l:List B5),i + k=v17.length→k < m→l=v17.take i→
  As (Gk m v17 (nI v17.length) i b0 b1 l) fun q=>q=(b0,b1,v17,()):=by
 intro k
 induction k with
 | zero=>
  intro m i l hi hm hl
  cases m with
  | zero=>omega
  | succ m=>
   simp only [Gk,K3]
   rw [hl,List.take_of_length_le (by omega)]
   exact As.no (Bd (by simp only [nI]; omega)) (As.some rfl)
 | succ k ih=>
  intro m i l hi hm hl
  cases m with
  | zero=>omega
  | succ m=>
   have e1:IntKind.i64.wrap ((i:Int) + 1)=((i + 1:Nat):Int):=wI (by omega)
   have hx:=hp _ (Zr Ut (show i < v17.length by omega))
   have e2:Bt (v17.getD (Int.toNat (i:Int)) ([],()))=some (v17.getD i Ut):=if_pos (Nat.le_trans hx (by decide))
   have hll:l.length≤1000:=by rw [hl,List.length_take]; omega
   simp only [Gk,K3,e1,e2,Option.bind_some]
   refine As.go (Ag (by simp only [nI]; omega)) (As.go (Ag (by omega)) (As.go (Ag (by simp only [nI]; omega)) (As.go (Ag (by simp only [Et]; omega)) ?_)))
   exact ih m (i + 1) _ (by omega) (by omega) (by rw [hl]; exact (A9f (by omega)).symm)
theorem Bt6 {w:Bg} (h:Bnh w):As (P0 w) fun q=>q.1=w:=by
 obtain ⟨h1,h2,h3,h4,h5,h6⟩:=h
 rw [Ae1]
 unfold Ru
 have c1:As ((Ko w.2.1).bind fun val=>some (val,())) fun q=>q=(w.2.1,()):=As.bind ⟨_,if_pos ⟨h1,h2⟩,rfl⟩ fun a ha=>As.some (by rw [← ha])
 have c2:As ((Bt w.2.2.2.1.2.2.2.2.2.2.1).bind fun val=>some (val,())) fun q=>q=(w.2.2.2.1.2.2.2.2.2.2.1,()):=As.bind ⟨_,if_pos (Nat.le_trans h3 (by decide)),rfl⟩ fun a ha=>As.some (by rw [← ha])
 refine As.bind c1 fun q hq=>?_
 subst hq
 refine As.bind c2 fun q hq=>?_
 subst hq
 refine As.bind (Bv7 w.2.2.2.2.1 _ _ h4 h5 w.2.2.2.2.1.length _ 0 [] (by omega) (by simp only [Ow,nI]; omega) rfl) fun q hq=>?_
 subst hq
 exact As.go (Ag (by show (0 + w.2.2.2.2.2.1.length) * 16≤_; omega)) (As.some rfl)
def n9 {R:Type} (k:Kt R):=(I3 (Kl 6) (.exit 0) 2 k)
def Aik {R:Type}:Lt R Kl:=(Ea (pat:=Kl) 6 (fun d k=>(Asc d).bind (n9 k)) Hn)
theorem Ae3:A2 Tryz.prog Aez:=A5 ⟨Rs,Aij,trivial⟩
theorem Asd {R:Type}:A4 Tryz.prog R 36 0 Kl Aik n7:=
 B8 (cfg:=⟨Aez,0,36,Kl⟩) 6 [] (fun NX X d=>(u4 (Ac (Ac Ae))) (K3  NX X) d) (fun m d=>(u4 (Ac (Ac Ae))) (Gk m) d) (fun d=>(u4 (Ac (Ac Ae))) Ow d) n9 Ae3 trivial (fun f NX d=>by simp only [u4,Ac,Ae]; unfold K3; simp only [nb])
theorem Azq:Bs Tryz.prog 134 Ae2:=
 A3 (pat:=Kl) [n7] Aik Ae3 ⟨Asd,trivial⟩ Tryz.func134 (de:=fun x=>Ru x.1) (fun x r h=>by have q:P0 x.1=some r:=h; rw [Ae1] at q; exact q) fun _=>by kernel_rfl
end Go.Proofs.YtfkefgbihlfjmaaGreat.V
end
