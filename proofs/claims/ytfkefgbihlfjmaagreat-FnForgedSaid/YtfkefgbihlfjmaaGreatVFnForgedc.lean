/- What the functions that FnForged reaches come to: part 3. No condition. -/
import Derived.Test.YtfkefgbihlfjmaaGreatVFnForgedb
import Derived.KernelRfl
namespace Go.Proofs.YtfkefgbihlfjmaaGreat.V
open Go Go.Proofs.YtfkefgbihlfjmaaGreat.R Go.Proofs
set_option maxRecDepth 100000
set_option linter.unusedVariables false
set_option linter.unusedSimpArgs false
def Kq (w:Wld):Bool:=Dg w
def Aby:Sig:=⟨[.rd Fr],[some 16],[.rd .bool],[none]⟩
noncomputable def sd_impl_ValidWorld:SD:=⟨Aby,fun x=>some (((Kq x.1),()),(()))⟩
noncomputable def ta_impl_ValidWorld:Tb:=tb [(94,sd_impl_ValidDisk),(95,sd_impl_in),(117,sd_impl_ValidStore),(150,sd_impl_ValidState),(156,sd_impl_noStore)]
def pa_impl_ValidWorld:Nat→Pat×(Nat→Pat):=Gf [(7,⟨[.sl 68 0 Ci,.boxSl 1 1 .str,.boxSl 1 2 Da,.boxSl 1 13 Av,.boxSl 1 14 Ci,.boxSl 1 15 .str],[(1,.lf (.ptr 0 0)),(68,.lf (.d (.sl Ci))),(69,.lf (.d tI)),(70,.lf (.d tI))],[.box 36 [.d tI,.d (.sl .str),.d (.sl Da),.d .bool,.d tI,.d tI,.d tI,.d tI,.d tI,.d tI,.d tI,.d tI,.d tI,.d (.sl Av),.d (.sl Ci),.d (.sl .str)]]⟩,[(2,⟨[.boxSl 1 1 .str,.boxSl 1 2 Da,.boxSl 1 13 Av,.boxSl 1 14 Ci,.boxSl 1 15 .str],[(1,.lf (.ptr 0 0))],[.box 36 [.d tI,.d (.sl .str),.d (.sl Da),.d .bool,.d tI,.d tI,.d tI,.d tI,.d tI,.d tI,.d tI,.d tI,.d tI,.d (.sl Av),.d (.sl Ci),.d (.sl .str)]]⟩),(1,⟨[],[(2,.lf (.d .bool))],[]⟩)]),(13,⟨[.sl 79 0 .str],[(79,.lf (.d (.sl .str))),(80,.lf (.d tI)),(81,.lf (.d tI))],[]⟩,[(4,p0),(1,⟨[],[(2,.lf (.d .bool))],[]⟩)])]
noncomputable def co_impl_ValidWorld_7:Code:=(As (Ba Tryz.f64)).getD 0 .skip
noncomputable def co_impl_ValidWorld_13:Code:=(As (Ba Tryz.f64)).getD 1 .skip
def Bk (v79:List ByteArray) (v80:Int) (v81:Int):Nat:=(v80 - v81).toNat + 1
noncomputable def Fb {R:Type}  (NX:((List ByteArray)×(Int)×(Int)×Unit)→Option R) (X4:(Unit)→Option R) (X1:((Bool)×Unit)→Option R) (v79:List ByteArray) (v80:Int) (v81:Int):Option R:=
 bif decide (v81 < v80) then bif decide (0≤v81) then bif decide (v81 < nI v79.length) then bif nI (ByteArray.size (v79.getD v81.toNat (ByteArray.mk #[]))) != 64 then X1 (false,()) else NX (v79,v80,IntKind.i64.wrap (v81 + 1),()) else none else none else X4 PUnit.unit
noncomputable def Ay:Nat→(List ByteArray)→(Int)→(Int) →  Option ((Unit) ⊕ ((Bool)×Unit))
 | 0,_,_,_=>none
 | m + 1,v79,v80,v81=>Fb  (fun d=>Ay m d.1 d.2.1 d.2.2.1) (fun d=>some (.inl (d))) (fun d=>some (.inr (d))) v79 v80 v81
def Ce (v68:List Stt) (v69:Int) (v70:Int) (b0_0:Int) (b0_1:List ByteArray) (b0_2:List Wr) (b0_3:Bool) (b0_4:Int) (b0_5:Int) (b0_6:Int) (b0_7:Int) (b0_8:Int) (b0_9:Int) (b0_10:Int) (b0_11:Int) (b0_12:Int) (b0_13:List Pr2) (b0_14:List Stt) (b0_15:List ByteArray):Nat:=(v69 - v70).toNat + 1
noncomputable def F1 {R:Type}  (NX:((List Stt)×(Int)×(Int)×(Int)×(List ByteArray)×(List Wr)×(Bool)×(Int)×(Int)×(Int)×(Int)×(Int)×(Int)×(Int)×(Int)×(Int)×(List Pr2)×(List Stt)×(List ByteArray)×Unit)→Option R) (X2:((Int)×(List ByteArray)×(List Wr)×(Bool)×(Int)×(Int)×(Int)×(Int)×(Int)×(Int)×(Int)×(Int)×(Int)×(List Pr2)×(List Stt)×(List ByteArray)×Unit)→Option R) (X1:((Bool)×Unit)→Option R) (v68:List Stt) (v69:Int) (v70:Int) (b0_0:Int) (b0_1:List ByteArray) (b0_2:List Wr) (b0_3:Bool) (b0_4:Int) (b0_5:Int) (b0_6:Int) (b0_7:Int) (b0_8:Int) (b0_9:Int) (b0_10:Int) (b0_11:Int) (b0_12:Int) (b0_13:List Pr2) (b0_14:List Stt) (b0_15:List ByteArray):Option R:=
 bif decide (v70 < v69) then bif decide (0≤v70) then bif decide (v70 < nI v68.length) then bif !E2 (v68.getD v70.toNat ([],())) then X1 (false,()) else NX (v68,v69,IntKind.i64.wrap (v70 + 1),b0_0,b0_1,b0_2,b0_3,b0_4,b0_5,b0_6,b0_7,b0_8,b0_9,b0_10,b0_11,b0_12,b0_13,b0_14,b0_15,()) else none else none else X2 (b0_0,b0_1,b0_2,b0_3,b0_4,b0_5,b0_6,b0_7,b0_8,b0_9,b0_10,b0_11,b0_12,b0_13,b0_14,b0_15,())
noncomputable def Be:Nat→(List Stt)→(Int)→(Int)→(Int)→(List ByteArray)→(List Wr)→(Bool)→(Int)→(Int)→(Int)→(Int)→(Int)→(Int)→(Int)→(Int)→(Int)→(List Pr2)→(List Stt)→(List ByteArray) →  Option (((Int)×(List ByteArray)×(List Wr)×(Bool)×(Int)×(Int)×(Int)×(Int)×(Int)×(Int)×(Int)×(Int)×(Int)×(List Pr2)×(List Stt)×(List ByteArray)×Unit) ⊕ ((Bool)×Unit))
 | 0,_,_,_,_,_,_,_,_,_,_,_,_,_,_,_,_,_,_,_=>none
 | m + 1,v68,v69,v70,b0_0,b0_1,b0_2,b0_3,b0_4,b0_5,b0_6,b0_7,b0_8,b0_9,b0_10,b0_11,b0_12,b0_13,b0_14,b0_15=>F1  (fun d=>Be m d.1 d.2.1 d.2.2.1 d.2.2.2.1 d.2.2.2.2.1 d.2.2.2.2.2.1 d.2.2.2.2.2.2.1 d.2.2.2.2.2.2.2.1 d.2.2.2.2.2.2.2.2.1 d.2.2.2.2.2.2.2.2.2.1 d.2.2.2.2.2.2.2.2.2.2.1 d.2.2.2.2.2.2.2.2.2.2.2.1 d.2.2.2.2.2.2.2.2.2.2.2.2.1 d.2.2.2.2.2.2.2.2.2.2.2.2.2.1 d.2.2.2.2.2.2.2.2.2.2.2.2.2.2.1 d.2.2.2.2.2.2.2.2.2.2.2.2.2.2.2.1 d.2.2.2.2.2.2.2.2.2.2.2.2.2.2.2.2.1 d.2.2.2.2.2.2.2.2.2.2.2.2.2.2.2.2.2.1 d.2.2.2.2.2.2.2.2.2.2.2.2.2.2.2.2.2.2.1) (fun d=>some (.inl (d))) (fun d=>some (.inr (d))) v68 v69 v70 b0_0 b0_1 b0_2 b0_3 b0_4 b0_5 b0_6 b0_7 b0_8 b0_9 b0_10 b0_11 b0_12 b0_13 b0_14 b0_15
noncomputable def M3 (a0:Wld):Option ((((Bool)×Unit)×(Unit))):=
 bif !B1 a0.1 1 8 then some ((false,()),()) else bif !Ll a0.2.1 then some ((false,()),()) else bif !B1 (nI (List.length a0.2.2.2.2.1)) 1 200 then some ((false,()),()) else bif decide (nI (List.length a0.2.2.2.2.2.1) > 2000) then some ((false,()),()) else bif a0.2.2.1 then bif !Ko a0.2.2.2.1 then some ((false,()),()) else bif a0.2.2.2.1.1 != a0.1 then some ((false,()),()) else bif a0.2.2.2.1.2.1 != nI (List.length a0.2.1.1) then some ((false,()),()) else bif !a0.2.2.1 then bif !K7 a0.2.2.2.1 then some ((false,()),()) else ((fun d=>Be (Ce d.1 d.2.1 d.2.2.1 d.2.2.2.1 d.2.2.2.2.1 d.2.2.2.2.2.1 d.2.2.2.2.2.2.1 d.2.2.2.2.2.2.2.1 d.2.2.2.2.2.2.2.2.1 d.2.2.2.2.2.2.2.2.2.1 d.2.2.2.2.2.2.2.2.2.2.1 d.2.2.2.2.2.2.2.2.2.2.2.1 d.2.2.2.2.2.2.2.2.2.2.2.2.1 d.2.2.2.2.2.2.2.2.2.2.2.2.2.1 d.2.2.2.2.2.2.2.2.2.2.2.2.2.2.1 d.2.2.2.2.2.2.2.2.2.2.2.2.2.2.2.1 d.2.2.2.2.2.2.2.2.2.2.2.2.2.2.2.2.1 d.2.2.2.2.2.2.2.2.2.2.2.2.2.2.2.2.2.1 d.2.2.2.2.2.2.2.2.2.2.2.2.2.2.2.2.2.2.1) d.1 d.2.1 d.2.2.1 d.2.2.2.1 d.2.2.2.2.1 d.2.2.2.2.2.1 d.2.2.2.2.2.2.1 d.2.2.2.2.2.2.2.1 d.2.2.2.2.2.2.2.2.1 d.2.2.2.2.2.2.2.2.2.1 d.2.2.2.2.2.2.2.2.2.2.1 d.2.2.2.2.2.2.2.2.2.2.2.1 d.2.2.2.2.2.2.2.2.2.2.2.2.1 d.2.2.2.2.2.2.2.2.2.2.2.2.2.1 d.2.2.2.2.2.2.2.2.2.2.2.2.2.2.1 d.2.2.2.2.2.2.2.2.2.2.2.2.2.2.2.1 d.2.2.2.2.2.2.2.2.2.2.2.2.2.2.2.2.1 d.2.2.2.2.2.2.2.2.2.2.2.2.2.2.2.2.2.1 d.2.2.2.2.2.2.2.2.2.2.2.2.2.2.2.2.2.2.1) (a0.2.2.2.2.1,nI (List.length a0.2.2.2.2.1),0,a0.1,a0.2.1.1,a0.2.1.2.1,a0.2.2.1,a0.2.2.2.1.1,a0.2.2.2.1.2.1,a0.2.2.2.1.2.2.1,a0.2.2.2.1.2.2.2.1.1,a0.2.2.2.1.2.2.2.1.2.1,a0.2.2.2.1.2.2.2.1.2.2.1,a0.2.2.2.1.2.2.2.1.2.2.2.1,a0.2.2.2.1.2.2.2.2.1,a0.2.2.2.1.2.2.2.2.2.1,a0.2.2.2.1.2.2.2.2.2.2.1.1,a0.2.2.2.2)).bind fun val=>Cj (fun d=>((fun d=>Ay (Bk d.1 d.2.1 d.2.2.1) d.1 d.2.1 d.2.2.1) (d.2.2.2.2.2.2.2.2.2.2.2.2.2.2.2.1,nI (List.length d.2.2.2.2.2.2.2.2.2.2.2.2.2.2.2.1),0,())).bind fun val=>Cj (fun d=>some ((true,()),())) (fun d=>some (d,())) val) (fun d=>some (d,())) val else ((fun d=>Be (Ce d.1 d.2.1 d.2.2.1 d.2.2.2.1 d.2.2.2.2.1 d.2.2.2.2.2.1 d.2.2.2.2.2.2.1 d.2.2.2.2.2.2.2.1 d.2.2.2.2.2.2.2.2.1 d.2.2.2.2.2.2.2.2.2.1 d.2.2.2.2.2.2.2.2.2.2.1 d.2.2.2.2.2.2.2.2.2.2.2.1 d.2.2.2.2.2.2.2.2.2.2.2.2.1 d.2.2.2.2.2.2.2.2.2.2.2.2.2.1 d.2.2.2.2.2.2.2.2.2.2.2.2.2.2.1 d.2.2.2.2.2.2.2.2.2.2.2.2.2.2.2.1 d.2.2.2.2.2.2.2.2.2.2.2.2.2.2.2.2.1 d.2.2.2.2.2.2.2.2.2.2.2.2.2.2.2.2.2.1 d.2.2.2.2.2.2.2.2.2.2.2.2.2.2.2.2.2.2.1) d.1 d.2.1 d.2.2.1 d.2.2.2.1 d.2.2.2.2.1 d.2.2.2.2.2.1 d.2.2.2.2.2.2.1 d.2.2.2.2.2.2.2.1 d.2.2.2.2.2.2.2.2.1 d.2.2.2.2.2.2.2.2.2.1 d.2.2.2.2.2.2.2.2.2.2.1 d.2.2.2.2.2.2.2.2.2.2.2.1 d.2.2.2.2.2.2.2.2.2.2.2.2.1 d.2.2.2.2.2.2.2.2.2.2.2.2.2.1 d.2.2.2.2.2.2.2.2.2.2.2.2.2.2.1 d.2.2.2.2.2.2.2.2.2.2.2.2.2.2.2.1 d.2.2.2.2.2.2.2.2.2.2.2.2.2.2.2.2.1 d.2.2.2.2.2.2.2.2.2.2.2.2.2.2.2.2.2.1 d.2.2.2.2.2.2.2.2.2.2.2.2.2.2.2.2.2.2.1) (a0.2.2.2.2.1,nI (List.length a0.2.2.2.2.1),0,a0.1,a0.2.1.1,a0.2.1.2.1,a0.2.2.1,a0.2.2.2.1.1,a0.2.2.2.1.2.1,a0.2.2.2.1.2.2.1,a0.2.2.2.1.2.2.2.1.1,a0.2.2.2.1.2.2.2.1.2.1,a0.2.2.2.1.2.2.2.1.2.2.1,a0.2.2.2.1.2.2.2.1.2.2.2.1,a0.2.2.2.1.2.2.2.2.1,a0.2.2.2.1.2.2.2.2.2.1,a0.2.2.2.1.2.2.2.2.2.2.1.1,a0.2.2.2.2)).bind fun val=>Cj (fun d=>((fun d=>Ay (Bk d.1 d.2.1 d.2.2.1) d.1 d.2.1 d.2.2.1) (d.2.2.2.2.2.2.2.2.2.2.2.2.2.2.2.1,nI (List.length d.2.2.2.2.2.2.2.2.2.2.2.2.2.2.2.1),0,())).bind fun val=>Cj (fun d=>some ((true,()),())) (fun d=>some (d,())) val) (fun d=>some (d,())) val else bif !a0.2.2.1 then bif !K7 a0.2.2.2.1 then some ((false,()),()) else ((fun d=>Be (Ce d.1 d.2.1 d.2.2.1 d.2.2.2.1 d.2.2.2.2.1 d.2.2.2.2.2.1 d.2.2.2.2.2.2.1 d.2.2.2.2.2.2.2.1 d.2.2.2.2.2.2.2.2.1 d.2.2.2.2.2.2.2.2.2.1 d.2.2.2.2.2.2.2.2.2.2.1 d.2.2.2.2.2.2.2.2.2.2.2.1 d.2.2.2.2.2.2.2.2.2.2.2.2.1 d.2.2.2.2.2.2.2.2.2.2.2.2.2.1 d.2.2.2.2.2.2.2.2.2.2.2.2.2.2.1 d.2.2.2.2.2.2.2.2.2.2.2.2.2.2.2.1 d.2.2.2.2.2.2.2.2.2.2.2.2.2.2.2.2.1 d.2.2.2.2.2.2.2.2.2.2.2.2.2.2.2.2.2.1 d.2.2.2.2.2.2.2.2.2.2.2.2.2.2.2.2.2.2.1) d.1 d.2.1 d.2.2.1 d.2.2.2.1 d.2.2.2.2.1 d.2.2.2.2.2.1 d.2.2.2.2.2.2.1 d.2.2.2.2.2.2.2.1 d.2.2.2.2.2.2.2.2.1 d.2.2.2.2.2.2.2.2.2.1 d.2.2.2.2.2.2.2.2.2.2.1 d.2.2.2.2.2.2.2.2.2.2.2.1 d.2.2.2.2.2.2.2.2.2.2.2.2.1 d.2.2.2.2.2.2.2.2.2.2.2.2.2.1 d.2.2.2.2.2.2.2.2.2.2.2.2.2.2.1 d.2.2.2.2.2.2.2.2.2.2.2.2.2.2.2.1 d.2.2.2.2.2.2.2.2.2.2.2.2.2.2.2.2.1 d.2.2.2.2.2.2.2.2.2.2.2.2.2.2.2.2.2.1 d.2.2.2.2.2.2.2.2.2.2.2.2.2.2.2.2.2.2.1) (a0.2.2.2.2.1,nI (List.length a0.2.2.2.2.1),0,a0.1,a0.2.1.1,a0.2.1.2.1,a0.2.2.1,a0.2.2.2.1.1,a0.2.2.2.1.2.1,a0.2.2.2.1.2.2.1,a0.2.2.2.1.2.2.2.1.1,a0.2.2.2.1.2.2.2.1.2.1,a0.2.2.2.1.2.2.2.1.2.2.1,a0.2.2.2.1.2.2.2.1.2.2.2.1,a0.2.2.2.1.2.2.2.2.1,a0.2.2.2.1.2.2.2.2.2.1,a0.2.2.2.1.2.2.2.2.2.2.1.1,a0.2.2.2.2)).bind fun val=>Cj (fun d=>((fun d=>Ay (Bk d.1 d.2.1 d.2.2.1) d.1 d.2.1 d.2.2.1) (d.2.2.2.2.2.2.2.2.2.2.2.2.2.2.2.1,nI (List.length d.2.2.2.2.2.2.2.2.2.2.2.2.2.2.2.1),0,())).bind fun val=>Cj (fun d=>some ((true,()),())) (fun d=>some (d,())) val) (fun d=>some (d,())) val else ((fun d=>Be (Ce d.1 d.2.1 d.2.2.1 d.2.2.2.1 d.2.2.2.2.1 d.2.2.2.2.2.1 d.2.2.2.2.2.2.1 d.2.2.2.2.2.2.2.1 d.2.2.2.2.2.2.2.2.1 d.2.2.2.2.2.2.2.2.2.1 d.2.2.2.2.2.2.2.2.2.2.1 d.2.2.2.2.2.2.2.2.2.2.2.1 d.2.2.2.2.2.2.2.2.2.2.2.2.1 d.2.2.2.2.2.2.2.2.2.2.2.2.2.1 d.2.2.2.2.2.2.2.2.2.2.2.2.2.2.1 d.2.2.2.2.2.2.2.2.2.2.2.2.2.2.2.1 d.2.2.2.2.2.2.2.2.2.2.2.2.2.2.2.2.1 d.2.2.2.2.2.2.2.2.2.2.2.2.2.2.2.2.2.1 d.2.2.2.2.2.2.2.2.2.2.2.2.2.2.2.2.2.2.1) d.1 d.2.1 d.2.2.1 d.2.2.2.1 d.2.2.2.2.1 d.2.2.2.2.2.1 d.2.2.2.2.2.2.1 d.2.2.2.2.2.2.2.1 d.2.2.2.2.2.2.2.2.1 d.2.2.2.2.2.2.2.2.2.1 d.2.2.2.2.2.2.2.2.2.2.1 d.2.2.2.2.2.2.2.2.2.2.2.1 d.2.2.2.2.2.2.2.2.2.2.2.2.1 d.2.2.2.2.2.2.2.2.2.2.2.2.2.1 d.2.2.2.2.2.2.2.2.2.2.2.2.2.2.1 d.2.2.2.2.2.2.2.2.2.2.2.2.2.2.2.1 d.2.2.2.2.2.2.2.2.2.2.2.2.2.2.2.2.1 d.2.2.2.2.2.2.2.2.2.2.2.2.2.2.2.2.2.1 d.2.2.2.2.2.2.2.2.2.2.2.2.2.2.2.2.2.2.1) (a0.2.2.2.2.1,nI (List.length a0.2.2.2.2.1),0,a0.1,a0.2.1.1,a0.2.1.2.1,a0.2.2.1,a0.2.2.2.1.1,a0.2.2.2.1.2.1,a0.2.2.2.1.2.2.1,a0.2.2.2.1.2.2.2.1.1,a0.2.2.2.1.2.2.2.1.2.1,a0.2.2.2.1.2.2.2.1.2.2.1,a0.2.2.2.1.2.2.2.1.2.2.2.1,a0.2.2.2.1.2.2.2.2.1,a0.2.2.2.1.2.2.2.2.2.1,a0.2.2.2.1.2.2.2.2.2.2.1.1,a0.2.2.2.2)).bind fun val=>Cj (fun d=>((fun d=>Ay (Bk d.1 d.2.1 d.2.2.1) d.1 d.2.1 d.2.2.1) (d.2.2.2.2.2.2.2.2.2.2.2.2.2.2.2.1,nI (List.length d.2.2.2.2.2.2.2.2.2.2.2.2.2.2.2.1),0,())).bind fun val=>Cj (fun d=>some ((true,()),())) (fun d=>some (d,())) val) (fun d=>some (d,())) val
theorem Aww (xs:List Stt) (h:xs.length≤200) (b0:Int) (b1:List ByteArray) (b2:List Wr) (b3:Bool) (b4 b5 b6 b7 b8 b9 b10 b11 b12:Int) (b13:List Pr2) (b14:List Stt) (b15:List ByteArray):
  Be (Ce xs (nI xs.length) 0 b0 b1 b2 b3 b4 b5 b6 b7 b8 b9 b10 b11 b12 b13 b14 b15) xs (nI xs.length) 0 b0 b1 b2 b3 b4 b5 b6 b7 b8 b9 b10 b11 b12 b13 b14 b15=
  some (bif (List.range' 0 xs.length).all (fun i=>Aj (xs.getD i s5)) then .inl (b0,b1,b2,b3,b4,b5,b6,b7,b8,b9,b10,b11,b12,b13,b14,b15,()) else .inr (false,())):=by
 have hL:=I3 (n:=xs.length) (fun i=>Aj (xs.getD i s5)) (g:=fun m i=>Be m xs (nI xs.length) i b0 b1 b2 b3 b4 b5 b6 b7 b8 b9 b10 b11 b12 b13 b14 b15) (ok:=.inl (b0,b1,b2,b3,b4,b5,b6,b7,b8,b9,b10,b11,b12,b13,b14,b15,())) (bad:=.inr (false,())) (fun m i hi=>by
  show Be (m + 1) xs (nI xs.length) i b0 b1 b2 b3 b4 b5 b6 b7 b8 b9 b10 b11 b12 b13 b14 b15=_
  simp only [Be,F1]
  rw [W1 hi,H2,wI (show i < 4611686018427387904 by omega),Int.toNat_natCast]
  show (bif !Aj (xs.getD i s5) then _ else _)=_
  cases Aj (xs.getD i s5)<;>rfl) (fun m=>by
  show Be (m + 1) xs (nI xs.length) (xs.length:Int) b0 b1 b2 b3 b4 b5 b6 b7 b8 b9 b10 b11 b12 b13 b14 b15=_
  simp only [Be,F1]
  rw [Mm]
  rfl) (Ce xs (nI xs.length) 0 b0 b1 b2 b3 b4 b5 b6 b7 b8 b9 b10 b11 b12 b13 b14 b15) 0 (by omega) (by simp [Ce,nI])
 exact hL
theorem Ana (xs:List ByteArray) (h:xs.length≤2000):Ay (Bk xs (nI xs.length) 0) xs (nI xs.length) 0=
  some (bif (List.range' 0 xs.length).all (fun i=>decide ((xs.getD i z0).size=64)) then .inl () else .inr (false,())):=by
 have hL:=I3 (n:=xs.length) (fun i=>decide ((xs.getD i z0).size=64)) (g:=fun m i=>Ay m xs (nI xs.length) i) (ok:=.inl ()) (bad:=.inr (false,())) (fun m i hi=>by
  show Ay (m + 1) xs (nI xs.length) i=_
  simp only [Ay,Fb]
  have e:(nI (ByteArray.size (List.getD xs i (ByteArray.mk #[]))) != 64)=!decide ((xs.getD i z0).size=64):=Aza (xs.getD i z0).size 64
  rw [W1 hi,H2,wI (show i < 4611686018427387904 by omega),Int.toNat_natCast,e]
  cases decide ((xs.getD i z0).size=64)<;>rfl) (fun m=>by
  show Ay (m + 1) xs (nI xs.length) (xs.length:Int)=_
  simp only [Ay,Fb]
  rw [Mm]
  rfl) (Bk xs (nI xs.length) 0) 0 (by omega) (by simp [Bk,nI])
 exact hL
theorem Abz (a0:Wld):M3 a0=some (((Kq a0),()),(())):=by
 unfold M3 Kq Dg
 show (bif !Ch a0.1 1 8 then _ else bif !A0 a0.2.1 then _ else bif !Ch (nI a0.2.2.2.2.1.length) 1 200 then _ else _)=_
 cases Ch a0.1 1 8 with
 | false=>rfl
 | true=>
  cases A0 a0.2.1 with
  | false=>rfl
  | true=>
   cases hp:Ch (nI a0.2.2.2.2.1.length) 1 200 with
   | false=>rfl
   | true=>
    have hpl:a0.2.2.2.2.1.length≤200:=by have:=(Cy hp).2; simp only [nI] at this; omega
    have e1:decide (nI a0.2.2.2.2.2.1.length > 2000)=!decide (a0.2.2.2.2.2.1.length≤2000):=Zf _ 2000
    rw [e1]
    cases hw:decide (a0.2.2.2.2.2.1.length≤2000) with
    | false=>rfl
    | true=>
     have hwl:=of_decide_eq_true hw
     simp only [Bool.not_true,Bool.true_and,cond_false]
     have key:∀ b:Bool,(bif b then (bif P5 a0 then (bif I7 a0 then some ((true,()),()) else some ((false,()),())) else some ((false,()),())) else some ((false,()),()))=(some ((b&&(P5 a0&&I7 a0),()),()):Option ((Bool×Unit)×Unit)):=fun b=>by
      cases b<;>cases P5 a0<;>cases I7 a0<;>rfl
     rw [← key]
     simp only [Aww _ hpl,Option.bind_some]
     show _=(bif Q8 a0 then (bif P5 a0 then (bif I7 a0 then _ else _) else _) else _)
     unfold Q8
     have hP:P5 a0=(List.range' 0 a0.2.2.2.2.1.length).all (fun i=>Aj (a0.2.2.2.2.1.getD i s5)):=rfl
     have hW:I7 a0=(List.range' 0 a0.2.2.2.2.2.1.length).all (fun i=>decide ((a0.2.2.2.2.2.1.getD i z0).size=64)):=rfl
     rw [hP,hW]
     cases hu:a0.2.2.1 with
     | true=>
      simp only [cond_true,Bool.not_true,cond_false]
      show (bif !Ax a0.2.2.2.1 then _ else _)=_
      have w1:(a0.2.2.2.1.1 != a0.1)=!(a0.2.2.2.1.1==a0.1):=rfl
      have w2:(a0.2.2.2.1.2.1 != nI a0.2.1.1.length)=!(a0.2.2.2.1.2.1==nI a0.2.1.1.length):=rfl
      rw [w1,w2]
      cases Ax a0.2.2.2.1 with
      | false=>rfl
      | true=>
       cases (a0.2.2.2.1.1==a0.1) with
       | false=>rfl
       | true=>
        cases (a0.2.2.2.1.2.1==nI a0.2.1.1.length) with
        | false=>rfl
        | true=>
         cases (List.range' 0 a0.2.2.2.2.1.length).all (fun i=>Aj (a0.2.2.2.2.1.getD i s5)) with
         | false=>rfl
         | true=>
          show (Ay (Bk a0.2.2.2.2.2.1 (nI a0.2.2.2.2.2.1.length) 0) a0.2.2.2.2.2.1 (nI a0.2.2.2.2.2.1.length) 0).bind _=_
          rw [Ana _ hwl]
          cases (List.range' 0 a0.2.2.2.2.2.1.length).all (fun i=>decide ((a0.2.2.2.2.2.1.getD i z0).size=64))<;>rfl
     | false=>
      simp only [cond_true,Bool.not_false,cond_false]
      show (bif !Q0 a0.2.2.2.1 then _ else _)=_
      cases Q0 a0.2.2.2.1 with
      | false=>rfl
      | true=>
       cases (List.range' 0 a0.2.2.2.2.1.length).all (fun i=>Aj (a0.2.2.2.2.1.getD i s5)) with
       | false=>rfl
       | true=>
        show (Ay (Bk a0.2.2.2.2.2.1 (nI a0.2.2.2.2.2.1.length) 0) a0.2.2.2.2.2.1 (nI a0.2.2.2.2.2.1.length) 0).bind _=_
        rw [Ana _ hwl]
        cases (List.range' 0 a0.2.2.2.2.2.1.length).all (fun i=>decide ((a0.2.2.2.2.2.1.getD i z0).size=64))<;>rfl
noncomputable def Pz {R:Type} (k:Kt R):=(Cj (I1 (pa_impl_ValidWorld 7) (.exit 0) 2 k) (I1 (pa_impl_ValidWorld 7) .ret 1 k))
noncomputable def Ol {R:Type} (k:Kt R):=(Cj (I1 (pa_impl_ValidWorld 13) (.exit 2) 4 k) (I1 (pa_impl_ValidWorld 13) .ret 1 k))
noncomputable def Oc {R:Type}:Lt R pa_impl_ValidWorld:=(Ed (pat:=pa_impl_ValidWorld) 7 (fun d k=>(Be (Ce d.1 d.2.1 d.2.2.1 d.2.2.2.1 d.2.2.2.2.1 d.2.2.2.2.2.1 d.2.2.2.2.2.2.1 d.2.2.2.2.2.2.2.1 d.2.2.2.2.2.2.2.2.1 d.2.2.2.2.2.2.2.2.2.1 d.2.2.2.2.2.2.2.2.2.2.1 d.2.2.2.2.2.2.2.2.2.2.2.1 d.2.2.2.2.2.2.2.2.2.2.2.2.1 d.2.2.2.2.2.2.2.2.2.2.2.2.2.1 d.2.2.2.2.2.2.2.2.2.2.2.2.2.2.1 d.2.2.2.2.2.2.2.2.2.2.2.2.2.2.2.1 d.2.2.2.2.2.2.2.2.2.2.2.2.2.2.2.2.1 d.2.2.2.2.2.2.2.2.2.2.2.2.2.2.2.2.2.1 d.2.2.2.2.2.2.2.2.2.2.2.2.2.2.2.2.2.2.1) d.1 d.2.1 d.2.2.1 d.2.2.2.1 d.2.2.2.2.1 d.2.2.2.2.2.1 d.2.2.2.2.2.2.1 d.2.2.2.2.2.2.2.1 d.2.2.2.2.2.2.2.2.1 d.2.2.2.2.2.2.2.2.2.1 d.2.2.2.2.2.2.2.2.2.2.1 d.2.2.2.2.2.2.2.2.2.2.2.1 d.2.2.2.2.2.2.2.2.2.2.2.2.1 d.2.2.2.2.2.2.2.2.2.2.2.2.2.1 d.2.2.2.2.2.2.2.2.2.2.2.2.2.2.1 d.2.2.2.2.2.2.2.2.2.2.2.2.2.2.2.1 d.2.2.2.2.2.2.2.2.2.2.2.2.2.2.2.2.1 d.2.2.2.2.2.2.2.2.2.2.2.2.2.2.2.2.2.1 d.2.2.2.2.2.2.2.2.2.2.2.2.2.2.2.2.2.2.1).bind (Pz k)) (Ed (pat:=pa_impl_ValidWorld) 13 (fun d k=>(Ay (Bk d.1 d.2.1 d.2.2.1) d.1 d.2.1 d.2.2.1).bind (Ol k)) Hu))
theorem M4:A2 Tryz.prog ta_impl_ValidWorld:=A7 ⟨Aef,Gl,Abx,M1,Ai8,trivial⟩
theorem Ys {R:Type}:A3 Tryz.prog R 89 0 pa_impl_ValidWorld Oc co_impl_ValidWorld_13:=
 B3 (cfg:=⟨ta_impl_ValidWorld,0,89,pa_impl_ValidWorld⟩) 13 [] (fun NX X d=>Fb  NX (fun e=>X (.inl (e))) (fun e=>X (.inr (e))) d.1 d.2.1 d.2.2.1) (fun m d=>Ay m d.1 d.2.1 d.2.2.1) (fun d=>Bk d.1 d.2.1 d.2.2.1) Ol M4 trivial (fun f NX d=>by unfold Fb; simp only [Al,Ar,Ak,Option.bind_assoc,Option.bind_none,Option.bind_some]) (fun _ _ _=>by kernel_rfl)
theorem f9 {R:Type}:A3 Tryz.prog R 89 0 pa_impl_ValidWorld Oc co_impl_ValidWorld_7:=
 B3 (cfg:=⟨ta_impl_ValidWorld,0,89,pa_impl_ValidWorld⟩) 7 [] (fun NX X (d:(List Stt)×(Int)×(Int)×(Int)×(List ByteArray)×(List Wr)×(Bool)×(Int)×(Int)×(Int)×(Int)×(Int)×(Int)×(Int)×(Int)×(Int)×(List Pr2)×(List Stt)×(List ByteArray)×Unit)=>F1  NX (fun e=>X (.inl (e))) (fun e=>X (.inr (e))) d.1 d.2.1 d.2.2.1 d.2.2.2.1 d.2.2.2.2.1 d.2.2.2.2.2.1 d.2.2.2.2.2.2.1 d.2.2.2.2.2.2.2.1 d.2.2.2.2.2.2.2.2.1 d.2.2.2.2.2.2.2.2.2.1 d.2.2.2.2.2.2.2.2.2.2.1 d.2.2.2.2.2.2.2.2.2.2.2.1 d.2.2.2.2.2.2.2.2.2.2.2.2.1 d.2.2.2.2.2.2.2.2.2.2.2.2.2.1 d.2.2.2.2.2.2.2.2.2.2.2.2.2.2.1 d.2.2.2.2.2.2.2.2.2.2.2.2.2.2.2.1 d.2.2.2.2.2.2.2.2.2.2.2.2.2.2.2.2.1 d.2.2.2.2.2.2.2.2.2.2.2.2.2.2.2.2.2.1 d.2.2.2.2.2.2.2.2.2.2.2.2.2.2.2.2.2.2.1) (fun m d=>Be m d.1 d.2.1 d.2.2.1 d.2.2.2.1 d.2.2.2.2.1 d.2.2.2.2.2.1 d.2.2.2.2.2.2.1 d.2.2.2.2.2.2.2.1 d.2.2.2.2.2.2.2.2.1 d.2.2.2.2.2.2.2.2.2.1 d.2.2.2.2.2.2.2.2.2.2.1 d.2.2.2.2.2.2.2.2.2.2.2.1 d.2.2.2.2.2.2.2.2.2.2.2.2.1 d.2.2.2.2.2.2.2.2.2.2.2.2.2.1 d.2.2.2.2.2.2.2.2.2.2.2.2.2.2.1 d.2.2.2.2.2.2.2.2.2.2.2.2.2.2.2.1 d.2.2.2.2.2.2.2.2.2.2.2.2.2.2.2.2.1 d.2.2.2.2.2.2.2.2.2.2.2.2.2.2.2.2.2.1 d.2.2.2.2.2.2.2.2.2.2.2.2.2.2.2.2.2.2.1) (fun d=>Ce d.1 d.2.1 d.2.2.1 d.2.2.2.1 d.2.2.2.2.1 d.2.2.2.2.2.1 d.2.2.2.2.2.2.1 d.2.2.2.2.2.2.2.1 d.2.2.2.2.2.2.2.2.1 d.2.2.2.2.2.2.2.2.2.1 d.2.2.2.2.2.2.2.2.2.2.1 d.2.2.2.2.2.2.2.2.2.2.2.1 d.2.2.2.2.2.2.2.2.2.2.2.2.1 d.2.2.2.2.2.2.2.2.2.2.2.2.2.1 d.2.2.2.2.2.2.2.2.2.2.2.2.2.2.1 d.2.2.2.2.2.2.2.2.2.2.2.2.2.2.2.1 d.2.2.2.2.2.2.2.2.2.2.2.2.2.2.2.2.1 d.2.2.2.2.2.2.2.2.2.2.2.2.2.2.2.2.2.1 d.2.2.2.2.2.2.2.2.2.2.2.2.2.2.2.2.2.2.1) Pz M4 trivial (fun f NX (d:(List Stt)×(Int)×(Int)×(Int)×(List ByteArray)×(List Wr)×(Bool)×(Int)×(Int)×(Int)×(Int)×(Int)×(Int)×(Int)×(Int)×(Int)×(List Pr2)×(List Stt)×(List ByteArray)×Unit)=>by unfold F1; simp only [Al,Ar,Ak,Option.bind_assoc,Option.bind_none,Option.bind_some]) (fun _ _ _=>by kernel_rfl)
theorem Ab0:B2 Tryz.prog 64 sd_impl_ValidWorld:=
 A6 (pat:=pa_impl_ValidWorld) [co_impl_ValidWorld_7,co_impl_ValidWorld_13] Oc M4 ⟨f9,Ys,trivial⟩ Tryz.func64 (de:=fun x=>M3 x.1) (fun x r h=>(Abz x.1).trans h) fun _=>by kernel_rfl
def Iu (w:Wld):ByteArray:=Pi w
def Anb:Sig:=⟨[.rd Fr],[some 16],[.rd .str],[none]⟩
noncomputable def sd_impl_Forged:SD:=⟨Anb,fun x=>some (((Iu x.1),()),(()))⟩
noncomputable def ta_impl_Forged:Tb:=tb [(53,sd_impl_ReadPage),(64,sd_impl_ValidWorld)]
def pa_impl_Forged:Nat→Pat×(Nat→Pat):=Gf [(6,⟨[.sl 15 0 .str,.boxSl 1 1 .str,.boxSl 1 2 Da,.boxSl 1 13 Av,.boxSl 1 14 Ci,.boxSl 1 15 .str],[(1,.lf (.ptr 0 0)),(3,.lf (.row 1)),(15,.lf (.d (.sl .str))),(16,.lf (.d tI)),(17,.lf (.d tI))],[.box 36 [.d tI,.d (.sl .str),.d (.sl Da),.d .bool,.d tI,.d tI,.d tI,.d tI,.d tI,.d tI,.d tI,.d tI,.d tI,.d (.sl Av),.d (.sl Ci),.d (.sl .str)],.map .bool]⟩,[(2,⟨[.boxSl 1 1 .str,.boxSl 1 2 Da,.boxSl 1 13 Av,.boxSl 1 14 Ci,.boxSl 1 15 .str],[(1,.lf (.ptr 0 0)),(3,.lf (.row 1))],[.box 36 [.d tI,.d (.sl .str),.d (.sl Da),.d .bool,.d tI,.d tI,.d tI,.d tI,.d tI,.d tI,.d tI,.d tI,.d tI,.d (.sl Av),.d (.sl Ci),.d (.sl .str)],.map .bool]⟩)]),(11,⟨[.sl 26 0 .str,.boxSl 1 1 .str,.boxSl 1 2 Da,.boxSl 1 13 Av,.boxSl 1 14 Ci,.boxSl 1 15 .str],[(1,.lf (.ptr 0 0)),(3,.lf (.row 1)),(26,.lf (.d (.sl .str))),(27,.lf (.d tI)),(28,.lf (.d tI))],[.box 36 [.d tI,.d (.sl .str),.d (.sl Da),.d .bool,.d tI,.d tI,.d tI,.d tI,.d tI,.d tI,.d tI,.d tI,.d tI,.d (.sl Av),.d (.sl Ci),.d (.sl .str)],.map .bool]⟩,[(4,p0),(1,⟨[],[(2,.lf (.d .str))],[]⟩)])]
noncomputable def co_impl_Forged_6:Code:=(As (Ba Tryz.f13)).getD 0 .skip
noncomputable def co_impl_Forged_11:Code:=(As (Ba Tryz.f13)).getD 1 .skip
def Gc (v26:List ByteArray) (v27:Int) (v28:Int) (b0_0:Int) (b0_1:List ByteArray) (b0_2:List Wr) (b0_3:Bool) (b0_4:Int) (b0_5:Int) (b0_6:Int) (b0_7:Int) (b0_8:Int) (b0_9:Int) (b0_10:Int) (b0_11:Int) (b0_12:Int) (b0_13:List Pr2) (b0_14:List Stt) (b0_15:List ByteArray) (m1:List (ByteArray×Bool)):Nat:=(v27 - v28).toNat + 1
noncomputable def Ik {R:Type}  (NX:((List ByteArray)×(Int)×(Int)×(Int)×(List ByteArray)×(List Wr)×(Bool)×(Int)×(Int)×(Int)×(Int)×(Int)×(Int)×(Int)×(Int)×(Int)×(List Pr2)×(List Stt)×(List ByteArray)×(List (ByteArray×Bool))×Unit)→Option R) (X4:(Unit)→Option R) (X1:((ByteArray)×Unit)→Option R) (v26:List ByteArray) (v27:Int) (v28:Int) (b0_0:Int) (b0_1:List ByteArray) (b0_2:List Wr) (b0_3:Bool) (b0_4:Int) (b0_5:Int) (b0_6:Int) (b0_7:Int) (b0_8:Int) (b0_9:Int) (b0_10:Int) (b0_11:Int) (b0_12:Int) (b0_13:List Pr2) (b0_14:List Stt) (b0_15:List ByteArray) (m1:List (ByteArray×Bool)):Option R:=
 bif decide (v28 < v27) then bif decide (0≤v28) then bif decide (v28 < nI v26.length) then bif (H7 (v26.getD v28.toNat (ByteArray.mk #[])) b0_0).2 then bif !Ku (v26.getD v28.toNat (ByteArray.mk #[])) m1 then X1 (v26.getD v28.toNat (ByteArray.mk #[]),()) else NX (v26,v27,IntKind.i64.wrap (v28 + 1),b0_0,b0_1,b0_2,b0_3,b0_4,b0_5,b0_6,b0_7,b0_8,b0_9,b0_10,b0_11,b0_12,b0_13,b0_14,b0_15,m1,()) else NX (v26,v27,IntKind.i64.wrap (v28 + 1),b0_0,b0_1,b0_2,b0_3,b0_4,b0_5,b0_6,b0_7,b0_8,b0_9,b0_10,b0_11,b0_12,b0_13,b0_14,b0_15,m1,()) else none else none else X4 PUnit.unit
noncomputable def Ct:Nat→(List ByteArray)→(Int)→(Int)→(Int)→(List ByteArray)→(List Wr)→(Bool)→(Int)→(Int)→(Int)→(Int)→(Int)→(Int)→(Int)→(Int)→(Int)→(List Pr2)→(List Stt)→(List ByteArray)→(List (ByteArray×Bool)) →  Option ((Unit) ⊕ ((ByteArray)×Unit))
 | 0,_,_,_,_,_,_,_,_,_,_,_,_,_,_,_,_,_,_,_,_=>none
 | m + 1,v26,v27,v28,b0_0,b0_1,b0_2,b0_3,b0_4,b0_5,b0_6,b0_7,b0_8,b0_9,b0_10,b0_11,b0_12,b0_13,b0_14,b0_15,m1=>Ik  (fun d=>Ct m d.1 d.2.1 d.2.2.1 d.2.2.2.1 d.2.2.2.2.1 d.2.2.2.2.2.1 d.2.2.2.2.2.2.1 d.2.2.2.2.2.2.2.1 d.2.2.2.2.2.2.2.2.1 d.2.2.2.2.2.2.2.2.2.1 d.2.2.2.2.2.2.2.2.2.2.1 d.2.2.2.2.2.2.2.2.2.2.2.1 d.2.2.2.2.2.2.2.2.2.2.2.2.1 d.2.2.2.2.2.2.2.2.2.2.2.2.2.1 d.2.2.2.2.2.2.2.2.2.2.2.2.2.2.1 d.2.2.2.2.2.2.2.2.2.2.2.2.2.2.2.1 d.2.2.2.2.2.2.2.2.2.2.2.2.2.2.2.2.1 d.2.2.2.2.2.2.2.2.2.2.2.2.2.2.2.2.2.1 d.2.2.2.2.2.2.2.2.2.2.2.2.2.2.2.2.2.2.1 d.2.2.2.2.2.2.2.2.2.2.2.2.2.2.2.2.2.2.2.1) (fun d=>some (.inl (d))) (fun d=>some (.inr (d))) v26 v27 v28 b0_0 b0_1 b0_2 b0_3 b0_4 b0_5 b0_6 b0_7 b0_8 b0_9 b0_10 b0_11 b0_12 b0_13 b0_14 b0_15 m1
def G5 (v15:List ByteArray) (v16:Int) (v17:Int) (b0_0:Int) (b0_1:List ByteArray) (b0_2:List Wr) (b0_3:Bool) (b0_4:Int) (b0_5:Int) (b0_6:Int) (b0_7:Int) (b0_8:Int) (b0_9:Int) (b0_10:Int) (b0_11:Int) (b0_12:Int) (b0_13:List Pr2) (b0_14:List Stt) (b0_15:List ByteArray) (m1:List (ByteArray×Bool)):Nat:=(v16 - v17).toNat + 1
noncomputable def Jn {R:Type}  (NX:((List ByteArray)×(Int)×(Int)×(Int)×(List ByteArray)×(List Wr)×(Bool)×(Int)×(Int)×(Int)×(Int)×(Int)×(Int)×(Int)×(Int)×(Int)×(List Pr2)×(List Stt)×(List ByteArray)×(List (ByteArray×Bool))×Unit)→Option R) (X2:((Int)×(List ByteArray)×(List Wr)×(Bool)×(Int)×(Int)×(Int)×(Int)×(Int)×(Int)×(Int)×(Int)×(Int)×(List Pr2)×(List Stt)×(List ByteArray)×(List (ByteArray×Bool))×Unit)→Option R) (v15:List ByteArray) (v16:Int) (v17:Int) (b0_0:Int) (b0_1:List ByteArray) (b0_2:List Wr) (b0_3:Bool) (b0_4:Int) (b0_5:Int) (b0_6:Int) (b0_7:Int) (b0_8:Int) (b0_9:Int) (b0_10:Int) (b0_11:Int) (b0_12:Int) (b0_13:List Pr2) (b0_14:List Stt) (b0_15:List ByteArray) (m1:List (ByteArray×Bool)):Option R:=
 bif decide (v17 < v16) then bif decide (0≤v17) then bif decide (v17 < nI v15.length) then NX (v15,v16,IntKind.i64.wrap (v17 + 1),b0_0,b0_1,b0_2,b0_3,b0_4,b0_5,b0_6,b0_7,b0_8,b0_9,b0_10,b0_11,b0_12,b0_13,b0_14,b0_15,Pn (v15.getD v17.toNat (ByteArray.mk #[])) true m1,()) else none else none else X2 (b0_0,b0_1,b0_2,b0_3,b0_4,b0_5,b0_6,b0_7,b0_8,b0_9,b0_10,b0_11,b0_12,b0_13,b0_14,b0_15,m1,())
noncomputable def C3:Nat→(List ByteArray)→(Int)→(Int)→(Int)→(List ByteArray)→(List Wr)→(Bool)→(Int)→(Int)→(Int)→(Int)→(Int)→(Int)→(Int)→(Int)→(Int)→(List Pr2)→(List Stt)→(List ByteArray)→(List (ByteArray×Bool)) →  Option ((Int)×(List ByteArray)×(List Wr)×(Bool)×(Int)×(Int)×(Int)×(Int)×(Int)×(Int)×(Int)×(Int)×(Int)×(List Pr2)×(List Stt)×(List ByteArray)×(List (ByteArray×Bool))×Unit)
 | 0,_,_,_,_,_,_,_,_,_,_,_,_,_,_,_,_,_,_,_,_=>none
 | m + 1,v15,v16,v17,b0_0,b0_1,b0_2,b0_3,b0_4,b0_5,b0_6,b0_7,b0_8,b0_9,b0_10,b0_11,b0_12,b0_13,b0_14,b0_15,m1=>Jn  (fun d=>C3 m d.1 d.2.1 d.2.2.1 d.2.2.2.1 d.2.2.2.2.1 d.2.2.2.2.2.1 d.2.2.2.2.2.2.1 d.2.2.2.2.2.2.2.1 d.2.2.2.2.2.2.2.2.1 d.2.2.2.2.2.2.2.2.2.1 d.2.2.2.2.2.2.2.2.2.2.1 d.2.2.2.2.2.2.2.2.2.2.2.1 d.2.2.2.2.2.2.2.2.2.2.2.2.1 d.2.2.2.2.2.2.2.2.2.2.2.2.2.1 d.2.2.2.2.2.2.2.2.2.2.2.2.2.2.1 d.2.2.2.2.2.2.2.2.2.2.2.2.2.2.2.1 d.2.2.2.2.2.2.2.2.2.2.2.2.2.2.2.2.1 d.2.2.2.2.2.2.2.2.2.2.2.2.2.2.2.2.2.1 d.2.2.2.2.2.2.2.2.2.2.2.2.2.2.2.2.2.2.1 d.2.2.2.2.2.2.2.2.2.2.2.2.2.2.2.2.2.2.2.1) (fun d=>some (d)) v15 v16 v17 b0_0 b0_1 b0_2 b0_3 b0_4 b0_5 b0_6 b0_7 b0_8 b0_9 b0_10 b0_11 b0_12 b0_13 b0_14 b0_15 m1
noncomputable def S4 (a0:Wld):Option ((((ByteArray)×Unit)×(Unit))):=
 bif !Kq a0 then some ((ByteArray.mk #[],()),()) else ((fun d=>C3 (G5 d.1 d.2.1 d.2.2.1 d.2.2.2.1 d.2.2.2.2.1 d.2.2.2.2.2.1 d.2.2.2.2.2.2.1 d.2.2.2.2.2.2.2.1 d.2.2.2.2.2.2.2.2.1 d.2.2.2.2.2.2.2.2.2.1 d.2.2.2.2.2.2.2.2.2.2.1 d.2.2.2.2.2.2.2.2.2.2.2.1 d.2.2.2.2.2.2.2.2.2.2.2.2.1 d.2.2.2.2.2.2.2.2.2.2.2.2.2.1 d.2.2.2.2.2.2.2.2.2.2.2.2.2.2.1 d.2.2.2.2.2.2.2.2.2.2.2.2.2.2.2.1 d.2.2.2.2.2.2.2.2.2.2.2.2.2.2.2.2.1 d.2.2.2.2.2.2.2.2.2.2.2.2.2.2.2.2.2.1 d.2.2.2.2.2.2.2.2.2.2.2.2.2.2.2.2.2.2.1 d.2.2.2.2.2.2.2.2.2.2.2.2.2.2.2.2.2.2.2.1) d.1 d.2.1 d.2.2.1 d.2.2.2.1 d.2.2.2.2.1 d.2.2.2.2.2.1 d.2.2.2.2.2.2.1 d.2.2.2.2.2.2.2.1 d.2.2.2.2.2.2.2.2.1 d.2.2.2.2.2.2.2.2.2.1 d.2.2.2.2.2.2.2.2.2.2.1 d.2.2.2.2.2.2.2.2.2.2.2.1 d.2.2.2.2.2.2.2.2.2.2.2.2.1 d.2.2.2.2.2.2.2.2.2.2.2.2.2.1 d.2.2.2.2.2.2.2.2.2.2.2.2.2.2.1 d.2.2.2.2.2.2.2.2.2.2.2.2.2.2.2.1 d.2.2.2.2.2.2.2.2.2.2.2.2.2.2.2.2.1 d.2.2.2.2.2.2.2.2.2.2.2.2.2.2.2.2.2.1 d.2.2.2.2.2.2.2.2.2.2.2.2.2.2.2.2.2.2.1 d.2.2.2.2.2.2.2.2.2.2.2.2.2.2.2.2.2.2.2.1) (a0.2.2.2.2.2.1,nI (List.length a0.2.2.2.2.2.1),0,a0.1,a0.2.1.1,a0.2.1.2.1,a0.2.2.1,a0.2.2.2.1.1,a0.2.2.2.1.2.1,a0.2.2.2.1.2.2.1,a0.2.2.2.1.2.2.2.1.1,a0.2.2.2.1.2.2.2.1.2.1,a0.2.2.2.1.2.2.2.1.2.2.1,a0.2.2.2.1.2.2.2.1.2.2.2.1,a0.2.2.2.1.2.2.2.2.1,a0.2.2.2.1.2.2.2.2.2.1,a0.2.2.2.1.2.2.2.2.2.2.1.1,a0.2.2.2.2.1,a0.2.2.2.2.2.1,[],())).bind fun val=>((fun d=>Ct (Gc d.1 d.2.1 d.2.2.1 d.2.2.2.1 d.2.2.2.2.1 d.2.2.2.2.2.1 d.2.2.2.2.2.2.1 d.2.2.2.2.2.2.2.1 d.2.2.2.2.2.2.2.2.1 d.2.2.2.2.2.2.2.2.2.1 d.2.2.2.2.2.2.2.2.2.2.1 d.2.2.2.2.2.2.2.2.2.2.2.1 d.2.2.2.2.2.2.2.2.2.2.2.2.1 d.2.2.2.2.2.2.2.2.2.2.2.2.2.1 d.2.2.2.2.2.2.2.2.2.2.2.2.2.2.1 d.2.2.2.2.2.2.2.2.2.2.2.2.2.2.2.1 d.2.2.2.2.2.2.2.2.2.2.2.2.2.2.2.2.1 d.2.2.2.2.2.2.2.2.2.2.2.2.2.2.2.2.2.1 d.2.2.2.2.2.2.2.2.2.2.2.2.2.2.2.2.2.2.1 d.2.2.2.2.2.2.2.2.2.2.2.2.2.2.2.2.2.2.2.1) d.1 d.2.1 d.2.2.1 d.2.2.2.1 d.2.2.2.2.1 d.2.2.2.2.2.1 d.2.2.2.2.2.2.1 d.2.2.2.2.2.2.2.1 d.2.2.2.2.2.2.2.2.1 d.2.2.2.2.2.2.2.2.2.1 d.2.2.2.2.2.2.2.2.2.2.1 d.2.2.2.2.2.2.2.2.2.2.2.1 d.2.2.2.2.2.2.2.2.2.2.2.2.1 d.2.2.2.2.2.2.2.2.2.2.2.2.2.1 d.2.2.2.2.2.2.2.2.2.2.2.2.2.2.1 d.2.2.2.2.2.2.2.2.2.2.2.2.2.2.2.1 d.2.2.2.2.2.2.2.2.2.2.2.2.2.2.2.2.1 d.2.2.2.2.2.2.2.2.2.2.2.2.2.2.2.2.2.1 d.2.2.2.2.2.2.2.2.2.2.2.2.2.2.2.2.2.2.1 d.2.2.2.2.2.2.2.2.2.2.2.2.2.2.2.2.2.2.2.1) (val.2.1,nI (List.length val.2.1),0,val)).bind fun val=>Cj (fun d=>some ((ByteArray.mk #[],()),())) (fun d=>some (d,())) val
theorem Asi (b0 b4 b5 b6 b7 b8 b9 b10 b11 b12:Int) (b1:List ByteArray) (b2:List Wr) (b3:Bool) (b13:List Pr2) (b14:List Stt) (W:List ByteArray) (hW:W.length≤2000):
  C3 (G5 W (nI W.length) 0 b0 b1 b2 b3 b4 b5 b6 b7 b8 b9 b10 b11 b12 b13 b14 W []) W (nI W.length) 0 b0 b1 b2 b3 b4 b5 b6 b7 b8 b9 b10 b11 b12 b13 b14 W []=some (b0,b1,b2,b3,b4,b5,b6,b7,b8,b9,b10,b11,b12,b13,b14,W,F3 (fun _ y m=>Pn y true m) 0 W [],()):=by
 have hL:=Gi (xs:=W) z0 (fun _ _=>True) (fun _ y m=>Pn y true m) (g:=fun m i M=>C3 m W (nI W.length) i b0 b1 b2 b3 b4 b5 b6 b7 b8 b9 b10 b11 b12 b13 b14 W M) (ok:=fun M=>(b0,b1,b2,b3,b4,b5,b6,b7,b8,b9,b10,b11,b12,b13,b14,W,M,())) (fun m i M hi _=>by
   show C3 (m + 1) W (nI W.length) i b0 b1 b2 b3 b4 b5 b6 b7 b8 b9 b10 b11 b12 b13 b14 W M=_
   simp only [C3,Jn]
   rw [W1 hi,H2,wI (show i < 4611686018427387904 by omega),Int.toNat_natCast]
   rfl) (fun _ _ _ _=>trivial) (fun m M _=>by
   show C3 (m + 1) W (nI W.length) (W.length:Int) b0 b1 b2 b3 b4 b5 b6 b7 b8 b9 b10 b11 b12 b13 b14 W M=_
   simp only [C3,Jn]
   rw [Mm]
   rfl) (G5 W (nI W.length) 0 b0 b1 b2 b3 b4 b5 b6 b7 b8 b9 b10 b11 b12 b13 b14 W []) 0 [] (by omega) (by simp [G5,nI]) trivial
 rw [List.drop_zero] at hL
 exact hL
theorem Aoq (b0 b4 b5 b6 b7 b8 b9 b10 b11 b12:Int) (b1:List ByteArray) (b2:List Wr) (b3:Bool) (b13:List Pr2) (b14:List Stt) (W:List ByteArray) (M:List (ByteArray×Bool)) (hb:b1.length≤200):
  Ct (Gc b1 (nI b1.length) 0 b0 b1 b2 b3 b4 b5 b6 b7 b8 b9 b10 b11 b12 b13 b14 W M) b1 (nI b1.length) 0 b0 b1 b2 b3 b4 b5 b6 b7 b8 b9 b10 b11 b12 b13 b14 W M=some (H1 (fun x=>(Bw x b0).2&&!Ku x M) (fun x=>.inr (x,())) (.inl ()) b1):=by
 have hL:=Afg (xs:=b1) z0 (fun x=>(Bw x b0).2&&!Ku x M) (fun x=>.inr (x,())) (g:=fun m i=>Ct m b1 (nI b1.length) i b0 b1 b2 b3 b4 b5 b6 b7 b8 b9 b10 b11 b12 b13 b14 W M) (ok:=.inl ()) (fun m i hi=>by
   show Ct (m + 1) b1 (nI b1.length) i b0 b1 b2 b3 b4 b5 b6 b7 b8 b9 b10 b11 b12 b13 b14 W M=_
   simp only [Ct,Ik]
   rw [W1 hi,H2,wI (show i < 4611686018427387904 by omega),Int.toNat_natCast]
   show (bif (Bw (List.getD b1 i z0) b0).2 then (bif !Ku (List.getD b1 i z0) M then _ else _) else _)=_
   cases (Bw (List.getD b1 i z0) b0).2<;>cases Ku (List.getD b1 i z0) M<;>rfl) (fun m=>by
   show Ct (m + 1) b1 (nI b1.length) (b1.length:Int) b0 b1 b2 b3 b4 b5 b6 b7 b8 b9 b10 b11 b12 b13 b14 W M=_
   simp only [Ct,Ik]
   rw [Mm]
   rfl) (Gc b1 (nI b1.length) 0 b0 b1 b2 b3 b4 b5 b6 b7 b8 b9 b10 b11 b12 b13 b14 W M) 0 (by omega) (by simp [Gc,nI])
 rw [List.drop_zero] at hL
 exact hL
theorem Anc (a0:Wld):S4 a0=some (((Iu a0),()),(())):=by
 unfold S4 Iu Pi
 show (bif !Dg a0 then _ else _)=_
 cases hv:Dg a0 with
 | false=>rfl
 | true=>
  obtain ⟨h1,h2,_⟩:=Aro hv
  simp only [Bool.not_true,cond_false,cond_true]
  refine W5 (Asi a0.1 a0.2.2.2.1.1 a0.2.2.2.1.2.1 a0.2.2.2.1.2.2.1 a0.2.2.2.1.2.2.2.1.1 a0.2.2.2.1.2.2.2.1.2.1 a0.2.2.2.1.2.2.2.1.2.2.1 a0.2.2.2.1.2.2.2.1.2.2.2.1 a0.2.2.2.1.2.2.2.2.1 a0.2.2.2.1.2.2.2.2.2.1 a0.2.1.1 a0.2.1.2.1 a0.2.2.1 a0.2.2.2.1.2.2.2.2.2.2.1.1 a0.2.2.2.2.1 a0.2.2.2.2.2.1 h2) ?_
  dsimp only
  refine W5 (Aoq a0.1 a0.2.2.2.1.1 a0.2.2.2.1.2.1 a0.2.2.2.1.2.2.1 a0.2.2.2.1.2.2.2.1.1 a0.2.2.2.1.2.2.2.1.2.1 a0.2.2.2.1.2.2.2.1.2.2.1 a0.2.2.2.1.2.2.2.1.2.2.2.1 a0.2.2.2.1.2.2.2.2.1 a0.2.2.2.1.2.2.2.2.2.1 a0.2.1.1 a0.2.1.2.1 a0.2.2.1 a0.2.2.2.1.2.2.2.2.2.2.1.1 a0.2.2.2.2.1 a0.2.2.2.2.2.1 _ (Jv h1).n200) ?_
  rw [Rm (Cj _ _),Rm (fun r:ByteArray=>some ((r,()),()))]
  have:(fun x=>(Bw x a0.1).2&&!Ku x (F3 (fun _ y m=>Pn y true m) 0 a0.2.2.2.2.2.1 []))=fun x=>(Bw x a0.1).2&&!inL a0.2.2.2.2.2.1 x:=funext fun x=>by
   rw [Ap7]
   show ((Bw x a0.1).2&&!(inL a0.2.2.2.2.2.1 x || false))=_
   rw [Bool.or_false]
  rw [this]
  rfl
noncomputable def Wb {R:Type} (k:Kt R):=(I1 (pa_impl_Forged 6) (.exit 0) 2 k)
noncomputable def Ui {R:Type} (k:Kt R):=(Cj (I1 (pa_impl_Forged 11) (.exit 2) 4 k) (I1 (pa_impl_Forged 11) .ret 1 k))
noncomputable def Uy {R:Type}:Lt R pa_impl_Forged:=(Ed (pat:=pa_impl_Forged) 6 (fun d k=>(C3 (G5 d.1 d.2.1 d.2.2.1 d.2.2.2.1 d.2.2.2.2.1 d.2.2.2.2.2.1 d.2.2.2.2.2.2.1 d.2.2.2.2.2.2.2.1 d.2.2.2.2.2.2.2.2.1 d.2.2.2.2.2.2.2.2.2.1 d.2.2.2.2.2.2.2.2.2.2.1 d.2.2.2.2.2.2.2.2.2.2.2.1 d.2.2.2.2.2.2.2.2.2.2.2.2.1 d.2.2.2.2.2.2.2.2.2.2.2.2.2.1 d.2.2.2.2.2.2.2.2.2.2.2.2.2.2.1 d.2.2.2.2.2.2.2.2.2.2.2.2.2.2.2.1 d.2.2.2.2.2.2.2.2.2.2.2.2.2.2.2.2.1 d.2.2.2.2.2.2.2.2.2.2.2.2.2.2.2.2.2.1 d.2.2.2.2.2.2.2.2.2.2.2.2.2.2.2.2.2.2.1 d.2.2.2.2.2.2.2.2.2.2.2.2.2.2.2.2.2.2.2.1) d.1 d.2.1 d.2.2.1 d.2.2.2.1 d.2.2.2.2.1 d.2.2.2.2.2.1 d.2.2.2.2.2.2.1 d.2.2.2.2.2.2.2.1 d.2.2.2.2.2.2.2.2.1 d.2.2.2.2.2.2.2.2.2.1 d.2.2.2.2.2.2.2.2.2.2.1 d.2.2.2.2.2.2.2.2.2.2.2.1 d.2.2.2.2.2.2.2.2.2.2.2.2.1 d.2.2.2.2.2.2.2.2.2.2.2.2.2.1 d.2.2.2.2.2.2.2.2.2.2.2.2.2.2.1 d.2.2.2.2.2.2.2.2.2.2.2.2.2.2.2.1 d.2.2.2.2.2.2.2.2.2.2.2.2.2.2.2.2.1 d.2.2.2.2.2.2.2.2.2.2.2.2.2.2.2.2.2.1 d.2.2.2.2.2.2.2.2.2.2.2.2.2.2.2.2.2.2.1 d.2.2.2.2.2.2.2.2.2.2.2.2.2.2.2.2.2.2.2.1).bind (Wb k)) (Ed (pat:=pa_impl_Forged) 11 (fun d k=>(Ct (Gc d.1 d.2.1 d.2.2.1 d.2.2.2.1 d.2.2.2.2.1 d.2.2.2.2.2.1 d.2.2.2.2.2.2.1 d.2.2.2.2.2.2.2.1 d.2.2.2.2.2.2.2.2.1 d.2.2.2.2.2.2.2.2.2.1 d.2.2.2.2.2.2.2.2.2.2.1 d.2.2.2.2.2.2.2.2.2.2.2.1 d.2.2.2.2.2.2.2.2.2.2.2.2.1 d.2.2.2.2.2.2.2.2.2.2.2.2.2.1 d.2.2.2.2.2.2.2.2.2.2.2.2.2.2.1 d.2.2.2.2.2.2.2.2.2.2.2.2.2.2.2.1 d.2.2.2.2.2.2.2.2.2.2.2.2.2.2.2.2.1 d.2.2.2.2.2.2.2.2.2.2.2.2.2.2.2.2.2.1 d.2.2.2.2.2.2.2.2.2.2.2.2.2.2.2.2.2.2.1 d.2.2.2.2.2.2.2.2.2.2.2.2.2.2.2.2.2.2.2.1) d.1 d.2.1 d.2.2.1 d.2.2.2.1 d.2.2.2.2.1 d.2.2.2.2.2.1 d.2.2.2.2.2.2.1 d.2.2.2.2.2.2.2.1 d.2.2.2.2.2.2.2.2.1 d.2.2.2.2.2.2.2.2.2.1 d.2.2.2.2.2.2.2.2.2.2.1 d.2.2.2.2.2.2.2.2.2.2.2.1 d.2.2.2.2.2.2.2.2.2.2.2.2.1 d.2.2.2.2.2.2.2.2.2.2.2.2.2.1 d.2.2.2.2.2.2.2.2.2.2.2.2.2.2.1 d.2.2.2.2.2.2.2.2.2.2.2.2.2.2.2.1 d.2.2.2.2.2.2.2.2.2.2.2.2.2.2.2.2.1 d.2.2.2.2.2.2.2.2.2.2.2.2.2.2.2.2.2.1 d.2.2.2.2.2.2.2.2.2.2.2.2.2.2.2.2.2.2.1 d.2.2.2.2.2.2.2.2.2.2.2.2.2.2.2.2.2.2.2.1).bind (Ui k)) Hu))
theorem S5:A2 Tryz.prog ta_impl_Forged:=A7 ⟨Agq,Ab0,trivial⟩
theorem Aen {R:Type}:A3 Tryz.prog R 48 0 pa_impl_Forged Uy co_impl_Forged_11:=
 B3 (cfg:=⟨ta_impl_Forged,0,48,pa_impl_Forged⟩) 11 [] (fun NX X (d:(List ByteArray)×(Int)×(Int)×(Int)×(List ByteArray)×(List Wr)×(Bool)×(Int)×(Int)×(Int)×(Int)×(Int)×(Int)×(Int)×(Int)×(Int)×(List Pr2)×(List Stt)×(List ByteArray)×(List (ByteArray×Bool))×Unit)=>Ik  NX (fun e=>X (.inl (e))) (fun e=>X (.inr (e))) d.1 d.2.1 d.2.2.1 d.2.2.2.1 d.2.2.2.2.1 d.2.2.2.2.2.1 d.2.2.2.2.2.2.1 d.2.2.2.2.2.2.2.1 d.2.2.2.2.2.2.2.2.1 d.2.2.2.2.2.2.2.2.2.1 d.2.2.2.2.2.2.2.2.2.2.1 d.2.2.2.2.2.2.2.2.2.2.2.1 d.2.2.2.2.2.2.2.2.2.2.2.2.1 d.2.2.2.2.2.2.2.2.2.2.2.2.2.1 d.2.2.2.2.2.2.2.2.2.2.2.2.2.2.1 d.2.2.2.2.2.2.2.2.2.2.2.2.2.2.2.1 d.2.2.2.2.2.2.2.2.2.2.2.2.2.2.2.2.1 d.2.2.2.2.2.2.2.2.2.2.2.2.2.2.2.2.2.1 d.2.2.2.2.2.2.2.2.2.2.2.2.2.2.2.2.2.2.1 d.2.2.2.2.2.2.2.2.2.2.2.2.2.2.2.2.2.2.2.1) (fun m d=>Ct m d.1 d.2.1 d.2.2.1 d.2.2.2.1 d.2.2.2.2.1 d.2.2.2.2.2.1 d.2.2.2.2.2.2.1 d.2.2.2.2.2.2.2.1 d.2.2.2.2.2.2.2.2.1 d.2.2.2.2.2.2.2.2.2.1 d.2.2.2.2.2.2.2.2.2.2.1 d.2.2.2.2.2.2.2.2.2.2.2.1 d.2.2.2.2.2.2.2.2.2.2.2.2.1 d.2.2.2.2.2.2.2.2.2.2.2.2.2.1 d.2.2.2.2.2.2.2.2.2.2.2.2.2.2.1 d.2.2.2.2.2.2.2.2.2.2.2.2.2.2.2.1 d.2.2.2.2.2.2.2.2.2.2.2.2.2.2.2.2.1 d.2.2.2.2.2.2.2.2.2.2.2.2.2.2.2.2.2.1 d.2.2.2.2.2.2.2.2.2.2.2.2.2.2.2.2.2.2.1 d.2.2.2.2.2.2.2.2.2.2.2.2.2.2.2.2.2.2.2.1) (fun d=>Gc d.1 d.2.1 d.2.2.1 d.2.2.2.1 d.2.2.2.2.1 d.2.2.2.2.2.1 d.2.2.2.2.2.2.1 d.2.2.2.2.2.2.2.1 d.2.2.2.2.2.2.2.2.1 d.2.2.2.2.2.2.2.2.2.1 d.2.2.2.2.2.2.2.2.2.2.1 d.2.2.2.2.2.2.2.2.2.2.2.1 d.2.2.2.2.2.2.2.2.2.2.2.2.1 d.2.2.2.2.2.2.2.2.2.2.2.2.2.1 d.2.2.2.2.2.2.2.2.2.2.2.2.2.2.1 d.2.2.2.2.2.2.2.2.2.2.2.2.2.2.2.1 d.2.2.2.2.2.2.2.2.2.2.2.2.2.2.2.2.1 d.2.2.2.2.2.2.2.2.2.2.2.2.2.2.2.2.2.1 d.2.2.2.2.2.2.2.2.2.2.2.2.2.2.2.2.2.2.1 d.2.2.2.2.2.2.2.2.2.2.2.2.2.2.2.2.2.2.2.1) Ui S5 trivial (fun f NX (d:(List ByteArray)×(Int)×(Int)×(Int)×(List ByteArray)×(List Wr)×(Bool)×(Int)×(Int)×(Int)×(Int)×(Int)×(Int)×(Int)×(Int)×(Int)×(List Pr2)×(List Stt)×(List ByteArray)×(List (ByteArray×Bool))×Unit)=>by unfold Ik; simp only [Al,Ar,Ak,Option.bind_assoc,Option.bind_none,Option.bind_some]) (fun _ _ _=>by kernel_rfl)
theorem Agu {R:Type}:A3 Tryz.prog R 48 0 pa_impl_Forged Uy co_impl_Forged_6:=
 B3 (cfg:=⟨ta_impl_Forged,0,48,pa_impl_Forged⟩) 6 [] (fun NX X (d:(List ByteArray)×(Int)×(Int)×(Int)×(List ByteArray)×(List Wr)×(Bool)×(Int)×(Int)×(Int)×(Int)×(Int)×(Int)×(Int)×(Int)×(Int)×(List Pr2)×(List Stt)×(List ByteArray)×(List (ByteArray×Bool))×Unit)=>Jn  NX X d.1 d.2.1 d.2.2.1 d.2.2.2.1 d.2.2.2.2.1 d.2.2.2.2.2.1 d.2.2.2.2.2.2.1 d.2.2.2.2.2.2.2.1 d.2.2.2.2.2.2.2.2.1 d.2.2.2.2.2.2.2.2.2.1 d.2.2.2.2.2.2.2.2.2.2.1 d.2.2.2.2.2.2.2.2.2.2.2.1 d.2.2.2.2.2.2.2.2.2.2.2.2.1 d.2.2.2.2.2.2.2.2.2.2.2.2.2.1 d.2.2.2.2.2.2.2.2.2.2.2.2.2.2.1 d.2.2.2.2.2.2.2.2.2.2.2.2.2.2.2.1 d.2.2.2.2.2.2.2.2.2.2.2.2.2.2.2.2.1 d.2.2.2.2.2.2.2.2.2.2.2.2.2.2.2.2.2.1 d.2.2.2.2.2.2.2.2.2.2.2.2.2.2.2.2.2.2.1 d.2.2.2.2.2.2.2.2.2.2.2.2.2.2.2.2.2.2.2.1) (fun m d=>C3 m d.1 d.2.1 d.2.2.1 d.2.2.2.1 d.2.2.2.2.1 d.2.2.2.2.2.1 d.2.2.2.2.2.2.1 d.2.2.2.2.2.2.2.1 d.2.2.2.2.2.2.2.2.1 d.2.2.2.2.2.2.2.2.2.1 d.2.2.2.2.2.2.2.2.2.2.1 d.2.2.2.2.2.2.2.2.2.2.2.1 d.2.2.2.2.2.2.2.2.2.2.2.2.1 d.2.2.2.2.2.2.2.2.2.2.2.2.2.1 d.2.2.2.2.2.2.2.2.2.2.2.2.2.2.1 d.2.2.2.2.2.2.2.2.2.2.2.2.2.2.2.1 d.2.2.2.2.2.2.2.2.2.2.2.2.2.2.2.2.1 d.2.2.2.2.2.2.2.2.2.2.2.2.2.2.2.2.2.1 d.2.2.2.2.2.2.2.2.2.2.2.2.2.2.2.2.2.2.1 d.2.2.2.2.2.2.2.2.2.2.2.2.2.2.2.2.2.2.2.1) (fun d=>G5 d.1 d.2.1 d.2.2.1 d.2.2.2.1 d.2.2.2.2.1 d.2.2.2.2.2.1 d.2.2.2.2.2.2.1 d.2.2.2.2.2.2.2.1 d.2.2.2.2.2.2.2.2.1 d.2.2.2.2.2.2.2.2.2.1 d.2.2.2.2.2.2.2.2.2.2.1 d.2.2.2.2.2.2.2.2.2.2.2.1 d.2.2.2.2.2.2.2.2.2.2.2.2.1 d.2.2.2.2.2.2.2.2.2.2.2.2.2.1 d.2.2.2.2.2.2.2.2.2.2.2.2.2.2.1 d.2.2.2.2.2.2.2.2.2.2.2.2.2.2.2.1 d.2.2.2.2.2.2.2.2.2.2.2.2.2.2.2.2.1 d.2.2.2.2.2.2.2.2.2.2.2.2.2.2.2.2.2.1 d.2.2.2.2.2.2.2.2.2.2.2.2.2.2.2.2.2.2.1 d.2.2.2.2.2.2.2.2.2.2.2.2.2.2.2.2.2.2.2.1) Wb S5 trivial (fun f NX (d:(List ByteArray)×(Int)×(Int)×(Int)×(List ByteArray)×(List Wr)×(Bool)×(Int)×(Int)×(Int)×(Int)×(Int)×(Int)×(Int)×(Int)×(Int)×(List Pr2)×(List Stt)×(List ByteArray)×(List (ByteArray×Bool))×Unit)=>by unfold Jn; simp only [Al,Ar,Ak,Option.bind_assoc,Option.bind_none,Option.bind_some]) (fun _ _ _=>by kernel_rfl)
theorem Ane:B2 Tryz.prog 13 sd_impl_Forged:=
 A6 (pat:=pa_impl_Forged) [co_impl_Forged_6,co_impl_Forged_11] Uy S5 ⟨Agu,Aen,trivial⟩ Tryz.func13 (de:=fun x=>S4 x.1) (fun x r h=>(Anc x.1).trans h) fun _=>by kernel_rfl
def Jo (s:Sto):Bool:=Q0 s
def Aeo:Sig:=⟨[.rd Ahx],[some 10],[.rd .bool],[none]⟩
noncomputable def sd_spec_l7NoStore:SD:=⟨Aeo,fun x=>some (((Jo x.1),()),(()))⟩
noncomputable def Od (a0:Sto):Option ((((Bool)×Unit)×(Unit))):=
 bif a0.1==0 then bif a0.2.1==0 then bif a0.2.2.1==0 then bif a0.2.2.2.1.1==0&&(a0.2.2.2.1.2.1==0&&(a0.2.2.2.1.2.2.1==0&&(a0.2.2.2.1.2.2.2.1==0&&true))) then bif a0.2.2.2.2.1==0 then bif a0.2.2.2.2.2.1==0 then some ((nI (List.length a0.2.2.2.2.2.2.1.1)==0,()),()) else some ((false,()),()) else some ((false,()),()) else some ((false,()),()) else some ((false,()),()) else some ((false,()),()) else some ((false,()),())
theorem Aep (a0:Sto):Od a0=some (((Jo a0),()),(())):=by
 unfold Od Jo Q0
 simp only [A3h,Bool.and_true]
theorem Aeq:B2 Tryz.prog 68 sd_spec_l7NoStore:=
 A6 (pat:=D3) [] Hu (A7 (l:=[]) trivial) trivial Tryz.func68 (de:=fun x=>Od x.1) (fun x r h=>(Aep x.1).trans h) fun _=>by kernel_rfl
def Gd (w:Wld):Bool:=Dg w
def Ab1:Sig:=⟨[.rd Fr],[some 16],[.rd .bool],[none]⟩
noncomputable def sd_spec_ValidWorld:SD:=⟨Ab1,fun x=>some (((Gd x.1),()),(()))⟩
noncomputable def ta_spec_ValidWorld:Tb:=tb [(30,sd_spec_ValidStore),(65,sd_spec_l1Width),(66,sd_spec_ValidDisk),(67,sd_spec_l6In),(68,sd_spec_l7NoStore),(69,sd_spec_ValidState)]
def pa_spec_ValidWorld:Nat→Pat×(Nat→Pat):=Gf [(7,⟨[.boxSl 1 1 .str,.boxSl 1 2 Da,.boxSl 1 13 Av,.boxSl 1 14 Ci,.boxSl 1 15 .str],[(1,.lf (.ptr 0 0)),(3,.lf (.d tI))],[.box 36 [.d tI,.d (.sl .str),.d (.sl Da),.d .bool,.d tI,.d tI,.d tI,.d tI,.d tI,.d tI,.d tI,.d tI,.d tI,.d (.sl Av),.d (.sl Ci),.d (.sl .str)]]⟩,[(2,⟨[.boxSl 1 1 .str,.boxSl 1 2 Da,.boxSl 1 13 Av,.boxSl 1 14 Ci,.boxSl 1 15 .str],[(1,.lf (.ptr 0 0))],[.box 36 [.d tI,.d (.sl .str),.d (.sl Da),.d .bool,.d tI,.d tI,.d tI,.d tI,.d tI,.d tI,.d tI,.d tI,.d tI,.d (.sl Av),.d (.sl Ci),.d (.sl .str)]]⟩),(1,⟨[],[(2,.lf (.d .bool))],[]⟩)]),(12,⟨[.boxSl 1 1 .str,.boxSl 1 2 Da,.boxSl 1 13 Av,.boxSl 1 14 Ci,.boxSl 1 15 .str],[(1,.lf (.ptr 0 0)),(4,.lf (.d tI))],[.box 36 [.d tI,.d (.sl .str),.d (.sl Da),.d .bool,.d tI,.d tI,.d tI,.d tI,.d tI,.d tI,.d tI,.d tI,.d tI,.d (.sl Av),.d (.sl Ci),.d (.sl .str)]]⟩,[(4,p0),(1,⟨[],[(2,.lf (.d .bool))],[]⟩)])]
noncomputable def co_spec_ValidWorld_7:Code:=(As (Ba Tryz.f15)).getD 0 .skip
noncomputable def co_spec_ValidWorld_12:Code:=(As (Ba Tryz.f15)).getD 1 .skip
def Bl (v4:Int) (b0_0:Int) (b0_1:List ByteArray) (b0_2:List Wr) (b0_3:Bool) (b0_4:Int) (b0_5:Int) (b0_6:Int) (b0_7:Int) (b0_8:Int) (b0_9:Int) (b0_10:Int) (b0_11:Int) (b0_12:Int) (b0_13:List Pr2) (b0_14:List Stt) (b0_15:List ByteArray):Nat:=((b0_15.length:Int) - v4).toNat + 1
noncomputable def Fc {R:Type}  (NX:((Int)×(Int)×(List ByteArray)×(List Wr)×(Bool)×(Int)×(Int)×(Int)×(Int)×(Int)×(Int)×(Int)×(Int)×(Int)×(List Pr2)×(List Stt)×(List ByteArray)×Unit)→Option R) (X4:(Unit)→Option R) (X1:((Bool)×Unit)→Option R) (v4:Int) (b0_0:Int) (b0_1:List ByteArray) (b0_2:List Wr) (b0_3:Bool) (b0_4:Int) (b0_5:Int) (b0_6:Int) (b0_7:Int) (b0_8:Int) (b0_9:Int) (b0_10:Int) (b0_11:Int) (b0_12:Int) (b0_13:List Pr2) (b0_14:List Stt) (b0_15:List ByteArray):Option R:=
 bif decide (v4 < nI b0_15.length) then bif decide (0≤v4) then bif decide (v4 < nI b0_15.length) then bif nI (ByteArray.size (b0_15.getD v4.toNat (ByteArray.mk #[]))) != 64 then X1 (false,()) else NX (IntKind.i64.wrap (v4 + 1),b0_0,b0_1,b0_2,b0_3,b0_4,b0_5,b0_6,b0_7,b0_8,b0_9,b0_10,b0_11,b0_12,b0_13,b0_14,b0_15,()) else none else none else X4 PUnit.unit
noncomputable def Az:Nat→(Int)→(Int)→(List ByteArray)→(List Wr)→(Bool)→(Int)→(Int)→(Int)→(Int)→(Int)→(Int)→(Int)→(Int)→(Int)→(List Pr2)→(List Stt)→(List ByteArray) →  Option ((Unit) ⊕ ((Bool)×Unit))
 | 0,_,_,_,_,_,_,_,_,_,_,_,_,_,_,_,_,_=>none
 | m + 1,v4,b0_0,b0_1,b0_2,b0_3,b0_4,b0_5,b0_6,b0_7,b0_8,b0_9,b0_10,b0_11,b0_12,b0_13,b0_14,b0_15=>Fc  (fun d=>Az m d.1 d.2.1 d.2.2.1 d.2.2.2.1 d.2.2.2.2.1 d.2.2.2.2.2.1 d.2.2.2.2.2.2.1 d.2.2.2.2.2.2.2.1 d.2.2.2.2.2.2.2.2.1 d.2.2.2.2.2.2.2.2.2.1 d.2.2.2.2.2.2.2.2.2.2.1 d.2.2.2.2.2.2.2.2.2.2.2.1 d.2.2.2.2.2.2.2.2.2.2.2.2.1 d.2.2.2.2.2.2.2.2.2.2.2.2.2.1 d.2.2.2.2.2.2.2.2.2.2.2.2.2.2.1 d.2.2.2.2.2.2.2.2.2.2.2.2.2.2.2.1 d.2.2.2.2.2.2.2.2.2.2.2.2.2.2.2.2.1) (fun d=>some (.inl (d))) (fun d=>some (.inr (d))) v4 b0_0 b0_1 b0_2 b0_3 b0_4 b0_5 b0_6 b0_7 b0_8 b0_9 b0_10 b0_11 b0_12 b0_13 b0_14 b0_15
def Cf (v3:Int) (b0_0:Int) (b0_1:List ByteArray) (b0_2:List Wr) (b0_3:Bool) (b0_4:Int) (b0_5:Int) (b0_6:Int) (b0_7:Int) (b0_8:Int) (b0_9:Int) (b0_10:Int) (b0_11:Int) (b0_12:Int) (b0_13:List Pr2) (b0_14:List Stt) (b0_15:List ByteArray):Nat:=((b0_14.length:Int) - v3).toNat + 1
noncomputable def F2 {R:Type}  (NX:((Int)×(Int)×(List ByteArray)×(List Wr)×(Bool)×(Int)×(Int)×(Int)×(Int)×(Int)×(Int)×(Int)×(Int)×(Int)×(List Pr2)×(List Stt)×(List ByteArray)×Unit)→Option R) (X2:((Int)×(List ByteArray)×(List Wr)×(Bool)×(Int)×(Int)×(Int)×(Int)×(Int)×(Int)×(Int)×(Int)×(Int)×(List Pr2)×(List Stt)×(List ByteArray)×Unit)→Option R) (X1:((Bool)×Unit)→Option R) (v3:Int) (b0_0:Int) (b0_1:List ByteArray) (b0_2:List Wr) (b0_3:Bool) (b0_4:Int) (b0_5:Int) (b0_6:Int) (b0_7:Int) (b0_8:Int) (b0_9:Int) (b0_10:Int) (b0_11:Int) (b0_12:Int) (b0_13:List Pr2) (b0_14:List Stt) (b0_15:List ByteArray):Option R:=
 bif decide (v3 < nI b0_14.length) then bif decide (0≤v3) then bif decide (v3 < nI b0_14.length) then bif !D4 (b0_14.getD v3.toNat ([],())) then X1 (false,()) else NX (IntKind.i64.wrap (v3 + 1),b0_0,b0_1,b0_2,b0_3,b0_4,b0_5,b0_6,b0_7,b0_8,b0_9,b0_10,b0_11,b0_12,b0_13,b0_14,b0_15,()) else none else none else X2 (b0_0,b0_1,b0_2,b0_3,b0_4,b0_5,b0_6,b0_7,b0_8,b0_9,b0_10,b0_11,b0_12,b0_13,b0_14,b0_15,())
noncomputable def Bf:Nat→(Int)→(Int)→(List ByteArray)→(List Wr)→(Bool)→(Int)→(Int)→(Int)→(Int)→(Int)→(Int)→(Int)→(Int)→(Int)→(List Pr2)→(List Stt)→(List ByteArray) →  Option (((Int)×(List ByteArray)×(List Wr)×(Bool)×(Int)×(Int)×(Int)×(Int)×(Int)×(Int)×(Int)×(Int)×(Int)×(List Pr2)×(List Stt)×(List ByteArray)×Unit) ⊕ ((Bool)×Unit))
 | 0,_,_,_,_,_,_,_,_,_,_,_,_,_,_,_,_,_=>none
 | m + 1,v3,b0_0,b0_1,b0_2,b0_3,b0_4,b0_5,b0_6,b0_7,b0_8,b0_9,b0_10,b0_11,b0_12,b0_13,b0_14,b0_15=>F2  (fun d=>Bf m d.1 d.2.1 d.2.2.1 d.2.2.2.1 d.2.2.2.2.1 d.2.2.2.2.2.1 d.2.2.2.2.2.2.1 d.2.2.2.2.2.2.2.1 d.2.2.2.2.2.2.2.2.1 d.2.2.2.2.2.2.2.2.2.1 d.2.2.2.2.2.2.2.2.2.2.1 d.2.2.2.2.2.2.2.2.2.2.2.1 d.2.2.2.2.2.2.2.2.2.2.2.2.1 d.2.2.2.2.2.2.2.2.2.2.2.2.2.1 d.2.2.2.2.2.2.2.2.2.2.2.2.2.2.1 d.2.2.2.2.2.2.2.2.2.2.2.2.2.2.2.1 d.2.2.2.2.2.2.2.2.2.2.2.2.2.2.2.2.1) (fun d=>some (.inl (d))) (fun d=>some (.inr (d))) v3 b0_0 b0_1 b0_2 b0_3 b0_4 b0_5 b0_6 b0_7 b0_8 b0_9 b0_10 b0_11 b0_12 b0_13 b0_14 b0_15
noncomputable def M5 (a0:Wld):Option ((((Bool)×Unit)×(Unit))):=
 (Bv a0.1).bind fun val=>bif !val.1.1 then some ((false,()),()) else bif !Dr a0.2.1 then some ((false,()),()) else bif !E6 (nI (List.length a0.2.2.2.2.1)) 1 200 then some ((false,()),()) else bif decide (nI (List.length a0.2.2.2.2.2.1) > 2000) then some ((false,()),()) else bif a0.2.2.1 then bif !Ez a0.2.2.2.1 then some ((false,()),()) else bif a0.2.2.2.1.1 != a0.1 then some ((false,()),()) else bif a0.2.2.2.1.2.1 != nI (List.length a0.2.1.1) then some ((false,()),()) else bif !a0.2.2.1 then bif !Jo a0.2.2.2.1 then some ((false,()),()) else ((fun d=>Bf (Cf d.1 d.2.1 d.2.2.1 d.2.2.2.1 d.2.2.2.2.1 d.2.2.2.2.2.1 d.2.2.2.2.2.2.1 d.2.2.2.2.2.2.2.1 d.2.2.2.2.2.2.2.2.1 d.2.2.2.2.2.2.2.2.2.1 d.2.2.2.2.2.2.2.2.2.2.1 d.2.2.2.2.2.2.2.2.2.2.2.1 d.2.2.2.2.2.2.2.2.2.2.2.2.1 d.2.2.2.2.2.2.2.2.2.2.2.2.2.1 d.2.2.2.2.2.2.2.2.2.2.2.2.2.2.1 d.2.2.2.2.2.2.2.2.2.2.2.2.2.2.2.1 d.2.2.2.2.2.2.2.2.2.2.2.2.2.2.2.2.1) d.1 d.2.1 d.2.2.1 d.2.2.2.1 d.2.2.2.2.1 d.2.2.2.2.2.1 d.2.2.2.2.2.2.1 d.2.2.2.2.2.2.2.1 d.2.2.2.2.2.2.2.2.1 d.2.2.2.2.2.2.2.2.2.1 d.2.2.2.2.2.2.2.2.2.2.1 d.2.2.2.2.2.2.2.2.2.2.2.1 d.2.2.2.2.2.2.2.2.2.2.2.2.1 d.2.2.2.2.2.2.2.2.2.2.2.2.2.1 d.2.2.2.2.2.2.2.2.2.2.2.2.2.2.1 d.2.2.2.2.2.2.2.2.2.2.2.2.2.2.2.1 d.2.2.2.2.2.2.2.2.2.2.2.2.2.2.2.2.1) (0,a0.1,a0.2.1.1,a0.2.1.2.1,a0.2.2.1,a0.2.2.2.1.1,a0.2.2.2.1.2.1,a0.2.2.2.1.2.2.1,a0.2.2.2.1.2.2.2.1.1,a0.2.2.2.1.2.2.2.1.2.1,a0.2.2.2.1.2.2.2.1.2.2.1,a0.2.2.2.1.2.2.2.1.2.2.2.1,a0.2.2.2.1.2.2.2.2.1,a0.2.2.2.1.2.2.2.2.2.1,a0.2.2.2.1.2.2.2.2.2.2.1.1,a0.2.2.2.2)).bind fun val=>Cj (fun d=>((fun d=>Az (Bl d.1 d.2.1 d.2.2.1 d.2.2.2.1 d.2.2.2.2.1 d.2.2.2.2.2.1 d.2.2.2.2.2.2.1 d.2.2.2.2.2.2.2.1 d.2.2.2.2.2.2.2.2.1 d.2.2.2.2.2.2.2.2.2.1 d.2.2.2.2.2.2.2.2.2.2.1 d.2.2.2.2.2.2.2.2.2.2.2.1 d.2.2.2.2.2.2.2.2.2.2.2.2.1 d.2.2.2.2.2.2.2.2.2.2.2.2.2.1 d.2.2.2.2.2.2.2.2.2.2.2.2.2.2.1 d.2.2.2.2.2.2.2.2.2.2.2.2.2.2.2.1 d.2.2.2.2.2.2.2.2.2.2.2.2.2.2.2.2.1) d.1 d.2.1 d.2.2.1 d.2.2.2.1 d.2.2.2.2.1 d.2.2.2.2.2.1 d.2.2.2.2.2.2.1 d.2.2.2.2.2.2.2.1 d.2.2.2.2.2.2.2.2.1 d.2.2.2.2.2.2.2.2.2.1 d.2.2.2.2.2.2.2.2.2.2.1 d.2.2.2.2.2.2.2.2.2.2.2.1 d.2.2.2.2.2.2.2.2.2.2.2.2.1 d.2.2.2.2.2.2.2.2.2.2.2.2.2.1 d.2.2.2.2.2.2.2.2.2.2.2.2.2.2.1 d.2.2.2.2.2.2.2.2.2.2.2.2.2.2.2.1 d.2.2.2.2.2.2.2.2.2.2.2.2.2.2.2.2.1) (0,d)).bind fun val=>Cj (fun d=>some ((true,()),())) (fun d=>some (d,())) val) (fun d=>some (d,())) val else ((fun d=>Bf (Cf d.1 d.2.1 d.2.2.1 d.2.2.2.1 d.2.2.2.2.1 d.2.2.2.2.2.1 d.2.2.2.2.2.2.1 d.2.2.2.2.2.2.2.1 d.2.2.2.2.2.2.2.2.1 d.2.2.2.2.2.2.2.2.2.1 d.2.2.2.2.2.2.2.2.2.2.1 d.2.2.2.2.2.2.2.2.2.2.2.1 d.2.2.2.2.2.2.2.2.2.2.2.2.1 d.2.2.2.2.2.2.2.2.2.2.2.2.2.1 d.2.2.2.2.2.2.2.2.2.2.2.2.2.2.1 d.2.2.2.2.2.2.2.2.2.2.2.2.2.2.2.1 d.2.2.2.2.2.2.2.2.2.2.2.2.2.2.2.2.1) d.1 d.2.1 d.2.2.1 d.2.2.2.1 d.2.2.2.2.1 d.2.2.2.2.2.1 d.2.2.2.2.2.2.1 d.2.2.2.2.2.2.2.1 d.2.2.2.2.2.2.2.2.1 d.2.2.2.2.2.2.2.2.2.1 d.2.2.2.2.2.2.2.2.2.2.1 d.2.2.2.2.2.2.2.2.2.2.2.1 d.2.2.2.2.2.2.2.2.2.2.2.2.1 d.2.2.2.2.2.2.2.2.2.2.2.2.2.1 d.2.2.2.2.2.2.2.2.2.2.2.2.2.2.1 d.2.2.2.2.2.2.2.2.2.2.2.2.2.2.2.1 d.2.2.2.2.2.2.2.2.2.2.2.2.2.2.2.2.1) (0,a0.1,a0.2.1.1,a0.2.1.2.1,a0.2.2.1,a0.2.2.2.1.1,a0.2.2.2.1.2.1,a0.2.2.2.1.2.2.1,a0.2.2.2.1.2.2.2.1.1,a0.2.2.2.1.2.2.2.1.2.1,a0.2.2.2.1.2.2.2.1.2.2.1,a0.2.2.2.1.2.2.2.1.2.2.2.1,a0.2.2.2.1.2.2.2.2.1,a0.2.2.2.1.2.2.2.2.2.1,a0.2.2.2.1.2.2.2.2.2.2.1.1,a0.2.2.2.2)).bind fun val=>Cj (fun d=>((fun d=>Az (Bl d.1 d.2.1 d.2.2.1 d.2.2.2.1 d.2.2.2.2.1 d.2.2.2.2.2.1 d.2.2.2.2.2.2.1 d.2.2.2.2.2.2.2.1 d.2.2.2.2.2.2.2.2.1 d.2.2.2.2.2.2.2.2.2.1 d.2.2.2.2.2.2.2.2.2.2.1 d.2.2.2.2.2.2.2.2.2.2.2.1 d.2.2.2.2.2.2.2.2.2.2.2.2.1 d.2.2.2.2.2.2.2.2.2.2.2.2.2.1 d.2.2.2.2.2.2.2.2.2.2.2.2.2.2.1 d.2.2.2.2.2.2.2.2.2.2.2.2.2.2.2.1 d.2.2.2.2.2.2.2.2.2.2.2.2.2.2.2.2.1) d.1 d.2.1 d.2.2.1 d.2.2.2.1 d.2.2.2.2.1 d.2.2.2.2.2.1 d.2.2.2.2.2.2.1 d.2.2.2.2.2.2.2.1 d.2.2.2.2.2.2.2.2.1 d.2.2.2.2.2.2.2.2.2.1 d.2.2.2.2.2.2.2.2.2.2.1 d.2.2.2.2.2.2.2.2.2.2.2.1 d.2.2.2.2.2.2.2.2.2.2.2.2.1 d.2.2.2.2.2.2.2.2.2.2.2.2.2.1 d.2.2.2.2.2.2.2.2.2.2.2.2.2.2.1 d.2.2.2.2.2.2.2.2.2.2.2.2.2.2.2.1 d.2.2.2.2.2.2.2.2.2.2.2.2.2.2.2.2.1) (0,d)).bind fun val=>Cj (fun d=>some ((true,()),())) (fun d=>some (d,())) val) (fun d=>some (d,())) val else bif !a0.2.2.1 then bif !Jo a0.2.2.2.1 then some ((false,()),()) else ((fun d=>Bf (Cf d.1 d.2.1 d.2.2.1 d.2.2.2.1 d.2.2.2.2.1 d.2.2.2.2.2.1 d.2.2.2.2.2.2.1 d.2.2.2.2.2.2.2.1 d.2.2.2.2.2.2.2.2.1 d.2.2.2.2.2.2.2.2.2.1 d.2.2.2.2.2.2.2.2.2.2.1 d.2.2.2.2.2.2.2.2.2.2.2.1 d.2.2.2.2.2.2.2.2.2.2.2.2.1 d.2.2.2.2.2.2.2.2.2.2.2.2.2.1 d.2.2.2.2.2.2.2.2.2.2.2.2.2.2.1 d.2.2.2.2.2.2.2.2.2.2.2.2.2.2.2.1 d.2.2.2.2.2.2.2.2.2.2.2.2.2.2.2.2.1) d.1 d.2.1 d.2.2.1 d.2.2.2.1 d.2.2.2.2.1 d.2.2.2.2.2.1 d.2.2.2.2.2.2.1 d.2.2.2.2.2.2.2.1 d.2.2.2.2.2.2.2.2.1 d.2.2.2.2.2.2.2.2.2.1 d.2.2.2.2.2.2.2.2.2.2.1 d.2.2.2.2.2.2.2.2.2.2.2.1 d.2.2.2.2.2.2.2.2.2.2.2.2.1 d.2.2.2.2.2.2.2.2.2.2.2.2.2.1 d.2.2.2.2.2.2.2.2.2.2.2.2.2.2.1 d.2.2.2.2.2.2.2.2.2.2.2.2.2.2.2.1 d.2.2.2.2.2.2.2.2.2.2.2.2.2.2.2.2.1) (0,a0.1,a0.2.1.1,a0.2.1.2.1,a0.2.2.1,a0.2.2.2.1.1,a0.2.2.2.1.2.1,a0.2.2.2.1.2.2.1,a0.2.2.2.1.2.2.2.1.1,a0.2.2.2.1.2.2.2.1.2.1,a0.2.2.2.1.2.2.2.1.2.2.1,a0.2.2.2.1.2.2.2.1.2.2.2.1,a0.2.2.2.1.2.2.2.2.1,a0.2.2.2.1.2.2.2.2.2.1,a0.2.2.2.1.2.2.2.2.2.2.1.1,a0.2.2.2.2)).bind fun val=>Cj (fun d=>((fun d=>Az (Bl d.1 d.2.1 d.2.2.1 d.2.2.2.1 d.2.2.2.2.1 d.2.2.2.2.2.1 d.2.2.2.2.2.2.1 d.2.2.2.2.2.2.2.1 d.2.2.2.2.2.2.2.2.1 d.2.2.2.2.2.2.2.2.2.1 d.2.2.2.2.2.2.2.2.2.2.1 d.2.2.2.2.2.2.2.2.2.2.2.1 d.2.2.2.2.2.2.2.2.2.2.2.2.1 d.2.2.2.2.2.2.2.2.2.2.2.2.2.1 d.2.2.2.2.2.2.2.2.2.2.2.2.2.2.1 d.2.2.2.2.2.2.2.2.2.2.2.2.2.2.2.1 d.2.2.2.2.2.2.2.2.2.2.2.2.2.2.2.2.1) d.1 d.2.1 d.2.2.1 d.2.2.2.1 d.2.2.2.2.1 d.2.2.2.2.2.1 d.2.2.2.2.2.2.1 d.2.2.2.2.2.2.2.1 d.2.2.2.2.2.2.2.2.1 d.2.2.2.2.2.2.2.2.2.1 d.2.2.2.2.2.2.2.2.2.2.1 d.2.2.2.2.2.2.2.2.2.2.2.1 d.2.2.2.2.2.2.2.2.2.2.2.2.1 d.2.2.2.2.2.2.2.2.2.2.2.2.2.1 d.2.2.2.2.2.2.2.2.2.2.2.2.2.2.1 d.2.2.2.2.2.2.2.2.2.2.2.2.2.2.2.1 d.2.2.2.2.2.2.2.2.2.2.2.2.2.2.2.2.1) (0,d)).bind fun val=>Cj (fun d=>some ((true,()),())) (fun d=>some (d,())) val) (fun d=>some (d,())) val else ((fun d=>Bf (Cf d.1 d.2.1 d.2.2.1 d.2.2.2.1 d.2.2.2.2.1 d.2.2.2.2.2.1 d.2.2.2.2.2.2.1 d.2.2.2.2.2.2.2.1 d.2.2.2.2.2.2.2.2.1 d.2.2.2.2.2.2.2.2.2.1 d.2.2.2.2.2.2.2.2.2.2.1 d.2.2.2.2.2.2.2.2.2.2.2.1 d.2.2.2.2.2.2.2.2.2.2.2.2.1 d.2.2.2.2.2.2.2.2.2.2.2.2.2.1 d.2.2.2.2.2.2.2.2.2.2.2.2.2.2.1 d.2.2.2.2.2.2.2.2.2.2.2.2.2.2.2.1 d.2.2.2.2.2.2.2.2.2.2.2.2.2.2.2.2.1) d.1 d.2.1 d.2.2.1 d.2.2.2.1 d.2.2.2.2.1 d.2.2.2.2.2.1 d.2.2.2.2.2.2.1 d.2.2.2.2.2.2.2.1 d.2.2.2.2.2.2.2.2.1 d.2.2.2.2.2.2.2.2.2.1 d.2.2.2.2.2.2.2.2.2.2.1 d.2.2.2.2.2.2.2.2.2.2.2.1 d.2.2.2.2.2.2.2.2.2.2.2.2.1 d.2.2.2.2.2.2.2.2.2.2.2.2.2.1 d.2.2.2.2.2.2.2.2.2.2.2.2.2.2.1 d.2.2.2.2.2.2.2.2.2.2.2.2.2.2.2.1 d.2.2.2.2.2.2.2.2.2.2.2.2.2.2.2.2.1) (0,a0.1,a0.2.1.1,a0.2.1.2.1,a0.2.2.1,a0.2.2.2.1.1,a0.2.2.2.1.2.1,a0.2.2.2.1.2.2.1,a0.2.2.2.1.2.2.2.1.1,a0.2.2.2.1.2.2.2.1.2.1,a0.2.2.2.1.2.2.2.1.2.2.1,a0.2.2.2.1.2.2.2.1.2.2.2.1,a0.2.2.2.1.2.2.2.2.1,a0.2.2.2.1.2.2.2.2.2.1,a0.2.2.2.1.2.2.2.2.2.2.1.1,a0.2.2.2.2)).bind fun val=>Cj (fun d=>((fun d=>Az (Bl d.1 d.2.1 d.2.2.1 d.2.2.2.1 d.2.2.2.2.1 d.2.2.2.2.2.1 d.2.2.2.2.2.2.1 d.2.2.2.2.2.2.2.1 d.2.2.2.2.2.2.2.2.1 d.2.2.2.2.2.2.2.2.2.1 d.2.2.2.2.2.2.2.2.2.2.1 d.2.2.2.2.2.2.2.2.2.2.2.1 d.2.2.2.2.2.2.2.2.2.2.2.2.1 d.2.2.2.2.2.2.2.2.2.2.2.2.2.1 d.2.2.2.2.2.2.2.2.2.2.2.2.2.2.1 d.2.2.2.2.2.2.2.2.2.2.2.2.2.2.2.1 d.2.2.2.2.2.2.2.2.2.2.2.2.2.2.2.2.1) d.1 d.2.1 d.2.2.1 d.2.2.2.1 d.2.2.2.2.1 d.2.2.2.2.2.1 d.2.2.2.2.2.2.1 d.2.2.2.2.2.2.2.1 d.2.2.2.2.2.2.2.2.1 d.2.2.2.2.2.2.2.2.2.1 d.2.2.2.2.2.2.2.2.2.2.1 d.2.2.2.2.2.2.2.2.2.2.2.1 d.2.2.2.2.2.2.2.2.2.2.2.2.1 d.2.2.2.2.2.2.2.2.2.2.2.2.2.1 d.2.2.2.2.2.2.2.2.2.2.2.2.2.2.1 d.2.2.2.2.2.2.2.2.2.2.2.2.2.2.2.1 d.2.2.2.2.2.2.2.2.2.2.2.2.2.2.2.2.1) (0,d)).bind fun val=>Cj (fun d=>some ((true,()),())) (fun d=>some (d,())) val) (fun d=>some (d,())) val
theorem Awx (xs:List Stt) (h:xs.length≤200) (b0:Int) (b1:List ByteArray) (b2:List Wr) (b3:Bool) (b4 b5 b6 b7 b8 b9 b10 b11 b12:Int) (b13:List Pr2) (b15:List ByteArray):
  Bf (Cf 0 b0 b1 b2 b3 b4 b5 b6 b7 b8 b9 b10 b11 b12 b13 xs b15) 0 b0 b1 b2 b3 b4 b5 b6 b7 b8 b9 b10 b11 b12 b13 xs b15=
  some (bif (List.range' 0 xs.length).all (fun i=>Aj (xs.getD i s5)) then .inl (b0,b1,b2,b3,b4,b5,b6,b7,b8,b9,b10,b11,b12,b13,xs,b15,()) else .inr (false,())):=by
 have hL:=I3 (n:=xs.length) (fun i=>Aj (xs.getD i s5)) (g:=fun m i=>Bf m i b0 b1 b2 b3 b4 b5 b6 b7 b8 b9 b10 b11 b12 b13 xs b15) (ok:=.inl (b0,b1,b2,b3,b4,b5,b6,b7,b8,b9,b10,b11,b12,b13,xs,b15,())) (bad:=.inr (false,())) (fun m i hi=>by
  show Bf (m + 1) i b0 b1 b2 b3 b4 b5 b6 b7 b8 b9 b10 b11 b12 b13 xs b15=_
  simp only [Bf,F2]
  rw [W1 hi,H2,wI (show i < 4611686018427387904 by omega),Int.toNat_natCast]
  show (bif !Aj (xs.getD i s5) then _ else _)=_
  cases Aj (xs.getD i s5)<;>rfl) (fun m=>by
  show Bf (m + 1) (xs.length:Int) b0 b1 b2 b3 b4 b5 b6 b7 b8 b9 b10 b11 b12 b13 xs b15=_
  simp only [Bf,F2]
  rw [Mm]
  rfl) (Cf 0 b0 b1 b2 b3 b4 b5 b6 b7 b8 b9 b10 b11 b12 b13 xs b15) 0 (by omega) (by simp [Cf,nI])
 exact hL
theorem Anf (xs:List ByteArray) (h:xs.length≤2000) (b0:Int) (b1:List ByteArray) (b2:List Wr) (b3:Bool) (b4 b5 b6 b7 b8 b9 b10 b11 b12:Int) (b13:List Pr2) (b14:List Stt):Az (Bl 0 b0 b1 b2 b3 b4 b5 b6 b7 b8 b9 b10 b11 b12 b13 b14 xs) 0 b0 b1 b2 b3 b4 b5 b6 b7 b8 b9 b10 b11 b12 b13 b14 xs=
  some (bif (List.range' 0 xs.length).all (fun i=>decide ((xs.getD i z0).size=64)) then .inl () else .inr (false,())):=by
 have hL:=I3 (n:=xs.length) (fun i=>decide ((xs.getD i z0).size=64)) (g:=fun m i=>Az m i b0 b1 b2 b3 b4 b5 b6 b7 b8 b9 b10 b11 b12 b13 b14 xs) (ok:=.inl ()) (bad:=.inr (false,())) (fun m i hi=>by
  show Az (m + 1) i b0 b1 b2 b3 b4 b5 b6 b7 b8 b9 b10 b11 b12 b13 b14 xs=_
  simp only [Az,Fc]
  have e:(nI (ByteArray.size (List.getD xs i (ByteArray.mk #[]))) != 64)=!decide ((xs.getD i z0).size=64):=Aza (xs.getD i z0).size 64
  rw [W1 hi,H2,wI (show i < 4611686018427387904 by omega),Int.toNat_natCast,e]
  cases decide ((xs.getD i z0).size=64)<;>rfl) (fun m=>by
  show Az (m + 1) (xs.length:Int) b0 b1 b2 b3 b4 b5 b6 b7 b8 b9 b10 b11 b12 b13 b14 xs=_
  simp only [Az,Fc]
  rw [Mm]
  rfl) (Bl 0 b0 b1 b2 b3 b4 b5 b6 b7 b8 b9 b10 b11 b12 b13 b14 xs) 0 (by omega) (by simp [Bl,nI])
 exact hL
theorem Ab2 (a0:Wld):M5 a0=some (((Gd a0),()),(())):=by
 unfold M5 Gd Dg
 refine l8 (wid a0.1) ?_
 show (bif !Ch a0.1 1 8 then _ else bif !A0 a0.2.1 then _ else bif !Ch (nI a0.2.2.2.2.1.length) 1 200 then _ else _)=_
 cases Ch a0.1 1 8 with
 | false=>rfl
 | true=>
  cases A0 a0.2.1 with
  | false=>rfl
  | true=>
   cases hp:Ch (nI a0.2.2.2.2.1.length) 1 200 with
   | false=>rfl
   | true=>
    have hpl:a0.2.2.2.2.1.length≤200:=by have:=(Cy hp).2; simp only [nI] at this; omega
    have e1:decide (nI a0.2.2.2.2.2.1.length > 2000)=!decide (a0.2.2.2.2.2.1.length≤2000):=Zf _ 2000
    rw [e1]
    cases hw:decide (a0.2.2.2.2.2.1.length≤2000) with
    | false=>rfl
    | true=>
     have hwl:=of_decide_eq_true hw
     simp only [Bool.not_true,Bool.true_and,cond_false]
     have key:∀ b:Bool,(bif b then (bif P5 a0 then (bif I7 a0 then some ((true,()),()) else some ((false,()),())) else some ((false,()),())) else some ((false,()),()))=(some ((b&&(P5 a0&&I7 a0),()),()):Option ((Bool×Unit)×Unit)):=fun b=>by
      cases b<;>cases P5 a0<;>cases I7 a0<;>rfl
     rw [← key]
     simp only [Awx _ hpl,Option.bind_some]
     show _=(bif Q8 a0 then (bif P5 a0 then (bif I7 a0 then _ else _) else _) else _)
     unfold Q8
     have hP:P5 a0=(List.range' 0 a0.2.2.2.2.1.length).all (fun i=>Aj (a0.2.2.2.2.1.getD i s5)):=rfl
     have hW:I7 a0=(List.range' 0 a0.2.2.2.2.2.1.length).all (fun i=>decide ((a0.2.2.2.2.2.1.getD i z0).size=64)):=rfl
     rw [hP,hW]
     cases hu:a0.2.2.1 with
     | true=>
      simp only [cond_true,Bool.not_true,cond_false]
      show (bif !Ax a0.2.2.2.1 then _ else _)=_
      have w1:(a0.2.2.2.1.1 != a0.1)=!(a0.2.2.2.1.1==a0.1):=rfl
      have w2:(a0.2.2.2.1.2.1 != nI a0.2.1.1.length)=!(a0.2.2.2.1.2.1==nI a0.2.1.1.length):=rfl
      rw [w1,w2]
      cases Ax a0.2.2.2.1 with
      | false=>rfl
      | true=>
       cases (a0.2.2.2.1.1==a0.1) with
       | false=>rfl
       | true=>
        cases (a0.2.2.2.1.2.1==nI a0.2.1.1.length) with
        | false=>rfl
        | true=>
         cases (List.range' 0 a0.2.2.2.2.1.length).all (fun i=>Aj (a0.2.2.2.2.1.getD i s5)) with
         | false=>rfl
         | true=>
          show (Az (Bl 0 a0.1 a0.2.1.1 a0.2.1.2.1 true a0.2.2.2.1.1 a0.2.2.2.1.2.1 a0.2.2.2.1.2.2.1 a0.2.2.2.1.2.2.2.1.1 a0.2.2.2.1.2.2.2.1.2.1 a0.2.2.2.1.2.2.2.1.2.2.1 a0.2.2.2.1.2.2.2.1.2.2.2.1 a0.2.2.2.1.2.2.2.2.1 a0.2.2.2.1.2.2.2.2.2.1 a0.2.2.2.1.2.2.2.2.2.2.1.1 a0.2.2.2.2.1 a0.2.2.2.2.2.1) 0 a0.1 a0.2.1.1 a0.2.1.2.1 true a0.2.2.2.1.1 a0.2.2.2.1.2.1 a0.2.2.2.1.2.2.1 a0.2.2.2.1.2.2.2.1.1 a0.2.2.2.1.2.2.2.1.2.1 a0.2.2.2.1.2.2.2.1.2.2.1 a0.2.2.2.1.2.2.2.1.2.2.2.1 a0.2.2.2.1.2.2.2.2.1 a0.2.2.2.1.2.2.2.2.2.1 a0.2.2.2.1.2.2.2.2.2.2.1.1 a0.2.2.2.2.1 a0.2.2.2.2.2.1).bind _=_
          rw [Anf _ hwl]
          cases (List.range' 0 a0.2.2.2.2.2.1.length).all (fun i=>decide ((a0.2.2.2.2.2.1.getD i z0).size=64))<;>rfl
     | false=>
      simp only [cond_true,Bool.not_false,cond_false]
      show (bif !Q0 a0.2.2.2.1 then _ else _)=_
      cases Q0 a0.2.2.2.1 with
      | false=>rfl
      | true=>
       cases (List.range' 0 a0.2.2.2.2.1.length).all (fun i=>Aj (a0.2.2.2.2.1.getD i s5)) with
       | false=>rfl
       | true=>
        show (Az (Bl 0 a0.1 a0.2.1.1 a0.2.1.2.1 false a0.2.2.2.1.1 a0.2.2.2.1.2.1 a0.2.2.2.1.2.2.1 a0.2.2.2.1.2.2.2.1.1 a0.2.2.2.1.2.2.2.1.2.1 a0.2.2.2.1.2.2.2.1.2.2.1 a0.2.2.2.1.2.2.2.1.2.2.2.1 a0.2.2.2.1.2.2.2.2.1 a0.2.2.2.1.2.2.2.2.2.1 a0.2.2.2.1.2.2.2.2.2.2.1.1 a0.2.2.2.2.1 a0.2.2.2.2.2.1) 0 a0.1 a0.2.1.1 a0.2.1.2.1 false a0.2.2.2.1.1 a0.2.2.2.1.2.1 a0.2.2.2.1.2.2.1 a0.2.2.2.1.2.2.2.1.1 a0.2.2.2.1.2.2.2.1.2.1 a0.2.2.2.1.2.2.2.1.2.2.1 a0.2.2.2.1.2.2.2.1.2.2.2.1 a0.2.2.2.1.2.2.2.2.1 a0.2.2.2.1.2.2.2.2.2.1 a0.2.2.2.1.2.2.2.2.2.2.1.1 a0.2.2.2.2.1 a0.2.2.2.2.2.1).bind _=_
        rw [Anf _ hwl]
        cases (List.range' 0 a0.2.2.2.2.2.1.length).all (fun i=>decide ((a0.2.2.2.2.2.1.getD i z0).size=64))<;>rfl
noncomputable def P0 {R:Type} (k:Kt R):=(Cj (I1 (pa_spec_ValidWorld 7) (.exit 0) 2 k) (I1 (pa_spec_ValidWorld 7) .ret 1 k))
noncomputable def Om {R:Type} (k:Kt R):=(Cj (I1 (pa_spec_ValidWorld 12) (.exit 2) 4 k) (I1 (pa_spec_ValidWorld 12) .ret 1 k))
noncomputable def Oe {R:Type}:Lt R pa_spec_ValidWorld:=(Ed (pat:=pa_spec_ValidWorld) 7 (fun d k=>(Bf (Cf d.1 d.2.1 d.2.2.1 d.2.2.2.1 d.2.2.2.2.1 d.2.2.2.2.2.1 d.2.2.2.2.2.2.1 d.2.2.2.2.2.2.2.1 d.2.2.2.2.2.2.2.2.1 d.2.2.2.2.2.2.2.2.2.1 d.2.2.2.2.2.2.2.2.2.2.1 d.2.2.2.2.2.2.2.2.2.2.2.1 d.2.2.2.2.2.2.2.2.2.2.2.2.1 d.2.2.2.2.2.2.2.2.2.2.2.2.2.1 d.2.2.2.2.2.2.2.2.2.2.2.2.2.2.1 d.2.2.2.2.2.2.2.2.2.2.2.2.2.2.2.1 d.2.2.2.2.2.2.2.2.2.2.2.2.2.2.2.2.1) d.1 d.2.1 d.2.2.1 d.2.2.2.1 d.2.2.2.2.1 d.2.2.2.2.2.1 d.2.2.2.2.2.2.1 d.2.2.2.2.2.2.2.1 d.2.2.2.2.2.2.2.2.1 d.2.2.2.2.2.2.2.2.2.1 d.2.2.2.2.2.2.2.2.2.2.1 d.2.2.2.2.2.2.2.2.2.2.2.1 d.2.2.2.2.2.2.2.2.2.2.2.2.1 d.2.2.2.2.2.2.2.2.2.2.2.2.2.1 d.2.2.2.2.2.2.2.2.2.2.2.2.2.2.1 d.2.2.2.2.2.2.2.2.2.2.2.2.2.2.2.1 d.2.2.2.2.2.2.2.2.2.2.2.2.2.2.2.2.1).bind (P0 k)) (Ed (pat:=pa_spec_ValidWorld) 12 (fun d k=>(Az (Bl d.1 d.2.1 d.2.2.1 d.2.2.2.1 d.2.2.2.2.1 d.2.2.2.2.2.1 d.2.2.2.2.2.2.1 d.2.2.2.2.2.2.2.1 d.2.2.2.2.2.2.2.2.1 d.2.2.2.2.2.2.2.2.2.1 d.2.2.2.2.2.2.2.2.2.2.1 d.2.2.2.2.2.2.2.2.2.2.2.1 d.2.2.2.2.2.2.2.2.2.2.2.2.1 d.2.2.2.2.2.2.2.2.2.2.2.2.2.1 d.2.2.2.2.2.2.2.2.2.2.2.2.2.2.1 d.2.2.2.2.2.2.2.2.2.2.2.2.2.2.2.1 d.2.2.2.2.2.2.2.2.2.2.2.2.2.2.2.2.1) d.1 d.2.1 d.2.2.1 d.2.2.2.1 d.2.2.2.2.1 d.2.2.2.2.2.1 d.2.2.2.2.2.2.1 d.2.2.2.2.2.2.2.1 d.2.2.2.2.2.2.2.2.1 d.2.2.2.2.2.2.2.2.2.1 d.2.2.2.2.2.2.2.2.2.2.1 d.2.2.2.2.2.2.2.2.2.2.2.1 d.2.2.2.2.2.2.2.2.2.2.2.2.1 d.2.2.2.2.2.2.2.2.2.2.2.2.2.1 d.2.2.2.2.2.2.2.2.2.2.2.2.2.2.1 d.2.2.2.2.2.2.2.2.2.2.2.2.2.2.2.1 d.2.2.2.2.2.2.2.2.2.2.2.2.2.2.2.2.1).bind (Om k)) Hu))
theorem M6:A2 Tryz.prog ta_spec_ValidWorld:=A7 ⟨Jy,Cz,F7,Adw,Aeq,Jw,trivial⟩
theorem Yt {R:Type}:A3 Tryz.prog R 93 0 pa_spec_ValidWorld Oe co_spec_ValidWorld_12:=
 B3 (cfg:=⟨ta_spec_ValidWorld,0,93,pa_spec_ValidWorld⟩) 12 [] (fun NX X (d:(Int)×(Int)×(List ByteArray)×(List Wr)×(Bool)×(Int)×(Int)×(Int)×(Int)×(Int)×(Int)×(Int)×(Int)×(Int)×(List Pr2)×(List Stt)×(List ByteArray)×Unit)=>Fc  NX (fun e=>X (.inl (e))) (fun e=>X (.inr (e))) d.1 d.2.1 d.2.2.1 d.2.2.2.1 d.2.2.2.2.1 d.2.2.2.2.2.1 d.2.2.2.2.2.2.1 d.2.2.2.2.2.2.2.1 d.2.2.2.2.2.2.2.2.1 d.2.2.2.2.2.2.2.2.2.1 d.2.2.2.2.2.2.2.2.2.2.1 d.2.2.2.2.2.2.2.2.2.2.2.1 d.2.2.2.2.2.2.2.2.2.2.2.2.1 d.2.2.2.2.2.2.2.2.2.2.2.2.2.1 d.2.2.2.2.2.2.2.2.2.2.2.2.2.2.1 d.2.2.2.2.2.2.2.2.2.2.2.2.2.2.2.1 d.2.2.2.2.2.2.2.2.2.2.2.2.2.2.2.2.1) (fun m d=>Az m d.1 d.2.1 d.2.2.1 d.2.2.2.1 d.2.2.2.2.1 d.2.2.2.2.2.1 d.2.2.2.2.2.2.1 d.2.2.2.2.2.2.2.1 d.2.2.2.2.2.2.2.2.1 d.2.2.2.2.2.2.2.2.2.1 d.2.2.2.2.2.2.2.2.2.2.1 d.2.2.2.2.2.2.2.2.2.2.2.1 d.2.2.2.2.2.2.2.2.2.2.2.2.1 d.2.2.2.2.2.2.2.2.2.2.2.2.2.1 d.2.2.2.2.2.2.2.2.2.2.2.2.2.2.1 d.2.2.2.2.2.2.2.2.2.2.2.2.2.2.2.1 d.2.2.2.2.2.2.2.2.2.2.2.2.2.2.2.2.1) (fun d=>Bl d.1 d.2.1 d.2.2.1 d.2.2.2.1 d.2.2.2.2.1 d.2.2.2.2.2.1 d.2.2.2.2.2.2.1 d.2.2.2.2.2.2.2.1 d.2.2.2.2.2.2.2.2.1 d.2.2.2.2.2.2.2.2.2.1 d.2.2.2.2.2.2.2.2.2.2.1 d.2.2.2.2.2.2.2.2.2.2.2.1 d.2.2.2.2.2.2.2.2.2.2.2.2.1 d.2.2.2.2.2.2.2.2.2.2.2.2.2.1 d.2.2.2.2.2.2.2.2.2.2.2.2.2.2.1 d.2.2.2.2.2.2.2.2.2.2.2.2.2.2.2.1 d.2.2.2.2.2.2.2.2.2.2.2.2.2.2.2.2.1) Om M6 trivial (fun f NX (d:(Int)×(Int)×(List ByteArray)×(List Wr)×(Bool)×(Int)×(Int)×(Int)×(Int)×(Int)×(Int)×(Int)×(Int)×(Int)×(List Pr2)×(List Stt)×(List ByteArray)×Unit)=>by unfold Fc; simp only [Al,Ar,Ak,Option.bind_assoc,Option.bind_none,Option.bind_some]) (fun _ _ _=>by kernel_rfl)
theorem g6 {R:Type}:A3 Tryz.prog R 93 0 pa_spec_ValidWorld Oe co_spec_ValidWorld_7:=
 B3 (cfg:=⟨ta_spec_ValidWorld,0,93,pa_spec_ValidWorld⟩) 7 [] (fun NX X (d:(Int)×(Int)×(List ByteArray)×(List Wr)×(Bool)×(Int)×(Int)×(Int)×(Int)×(Int)×(Int)×(Int)×(Int)×(Int)×(List Pr2)×(List Stt)×(List ByteArray)×Unit)=>F2  NX (fun e=>X (.inl (e))) (fun e=>X (.inr (e))) d.1 d.2.1 d.2.2.1 d.2.2.2.1 d.2.2.2.2.1 d.2.2.2.2.2.1 d.2.2.2.2.2.2.1 d.2.2.2.2.2.2.2.1 d.2.2.2.2.2.2.2.2.1 d.2.2.2.2.2.2.2.2.2.1 d.2.2.2.2.2.2.2.2.2.2.1 d.2.2.2.2.2.2.2.2.2.2.2.1 d.2.2.2.2.2.2.2.2.2.2.2.2.1 d.2.2.2.2.2.2.2.2.2.2.2.2.2.1 d.2.2.2.2.2.2.2.2.2.2.2.2.2.2.1 d.2.2.2.2.2.2.2.2.2.2.2.2.2.2.2.1 d.2.2.2.2.2.2.2.2.2.2.2.2.2.2.2.2.1) (fun m d=>Bf m d.1 d.2.1 d.2.2.1 d.2.2.2.1 d.2.2.2.2.1 d.2.2.2.2.2.1 d.2.2.2.2.2.2.1 d.2.2.2.2.2.2.2.1 d.2.2.2.2.2.2.2.2.1 d.2.2.2.2.2.2.2.2.2.1 d.2.2.2.2.2.2.2.2.2.2.1 d.2.2.2.2.2.2.2.2.2.2.2.1 d.2.2.2.2.2.2.2.2.2.2.2.2.1 d.2.2.2.2.2.2.2.2.2.2.2.2.2.1 d.2.2.2.2.2.2.2.2.2.2.2.2.2.2.1 d.2.2.2.2.2.2.2.2.2.2.2.2.2.2.2.1 d.2.2.2.2.2.2.2.2.2.2.2.2.2.2.2.2.1) (fun d=>Cf d.1 d.2.1 d.2.2.1 d.2.2.2.1 d.2.2.2.2.1 d.2.2.2.2.2.1 d.2.2.2.2.2.2.1 d.2.2.2.2.2.2.2.1 d.2.2.2.2.2.2.2.2.1 d.2.2.2.2.2.2.2.2.2.1 d.2.2.2.2.2.2.2.2.2.2.1 d.2.2.2.2.2.2.2.2.2.2.2.1 d.2.2.2.2.2.2.2.2.2.2.2.2.1 d.2.2.2.2.2.2.2.2.2.2.2.2.2.1 d.2.2.2.2.2.2.2.2.2.2.2.2.2.2.1 d.2.2.2.2.2.2.2.2.2.2.2.2.2.2.2.1 d.2.2.2.2.2.2.2.2.2.2.2.2.2.2.2.2.1) P0 M6 trivial (fun f NX (d:(Int)×(Int)×(List ByteArray)×(List Wr)×(Bool)×(Int)×(Int)×(Int)×(Int)×(Int)×(Int)×(Int)×(Int)×(Int)×(List Pr2)×(List Stt)×(List ByteArray)×Unit)=>by unfold F2; simp only [Al,Ar,Ak,Option.bind_assoc,Option.bind_none,Option.bind_some]) (fun _ _ _=>by kernel_rfl)
theorem S6:B2 Tryz.prog 15 sd_spec_ValidWorld:=
 A6 (pat:=pa_spec_ValidWorld) [co_spec_ValidWorld_7,co_spec_ValidWorld_12] Oe M6 ⟨g6,Yt,trivial⟩ Tryz.func15 (de:=fun x=>M5 x.1) (fun x r h=>(Ab2 x.1).trans h) fun _=>by kernel_rfl
def L6 (w:Wld):ByteArray:=Pi w
def Ang:Sig:=⟨[.rd Fr],[some 16],[.rd .str],[none]⟩
noncomputable def sd_spec_Forged:SD:=⟨Ang,fun x=>some (((L6 x.1),()),(()))⟩
noncomputable def ta_spec_Forged:Tb:=tb [(15,sd_spec_ValidWorld),(16,sd_spec_ReadPage)]
def pa_spec_Forged:Nat→Pat×(Nat→Pat):=Gf [(5,⟨[.boxSl 1 1 .str,.boxSl 1 2 Da,.boxSl 1 13 Av,.boxSl 1 14 Ci,.boxSl 1 15 .str],[(1,.lf (.ptr 0 0)),(3,.lf (.d tI))],[.box 36 [.d tI,.d (.sl .str),.d (.sl Da),.d .bool,.d tI,.d tI,.d tI,.d tI,.d tI,.d tI,.d tI,.d tI,.d tI,.d (.sl Av),.d (.sl Ci),.d (.sl .str)]]⟩,[(2,p0),(1,⟨[],[(2,.lf (.d .str))],[]⟩)]),(10,⟨[.boxSl 1 1 .str,.boxSl 1 2 Da,.boxSl 1 13 Av,.boxSl 1 14 Ci,.boxSl 1 15 .str],[(1,.lf (.ptr 0 0)),(3,.lf (.d tI)),(4,.lf (.d .str)),(6,.lf (.d .bool)),(7,.lf (.d tI))],[.box 36 [.d tI,.d (.sl .str),.d (.sl Da),.d .bool,.d tI,.d tI,.d tI,.d tI,.d tI,.d tI,.d tI,.d tI,.d tI,.d (.sl Av),.d (.sl Ci),.d (.sl .str)]]⟩,[(4,⟨[.boxSl 1 1 .str,.boxSl 1 2 Da,.boxSl 1 13 Av,.boxSl 1 14 Ci,.boxSl 1 15 .str],[(1,.lf (.ptr 0 0)),(3,.lf (.d tI)),(4,.lf (.d .str)),(6,.lf (.d .bool))],[.box 36 [.d tI,.d (.sl .str),.d (.sl Da),.d .bool,.d tI,.d tI,.d tI,.d tI,.d tI,.d tI,.d tI,.d tI,.d tI,.d (.sl Av),.d (.sl Ci),.d (.sl .str)]]⟩)])]
noncomputable def co_spec_Forged_5:Code:=(As (Ba Tryz.f14)).getD 0 .skip
noncomputable def co_spec_Forged_10:Code:=(As co_spec_Forged_5).getD 0 .skip
def Il (v3:Int) (v4:ByteArray) (v6:Bool) (v7:Int) (b0_0:Int) (b0_1:List ByteArray) (b0_2:List Wr) (b0_3:Bool) (b0_4:Int) (b0_5:Int) (b0_6:Int) (b0_7:Int) (b0_8:Int) (b0_9:Int) (b0_10:Int) (b0_11:Int) (b0_12:Int) (b0_13:List Pr2) (b0_14:List Stt) (b0_15:List ByteArray):Nat:=((b0_15.length:Int) - v7).toNat + 1
noncomputable def Ge {R:Type}  (NX:((Int)×(ByteArray)×(Bool)×(Int)×(Int)×(List ByteArray)×(List Wr)×(Bool)×(Int)×(Int)×(Int)×(Int)×(Int)×(Int)×(Int)×(Int)×(Int)×(List Pr2)×(List Stt)×(List ByteArray)×Unit)→Option R) (X4:((Int)×(ByteArray)×(Bool)×(Int)×(List ByteArray)×(List Wr)×(Bool)×(Int)×(Int)×(Int)×(Int)×(Int)×(Int)×(Int)×(Int)×(Int)×(List Pr2)×(List Stt)×(List ByteArray)×Unit)→Option R) (v3:Int) (v4:ByteArray) (v6:Bool) (v7:Int) (b0_0:Int) (b0_1:List ByteArray) (b0_2:List Wr) (b0_3:Bool) (b0_4:Int) (b0_5:Int) (b0_6:Int) (b0_7:Int) (b0_8:Int) (b0_9:Int) (b0_10:Int) (b0_11:Int) (b0_12:Int) (b0_13:List Pr2) (b0_14:List Stt) (b0_15:List ByteArray):Option R:=
 bif decide (v7 < nI b0_15.length) then bif v6 then bif decide (0≤v7) then bif decide (v7 < nI b0_15.length) then NX (v3,v4,!ByteArray.toList (b0_15.getD v7.toNat (ByteArray.mk #[]))==v4.toList,IntKind.i64.wrap (v7 + 1),b0_0,b0_1,b0_2,b0_3,b0_4,b0_5,b0_6,b0_7,b0_8,b0_9,b0_10,b0_11,b0_12,b0_13,b0_14,b0_15,()) else none else none else X4 (v3,v4,v6,b0_0,b0_1,b0_2,b0_3,b0_4,b0_5,b0_6,b0_7,b0_8,b0_9,b0_10,b0_11,b0_12,b0_13,b0_14,b0_15,()) else X4 (v3,v4,v6,b0_0,b0_1,b0_2,b0_3,b0_4,b0_5,b0_6,b0_7,b0_8,b0_9,b0_10,b0_11,b0_12,b0_13,b0_14,b0_15,())
noncomputable def Cg:Nat→(Int)→(ByteArray)→(Bool)→(Int)→(Int)→(List ByteArray)→(List Wr)→(Bool)→(Int)→(Int)→(Int)→(Int)→(Int)→(Int)→(Int)→(Int)→(Int)→(List Pr2)→(List Stt)→(List ByteArray) →  Option ((Int)×(ByteArray)×(Bool)×(Int)×(List ByteArray)×(List Wr)×(Bool)×(Int)×(Int)×(Int)×(Int)×(Int)×(Int)×(Int)×(Int)×(Int)×(List Pr2)×(List Stt)×(List ByteArray)×Unit)
 | 0,_,_,_,_,_,_,_,_,_,_,_,_,_,_,_,_,_,_,_,_=>none
 | m + 1,v3,v4,v6,v7,b0_0,b0_1,b0_2,b0_3,b0_4,b0_5,b0_6,b0_7,b0_8,b0_9,b0_10,b0_11,b0_12,b0_13,b0_14,b0_15=>Ge  (fun d=>Cg m d.1 d.2.1 d.2.2.1 d.2.2.2.1 d.2.2.2.2.1 d.2.2.2.2.2.1 d.2.2.2.2.2.2.1 d.2.2.2.2.2.2.2.1 d.2.2.2.2.2.2.2.2.1 d.2.2.2.2.2.2.2.2.2.1 d.2.2.2.2.2.2.2.2.2.2.1 d.2.2.2.2.2.2.2.2.2.2.2.1 d.2.2.2.2.2.2.2.2.2.2.2.2.1 d.2.2.2.2.2.2.2.2.2.2.2.2.2.1 d.2.2.2.2.2.2.2.2.2.2.2.2.2.2.1 d.2.2.2.2.2.2.2.2.2.2.2.2.2.2.2.1 d.2.2.2.2.2.2.2.2.2.2.2.2.2.2.2.2.1 d.2.2.2.2.2.2.2.2.2.2.2.2.2.2.2.2.2.1 d.2.2.2.2.2.2.2.2.2.2.2.2.2.2.2.2.2.2.1 d.2.2.2.2.2.2.2.2.2.2.2.2.2.2.2.2.2.2.2.1) (fun d=>some (d)) v3 v4 v6 v7 b0_0 b0_1 b0_2 b0_3 b0_4 b0_5 b0_6 b0_7 b0_8 b0_9 b0_10 b0_11 b0_12 b0_13 b0_14 b0_15
noncomputable def Im (d:(Int)×(ByteArray)×(Bool)×(Int)×(Int)×(List ByteArray)×(List Wr)×(Bool)×(Int)×(Int)×(Int)×(Int)×(Int)×(Int)×(Int)×(Int)×(Int)×(List Pr2)×(List Stt)×(List ByteArray)×Unit):Option ((Int)×(ByteArray)×(Bool)×(Int)×(List ByteArray)×(List Wr)×(Bool)×(Int)×(Int)×(Int)×(Int)×(Int)×(Int)×(Int)×(Int)×(Int)×(List Pr2)×(List Stt)×(List ByteArray)×Unit):=Cg (Il d.1 d.2.1 d.2.2.1 d.2.2.2.1 d.2.2.2.2.1 d.2.2.2.2.2.1 d.2.2.2.2.2.2.1 d.2.2.2.2.2.2.2.1 d.2.2.2.2.2.2.2.2.1 d.2.2.2.2.2.2.2.2.2.1 d.2.2.2.2.2.2.2.2.2.2.1 d.2.2.2.2.2.2.2.2.2.2.2.1 d.2.2.2.2.2.2.2.2.2.2.2.2.1 d.2.2.2.2.2.2.2.2.2.2.2.2.2.1 d.2.2.2.2.2.2.2.2.2.2.2.2.2.2.1 d.2.2.2.2.2.2.2.2.2.2.2.2.2.2.2.1 d.2.2.2.2.2.2.2.2.2.2.2.2.2.2.2.2.1 d.2.2.2.2.2.2.2.2.2.2.2.2.2.2.2.2.2.1 d.2.2.2.2.2.2.2.2.2.2.2.2.2.2.2.2.2.2.1 d.2.2.2.2.2.2.2.2.2.2.2.2.2.2.2.2.2.2.2.1) d.1 d.2.1 d.2.2.1 d.2.2.2.1 d.2.2.2.2.1 d.2.2.2.2.2.1 d.2.2.2.2.2.2.1 d.2.2.2.2.2.2.2.1 d.2.2.2.2.2.2.2.2.1 d.2.2.2.2.2.2.2.2.2.1 d.2.2.2.2.2.2.2.2.2.2.1 d.2.2.2.2.2.2.2.2.2.2.2.1 d.2.2.2.2.2.2.2.2.2.2.2.2.1 d.2.2.2.2.2.2.2.2.2.2.2.2.2.1 d.2.2.2.2.2.2.2.2.2.2.2.2.2.2.1 d.2.2.2.2.2.2.2.2.2.2.2.2.2.2.2.1 d.2.2.2.2.2.2.2.2.2.2.2.2.2.2.2.2.1 d.2.2.2.2.2.2.2.2.2.2.2.2.2.2.2.2.2.1 d.2.2.2.2.2.2.2.2.2.2.2.2.2.2.2.2.2.2.1 d.2.2.2.2.2.2.2.2.2.2.2.2.2.2.2.2.2.2.2.1
def G6 (v3:Int) (b0_0:Int) (b0_1:List ByteArray) (b0_2:List Wr) (b0_3:Bool) (b0_4:Int) (b0_5:Int) (b0_6:Int) (b0_7:Int) (b0_8:Int) (b0_9:Int) (b0_10:Int) (b0_11:Int) (b0_12:Int) (b0_13:List Pr2) (b0_14:List Stt) (b0_15:List ByteArray):Nat:=((b0_1.length:Int) - v3).toNat + 1
noncomputable def Jp {R:Type} (LO10:((Int)×(ByteArray)×(Bool)×(Int)×(Int)×(List ByteArray)×(List Wr)×(Bool)×(Int)×(Int)×(Int)×(Int)×(Int)×(Int)×(Int)×(Int)×(Int)×(List Pr2)×(List Stt)×(List ByteArray)×Unit)→Option ((Int)×(ByteArray)×(Bool)×(Int)×(List ByteArray)×(List Wr)×(Bool)×(Int)×(Int)×(Int)×(Int)×(Int)×(Int)×(Int)×(Int)×(Int)×(List Pr2)×(List Stt)×(List ByteArray)×Unit)) (NX:((Int)×(Int)×(List ByteArray)×(List Wr)×(Bool)×(Int)×(Int)×(Int)×(Int)×(Int)×(Int)×(Int)×(Int)×(Int)×(List Pr2)×(List Stt)×(List ByteArray)×Unit)→Option R) (X2:(Unit)→Option R) (X1:((ByteArray)×Unit)→Option R) (v3:Int) (b0_0:Int) (b0_1:List ByteArray) (b0_2:List Wr) (b0_3:Bool) (b0_4:Int) (b0_5:Int) (b0_6:Int) (b0_7:Int) (b0_8:Int) (b0_9:Int) (b0_10:Int) (b0_11:Int) (b0_12:Int) (b0_13:List Pr2) (b0_14:List Stt) (b0_15:List ByteArray):Option R:=
 bif decide (v3 < nI b0_1.length) then bif decide (0≤v3) then bif decide (v3 < nI b0_1.length) then (LO10 (v3,b0_1.getD v3.toNat (ByteArray.mk #[]),(Af (b0_1.getD v3.toNat (ByteArray.mk #[])) b0_0).2,0,b0_0,b0_1,b0_2,b0_3,b0_4,b0_5,b0_6,b0_7,b0_8,b0_9,b0_10,b0_11,b0_12,b0_13,b0_14,b0_15,())).bind fun val=>bif val.2.2.1 then X1 (val.2.1,()) else NX (IntKind.i64.wrap (val.1 + 1),val.2.2.2) else none else none else X2 PUnit.unit
noncomputable def C4:Nat→(Int)→(Int)→(List ByteArray)→(List Wr)→(Bool)→(Int)→(Int)→(Int)→(Int)→(Int)→(Int)→(Int)→(Int)→(Int)→(List Pr2)→(List Stt)→(List ByteArray) →  Option ((Unit) ⊕ ((ByteArray)×Unit))
 | 0,_,_,_,_,_,_,_,_,_,_,_,_,_,_,_,_,_=>none
 | m + 1,v3,b0_0,b0_1,b0_2,b0_3,b0_4,b0_5,b0_6,b0_7,b0_8,b0_9,b0_10,b0_11,b0_12,b0_13,b0_14,b0_15=>Jp Im (fun d=>C4 m d.1 d.2.1 d.2.2.1 d.2.2.2.1 d.2.2.2.2.1 d.2.2.2.2.2.1 d.2.2.2.2.2.2.1 d.2.2.2.2.2.2.2.1 d.2.2.2.2.2.2.2.2.1 d.2.2.2.2.2.2.2.2.2.1 d.2.2.2.2.2.2.2.2.2.2.1 d.2.2.2.2.2.2.2.2.2.2.2.1 d.2.2.2.2.2.2.2.2.2.2.2.2.1 d.2.2.2.2.2.2.2.2.2.2.2.2.2.1 d.2.2.2.2.2.2.2.2.2.2.2.2.2.2.1 d.2.2.2.2.2.2.2.2.2.2.2.2.2.2.2.1 d.2.2.2.2.2.2.2.2.2.2.2.2.2.2.2.2.1) (fun d=>some (.inl (d))) (fun d=>some (.inr (d))) v3 b0_0 b0_1 b0_2 b0_3 b0_4 b0_5 b0_6 b0_7 b0_8 b0_9 b0_10 b0_11 b0_12 b0_13 b0_14 b0_15
noncomputable def S7 (a0:Wld):Option ((((ByteArray)×Unit)×(Unit))):=
 bif !Gd a0 then some ((ByteArray.mk #[],()),()) else ((fun d=>C4 (G6 d.1 d.2.1 d.2.2.1 d.2.2.2.1 d.2.2.2.2.1 d.2.2.2.2.2.1 d.2.2.2.2.2.2.1 d.2.2.2.2.2.2.2.1 d.2.2.2.2.2.2.2.2.1 d.2.2.2.2.2.2.2.2.2.1 d.2.2.2.2.2.2.2.2.2.2.1 d.2.2.2.2.2.2.2.2.2.2.2.1 d.2.2.2.2.2.2.2.2.2.2.2.2.1 d.2.2.2.2.2.2.2.2.2.2.2.2.2.1 d.2.2.2.2.2.2.2.2.2.2.2.2.2.2.1 d.2.2.2.2.2.2.2.2.2.2.2.2.2.2.2.1 d.2.2.2.2.2.2.2.2.2.2.2.2.2.2.2.2.1) d.1 d.2.1 d.2.2.1 d.2.2.2.1 d.2.2.2.2.1 d.2.2.2.2.2.1 d.2.2.2.2.2.2.1 d.2.2.2.2.2.2.2.1 d.2.2.2.2.2.2.2.2.1 d.2.2.2.2.2.2.2.2.2.1 d.2.2.2.2.2.2.2.2.2.2.1 d.2.2.2.2.2.2.2.2.2.2.2.1 d.2.2.2.2.2.2.2.2.2.2.2.2.1 d.2.2.2.2.2.2.2.2.2.2.2.2.2.1 d.2.2.2.2.2.2.2.2.2.2.2.2.2.2.1 d.2.2.2.2.2.2.2.2.2.2.2.2.2.2.2.1 d.2.2.2.2.2.2.2.2.2.2.2.2.2.2.2.2.1) (0,a0.1,a0.2.1.1,a0.2.1.2.1,a0.2.2.1,a0.2.2.2.1.1,a0.2.2.2.1.2.1,a0.2.2.2.1.2.2.1,a0.2.2.2.1.2.2.2.1.1,a0.2.2.2.1.2.2.2.1.2.1,a0.2.2.2.1.2.2.2.1.2.2.1,a0.2.2.2.1.2.2.2.1.2.2.2.1,a0.2.2.2.1.2.2.2.2.1,a0.2.2.2.1.2.2.2.2.2.1,a0.2.2.2.1.2.2.2.2.2.2.1.1,a0.2.2.2.2)).bind fun val=>Cj (fun d=>some ((ByteArray.mk #[],()),())) (fun d=>some (d,())) val
theorem Aor (b0 b4 b5 b6 b7 b8 b9 b10 b11 b12:Int) (b1:List ByteArray) (b2:List Wr) (b3:Bool) (b13:List Pr2) (b14:List Stt) (b15:List ByteArray) (v3:Int) (x:ByteArray) (ok:Bool) (hW:b15.length≤2000):
  Cg (Il v3 x ok 0 b0 b1 b2 b3 b4 b5 b6 b7 b8 b9 b10 b11 b12 b13 b14 b15) v3 x ok 0 b0 b1 b2 b3 b4 b5 b6 b7 b8 b9 b10 b11 b12 b13 b14 b15=some (v3,x,ok&&!inL b15 x,b0,b1,b2,b3,b4,b5,b6,b7,b8,b9,b10,b11,b12,b13,b14,b15,()):=by
 have hL:=Ap5 (xs:=b15) z0 (fun y=>!Ki y x) (g:=fun m ok i=>Cg m v3 x ok i b0 b1 b2 b3 b4 b5 b6 b7 b8 b9 b10 b11 b12 b13 b14 b15) (ok:=fun ok=>(v3,x,ok,b0,b1,b2,b3,b4,b5,b6,b7,b8,b9,b10,b11,b12,b13,b14,b15,())) (fun m i hi=>by
   show Cg (m + 1) v3 x true i b0 b1 b2 b3 b4 b5 b6 b7 b8 b9 b10 b11 b12 b13 b14 b15=_
   simp only [Cg,Ge]
   rw [W1 hi,H2,wI (show i < 4611686018427387904 by omega),Int.toNat_natCast]
   rfl) (fun m i hi=>by
   show Cg (m + 1) v3 x false i b0 b1 b2 b3 b4 b5 b6 b7 b8 b9 b10 b11 b12 b13 b14 b15=_
   simp only [Cg,Ge]
   cases decide ((i:Int) < nI b15.length)<;>rfl) (fun m ok=>by
   show Cg (m + 1) v3 x ok (b15.length:Int) b0 b1 b2 b3 b4 b5 b6 b7 b8 b9 b10 b11 b12 b13 b14 b15=_
   simp only [Cg,Ge]
   rw [Mm]
   rfl) (Il v3 x ok 0 b0 b1 b2 b3 b4 b5 b6 b7 b8 b9 b10 b11 b12 b13 b14 b15) 0 ok (by omega) (by simp [Il,nI])
 rw [List.drop_zero,Axy] at hL
 exact hL
theorem Asj (b0 b4 b5 b6 b7 b8 b9 b10 b11 b12:Int) (b1:List ByteArray) (b2:List Wr) (b3:Bool) (b13:List Pr2) (b14:List Stt) (b15:List ByteArray) (hb:b1.length≤200) (hW:b15.length≤2000):
  C4 (G6 0 b0 b1 b2 b3 b4 b5 b6 b7 b8 b9 b10 b11 b12 b13 b14 b15) 0 b0 b1 b2 b3 b4 b5 b6 b7 b8 b9 b10 b11 b12 b13 b14 b15=some (H1 (fun x=>(Bw x b0).2&&!inL b15 x) (fun x=>.inr (x,())) (.inl ()) b1):=by
 have hL:=Afg (xs:=b1) z0 (fun x=>(Bw x b0).2&&!inL b15 x) (fun x=>.inr (x,())) (g:=fun m i=>C4 m i b0 b1 b2 b3 b4 b5 b6 b7 b8 b9 b10 b11 b12 b13 b14 b15) (ok:=.inl ()) (fun m i hi=>by
   show C4 (m + 1) i b0 b1 b2 b3 b4 b5 b6 b7 b8 b9 b10 b11 b12 b13 b14 b15=_
   simp only [C4,Jp,Im]
   rw [W1 hi,H2,Int.toNat_natCast]
   simp only [cond_true]
   refine (congrArg (fun y=>Option.bind y _) (Aor b0 b4 b5 b6 b7 b8 b9 b10 b11 b12 b1 b2 b3 b13 b14 b15 (i:Int) (List.getD b1 i z0) (Bw (List.getD b1 i z0) b0).2 hW)).trans ?_
   simp only [Option.bind_some]
   rw [wI (show i < 4611686018427387904 by omega)]) (fun m=>by
   show C4 (m + 1) (b1.length:Int) b0 b1 b2 b3 b4 b5 b6 b7 b8 b9 b10 b11 b12 b13 b14 b15=_
   simp only [C4,Jp,Im]
   rw [Mm]
   rfl) (G6 0 b0 b1 b2 b3 b4 b5 b6 b7 b8 b9 b10 b11 b12 b13 b14 b15) 0 (by omega) (by simp [G6,nI])
 rw [List.drop_zero] at hL
 exact hL
theorem Anh (a0:Wld):S7 a0=some (((L6 a0),()),(())):=by
 unfold S7 L6 Pi
 show (bif !Dg a0 then _ else _)=_
 cases hv:Dg a0 with
 | false=>rfl
 | true=>
  obtain ⟨h1,h2,_⟩:=Aro hv
  simp only [Bool.not_true,cond_false,cond_true]
  refine W5 (Asj a0.1 a0.2.2.2.1.1 a0.2.2.2.1.2.1 a0.2.2.2.1.2.2.1 a0.2.2.2.1.2.2.2.1.1 a0.2.2.2.1.2.2.2.1.2.1 a0.2.2.2.1.2.2.2.1.2.2.1 a0.2.2.2.1.2.2.2.1.2.2.2.1 a0.2.2.2.1.2.2.2.2.1 a0.2.2.2.1.2.2.2.2.2.1 a0.2.1.1 a0.2.1.2.1 a0.2.2.1 a0.2.2.2.1.2.2.2.2.2.2.1.1 a0.2.2.2.2.1 a0.2.2.2.2.2.1 (Jv h1).n200 h2) ?_
  rw [Rm (Cj _ _),Rm (fun r:ByteArray=>some ((r,()),()))]
  rfl
noncomputable def Wc {R:Type} (k:Kt R):=(Cj (I1 (pa_spec_Forged 5) (.exit 0) 2 k) (I1 (pa_spec_Forged 5) .ret 1 k))
noncomputable def Uj {R:Type} (k:Kt R):=(I1 (pa_spec_Forged 10) (.exit 2) 4 k)
noncomputable def Uz {R:Type}:Lt R pa_spec_Forged:=(Ed (pat:=pa_spec_Forged) 5 (fun d k=>(C4 (G6 d.1 d.2.1 d.2.2.1 d.2.2.2.1 d.2.2.2.2.1 d.2.2.2.2.2.1 d.2.2.2.2.2.2.1 d.2.2.2.2.2.2.2.1 d.2.2.2.2.2.2.2.2.1 d.2.2.2.2.2.2.2.2.2.1 d.2.2.2.2.2.2.2.2.2.2.1 d.2.2.2.2.2.2.2.2.2.2.2.1 d.2.2.2.2.2.2.2.2.2.2.2.2.1 d.2.2.2.2.2.2.2.2.2.2.2.2.2.1 d.2.2.2.2.2.2.2.2.2.2.2.2.2.2.1 d.2.2.2.2.2.2.2.2.2.2.2.2.2.2.2.1 d.2.2.2.2.2.2.2.2.2.2.2.2.2.2.2.2.1) d.1 d.2.1 d.2.2.1 d.2.2.2.1 d.2.2.2.2.1 d.2.2.2.2.2.1 d.2.2.2.2.2.2.1 d.2.2.2.2.2.2.2.1 d.2.2.2.2.2.2.2.2.1 d.2.2.2.2.2.2.2.2.2.1 d.2.2.2.2.2.2.2.2.2.2.1 d.2.2.2.2.2.2.2.2.2.2.2.1 d.2.2.2.2.2.2.2.2.2.2.2.2.1 d.2.2.2.2.2.2.2.2.2.2.2.2.2.1 d.2.2.2.2.2.2.2.2.2.2.2.2.2.2.1 d.2.2.2.2.2.2.2.2.2.2.2.2.2.2.2.1 d.2.2.2.2.2.2.2.2.2.2.2.2.2.2.2.2.1).bind (Wc k)) (Ed (pat:=pa_spec_Forged) 10 (fun d k=>(Im d).bind (Uj k)) Hu))
theorem S8:A2 Tryz.prog ta_spec_Forged:=A7 ⟨S6,Jf,trivial⟩
theorem Aer {R:Type}:A3 Tryz.prog R 51 0 pa_spec_Forged Uz co_spec_Forged_10:=
 B3 (cfg:=⟨ta_spec_Forged,0,51,pa_spec_Forged⟩) 10 [] (fun NX X (d:(Int)×(ByteArray)×(Bool)×(Int)×(Int)×(List ByteArray)×(List Wr)×(Bool)×(Int)×(Int)×(Int)×(Int)×(Int)×(Int)×(Int)×(Int)×(Int)×(List Pr2)×(List Stt)×(List ByteArray)×Unit)=>Ge  NX X d.1 d.2.1 d.2.2.1 d.2.2.2.1 d.2.2.2.2.1 d.2.2.2.2.2.1 d.2.2.2.2.2.2.1 d.2.2.2.2.2.2.2.1 d.2.2.2.2.2.2.2.2.1 d.2.2.2.2.2.2.2.2.2.1 d.2.2.2.2.2.2.2.2.2.2.1 d.2.2.2.2.2.2.2.2.2.2.2.1 d.2.2.2.2.2.2.2.2.2.2.2.2.1 d.2.2.2.2.2.2.2.2.2.2.2.2.2.1 d.2.2.2.2.2.2.2.2.2.2.2.2.2.2.1 d.2.2.2.2.2.2.2.2.2.2.2.2.2.2.2.1 d.2.2.2.2.2.2.2.2.2.2.2.2.2.2.2.2.1 d.2.2.2.2.2.2.2.2.2.2.2.2.2.2.2.2.2.1 d.2.2.2.2.2.2.2.2.2.2.2.2.2.2.2.2.2.2.1 d.2.2.2.2.2.2.2.2.2.2.2.2.2.2.2.2.2.2.2.1) (fun m d=>Cg m d.1 d.2.1 d.2.2.1 d.2.2.2.1 d.2.2.2.2.1 d.2.2.2.2.2.1 d.2.2.2.2.2.2.1 d.2.2.2.2.2.2.2.1 d.2.2.2.2.2.2.2.2.1 d.2.2.2.2.2.2.2.2.2.1 d.2.2.2.2.2.2.2.2.2.2.1 d.2.2.2.2.2.2.2.2.2.2.2.1 d.2.2.2.2.2.2.2.2.2.2.2.2.1 d.2.2.2.2.2.2.2.2.2.2.2.2.2.1 d.2.2.2.2.2.2.2.2.2.2.2.2.2.2.1 d.2.2.2.2.2.2.2.2.2.2.2.2.2.2.2.1 d.2.2.2.2.2.2.2.2.2.2.2.2.2.2.2.2.1 d.2.2.2.2.2.2.2.2.2.2.2.2.2.2.2.2.2.1 d.2.2.2.2.2.2.2.2.2.2.2.2.2.2.2.2.2.2.1 d.2.2.2.2.2.2.2.2.2.2.2.2.2.2.2.2.2.2.2.1) (fun d=>Il d.1 d.2.1 d.2.2.1 d.2.2.2.1 d.2.2.2.2.1 d.2.2.2.2.2.1 d.2.2.2.2.2.2.1 d.2.2.2.2.2.2.2.1 d.2.2.2.2.2.2.2.2.1 d.2.2.2.2.2.2.2.2.2.1 d.2.2.2.2.2.2.2.2.2.2.1 d.2.2.2.2.2.2.2.2.2.2.2.1 d.2.2.2.2.2.2.2.2.2.2.2.2.1 d.2.2.2.2.2.2.2.2.2.2.2.2.2.1 d.2.2.2.2.2.2.2.2.2.2.2.2.2.2.1 d.2.2.2.2.2.2.2.2.2.2.2.2.2.2.2.1 d.2.2.2.2.2.2.2.2.2.2.2.2.2.2.2.2.1 d.2.2.2.2.2.2.2.2.2.2.2.2.2.2.2.2.2.1 d.2.2.2.2.2.2.2.2.2.2.2.2.2.2.2.2.2.2.1 d.2.2.2.2.2.2.2.2.2.2.2.2.2.2.2.2.2.2.2.1) Uj S8 trivial (fun f NX (d:(Int)×(ByteArray)×(Bool)×(Int)×(Int)×(List ByteArray)×(List Wr)×(Bool)×(Int)×(Int)×(Int)×(Int)×(Int)×(Int)×(Int)×(Int)×(Int)×(List Pr2)×(List Stt)×(List ByteArray)×Unit)=>by unfold Ge; simp only [Al,Ar,Ak,Option.bind_assoc,Option.bind_none,Option.bind_some]) (fun _ _ _=>by kernel_rfl)
theorem Agv {R:Type}:A3 Tryz.prog R 51 0 pa_spec_Forged Uz co_spec_Forged_5:=
 B3 (cfg:=⟨ta_spec_Forged,0,51,pa_spec_Forged⟩) 5 [co_spec_Forged_10] (fun NX X (d:(Int)×(Int)×(List ByteArray)×(List Wr)×(Bool)×(Int)×(Int)×(Int)×(Int)×(Int)×(Int)×(Int)×(Int)×(Int)×(List Pr2)×(List Stt)×(List ByteArray)×Unit)=>Jp Im NX (fun e=>X (.inl (e))) (fun e=>X (.inr (e))) d.1 d.2.1 d.2.2.1 d.2.2.2.1 d.2.2.2.2.1 d.2.2.2.2.2.1 d.2.2.2.2.2.2.1 d.2.2.2.2.2.2.2.1 d.2.2.2.2.2.2.2.2.1 d.2.2.2.2.2.2.2.2.2.1 d.2.2.2.2.2.2.2.2.2.2.1 d.2.2.2.2.2.2.2.2.2.2.2.1 d.2.2.2.2.2.2.2.2.2.2.2.2.1 d.2.2.2.2.2.2.2.2.2.2.2.2.2.1 d.2.2.2.2.2.2.2.2.2.2.2.2.2.2.1 d.2.2.2.2.2.2.2.2.2.2.2.2.2.2.2.1 d.2.2.2.2.2.2.2.2.2.2.2.2.2.2.2.2.1) (fun m d=>C4 m d.1 d.2.1 d.2.2.1 d.2.2.2.1 d.2.2.2.2.1 d.2.2.2.2.2.1 d.2.2.2.2.2.2.1 d.2.2.2.2.2.2.2.1 d.2.2.2.2.2.2.2.2.1 d.2.2.2.2.2.2.2.2.2.1 d.2.2.2.2.2.2.2.2.2.2.1 d.2.2.2.2.2.2.2.2.2.2.2.1 d.2.2.2.2.2.2.2.2.2.2.2.2.1 d.2.2.2.2.2.2.2.2.2.2.2.2.2.1 d.2.2.2.2.2.2.2.2.2.2.2.2.2.2.1 d.2.2.2.2.2.2.2.2.2.2.2.2.2.2.2.1 d.2.2.2.2.2.2.2.2.2.2.2.2.2.2.2.2.1) (fun d=>G6 d.1 d.2.1 d.2.2.1 d.2.2.2.1 d.2.2.2.2.1 d.2.2.2.2.2.1 d.2.2.2.2.2.2.1 d.2.2.2.2.2.2.2.1 d.2.2.2.2.2.2.2.2.1 d.2.2.2.2.2.2.2.2.2.1 d.2.2.2.2.2.2.2.2.2.2.1 d.2.2.2.2.2.2.2.2.2.2.2.1 d.2.2.2.2.2.2.2.2.2.2.2.2.1 d.2.2.2.2.2.2.2.2.2.2.2.2.2.1 d.2.2.2.2.2.2.2.2.2.2.2.2.2.2.1 d.2.2.2.2.2.2.2.2.2.2.2.2.2.2.2.1 d.2.2.2.2.2.2.2.2.2.2.2.2.2.2.2.2.1) Wc S8 ⟨Aer,trivial⟩ (fun f NX (d:(Int)×(Int)×(List ByteArray)×(List Wr)×(Bool)×(Int)×(Int)×(Int)×(Int)×(Int)×(Int)×(Int)×(Int)×(Int)×(List Pr2)×(List Stt)×(List ByteArray)×Unit)=>by unfold Jp; simp only [Al,Ar,Ak,Option.bind_assoc,Option.bind_none,Option.bind_some]) (fun _ _ _=>by kernel_rfl)
theorem Ani:B2 Tryz.prog 14 sd_spec_Forged:=
 A6 (pat:=pa_spec_Forged) [co_spec_Forged_5] Uz S8 ⟨Agv,trivial⟩ Tryz.func14 (de:=fun x=>S7 x.1) (fun x r h=>(Anh x.1).trans h) fun _=>by kernel_rfl
def I0 (_:ByteArray) (v6:Int) (_:Wld):Nat:=(v6 + 1).toNat + 1
def Agw:Sig:=⟨[.rd (.sl (.int .u8))],[none],[.rd .bool],[none]⟩
noncomputable def ta_laws_FnForged:Tb:=tb [(12,sd_spec_DrawForged),(13,sd_impl_Forged),(14,sd_spec_Forged),(15,sd_spec_ValidWorld),(16,sd_spec_ReadPage)]
def pa_laws_FnForged:Nat→Pat×(Nat→Pat):=Gf [(13,⟨[.boxSl 3 1 .str,.boxSl 3 2 Da,.boxSl 3 13 Av,.boxSl 3 14 Ci,.boxSl 3 15 .str],[(3,.lf (.ptr 0 0)),(5,.lf (.d .str)),(6,.lf (.d tI))],[.box 36 [.d Fr]]⟩,[(2,⟨[.boxSl 3 1 .str,.boxSl 3 2 Da,.boxSl 3 13 Av,.boxSl 3 14 Ci,.boxSl 3 15 .str],[(3,.lf (.ptr 0 0)),(5,.lf (.d .str))],[.box 36 [.d Fr]]⟩)])]
noncomputable def co_laws_FnForged_13:Code:=(As (Ba Tryz.f3)).getD 0 .skip
noncomputable def Gv {R:Type}  (NX:((ByteArray)×(Int)×Wld×Unit)→Option R) (X2:((ByteArray)×Wld×Unit)→Option R) (v5:ByteArray) (v6:Int) (b0:Wld):Option R:=
 bif decide (v6≥0) then bif decide (0≤v6) then bif decide (v6 < nI (List.length b0.2.1.1)) then bif (Af (List.getD b0.2.1.1 v6.toNat (ByteArray.mk #[])) b0.1).2 then bif decide (0≤v6) then bif decide (v6 < nI (List.length b0.2.1.1)) then NX (List.getD b0.2.1.1 v6.toNat (ByteArray.mk #[]),IntKind.i64.wrap (v6 - 1),b0,()) else none else none else NX (v5,IntKind.i64.wrap (v6 - 1),b0,()) else none else none else X2 (v5,b0,())
noncomputable def D1:Nat→(ByteArray)→(Int)→Wld →  Option ((ByteArray)×Wld×Unit)
 | 0,_,_,_=>none
 | m + 1,v5,v6,b0=>Gv  (fun d=>D1 m d.1 d.2.1 d.2.2.1) (fun d=>some (d)) v5 v6 b0
noncomputable def Lm (a0:List Int):Option ((((Bool)×Unit)×(Unit))):=
 bif decide (nI a0.length > 1048576) then some ((true,()),()) else (m_spec_DrawForged a0).bind fun val=>bif !(Iu val.1.1).toList==(L6 val.1.1).toList then some ((false,()),()) else bif !Gd val.1.1 then some (((Iu val.1.1).toList==(ByteArray.mk #[]).toList,()),()) else ((fun d=>D1 (I0 d.1 d.2.1 d.2.2.1) d.1 d.2.1 d.2.2.1) (ByteArray.mk #[],IntKind.i64.wrap (nI (List.length val.1.1.2.1.1) - 1),(val.1.1.1,val.1.1.2.1,val.1.1.2.2.1,val.1.1.2.2.2.1,val.1.1.2.2.2.2.1,[],()),())).bind fun val=>some (((Iu val.2.1).toList==ByteArray.toList val.1,()),())
noncomputable def sd_laws_FnForged:SD:=⟨Agw,fun x=>Lm x.1⟩
theorem Ayl (p:ByteArray→Bool) (f y:ByteArray):∀ l:List ByteArray,H1 p (fun x=>x) f (l++[y])=H1 p (fun x=>x) (bif p y then y else f) l
 | []=>by simp only [List.nil_append,H1]
 | x::l=>by simp only [List.cons_append,H1]; rw [Ayl p f y l]
theorem A3x (b0:Wld) (hl:b0.2.1.1.length≤1000000):∀ (k m:Nat) (f:ByteArray),k≤b0.2.1.1.length→k < m→
  Ai (D1 m f ((k:Int) - 1) b0) fun q=>q=(H1 (fun x=>(Bw x b0.1).2) (fun x=>x) f (b0.2.1.1.take k),b0,()):=by
 intro k
 induction k with
 | zero=>
  intro m f _ hm
  cases m with
  | zero=>omega
  | succ m=>
   simp only [D1,Gv]
   exact Ai.no (decide_eq_false (by omega)) (Ai.some rfl)
 | succ k ih=>
  intro m f hk hm
  cases m with
  | zero=>omega
  | succ m=>
   have e1:((k + 1:Nat):Int) - 1=(k:Int):=by omega
   have e2:IntKind.i64.wrap ((k:Int) - 1)=(k:Int) - 1:=Ag (by omega) (by omega)
   simp only [D1,Gv,e1,e2]
   have hg:Int.toNat (k:Int)=k:=Int.toNat_natCast k
   have hs:=Ayl (fun x=>(Bw x b0.1).2) f (b0.2.1.1.getD k z0) (b0.2.1.1.take k)
   rw [← Aui (by omega)] at hs
   refine Ai.go (decide_eq_true (by omega)) (Ai.go (decide_eq_true (by omega)) (Ai.go (decide_eq_true (by simp only [nI]; omega)) ?_))
   rw [hg]
   show Ai (bif (Bw (b0.2.1.1.getD k z0) b0.1).2 then _ else _) _
   refine Ai.cond (fun c=>Ai.go (decide_eq_true (by omega)) (Ai.go (decide_eq_true (by simp only [nI]; omega)) ?_)) fun c=>?_
   ·rw [c,cond_true] at hs
    rw [hs]
    exact ih m (b0.2.1.1.getD k z0) (by omega) (by omega)
   ·rw [c,cond_false] at hs
    rw [hs]
    exact ih m f (by omega) (by omega)
theorem A3y (x:ByteArray):inL [] x=false:=rfl
theorem Au1 {w:Wld} (h:Dg w=true):Pi (w.1,w.2.1,w.2.2.1,w.2.2.2.1,w.2.2.2.2.1,[],())=H1 (fun x=>(Bw x w.1).2) (fun x=>x) z0 w.2.1.1:=by
 have hv:Dg (w.1,w.2.1,w.2.2.1,w.2.2.2.1,w.2.2.2.2.1,[],())=true:=by
  unfold Dg at h ⊢
  obtain ⟨h1,h⟩:=B7 h
  obtain ⟨h2,h⟩:=B7 h
  obtain ⟨h3,h⟩:=B7 h
  obtain ⟨h4,h⟩:=B7 h
  obtain ⟨h5,h⟩:=B7 h
  obtain ⟨h6,h7⟩:=B7 h
  have h1:Ch (w.1,w.2.1,w.2.2.1,w.2.2.2.1,w.2.2.2.2.1,([]:List ByteArray),()).1 1 8=true:=h1
  have h2:A0 (w.1,w.2.1,w.2.2.1,w.2.2.2.1,w.2.2.2.2.1,([]:List ByteArray),()).2.1=true:=h2
  have h3:Ch (w.1,w.2.1,w.2.2.1,w.2.2.2.1,w.2.2.2.2.1,([]:List ByteArray),()).2.2.2.2.1.length 1 200=true:=h3
  have h5:Q8 (w.1,w.2.1,w.2.2.1,w.2.2.2.1,w.2.2.2.2.1,[],())=true:=h5
  have h6:P5 (w.1,w.2.1,w.2.2.1,w.2.2.2.1,w.2.2.2.2.1,[],())=true:=h6
  rw [h1,h2,h3,h5,h6]
  rfl
 unfold Pi
 rw [hv]
 show H1 (fun x=>(Bw x w.1).2&&!inL [] x) (fun x=>x) z0 w.2.1.1=_
 congr 1
 funext x
 rw [A3y,Bool.not_false,Bool.and_true]
theorem Asl (a0:List Int) (h0:o9 (.sl (.int .u8)) a0):Lm a0=some ((true,()),()):=by
 apply Ai.law
 unfold Lm
 refine Ai.cond (fun _=>Ai.some rfl) fun _=>?_
 refine Ai.bind (Aok a0 h0) fun q _=>?_
 obtain ⟨⟨w,⟨⟩⟩,⟨⟩⟩:=q
 dsimp only
 have e1:Iu w=Pi w:=rfl
 have e2:L6 w=Pi w:=rfl
 have e3:Gd w=Dg w:=rfl
 rw [e1,e2,e3]
 refine Ai.no (by simp) (Ai.cond (fun c=>Ai.some ?_) fun c=>?_)
 ·have c:Dg w=false:=by simpa using c
  unfold Pi
  rw [c]
  exact beq_self_eq_true (z0.toList)
 ·have c:Dg w=true:=by simpa using c
  have hd:=Jv (Aro c).1
  have hn:w.2.1.1.length≤200:=hd.n200
  have hL:=A3x (w.1,w.2.1,w.2.2.1,w.2.2.2.1,w.2.2.2.2.1,[],()) (by show w.2.1.1.length≤_; omega) w.2.1.1.length
  rw [show IntKind.i64.wrap (nI w.2.1.1.length - 1)=(w.2.1.1.length:Int) - 1 from Ag (by simp only [nI]; omega) (by simp only [nI]; omega)]
  refine Ai.bind (hL _ z0 (Nat.le_refl _) (by simp only [I0]; omega)) fun q hq=>Ai.some ?_
  rw [hq]
  show ((Pi (w.1,w.2.1,w.2.2.1,w.2.2.2.1,w.2.2.2.2.1,[],())).toList==(H1 (fun x=>(Bw x w.1).2) (fun x=>x) z0 (w.2.1.1.take w.2.1.1.length)).toList)=true
  rw [Au1 c,List.take_length]
  exact beq_self_eq_true _
noncomputable def Qv {R:Type} (k:Kt R):=(I1 (pa_laws_FnForged 13) (.exit 0) 2 k)
noncomputable def Yn {R:Type}:Lt R pa_laws_FnForged:=(Ed (pat:=pa_laws_FnForged) 13 (fun d k=>(D1 (I0 d.1 d.2.1 d.2.2.1) d.1 d.2.1 d.2.2.1).bind (Qv k)) Hu)
theorem Wd:A2 Tryz.prog ta_laws_FnForged:=A7 ⟨Abl,Ane,Ani,S6,Jf,trivial⟩
theorem n7 {R:Type}:A3 Tryz.prog R 59 0 pa_laws_FnForged Yn co_laws_FnForged_13:=
 B3 (cfg:=⟨ta_laws_FnForged,0,59,pa_laws_FnForged⟩) 13 [] (fun NX X d=>Gv  NX X d.1 d.2.1 d.2.2.1) (fun m d=>D1 m d.1 d.2.1 d.2.2.1) (fun d=>I0 d.1 d.2.1 d.2.2.1) Qv Wd trivial (fun f NX d=>by unfold Gv; simp only [Al,Ar,Ak,Option.bind_assoc,Option.bind_none,Option.bind_some]) (fun _ _ _=>by kernel_rfl)
theorem Agx:B2 Tryz.prog 3 sd_laws_FnForged:=
 A6 (pat:=pa_laws_FnForged) [co_laws_FnForged_13] Yn Wd ⟨n7,trivial⟩ Tryz.func3 (de:=fun x=>Lm x.1) (fun x r h=>h) fun _=>by kernel_rfl
end Go.Proofs.YtfkefgbihlfjmaaGreat.V

