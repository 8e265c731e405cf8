/- What the functions that FnForged reaches come to: part 2. No condition. -/
import Derived.Test.YtfkefgbihlfjmaaGreatVFnForgeda
import Derived.KernelRfl
namespace Go.Proofs.YtfkefgbihlfjmaaGreat.V
open Go Go.Proofs.YtfkefgbihlfjmaaGreat.R Go.Proofs
set_option maxRecDepth 100000
set_option linter.unusedVariables false
set_option linter.unusedSimpArgs false
def Asb:Sig:=⟨[.rd Fr,.rd A1h],[some 16,some 4],[.rd Fr],[some 16]⟩
noncomputable def ta_spec_l7Do:Tb:=tb [(152,sd_spec_Perform),(202,sd_spec_l7Power),(203,sd_spec_l7Call)]
def pa_spec_l7Do:Nat→Pat×(Nat→Pat):=Gf [(13,⟨[.row 9 0 9 .str,.boxSl 2 1 .str,.boxSl 2 2 Da,.boxSl 2 13 Av,.boxSl 2 14 Ci,.boxSl 2 15 .str,.boxSl 3 1 D7,.boxSl 3 3 tI,.boxSl 4 1 .str,.boxSl 4 2 Da,.boxSl 4 13 Av,.boxSl 4 14 Ci,.boxSl 4 15 .str,.boxSl 5 10 Av,.boxSl 5 11 Kg],[(2,.lf (.ptr 0 0)),(3,.lf (.ptr 1 0)),(4,.lf (.ptr 2 0)),(5,.lf (.ptr 3 0)),(7,.lf (.d tI)),(8,.lf (.d .bool)),(9,.lf (.row 4)),(10,.lf (.d tI))],[.box 36 [.d Fr],.box 87 [.d A1h],.box 36 [.d Fr],.box 68 [.d A29],.row 9 .str]⟩,[(2,⟨[.row 9 0 9 .str,.boxSl 2 1 .str,.boxSl 2 2 Da,.boxSl 2 13 Av,.boxSl 2 14 Ci,.boxSl 2 15 .str,.boxSl 3 1 D7,.boxSl 3 3 tI,.boxSl 4 1 .str,.boxSl 4 2 Da,.boxSl 4 13 Av,.boxSl 4 14 Ci,.boxSl 4 15 .str,.boxSl 5 10 Av,.boxSl 5 11 Kg],[(2,.lf (.ptr 0 0)),(3,.lf (.ptr 1 0)),(4,.lf (.ptr 2 0)),(5,.lf (.ptr 3 0)),(7,.lf (.d tI)),(8,.lf (.d .bool)),(9,.lf (.row 4))],[.box 36 [.d Fr],.box 87 [.d A1h],.box 36 [.d Fr],.box 68 [.d A29],.row 9 .str]⟩)])]
noncomputable def co_spec_l7Do_13:Code:=(As (Ba Tryz.f131)).getD 0 .skip
def E7 (v7:Int) (v8:Bool) (v10:Int) (b0:Wld) (b1:Evt) (b2:Wld) (b3:Don) (r4:List ByteArray):Nat:=(v7 - v10).toNat + 1
noncomputable def Ka {R:Type}  (NX:((Int)×(Bool)×(Int)×Wld×Evt×Wld×Don×(List ByteArray)×Unit)→Option R) (X2:((Int)×(Bool)×Wld×Evt×Wld×Don×(List ByteArray)×Unit)→Option R) (v7:Int) (v8:Bool) (v10:Int) (b0:Wld) (b1:Evt) (b2:Wld) (b3:Don) (r4:List ByteArray):Option R:=
 bif decide (v10 < v7) then bif decide (0≤v10) then bif decide (v10 < nI (List.length b3.2.2.1)) then bif !(List.getD b3.2.2.1 v10.toNat (false,0,ByteArray.mk #[],())).1 then bif decide (0≤v10) then bif decide (v10 < nI (List.length b3.2.2.1)) then bif decide ((r4.length + [(List.getD b3.2.2.1 v10.toNat (false,0,ByteArray.mk #[],())).2.2.1].length) * 16≤140737488355328) then NX (v7,v8,IntKind.i64.wrap (v10 + 1),b0,b1,b2,b3,r4++[(List.getD b3.2.2.1 v10.toNat (false,0,ByteArray.mk #[],())).2.2.1],()) else none else none else none else NX (v7,v8,IntKind.i64.wrap (v10 + 1),b0,b1,b2,b3,r4,()) else none else none else X2 (v7,v8,b0,b1,b2,b3,r4,())
noncomputable def Dp:Nat→(Int)→(Bool)→(Int)→Wld→Evt→Wld→Don→(List ByteArray) →  Option ((Int)×(Bool)×Wld×Evt×Wld×Don×(List ByteArray)×Unit)
 | 0,_,_,_,_,_,_,_,_=>none
 | m + 1,v7,v8,v10,b0,b1,b2,b3,r4=>Ka  (fun d=>Dp m d.1 d.2.1 d.2.2.1 d.2.2.2.1 d.2.2.2.2.1 d.2.2.2.2.2.1 d.2.2.2.2.2.2.1 d.2.2.2.2.2.2.2.1) (fun d=>some (d)) v7 v8 v10 b0 b1 b2 b3 r4
noncomputable def Q2 (a0:Wld) (a1:Evt):Option (((Wld×Unit)×(Unit))):=
 bif a1.1==5 then (m_spec_l7Power a0 a1.2.2.2.1).bind fun val=>some val else (m_spec_l7Call a0 a1).bind fun val=>bif !val.1.2.1 then some ((a0,()),()) else bif val.1.1.1 != 0 then some ((a0,()),()) else bif decide (a1.2.2.1≥0) then bif decide (a1.2.2.1≤nI (List.length val.1.1.2.2.1)) then bif decide ((0 + List.length a0.2.2.2.2.2.1) * 16≤140737488355328) then ((fun d=>Dp (E7 d.1 d.2.1 d.2.2.1 d.2.2.2.1 d.2.2.2.2.1 d.2.2.2.2.2.1 d.2.2.2.2.2.2.1 d.2.2.2.2.2.2.2.1) d.1 d.2.1 d.2.2.1 d.2.2.2.1 d.2.2.2.2.1 d.2.2.2.2.2.1 d.2.2.2.2.2.2.1 d.2.2.2.2.2.2.2.1) (a1.2.2.1,decide (a1.2.2.1≤nI (List.length val.1.1.2.2.1)),0,a0,a1,(0,([],[],()),false,(0,0,0,(0,0,0,0,()),0,0,([],()),()),[],[],()),val.1.1,[]++a0.2.2.2.2.2.1,())).bind fun val=>bif val.2.2.2.1.1==2 then bif decide ((0 + List.length val.2.2.1.2.2.2.2.1) * 24≤140737488355328) then bif decide ((([]++val.2.2.1.2.2.2.2.1).length + [val.2.2.2.2.2.1.2.1.2.2.2.2.2.2.1].length) * 24≤140737488355328) then bif decide (nI val.2.2.2.2.2.2.1.length > 2000) then some ((val.2.2.1,()),()) else bif decide (nI ([]++val.2.2.1.2.2.2.2.1++[val.2.2.2.2.2.1.2.1.2.2.2.2.2.2.1]).length > 200) then some ((val.2.2.1,()),()) else ((Ec val.2.2.1.2.1 val.2.2.2.2.2.1.2.2.1 val.1).bind fun val=>some (val,())).bind fun val_1=>bif val.2.1 then (m_spec_l7Power (val.2.2.1.1,val_1.1,val.2.2.1.2.2.1,val.2.2.1.2.2.2.1,[]++val.2.2.1.2.2.2.2.1++[val.2.2.2.2.2.1.2.1.2.2.2.2.2.2.1],val.2.2.2.2.2.2) val.2.2.2.1.2.2.2.1).bind fun val=>some val else bif val.2.2.2.1.1 != 2 then some (((val.2.2.1.1,val_1.1,true,val.2.2.2.2.2.1.2.1,[val.2.2.2.2.2.1.2.1.2.2.2.2.2.2.1],val.2.2.2.2.2.2),()),()) else some (((val.2.2.1.1,val_1.1,true,val.2.2.2.2.2.1.2.1,[]++val.2.2.1.2.2.2.2.1++[val.2.2.2.2.2.1.2.1.2.2.2.2.2.2.1],val.2.2.2.2.2.2),()),()) else none else none else bif decide (nI val.2.2.2.2.2.2.1.length > 2000) then some ((val.2.2.1,()),()) else bif decide (nI (List.length val.2.2.1.2.2.2.2.1) > 200) then some ((val.2.2.1,()),()) else ((Ec val.2.2.1.2.1 val.2.2.2.2.2.1.2.2.1 val.1).bind fun val=>some (val,())).bind fun val_1=>bif val.2.1 then (m_spec_l7Power (val.2.2.1.1,val_1.1,val.2.2.1.2.2.1,val.2.2.1.2.2.2.1,val.2.2.1.2.2.2.2.1,val.2.2.2.2.2.2) val.2.2.2.1.2.2.2.1).bind fun val=>some val else bif val.2.2.2.1.1 != 2 then some (((val.2.2.1.1,val_1.1,true,val.2.2.2.2.2.1.2.1,[val.2.2.2.2.2.1.2.1.2.2.2.2.2.2.1],val.2.2.2.2.2.2),()),()) else some (((val.2.2.1.1,val_1.1,true,val.2.2.2.2.2.1.2.1,val.2.2.1.2.2.2.2.1,val.2.2.2.2.2.2),()),()) else none else bif decide ((0 + List.length a0.2.2.2.2.2.1) * 16≤140737488355328) then ((fun d=>Dp (E7 d.1 d.2.1 d.2.2.1 d.2.2.2.1 d.2.2.2.2.1 d.2.2.2.2.2.1 d.2.2.2.2.2.2.1 d.2.2.2.2.2.2.2.1) d.1 d.2.1 d.2.2.1 d.2.2.2.1 d.2.2.2.2.1 d.2.2.2.2.2.1 d.2.2.2.2.2.2.1 d.2.2.2.2.2.2.2.1) (nI (List.length val.1.1.2.2.1),decide (a1.2.2.1≤nI (List.length val.1.1.2.2.1)),0,a0,a1,(0,([],[],()),false,(0,0,0,(0,0,0,0,()),0,0,([],()),()),[],[],()),val.1.1,[]++a0.2.2.2.2.2.1,())).bind fun val=>bif val.2.2.2.1.1==2 then bif decide ((0 + List.length val.2.2.1.2.2.2.2.1) * 24≤140737488355328) then bif decide ((([]++val.2.2.1.2.2.2.2.1).length + [val.2.2.2.2.2.1.2.1.2.2.2.2.2.2.1].length) * 24≤140737488355328) then bif decide (nI val.2.2.2.2.2.2.1.length > 2000) then some ((val.2.2.1,()),()) else bif decide (nI ([]++val.2.2.1.2.2.2.2.1++[val.2.2.2.2.2.1.2.1.2.2.2.2.2.2.1]).length > 200) then some ((val.2.2.1,()),()) else ((Ec val.2.2.1.2.1 val.2.2.2.2.2.1.2.2.1 val.1).bind fun val=>some (val,())).bind fun val_1=>bif val.2.1 then (m_spec_l7Power (val.2.2.1.1,val_1.1,val.2.2.1.2.2.1,val.2.2.1.2.2.2.1,[]++val.2.2.1.2.2.2.2.1++[val.2.2.2.2.2.1.2.1.2.2.2.2.2.2.1],val.2.2.2.2.2.2) val.2.2.2.1.2.2.2.1).bind fun val=>some val else bif val.2.2.2.1.1 != 2 then some (((val.2.2.1.1,val_1.1,true,val.2.2.2.2.2.1.2.1,[val.2.2.2.2.2.1.2.1.2.2.2.2.2.2.1],val.2.2.2.2.2.2),()),()) else some (((val.2.2.1.1,val_1.1,true,val.2.2.2.2.2.1.2.1,[]++val.2.2.1.2.2.2.2.1++[val.2.2.2.2.2.1.2.1.2.2.2.2.2.2.1],val.2.2.2.2.2.2),()),()) else none else none else bif decide (nI val.2.2.2.2.2.2.1.length > 2000) then some ((val.2.2.1,()),()) else bif decide (nI (List.length val.2.2.1.2.2.2.2.1) > 200) then some ((val.2.2.1,()),()) else ((Ec val.2.2.1.2.1 val.2.2.2.2.2.1.2.2.1 val.1).bind fun val=>some (val,())).bind fun val_1=>bif val.2.1 then (m_spec_l7Power (val.2.2.1.1,val_1.1,val.2.2.1.2.2.1,val.2.2.1.2.2.2.1,val.2.2.1.2.2.2.2.1,val.2.2.2.2.2.2) val.2.2.2.1.2.2.2.1).bind fun val=>some val else bif val.2.2.2.1.1 != 2 then some (((val.2.2.1.1,val_1.1,true,val.2.2.2.2.2.1.2.1,[val.2.2.2.2.2.1.2.1.2.2.2.2.2.2.1],val.2.2.2.2.2.2),()),()) else some (((val.2.2.1.1,val_1.1,true,val.2.2.2.2.2.1.2.1,val.2.2.1.2.2.2.2.1,val.2.2.2.2.2.2),()),()) else none else bif decide ((0 + List.length a0.2.2.2.2.2.1) * 16≤140737488355328) then ((fun d=>Dp (E7 d.1 d.2.1 d.2.2.1 d.2.2.2.1 d.2.2.2.2.1 d.2.2.2.2.2.1 d.2.2.2.2.2.2.1 d.2.2.2.2.2.2.2.1) d.1 d.2.1 d.2.2.1 d.2.2.2.1 d.2.2.2.2.1 d.2.2.2.2.2.1 d.2.2.2.2.2.2.1 d.2.2.2.2.2.2.2.1) (nI (List.length val.1.1.2.2.1),false,0,a0,a1,(0,([],[],()),false,(0,0,0,(0,0,0,0,()),0,0,([],()),()),[],[],()),val.1.1,[]++a0.2.2.2.2.2.1,())).bind fun val=>bif val.2.2.2.1.1==2 then bif decide ((0 + List.length val.2.2.1.2.2.2.2.1) * 24≤140737488355328) then bif decide ((([]++val.2.2.1.2.2.2.2.1).length + [val.2.2.2.2.2.1.2.1.2.2.2.2.2.2.1].length) * 24≤140737488355328) then bif decide (nI val.2.2.2.2.2.2.1.length > 2000) then some ((val.2.2.1,()),()) else bif decide (nI ([]++val.2.2.1.2.2.2.2.1++[val.2.2.2.2.2.1.2.1.2.2.2.2.2.2.1]).length > 200) then some ((val.2.2.1,()),()) else ((Ec val.2.2.1.2.1 val.2.2.2.2.2.1.2.2.1 val.1).bind fun val=>some (val,())).bind fun val_1=>bif val.2.1 then (m_spec_l7Power (val.2.2.1.1,val_1.1,val.2.2.1.2.2.1,val.2.2.1.2.2.2.1,[]++val.2.2.1.2.2.2.2.1++[val.2.2.2.2.2.1.2.1.2.2.2.2.2.2.1],val.2.2.2.2.2.2) val.2.2.2.1.2.2.2.1).bind fun val=>some val else bif val.2.2.2.1.1 != 2 then some (((val.2.2.1.1,val_1.1,true,val.2.2.2.2.2.1.2.1,[val.2.2.2.2.2.1.2.1.2.2.2.2.2.2.1],val.2.2.2.2.2.2),()),()) else some (((val.2.2.1.1,val_1.1,true,val.2.2.2.2.2.1.2.1,[]++val.2.2.1.2.2.2.2.1++[val.2.2.2.2.2.1.2.1.2.2.2.2.2.2.1],val.2.2.2.2.2.2),()),()) else none else none else bif decide (nI val.2.2.2.2.2.2.1.length > 2000) then some ((val.2.2.1,()),()) else bif decide (nI (List.length val.2.2.1.2.2.2.2.1) > 200) then some ((val.2.2.1,()),()) else ((Ec val.2.2.1.2.1 val.2.2.2.2.2.1.2.2.1 val.1).bind fun val=>some (val,())).bind fun val_1=>bif val.2.1 then (m_spec_l7Power (val.2.2.1.1,val_1.1,val.2.2.1.2.2.1,val.2.2.1.2.2.2.1,val.2.2.1.2.2.2.2.1,val.2.2.2.2.2.2) val.2.2.2.1.2.2.2.1).bind fun val=>some val else bif val.2.2.2.1.1 != 2 then some (((val.2.2.1.1,val_1.1,true,val.2.2.2.2.2.1.2.1,[val.2.2.2.2.2.1.2.1.2.2.2.2.2.2.1],val.2.2.2.2.2.2),()),()) else some (((val.2.2.1.1,val_1.1,true,val.2.2.2.2.2.1.2.1,val.2.2.1.2.2.2.2.1,val.2.2.2.2.2.2),()),()) else none
theorem Ady:∃ f,f=@Q2:=⟨_,rfl⟩
noncomputable def m_spec_l7Do:=Classical.choose Ady
theorem Adz:@m_spec_l7Do=@Q2:=Classical.choose_spec Ady
noncomputable def sd_spec_l7Do:SD:=⟨Asb,fun x=>m_spec_l7Do x.1 x.2.1⟩
theorem Asc (v8:Bool) (b0:Wld) (b1:Evt) (b2:Wld) (b3:Don):∀ (k m i:Nat) (n:Int) (r:List ByteArray),(i:Int) + k=n→k < m→n≤(b3.2.2.1.length:Int)→b3.2.2.1.length≤1073741824→r.length + k≤4000000000→
  ∃ r':List ByteArray,Dp m n v8 i b0 b1 b2 b3 r=some (n,v8,b0,b1,b2,b3,r',())∧r'.length≤r.length + k∧r'=r++Aaw ((b3.2.2.1.drop i).take k)
 | 0,m + 1,i,n,r,hi,_,_,_,_=>by
  refine ⟨r,?_,by omega,by simp [Aaw]⟩
  simp only [Dp,Ka]
  rw [decide_eq_false (show ¬ (i:Int) < n by omega)]
  rfl
 | k + 1,m + 1,i,n,r,hi,hm,hn,hl,hr=>by
  have e1:IntKind.i64.wrap ((i:Int) + 1)=((i + 1:Nat):Int):=wI (by omega)
  have d1:decide ((i:Int) < n)=true:=decide_eq_true (by omega)
  have d2:decide ((i:Int) < nI b3.2.2.1.length)=true:=decide_eq_true (by simp only [nI]; omega)
  simp only [Dp,Ka,d1,d2,H2,e1,cond_true,List.length_singleton]
  have d3:decide ((r.length + 1) * 16≤140737488355328)=true:=decide_eq_true (by omega)
  rw [d3]
  cases hc:(b3.2.2.1.getD (Int.toNat (i:Int)) (false,0,ByteArray.mk #[],())).1 with
  | true=>
   obtain ⟨r',q1,q2,q3⟩:=Asc v8 b0 b1 b2 b3 k m (i + 1) n r (by omega) (by omega) hn hl (by omega)
   have hc':(b3.2.2.1.getD i zOp).1=true:=hc
   exact ⟨r',q1,by omega,by rw [q3,Ax9 k (by omega),hc']; rfl⟩
  | false=>
   obtain ⟨r',q1,q2,q3⟩:=Asc v8 b0 b1 b2 b3 k m (i + 1) n (r++[(b3.2.2.1.getD (Int.toNat (i:Int)) (false,0,ByteArray.mk #[],())).2.2.1]) (by omega) (by omega) hn hl (by rw [List.length_append,List.length_singleton]; omega)
   rw [List.length_append,List.length_singleton] at q2
   have hc':(b3.2.2.1.getD i zOp).1=false:=hc
   exact ⟨r',q1,by omega,by rw [q3,Ax9 k (by omega),hc',List.append_assoc]; rfl⟩
theorem Awp {v8:Bool} {b0:Wld} {b1:Evt} {b2:Wld} {b3:Don} {n:Int} {r:List ByteArray} (h0:0≤n) (hn:n≤(b3.2.2.1.length:Int)) (hl:b3.2.2.1.length≤1073741824) (hr:r.length≤2000000000):
  Ai (Dp (E7 n v8 0 b0 b1 b2 b3 r) n v8 0 b0 b1 b2 b3 r) fun q=>∃ r':List ByteArray,q=(n,v8,b0,b1,b2,b3,r',())∧r'=r++Aaw (b3.2.2.1.take n.toNat):=by
 obtain ⟨k,rfl⟩:∃ k:Nat,n=(k:Int):=⟨n.toNat,by omega⟩
 obtain ⟨r',q1,_,q3⟩:=Asc v8 b0 b1 b2 b3 k (E7 k v8 0 b0 b1 b2 b3 r) 0 k r (by omega) (by simp only [E7]; omega) hn hl (by omega)
 exact ⟨_,q1,r',rfl,q3⟩
theorem Ayh {w:Wld} (h:Yp w) (e:Evt):Ai (m_spec_l7Do w e) fun q=>q.1.1=doS w e:=by
 rw [Adz]
 unfold Q2
 refine Ai.cond (fun c0=>Ai.bind (Zt w _) fun q hq=>Ai.some ?_) fun c0=>?_
 ·rw [hq]; unfold doS; rw [c0]; rfl
 refine Ai.bind (A3u h e) fun q hx=>?_
 obtain ⟨⟨x,asked,⟨⟩⟩,⟨⟩⟩:=q
 dsimp only at hx ⊢
 have hx1:x=(Qh w e).1:=congrArg (fun z=>z.1) hx
 have hx2:asked=(Qh w e).2:=congrArg (fun z=>z.2.1) hx
 have hX:XOk x:=by rw [hx1]; exact XOk.calls h e
 have hS:doS w e=bif !asked || x.1 != 0 then w else Tt w e x:=by unfold doS; rw [c0,hx1,hx2]; rfl
 rw [hS]
 refine Ai.cond (fun c1=>Ai.some ?_) fun c1=>Ai.cond (fun c2=>Ai.some ?_) fun c2=>?_
 ·rw [c1]; rfl
 ·rw [c1,c2]; rfl
 rw [show (bif !asked || x.1 != 0 then w else Tt w e x)=Tt w e x by rw [c1,c2]; rfl]
 have ho:=hX.ops
 have hl:=h.l
 have hp:=h.n
 have hd:=Jv h.v
 have hperf:∀ n:Int,Ai (((Ec (w.2.1.1,w.2.1.2.1,()) x.2.2.1 n).bind fun val=>some (val,()))) fun q=>q=(Fa w.2.1 x.2.2.1 n,()):=fun n=>Ai.bind ⟨_,if_pos (by omega),rfl⟩ fun a ha=>Ai.some (by rw [ha])
 have fin:∀ (v8:Bool) (m:Int),Ah2 e x=v8→Afq e x=m→∀ (pst:List Stt) (wr:List ByteArray),wr=Oi w e x→pst=H0 w e x→s6 w e x=false→∀ (y:Option (((Wld×Unit)×Unit))),
   (v8=true→Ai y fun q=>q.1.1=(w.1,I2 (Fa w.2.1 x.2.2.1 m) e.2.2.2.1,false,zSt,pst,wr,()))→(v8=false→Ai y fun q=>q.1.1=(w.1,Fa w.2.1 x.2.2.1 m,true,x.2.1,(bif e.1==2 then pst else [x.2.1.2.2.2.2.2.2.1]),wr,()))→Ai y fun q=>q.1.1=Tt w e x:=fun v8 m h1 h2 pst wr h3 h4 h5 y k1 k2=>by
  cases v8 with
  | true=>rw [Azt h5 h1,h2,← h3,← h4]; exact k1 rfl
  | false=>rw [A13 h5 h1,h2,← h3,← h4]; exact k2 rfl
 have full1:decide ((Oi w e x).length > 2000)=true→Tt w e x=w:=fun g=>Alz (Ars g rfl)
 have full2:∀ {a},decide ((Oi w e x).length > 2000)=a→decide ((H0 w e x).length > 200)=true→Tt w e x=w:=fun g1 g2=>Alz (by rw [Ars g1 g2,Bool.or_true])
 have full3:decide ((Oi w e x).length > 2000)=false→decide ((H0 w e x).length > 200)=false→s6 w e x=false:=fun g1 g2=>by rw [Ars g1 g2]; rfl
 have n2:∀ {α:Type} (l:List α),decide (nI l.length > 2000)=decide (l.length > 2000):=fun l=>by
  by_cases q:l.length > 2000
  ·rw [decide_eq_true q]; exact decide_eq_true (by simp only [nI]; omega)
  ·rw [decide_eq_false q]; exact decide_eq_false (by simp only [nI]; omega)
 have n1:∀ {α:Type} (l:List α),decide (nI l.length > 200)=decide (l.length > 200):=fun l=>by
  by_cases q:l.length > 200
  ·rw [decide_eq_true q]; exact decide_eq_true (by simp only [nI]; omega)
  ·rw [decide_eq_false q]; exact decide_eq_false (by simp only [nI]; omega)
 refine Ai.cond (fun c3=>Ai.cond (fun c4=>?_) fun c4=>?_) fun c3=>?_
 ·have c3':=of_decide_eq_true c3
  have c4':=of_decide_eq_true c4
  have hcb:Ah2 e x=decide (e.2.2.1≤nI x.2.2.1.length):=by unfold Ah2; rw [decide_eq_true (show 0≤e.2.2.1 from c3'),Bool.true_and]
  have hcn:Afq e x=e.2.2.1:=by unfold Afq; rw [hcb,c4]; rfl
  refine Ai.go (decide_eq_true (by omega)) ?_
  refine Ai.bind (Awp c3' c4' ho (by rw [List.nil_append]; omega)) fun q hq=>?_
  obtain ⟨r',rfl,hr⟩:=hq
  dsimp only
  have hw:r'=Oi w e x:=by rw [hr]; unfold Oi; rw [hcn,List.nil_append]
  refine Ai.cond (fun k=>Ai.go (decide_eq_true (by omega)) (Ai.go (decide_eq_true (by rw [List.nil_append,List.length_singleton]; omega)) ?_)) fun k=>?_
  ·have hpast:[]++w.2.2.2.2.1++[(x.2.1.2.2.2.2.2.2.1.1,())]=H0 w e x:=by unfold H0; rw [k]; rfl
   rw [hpast,n2 r',n1 (H0 w e x),hw]
   refine Ai.cond (fun d1=>Ai.some (full1 d1).symm) fun d1=>Ai.cond (fun d2=>Ai.some (full2 d1 d2).symm) fun d2=>?_
   refine Ai.bind (hperf _) fun q hq=>fin _ _ hcb hcn _ _ rfl rfl (full3 d1 d2) _ (fun g=>?_) fun g=>?_
   ·rw [g,hq]
    exact Ai.bind (Zt _ _) fun q hq=>Ai.some (by rw [hq]; rfl)
   ·rw [g,hq]
    refine Ai.no rfl (Ai.cond (fun z=>?_) fun _=>Ai.some (by rw [k]; rfl))
    rw [beq_iff_eq.1 k] at z; cases z
  ·have hpast:w.2.2.2.2.1=H0 w e x:=by unfold H0; rw [k]; rfl
   rw [n2 r',n1 w.2.2.2.2.1,hw,hpast]
   refine Ai.cond (fun d1=>Ai.some (full1 d1).symm) fun d1=>Ai.cond (fun d2=>Ai.some (full2 d1 d2).symm) fun d2=>?_
   refine Ai.bind (hperf _) fun q hq=>fin _ _ hcb hcn _ _ rfl rfl (full3 d1 d2) _ (fun g=>?_) fun g=>?_
   ·rw [g,hq]
    exact Ai.bind (Zt _ _) fun q hq=>Ai.some (by rw [hq]; rfl)
   ·rw [g,hq]
    refine Ai.no rfl (Ai.cond (fun z=>Ai.some (by rw [k]; rfl)) fun z=>?_)
    have:(e.1 != 2)=true:=by rw [bne,k]; rfl
    rw [this] at z; cases z
 ·have c3':=of_decide_eq_true c3
  have hcb:Ah2 e x=decide (e.2.2.1≤nI x.2.2.1.length):=by unfold Ah2; rw [decide_eq_true (show 0≤e.2.2.1 from c3'),Bool.true_and]
  have hcn:Afq e x=nI x.2.2.1.length:=by unfold Afq; rw [hcb,c4]; rfl
  refine Ai.go (decide_eq_true (by omega)) ?_
  refine Ai.bind (Awp (by simp only [nI]; omega) (Int.le_refl _) ho (by rw [List.nil_append]; omega)) fun q hq=>?_
  obtain ⟨r',rfl,hr⟩:=hq
  dsimp only
  have hw:r'=Oi w e x:=by rw [hr]; unfold Oi; rw [hcn,List.nil_append]
  refine Ai.cond (fun k=>Ai.go (decide_eq_true (by omega)) (Ai.go (decide_eq_true (by rw [List.nil_append,List.length_singleton]; omega)) ?_)) fun k=>?_
  ·have hpast:[]++w.2.2.2.2.1++[(x.2.1.2.2.2.2.2.2.1.1,())]=H0 w e x:=by unfold H0; rw [k]; rfl
   rw [hpast,n2 r',n1 (H0 w e x),hw]
   refine Ai.cond (fun d1=>Ai.some (full1 d1).symm) fun d1=>Ai.cond (fun d2=>Ai.some (full2 d1 d2).symm) fun d2=>?_
   refine Ai.bind (hperf _) fun q hq=>fin _ _ hcb hcn _ _ rfl rfl (full3 d1 d2) _ (fun g=>?_) fun g=>?_
   ·rw [g,hq]
    exact Ai.bind (Zt _ _) fun q hq=>Ai.some (by rw [hq]; rfl)
   ·rw [g,hq]
    refine Ai.no rfl (Ai.cond (fun z=>?_) fun _=>Ai.some (by rw [k]; rfl))
    rw [beq_iff_eq.1 k] at z; cases z
  ·have hpast:w.2.2.2.2.1=H0 w e x:=by unfold H0; rw [k]; rfl
   rw [n2 r',n1 w.2.2.2.2.1,hw,hpast]
   refine Ai.cond (fun d1=>Ai.some (full1 d1).symm) fun d1=>Ai.cond (fun d2=>Ai.some (full2 d1 d2).symm) fun d2=>?_
   refine Ai.bind (hperf _) fun q hq=>fin _ _ hcb hcn _ _ rfl rfl (full3 d1 d2) _ (fun g=>?_) fun g=>?_
   ·rw [g,hq]
    exact Ai.bind (Zt _ _) fun q hq=>Ai.some (by rw [hq]; rfl)
   ·rw [g,hq]
    refine Ai.no rfl (Ai.cond (fun z=>Ai.some (by rw [k]; rfl)) fun z=>?_)
    have:(e.1 != 2)=true:=by rw [bne,k]; rfl
    rw [this] at z; cases z
 ·have c3':=of_decide_eq_false c3
  have hcb:Ah2 e x=false:=by unfold Ah2; rw [decide_eq_false (show ¬ 0≤e.2.2.1 from c3')]; rfl
  have hcn:Afq e x=nI x.2.2.1.length:=by unfold Afq; rw [hcb]; rfl
  refine Ai.go (decide_eq_true (by omega)) ?_
  refine Ai.bind (Awp (by simp only [nI]; omega) (Int.le_refl _) ho (by rw [List.nil_append]; omega)) fun q hq=>?_
  obtain ⟨r',rfl,hr⟩:=hq
  dsimp only
  have hw:r'=Oi w e x:=by rw [hr]; unfold Oi; rw [hcn,List.nil_append]
  refine Ai.cond (fun k=>Ai.go (decide_eq_true (by omega)) (Ai.go (decide_eq_true (by rw [List.nil_append,List.length_singleton]; omega)) ?_)) fun k=>?_
  ·have hpast:[]++w.2.2.2.2.1++[(x.2.1.2.2.2.2.2.2.1.1,())]=H0 w e x:=by unfold H0; rw [k]; rfl
   rw [hpast,n2 r',n1 (H0 w e x),hw]
   refine Ai.cond (fun d1=>Ai.some (full1 d1).symm) fun d1=>Ai.cond (fun d2=>Ai.some (full2 d1 d2).symm) fun d2=>?_
   refine Ai.bind (hperf _) fun q hq=>fin _ _ hcb hcn _ _ rfl rfl (full3 d1 d2) _ (fun g=>?_) fun g=>?_
   ·cases g
   ·rw [hq]
    refine Ai.no rfl (Ai.cond (fun z=>?_) fun _=>Ai.some (by rw [k]; rfl))
    rw [beq_iff_eq.1 k] at z; cases z
  ·have hpast:w.2.2.2.2.1=H0 w e x:=by unfold H0; rw [k]; rfl
   rw [n2 r',n1 w.2.2.2.2.1,hw,hpast]
   refine Ai.cond (fun d1=>Ai.some (full1 d1).symm) fun d1=>Ai.cond (fun d2=>Ai.some (full2 d1 d2).symm) fun d2=>?_
   refine Ai.bind (hperf _) fun q hq=>fin _ _ hcb hcn _ _ rfl rfl (full3 d1 d2) _ (fun g=>?_) fun g=>?_
   ·cases g
   ·rw [hq]
    refine Ai.no rfl (Ai.cond (fun z=>Ai.some (by rw [k]; rfl)) fun z=>?_)
    have:(e.1 != 2)=true:=by rw [bne,k]; rfl
    rw [this] at z; cases z
noncomputable def Xw {R:Type} (k:Kt R):=(I1 (pa_spec_l7Do 13) (.exit 0) 2 k)
noncomputable def Ahr {R:Type}:Lt R pa_spec_l7Do:=(Ed (pat:=pa_spec_l7Do) 13 (fun d k=>(Dp (E7 d.1 d.2.1 d.2.2.1 d.2.2.2.1 d.2.2.2.2.1 d.2.2.2.2.2.1 d.2.2.2.2.2.2.1 d.2.2.2.2.2.2.2.1) d.1 d.2.1 d.2.2.1 d.2.2.2.1 d.2.2.2.2.1 d.2.2.2.2.2.1 d.2.2.2.2.2.2.1 d.2.2.2.2.2.2.2.1).bind (Xw k)) Hu)
theorem Ad0:A2 Tryz.prog ta_spec_l7Do:=A7 ⟨Ah5,Ah7,Amz,trivial⟩
theorem Aik {R:Type}:A3 Tryz.prog R 124 0 pa_spec_l7Do Ahr co_spec_l7Do_13:=
 B3 (cfg:=⟨ta_spec_l7Do,0,124,pa_spec_l7Do⟩) 13 [] (fun NX X (d:(Int)×(Bool)×(Int)×Wld×Evt×Wld×Don×(List ByteArray)×Unit)=>Ka  NX X d.1 d.2.1 d.2.2.1 d.2.2.2.1 d.2.2.2.2.1 d.2.2.2.2.2.1 d.2.2.2.2.2.2.1 d.2.2.2.2.2.2.2.1) (fun m d=>Dp m d.1 d.2.1 d.2.2.1 d.2.2.2.1 d.2.2.2.2.1 d.2.2.2.2.2.1 d.2.2.2.2.2.2.1 d.2.2.2.2.2.2.2.1) (fun d=>E7 d.1 d.2.1 d.2.2.1 d.2.2.2.1 d.2.2.2.2.1 d.2.2.2.2.2.1 d.2.2.2.2.2.2.1 d.2.2.2.2.2.2.2.1) Xw Ad0 trivial (fun f NX (d:(Int)×(Bool)×(Int)×Wld×Evt×Wld×Don×(List ByteArray)×Unit)=>by unfold Ka; simp only [Al,Ar,Ak,Option.bind_assoc,Option.bind_none,Option.bind_some]) (fun _ _ _=>by kernel_rfl)
theorem Ad1:B2 Tryz.prog 131 sd_spec_l7Do:=
 A6 (pat:=pa_spec_l7Do) [co_spec_l7Do_13] Ahr Ad0 ⟨Aik,trivial⟩ Tryz.func131 (de:=fun x=>Q2 x.1 x.2.1) (fun x r h=>by have q:m_spec_l7Do x.1 x.2.1=some r:=h; rw [Adz] at q; exact q) fun _=>by kernel_rfl
def Le (v0:ByteArray) (v1:Int) (v5:ByteArray):Nat:=v1.toNat + 1
def Am0:Sig:=⟨[.rd .str,.rd tI],[none,none],[.rd .str],[none]⟩
noncomputable def ta_spec_l1Many:Tb:=tb []
def pa_spec_l1Many:Nat→Pat×(Nat→Pat):=Gf [(3,⟨[],[(0,.lf (.d .str)),(1,.lf (.d tI)),(5,.lf (.d .str))],[]⟩,[(2,⟨[],[(5,.lf (.d .str))],[]⟩)])]
noncomputable def co_spec_l1Many_3:Code:=(As (Ba Tryz.f195)).getD 0 .skip
noncomputable def Lg {R:Type}  (NX:((ByteArray)×(Int)×(ByteArray)×Unit)→Option R) (X2:((ByteArray)×Unit)→Option R) (v0:ByteArray) (v1:Int) (v5:ByteArray):Option R:=
 bif decide (v1 > 0) then bif v1.tmod 2==1 then bif decide (v5.size + v0.size≤9223372036854775807) then bif decide (v0.size + v0.size≤9223372036854775807) then NX (v0++v0,IntKind.i64.wrap (v1.tdiv 2),v5++v0,()) else none else none else bif decide (v0.size + v0.size≤9223372036854775807) then NX (v0++v0,IntKind.i64.wrap (v1.tdiv 2),v5,()) else none else X2 (v5,())
noncomputable def G4:Nat→(ByteArray)→(Int)→(ByteArray) →  Option ((ByteArray)×Unit)
 | 0,_,_,_=>none
 | m + 1,v0,v1,v5=>Lg  (fun d=>G4 m d.1 d.2.1 d.2.2.1) (fun d=>some (d)) v0 v1 v5
noncomputable def N0 (a0:ByteArray) (a1:Int):Option ((((ByteArray)×Unit)×(Unit))):=
 ((fun d=>G4 (Le d.1 d.2.1 d.2.2.1) d.1 d.2.1 d.2.2.1) (a0,a1,ByteArray.mk #[],())).bind fun val=>some (val,())
theorem c9:∃ f,f=@N0:=⟨_,rfl⟩
noncomputable def m_spec_l1Many:=Classical.choose c9
theorem d5:@m_spec_l1Many=@N0:=Classical.choose_spec c9
noncomputable def sd_spec_l1Many:SD:=⟨Am0,fun x=>m_spec_l1Many x.1 x.2.1⟩
theorem Agc:∀ (m n:Nat) (v0 v5:ByteArray),n < m→n < 1099511627776→v5.size + v0.size * n≤1099511627776→Ai (G4 m v0 n v5) fun r=>r.1.size=v5.size + v0.size * n
 | 0,n,v0,v5,h,_,_=>by omega
 | m + 1,n,v0,v5,h,hn,ht=>by
  simp only [G4,Lg]
  refine Ai.cond (fun c=>?_) fun c=>?_
  ·have hp:0 < n:=by simpa using c
   have e:v0.size * n=2 * (v0.size * (n / 2)) + v0.size * (n % 2):=by
    conv=>lhs; rw [← Nat.div_add_mod n 2]
    rw [Nat.mul_add,Nat.mul_left_comm]
   have e':(v0.size + v0.size) * (n / 2)=2 * (v0.size * (n / 2)):=by rw [Nat.add_mul]; omega
   have hle:v0.size≤v0.size * n:=Nat.le_mul_of_pos_right _ hp
   have e1:IntKind.i64.wrap (Int.tdiv (n:Int) 2)=((n / 2:Nat):Int):=by
    rw [Int.tdiv_eq_ediv_of_nonneg (by omega),Ag (by omega) (by omega)]
    rfl
   have e2:(Int.tmod (n:Int) 2==1)=decide (n % 2=1):=by
    rw [Int.tmod_eq_emod_of_nonneg (by omega)]
    by_cases q:n % 2=1
    ·rw [decide_eq_true q]; simp; omega
    ·rw [decide_eq_false q]; simp; omega
   rw [e1,e2]
   refine Ai.cond (fun c=>?_) fun c=>?_
   ·rw [of_decide_eq_true c,Nat.mul_one] at e
    refine Ai.go (decide_eq_true (by omega)) (Ai.go (decide_eq_true (by omega)) ?_)
    refine (Agc m (n / 2) (v0++v0) (v5++v0) (by omega) (by omega) (by simp only [ByteArray.size_append]; omega)).mono fun r q=>?_
    simp only [ByteArray.size_append] at q
    omega
   ·have c:=of_decide_eq_false c
    rw [show n % 2=0 by omega,Nat.mul_zero] at e
    refine Ai.go (decide_eq_true (by omega)) ?_
    refine (Agc m (n / 2) (v0++v0) v5 (by omega) (by omega) (by simp only [ByteArray.size_append]; omega)).mono fun r q=>?_
    simp only [ByteArray.size_append] at q
    omega
  ·have:n=0:=by simpa using c
   subst this
   exact Ai.some (by simp)
theorem l4 (s:ByteArray) (n:Int) (h0:0≤n) (h1:n≤10000) (hs:s.size≤10000):Ai (m_spec_l1Many s n) fun r=>r.1.1.size=s.size * n.toNat:=by
 obtain ⟨k,rfl⟩:∃ k:Nat,n=(k:Int):=⟨n.toNat,by omega⟩
 rw [d5]
 unfold N0
 have hk:s.size * k≤10000 * 10000:=Nat.mul_le_mul hs (by omega)
 refine Ai.bind (Agc _ k s (ByteArray.mk #[]) (by simp [Le]) (by omega) (by show 0 + s.size * k≤_; omega)) fun r q=>Ai.some ?_
 rw [Int.toNat_natCast]
 exact q.trans (Nat.zero_add _)
noncomputable def V3 {R:Type} (k:Kt R):=(I1 (pa_spec_l1Many 3) (.exit 0) 2 k)
noncomputable def x5 {R:Type}:Lt R pa_spec_l1Many:=(Ed (pat:=pa_spec_l1Many) 3 (fun d k=>(G4 (Le d.1 d.2.1 d.2.2.1) d.1 d.2.1 d.2.2.1).bind (V3 k)) Hu)
theorem d6:A2 Tryz.prog ta_spec_l1Many:=A7 trivial
theorem Agd {R:Type}:A3 Tryz.prog R 20 0 pa_spec_l1Many x5 co_spec_l1Many_3:=
 B3 (cfg:=⟨ta_spec_l1Many,0,20,pa_spec_l1Many⟩) 3 [] (fun NX X d=>Lg  NX X d.1 d.2.1 d.2.2.1) (fun m d=>G4 m d.1 d.2.1 d.2.2.1) (fun d=>Le d.1 d.2.1 d.2.2.1) V3 d6 trivial (fun f NX d=>by unfold Lg; simp only [Al,Ar,Ak,Option.bind_assoc,Option.bind_none,Option.bind_some]) (fun _ _ _=>by kernel_rfl)
theorem Sh:B2 Tryz.prog 195 sd_spec_l1Many:=
 A6 (pat:=pa_spec_l1Many) [co_spec_l1Many_3] x5 d6 ⟨Agd,trivial⟩ Tryz.func195 (de:=fun x=>N0 x.1 x.2.1) (fun x r h=>by have q:m_spec_l1Many x.1 x.2.1=some r:=h; rw [d5] at q; exact q) fun _=>by kernel_rfl
def Hx (v3:ByteArray) (v4:Int) (b0:(List Int)×Int×Unit):Nat:=v4.toNat + 1
def Abc:Sig:=⟨[.bx 176 (.pair (.sl (.int .u8)) (.pair tI .unit))],[none],[.rd .str],[none]⟩
noncomputable def ta_spec_l1DrawText:Tb:=tb [(63,sd_spec_l1Rd__pick),(195,sd_spec_l1Many)]
def pa_spec_l1DrawText:Nat→Pat×(Nat→Pat):=Gf [(13,⟨[],[(0,.lf (.ptr 0 0)),(3,.lf (.d .str)),(4,.lf (.d tI))],[.box 176 [.d (.pair (.sl (.int .u8)) (.pair tI .unit))]]⟩,[(3,⟨[],[(3,.lf (.d .str))],[.box 176 [.d (.pair (.sl (.int .u8)) (.pair tI .unit))]]⟩)])]
noncomputable def co_spec_l1DrawText_13:Code:=(As (Ba Tryz.f194)).getD 0 .skip
noncomputable def Hy {R:Type}  (NX:((ByteArray)×(Int)×((List Int)×Int×Unit)×Unit)→Option R) (X3:((ByteArray)×((List Int)×Int×Unit)×Unit)→Option R) (v3:ByteArray) (v4:Int) (b0:(List Int)×Int×Unit):Option R:=
 bif decide (v4 > 0) then ((Aa b0 4).bind fun val=>some ((val.1,()),val.2,())).bind fun val=>bif decide (0≤val.1.1) then bif decide (val.1.1≤nI (ByteArray.mk #[97,98,99,100]).size) then bif decide (1≤nI (Ac (ByteArray.mk #[97,98,99,100]) val.1.1 (nI (ByteArray.mk #[97,98,99,100]).size)).size) then bif decide (v3.size + (Ac (Ac (ByteArray.mk #[97,98,99,100]) val.1.1 (nI (ByteArray.mk #[97,98,99,100]).size)) 0 1).size≤9223372036854775807) then NX (v3++Ac (Ac (ByteArray.mk #[97,98,99,100]) val.1.1 (nI (ByteArray.mk #[97,98,99,100]).size)) 0 1,IntKind.i64.wrap (v4 - 1),val.2) else none else none else none else none else X3 (v3,b0,())
noncomputable def D9:Nat→(ByteArray)→(Int)→((List Int)×Int×Unit) →  Option ((ByteArray)×((List Int)×Int×Unit)×Unit)
 | 0,_,_,_=>none
 | m + 1,v3,v4,b0=>Hy  (fun d=>D9 m d.1 d.2.1 d.2.2.1) (fun d=>some (d)) v3 v4 b0
noncomputable def Jz (a0:(List Int)×Int×Unit):Option ((((ByteArray)×Unit)×(((List Int)×Int×Unit)×Unit))):=
 ((Aa a0 8).bind fun val=>some ((val.1,()),val.2,())).bind fun val=>bif val.1.1==0 then some ((ByteArray.mk #[],()),val.2) else bif val.1.1==1 then some ((ByteArray.mk #[0,255],()),val.2) else bif val.1.1==2 then ((Aa val.2.1 21).bind fun val=>some ((val.1,()),val.2,())).bind fun val=>(m_spec_l1Many (ByteArray.mk #[108,111,110,103]) (IntKind.i64.wrap (5 + val.1.1))).bind fun val_1=>some (val_1.1,val.2) else bif val.1.1==3 then some ((ByteArray.mk #[45],()),val.2) else ((Aa val.2.1 4).bind fun val=>some ((val.1,()),val.2,())).bind fun val=>((fun d=>D9 (Hx d.1 d.2.1 d.2.2.1) d.1 d.2.1 d.2.2.1) (ByteArray.mk #[],IntKind.i64.wrap (1 + val.1.1),val.2)).bind fun val=>some ((val.1,()),val.2)
theorem Si:∃ f,f=@Jz:=⟨_,rfl⟩
noncomputable def m_spec_l1DrawText:=Classical.choose Si
theorem Sj:@m_spec_l1DrawText=@Jz:=Classical.choose_spec Si
noncomputable def sd_spec_l1DrawText:SD:=⟨Abc,fun x=>m_spec_l1DrawText x.1⟩
theorem Aqh:∀ (m n:Nat) (k:Nat) (v3:ByteArray) (r:Rd),n < m→n≤10→v3.size + n≤100→Kz k r→k + n < 1099511627776→Ai (D9 m v3 n r) fun q=>q.1.size≤100∧Kz (k + n) q.2.1
 | 0,n,k,v3,r,h,_,_,_,_=>by omega
 | m + 1,n,k,v3,r,h,hn,hs,hr,hk=>by
  simp only [D9,Hy]
  refine Ai.cond (fun c=>?_) fun c=>?_
  ·have hp:0 < n:=by simpa using c
   refine At hr (by omega) (by omega) fun v r' v0 v1 h'=>?_
   have sz:((ByteArray.mk #[97,98,99,100]).size:Int)=4:=rfl
   have e1:=Aju (s:=ByteArray.mk #[97,98,99,100]) v0 (show v≤nI (ByteArray.mk #[97,98,99,100]).size by simp only [nI,sz]; omega) (Int.le_refl _)
   have e2:=Aju (s:=Ac (ByteArray.mk #[97,98,99,100]) v (nI (ByteArray.mk #[97,98,99,100]).size)) (i:=0) (j:=1) (by omega) (by omega) (by simp only [nI,sz] at e1 ⊢; omega)
   refine Ai.go (decide_eq_true v0) (Ai.go (decide_eq_true (show v≤_ by simp only [nI,sz]; omega)) (Ai.go (decide_eq_true (show 1≤nI (Ac (ByteArray.mk #[97,98,99,100]) v (nI (ByteArray.mk #[97,98,99,100]).size)).size by simp only [nI,sz] at e1 ⊢; omega)) (Ai.go (decide_eq_true (show v3.size + (Ac (Ac (ByteArray.mk #[97,98,99,100]) v (nI (ByteArray.mk #[97,98,99,100]).size)) 0 1).size≤_ by omega)) ?_)))
   have ew:IntKind.i64.wrap ((n:Int) - 1)=((n - 1:Nat):Int):=by rw [Ag (by omega) (by omega)]; omega
   rw [ew]
   refine (Aqh m (n - 1) (k + 1) (v3++Ac (Ac (ByteArray.mk #[97,98,99,100]) v (nI (ByteArray.mk #[97,98,99,100]).size)) 0 1) r' (by omega) (by omega) (by rw [ByteArray.size_append]; omega) h' (by omega)).mono fun q hq=>⟨hq.1,?_⟩
   rw [show k + 1 + (n - 1)=k + n by omega] at hq
   exact hq.2
  ·have:n=0:=by simpa using c
   subst this
   exact Ai.some ⟨by show v3.size≤100; omega,hr⟩
theorem Ayi {k:Nat} {r:Rd} (h:Kz k r) (hk:k + 10 < 1099511627776):Ai (m_spec_l1DrawText r) fun q=>q.1.1.size≤100∧Kz (k + 10) q.2.1:=by
 rw [Sj]
 unfold Jz
 refine At h (by omega) (by omega) fun v r' v0 v1 h1=>?_
 refine Ai.cond (fun _=>Ai.some ⟨Nat.zero_le _,h1.mono (by omega)⟩) fun _=>Ai.cond (fun _=>Ai.some ⟨by show 2≤100; omega,h1.mono (by omega)⟩) fun _=>Ai.cond (fun _=>?_) fun _=>Ai.cond (fun _=>Ai.some ⟨by show 1≤100; omega,h1.mono (by omega)⟩) fun _=>?_
 ·dsimp only
  refine At h1 (by omega) (by omega) fun v2 r2 w0 w1 h2=>?_
  dsimp only
  have ew:IntKind.i64.wrap (5 + v2)=5 + v2:=Ag (by omega) (by omega)
  simp only [ew]
  refine Ai.bind (l4 (ByteArray.mk #[108,111,110,103]) (5 + v2) (by omega) (by omega) (by decide)) fun q hq=>Ai.some ⟨?_,h2.mono (by omega)⟩
  show q.1.1.size≤100
  rw [hq]
  show 4 * _≤100
  omega
 ·dsimp only
  refine At h1 (by omega) (by omega) fun v2 r2 w0 w1 h2=>?_
  dsimp only
  have ew:IntKind.i64.wrap (1 + v2)=((1 + v2).toNat:Int):=by rw [Ag (by omega) (by omega)]; omega
  simp only [ew]
  refine Ai.bind (Aqh _ (1 + v2).toNat (k + 2) (ByteArray.mk #[]) r2 (by simp only [Hx]; omega) (by omega) (by show 0 + _≤100; omega) h2 (by omega)) fun q hq=>Ai.some ⟨hq.1,hq.2.mono (by omega)⟩
noncomputable def Oj {R:Type} (k:Kt R):=(I1 (pa_spec_l1DrawText 13) (.exit 1) 3 k)
noncomputable def T9 {R:Type}:Lt R pa_spec_l1DrawText:=(Ed (pat:=pa_spec_l1DrawText) 13 (fun d k=>(D9 (Hx d.1 d.2.1 d.2.2.1) d.1 d.2.1 d.2.2.1).bind (Oj k)) Hu)
theorem Sk:A2 Tryz.prog ta_spec_l1DrawText:=A7 ⟨Bm,Sh,trivial⟩
theorem Yq {R:Type}:A3 Tryz.prog R 33 1 pa_spec_l1DrawText T9 co_spec_l1DrawText_13:=
 B3 (cfg:=⟨ta_spec_l1DrawText,1,33,pa_spec_l1DrawText⟩) 13 [] (fun NX X d=>Hy  NX X d.1 d.2.1 d.2.2.1) (fun m d=>D9 m d.1 d.2.1 d.2.2.1) (fun d=>Hx d.1 d.2.1 d.2.2.1) Oj Sk trivial (fun f NX d=>by unfold Hy; simp only [Al,Ar,Ak,Option.bind_assoc,Option.bind_none,Option.bind_some]) (fun _ _ _=>by kernel_rfl)
theorem Sm:B2 Tryz.prog 194 sd_spec_l1DrawText:=
 A6 (pat:=pa_spec_l1DrawText) [co_spec_l1DrawText_13] T9 Sk ⟨Yq,trivial⟩ Tryz.func194 (de:=fun x=>Jz x.1) (fun x r h=>by have q:m_spec_l1DrawText x.1=some r:=h; rw [Sj] at q; exact q) fun _=>by kernel_rfl
def m7:Sig:=⟨[.bx 176 (.pair (.sl (.int .u8)) (.pair tI .unit))],[none],[.own 99 D7],[none]⟩
noncomputable def ta_spec_l4DrawBatch:Tb:=tb [(63,sd_spec_l1Rd__pick),(194,sd_spec_l1DrawText)]
def pa_spec_l4DrawBatch:Nat→Pat×(Nat→Pat):=Gf [(7,⟨[.row 3 0 99 D7],[(0,.lf (.ptr 0 0)),(3,.lf (.row 1)),(4,.lf (.d tI)),(5,.lf (.d tI))],[.box 176 [.d (.pair (.sl (.int .u8)) (.pair tI .unit))],.row 99 D7]⟩,[(2,⟨[.row 3 0 99 D7],[(3,.lf (.row 1))],[.box 176 [.d (.pair (.sl (.int .u8)) (.pair tI .unit))],.row 99 D7]⟩)])]
noncomputable def co_spec_l4DrawBatch_7:Code:=(As (Ba Tryz.f115)).getD 0 .skip
def Ea (v4:Int) (v5:Int) (b0:(List Int)×Int×Unit) (r1:List Chg):Nat:=(v4 - v5).toNat + 1
noncomputable def Hz {R:Type}  (NX:((Int)×(Int)×((List Int)×Int×Unit)×(List Chg)×Unit)→Option R) (X2:(((List Int)×Int×Unit)×(List Chg)×Unit)→Option R) (v4:Int) (v5:Int) (b0:(List Int)×Int×Unit) (r1:List Chg):Option R:=
 bif decide (v5 < v4) then ((Aa b0 8).bind fun val=>some ((val.1,()),val.2,())).bind fun val=>bif decide (0≤val.1.1) then bif decide (val.1.1≤nI (ByteArray.mk #[97,98,99,100,101,102,103,104]).size) then bif decide (1≤nI (Ac (ByteArray.mk #[97,98,99,100,101,102,103,104]) val.1.1 (nI (ByteArray.mk #[97,98,99,100,101,102,103,104]).size)).size) then bif decide ((ByteArray.mk #[107]).size + (Ac (Ac (ByteArray.mk #[97,98,99,100,101,102,103,104]) val.1.1 (nI (ByteArray.mk #[97,98,99,100,101,102,103,104]).size)) 0 1).size≤9223372036854775807) then ((Aa val.2.1 4).bind fun val=>some ((val.1,()),val.2,())).bind fun val_1=>bif decide (v4 > 8) then ((Aa val_1.2.1 3).bind fun val=>some ((val.1,()),val.2,())).bind fun val_2=>bif decide (0≤val_2.1.1) then bif decide (val_2.1.1≤nI (ByteArray.mk #[120,121,122]).size) then bif decide (1≤nI (Ac (ByteArray.mk #[120,121,122]) val_2.1.1 (nI (ByteArray.mk #[120,121,122]).size)).size) then bif decide ((ByteArray.mk #[107]++Ac (Ac (ByteArray.mk #[97,98,99,100,101,102,103,104]) val.1.1 (nI (ByteArray.mk #[97,98,99,100,101,102,103,104]).size)) 0 1).size + (Ac (Ac (ByteArray.mk #[120,121,122]) val_2.1.1 (nI (ByteArray.mk #[120,121,122]).size)) 0 1).size≤9223372036854775807) then bif !val_1.1.1==0 then (m_spec_l1DrawText val_2.2.1).bind fun val_3=>bif decide (nI (ByteArray.size val_3.1.1) > 100) then bif decide (100≤nI (ByteArray.size val_3.1.1)) then bif decide ((r1.length + [(ByteArray.mk #[107]++Ac (Ac (ByteArray.mk #[97,98,99,100,101,102,103,104]) val.1.1 (nI (ByteArray.mk #[97,98,99,100,101,102,103,104]).size)) 0 1++Ac (Ac (ByteArray.mk #[120,121,122]) val_2.1.1 (nI (ByteArray.mk #[120,121,122]).size)) 0 1,Ac val_3.1.1 0 100,val_1.1.1==0,())].length) * 40≤140737488355328) then NX (v4,IntKind.i64.wrap (v5 + 1),val_3.2.1,r1++[(ByteArray.mk #[107]++Ac (Ac (ByteArray.mk #[97,98,99,100,101,102,103,104]) val.1.1 (nI (ByteArray.mk #[97,98,99,100,101,102,103,104]).size)) 0 1++Ac (Ac (ByteArray.mk #[120,121,122]) val_2.1.1 (nI (ByteArray.mk #[120,121,122]).size)) 0 1,Ac val_3.1.1 0 100,val_1.1.1==0,())],()) else none else none else bif decide ((r1.length + [(ByteArray.mk #[107]++Ac (Ac (ByteArray.mk #[97,98,99,100,101,102,103,104]) val.1.1 (nI (ByteArray.mk #[97,98,99,100,101,102,103,104]).size)) 0 1++Ac (Ac (ByteArray.mk #[120,121,122]) val_2.1.1 (nI (ByteArray.mk #[120,121,122]).size)) 0 1,val_3.1.1,val_1.1.1==0,())].length) * 40≤140737488355328) then NX (v4,IntKind.i64.wrap (v5 + 1),val_3.2.1,r1++[(ByteArray.mk #[107]++Ac (Ac (ByteArray.mk #[97,98,99,100,101,102,103,104]) val.1.1 (nI (ByteArray.mk #[97,98,99,100,101,102,103,104]).size)) 0 1++Ac (Ac (ByteArray.mk #[120,121,122]) val_2.1.1 (nI (ByteArray.mk #[120,121,122]).size)) 0 1,val_3.1.1,val_1.1.1==0,())],()) else none else bif decide ((r1.length + [(ByteArray.mk #[107]++Ac (Ac (ByteArray.mk #[97,98,99,100,101,102,103,104]) val.1.1 (nI (ByteArray.mk #[97,98,99,100,101,102,103,104]).size)) 0 1++Ac (Ac (ByteArray.mk #[120,121,122]) val_2.1.1 (nI (ByteArray.mk #[120,121,122]).size)) 0 1,ByteArray.mk #[],val_1.1.1==0,())].length) * 40≤140737488355328) then NX (v4,IntKind.i64.wrap (v5 + 1),val_2.2.1,r1++[(ByteArray.mk #[107]++Ac (Ac (ByteArray.mk #[97,98,99,100,101,102,103,104]) val.1.1 (nI (ByteArray.mk #[97,98,99,100,101,102,103,104]).size)) 0 1++Ac (Ac (ByteArray.mk #[120,121,122]) val_2.1.1 (nI (ByteArray.mk #[120,121,122]).size)) 0 1,ByteArray.mk #[],val_1.1.1==0,())],()) else none else none else none else none else none else bif !val_1.1.1==0 then (m_spec_l1DrawText val_1.2.1).bind fun val_2=>bif decide (nI (ByteArray.size val_2.1.1) > 100) then bif decide (100≤nI (ByteArray.size val_2.1.1)) then bif decide ((r1.length + [(ByteArray.mk #[107]++Ac (Ac (ByteArray.mk #[97,98,99,100,101,102,103,104]) val.1.1 (nI (ByteArray.mk #[97,98,99,100,101,102,103,104]).size)) 0 1,Ac val_2.1.1 0 100,val_1.1.1==0,())].length) * 40≤140737488355328) then NX (v4,IntKind.i64.wrap (v5 + 1),val_2.2.1,r1++[(ByteArray.mk #[107]++Ac (Ac (ByteArray.mk #[97,98,99,100,101,102,103,104]) val.1.1 (nI (ByteArray.mk #[97,98,99,100,101,102,103,104]).size)) 0 1,Ac val_2.1.1 0 100,val_1.1.1==0,())],()) else none else none else bif decide ((r1.length + [(ByteArray.mk #[107]++Ac (Ac (ByteArray.mk #[97,98,99,100,101,102,103,104]) val.1.1 (nI (ByteArray.mk #[97,98,99,100,101,102,103,104]).size)) 0 1,val_2.1.1,val_1.1.1==0,())].length) * 40≤140737488355328) then NX (v4,IntKind.i64.wrap (v5 + 1),val_2.2.1,r1++[(ByteArray.mk #[107]++Ac (Ac (ByteArray.mk #[97,98,99,100,101,102,103,104]) val.1.1 (nI (ByteArray.mk #[97,98,99,100,101,102,103,104]).size)) 0 1,val_2.1.1,val_1.1.1==0,())],()) else none else bif decide ((r1.length + [(ByteArray.mk #[107]++Ac (Ac (ByteArray.mk #[97,98,99,100,101,102,103,104]) val.1.1 (nI (ByteArray.mk #[97,98,99,100,101,102,103,104]).size)) 0 1,ByteArray.mk #[],val_1.1.1==0,())].length) * 40≤140737488355328) then NX (v4,IntKind.i64.wrap (v5 + 1),val_1.2.1,r1++[(ByteArray.mk #[107]++Ac (Ac (ByteArray.mk #[97,98,99,100,101,102,103,104]) val.1.1 (nI (ByteArray.mk #[97,98,99,100,101,102,103,104]).size)) 0 1,ByteArray.mk #[],val_1.1.1==0,())],()) else none else none else none else none else none else X2 (b0,r1,())
noncomputable def Bg:Nat→(Int)→(Int)→((List Int)×Int×Unit)→(List Chg) →  Option (((List Int)×Int×Unit)×(List Chg)×Unit)
 | 0,_,_,_,_=>none
 | m + 1,v4,v5,b0,r1=>Hz  (fun d=>Bg m d.1 d.2.1 d.2.2.1 d.2.2.2.1) (fun d=>some (d)) v4 v5 b0 r1
noncomputable def Ix (a0:(List Int)×Int×Unit):Option ((((List Chg)×Unit)×(((List Int)×Int×Unit)×Unit))):=
 ((Aa a0 4).bind fun val=>some ((val.1,()),val.2,())).bind fun val=>((Aa val.2.1 10).bind fun val=>some ((val.1,()),val.2,())).bind fun val_1=>bif val_1.1.1==0 then ((Aa val_1.2.1 2).bind fun val=>some ((val.1,()),val.2,())).bind fun val=>((fun d=>Bg (Ea d.1 d.2.1 d.2.2.1 d.2.2.2.1) d.1 d.2.1 d.2.2.1 d.2.2.2.1) (IntKind.i64.wrap (20 - val.1.1),0,val.2.1,[],())).bind fun val=>some (val.2,val.1,()) else ((fun d=>Bg (Ea d.1 d.2.1 d.2.2.1 d.2.2.2.1) d.1 d.2.1 d.2.2.1 d.2.2.2.1) (IntKind.i64.wrap (1 + val.1.1),0,val_1.2.1,[],())).bind fun val=>some (val.2,val.1,())
theorem Qm:∃ f,f=@Ix:=⟨_,rfl⟩
noncomputable def m_spec_l4DrawBatch:=Classical.choose Qm
theorem Qn:@m_spec_l4DrawBatch=@Ix:=Classical.choose_spec Qm
noncomputable def sd_spec_l4DrawBatch:SD:=⟨m7,fun x=>m_spec_l4DrawBatch x.1⟩
theorem Am1 (n:Nat) (hn:n≤20):∀ (m i k:Nat) (r:Rd) (l:List Chg),n - i < m→i≤n→l.length=i→(∀ c∈l,An0 c)→Kz k r→k + 15 * (n - i) < 1099511627776→
  Ai (Bg m n i r l) fun q=>Kz (k + 15 * (n - i)) q.1∧q.2.1.length=n∧∀ c∈q.2.1,An0 c
 | 0,i,k,r,l,h,_,_,_,_,_=>by omega
 | m + 1,i,k,r,l,h,hi,hl,hc,hr,hk=>by
  simp only [Bg,Hz]
  refine Ai.cond (fun c=>?_) fun c=>?_
  ·have hi':i < n:=by simpa using c
   have fin:∀ (c:Chg) (r':Rd),An0 c→Kz (k + 15) r'→Ai (bif decide ((l.length + [c].length) * 40≤140737488355328) then Bg m n (IntKind.i64.wrap ((i:Int) + 1)) r' (l++[c]) else none) fun q=>Kz (k + 15 * (n - i)) q.1∧q.2.1.length=n∧∀ c∈q.2.1,An0 c:=fun c r' h1 h2=>by
    refine Ai.go (decide_eq_true (by simp only [List.length_singleton]; omega)) ?_
    rw [wI (by omega)]
    refine (Am1 n hn m (i + 1) (k + 15) r' (l++[c]) (by omega) (by omega) (by rw [List.length_append,List.length_singleton,hl]) (A1u hc h1) h2 (by omega)).mono fun q hq=>?_
    rw [show k + 15 + 15 * (n - (i + 1))=k + 15 * (n - i) by omega] at hq
    exact hq
   refine At hr (by omega) (by omega) fun v r1 v0 v1 h1=>?_
   dsimp only
   refine Ai.letter v0 v1 fun s1=>?_
   generalize Ac (Ac (ByteArray.mk #[97,98,99,100,101,102,103,104]) v (nI (ByteArray.mk #[97,98,99,100,101,102,103,104]).size)) 0 1=c1 at *
   have k1:(ByteArray.mk #[107]++c1).size=2:=by rw [ByteArray.size_append,s1]; rfl
   refine Ai.go (decide_eq_true (by rw [s1]; decide)) ?_
   refine At h1 (by omega) (by omega) fun g r2 g0 g1 h2=>?_
   dsimp only
   have val:∀ (key:ByteArray) (r3:Rd),key.size≤1000→Kz (k + 3) r3→Ai (bif !(g==0) then (m_spec_l1DrawText r3).bind fun val=>bif decide (nI (ByteArray.size val.1.1) > 100) then bif decide (100≤nI (ByteArray.size val.1.1)) then bif decide ((l.length + [((key,Ac val.1.1 0 100,g==0,()):Chg)].length) * 40≤140737488355328) then Bg m n (IntKind.i64.wrap ((i:Int) + 1)) val.2.1 (l++[(key,Ac val.1.1 0 100,g==0,())]) else none else none
     else bif decide ((l.length + [((key,val.1.1,g==0,()):Chg)].length) * 40≤140737488355328) then Bg m n (IntKind.i64.wrap ((i:Int) + 1)) val.2.1 (l++[(key,val.1.1,g==0,())]) else none
     else bif decide ((l.length + [((key,ByteArray.mk #[],g==0,()):Chg)].length) * 40≤140737488355328) then Bg m n (IntKind.i64.wrap ((i:Int) + 1)) r3 (l++[(key,ByteArray.mk #[],g==0,())]) else none) fun q=>Kz (k + 15 * (n - i)) q.1∧q.2.1.length=n∧∀ c∈q.2.1,An0 c:=fun key r3 hkey h3=>by
    refine Ai.cond (fun _=>?_) fun _=>fin _ _ ⟨hkey,Nat.zero_le _⟩ (h3.mono (by omega))
    refine Ai.bind (Ayi h3 (by omega)) fun q hq=>?_
    refine Ai.cond (fun c=>?_) fun c=>fin _ _ ⟨hkey,by show q.1.1.size≤1000; omega⟩ (hq.2.mono (by omega))
    exfalso
    have c:=of_decide_eq_true c
    simp only [nI] at c
    omega
   refine Ai.cond (fun _=>?_) fun _=>val _ r2 (by rw [k1]; decide) (h2.mono (by omega))
   refine At h2 (by omega) (by omega) fun w r3 w0 w1 h3=>?_
   dsimp only
   refine Ai.letter w0 w1 fun s2=>?_
   generalize Ac (Ac (ByteArray.mk #[120,121,122]) w (nI (ByteArray.mk #[120,121,122]).size)) 0 1=c2 at *
   refine Ai.go (decide_eq_true (by rw [s2,k1]; decide)) ?_
   exact val _ r3 (by rw [ByteArray.size_append,s2,k1]; decide) (h3.mono (by omega))
  ·have:i=n:=by have:=of_decide_eq_false c; omega
   subst this
   exact Ai.some ⟨hr.mono (by omega),hl,hc⟩
theorem Aut {k:Nat} {r:Rd} (h:Kz k r) (hk:k + 400 < 1099511627776):Ai (m_spec_l4DrawBatch r) fun q=>(1≤q.1.1.length∧q.1.1.length≤20∧∀ c∈q.1.1,An0 c)∧Kz (k + 400) q.2.1:=by
 rw [Qn]
 unfold Ix
 refine At h (by omega) (by omega) fun v r1 v0 v1 h1=>?_
 dsimp only
 refine At h1 (by omega) (by omega) fun w r2 w0 w1 h2=>?_
 dsimp only
 have fin:∀ (n:Nat) (x:Int) (r3:Rd),x=(n:Int)→1≤n→n≤20→Kz (k + 3) r3→Ai ((Bg (Ea x 0 r3 []) x 0 r3 []).bind fun val=>some ((val.2.1,()),val.1,())) fun q=>(1≤q.1.1.length∧q.1.1.length≤20∧∀ c∈q.1.1,An0 c)∧Kz (k + 400) q.2.1:=fun n x r3 hx n1 n2 h3=>by
  subst hx
  refine Ai.bind (Am1 n n2 _ 0 (k + 3) r3 [] (by simp only [Ea]; omega) (by omega) rfl (fun c hc=>by cases hc) h3 (by omega)) fun q hq=>Ai.some ⟨⟨by show 1≤q.2.1.length; omega,by show q.2.1.length≤20; omega,hq.2.2⟩,hq.1.mono (by omega)⟩
 refine Ai.cond (fun _=>?_) fun _=>?_
 ·refine At h2 (by omega) (by omega) fun u r3 u0 u1 h3=>?_
  dsimp only
  exact fin (20 - u).toNat _ r3 (by rw [Ag (by omega) (by omega)]; omega) (by omega) (by omega) h3
 ·exact fin (1 + v).toNat _ r2 (by rw [Ag (by omega) (by omega)]; omega) (by omega) (by omega) (h2.mono (by omega))
noncomputable def Ok {R:Type} (k:Kt R):=(I1 (pa_spec_l4DrawBatch 7) (.exit 0) 2 k)
noncomputable def Sn {R:Type}:Lt R pa_spec_l4DrawBatch:=(Ed (pat:=pa_spec_l4DrawBatch) 7 (fun d k=>(Bg (Ea d.1 d.2.1 d.2.2.1 d.2.2.2.1) d.1 d.2.1 d.2.2.1 d.2.2.2.1).bind (Ok k)) Hu)
theorem Qo:A2 Tryz.prog ta_spec_l4DrawBatch:=A7 ⟨Bm,Sm,trivial⟩
theorem Yr {R:Type}:A3 Tryz.prog R 60 1 pa_spec_l4DrawBatch Sn co_spec_l4DrawBatch_7:=
 B3 (cfg:=⟨ta_spec_l4DrawBatch,1,60,pa_spec_l4DrawBatch⟩) 7 [] (fun NX X d=>Hz  NX X d.1 d.2.1 d.2.2.1 d.2.2.2.1) (fun m d=>Bg m d.1 d.2.1 d.2.2.1 d.2.2.2.1) (fun d=>Ea d.1 d.2.1 d.2.2.1 d.2.2.2.1) Ok Qo trivial (fun f NX d=>by unfold Hz; simp only [Al,Ar,Ak,Option.bind_assoc,Option.bind_none,Option.bind_some]) (fun _ _ _=>by kernel_rfl)
theorem Qp:B2 Tryz.prog 115 sd_spec_l4DrawBatch:=
 A6 (pat:=pa_spec_l4DrawBatch) [co_spec_l4DrawBatch_7] Sn Qo ⟨Yr,trivial⟩ Tryz.func115 (de:=fun x=>Ix x.1) (fun x r h=>by have q:m_spec_l4DrawBatch x.1=some r:=h; rw [Qn] at q; exact q) fun _=>by kernel_rfl
def Ae (v7:Int) (_:(List Int)×Int×Unit) (_:Int) (_:List Chg) (_:Int) (_:List Int) (_:Int) (_:List Chg) (_:Int) (_:List Int):Nat:=v7.toNat + 1
def Ail:Sig:=⟨[.bx 176 (.pair (.sl (.int .u8)) (.pair tI .unit)),.rd .bool],[none,none],[.rd A1h],[some 4]⟩
noncomputable def ta_spec_l7Event:Tb:=tb [(63,sd_spec_l1Rd__pick),(115,sd_spec_l4DrawBatch)]
def pa_spec_l7Event:Nat→Pat×(Nat→Pat):=Gf [(21,⟨[.boxSl 4 1 D7,.boxSl 4 3 tI,.boxSl 5 1 D7,.boxRow 5 3 3 tI],[(0,.lf (.ptr 0 0)),(4,.lf (.ptr 1 0)),(5,.lf (.ptr 2 0)),(7,.lf (.d tI))],[.box 176 [.d (.pair (.sl (.int .u8)) (.pair tI .unit))],.box 87 [.d tI,.d (.sl D7),.d tI,.d (.sl tI)],.box 87 [.d tI,.d (.sl D7),.d tI,.row 3],.row 3 tI]⟩,[(2,⟨[.boxSl 4 1 D7,.boxSl 4 3 tI,.boxSl 5 1 D7,.boxRow 5 3 3 tI],[(4,.lf (.ptr 1 0)),(5,.lf (.ptr 2 0))],[.box 176 [.d (.pair (.sl (.int .u8)) (.pair tI .unit))],.box 87 [.d tI,.d (.sl D7),.d tI,.d (.sl tI)],.box 87 [.d tI,.d (.sl D7),.d tI,.row 3],.row 3 tI]⟩)])]
noncomputable def co_spec_l7Event_21:Code:=(As (Ba Tryz.f145)).getD 0 .skip
noncomputable def Hl {R:Type}  (NX:((Int)×((List Int)×Int×Unit)×(Int)×(List Chg)×(Int)×(List Int)×(Int)×(List Chg)×(Int)×(List Int)×Unit)→Option R) (X2:(((List Int)×Int×Unit)×(Int)×(List Chg)×(Int)×(List Int)×(Int)×(List Chg)×(Int)×(List Int)×Unit)→Option R) (v7:Int) (b0:(List Int)×Int×Unit) (b1_0:Int) (b1_1:List Chg) (b1_2:Int) (b1_3:List Int) (b2_0:Int) (b2_1:List Chg) (b2_2:Int) (r3:List Int):Option R:=
 bif decide (v7 > 0) then ((Aa b0 63).bind fun val=>some ((val.1,()),val.2,())).bind fun val=>((Aa val.2.1 6).bind fun val=>some ((val.1,()),val.2,())).bind fun val_1=>bif decide (0≤val_1.1.1) then bif decide (val_1.1.1 < nI [0,64,64,IntKind.i64.wrap (1 + val.1.1),-1,65].length) then bif decide ((r3.length + [[0,64,64,IntKind.i64.wrap (1 + val.1.1),-1,65].getD (Int.toNat val_1.1.1) 0].length) * 8≤140737488355328) then NX (IntKind.i64.wrap (v7 - 1),val_1.2.1,b1_0,b1_1,b1_2,b1_3,b2_0,b2_1,b2_2,r3++[[0,64,64,IntKind.i64.wrap (1 + val.1.1),-1,65].getD (Int.toNat val_1.1.1) 0],()) else none else none else none else X2 (b0,b1_0,b1_1,b1_2,b1_3,b2_0,b2_1,b2_2,r3,())
noncomputable def Ad:Nat→(Int)→((List Int)×Int×Unit)→(Int)→(List Chg)→(Int)→(List Int)→(Int)→(List Chg)→(Int)→(List Int) →  Option (((List Int)×Int×Unit)×(Int)×(List Chg)×(Int)×(List Int)×(Int)×(List Chg)×(Int)×(List Int)×Unit)
 | 0,_,_,_,_,_,_,_,_,_,_=>none
 | m + 1,v7,b0,b1_0,b1_1,b1_2,b1_3,b2_0,b2_1,b2_2,r3=>Hl  (fun d=>Ad m d.1 d.2.1 d.2.2.1 d.2.2.2.1 d.2.2.2.2.1 d.2.2.2.2.2.1 d.2.2.2.2.2.2.1 d.2.2.2.2.2.2.2.1 d.2.2.2.2.2.2.2.2.1 d.2.2.2.2.2.2.2.2.2.1) (fun d=>some (d)) v7 b0 b1_0 b1_1 b1_2 b1_3 b2_0 b2_1 b2_2 r3
noncomputable def L8 (a0:(List Int)×Int×Unit) (a1:Bool):Option (((Evt×Unit)×(((List Int)×Int×Unit)×Unit))):=
 ((Aa a0 20).bind fun val=>some ((val.1,()),val.2,())).bind fun val=>bif !a1 then bif decide (val.1.1 < 16) then ((Aa val.2.1 4).bind fun val=>some ((val.1,()),val.2,())).bind fun val=>bif val.1.1==0 then ((Aa val.2.1 5).bind fun val=>some ((val.1,()),val.2,())).bind fun val=>((Aa val.2.1 4).bind fun val=>some ((val.1,()),val.2,())).bind fun val_1=>bif val_1.1.1==0 then ((Aa val_1.2.1 14).bind fun val=>some ((val.1,()),val.2,())).bind fun val=>((Aa val.2.1 8).bind fun val=>some ((val.1,()),val.2,())).bind fun val_2=>((fun d=>Ad (Ae d.1 d.2.1 d.2.2.1 d.2.2.2.1 d.2.2.2.2.1 d.2.2.2.2.2.1 d.2.2.2.2.2.2.1 d.2.2.2.2.2.2.2.1 d.2.2.2.2.2.2.2.2.1 d.2.2.2.2.2.2.2.2.2.1) d.1 d.2.1 d.2.2.1 d.2.2.2.1 d.2.2.2.2.1 d.2.2.2.2.2.1 d.2.2.2.2.2.2.1 d.2.2.2.2.2.2.2.1 d.2.2.2.2.2.2.2.2.1 d.2.2.2.2.2.2.2.2.2.1) (val_2.1.1,val_2.2.1,0,[],0,[],1,[],val.1.1,[],())).bind fun val=>some ((val.2.2.2.2.2,()),val.1,()) else ((Aa val_1.2.1 8).bind fun val=>some ((val.1,()),val.2,())).bind fun val_2=>((fun d=>Ad (Ae d.1 d.2.1 d.2.2.1 d.2.2.2.1 d.2.2.2.2.1 d.2.2.2.2.2.1 d.2.2.2.2.2.2.1 d.2.2.2.2.2.2.2.1 d.2.2.2.2.2.2.2.2.1 d.2.2.2.2.2.2.2.2.2.1) d.1 d.2.1 d.2.2.1 d.2.2.2.1 d.2.2.2.2.1 d.2.2.2.2.2.1 d.2.2.2.2.2.2.1 d.2.2.2.2.2.2.2.1 d.2.2.2.2.2.2.2.2.1 d.2.2.2.2.2.2.2.2.2.1) (val_2.1.1,val_2.2.1,0,[],0,[],1,[],val.1.1,[],())).bind fun val=>some ((val.2.2.2.2.2,()),val.1,()) else ((Aa val.2.1 8).bind fun val=>some ((val.1,()),val.2,())).bind fun val=>((fun d=>Ad (Ae d.1 d.2.1 d.2.2.1 d.2.2.2.1 d.2.2.2.2.1 d.2.2.2.2.2.1 d.2.2.2.2.2.2.1 d.2.2.2.2.2.2.2.1 d.2.2.2.2.2.2.2.2.1 d.2.2.2.2.2.2.2.2.2.1) d.1 d.2.1 d.2.2.1 d.2.2.2.1 d.2.2.2.2.1 d.2.2.2.2.2.1 d.2.2.2.2.2.2.1 d.2.2.2.2.2.2.2.1 d.2.2.2.2.2.2.2.2.1 d.2.2.2.2.2.2.2.2.2.1) (val.1.1,val.2.1,0,[],0,[],1,[],-1,[],())).bind fun val=>some ((val.2.2.2.2.2,()),val.1,()) else bif decide (val.1.1 < 11) then (m_spec_l4DrawBatch val.2.1).bind fun val=>((Aa val.2.1 4).bind fun val=>some ((val.1,()),val.2,())).bind fun val_1=>bif val_1.1.1==0 then ((Aa val_1.2.1 5).bind fun val=>some ((val.1,()),val.2,())).bind fun val_2=>((Aa val_2.2.1 4).bind fun val=>some ((val.1,()),val.2,())).bind fun val_3=>bif val_3.1.1==0 then ((Aa val_3.2.1 14).bind fun val=>some ((val.1,()),val.2,())).bind fun val_4=>((Aa val_4.2.1 8).bind fun val=>some ((val.1,()),val.2,())).bind fun val_5=>((fun d=>Ad (Ae d.1 d.2.1 d.2.2.1 d.2.2.2.1 d.2.2.2.2.1 d.2.2.2.2.2.1 d.2.2.2.2.2.2.1 d.2.2.2.2.2.2.2.1 d.2.2.2.2.2.2.2.2.1 d.2.2.2.2.2.2.2.2.2.1) d.1 d.2.1 d.2.2.1 d.2.2.2.1 d.2.2.2.2.1 d.2.2.2.2.2.1 d.2.2.2.2.2.2.1 d.2.2.2.2.2.2.2.1 d.2.2.2.2.2.2.2.2.1 d.2.2.2.2.2.2.2.2.2.1) (val_5.1.1,val_5.2.1,0,[],0,[],2,val.1.1,val_4.1.1,[],())).bind fun val=>some ((val.2.2.2.2.2,()),val.1,()) else ((Aa val_3.2.1 8).bind fun val=>some ((val.1,()),val.2,())).bind fun val_4=>((fun d=>Ad (Ae d.1 d.2.1 d.2.2.1 d.2.2.2.1 d.2.2.2.2.1 d.2.2.2.2.2.1 d.2.2.2.2.2.2.1 d.2.2.2.2.2.2.2.1 d.2.2.2.2.2.2.2.2.1 d.2.2.2.2.2.2.2.2.2.1) d.1 d.2.1 d.2.2.1 d.2.2.2.1 d.2.2.2.2.1 d.2.2.2.2.2.1 d.2.2.2.2.2.2.1 d.2.2.2.2.2.2.2.1 d.2.2.2.2.2.2.2.2.1 d.2.2.2.2.2.2.2.2.2.1) (val_4.1.1,val_4.2.1,0,[],0,[],2,val.1.1,val_2.1.1,[],())).bind fun val=>some ((val.2.2.2.2.2,()),val.1,()) else ((Aa val_1.2.1 8).bind fun val=>some ((val.1,()),val.2,())).bind fun val_2=>((fun d=>Ad (Ae d.1 d.2.1 d.2.2.1 d.2.2.2.1 d.2.2.2.2.1 d.2.2.2.2.2.1 d.2.2.2.2.2.2.1 d.2.2.2.2.2.2.2.1 d.2.2.2.2.2.2.2.2.1 d.2.2.2.2.2.2.2.2.2.1) d.1 d.2.1 d.2.2.1 d.2.2.2.1 d.2.2.2.2.1 d.2.2.2.2.2.1 d.2.2.2.2.2.2.1 d.2.2.2.2.2.2.2.1 d.2.2.2.2.2.2.2.2.1 d.2.2.2.2.2.2.2.2.2.1) (val_2.1.1,val_2.2.1,0,[],0,[],2,val.1.1,-1,[],())).bind fun val=>some ((val.2.2.2.2.2,()),val.1,()) else bif decide (val.1.1 < 14) then ((Aa val.2.1 4).bind fun val=>some ((val.1,()),val.2,())).bind fun val=>bif val.1.1==0 then ((Aa val.2.1 5).bind fun val=>some ((val.1,()),val.2,())).bind fun val=>((Aa val.2.1 4).bind fun val=>some ((val.1,()),val.2,())).bind fun val_1=>bif val_1.1.1==0 then ((Aa val_1.2.1 14).bind fun val=>some ((val.1,()),val.2,())).bind fun val=>((Aa val.2.1 8).bind fun val=>some ((val.1,()),val.2,())).bind fun val_2=>((fun d=>Ad (Ae d.1 d.2.1 d.2.2.1 d.2.2.2.1 d.2.2.2.2.1 d.2.2.2.2.2.1 d.2.2.2.2.2.2.1 d.2.2.2.2.2.2.2.1 d.2.2.2.2.2.2.2.2.1 d.2.2.2.2.2.2.2.2.2.1) d.1 d.2.1 d.2.2.1 d.2.2.2.1 d.2.2.2.2.1 d.2.2.2.2.2.1 d.2.2.2.2.2.2.1 d.2.2.2.2.2.2.2.1 d.2.2.2.2.2.2.2.2.1 d.2.2.2.2.2.2.2.2.2.1) (val_2.1.1,val_2.2.1,0,[],0,[],3,[],val.1.1,[],())).bind fun val=>some ((val.2.2.2.2.2,()),val.1,()) else ((Aa val_1.2.1 8).bind fun val=>some ((val.1,()),val.2,())).bind fun val_2=>((fun d=>Ad (Ae d.1 d.2.1 d.2.2.1 d.2.2.2.1 d.2.2.2.2.1 d.2.2.2.2.2.1 d.2.2.2.2.2.2.1 d.2.2.2.2.2.2.2.1 d.2.2.2.2.2.2.2.2.1 d.2.2.2.2.2.2.2.2.2.1) d.1 d.2.1 d.2.2.1 d.2.2.2.1 d.2.2.2.2.1 d.2.2.2.2.2.1 d.2.2.2.2.2.2.1 d.2.2.2.2.2.2.2.1 d.2.2.2.2.2.2.2.2.1 d.2.2.2.2.2.2.2.2.2.1) (val_2.1.1,val_2.2.1,0,[],0,[],3,[],val.1.1,[],())).bind fun val=>some ((val.2.2.2.2.2,()),val.1,()) else ((Aa val.2.1 8).bind fun val=>some ((val.1,()),val.2,())).bind fun val=>((fun d=>Ad (Ae d.1 d.2.1 d.2.2.1 d.2.2.2.1 d.2.2.2.2.1 d.2.2.2.2.2.1 d.2.2.2.2.2.2.1 d.2.2.2.2.2.2.2.1 d.2.2.2.2.2.2.2.2.1 d.2.2.2.2.2.2.2.2.2.1) d.1 d.2.1 d.2.2.1 d.2.2.2.1 d.2.2.2.2.1 d.2.2.2.2.2.1 d.2.2.2.2.2.2.1 d.2.2.2.2.2.2.2.1 d.2.2.2.2.2.2.2.2.1 d.2.2.2.2.2.2.2.2.2.1) (val.1.1,val.2.1,0,[],0,[],3,[],-1,[],())).bind fun val=>some ((val.2.2.2.2.2,()),val.1,()) else bif decide (val.1.1 < 17) then ((Aa val.2.1 4).bind fun val=>some ((val.1,()),val.2,())).bind fun val=>bif val.1.1==0 then ((Aa val.2.1 5).bind fun val=>some ((val.1,()),val.2,())).bind fun val=>((Aa val.2.1 4).bind fun val=>some ((val.1,()),val.2,())).bind fun val_1=>bif val_1.1.1==0 then ((Aa val_1.2.1 14).bind fun val=>some ((val.1,()),val.2,())).bind fun val=>((Aa val.2.1 8).bind fun val=>some ((val.1,()),val.2,())).bind fun val_2=>((fun d=>Ad (Ae d.1 d.2.1 d.2.2.1 d.2.2.2.1 d.2.2.2.2.1 d.2.2.2.2.2.1 d.2.2.2.2.2.2.1 d.2.2.2.2.2.2.2.1 d.2.2.2.2.2.2.2.2.1 d.2.2.2.2.2.2.2.2.2.1) d.1 d.2.1 d.2.2.1 d.2.2.2.1 d.2.2.2.2.1 d.2.2.2.2.2.1 d.2.2.2.2.2.2.1 d.2.2.2.2.2.2.2.1 d.2.2.2.2.2.2.2.2.1 d.2.2.2.2.2.2.2.2.2.1) (val_2.1.1,val_2.2.1,0,[],0,[],4,[],val.1.1,[],())).bind fun val=>some ((val.2.2.2.2.2,()),val.1,()) else ((Aa val_1.2.1 8).bind fun val=>some ((val.1,()),val.2,())).bind fun val_2=>((fun d=>Ad (Ae d.1 d.2.1 d.2.2.1 d.2.2.2.1 d.2.2.2.2.1 d.2.2.2.2.2.1 d.2.2.2.2.2.2.1 d.2.2.2.2.2.2.2.1 d.2.2.2.2.2.2.2.2.1 d.2.2.2.2.2.2.2.2.2.1) d.1 d.2.1 d.2.2.1 d.2.2.2.1 d.2.2.2.2.1 d.2.2.2.2.2.1 d.2.2.2.2.2.2.1 d.2.2.2.2.2.2.2.1 d.2.2.2.2.2.2.2.2.1 d.2.2.2.2.2.2.2.2.2.1) (val_2.1.1,val_2.2.1,0,[],0,[],4,[],val.1.1,[],())).bind fun val=>some ((val.2.2.2.2.2,()),val.1,()) else ((Aa val.2.1 8).bind fun val=>some ((val.1,()),val.2,())).bind fun val=>((fun d=>Ad (Ae d.1 d.2.1 d.2.2.1 d.2.2.2.1 d.2.2.2.2.1 d.2.2.2.2.2.1 d.2.2.2.2.2.2.1 d.2.2.2.2.2.2.2.1 d.2.2.2.2.2.2.2.2.1 d.2.2.2.2.2.2.2.2.2.1) d.1 d.2.1 d.2.2.1 d.2.2.2.1 d.2.2.2.2.1 d.2.2.2.2.2.1 d.2.2.2.2.2.2.1 d.2.2.2.2.2.2.2.1 d.2.2.2.2.2.2.2.2.1 d.2.2.2.2.2.2.2.2.2.1) (val.1.1,val.2.1,0,[],0,[],4,[],-1,[],())).bind fun val=>some ((val.2.2.2.2.2,()),val.1,()) else bif decide (val.1.1 < 19) then ((Aa val.2.1 4).bind fun val=>some ((val.1,()),val.2,())).bind fun val=>bif val.1.1==0 then ((Aa val.2.1 5).bind fun val=>some ((val.1,()),val.2,())).bind fun val=>((Aa val.2.1 4).bind fun val=>some ((val.1,()),val.2,())).bind fun val_1=>bif val_1.1.1==0 then ((Aa val_1.2.1 14).bind fun val=>some ((val.1,()),val.2,())).bind fun val=>((Aa val.2.1 8).bind fun val=>some ((val.1,()),val.2,())).bind fun val_2=>((fun d=>Ad (Ae d.1 d.2.1 d.2.2.1 d.2.2.2.1 d.2.2.2.2.1 d.2.2.2.2.2.1 d.2.2.2.2.2.2.1 d.2.2.2.2.2.2.2.1 d.2.2.2.2.2.2.2.2.1 d.2.2.2.2.2.2.2.2.2.1) d.1 d.2.1 d.2.2.1 d.2.2.2.1 d.2.2.2.2.1 d.2.2.2.2.2.1 d.2.2.2.2.2.2.1 d.2.2.2.2.2.2.2.1 d.2.2.2.2.2.2.2.2.1 d.2.2.2.2.2.2.2.2.2.1) (val_2.1.1,val_2.2.1,0,[],0,[],5,[],val.1.1,[],())).bind fun val=>some ((val.2.2.2.2.2,()),val.1,()) else ((Aa val_1.2.1 8).bind fun val=>some ((val.1,()),val.2,())).bind fun val_2=>((fun d=>Ad (Ae d.1 d.2.1 d.2.2.1 d.2.2.2.1 d.2.2.2.2.1 d.2.2.2.2.2.1 d.2.2.2.2.2.2.1 d.2.2.2.2.2.2.2.1 d.2.2.2.2.2.2.2.2.1 d.2.2.2.2.2.2.2.2.2.1) d.1 d.2.1 d.2.2.1 d.2.2.2.1 d.2.2.2.2.1 d.2.2.2.2.2.1 d.2.2.2.2.2.2.1 d.2.2.2.2.2.2.2.1 d.2.2.2.2.2.2.2.2.1 d.2.2.2.2.2.2.2.2.2.1) (val_2.1.1,val_2.2.1,0,[],0,[],5,[],val.1.1,[],())).bind fun val=>some ((val.2.2.2.2.2,()),val.1,()) else ((Aa val.2.1 8).bind fun val=>some ((val.1,()),val.2,())).bind fun val=>((fun d=>Ad (Ae d.1 d.2.1 d.2.2.1 d.2.2.2.1 d.2.2.2.2.1 d.2.2.2.2.2.1 d.2.2.2.2.2.2.1 d.2.2.2.2.2.2.2.1 d.2.2.2.2.2.2.2.2.1 d.2.2.2.2.2.2.2.2.2.1) d.1 d.2.1 d.2.2.1 d.2.2.2.1 d.2.2.2.2.1 d.2.2.2.2.2.1 d.2.2.2.2.2.2.1 d.2.2.2.2.2.2.2.1 d.2.2.2.2.2.2.2.2.1 d.2.2.2.2.2.2.2.2.2.1) (val.1.1,val.2.1,0,[],0,[],5,[],-1,[],())).bind fun val=>some ((val.2.2.2.2.2,()),val.1,()) else ((Aa val.2.1 4).bind fun val=>some ((val.1,()),val.2,())).bind fun val=>bif decide (0≤val.1.1) then bif decide (val.1.1 < nI [1,2,0,6].length) then ((Aa val.2.1 4).bind fun val=>some ((val.1,()),val.2,())).bind fun val_1=>bif val_1.1.1==0 then ((Aa val_1.2.1 5).bind fun val=>some ((val.1,()),val.2,())).bind fun val_2=>((Aa val_2.2.1 4).bind fun val=>some ((val.1,()),val.2,())).bind fun val_3=>bif val_3.1.1==0 then ((Aa val_3.2.1 14).bind fun val=>some ((val.1,()),val.2,())).bind fun val_4=>((Aa val_4.2.1 8).bind fun val=>some ((val.1,()),val.2,())).bind fun val_5=>((fun d=>Ad (Ae d.1 d.2.1 d.2.2.1 d.2.2.2.1 d.2.2.2.2.1 d.2.2.2.2.2.1 d.2.2.2.2.2.2.1 d.2.2.2.2.2.2.2.1 d.2.2.2.2.2.2.2.2.1 d.2.2.2.2.2.2.2.2.2.1) d.1 d.2.1 d.2.2.1 d.2.2.2.1 d.2.2.2.2.1 d.2.2.2.2.2.1 d.2.2.2.2.2.2.1 d.2.2.2.2.2.2.2.1 d.2.2.2.2.2.2.2.2.1 d.2.2.2.2.2.2.2.2.2.1) (val_5.1.1,val_5.2.1,0,[],0,[],[1,2,0,6].getD (Int.toNat val.1.1) 0,[],val_4.1.1,[],())).bind fun val=>some ((val.2.2.2.2.2,()),val.1,()) else ((Aa val_3.2.1 8).bind fun val=>some ((val.1,()),val.2,())).bind fun val_4=>((fun d=>Ad (Ae d.1 d.2.1 d.2.2.1 d.2.2.2.1 d.2.2.2.2.1 d.2.2.2.2.2.1 d.2.2.2.2.2.2.1 d.2.2.2.2.2.2.2.1 d.2.2.2.2.2.2.2.2.1 d.2.2.2.2.2.2.2.2.2.1) d.1 d.2.1 d.2.2.1 d.2.2.2.1 d.2.2.2.2.1 d.2.2.2.2.2.1 d.2.2.2.2.2.2.1 d.2.2.2.2.2.2.2.1 d.2.2.2.2.2.2.2.2.1 d.2.2.2.2.2.2.2.2.2.1) (val_4.1.1,val_4.2.1,0,[],0,[],[1,2,0,6].getD (Int.toNat val.1.1) 0,[],val_2.1.1,[],())).bind fun val=>some ((val.2.2.2.2.2,()),val.1,()) else ((Aa val_1.2.1 8).bind fun val=>some ((val.1,()),val.2,())).bind fun val_2=>((fun d=>Ad (Ae d.1 d.2.1 d.2.2.1 d.2.2.2.1 d.2.2.2.2.1 d.2.2.2.2.2.1 d.2.2.2.2.2.2.1 d.2.2.2.2.2.2.2.1 d.2.2.2.2.2.2.2.2.1 d.2.2.2.2.2.2.2.2.2.1) d.1 d.2.1 d.2.2.1 d.2.2.2.1 d.2.2.2.2.1 d.2.2.2.2.2.1 d.2.2.2.2.2.2.1 d.2.2.2.2.2.2.2.1 d.2.2.2.2.2.2.2.2.1 d.2.2.2.2.2.2.2.2.2.1) (val_2.1.1,val_2.2.1,0,[],0,[],[1,2,0,6].getD (Int.toNat val.1.1) 0,[],-1,[],())).bind fun val=>some ((val.2.2.2.2.2,()),val.1,()) else none else none else bif decide (val.1.1 < 11) then (m_spec_l4DrawBatch val.2.1).bind fun val=>((Aa val.2.1 4).bind fun val=>some ((val.1,()),val.2,())).bind fun val_1=>bif val_1.1.1==0 then ((Aa val_1.2.1 5).bind fun val=>some ((val.1,()),val.2,())).bind fun val_2=>((Aa val_2.2.1 4).bind fun val=>some ((val.1,()),val.2,())).bind fun val_3=>bif val_3.1.1==0 then ((Aa val_3.2.1 14).bind fun val=>some ((val.1,()),val.2,())).bind fun val_4=>((Aa val_4.2.1 8).bind fun val=>some ((val.1,()),val.2,())).bind fun val_5=>((fun d=>Ad (Ae d.1 d.2.1 d.2.2.1 d.2.2.2.1 d.2.2.2.2.1 d.2.2.2.2.2.1 d.2.2.2.2.2.2.1 d.2.2.2.2.2.2.2.1 d.2.2.2.2.2.2.2.2.1 d.2.2.2.2.2.2.2.2.2.1) d.1 d.2.1 d.2.2.1 d.2.2.2.1 d.2.2.2.2.1 d.2.2.2.2.2.1 d.2.2.2.2.2.2.1 d.2.2.2.2.2.2.2.1 d.2.2.2.2.2.2.2.2.1 d.2.2.2.2.2.2.2.2.2.1) (val_5.1.1,val_5.2.1,0,[],0,[],2,val.1.1,val_4.1.1,[],())).bind fun val=>some ((val.2.2.2.2.2,()),val.1,()) else ((Aa val_3.2.1 8).bind fun val=>some ((val.1,()),val.2,())).bind fun val_4=>((fun d=>Ad (Ae d.1 d.2.1 d.2.2.1 d.2.2.2.1 d.2.2.2.2.1 d.2.2.2.2.2.1 d.2.2.2.2.2.2.1 d.2.2.2.2.2.2.2.1 d.2.2.2.2.2.2.2.2.1 d.2.2.2.2.2.2.2.2.2.1) d.1 d.2.1 d.2.2.1 d.2.2.2.1 d.2.2.2.2.1 d.2.2.2.2.2.1 d.2.2.2.2.2.2.1 d.2.2.2.2.2.2.2.1 d.2.2.2.2.2.2.2.2.1 d.2.2.2.2.2.2.2.2.2.1) (val_4.1.1,val_4.2.1,0,[],0,[],2,val.1.1,val_2.1.1,[],())).bind fun val=>some ((val.2.2.2.2.2,()),val.1,()) else ((Aa val_1.2.1 8).bind fun val=>some ((val.1,()),val.2,())).bind fun val_2=>((fun d=>Ad (Ae d.1 d.2.1 d.2.2.1 d.2.2.2.1 d.2.2.2.2.1 d.2.2.2.2.2.1 d.2.2.2.2.2.2.1 d.2.2.2.2.2.2.2.1 d.2.2.2.2.2.2.2.2.1 d.2.2.2.2.2.2.2.2.2.1) d.1 d.2.1 d.2.2.1 d.2.2.2.1 d.2.2.2.2.1 d.2.2.2.2.2.1 d.2.2.2.2.2.2.1 d.2.2.2.2.2.2.2.1 d.2.2.2.2.2.2.2.2.1 d.2.2.2.2.2.2.2.2.2.1) (val_2.1.1,val_2.2.1,0,[],0,[],2,val.1.1,-1,[],())).bind fun val=>some ((val.2.2.2.2.2,()),val.1,()) else bif decide (val.1.1 < 14) then ((Aa val.2.1 4).bind fun val=>some ((val.1,()),val.2,())).bind fun val=>bif val.1.1==0 then ((Aa val.2.1 5).bind fun val=>some ((val.1,()),val.2,())).bind fun val=>((Aa val.2.1 4).bind fun val=>some ((val.1,()),val.2,())).bind fun val_1=>bif val_1.1.1==0 then ((Aa val_1.2.1 14).bind fun val=>some ((val.1,()),val.2,())).bind fun val=>((Aa val.2.1 8).bind fun val=>some ((val.1,()),val.2,())).bind fun val_2=>((fun d=>Ad (Ae d.1 d.2.1 d.2.2.1 d.2.2.2.1 d.2.2.2.2.1 d.2.2.2.2.2.1 d.2.2.2.2.2.2.1 d.2.2.2.2.2.2.2.1 d.2.2.2.2.2.2.2.2.1 d.2.2.2.2.2.2.2.2.2.1) d.1 d.2.1 d.2.2.1 d.2.2.2.1 d.2.2.2.2.1 d.2.2.2.2.2.1 d.2.2.2.2.2.2.1 d.2.2.2.2.2.2.2.1 d.2.2.2.2.2.2.2.2.1 d.2.2.2.2.2.2.2.2.2.1) (val_2.1.1,val_2.2.1,0,[],0,[],3,[],val.1.1,[],())).bind fun val=>some ((val.2.2.2.2.2,()),val.1,()) else ((Aa val_1.2.1 8).bind fun val=>some ((val.1,()),val.2,())).bind fun val_2=>((fun d=>Ad (Ae d.1 d.2.1 d.2.2.1 d.2.2.2.1 d.2.2.2.2.1 d.2.2.2.2.2.1 d.2.2.2.2.2.2.1 d.2.2.2.2.2.2.2.1 d.2.2.2.2.2.2.2.2.1 d.2.2.2.2.2.2.2.2.2.1) d.1 d.2.1 d.2.2.1 d.2.2.2.1 d.2.2.2.2.1 d.2.2.2.2.2.1 d.2.2.2.2.2.2.1 d.2.2.2.2.2.2.2.1 d.2.2.2.2.2.2.2.2.1 d.2.2.2.2.2.2.2.2.2.1) (val_2.1.1,val_2.2.1,0,[],0,[],3,[],val.1.1,[],())).bind fun val=>some ((val.2.2.2.2.2,()),val.1,()) else ((Aa val.2.1 8).bind fun val=>some ((val.1,()),val.2,())).bind fun val=>((fun d=>Ad (Ae d.1 d.2.1 d.2.2.1 d.2.2.2.1 d.2.2.2.2.1 d.2.2.2.2.2.1 d.2.2.2.2.2.2.1 d.2.2.2.2.2.2.2.1 d.2.2.2.2.2.2.2.2.1 d.2.2.2.2.2.2.2.2.2.1) d.1 d.2.1 d.2.2.1 d.2.2.2.1 d.2.2.2.2.1 d.2.2.2.2.2.1 d.2.2.2.2.2.2.1 d.2.2.2.2.2.2.2.1 d.2.2.2.2.2.2.2.2.1 d.2.2.2.2.2.2.2.2.2.1) (val.1.1,val.2.1,0,[],0,[],3,[],-1,[],())).bind fun val=>some ((val.2.2.2.2.2,()),val.1,()) else bif decide (val.1.1 < 17) then ((Aa val.2.1 4).bind fun val=>some ((val.1,()),val.2,())).bind fun val=>bif val.1.1==0 then ((Aa val.2.1 5).bind fun val=>some ((val.1,()),val.2,())).bind fun val=>((Aa val.2.1 4).bind fun val=>some ((val.1,()),val.2,())).bind fun val_1=>bif val_1.1.1==0 then ((Aa val_1.2.1 14).bind fun val=>some ((val.1,()),val.2,())).bind fun val=>((Aa val.2.1 8).bind fun val=>some ((val.1,()),val.2,())).bind fun val_2=>((fun d=>Ad (Ae d.1 d.2.1 d.2.2.1 d.2.2.2.1 d.2.2.2.2.1 d.2.2.2.2.2.1 d.2.2.2.2.2.2.1 d.2.2.2.2.2.2.2.1 d.2.2.2.2.2.2.2.2.1 d.2.2.2.2.2.2.2.2.2.1) d.1 d.2.1 d.2.2.1 d.2.2.2.1 d.2.2.2.2.1 d.2.2.2.2.2.1 d.2.2.2.2.2.2.1 d.2.2.2.2.2.2.2.1 d.2.2.2.2.2.2.2.2.1 d.2.2.2.2.2.2.2.2.2.1) (val_2.1.1,val_2.2.1,0,[],0,[],4,[],val.1.1,[],())).bind fun val=>some ((val.2.2.2.2.2,()),val.1,()) else ((Aa val_1.2.1 8).bind fun val=>some ((val.1,()),val.2,())).bind fun val_2=>((fun d=>Ad (Ae d.1 d.2.1 d.2.2.1 d.2.2.2.1 d.2.2.2.2.1 d.2.2.2.2.2.1 d.2.2.2.2.2.2.1 d.2.2.2.2.2.2.2.1 d.2.2.2.2.2.2.2.2.1 d.2.2.2.2.2.2.2.2.2.1) d.1 d.2.1 d.2.2.1 d.2.2.2.1 d.2.2.2.2.1 d.2.2.2.2.2.1 d.2.2.2.2.2.2.1 d.2.2.2.2.2.2.2.1 d.2.2.2.2.2.2.2.2.1 d.2.2.2.2.2.2.2.2.2.1) (val_2.1.1,val_2.2.1,0,[],0,[],4,[],val.1.1,[],())).bind fun val=>some ((val.2.2.2.2.2,()),val.1,()) else ((Aa val.2.1 8).bind fun val=>some ((val.1,()),val.2,())).bind fun val=>((fun d=>Ad (Ae d.1 d.2.1 d.2.2.1 d.2.2.2.1 d.2.2.2.2.1 d.2.2.2.2.2.1 d.2.2.2.2.2.2.1 d.2.2.2.2.2.2.2.1 d.2.2.2.2.2.2.2.2.1 d.2.2.2.2.2.2.2.2.2.1) d.1 d.2.1 d.2.2.1 d.2.2.2.1 d.2.2.2.2.1 d.2.2.2.2.2.1 d.2.2.2.2.2.2.1 d.2.2.2.2.2.2.2.1 d.2.2.2.2.2.2.2.2.1 d.2.2.2.2.2.2.2.2.2.1) (val.1.1,val.2.1,0,[],0,[],4,[],-1,[],())).bind fun val=>some ((val.2.2.2.2.2,()),val.1,()) else bif decide (val.1.1 < 19) then ((Aa val.2.1 4).bind fun val=>some ((val.1,()),val.2,())).bind fun val=>bif val.1.1==0 then ((Aa val.2.1 5).bind fun val=>some ((val.1,()),val.2,())).bind fun val=>((Aa val.2.1 4).bind fun val=>some ((val.1,()),val.2,())).bind fun val_1=>bif val_1.1.1==0 then ((Aa val_1.2.1 14).bind fun val=>some ((val.1,()),val.2,())).bind fun val=>((Aa val.2.1 8).bind fun val=>some ((val.1,()),val.2,())).bind fun val_2=>((fun d=>Ad (Ae d.1 d.2.1 d.2.2.1 d.2.2.2.1 d.2.2.2.2.1 d.2.2.2.2.2.1 d.2.2.2.2.2.2.1 d.2.2.2.2.2.2.2.1 d.2.2.2.2.2.2.2.2.1 d.2.2.2.2.2.2.2.2.2.1) d.1 d.2.1 d.2.2.1 d.2.2.2.1 d.2.2.2.2.1 d.2.2.2.2.2.1 d.2.2.2.2.2.2.1 d.2.2.2.2.2.2.2.1 d.2.2.2.2.2.2.2.2.1 d.2.2.2.2.2.2.2.2.2.1) (val_2.1.1,val_2.2.1,0,[],0,[],5,[],val.1.1,[],())).bind fun val=>some ((val.2.2.2.2.2,()),val.1,()) else ((Aa val_1.2.1 8).bind fun val=>some ((val.1,()),val.2,())).bind fun val_2=>((fun d=>Ad (Ae d.1 d.2.1 d.2.2.1 d.2.2.2.1 d.2.2.2.2.1 d.2.2.2.2.2.1 d.2.2.2.2.2.2.1 d.2.2.2.2.2.2.2.1 d.2.2.2.2.2.2.2.2.1 d.2.2.2.2.2.2.2.2.2.1) d.1 d.2.1 d.2.2.1 d.2.2.2.1 d.2.2.2.2.1 d.2.2.2.2.2.1 d.2.2.2.2.2.2.1 d.2.2.2.2.2.2.2.1 d.2.2.2.2.2.2.2.2.1 d.2.2.2.2.2.2.2.2.2.1) (val_2.1.1,val_2.2.1,0,[],0,[],5,[],val.1.1,[],())).bind fun val=>some ((val.2.2.2.2.2,()),val.1,()) else ((Aa val.2.1 8).bind fun val=>some ((val.1,()),val.2,())).bind fun val=>((fun d=>Ad (Ae d.1 d.2.1 d.2.2.1 d.2.2.2.1 d.2.2.2.2.1 d.2.2.2.2.2.1 d.2.2.2.2.2.2.1 d.2.2.2.2.2.2.2.1 d.2.2.2.2.2.2.2.2.1 d.2.2.2.2.2.2.2.2.2.1) d.1 d.2.1 d.2.2.1 d.2.2.2.1 d.2.2.2.2.1 d.2.2.2.2.2.1 d.2.2.2.2.2.2.1 d.2.2.2.2.2.2.2.1 d.2.2.2.2.2.2.2.2.1 d.2.2.2.2.2.2.2.2.2.1) (val.1.1,val.2.1,0,[],0,[],5,[],-1,[],())).bind fun val=>some ((val.2.2.2.2.2,()),val.1,()) else ((Aa val.2.1 4).bind fun val=>some ((val.1,()),val.2,())).bind fun val=>bif decide (0≤val.1.1) then bif decide (val.1.1 < nI [1,2,0,6].length) then ((Aa val.2.1 4).bind fun val=>some ((val.1,()),val.2,())).bind fun val_1=>bif val_1.1.1==0 then ((Aa val_1.2.1 5).bind fun val=>some ((val.1,()),val.2,())).bind fun val_2=>((Aa val_2.2.1 4).bind fun val=>some ((val.1,()),val.2,())).bind fun val_3=>bif val_3.1.1==0 then ((Aa val_3.2.1 14).bind fun val=>some ((val.1,()),val.2,())).bind fun val_4=>((Aa val_4.2.1 8).bind fun val=>some ((val.1,()),val.2,())).bind fun val_5=>((fun d=>Ad (Ae d.1 d.2.1 d.2.2.1 d.2.2.2.1 d.2.2.2.2.1 d.2.2.2.2.2.1 d.2.2.2.2.2.2.1 d.2.2.2.2.2.2.2.1 d.2.2.2.2.2.2.2.2.1 d.2.2.2.2.2.2.2.2.2.1) d.1 d.2.1 d.2.2.1 d.2.2.2.1 d.2.2.2.2.1 d.2.2.2.2.2.1 d.2.2.2.2.2.2.1 d.2.2.2.2.2.2.2.1 d.2.2.2.2.2.2.2.2.1 d.2.2.2.2.2.2.2.2.2.1) (val_5.1.1,val_5.2.1,0,[],0,[],[1,2,0,6].getD (Int.toNat val.1.1) 0,[],val_4.1.1,[],())).bind fun val=>some ((val.2.2.2.2.2,()),val.1,()) else ((Aa val_3.2.1 8).bind fun val=>some ((val.1,()),val.2,())).bind fun val_4=>((fun d=>Ad (Ae d.1 d.2.1 d.2.2.1 d.2.2.2.1 d.2.2.2.2.1 d.2.2.2.2.2.1 d.2.2.2.2.2.2.1 d.2.2.2.2.2.2.2.1 d.2.2.2.2.2.2.2.2.1 d.2.2.2.2.2.2.2.2.2.1) d.1 d.2.1 d.2.2.1 d.2.2.2.1 d.2.2.2.2.1 d.2.2.2.2.2.1 d.2.2.2.2.2.2.1 d.2.2.2.2.2.2.2.1 d.2.2.2.2.2.2.2.2.1 d.2.2.2.2.2.2.2.2.2.1) (val_4.1.1,val_4.2.1,0,[],0,[],[1,2,0,6].getD (Int.toNat val.1.1) 0,[],val_2.1.1,[],())).bind fun val=>some ((val.2.2.2.2.2,()),val.1,()) else ((Aa val_1.2.1 8).bind fun val=>some ((val.1,()),val.2,())).bind fun val_2=>((fun d=>Ad (Ae d.1 d.2.1 d.2.2.1 d.2.2.2.1 d.2.2.2.2.1 d.2.2.2.2.2.1 d.2.2.2.2.2.2.1 d.2.2.2.2.2.2.2.1 d.2.2.2.2.2.2.2.2.1 d.2.2.2.2.2.2.2.2.2.1) d.1 d.2.1 d.2.2.1 d.2.2.2.1 d.2.2.2.2.1 d.2.2.2.2.2.1 d.2.2.2.2.2.2.1 d.2.2.2.2.2.2.2.1 d.2.2.2.2.2.2.2.2.1 d.2.2.2.2.2.2.2.2.2.1) (val_2.1.1,val_2.2.1,0,[],0,[],[1,2,0,6].getD (Int.toNat val.1.1) 0,[],-1,[],())).bind fun val=>some ((val.2.2.2.2.2,()),val.1,()) else none else none
theorem Xx:∃ f,f=@L8:=⟨_,rfl⟩
noncomputable def m_spec_l7Event:=Classical.choose Xx
theorem Xy:@m_spec_l7Event=@L8:=Classical.choose_spec Xx
noncomputable def sd_spec_l7Event:SD:=⟨Ail,fun x=>m_spec_l7Event x.1 x.2.1⟩
theorem Ayj (x1:Int) (x2:List Chg) (x3:Int) (x4:List Int) (y1:Int) (y2:List Chg) (y3:Int):∀ (n m K:Nat) (r:Rd) (f:List Int),n < m→f.length + n≤100→Kz K r→K + 2 * n < 1000000000000→
  Ai (Ad m n r x1 x2 x3 x4 y1 y2 y3 f) fun q=>Kz (K + 2 * n) q.1
 | 0,m + 1,K,r,f,_,_,h,_=>by
  simp only [Ad,Hl]
  exact Ai.no (by rfl) (Ai.some h)
 | n + 1,m + 1,K,r,f,hm,hf,h,hK=>by
  simp only [Ad,Hl]
  refine Ai.go (decide_eq_true (by omega)) ?_
  refine At h (by omega) (by omega) fun v r1 v0 v1 h1=>?_
  dsimp only
  refine At h1 (by omega) (by omega) fun u r2 u0 u1 h2=>?_
  dsimp only
  refine Ai.go (decide_eq_true u0) (Ai.go (decide_eq_true u1) (Ai.go (decide_eq_true (by rw [List.length_singleton]; omega)) ?_))
  rw [show IntKind.i64.wrap (((n + 1:Nat):Int) - 1)=(n:Int) by rw [Ag (by omega) (by omega)]; omega]
  refine (Ayj x1 x2 x3 x4 y1 y2 y3 n m (K + 1 + 1) r2 _ (by omega) (by rw [List.length_append,List.length_singleton]; omega) h2 (by omega)).mono fun q hq=>hq.mono (by omega)
theorem Awq {K:Nat} {r:Rd} (kind:Int) (b:List Chg) (cut:Int) (h:Kz K r) (hK:K + 100 < 1000000000000):
  Ai (((Aa r 8).bind fun val=>some ((val.1,()),val.2,())).bind fun val=>(Ad (Ae val.1.1 val.2.1 0 [] 0 [] kind b cut []) val.1.1 val.2.1 0 [] 0 [] kind b cut []).bind fun val=>some (((val.2.2.2.2.2,()),val.1,()):((Evt×Unit)×(Rd×Unit)))) fun q=>Kz (K + 40) q.2.1:=by
 refine At h (by omega) (by omega) fun v r1 v0 v1 h1=>?_
 dsimp only
 obtain ⟨n,rfl⟩:∃ n:Nat,v=(n:Int):=⟨v.toNat,by omega⟩
 refine Ai.bind (Ayj 0 [] 0 [] kind b cut n _ (K + 1) r1 [] (by simp only [Ae]; omega) (by simp; omega) h1 (by omega)) fun q hq=>Ai.some ?_
 exact hq.mono (by omega)
theorem Age {K:Nat} {r:Rd} (kind:Int) (b:List Chg) (h:Kz K r) (hK:K + 200 < 1000000000000):
  Ai (((Aa r 4).bind fun val=>some ((val.1,()),val.2,())).bind fun val_1=>bif val_1.1.1==0 then
   ((Aa val_1.2.1 5).bind fun val=>some ((val.1,()),val.2,())).bind fun val_2=>
    ((Aa val_2.2.1 4).bind fun val=>some ((val.1,()),val.2,())).bind fun val_3=>
     bif val_3.1.1==0 then
      ((Aa val_3.2.1 14).bind fun val=>some ((val.1,()),val.2,())).bind fun val_4=>
       ((Aa val_4.2.1 8).bind fun val=>some ((val.1,()),val.2,())).bind fun val=>(Ad (Ae val.1.1 val.2.1 0 [] 0 [] kind b val_4.1.1 []) val.1.1 val.2.1 0 [] 0 [] kind b val_4.1.1 []).bind fun val=>some (((val.2.2.2.2.2,()),val.1,()):((Evt×Unit)×(Rd×Unit)))
     else
      ((Aa val_3.2.1 8).bind fun val=>some ((val.1,()),val.2,())).bind fun val=>(Ad (Ae val.1.1 val.2.1 0 [] 0 [] kind b val_2.1.1 []) val.1.1 val.2.1 0 [] 0 [] kind b val_2.1.1 []).bind fun val=>some (((val.2.2.2.2.2,()),val.1,()):((Evt×Unit)×(Rd×Unit)))
   else
    ((Aa val_1.2.1 8).bind fun val=>some ((val.1,()),val.2,())).bind fun val=>(Ad (Ae val.1.1 val.2.1 0 [] 0 [] kind b (-1) []) val.1.1 val.2.1 0 [] 0 [] kind b (-1) []).bind fun val=>some (((val.2.2.2.2.2,()),val.1,()):((Evt×Unit)×(Rd×Unit)))) fun q=>Kz (K + 50) q.2.1:=by
 refine At h (by omega) (by omega) fun v r1 v0 v1 h1=>?_
 dsimp only
 refine Ai.cond (fun _=>?_) fun _=>(Awq kind b (-1) h1 (by omega)).mono fun q hq=>hq.mono (by omega)
 refine At h1 (by omega) (by omega) fun c r2 c0 c1 h2=>?_
 dsimp only
 refine At h2 (by omega) (by omega) fun u r3 u0 u1 h3=>?_
 dsimp only
 refine Ai.cond (fun _=>?_) fun _=>(Awq kind b c h3 (by omega)).mono fun q hq=>hq.mono (by omega)
 refine At h3 (by omega) (by omega) fun z r4 z0 z1 h4=>?_
 dsimp only
 exact (Awq kind b z h4 (by omega)).mono fun q hq=>hq.mono (by omega)
theorem A18 {K:Nat} {r:Rd} (up:Bool) (h:Kz K r) (hK:K + 1000 < 1000000000000):Ai (m_spec_l7Event r up) fun q=>Kz (K + 500) q.2.1:=by
 rw [Xy]
 unfold L8
 refine At h (by omega) (by omega) fun v r1 v0 v1 h1=>?_
 dsimp only
 refine Ai.cond (fun _=>Ai.cond (fun _=>(Age 1 [] h1 (by omega)).mono fun q hq=>hq.mono (by omega)) fun _=>?_) fun _=>?_
 all_goals
  refine Ai.cond (fun _=>?_) fun _=>Ai.cond (fun _=>(Age 3 [] h1 (by omega)).mono fun q hq=>hq.mono (by omega)) fun _=>Ai.cond (fun _=>(Age 4 [] h1 (by omega)).mono fun q hq=>hq.mono (by omega)) fun _=>Ai.cond (fun _=>(Age 5 [] h1 (by omega)).mono fun q hq=>hq.mono (by omega)) fun _=>?_
  ·refine Ai.bind (Aut h1 (by omega)) fun q hq=>?_
   exact (Age 2 q.1.1 hq.2 (by omega)).mono fun q hq=>hq.mono (by omega)
  ·refine At h1 (by omega) (by omega) fun c r2 c0 c1 h2=>?_
   dsimp only
   refine Ai.go (decide_eq_true c0) (Ai.go (decide_eq_true c1) ?_)
   exact (Age _ [] h2 (by omega)).mono fun q hq=>hq.mono (by omega)
noncomputable def So {R:Type} (k:Kt R):=(I1 (pa_spec_l7Event 21) (.exit 0) 2 k)
noncomputable def d7 {R:Type}:Lt R pa_spec_l7Event:=(Ed (pat:=pa_spec_l7Event) 21 (fun d k=>(Ad (Ae d.1 d.2.1 d.2.2.1 d.2.2.2.1 d.2.2.2.2.1 d.2.2.2.2.2.1 d.2.2.2.2.2.2.1 d.2.2.2.2.2.2.2.1 d.2.2.2.2.2.2.2.2.1 d.2.2.2.2.2.2.2.2.2.1) d.1 d.2.1 d.2.2.1 d.2.2.2.1 d.2.2.2.2.1 d.2.2.2.2.2.1 d.2.2.2.2.2.2.1 d.2.2.2.2.2.2.2.1 d.2.2.2.2.2.2.2.2.1 d.2.2.2.2.2.2.2.2.2.1).bind (So k)) Hu)
theorem Xz:A2 Tryz.prog ta_spec_l7Event:=A7 ⟨Bm,Qp,trivial⟩
theorem Abd {R:Type}:A3 Tryz.prog R 71 1 pa_spec_l7Event d7 co_spec_l7Event_21:=
 B3 (cfg:=⟨ta_spec_l7Event,1,71,pa_spec_l7Event⟩) 21 [] (fun NX X d=>Hl  NX X d.1 d.2.1 d.2.2.1 d.2.2.2.1 d.2.2.2.2.1 d.2.2.2.2.2.1 d.2.2.2.2.2.2.1 d.2.2.2.2.2.2.2.1 d.2.2.2.2.2.2.2.2.1 d.2.2.2.2.2.2.2.2.2.1) (fun m d=>Ad m d.1 d.2.1 d.2.2.1 d.2.2.2.1 d.2.2.2.2.1 d.2.2.2.2.2.1 d.2.2.2.2.2.2.1 d.2.2.2.2.2.2.2.1 d.2.2.2.2.2.2.2.2.1 d.2.2.2.2.2.2.2.2.2.1) (fun d=>Ae d.1 d.2.1 d.2.2.1 d.2.2.2.1 d.2.2.2.2.1 d.2.2.2.2.2.1 d.2.2.2.2.2.2.1 d.2.2.2.2.2.2.2.1 d.2.2.2.2.2.2.2.2.1 d.2.2.2.2.2.2.2.2.2.1) So Xz trivial (fun f NX d=>by unfold Hl; simp only [Al,Ar,Ak,Option.bind_assoc,Option.bind_none,Option.bind_some]) (fun _ _ _=>by kernel_rfl)
theorem Aim:B2 Tryz.prog 145 sd_spec_l7Event:=
 A6 (pat:=pa_spec_l7Event) [co_spec_l7Event_21] d7 Xz ⟨Abd,trivial⟩ Tryz.func145 (de:=fun x=>L8 x.1 x.2.1) (fun x r h=>by have q:m_spec_l7Event x.1 x.2.1=some r:=h; rw [Xy] at q; exact q) fun _=>by kernel_rfl
def A5:ByteArray:=zS
def Ain:Sig:=⟨[],[],[.rd .str],[none]⟩
noncomputable def sd_spec_l2Zeros:SD:=⟨Ain,fun x=>some (((A5),()),(()))⟩
noncomputable def X0  : Option ((((ByteArray)×Unit)×(Unit))):=
 some ((strOfNums (List.replicate (Int.toNat 64) 0),()),())
theorem Aio  : X0  = some ((A5,()),(())):=rfl
theorem L9:B2 Tryz.prog 155 sd_spec_l2Zeros:=
 A6 (pat:=D3) [] Hu (A7 (l:=[]) trivial) trivial Tryz.func155 (de:=fun x=>X0 ) (fun x r h=>(Aio ).trans h) fun _=>by kernel_rfl
def E0 (n:Int):Dk:=Nm n
def Aip:Sig:=⟨[.rd tI],[none],[.own 9 .str,.own 174 Da],[some 2]⟩
noncomputable def sd_spec_NewDisk:SD:=⟨Aip,fun x=>some (((E0 x.1).1,(E0 x.1).2.1,()),(()))⟩
noncomputable def ta_spec_NewDisk:Tb:=tb [(155,sd_spec_l2Zeros)]
def pa_spec_NewDisk:Nat→Pat×(Nat→Pat):=Gf [(6,⟨[.boxRow 2 0 9 .str,.boxRow 2 1 174 Da,.boxRow 3 0 9 .str,.boxRow 3 1 174 Da],[(0,.lf (.d tI)),(2,.lf (.ptr 0 0)),(3,.lf (.ptr 1 0)),(4,.lf (.d tI))],[.box 26 [.row 2,.row 3],.box 26 [.row 4,.row 5],.row 9 .str,.row 174 Da,.row 9 .str,.row 174 Da]⟩,[(2,⟨[.boxRow 2 0 9 .str,.boxRow 2 1 174 Da,.boxRow 3 0 9 .str,.boxRow 3 1 174 Da],[(2,.lf (.ptr 0 0)),(3,.lf (.ptr 1 0))],[.box 26 [.row 2,.row 3],.box 26 [.row 4,.row 5],.row 9 .str,.row 174 Da,.row 9 .str,.row 174 Da]⟩)])]
noncomputable def co_spec_NewDisk_6:Code:=(As (Ba Tryz.f144)).getD 0 .skip
def E1 (v0:Int) (v4:Int) (r2:List ByteArray) (r3:List Wr) (r4:List ByteArray) (r5:List Wr):Nat:=(v0 - v4).toNat + 1
noncomputable def Ii {R:Type}  (NX:((Int)×(Int)×(List ByteArray)×(List Wr)×(List ByteArray)×(List Wr)×Unit)→Option R) (X2:((List ByteArray)×(List Wr)×(List ByteArray)×(List Wr)×Unit)→Option R) (v0:Int) (v4:Int) (r2:List ByteArray) (r3:List Wr) (r4:List ByteArray) (r5:List Wr):Option R:=
 bif decide (v4 < v0) then bif decide ((r4.length + [A5].length) * 16≤140737488355328) then NX (v0,IntKind.i64.wrap (v4 + 1),r2,r3,r4++[A5],r5,()) else none else X2 (r2,r3,r4,r5,())
noncomputable def Cb:Nat→(Int)→(Int)→(List ByteArray)→(List Wr)→(List ByteArray)→(List Wr) →  Option ((List ByteArray)×(List Wr)×(List ByteArray)×(List Wr)×Unit)
 | 0,_,_,_,_,_,_=>none
 | m + 1,v0,v4,r2,r3,r4,r5=>Ii  (fun d=>Cb m d.1 d.2.1 d.2.2.1 d.2.2.2.1 d.2.2.2.2.1 d.2.2.2.2.2.1) (fun d=>some (d)) v0 v4 r2 r3 r4 r5
noncomputable def Qc (a0:Int):Option ((Dk×(Unit))):=
 bif decide (a0 < 8) then some (([],[],()),()) else bif decide (a0 > 200) then some (([],[],()),()) else ((fun d=>Cb (E1 d.1 d.2.1 d.2.2.1 d.2.2.2.1 d.2.2.2.2.1 d.2.2.2.2.2.1) d.1 d.2.1 d.2.2.1 d.2.2.2.1 d.2.2.2.2.1 d.2.2.2.2.2.1) (a0,0,[],[],[],[],())).bind fun val=>some (val.2.2,())
theorem Aiq (a0:Int):Qc a0=some (((E0 a0).1,(E0 a0).2.1,()),(())):=by
 unfold Qc E0 Nm Ch
 by_cases k1:8≤a0
 ·have n1:¬ a0 < 8:=by omega
  rw [decide_eq_true k1,decide_eq_false n1]
  by_cases k2:a0≤200
  ·have n2:¬ a0 > 200:=by omega
   rw [decide_eq_true k2,decide_eq_false n2]
   obtain ⟨n,rfl⟩:∃ n:Nat,a0=(n:Int):=⟨a0.toNat,by omega⟩
   have hL:=Ats (n:=n) (fun _=>zS) (g:=fun m i r=>Cb m n i [] [] r []) (ok:=fun r=>([],[],r,[],())) (fun m i r hi hr=>by
    show Cb (m + 1) n i [] [] r []=_
    simp only [Cb,Ii]
    have c1:(i:Int) < (n:Int):=by omega
    have c2:(List.length r + List.length [A5]) * 16≤140737488355328:=by simp; omega
    rw [decide_eq_true c1,wI (show i < 4611686018427387904 by omega),decide_eq_true c2]
    rfl) (fun m r=>by
    show Cb (m + 1) n n [] [] r []=_
    simp only [Cb,Ii]
    have c1:¬ (n:Int) < (n:Int):=by omega
    rw [decide_eq_false c1]
    rfl) (E1 n 0 [] [] [] []) 0 [] (by omega) (by simp [E1]) rfl
   have hL':Cb (E1 n 0 [] [] [] []) n 0 [] [] [] []=_:=hL
   show (Cb (E1 n 0 [] [] [] []) n 0 [] [] [] []).bind _=_
   rw [hL',Ahb,Nat.sub_zero]
   rfl
  ·have n2:a0 > 200:=by omega
   rw [decide_eq_false k2,decide_eq_true n2]
   rfl
 ·have n1:a0 < 8:=by omega
  rw [decide_eq_false k1,decide_eq_true n1]
  rfl
noncomputable def Ua {R:Type} (k:Kt R):=(I1 (pa_spec_NewDisk 6) (.exit 0) 2 k)
noncomputable def d8 {R:Type}:Lt R pa_spec_NewDisk:=(Ed (pat:=pa_spec_NewDisk) 6 (fun d k=>(Cb (E1 d.1 d.2.1 d.2.2.1 d.2.2.2.1 d.2.2.2.2.1 d.2.2.2.2.2.1) d.1 d.2.1 d.2.2.1 d.2.2.2.1 d.2.2.2.2.1 d.2.2.2.2.2.1).bind (Ua k)) Hu)
theorem X6:A2 Tryz.prog ta_spec_NewDisk:=A7 ⟨L9,trivial⟩
theorem Ad2 {R:Type}:A3 Tryz.prog R 25 0 pa_spec_NewDisk d8 co_spec_NewDisk_6:=
 B3 (cfg:=⟨ta_spec_NewDisk,0,25,pa_spec_NewDisk⟩) 6 [] (fun NX X d=>Ii  NX X d.1 d.2.1 d.2.2.1 d.2.2.2.1 d.2.2.2.2.1 d.2.2.2.2.2.1) (fun m d=>Cb m d.1 d.2.1 d.2.2.1 d.2.2.2.1 d.2.2.2.2.1 d.2.2.2.2.2.1) (fun d=>E1 d.1 d.2.1 d.2.2.1 d.2.2.2.1 d.2.2.2.2.1 d.2.2.2.2.2.1) Ua X6 trivial (fun f NX d=>by unfold Ii; simp only [Al,Ar,Ak,Option.bind_assoc,Option.bind_none,Option.bind_some]) (fun _ _ _=>by kernel_rfl)
theorem Air:B2 Tryz.prog 144 sd_spec_NewDisk:=
 A6 (pat:=pa_spec_NewDisk) [co_spec_NewDisk_6] d8 X6 ⟨Ad2,trivial⟩ Tryz.func144 (de:=fun x=>Qc x.1) (fun x r h=>(Aiq x.1).trans h) fun _=>by kernel_rfl
def Agf:Sig:=⟨[.rd tI,.rd tI],[none,none],[.rd Fr],[some 16]⟩
noncomputable def Ji (a0:Int) (a1:Int):Option (((Wld×Unit)×(Unit))):=
 bif nI (E0 a0).1.length==0 then some (((0,([],[],()),false,(0,0,0,(0,0,0,0,()),0,0,([],()),()),[],[],()),()),()) else (Bv a1).bind fun val=>bif !val.1.1 then some (((0,([],[],()),false,(0,0,0,(0,0,0,0,()),0,0,([],()),()),[],[],()),()),()) else some (((a1,E0 a0,false,(0,0,0,(0,0,0,0,()),0,0,([],()),()),[([],())],[],()),()),())
noncomputable def sd_spec_NewWorld:SD:=⟨Agf,fun x=>Ji x.1 x.2.1⟩
theorem V4:B2 Tryz.prog 50 sd_spec_NewWorld:=
 A6 (pat:=D3) [] Hu (A7 (l:=[(65,sd_spec_l1Width),(144,sd_spec_NewDisk)]) ⟨Cz,Air,trivial⟩) trivial Tryz.func50 (de:=fun x=>Ji x.1 x.2.1) (fun x r h=>h) fun _=>by kernel_rfl
def x6:Sig:=⟨[.rd tI],[none],[.rd .str],[none]⟩
noncomputable def L1 (mR_spec_l8Dec:(Int)→Option (((ByteArray)×Unit)×(Unit))) (a0:Int):Option (((ByteArray)×Unit)×(Unit)):=
 bif decide (a0 < 10) then some ((strOfNums [IntKind.u8.wrap (IntKind.i64.wrap (48 + a0))],()),()) else (mR_spec_l8Dec (IntKind.i64.wrap (a0.tdiv 10))).bind fun val=>bif decide (ByteArray.size val.1.1 + (strOfNums [IntKind.u8.wrap (IntKind.i64.wrap (48 + a0.tmod 10))]).size≤9223372036854775807) then some ((val.1.1++strOfNums [IntKind.u8.wrap (IntKind.i64.wrap (48 + a0.tmod 10))],()),()) else none
noncomputable def Ir:Nat→(Int)→Option (((ByteArray)×Unit)×(Unit))
 | 0,_=>none
 | k + 1,a0=>L1 (Ir k) a0
noncomputable def x7 (a0:Int):Option (((ByteArray)×Unit)×(Unit)):=Ir 8 a0
noncomputable def d9 (k:Nat):SD:=⟨x6,fun x=>Ir k x.1⟩
theorem x8:∃ f,f=@x7:=⟨_,rfl⟩
noncomputable def m_spec_l8Dec:=Classical.choose x8
theorem x9:@m_spec_l8Dec=@x7:=Classical.choose_spec x8
noncomputable def sd_spec_l8Dec:SD:=⟨x6,fun x=>m_spec_l8Dec x.1⟩
theorem A4m:∀ (k:Nat) (n:Int),k≤7→0≤n→n < 10 ^ (k + 1)→Ai (Ir (k + 1) n) fun q=>q.1.1.size≤k + 1
 | 0,n,_,h0,h1=>by
  simp only [Ir,L1]
  exact Ai.go (decide_eq_true (by simpa using h1)) (Ai.some (by rw [Cp]; simp))
 | k + 1,n,hk,h0,h1=>by
  show Ai (L1 (Ir (k + 1)) n) _
  unfold L1
  refine Ai.cond (fun _=>Ai.some (by rw [Cp]; simp)) fun c=>?_
  have c:=of_decide_eq_false c
  have hd:n.tdiv 10=n / 10:=Int.tdiv_eq_ediv_of_nonneg h0
  have hp:(10:Int) ^ (k + 1 + 1)=10 ^ (k + 1) * 10:=Int.pow_succ 10 (k + 1)
  have hb:(10:Int) ^ (k + 1 + 1)≤1000000000:=by
   have:k=0∨k=1∨k=2∨k=3∨k=4∨k=5∨k=6:=by omega
   rcases this with rfl | rfl | rfl | rfl | rfl | rfl | rfl<;>decide
  rw [hd,Ag (n:=n / 10) (by omega) (by omega)]
  refine Ai.bind (A4m k (n / 10) (by omega) (by omega) (by omega)) fun q hq=>?_
  refine Ai.go (decide_eq_true ?_) (Ai.some ?_)
  ·rw [Cp,List.length_singleton]; omega
  ·show (q.1.1++strOfNums _).size≤_
   rw [ByteArray.size_append,Cp,List.length_singleton]; omega
theorem A5i {n:Int} (h0:0≤n) (h1:n < 100000000):Ai (m_spec_l8Dec n) fun q=>q.1.1.size≤8:=by
 rw [x9]
 exact A4m 7 n (by decide) h0 (by rw [show (10:Int) ^ (7 + 1)=100000000 by decide]; exact h1)
theorem Uv:∀ k,B2 Tryz.prog 215 (d9 k)
 | 0=>⟨⟨_,Tryz.func215,by kernel_rfl,by kernel_rfl⟩,fun x r h=>by cases h⟩
 | k + 1=>A6 (pat:=D3) [] Hu (A7 (l:=[(215,d9 k)]) ⟨Uv k,trivial⟩) trivial Tryz.func215 (de:=fun x=>L1 (Ir k) x.1) (fun x r h=>h) fun _=>by kernel_rfl
theorem Aog:B2 Tryz.prog 215 sd_spec_l8Dec:=⟨(Uv 8).1,fun x r h=>(Uv 8).2 x r (by have q:m_spec_l8Dec x.1=some r:=h; rw [x9] at q; exact q)⟩
def Mw (_:Int) (_:List Chg) (_:ByteArray) (v8:Int) (_:(List Int)×Int×Unit) (_ _:Wld) (_:Don):Nat:=(60 - v8).toNat + 1
def Kl (v4:Int) (_:(List Int)×Int×Unit) (_ _:Wld):Nat:=(60 - v4).toNat + 1
def Ais:Sig:=⟨[.bx 176 (.pair (.sl (.int .u8)) (.pair tI .unit))],[none],[.rd Fr],[some 16]⟩
noncomputable def ta_spec_l7Forge:Tb:=tb [(16,sd_spec_ReadPage),(36,sd_spec_Commit),(50,sd_spec_NewWorld),(63,sd_spec_l1Rd__pick),(131,sd_spec_l7Do),(195,sd_spec_l1Many),(215,sd_spec_l8Dec)]
def pa_spec_l7Forge:Nat→Pat×(Nat→Pat):=Gf [(4,⟨[.boxSl 2 1 .str,.boxSl 2 2 Da,.boxSl 2 13 Av,.boxSl 2 14 Ci,.boxSl 2 15 .str,.boxSl 3 1 .str,.boxSl 3 2 Da,.boxSl 3 13 Av,.boxSl 3 14 Ci,.boxSl 3 15 .str],[(0,.lf (.ptr 0 0)),(2,.lf (.ptr 1 0)),(3,.lf (.ptr 2 0)),(4,.lf (.d tI))],[.box 176 [.d (.pair (.sl (.int .u8)) (.pair tI .unit))],.box 36 [.d Fr],.box 36 [.d Fr]]⟩,[(2,⟨[.boxSl 2 1 .str,.boxSl 2 2 Da,.boxSl 2 13 Av,.boxSl 2 14 Ci,.boxSl 2 15 .str,.boxSl 3 1 .str,.boxSl 3 2 Da,.boxSl 3 13 Av,.boxSl 3 14 Ci,.boxSl 3 15 .str],[(2,.lf (.ptr 1 0)),(3,.lf (.ptr 2 0))],[.box 176 [.d (.pair (.sl (.int .u8)) (.pair tI .unit))],.box 36 [.d Fr],.box 36 [.d Fr]]⟩),(1,⟨[.boxSl 2 1 .str,.boxSl 2 2 Da,.boxSl 2 13 Av,.boxSl 2 14 Ci,.boxSl 2 15 .str],[(2,.lf (.ptr 1 0))],[.box 176 [.d (.pair (.sl (.int .u8)) (.pair tI .unit))],.box 36 [.d Fr]]⟩)]),(12,⟨[.sl 5 0 D7,.boxSl 2 1 .str,.boxSl 2 2 Da,.boxSl 2 13 Av,.boxSl 2 14 Ci,.boxSl 2 15 .str,.boxSl 3 1 .str,.boxSl 3 2 Da,.boxSl 3 13 Av,.boxSl 3 14 Ci,.boxSl 3 15 .str,.boxSl 6 10 Av,.boxSl 6 11 Kg],[(0,.lf (.ptr 0 0)),(2,.lf (.ptr 1 0)),(3,.lf (.ptr 2 0)),(4,.lf (.d tI)),(5,.lf (.d (.sl D7))),(6,.lf (.ptr 3 0)),(7,.lf (.d .str)),(8,.lf (.d tI))],[.box 176 [.d (.pair (.sl (.int .u8)) (.pair tI .unit))],.box 36 [.d Fr],.box 36 [.d Fr],.box 68 [.d A29]]⟩,[(4,⟨[.boxSl 2 1 .str,.boxSl 2 2 Da,.boxSl 2 13 Av,.boxSl 2 14 Ci,.boxSl 2 15 .str,.boxSl 3 1 .str,.boxSl 3 2 Da,.boxSl 3 13 Av,.boxSl 3 14 Ci,.boxSl 3 15 .str],[(0,.lf (.ptr 0 0)),(2,.lf (.ptr 1 0)),(3,.lf (.ptr 2 0)),(4,.lf (.d tI))],[.box 176 [.d (.pair (.sl (.int .u8)) (.pair tI .unit))],.box 36 [.d Fr],.box 36 [.d Fr]]⟩),(1,⟨[.boxSl 2 1 .str,.boxSl 2 2 Da,.boxSl 2 13 Av,.boxSl 2 14 Ci,.boxSl 2 15 .str],[(2,.lf (.ptr 1 0))],[.box 176 [.d (.pair (.sl (.int .u8)) (.pair tI .unit))],.box 36 [.d Fr]]⟩)])]
noncomputable def co_spec_l7Forge_4:Code:=(As (Ba Tryz.f172)).getD 0 .skip
noncomputable def co_spec_l7Forge_12:Code:=(As co_spec_l7Forge_4).getD 0 .skip
noncomputable def Hm {R:Type}  (NX:((Int)×(List Chg)×(ByteArray)×(Int)×((List Int)×Int×Unit)×Wld×Wld×Don×Unit)→Option R) (X4:((Int)×((List Int)×Int×Unit)×Wld×Wld×Unit)→Option R) (X1:(((List Int)×Int×Unit)×Wld×Unit)→Option R) (v4:Int) (v5:List Chg) (v7:ByteArray) (v8:Int) (b0:(List Int)×Int×Unit) (b1:Wld) (b2:Wld) (b3:Don):Option R:=
 bif decide (v8 < 60) then bif decide (0 < nI (List.length b3.2.2.1)) then bif decide (0≤v8) then bif decide (v8≤nI (ByteArray.size (List.getD b3.2.2.1 (Int.toNat 0) (false,0,ByteArray.mk #[],())).2.2.1)) then bif decide (0≤v8) then bif decide (v8≤nI v7.size) then bif decide ((Ac (List.getD b3.2.2.1 (Int.toNat 0) (false,0,ByteArray.mk #[],())).2.2.1 0 v8).size + (Ac v7 v8 (nI v7.size)).size≤9223372036854775807) then bif (Af (Ac (List.getD b3.2.2.1 (Int.toNat 0) (false,0,ByteArray.mk #[],())).2.2.1 0 v8++Ac v7 v8 (nI v7.size)) 1).2 then bif decide (0 < nI (List.length b3.2.2.1)) then bif !(Ac (List.getD b3.2.2.1 (Int.toNat 0) (false,0,ByteArray.mk #[],())).2.2.1 0 v8++Ac v7 v8 (nI v7.size)).toList==ByteArray.toList (List.getD b3.2.2.1 (Int.toNat 0) (false,0,ByteArray.mk #[],())).2.2.1 then (m_spec_l7Do b2 (2,v5,1,[v8],())).bind fun val=>X1 (b0,val.1) else NX (v4,v5,v7,IntKind.i64.wrap (v8 + 1),b0,b1,b2,b3,()) else none else NX (v4,v5,v7,IntKind.i64.wrap (v8 + 1),b0,b1,b2,b3,()) else none else none else none else none else none else none else X4 (v4,b0,b1,b2,())
noncomputable def Fk:Nat→(Int)→(List Chg)→(ByteArray)→(Int)→((List Int)×Int×Unit)→Wld→Wld→Don →  Option (((Int)×((List Int)×Int×Unit)×Wld×Wld×Unit) ⊕ (((List Int)×Int×Unit)×Wld×Unit))
 | 0,_,_,_,_,_,_,_,_=>none
 | m + 1,v4,v5,v7,v8,b0,b1,b2,b3=>Hm  (fun d=>Fk m d.1 d.2.1 d.2.2.1 d.2.2.2.1 d.2.2.2.2.1 d.2.2.2.2.2.1 d.2.2.2.2.2.2.1 d.2.2.2.2.2.2.2.1) (fun d=>some (.inl (d))) (fun d=>some (.inr (d))) v4 v5 v7 v8 b0 b1 b2 b3
noncomputable def Mx (d:(Int)×(List Chg)×(ByteArray)×(Int)×((List Int)×Int×Unit)×Wld×Wld×Don×Unit):Option (((Int)×((List Int)×Int×Unit)×Wld×Wld×Unit) ⊕ (((List Int)×Int×Unit)×Wld×Unit)):=Fk (Mw d.1 d.2.1 d.2.2.1 d.2.2.2.1 d.2.2.2.2.1 d.2.2.2.2.2.1 d.2.2.2.2.2.2.1 d.2.2.2.2.2.2.2.1) d.1 d.2.1 d.2.2.1 d.2.2.2.1 d.2.2.2.2.1 d.2.2.2.2.2.1 d.2.2.2.2.2.2.1 d.2.2.2.2.2.2.2.1
noncomputable def Ij {R:Type} (LO12:((Int)×(List Chg)×(ByteArray)×(Int)×((List Int)×Int×Unit)×Wld×Wld×Don×Unit)→Option (((Int)×((List Int)×Int×Unit)×Wld×Wld×Unit) ⊕ (((List Int)×Int×Unit)×Wld×Unit))) (NX:((Int)×((List Int)×Int×Unit)×Wld×Wld×Unit)→Option R) (X2:(((List Int)×Int×Unit)×Wld×Wld×Unit)→Option R) (X1:(((List Int)×Int×Unit)×Wld×Unit)→Option R) (v4:Int) (b0:(List Int)×Int×Unit) (b1:Wld) (b2:Wld):Option R:=
 bif decide (v4 < 60) then (m_spec_l1Many (ByteArray.mk #[118,119]) 20).bind fun val=>((Aa b0 900).bind fun val=>some ((val.1,()),val.2,())).bind fun val_1=>(m_spec_l8Dec (IntKind.i64.wrap (v4 + val_1.1.1))).bind fun val_2=>bif decide (ByteArray.size val.1.1 + ByteArray.size val_2.1.1≤9223372036854775807) then bif (Au b2.2.2.2.1 [(ByteArray.mk #[107],val.1.1++val_2.1.1,false,())]).1 != 0 then X1 (val_1.2.1,b2,()) else bif decide (0 < nI (Au b2.2.2.2.1 [(ByteArray.mk #[107],val.1.1++val_2.1.1,false,())]).2.2.1.length) then bif decide (0≤((Au b2.2.2.2.1 [(ByteArray.mk #[107],val.1.1++val_2.1.1,false,())]).2.2.1.getD (Int.toNat 0) (false,0,ByteArray.mk #[],())).2.1) then bif decide (((Au b2.2.2.2.1 [(ByteArray.mk #[107],val.1.1++val_2.1.1,false,())]).2.2.1.getD (Int.toNat 0) (false,0,ByteArray.mk #[],())).2.1 < nI (List.length b2.2.1.1)) then (LO12 (v4,[(ByteArray.mk #[107],val.1.1++val_2.1.1,false,())],List.getD b2.2.1.1 (Int.toNat ((Au b2.2.2.2.1 [(ByteArray.mk #[107],val.1.1++val_2.1.1,false,())]).2.2.1.getD (Int.toNat 0) (false,0,ByteArray.mk #[],())).2.1) (ByteArray.mk #[]),10,val_1.2.1,b1,b2,Au b2.2.2.2.1 [(ByteArray.mk #[107],val.1.1++val_2.1.1,false,())],())).bind fun val=>Cj (fun d=>NX (IntKind.i64.wrap (d.1 + 1),d.2)) (fun d=>X1 d) val else none else none else none else none else X2 (b0,b1,b2,())
noncomputable def D6:Nat→(Int)→((List Int)×Int×Unit)→Wld→Wld →  Option ((((List Int)×Int×Unit)×Wld×Wld×Unit) ⊕ (((List Int)×Int×Unit)×Wld×Unit))
 | 0,_,_,_,_=>none
 | m + 1,v4,b0,b1,b2=>Ij Mx (fun d=>D6 m d.1 d.2.1 d.2.2.1 d.2.2.2.1) (fun d=>some (.inl (d))) (fun d=>some (.inr (d))) v4 b0 b1 b2
noncomputable def Ma (a0:(List Int)×Int×Unit):Option (((Wld×Unit)×(((List Int)×Int×Unit)×Unit))):=
 (m_spec_l7Do (1,(List.replicate (Int.toNat 12) (strOfNums (List.replicate 64 0)),[],()),false,(0,0,0,(0,0,0,0,()),0,0,([],()),()),[([],())],[],()) (1,[],-1,[],())).bind fun val=>((fun d=>D6 (Kl d.1 d.2.1 d.2.2.1 d.2.2.2.1) d.1 d.2.1 d.2.2.1 d.2.2.2.1) (0,a0,(0,([],[],()),false,(0,0,0,(0,0,0,0,()),0,0,([],()),()),[],[],()),val.1)).bind fun val=>Cj (fun d=>some (d.2.2,d.1,())) (fun d=>some (d.2,d.1,())) val
theorem X8:∃ f,f=@Ma:=⟨_,rfl⟩
noncomputable def m_spec_l7Forge:=Classical.choose X8
theorem X9:@m_spec_l7Forge=@Ma:=Classical.choose_spec X8
noncomputable def sd_spec_l7Forge:SD:=⟨Ais,fun x=>m_spec_l7Forge x.1⟩
theorem A4n (v4:Int) (v5:List Chg) (v7:ByteArray) (b0:Rd) (b1:Wld) (b2:Wld) (b3:Don) {K:Nat} (h0:Kz K b0) (hw:Yp b2) (h7:v7.size=64) (hops:0 < b3.2.2.1.length) (hd:(b3.2.2.1.getD 0 zOp).2.2.1.size=64):∀ (k m:Nat) (v8:Int),v8 + k=60→k < m→0≤v8→
  Ai (Fk m v4 v5 v7 v8 b0 b1 b2 b3) fun q=>(∀ d,q=.inl d→d=(v4,b0,b1,b2,()))∧∀ d,q=.inr d→Kz K d.1∧Yp d.2.1
 | 0,m + 1,v8,hk,_,_=>by
  simp only [Fk,Hm]
  exact Ai.no (decide_eq_false (by omega)) (Ai.some ⟨fun d q=>(by cases q; rfl),fun d q=>(by cases q)⟩)
 | k + 1,m + 1,v8,hk,hm,h8=>by
  have hd':(b3.2.2.1.getD (Int.toNat 0) (false,0,ByteArray.mk #[],())).2.2.1.size=64:=hd
  have e1:IntKind.i64.wrap (v8 + 1)=v8 + 1:=Ag (by omega) (by omega)
  simp only [Fk,Hm]
  refine Ai.go (decide_eq_true (by omega)) (Ai.go (decide_eq_true (by simp only [nI]; omega)) (Ai.go (decide_eq_true h8) (Ai.go (decide_eq_true (by rw [hd']; simp only [nI]; omega)) (Ai.go (decide_eq_true h8) (Ai.go (decide_eq_true (by rw [h7]; simp only [nI]; omega)) (Ai.go (decide_eq_true ?_) ?_))))))
  ·have a1:=A1m (b3.2.2.1.getD (Int.toNat 0) (false,0,ByteArray.mk #[],())).2.2.1 0 v8
   have a2:=A1m v7 v8 (nI v7.size)
   omega
  ·rw [e1]
   have rec_:=A4n v4 v5 v7 b0 b1 b2 b3 h0 hw h7 hops hd k m (v8 + 1) (by omega) (by omega) (by omega)
   refine Ai.cond (fun _=>Ai.go (decide_eq_true (by simp only [nI]; omega)) (Ai.cond (fun _=>?_) fun _=>rec_)) fun _=>rec_
   refine Ai.bind (Ayh hw _) fun q hq=>Ai.some ⟨fun d q=>(by cases q),fun d z=>?_⟩
   cases z
   refine ⟨h0,?_⟩
   show Yp q.1.1
   rw [hq]
   exact hw.doI _
theorem A19 (b1:Wld) (b2:Wld) (hw:Yp b2):∀ (k m:Nat) (v4:Int) (b0:Rd) (K:Nat),v4 + k=60→k < m→0≤v4→Kz K b0→K + 10 * k < 1000000000000→
  Ai (D6 m v4 b0 b1 b2) fun q=>(∀ d,q=.inl d→d.2=(b1,b2,())∧Kz (K + 10 * k) d.1)∧∀ d,q=.inr d→Kz (K + 10 * k) d.1∧Yp d.2.1
 | 0,m + 1,v4,b0,K,hk,_,_,h0,_=>by
  simp only [D6,Ij]
  exact Ai.no (decide_eq_false (by omega)) (Ai.some ⟨fun d q=>(by cases q; exact ⟨rfl,h0⟩),fun d q=>(by cases q)⟩)
 | k + 1,m + 1,v4,b0,K,hk,hm,h4,h0,hK=>by
  have e1:IntKind.i64.wrap (v4 + 1)=v4 + 1:=Ag (by omega) (by omega)
  simp only [D6,Ij]
  refine Ai.go (decide_eq_true (by omega)) ?_
  refine Ai.bind (l4 (ByteArray.mk #[118,119]) 20 (by decide) (by decide) (by decide)) fun q hq=>?_
  refine At h0 (by omega) (by omega) fun u r1 u0 u1 h1=>?_
  dsimp only
  rw [Ag (n:=v4 + u) (by omega) (by omega)]
  refine Ai.bind (A5i (n:=v4 + u) (by omega) (by omega)) fun q2 hq2=>?_
  refine Ai.go (decide_eq_true (by rw [hq]; show 2 * 20 + _≤_; omega)) ?_
  refine Ai.cond (fun _=>Ai.some ⟨fun d q=>(by cases q),fun d z=>(by cases z; exact ⟨h1.mono (by omega),hw⟩)⟩) fun c=>?_
  have hc:(F6 b2.2.2.2.1 [(ByteArray.mk #[107],q.1.1++q2.1.1,false,())]).1=0:=by
   have c:((F6 b2.2.2.2.1 [(ByteArray.mk #[107],q.1.1++q2.1.1,false,())]).1 != 0)=false:=c
   simpa using c
  obtain ⟨o1,o2,o3,o4⟩:=Azv hc
  have hf:=hw.f (Aax _ _ hc).1
  have hdk:=Jv hw.v
  have hlen:(b2.2.1.1.length:Int)=(b2.2.1.1.length:Int):=rfl
  refine Ai.go (decide_eq_true (by simp only [nI]; exact Int.ofNat_lt.2 o1)) (Ai.go (decide_eq_true o2) (Ai.go (decide_eq_true ?_) ?_))
  ·have o3':=o3
   rw [hf,hlen] at o3'
   exact o3'
  ·have hold:(b2.2.1.1.getD (Int.toNat ((F6 b2.2.2.2.1 [(ByteArray.mk #[107],q.1.1++q2.1.1,false,())]).2.2.1.getD 0 zOp).2.1) z0).size=64:=by
    refine hdk.sec _ ?_
    show _ < b2.2.1.1.length
    rw [hf,hlen] at o3
    omega
   refine Ai.bind (A4n v4 _ _ r1 b1 b2 _ h1 hw hold o1 o4 50 _ 10 (by omega) (by simp only [Mw]; omega) (by omega)) fun z hz=>?_
   cases z with
   | inl d=>
    have hd:=hz.1 d rfl
    subst hd
    show Ai (D6 m (IntKind.i64.wrap (v4 + 1)) r1 b1 b2) _
    rw [e1]
    refine (A19 b1 b2 hw k m (v4 + 1) r1 (K + 1) (by omega) (by omega) (by omega) h1 (by omega)).mono fun y hy=>⟨fun d q=>?_,fun d q=>?_⟩
    ·obtain ⟨y1,y2⟩:=hy.1 d q
     exact ⟨y1,y2.mono (by omega)⟩
    ·obtain ⟨y1,y2⟩:=hy.2 d q
     exact ⟨y1.mono (by omega),y2⟩
   | inr d=>
    obtain ⟨y1,y2⟩:=hz.2 d rfl
    exact Ai.some ⟨fun d q=>(by cases q),fun d q=>(by cases q; exact ⟨y1.mono (by omega),y2⟩)⟩
theorem A2a {K:Nat} {r:Rd} (h:Kz K r) (hK:K + 1000 < 1000000000000):Ai (m_spec_l7Forge r) fun q=>Yp q.1.1∧Kz (K + 600) q.2.1:=by
 rw [X9]
 unfold Ma
 have h0:Yp (A3q 12 1):=Yp.new (by decide) (by decide)
 have e0:A3q 12 1=(1,(List.replicate (Int.toNat 12) (strOfNums (List.replicate 64 0)),[],()),false,(0,0,0,(0,0,0,0,()),0,0,([],()),()),[([],())],[],()):=rfl
 rw [← e0]
 refine Ai.bind (Ayh h0 _) fun q hq=>?_
 have hw:Yp q.1.1:=by rw [hq]; exact h0.doI _
 refine Ai.bind (A19 _ _ hw 60 _ 0 r K (by omega) (by simp only [Kl]; omega) (by omega) h (by omega)) fun z hz=>?_
 cases z with
 | inl d=>
  obtain ⟨y1,y2⟩:=hz.1 d rfl
  obtain ⟨d0,d1⟩:=d
  have y1:d1=_:=y1
  subst y1
  exact Ai.some ⟨hw,y2⟩
 | inr d=>
  obtain ⟨y1,y2⟩:=hz.2 d rfl
  exact Ai.some ⟨y2,y1⟩
noncomputable def Ub {R:Type} (k:Kt R):=(Cj (I1 (pa_spec_l7Forge 4) (.exit 0) 2 k) (I1 (pa_spec_l7Forge 4) .ret 1 k))
noncomputable def Sp {R:Type} (k:Kt R):=(Cj (I1 (pa_spec_l7Forge 12) (.exit 2) 4 k) (I1 (pa_spec_l7Forge 12) .ret 1 k))
noncomputable def Sq {R:Type}:Lt R pa_spec_l7Forge:=(Ed (pat:=pa_spec_l7Forge) 4 (fun d k=>(D6 (Kl d.1 d.2.1 d.2.2.1 d.2.2.2.1) d.1 d.2.1 d.2.2.1 d.2.2.2.1).bind (Ub k)) (Ed (pat:=pa_spec_l7Forge) 12 (fun d k=>(Mx d).bind (Sp k)) Hu))
theorem Qd:A2 Tryz.prog ta_spec_l7Forge:=A7 ⟨Jf,a7,V4,Bm,Ad1,Sh,Aog,trivial⟩
theorem Abe {R:Type}:A3 Tryz.prog R 83 1 pa_spec_l7Forge Sq co_spec_l7Forge_12:=
 B3 (cfg:=⟨ta_spec_l7Forge,1,83,pa_spec_l7Forge⟩) 12 [] (fun NX X d=>Hm  NX (fun e=>X (.inl (e))) (fun e=>X (.inr (e))) d.1 d.2.1 d.2.2.1 d.2.2.2.1 d.2.2.2.2.1 d.2.2.2.2.2.1 d.2.2.2.2.2.2.1 d.2.2.2.2.2.2.2.1) (fun m d=>Fk m d.1 d.2.1 d.2.2.1 d.2.2.2.1 d.2.2.2.2.1 d.2.2.2.2.2.1 d.2.2.2.2.2.2.1 d.2.2.2.2.2.2.2.1) (fun d=>Mw d.1 d.2.1 d.2.2.1 d.2.2.2.1 d.2.2.2.2.1 d.2.2.2.2.2.1 d.2.2.2.2.2.2.1 d.2.2.2.2.2.2.2.1) Sp Qd trivial (fun f NX d=>by unfold Hm; simp only [Al,Ar,Ak,Option.bind_assoc,Option.bind_none,Option.bind_some]) (fun _ _ _=>by kernel_rfl)
theorem Ad3 {R:Type}:A3 Tryz.prog R 83 1 pa_spec_l7Forge Sq co_spec_l7Forge_4:=
 B3 (cfg:=⟨ta_spec_l7Forge,1,83,pa_spec_l7Forge⟩) 4 [co_spec_l7Forge_12] (fun NX X d=>Ij Mx NX (fun e=>X (.inl (e))) (fun e=>X (.inr (e))) d.1 d.2.1 d.2.2.1 d.2.2.2.1) (fun m d=>D6 m d.1 d.2.1 d.2.2.1 d.2.2.2.1) (fun d=>Kl d.1 d.2.1 d.2.2.1 d.2.2.2.1) Ub Qd ⟨Abe,trivial⟩ (fun f NX d=>by unfold Ij; simp only [Al,Ar,Ak,Option.bind_assoc,Option.bind_none,Option.bind_some]) (fun _ _ _=>by kernel_rfl)
theorem Ait:B2 Tryz.prog 172 sd_spec_l7Forge:=
 A6 (pat:=pa_spec_l7Forge) [co_spec_l7Forge_4] Sq Qd ⟨Ad3,trivial⟩ Tryz.func172 (de:=fun x=>Ma x.1) (fun x r h=>by have q:m_spec_l7Forge x.1=some r:=h; rw [X9] at q; exact q) fun _=>by kernel_rfl
def m8:Sig:=⟨[.bx 176 (.pair (.sl (.int .u8)) (.pair tI .unit))],[none],[.rd tI],[none]⟩
noncomputable def Iy (a0:(List Int)×Int×Unit):Option ((((Int)×Unit)×(((List Int)×Int×Unit)×Unit))):=
 ((Aa a0 6).bind fun val=>some ((val.1,()),val.2,())).bind fun val=>bif decide (0≤val.1.1) then bif decide (val.1.1 < nI [8,8,4,2,1,1].length) then some (([8,8,4,2,1,1].getD (Int.toNat val.1.1) 0,()),val.2) else none else none
theorem Qq:∃ f,f=@Iy:=⟨_,rfl⟩
noncomputable def m_spec_l1DrawWidth:=Classical.choose Qq
theorem Qr:@m_spec_l1DrawWidth=@Iy:=Classical.choose_spec Qq
noncomputable def sd_spec_l1DrawWidth:SD:=⟨m8,fun x=>m_spec_l1DrawWidth x.1⟩
theorem A2b {k:Nat} {r:Rd} (h:Kz k r) (hk:k < 1099511627776):Ai (m_spec_l1DrawWidth r) fun q=>(1≤q.1.1∧q.1.1≤8)∧Kz (k + 1) q.2.1:=by
 rw [Qr]
 unfold Iy
 refine At h hk (by omega) fun v r' v0 v1 h'=>?_
 refine Ai.go (decide_eq_true v0) (Ai.go (decide_eq_true v1) (Ai.some ⟨?_,h'⟩))
 exact Awg (Q:=fun x:Int=>1≤x∧x≤8) (by decide) v0 v1
theorem m9:B2 Tryz.prog 216 sd_spec_l1DrawWidth:=
 A6 (pat:=D3) [] Hu (A7 (l:=[(63,sd_spec_l1Rd__pick)]) ⟨Bm,trivial⟩) trivial Tryz.func216 (de:=fun x=>Iy x.1) (fun x r h=>by have q:m_spec_l1DrawWidth x.1=some r:=h; rw [Qr] at q; exact q) fun _=>by kernel_rfl
def Aiu:Sig:=⟨[.bx 176 (.pair (.sl (.int .u8)) (.pair tI .unit))],[none],[.rd Fr],[some 16]⟩
noncomputable def Mb (a0:(List Int)×Int×Unit):Option (((Wld×Unit)×(((List Int)×Int×Unit)×Unit))):=
 ((Aa a0 7).bind fun val=>some ((val.1,()),val.2,())).bind fun val=>bif decide (0≤val.1.1) then bif decide (val.1.1 < nI [8,9,10,12,16,24,40].length) then (m_spec_l1DrawWidth val.2.1).bind fun val_1=>(Ji ([8,9,10,12,16,24,40].getD (Int.toNat val.1.1) 0) val_1.1.1).bind fun val=>some (val.1,val_1.2) else none else none
theorem Ya:∃ f,f=@Mb:=⟨_,rfl⟩
noncomputable def m_spec_l7Small:=Classical.choose Ya
theorem Yb:@m_spec_l7Small=@Mb:=Classical.choose_spec Ya
noncomputable def sd_spec_l7Small:SD:=⟨Aiu,fun x=>m_spec_l7Small x.1⟩
theorem A5j {a w:Int} (h:Ch a 8 200=true) (hw:Ch w 1 8=true):Ji a w=some ((A3q a w,()),()):=by
 unfold Ji
 have hl:(E0 a).1.length=a.toNat:=(Ayc h).2
 obtain ⟨h1,h2⟩:=Cy h
 rw [show (nI (E0 a).1.length==0)=false from beq_eq_false_iff_ne.2 (by rw [hl]; simp only [nI]; omega),show Bv w=some ((Ch w 1 8,()),()) from wid w,hw]
 rfl
theorem A2c {K:Nat} {r:Rd} (h:Kz K r) (hK:K + 100 < 1000000000000):Ai (m_spec_l7Small r) fun q=>Yp q.1.1∧Kz (K + 20) q.2.1:=by
 rw [Yb]
 unfold Mb
 refine At h (by omega) (by omega) fun v r1 v0 v1 h1=>?_
 dsimp only
 refine Ai.go (decide_eq_true v0) (Ai.go (decide_eq_true v1) ?_)
 have ha:=Awg (Q:=fun x:Int=>8≤x∧x≤40) (l:=[8,9,10,12,16,24,40]) (d:=0) (by decide) v0 v1
 generalize ([8,9,10,12,16,24,40]:List Int).getD v.toNat 0=a at *
 refine Ai.bind (A2b h1 (by omega)) fun q hq=>?_
 have i1:Ch a 8 200=true:=by unfold Ch; rw [decide_eq_true ha.1,decide_eq_true (show a≤200 by omega)]; rfl
 have i2:Ch a 8 40=true:=by unfold Ch; rw [decide_eq_true ha.1,decide_eq_true ha.2]; rfl
 have i3:Ch q.1.1 1 8=true:=by unfold Ch; rw [decide_eq_true hq.1.1,decide_eq_true hq.1.2]; rfl
 refine Ai.bind ⟨_,A5j i1 i3,rfl⟩ fun q2 hq2=>Ai.some ⟨?_,hq.2.mono (by omega)⟩
 rw [← hq2]
 exact Yp.new i2 i3
theorem Aiv:B2 Tryz.prog 173 sd_spec_l7Small:=
 A6 (pat:=D3) [] Hu (A7 (l:=[(50,sd_spec_NewWorld),(63,sd_spec_l1Rd__pick),(216,sd_spec_l1DrawWidth)]) ⟨V4,Bm,m9,trivial⟩) trivial Tryz.func173 (de:=fun x=>Mb x.1) (fun x r h=>by have q:m_spec_l7Small x.1=some r:=h; rw [Yb] at q; exact q) fun _=>by kernel_rfl
def Iz (v4:Int) (_:(List Int)×Int×Unit) (_ _:Wld):Nat:=v4.toNat + 1
def Ad4:Sig:=⟨[.bx 176 (.pair (.sl (.int .u8)) (.pair tI .unit))],[none],[.rd tI,.own 9 .str,.own 174 Da,.rd .bool,.rd tI,.rd tI,.rd tI,.rd tI,.rd tI,.rd tI,.rd tI,.rd tI,.rd tI,.rd (.sl Av),.own 31 Ci,.own 9 .str],[some 16]⟩
noncomputable def ta_spec_l7Reached:Tb:=tb [(63,sd_spec_l1Rd__pick),(130,sd_spec_l7Copy),(131,sd_spec_l7Do),(145,sd_spec_l7Event),(172,sd_spec_l7Forge),(173,sd_spec_l7Small)]
def pa_spec_l7Reached:Nat→Pat×(Nat→Pat):=Gf [(6,⟨[.boxSl 2 1 .str,.boxSl 2 2 Da,.boxSl 2 13 Av,.boxSl 2 14 Ci,.boxSl 2 15 .str,.boxSl 3 1 .str,.boxSl 3 2 Da,.boxSl 3 13 Av,.boxSl 3 14 Ci,.boxSl 3 15 .str],[(0,.lf (.ptr 0 0)),(2,.lf (.ptr 1 0)),(3,.lf (.ptr 2 0)),(4,.lf (.d tI))],[.box 176 [.d (.pair (.sl (.int .u8)) (.pair tI .unit))],.box 36 [.d Fr],.box 36 [.d Fr]]⟩,[(2,⟨[.boxSl 2 1 .str,.boxSl 2 2 Da,.boxSl 2 13 Av,.boxSl 2 14 Ci,.boxSl 2 15 .str,.boxSl 3 1 .str,.boxSl 3 2 Da,.boxSl 3 13 Av,.boxSl 3 14 Ci,.boxSl 3 15 .str],[(0,.lf (.ptr 0 0)),(2,.lf (.ptr 1 0)),(3,.lf (.ptr 2 0))],[.box 176 [.d (.pair (.sl (.int .u8)) (.pair tI .unit))],.box 36 [.d Fr],.box 36 [.d Fr]]⟩)])]
noncomputable def co_spec_l7Reached_6:Code:=(As (Ba Tryz.f93)).getD 0 .skip
noncomputable def Gr {R:Type}  (NX:((Int)×((List Int)×Int×Unit)×Wld×Wld×Unit)→Option R) (X2:(((List Int)×Int×Unit)×Wld×Wld×Unit)→Option R) (v4:Int) (b0:(List Int)×Int×Unit) (b1:Wld) (b2:Wld):Option R:=
 bif decide (v4 > 0) then (m_spec_l7Event b0 b2.2.2.1).bind fun val=>(m_spec_l7Do b2 val.1.1).bind fun val_1=>NX (IntKind.i64.wrap (v4 - 1),val.2.1,b1,val_1.1) else X2 (b0,b1,b2,())
noncomputable def Dz:Nat→(Int)→((List Int)×Int×Unit)→Wld→Wld →  Option (((List Int)×Int×Unit)×Wld×Wld×Unit)
 | 0,_,_,_,_=>none
 | m + 1,v4,b0,b1,b2=>Gr  (fun d=>Dz m d.1 d.2.1 d.2.2.1 d.2.2.2.1) (fun d=>some (d)) v4 b0 b1 b2
noncomputable def Km (a0:(List Int)×Int×Unit):Option ((((Int)×(List ByteArray)×(List Wr)×(Bool)×(Int)×(Int)×(Int)×(Int)×(Int)×(Int)×(Int)×(Int)×(Int)×(List Pr2)×(List Stt)×(List ByteArray)×Unit)×(((List Int)×Int×Unit)×Unit))):=
 ((Aa a0 16).bind fun val=>some ((val.1,()),val.2,())).bind fun val=>bif val.1.1==0 then (m_spec_l7Forge val.2.1).bind fun val=>(m_spec_l7Copy val.1.1).bind fun val_1=>some (val_1.1,val.2) else (m_spec_l7Small val.2.1).bind fun val=>((Aa val.2.1 30).bind fun val=>some ((val.1,()),val.2,())).bind fun val_1=>((fun d=>Dz (Iz d.1 d.2.1 d.2.2.1 d.2.2.2.1) d.1 d.2.1 d.2.2.1 d.2.2.2.1) (val_1.1.1,val_1.2.1,(0,([],[],()),false,(0,0,0,(0,0,0,0,()),0,0,([],()),()),[],[],()),val.1)).bind fun val=>((Aa val.1 4).bind fun val=>some ((val.1,()),val.2,())).bind fun val_2=>bif decide (val_2.1.1 > 0) then (m_spec_l7Do val.2.2.1 (1,[],-1,[],())).bind fun val=>(m_spec_l7Copy val.1.1).bind fun val=>some (val.1,val_2.2) else (m_spec_l7Copy val.2.2.1).bind fun val=>some (val.1,val_2.2)
theorem Uc:∃ f,f=@Km:=⟨_,rfl⟩
noncomputable def m_spec_l7Reached:=Classical.choose Uc
theorem Ud:@m_spec_l7Reached=@Km:=Classical.choose_spec Uc
noncomputable def sd_spec_l7Reached:SD:=⟨Ad4,fun x=>m_spec_l7Reached x.1⟩
theorem A3v (b1:Wld):∀ (n m K:Nat) (r:Rd) (x:Wld),n < m→n≤1000→Kz K r→K + 600 * n < 1000000000→Yp x→
  Ai (Dz m n r b1 x) fun q=>Kz (K + 600 * n) q.1∧Yp q.2.2.1:=by
 intro n
 induction n with
 | zero=>
  intro m K r x hm _ h _ hw
  cases m with
  | zero=>omega
  | succ m=>
   simp only [Dz,Gr]
   exact Ai.no (by rfl) (Ai.some ⟨h,hw⟩)
 | succ n ih=>
  intro m K r x hm hn h hK hw
  cases m with
  | zero=>omega
  | succ m=>
   simp only [Dz,Gr]
   refine Ai.go (decide_eq_true (by omega)) ?_
   refine Ai.bind (A18 _ h (by omega)) fun q hq=>?_
   refine Ai.bind (Ayh hw _) fun z hz=>?_
   have hw':Yp z.1.1:=by rw [hz]; exact hw.doI _
   rw [show IntKind.i64.wrap (((n + 1:Nat):Int) - 1)=(n:Int) by rw [Ag (by omega) (by omega)]; omega]
   exact (ih m (K + 500) q.2.1 z.1.1 (by omega) (by omega) hq (by omega) hw').mono fun y hy=>⟨hy.1.mono (by omega),hy.2⟩
theorem Awr {K:Nat} {r:Rd} (h:Kz K r) (hK:K + 100000 < 1000000000):Ai (m_spec_l7Reached r) fun q=>Yp (unW q.1)∧Kz (K + 20000) q.2.1:=by
 rw [Ud]
 unfold Km
 refine At h (by omega) (by omega) fun v r1 v0 v1 h1=>?_
 dsimp only
 refine Ai.cond (fun _=>?_) fun _=>?_
 ·refine Ai.bind (A2a h1 (by omega)) fun q hq=>?_
  refine Ai.bind (Ajw hq.1) fun z hz=>Ai.some ⟨?_,hq.2.mono (by omega)⟩
  show Yp (unW z.1)
  rw [hz]
  exact hq.1
 ·refine Ai.bind (A2c h1 (by omega)) fun q hq=>?_
  refine At hq.2 (by omega) (by omega) fun u r2 u0 u1 h2=>?_
  dsimp only
  obtain ⟨n,rfl⟩:∃ n:Nat,u=(n:Int):=⟨u.toNat,by omega⟩
  refine Ai.bind (A3v _ n _ _ r2 q.1.1 (by simp only [Iz]; omega) (by omega) h2 (by omega) hq.1) fun y hy=>?_
  refine At hy.1 (by omega) (by omega) fun t r3 t0 t1 h3=>?_
  dsimp only
  refine Ai.cond (fun _=>?_) fun _=>?_
  ·refine Ai.bind (Ayh hy.2 _) fun z hz=>?_
   have hw':Yp z.1.1:=by rw [hz]; exact hy.2.doI _
   refine Ai.bind (Ajw hw') fun y hy=>Ai.some ⟨?_,h3.mono (by omega)⟩
   show Yp (unW y.1)
   rw [hy]
   exact hw'
  ·refine Ai.bind (Ajw hy.2) fun z hz=>Ai.some ⟨?_,h3.mono (by omega)⟩
   show Yp (unW z.1)
   rw [hz]
   exact hy.2
noncomputable def Qs {R:Type} (k:Kt R):=(I1 (pa_spec_l7Reached 6) (.exit 0) 2 k)
noncomputable def V5 {R:Type}:Lt R pa_spec_l7Reached:=(Ed (pat:=pa_spec_l7Reached) 6 (fun d k=>(Dz (Iz d.1 d.2.1 d.2.2.1 d.2.2.2.1) d.1 d.2.1 d.2.2.1 d.2.2.2.1).bind (Qs k)) Hu)
theorem Ue:A2 Tryz.prog ta_spec_l7Reached:=A7 ⟨Bm,Zp,Ad1,Aim,Ait,Aiv,trivial⟩
theorem n0 {R:Type}:A3 Tryz.prog R 33 1 pa_spec_l7Reached V5 co_spec_l7Reached_6:=
 B3 (cfg:=⟨ta_spec_l7Reached,1,33,pa_spec_l7Reached⟩) 6 [] (fun NX X d=>Gr  NX X d.1 d.2.1 d.2.2.1 d.2.2.2.1) (fun m d=>Dz m d.1 d.2.1 d.2.2.1 d.2.2.2.1) (fun d=>Iz d.1 d.2.1 d.2.2.1 d.2.2.2.1) Qs Ue trivial (fun f NX d=>by unfold Gr; simp only [Al,Ar,Ak,Option.bind_assoc,Option.bind_none,Option.bind_some]) (fun _ _ _=>by kernel_rfl)
theorem Ad5:B2 Tryz.prog 93 sd_spec_l7Reached:=
 A6 (pat:=pa_spec_l7Reached) [co_spec_l7Reached_6] V5 Ue ⟨n0,trivial⟩ Tryz.func93 (de:=fun x=>Km x.1) (fun x r h=>by have q:m_spec_l7Reached x.1=some r:=h; rw [Ud] at q; exact q) fun _=>by kernel_rfl
def H6 (v4:Int) (b0:(List Int)×Int×Unit) (r3 r4:List Pr2):Nat:=v4.toNat + 1
def Jj (v7 v8:Int) (b0:(List Int)×Int×Unit) (r3 r4:List Pr2):Nat:=(v7 - (r4.length:Int)).toNat + 1
def Es (v7 v8:Int) (b0:(List Int)×Int×Unit) (r3 r4:List Pr2):Nat:=(v7 - (r4.length:Int)).toNat + 1
def Aoh:Sig:=⟨[.bx 176 (.pair (.sl (.int .u8)) (.pair tI .unit))],[none],[.own 157 Av],[some 1]⟩
noncomputable def ta_spec_l4Any:Tb:=tb [(63,sd_spec_l1Rd__pick),(115,sd_spec_l4DrawBatch),(123,sd_spec_Apply),(194,sd_spec_l1DrawText),(195,sd_spec_l1Many)]
def pa_spec_l4Any:Nat→Pat×(Nat→Pat):=Gf [(6,⟨[.boxRow 2 0 157 Av,.boxRow 3 0 157 Av],[(0,.lf (.ptr 0 0)),(2,.lf (.ptr 1 0)),(3,.lf (.ptr 2 0)),(4,.lf (.d tI))],[.box 176 [.d (.pair (.sl (.int .u8)) (.pair tI .unit))],.box 31 [.row 3],.box 31 [.row 4],.row 157 Av,.row 157 Av]⟩,[(2,⟨[.boxRow 2 0 157 Av,.boxRow 3 0 157 Av],[(0,.lf (.ptr 0 0)),(2,.lf (.ptr 1 0)),(3,.lf (.ptr 2 0))],[.box 176 [.d (.pair (.sl (.int .u8)) (.pair tI .unit))],.box 31 [.row 3],.box 31 [.row 4],.row 157 Av,.row 157 Av]⟩)]),(14,⟨[.boxRow 2 0 157 Av,.boxRow 3 0 157 Av],[(0,.lf (.ptr 0 0)),(2,.lf (.ptr 1 0)),(3,.lf (.ptr 2 0)),(7,.lf (.d tI)),(8,.lf (.d tI))],[.box 176 [.d (.pair (.sl (.int .u8)) (.pair tI .unit))],.box 31 [.row 3],.box 31 [.row 4],.row 157 Av,.row 157 Av]⟩,[(4,⟨[.boxRow 2 0 157 Av,.boxRow 3 0 157 Av],[(0,.lf (.ptr 0 0)),(2,.lf (.ptr 1 0)),(3,.lf (.ptr 2 0))],[.box 176 [.d (.pair (.sl (.int .u8)) (.pair tI .unit))],.box 31 [.row 3],.box 31 [.row 4],.row 157 Av,.row 157 Av]⟩)]),(24,⟨[.boxRow 2 0 157 Av,.boxRow 3 0 157 Av],[(2,.lf (.ptr 1 0)),(3,.lf (.ptr 2 0)),(10,.lf (.d tI)),(11,.lf (.d tI))],[.box 176 [.d (.pair (.sl (.int .u8)) (.pair tI .unit))],.box 31 [.row 3],.box 31 [.row 4],.row 157 Av,.row 157 Av]⟩,[(7,⟨[.boxRow 2 0 157 Av,.boxRow 3 0 157 Av],[(2,.lf (.ptr 1 0)),(3,.lf (.ptr 2 0))],[.box 176 [.d (.pair (.sl (.int .u8)) (.pair tI .unit))],.box 31 [.row 3],.box 31 [.row 4],.row 157 Av,.row 157 Av]⟩)])]
noncomputable def co_spec_l4Any_6:Code:=(As (Ba Tryz.f209)).getD 0 .skip
noncomputable def co_spec_l4Any_14:Code:=(As (Ba Tryz.f209)).getD 1 .skip
noncomputable def co_spec_l4Any_24:Code:=(As (Ba Tryz.f209)).getD 2 .skip
noncomputable def Lh {R:Type}  (NX:((Int)×(Int)×((List Int)×Int×Unit)×(List Pr2)×(List Pr2)×Unit)→Option R) (X7:(((List Int)×Int×Unit)×(List Pr2)×(List Pr2)×Unit)→Option R) (v10:Int) (v11:Int) (b0:(List Int)×Int×Unit) (r3:List Pr2) (r4:List Pr2):Option R:=
 bif decide (nI r4.length < v10) then bif decide ((r4.length + [(ByteArray.mk #[122,122]++strOfNums [IntKind.u8.wrap (IntKind.i64.wrap (48 + IntKind.i64.wrap (v11.tdiv 10))),IntKind.u8.wrap (IntKind.i64.wrap (48 + v11.tmod 10))],ByteArray.mk #[],())].length) * 32≤140737488355328) then NX (v10,IntKind.i64.wrap (v11 + 1),b0,r3,r4++[(ByteArray.mk #[122,122]++strOfNums [IntKind.u8.wrap (IntKind.i64.wrap (48 + IntKind.i64.wrap (v11.tdiv 10))),IntKind.u8.wrap (IntKind.i64.wrap (48 + v11.tmod 10))],ByteArray.mk #[],())],()) else none else X7 (b0,r3,r4,())
noncomputable def Du:Nat→(Int)→(Int)→((List Int)×Int×Unit)→(List Pr2)→(List Pr2) →  Option (((List Int)×Int×Unit)×(List Pr2)×(List Pr2)×Unit)
 | 0,_,_,_,_,_=>none
 | m + 1,v10,v11,b0,r3,r4=>Lh  (fun d=>Du m d.1 d.2.1 d.2.2.1 d.2.2.2.1 d.2.2.2.2.1) (fun d=>some (d)) v10 v11 b0 r3 r4
noncomputable def Li {R:Type}  (NX:((Int)×(Int)×((List Int)×Int×Unit)×(List Pr2)×(List Pr2)×Unit)→Option R) (X4:(((List Int)×Int×Unit)×(List Pr2)×(List Pr2)×Unit)→Option R) (v7:Int) (v8:Int) (b0:(List Int)×Int×Unit) (r3:List Pr2) (r4:List Pr2):Option R:=
 bif decide (nI r4.length < v7) then (m_spec_l1DrawText b0).bind fun val=>bif decide ((r4.length + [(ByteArray.mk #[122]++strOfNums [IntKind.u8.wrap (IntKind.i64.wrap (48 + IntKind.i64.wrap (v8.tdiv 10))),IntKind.u8.wrap (IntKind.i64.wrap (48 + v8.tmod 10))],val.1)].length) * 32≤140737488355328) then bif decide (0≤IntKind.i64.wrap (nI (r4++[(ByteArray.mk #[122]++strOfNums [IntKind.u8.wrap (IntKind.i64.wrap (48 + IntKind.i64.wrap (v8.tdiv 10))),IntKind.u8.wrap (IntKind.i64.wrap (48 + v8.tmod 10))],val.1)]).length - 1)) then bif decide (IntKind.i64.wrap (nI (r4++[(ByteArray.mk #[122]++strOfNums [IntKind.u8.wrap (IntKind.i64.wrap (48 + IntKind.i64.wrap (v8.tdiv 10))),IntKind.u8.wrap (IntKind.i64.wrap (48 + v8.tmod 10))],val.1)]).length - 1) < nI (r4++[(ByteArray.mk #[122]++strOfNums [IntKind.u8.wrap (IntKind.i64.wrap (48 + IntKind.i64.wrap (v8.tdiv 10))),IntKind.u8.wrap (IntKind.i64.wrap (48 + v8.tmod 10))],val.1)]).length) then bif decide (nI (ByteArray.size ((r4++[(ByteArray.mk #[122]++strOfNums [IntKind.u8.wrap (IntKind.i64.wrap (48 + IntKind.i64.wrap (v8.tdiv 10))),IntKind.u8.wrap (IntKind.i64.wrap (48 + v8.tmod 10))],val.1)]).getD (IntKind.i64.wrap (nI (r4++[(ByteArray.mk #[122]++strOfNums [IntKind.u8.wrap (IntKind.i64.wrap (48 + IntKind.i64.wrap (v8.tdiv 10))),IntKind.u8.wrap (IntKind.i64.wrap (48 + v8.tmod 10))],val.1)]).length - 1)).toNat (ByteArray.mk #[],ByteArray.mk #[],())).2.1) > 100) then bif decide (0≤IntKind.i64.wrap (nI (r4++[(ByteArray.mk #[122]++strOfNums [IntKind.u8.wrap (IntKind.i64.wrap (48 + IntKind.i64.wrap (v8.tdiv 10))),IntKind.u8.wrap (IntKind.i64.wrap (48 + v8.tmod 10))],val.1)]).length - 1)) then bif decide (IntKind.i64.wrap (nI (r4++[(ByteArray.mk #[122]++strOfNums [IntKind.u8.wrap (IntKind.i64.wrap (48 + IntKind.i64.wrap (v8.tdiv 10))),IntKind.u8.wrap (IntKind.i64.wrap (48 + v8.tmod 10))],val.1)]).length - 1) < nI (r4++[(ByteArray.mk #[122]++strOfNums [IntKind.u8.wrap (IntKind.i64.wrap (48 + IntKind.i64.wrap (v8.tdiv 10))),IntKind.u8.wrap (IntKind.i64.wrap (48 + v8.tmod 10))],val.1)]).length) then bif decide ((IntKind.i64.wrap (nI (r4++[(ByteArray.mk #[122]++strOfNums [IntKind.u8.wrap (IntKind.i64.wrap (48 + IntKind.i64.wrap (v8.tdiv 10))),IntKind.u8.wrap (IntKind.i64.wrap (48 + v8.tmod 10))],val.1)]).length - 1)).toNat < (r4++[(ByteArray.mk #[122]++strOfNums [IntKind.u8.wrap (IntKind.i64.wrap (48 + IntKind.i64.wrap (v8.tdiv 10))),IntKind.u8.wrap (IntKind.i64.wrap (48 + v8.tmod 10))],val.1)]).length) then NX (v7,IntKind.i64.wrap (v8 + 1),val.2.1,r3,(r4++[(ByteArray.mk #[122]++strOfNums [IntKind.u8.wrap (IntKind.i64.wrap (48 + IntKind.i64.wrap (v8.tdiv 10))),IntKind.u8.wrap (IntKind.i64.wrap (48 + v8.tmod 10))],val.1)]).set (IntKind.i64.wrap (nI (r4++[(ByteArray.mk #[122]++strOfNums [IntKind.u8.wrap (IntKind.i64.wrap (48 + IntKind.i64.wrap (v8.tdiv 10))),IntKind.u8.wrap (IntKind.i64.wrap (48 + v8.tmod 10))],val.1)]).length - 1)).toNat (((r4++[(ByteArray.mk #[122]++strOfNums [IntKind.u8.wrap (IntKind.i64.wrap (48 + IntKind.i64.wrap (v8.tdiv 10))),IntKind.u8.wrap (IntKind.i64.wrap (48 + v8.tmod 10))],val.1)]).getD (IntKind.i64.wrap (nI (r4++[(ByteArray.mk #[122]++strOfNums [IntKind.u8.wrap (IntKind.i64.wrap (48 + IntKind.i64.wrap (v8.tdiv 10))),IntKind.u8.wrap (IntKind.i64.wrap (48 + v8.tmod 10))],val.1)]).length - 1)).toNat (ByteArray.mk #[],ByteArray.mk #[],())).1,ByteArray.mk #[],()),()) else none else none else none else NX (v7,IntKind.i64.wrap (v8 + 1),val.2.1,r3,r4++[(ByteArray.mk #[122]++strOfNums [IntKind.u8.wrap (IntKind.i64.wrap (48 + IntKind.i64.wrap (v8.tdiv 10))),IntKind.u8.wrap (IntKind.i64.wrap (48 + v8.tmod 10))],val.1)],()) else none else none else none else X4 (b0,r3,r4,())
noncomputable def Et:Nat→(Int)→(Int)→((List Int)×Int×Unit)→(List Pr2)→(List Pr2) →  Option (((List Int)×Int×Unit)×(List Pr2)×(List Pr2)×Unit)
 | 0,_,_,_,_,_=>none
 | m + 1,v7,v8,b0,r3,r4=>Li  (fun d=>Et m d.1 d.2.1 d.2.2.1 d.2.2.2.1 d.2.2.2.2.1) (fun d=>some (d)) v7 v8 b0 r3 r4
noncomputable def Mc {R:Type}  (NX:((Int)×((List Int)×Int×Unit)×(List Pr2)×(List Pr2)×Unit)→Option R) (X2:(((List Int)×Int×Unit)×(List Pr2)×(List Pr2)×Unit)→Option R) (v4:Int) (b0:(List Int)×Int×Unit) (r3:List Pr2) (r4:List Pr2):Option R:=
 bif decide (v4 > 0) then (m_spec_l4DrawBatch b0).bind fun val=>bif (Cw (r4,()) val.1.1).2==0 then NX (IntKind.i64.wrap (v4 - 1),val.2.1,r3,(Cw (r4,()) val.1.1).1) else NX (IntKind.i64.wrap (v4 - 1),val.2.1,r3,r4,()) else X2 (b0,r3,r4,())
noncomputable def E8:Nat→(Int)→((List Int)×Int×Unit)→(List Pr2)→(List Pr2) →  Option (((List Int)×Int×Unit)×(List Pr2)×(List Pr2)×Unit)
 | 0,_,_,_,_=>none
 | m + 1,v4,b0,r3,r4=>Mc  (fun d=>E8 m d.1 d.2.1 d.2.2.1 d.2.2.2.1) (fun d=>some (d)) v4 b0 r3 r4
noncomputable def Pj (a0:(List Int)×Int×Unit):Option ((Stt×(((List Int)×Int×Unit)×Unit))):=
 ((Aa a0 4).bind fun val=>some ((val.1,()),val.2,())).bind fun val=>((Aa val.2.1 4).bind fun val=>some ((val.1,()),val.2,())).bind fun val_1=>bif val_1.1.1==0 then ((fun d=>E8 (H6 d.1 d.2.1 d.2.2.1 d.2.2.2.1) d.1 d.2.1 d.2.2.1 d.2.2.2.1) (10,val_1.2.1,[],[],())).bind fun val=>((Aa val.1 12).bind fun val=>some ((val.1,()),val.2,())).bind fun val_2=>bif val_2.1.1==0 then ((Aa val_2.2.1 3).bind fun val=>some ((val.1,()),val.2,())).bind fun val_3=>((fun d=>Et (Jj d.1 d.2.1 d.2.2.1 d.2.2.2.1 d.2.2.2.2.1) d.1 d.2.1 d.2.2.1 d.2.2.2.1 d.2.2.2.2.1) (IntKind.i64.wrap (100 - val_3.1.1),0,val_3.2.1,val.2)).bind fun val=>((Aa val.1 8).bind fun val=>some ((val.1,()),val.2,())).bind fun val_4=>bif val_4.1.1==0 then bif decide (nI val.2.2.1.length > 0) then ((Aa val_4.2.1 (nI val.2.2.1.length)).bind fun val=>some ((val.1,()),val.2,())).bind fun val_5=>((Aa val_5.2.1 4).bind fun val=>some ((val.1,()),val.2,())).bind fun val_6=>bif val_6.1.1==0 then ((Aa val_6.2.1 2).bind fun val=>some ((val.1,()),val.2,())).bind fun val_7=>(m_spec_l1Many (ByteArray.mk #[122]) (IntKind.i64.wrap (20 + val_7.1.1))).bind fun val_8=>((Aa val_7.2.1 3).bind fun val=>some ((val.1,()),val.2,())).bind fun val_9=>bif decide (0≤val_9.1.1) then bif decide (val_9.1.1 < nI [ByteArray.mk #[],ByteArray.mk #[97],val_8.1.1].length) then bif decide (0≤val_5.1.1) then bif decide (val_5.1.1 < nI val.2.2.1.length) then bif decide (Int.toNat val_5.1.1 < val.2.2.1.length) then some ((val.2.2.1.set (Int.toNat val_5.1.1) ([ByteArray.mk #[],ByteArray.mk #[97],val_8.1.1].getD (Int.toNat val_9.1.1) (ByteArray.mk #[]),(val.2.2.1.getD (Int.toNat val_5.1.1) (ByteArray.mk #[],ByteArray.mk #[],())).2),()),val_9.2) else none else none else none else none else none else bif val_6.1.1==1 then ((Aa val_6.2.1 2).bind fun val=>some ((val.1,()),val.2,())).bind fun val_7=>(m_spec_l1Many (ByteArray.mk #[118]) (IntKind.i64.wrap (100 + val_7.1.1))).bind fun val_8=>bif decide (0≤val_5.1.1) then bif decide (val_5.1.1 < nI val.2.2.1.length) then bif decide (Int.toNat val_5.1.1 < val.2.2.1.length) then some ((val.2.2.1.set (Int.toNat val_5.1.1) ((val.2.2.1.getD (Int.toNat val_5.1.1) (ByteArray.mk #[],ByteArray.mk #[],())).1,val_8.1),()),val_7.2) else none else none else none else bif val_6.1.1==2 then bif decide (0≤val_5.1.1) then bif decide (val_5.1.1 < nI val.2.2.1.length) then bif decide ((val.2.2.1.length + [val.2.2.1.getD (Int.toNat val_5.1.1) (ByteArray.mk #[],ByteArray.mk #[],())].length) * 32≤140737488355328) then some ((val.2.2.1++[val.2.2.1.getD (Int.toNat val_5.1.1) (ByteArray.mk #[],ByteArray.mk #[],())],()),val_6.2) else none else none else none else ((fun d=>Du (Es d.1 d.2.1 d.2.2.1 d.2.2.2.1 d.2.2.2.2.1) d.1 d.2.1 d.2.2.1 d.2.2.2.1 d.2.2.2.2.1) (101,0,val_6.2.1,val.2)).bind fun val=>some (val.2.2,val.1,()) else some (val.2.2,val_4.2) else some (val.2.2,val_4.2) else ((Aa val_2.2.1 8).bind fun val=>some ((val.1,()),val.2,())).bind fun val_3=>bif val_3.1.1==0 then bif decide (nI val.2.2.1.length > 0) then ((Aa val_3.2.1 (nI val.2.2.1.length)).bind fun val=>some ((val.1,()),val.2,())).bind fun val_4=>((Aa val_4.2.1 4).bind fun val=>some ((val.1,()),val.2,())).bind fun val_5=>bif val_5.1.1==0 then ((Aa val_5.2.1 2).bind fun val=>some ((val.1,()),val.2,())).bind fun val_6=>(m_spec_l1Many (ByteArray.mk #[122]) (IntKind.i64.wrap (20 + val_6.1.1))).bind fun val_7=>((Aa val_6.2.1 3).bind fun val=>some ((val.1,()),val.2,())).bind fun val_8=>bif decide (0≤val_8.1.1) then bif decide (val_8.1.1 < nI [ByteArray.mk #[],ByteArray.mk #[97],val_7.1.1].length) then bif decide (0≤val_4.1.1) then bif decide (val_4.1.1 < nI val.2.2.1.length) then bif decide (Int.toNat val_4.1.1 < val.2.2.1.length) then some ((val.2.2.1.set (Int.toNat val_4.1.1) ([ByteArray.mk #[],ByteArray.mk #[97],val_7.1.1].getD (Int.toNat val_8.1.1) (ByteArray.mk #[]),(val.2.2.1.getD (Int.toNat val_4.1.1) (ByteArray.mk #[],ByteArray.mk #[],())).2),()),val_8.2) else none else none else none else none else none else bif val_5.1.1==1 then ((Aa val_5.2.1 2).bind fun val=>some ((val.1,()),val.2,())).bind fun val_6=>(m_spec_l1Many (ByteArray.mk #[118]) (IntKind.i64.wrap (100 + val_6.1.1))).bind fun val_7=>bif decide (0≤val_4.1.1) then bif decide (val_4.1.1 < nI val.2.2.1.length) then bif decide (Int.toNat val_4.1.1 < val.2.2.1.length) then some ((val.2.2.1.set (Int.toNat val_4.1.1) ((val.2.2.1.getD (Int.toNat val_4.1.1) (ByteArray.mk #[],ByteArray.mk #[],())).1,val_7.1),()),val_6.2) else none else none else none else bif val_5.1.1==2 then bif decide (0≤val_4.1.1) then bif decide (val_4.1.1 < nI val.2.2.1.length) then bif decide ((val.2.2.1.length + [val.2.2.1.getD (Int.toNat val_4.1.1) (ByteArray.mk #[],ByteArray.mk #[],())].length) * 32≤140737488355328) then some ((val.2.2.1++[val.2.2.1.getD (Int.toNat val_4.1.1) (ByteArray.mk #[],ByteArray.mk #[],())],()),val_5.2) else none else none else none else ((fun d=>Du (Es d.1 d.2.1 d.2.2.1 d.2.2.2.1 d.2.2.2.2.1) d.1 d.2.1 d.2.2.1 d.2.2.2.1 d.2.2.2.2.1) (101,0,val_5.2.1,val.2)).bind fun val=>some (val.2.2,val.1,()) else some (val.2.2,val_3.2) else some (val.2.2,val_3.2) else ((fun d=>E8 (H6 d.1 d.2.1 d.2.2.1 d.2.2.2.1) d.1 d.2.1 d.2.2.1 d.2.2.2.1) (val.1.1,val_1.2.1,[],[],())).bind fun val=>((Aa val.1 12).bind fun val=>some ((val.1,()),val.2,())).bind fun val_2=>bif val_2.1.1==0 then ((Aa val_2.2.1 3).bind fun val=>some ((val.1,()),val.2,())).bind fun val_3=>((fun d=>Et (Jj d.1 d.2.1 d.2.2.1 d.2.2.2.1 d.2.2.2.2.1) d.1 d.2.1 d.2.2.1 d.2.2.2.1 d.2.2.2.2.1) (IntKind.i64.wrap (100 - val_3.1.1),0,val_3.2.1,val.2)).bind fun val=>((Aa val.1 8).bind fun val=>some ((val.1,()),val.2,())).bind fun val_4=>bif val_4.1.1==0 then bif decide (nI val.2.2.1.length > 0) then ((Aa val_4.2.1 (nI val.2.2.1.length)).bind fun val=>some ((val.1,()),val.2,())).bind fun val_5=>((Aa val_5.2.1 4).bind fun val=>some ((val.1,()),val.2,())).bind fun val_6=>bif val_6.1.1==0 then ((Aa val_6.2.1 2).bind fun val=>some ((val.1,()),val.2,())).bind fun val_7=>(m_spec_l1Many (ByteArray.mk #[122]) (IntKind.i64.wrap (20 + val_7.1.1))).bind fun val_8=>((Aa val_7.2.1 3).bind fun val=>some ((val.1,()),val.2,())).bind fun val_9=>bif decide (0≤val_9.1.1) then bif decide (val_9.1.1 < nI [ByteArray.mk #[],ByteArray.mk #[97],val_8.1.1].length) then bif decide (0≤val_5.1.1) then bif decide (val_5.1.1 < nI val.2.2.1.length) then bif decide (Int.toNat val_5.1.1 < val.2.2.1.length) then some ((val.2.2.1.set (Int.toNat val_5.1.1) ([ByteArray.mk #[],ByteArray.mk #[97],val_8.1.1].getD (Int.toNat val_9.1.1) (ByteArray.mk #[]),(val.2.2.1.getD (Int.toNat val_5.1.1) (ByteArray.mk #[],ByteArray.mk #[],())).2),()),val_9.2) else none else none else none else none else none else bif val_6.1.1==1 then ((Aa val_6.2.1 2).bind fun val=>some ((val.1,()),val.2,())).bind fun val_7=>(m_spec_l1Many (ByteArray.mk #[118]) (IntKind.i64.wrap (100 + val_7.1.1))).bind fun val_8=>bif decide (0≤val_5.1.1) then bif decide (val_5.1.1 < nI val.2.2.1.length) then bif decide (Int.toNat val_5.1.1 < val.2.2.1.length) then some ((val.2.2.1.set (Int.toNat val_5.1.1) ((val.2.2.1.getD (Int.toNat val_5.1.1) (ByteArray.mk #[],ByteArray.mk #[],())).1,val_8.1),()),val_7.2) else none else none else none else bif val_6.1.1==2 then bif decide (0≤val_5.1.1) then bif decide (val_5.1.1 < nI val.2.2.1.length) then bif decide ((val.2.2.1.length + [val.2.2.1.getD (Int.toNat val_5.1.1) (ByteArray.mk #[],ByteArray.mk #[],())].length) * 32≤140737488355328) then some ((val.2.2.1++[val.2.2.1.getD (Int.toNat val_5.1.1) (ByteArray.mk #[],ByteArray.mk #[],())],()),val_6.2) else none else none else none else ((fun d=>Du (Es d.1 d.2.1 d.2.2.1 d.2.2.2.1 d.2.2.2.2.1) d.1 d.2.1 d.2.2.1 d.2.2.2.1 d.2.2.2.2.1) (101,0,val_6.2.1,val.2)).bind fun val=>some (val.2.2,val.1,()) else some (val.2.2,val_4.2) else some (val.2.2,val_4.2) else ((Aa val_2.2.1 8).bind fun val=>some ((val.1,()),val.2,())).bind fun val_3=>bif val_3.1.1==0 then bif decide (nI val.2.2.1.length > 0) then ((Aa val_3.2.1 (nI val.2.2.1.length)).bind fun val=>some ((val.1,()),val.2,())).bind fun val_4=>((Aa val_4.2.1 4).bind fun val=>some ((val.1,()),val.2,())).bind fun val_5=>bif val_5.1.1==0 then ((Aa val_5.2.1 2).bind fun val=>some ((val.1,()),val.2,())).bind fun val_6=>(m_spec_l1Many (ByteArray.mk #[122]) (IntKind.i64.wrap (20 + val_6.1.1))).bind fun val_7=>((Aa val_6.2.1 3).bind fun val=>some ((val.1,()),val.2,())).bind fun val_8=>bif decide (0≤val_8.1.1) then bif decide (val_8.1.1 < nI [ByteArray.mk #[],ByteArray.mk #[97],val_7.1.1].length) then bif decide (0≤val_4.1.1) then bif decide (val_4.1.1 < nI val.2.2.1.length) then bif decide (Int.toNat val_4.1.1 < val.2.2.1.length) then some ((val.2.2.1.set (Int.toNat val_4.1.1) ([ByteArray.mk #[],ByteArray.mk #[97],val_7.1.1].getD (Int.toNat val_8.1.1) (ByteArray.mk #[]),(val.2.2.1.getD (Int.toNat val_4.1.1) (ByteArray.mk #[],ByteArray.mk #[],())).2),()),val_8.2) else none else none else none else none else none else bif val_5.1.1==1 then ((Aa val_5.2.1 2).bind fun val=>some ((val.1,()),val.2,())).bind fun val_6=>(m_spec_l1Many (ByteArray.mk #[118]) (IntKind.i64.wrap (100 + val_6.1.1))).bind fun val_7=>bif decide (0≤val_4.1.1) then bif decide (val_4.1.1 < nI val.2.2.1.length) then bif decide (Int.toNat val_4.1.1 < val.2.2.1.length) then some ((val.2.2.1.set (Int.toNat val_4.1.1) ((val.2.2.1.getD (Int.toNat val_4.1.1) (ByteArray.mk #[],ByteArray.mk #[],())).1,val_7.1),()),val_6.2) else none else none else none else bif val_5.1.1==2 then bif decide (0≤val_4.1.1) then bif decide (val_4.1.1 < nI val.2.2.1.length) then bif decide ((val.2.2.1.length + [val.2.2.1.getD (Int.toNat val_4.1.1) (ByteArray.mk #[],ByteArray.mk #[],())].length) * 32≤140737488355328) then some ((val.2.2.1++[val.2.2.1.getD (Int.toNat val_4.1.1) (ByteArray.mk #[],ByteArray.mk #[],())],()),val_5.2) else none else none else none else ((fun d=>Du (Es d.1 d.2.1 d.2.2.1 d.2.2.2.1 d.2.2.2.2.1) d.1 d.2.1 d.2.2.1 d.2.2.2.1 d.2.2.2.2.1) (101,0,val_5.2.1,val.2)).bind fun val=>some (val.2.2,val.1,()) else some (val.2.2,val_3.2) else some (val.2.2,val_3.2)
theorem y5:∃ f,f=@Pj:=⟨_,rfl⟩
noncomputable def m_spec_l4Any:=Classical.choose y5
theorem y6:@m_spec_l4Any=@Pj:=Classical.choose_spec y5
noncomputable def sd_spec_l4Any:SD:=⟨Aoh,fun x=>m_spec_l4Any x.1⟩
theorem Agg (x:List Pr2):∀ (m n k:Nat) (r:Rd) (l:List Pr2),n < m→n≤10→Aj (l,())=true→Kz k r→k + 400 * n < 1099511627776→Ai (E8 m n r x l) fun q=>q.2.2.1.length≤100∧Kz (k + 400 * n) q.1
 | 0,n,k,r,l,h,_,_,_,_=>by omega
 | m + 1,n,k,r,l,h,hn,hv,hr,hk=>by
  simp only [E8,Mc]
  refine Ai.cond (fun c=>?_) fun c=>Ai.some ⟨De hv,hr.mono (by omega)⟩
  have hp:0 < n:=by simpa using c
  have ew:IntKind.i64.wrap ((n:Int) - 1)=((n - 1:Nat):Int):=by rw [Ag (by omega) (by omega)]; omega
  rw [ew]
  refine Ai.bind (Aut hr (by omega)) fun q hq=>?_
  have e1:Cw (l,()) q.1.1=Dw (l,()) q.1.1:=rfl
  rw [e1]
  have go:∀ l',Aj (l',())=true→Ai (E8 m ((n - 1:Nat):Int) q.2.1 x l') fun q=>q.2.2.1.length≤100∧Kz (k + 400 * n) q.1:=fun l' hv'=>
   (Agg x m (n - 1) (k + 400) q.2.1 l' (by omega) (by omega) hv' hq.2 (by omega)).mono fun z hz=>by
    rw [show k + 400 + 400 * (n - 1)=k + 400 * n by omega] at hz
    exact hz
  exact Ai.cond (fun _=>go _ (Tr (l,()) q.1.1)) fun _=>go _ hv
theorem Am2 (x:List Pr2) (n:Nat) (hn:n≤100):∀ (m k:Nat) (i:Int) (r:Rd) (l:List Pr2),n - l.length < m→l.length≤100→Kz k r→k + 10 * (n - l.length) < 1099511627776→Ai (Et m n i r x l) fun q=>q.2.2.1.length≤100∧Kz (k + 10 * (n - l.length)) q.1
 | 0,k,i,r,l,h,_,_,_=>by omega
 | m + 1,k,i,r,l,h,hl,hr,hk=>by
  simp only [Et,Li]
  refine Ai.cond (fun c=>?_) fun c=>Ai.some ⟨hl,hr.mono (by omega)⟩
  have c:l.length < n:=by have:=of_decide_eq_true c; simp only [nI] at this; omega
  refine Ai.bind (Ayi hr (by omega)) fun q hq=>?_
  generalize (ByteArray.mk #[122]++strOfNums [IntKind.u8.wrap (IntKind.i64.wrap (48 + IntKind.i64.wrap (i.tdiv 10))),IntKind.u8.wrap (IntKind.i64.wrap (48 + i.tmod 10))])=key
  have e1:IntKind.i64.wrap (nI (l++[(key,q.1)]).length - 1)=(l.length:Int):=by rw [List.length_append,List.length_singleton]; exact Ali _ (by omega)
  rw [e1]
  have go:∀ l':List Pr2,l'.length=l.length + 1→Ai (Et m n (IntKind.i64.wrap (i + 1)) q.2.1 x l') fun q=>q.2.2.1.length≤100∧Kz (k + 10 * (n - l.length)) q.1:=fun l' hl'=>
   (Am2 x n hn m (k + 10) _ q.2.1 l' (by omega) (by omega) hq.2 (by omega)).mono fun z hz=>by
    rw [show k + 10 + 10 * (n - l'.length)=k + 10 * (n - l.length) by omega] at hz
    exact hz
  have hlen:(l++[(key,q.1)]).length=l.length + 1:=by rw [List.length_append,List.length_singleton]
  have d1:decide (0≤(l.length:Int))=true:=decide_eq_true (by omega)
  have d2:decide ((l.length:Int) < nI (l++[(key,q.1)]).length)=true:=decide_eq_true (by rw [hlen]; simp only [nI]; omega)
  have d3:decide ((l.length:Int).toNat < (l++[(key,q.1)]).length)=true:=decide_eq_true (by rw [hlen]; omega)
  refine Ai.go (decide_eq_true (by simp only [List.length_singleton]; omega)) (Ai.go d1 (Ai.go d2 (Ai.cond (fun _=>Ai.go d1 (Ai.go d2 (Ai.go d3 (go _ ?_)))) fun _=>go _ hlen)))
  rw [List.length_set,hlen]
theorem Abf (x:List Pr2) (r:Rd):∀ (m:Nat) (i:Int) (l:List Pr2),101 - l.length < m→l.length≤101→Ai (Du m 101 i r x l) fun q=>q.2.2.1.length≤101∧q.1=r
 | 0,i,l,h,_=>by omega
 | m + 1,i,l,h,hl=>by
  simp only [Du,Lh]
  refine Ai.cond (fun c=>?_) fun c=>Ai.some ⟨hl,rfl⟩
  have c:l.length < 101:=by have:=of_decide_eq_true c; simp only [nI] at this; omega
  refine Ai.go (decide_eq_true (by simp only [List.length_singleton]; omega)) ?_
  exact Abf x r m _ _ (by rw [List.length_append,List.length_singleton]; omega) (by rw [List.length_append,List.length_singleton]; omega)
theorem A2d {k:Nat} {r:Rd} (h:Kz k r) (hk:k + 6000 < 1099511627776):Ai (m_spec_l4Any r) fun q=>q.1.1.length≤101∧Kz (k + 6000) q.2.1:=by
 rw [y6]
 unfold Pj
 refine At h (by omega) (by omega) fun v r1 v0 v1 h1=>?_
 dsimp only
 refine At h1 (by omega) (by omega) fun w r2 w0 w1 h2=>?_
 dsimp only
 obtain ⟨n,rfl⟩:∃ n:Nat,v=(n:Int):=⟨v.toNat,by omega⟩
 refine Ai.cond (fun _=>Ai.bind (Agg [] _ 10 (k + 2) r2 [] (by simp only [H6]; omega) (by omega) rfl (h2.mono (by omega)) (by omega)) fun q hq=>?_) fun _=>Ai.bind (Agg [] _ n (k + 2) r2 [] (by simp only [H6]; omega) (by omega) rfl (h2.mono (by omega)) (by omega)) fun q hq=>?_
 all_goals
  obtain ⟨r3,x,l,⟨⟩⟩:=q
  obtain ⟨hl,h3⟩:=hq
  replace h3:Kz (k + 4002) r3:=h3.mono (by omega)
  replace hl:l.length≤100:=hl
  dsimp only
  refine At h3 (by omega) (by omega) fun v2 r4 a0 a1 h4=>?_
  dsimp only
  refine Ai.cond (fun _=>?_) fun _=>?_
  ·refine At h4 (by omega) (by omega) fun v3 r5 b0 b1 h5=>?_
   dsimp only
   have ew:IntKind.i64.wrap (100 - v3)=((100 - v3).toNat:Int):=by rw [Ag (by omega) (by omega)]; omega
   rw [ew]
   refine Ai.bind (Am2 x (100 - v3).toNat (by omega) _ (k + 4004) 0 r5 l (by simp only [Jj]; omega) hl (h5.mono (by omega)) (by omega)) fun q4 hq4=>?_
   obtain ⟨r6,x,l2,⟨⟩⟩:=q4
   obtain ⟨hl2,h6⟩:=hq4
   replace h6:Kz (k + 5004) r6:=h6.mono (by omega)
   replace hl2:l2.length≤100:=hl2
   dsimp only
   refine At h6 (by omega) (by omega) fun v4 rb b0 b1 hb=>?_
   dsimp only
   refine Ai.cond (fun _=>Ai.cond (fun c=>?_) fun _=>Ai.some ⟨by show List.length l2≤101; omega,hb.mono (by omega)⟩) fun _=>Ai.some ⟨by show List.length l2≤101; omega,hb.mono (by omega)⟩
   have hn:0 < List.length l2:=by have:=of_decide_eq_true c; simp only [nI] at this; omega
   refine At hb (by omega) (by simp only [nI]; omega) fun i rc c0 c1 hc=>?_
   dsimp only
   refine At hc (by omega) (by omega) fun j rd d0 d1 hd=>?_
   dsimp only
   have e0:decide (0≤i)=true:=decide_eq_true c0
   have e1:decide (i < nI (List.length l2))=true:=decide_eq_true c1
   have e2:decide (i.toNat < List.length l2)=true:=decide_eq_true (by simp only [nI] at c1; omega)
   have so:∀ z:Pr2,(List.set l2 i.toNat z).length≤101:=fun z=>by rw [List.length_set]; omega
   refine Ai.cond (fun _=>?_) fun _=>Ai.cond (fun _=>?_) fun _=>Ai.cond (fun _=>?_) fun _=>?_
   ·refine At hd (by omega) (by omega) fun y re f0 f1 he=>?_
    dsimp only
    rw [Ag (n:=20 + y) (by omega) (by omega)]
    refine Ai.bind (l4 (ByteArray.mk #[122]) (20 + y) (by omega) (by omega) (by decide)) fun q3 hq3=>?_
    refine At he (by omega) (by omega) fun z rg g0 g1 hg=>?_
    dsimp only
    exact Ai.go (decide_eq_true g0) (Ai.go (decide_eq_true g1) (Ai.go e0 (Ai.go e1 (Ai.go e2 (Ai.some ⟨so _,hg.mono (by omega)⟩)))))
   ·refine At hd (by omega) (by omega) fun y re f0 f1 he=>?_
    dsimp only
    rw [Ag (n:=100 + y) (by omega) (by omega)]
    refine Ai.bind (l4 (ByteArray.mk #[118]) (100 + y) (by omega) (by omega) (by decide)) fun q3 hq3=>?_
    exact Ai.go e0 (Ai.go e1 (Ai.go e2 (Ai.some ⟨so _,he.mono (by omega)⟩)))
   ·exact Ai.go e0 (Ai.go e1 (Ai.go (decide_eq_true (by simp only [List.length_singleton]; omega)) (Ai.some ⟨by show List.length (_++[_])≤101; rw [List.length_append,List.length_singleton]; omega,hd.mono (by omega)⟩)))
   ·refine Ai.bind (Abf x rd _ 0 l2 (by simp only [Es]; omega) (by omega)) fun q5 hq5=>Ai.some ⟨hq5.1,?_⟩
    show Kz (k + 6000) q5.1
    rw [hq5.2]
    exact hd.mono (by omega)
  ·have h6:Kz (k + 5004) r4:=h4.mono (by omega)
   try dsimp only
   refine At h6 (by omega) (by omega) fun v4 rb b0 b1 hb=>?_
   dsimp only
   refine Ai.cond (fun _=>Ai.cond (fun c=>?_) fun _=>Ai.some ⟨by show List.length l≤101; omega,hb.mono (by omega)⟩) fun _=>Ai.some ⟨by show List.length l≤101; omega,hb.mono (by omega)⟩
   have hn:0 < List.length l:=by have:=of_decide_eq_true c; simp only [nI] at this; omega
   refine At hb (by omega) (by simp only [nI]; omega) fun i rc c0 c1 hc=>?_
   dsimp only
   refine At hc (by omega) (by omega) fun j rd d0 d1 hd=>?_
   dsimp only
   have e0:decide (0≤i)=true:=decide_eq_true c0
   have e1:decide (i < nI (List.length l))=true:=decide_eq_true c1
   have e2:decide (i.toNat < List.length l)=true:=decide_eq_true (by simp only [nI] at c1; omega)
   have so:∀ z:Pr2,(List.set l i.toNat z).length≤101:=fun z=>by rw [List.length_set]; omega
   refine Ai.cond (fun _=>?_) fun _=>Ai.cond (fun _=>?_) fun _=>Ai.cond (fun _=>?_) fun _=>?_
   ·refine At hd (by omega) (by omega) fun y re f0 f1 he=>?_
    dsimp only
    rw [Ag (n:=20 + y) (by omega) (by omega)]
    refine Ai.bind (l4 (ByteArray.mk #[122]) (20 + y) (by omega) (by omega) (by decide)) fun q3 hq3=>?_
    refine At he (by omega) (by omega) fun z rg g0 g1 hg=>?_
    dsimp only
    exact Ai.go (decide_eq_true g0) (Ai.go (decide_eq_true g1) (Ai.go e0 (Ai.go e1 (Ai.go e2 (Ai.some ⟨so _,hg.mono (by omega)⟩)))))
   ·refine At hd (by omega) (by omega) fun y re f0 f1 he=>?_
    dsimp only
    rw [Ag (n:=100 + y) (by omega) (by omega)]
    refine Ai.bind (l4 (ByteArray.mk #[118]) (100 + y) (by omega) (by omega) (by decide)) fun q3 hq3=>?_
    exact Ai.go e0 (Ai.go e1 (Ai.go e2 (Ai.some ⟨so _,he.mono (by omega)⟩)))
   ·exact Ai.go e0 (Ai.go e1 (Ai.go (decide_eq_true (by simp only [List.length_singleton]; omega)) (Ai.some ⟨by show List.length (_++[_])≤101; rw [List.length_append,List.length_singleton]; omega,hd.mono (by omega)⟩)))
   ·refine Ai.bind (Abf x rd _ 0 l (by simp only [Es]; omega) (by omega)) fun q5 hq5=>Ai.some ⟨hq5.1,?_⟩
    show Kz (k + 6000) q5.1
    rw [hq5.2]
    exact hd.mono (by omega)
noncomputable def Yc {R:Type} (k:Kt R):=(I1 (pa_spec_l4Any 6) (.exit 0) 2 k)
noncomputable def V6 {R:Type} (k:Kt R):=(I1 (pa_spec_l4Any 14) (.exit 2) 4 k)
noncomputable def V7 {R:Type} (k:Kt R):=(I1 (pa_spec_l4Any 24) (.exit 5) 7 k)
noncomputable def Q3 {R:Type}:Lt R pa_spec_l4Any:=(Ed (pat:=pa_spec_l4Any) 6 (fun d k=>(E8 (H6 d.1 d.2.1 d.2.2.1 d.2.2.2.1) d.1 d.2.1 d.2.2.1 d.2.2.2.1).bind (Yc k)) (Ed (pat:=pa_spec_l4Any) 14 (fun d k=>(Et (Jj d.1 d.2.1 d.2.2.1 d.2.2.2.1 d.2.2.2.2.1) d.1 d.2.1 d.2.2.1 d.2.2.2.1 d.2.2.2.2.1).bind (V6 k)) (Ed (pat:=pa_spec_l4Any) 24 (fun d k=>(Du (Es d.1 d.2.1 d.2.2.1 d.2.2.2.1 d.2.2.2.2.1) d.1 d.2.1 d.2.2.1 d.2.2.2.1 d.2.2.2.2.1).bind (V7 k)) Hu)))
theorem Pk:A2 Tryz.prog ta_spec_l4Any:=A7 ⟨Bm,Qp,Ur,Sm,Sh,trivial⟩
theorem Agh {R:Type}:A3 Tryz.prog R 163 1 pa_spec_l4Any Q3 co_spec_l4Any_24:=
 B3 (cfg:=⟨ta_spec_l4Any,1,163,pa_spec_l4Any⟩) 24 [] (fun NX X d=>Lh  NX X d.1 d.2.1 d.2.2.1 d.2.2.2.1 d.2.2.2.2.1) (fun m d=>Du m d.1 d.2.1 d.2.2.1 d.2.2.2.1 d.2.2.2.2.1) (fun d=>Es d.1 d.2.1 d.2.2.1 d.2.2.2.1 d.2.2.2.2.1) V7 Pk trivial (fun f NX d=>by unfold Lh; simp only [Al,Ar,Ak,Option.bind_assoc,Option.bind_none,Option.bind_some]) (fun _ _ _=>by kernel_rfl)
theorem Agi {R:Type}:A3 Tryz.prog R 163 1 pa_spec_l4Any Q3 co_spec_l4Any_14:=
 B3 (cfg:=⟨ta_spec_l4Any,1,163,pa_spec_l4Any⟩) 14 [] (fun NX X d=>Li  NX X d.1 d.2.1 d.2.2.1 d.2.2.2.1 d.2.2.2.2.1) (fun m d=>Et m d.1 d.2.1 d.2.2.1 d.2.2.2.1 d.2.2.2.2.1) (fun d=>Jj d.1 d.2.1 d.2.2.1 d.2.2.2.1 d.2.2.2.2.1) V6 Pk trivial (fun f NX d=>by unfold Li; simp only [Al,Ar,Ak,Option.bind_assoc,Option.bind_none,Option.bind_some]) (fun _ _ _=>by kernel_rfl)
theorem Aiw {R:Type}:A3 Tryz.prog R 163 1 pa_spec_l4Any Q3 co_spec_l4Any_6:=
 B3 (cfg:=⟨ta_spec_l4Any,1,163,pa_spec_l4Any⟩) 6 [] (fun NX X d=>Mc  NX X d.1 d.2.1 d.2.2.1 d.2.2.2.1) (fun m d=>E8 m d.1 d.2.1 d.2.2.1 d.2.2.2.1) (fun d=>H6 d.1 d.2.1 d.2.2.1 d.2.2.2.1) Yc Pk trivial (fun f NX d=>by unfold Mc; simp only [Al,Ar,Ak,Option.bind_assoc,Option.bind_none,Option.bind_some]) (fun _ _ _=>by kernel_rfl)
theorem y7:B2 Tryz.prog 209 sd_spec_l4Any:=
 A6 (pat:=pa_spec_l4Any) [co_spec_l4Any_6,co_spec_l4Any_14,co_spec_l4Any_24] Q3 Pk ⟨Aiw,Agi,Agh,trivial⟩ Tryz.func209 (de:=fun x=>Pj x.1) (fun x r h=>by have q:m_spec_l4Any x.1=some r:=h; rw [y6] at q; exact q) fun _=>by kernel_rfl
def Aix:Sig:=⟨[.bx 176 (.pair (.sl (.int .u8)) (.pair tI .unit)),.rd Ahx],[none,some 10],[.rd Ahx],[some 10]⟩
noncomputable def Me (a0:(List Int)×Int×Unit) (a1:Sto):Option (((Sto×Unit)×(((List Int)×Int×Unit)×Unit))):=
 ((Aa a0 9).bind fun val=>some ((val.1,()),val.2,())).bind fun val=>bif val.1.1==0 then ((Aa val.2.1 11).bind fun val=>some ((val.1,()),val.2,())).bind fun val=>some (((IntKind.i64.wrap (val.1.1 - 1),a1.2),()),val.2) else bif val.1.1==1 then ((Aa val.2.1 4).bind fun val=>some ((val.1,()),val.2,())).bind fun val=>bif decide (0≤val.1.1) then bif decide (val.1.1 < nI [7,8,201,200].length) then some (((a1.1,[7,8,201,200].getD (Int.toNat val.1.1) 0,a1.2.2),()),val.2) else none else none else bif val.1.1==2 then ((Aa val.2.1 3).bind fun val=>some ((val.1,()),val.2,())).bind fun val=>bif decide (0≤val.1.1) then bif decide (val.1.1 < nI [0,60000,60001].length) then some (((a1.1,a1.2.1,[0,60000,60001].getD (Int.toNat val.1.1) 0,a1.2.2.2),()),val.2) else none else none else bif val.1.1==3 then ((Aa val.2.1 2).bind fun val=>some ((val.1,()),val.2,())).bind fun val=>bif decide (0≤val.1.1) then bif decide (val.1.1 < nI [-1,1000000001].length) then some (((a1.1,a1.2.1,a1.2.2.1,([-1,1000000001].getD (Int.toNat val.1.1) 0,a1.2.2.2.1.2),a1.2.2.2.2),()),val.2) else none else none else bif val.1.1==4 then ((Aa val.2.1 2).bind fun val=>some ((val.1,()),val.2,())).bind fun val=>bif decide (0≤val.1.1) then bif decide (val.1.1 < nI [-1,2].length) then some (((a1.1,a1.2.1,a1.2.2.1,(a1.2.2.2.1.1,[-1,2].getD (Int.toNat val.1.1) 0,a1.2.2.2.1.2.2),a1.2.2.2.2),()),val.2) else none else none else bif val.1.1==5 then ((Aa val.2.1 2).bind fun val=>some ((val.1,()),val.2,())).bind fun val=>bif decide (0≤val.1.1) then bif decide (val.1.1 < nI [0,999999001].length) then some (((a1.1,a1.2.1,a1.2.2.1,(a1.2.2.2.1.1,a1.2.2.2.1.2.1,[0,999999001].getD (Int.toNat val.1.1) 0,a1.2.2.2.1.2.2.2),a1.2.2.2.2),()),val.2) else none else none else bif val.1.1==6 then ((Aa val.2.1 3).bind fun val=>some ((val.1,()),val.2,())).bind fun val=>bif decide (0≤val.1.1) then bif decide (val.1.1 < nI [-1,Ap a1.2.1,IntKind.i64.wrap (Ap a1.2.1 + 1)].length) then some (((a1.1,a1.2.1,a1.2.2.1,a1.2.2.2.1,[-1,Ap a1.2.1,IntKind.i64.wrap (Ap a1.2.1 + 1)].getD (Int.toNat val.1.1) 0,a1.2.2.2.2.2),()),val.2) else none else none else bif val.1.1==7 then ((Aa val.2.1 3).bind fun val=>some ((val.1,()),val.2,())).bind fun val=>bif decide (0≤val.1.1) then bif decide (val.1.1 < nI [-1,a1.2.2.2.2.1,IntKind.i64.wrap (a1.2.2.2.2.1 + 1)].length) then some (((a1.1,a1.2.1,a1.2.2.1,a1.2.2.2.1,a1.2.2.2.2.1,[-1,a1.2.2.2.2.1,IntKind.i64.wrap (a1.2.2.2.2.1 + 1)].getD (Int.toNat val.1.1) 0,a1.2.2.2.2.2.2),()),val.2) else none else none else (m_spec_l4Any val.2.1).bind fun val=>some (((a1.1,a1.2.1,a1.2.2.1,a1.2.2.2.1,a1.2.2.2.2.1,a1.2.2.2.2.2.1,val.1,()),()),val.2)
theorem Yd:∃ f,f=@Me:=⟨_,rfl⟩
noncomputable def m_spec_l6Spoil:=Classical.choose Yd
theorem Ye:@m_spec_l6Spoil=@Me:=Classical.choose_spec Yd
noncomputable def sd_spec_l6Spoil:SD:=⟨Aix,fun x=>m_spec_l6Spoil x.1 x.2.1⟩
theorem Azw {K:Nat} {r:Rd} (s:Sto) (h:Kz K r) (hK:K + 10000 < 1000000000000):Ai (m_spec_l6Spoil r s) fun q=>Kz (K + 7000) q.2.1:=by
 rw [Ye]
 unfold Me
 refine At h (by omega) (by omega) fun v r1 v0 v1 h1=>?_
 dsimp only
 have fin:∀ {n:Int} (l:List Int) (f:Int→Sto),nI l.length=n→1≤n→Ai (((Aa r1 n).bind fun val=>some ((val.1,()),val.2,())).bind fun val=>bif decide (0≤val.1.1) then bif decide (val.1.1 < nI l.length) then some (((f (l.getD (Int.toNat val.1.1) 0)),()),val.2) else none else none) fun q:((Sto×Unit)×Rd×Unit)=>Kz (K + 7000) q.2.1:=fun {n} l f hl hn=>by
  refine At h1 (by omega) hn fun u r2 u0 u1 h2=>?_
  dsimp only
  exact Ai.go (decide_eq_true u0) (Ai.go (decide_eq_true (by rw [hl]; exact u1)) (Ai.some (h2.mono (by omega))))
 refine Ai.cond (fun _=>?_) fun _=>Ai.cond (fun _=>?_) fun _=>Ai.cond (fun _=>?_) fun _=>Ai.cond (fun _=>?_) fun _=>Ai.cond (fun _=>?_) fun _=>Ai.cond (fun _=>?_) fun _=>Ai.cond (fun _=>?_) fun _=>Ai.cond (fun _=>?_) fun _=>?_
 ·exact At h1 (by omega) (by omega) fun u r2 u0 u1 h2=>Ai.some (h2.mono (by omega))
 ·exact fin [7,8,201,200] (fun x=>(s.1,x,s.2.2)) rfl (by decide)
 ·exact fin [0,60000,60001] (fun x=>(s.1,s.2.1,x,s.2.2.2)) rfl (by decide)
 ·exact fin [-1,1000000001] (fun x=>(s.1,s.2.1,s.2.2.1,(x,s.2.2.2.1.2),s.2.2.2.2)) rfl (by decide)
 ·exact fin [-1,2] (fun x=>(s.1,s.2.1,s.2.2.1,(s.2.2.2.1.1,x,s.2.2.2.1.2.2),s.2.2.2.2)) rfl (by decide)
 ·exact fin [0,999999001] (fun x=>(s.1,s.2.1,s.2.2.1,(s.2.2.2.1.1,s.2.2.2.1.2.1,x,s.2.2.2.1.2.2.2),s.2.2.2.2)) rfl (by decide)
 ·exact fin [-1,Ap s.2.1,IntKind.i64.wrap (Ap s.2.1 + 1)] (fun x=>(s.1,s.2.1,s.2.2.1,s.2.2.2.1,x,s.2.2.2.2.2)) rfl (by decide)
 ·exact fin [-1,s.2.2.2.2.1,IntKind.i64.wrap (s.2.2.2.2.1 + 1)] (fun x=>(s.1,s.2.1,s.2.2.1,s.2.2.2.1,s.2.2.2.2.1,x,s.2.2.2.2.2.2)) rfl (by decide)
 ·exact Ai.bind (A2d h1 (by omega)) fun q hq=>Ai.some (hq.2.mono (by omega))
theorem Aiy:B2 Tryz.prog 193 sd_spec_l6Spoil:=
 A6 (pat:=D3) [] Hu (A7 (l:=[(40,sd_spec_Halves),(63,sd_spec_l1Rd__pick),(209,sd_spec_l4Any)]) ⟨Jb,Bm,y7,trivial⟩) trivial Tryz.func193 (de:=fun x=>Me x.1 x.2.1) (fun x r h=>by have q:m_spec_l6Spoil x.1 x.2.1=some r:=h; rw [Ye] at q; exact q) fun _=>by kernel_rfl
def J0 (v6:Int) (_:(List Int)×Int×Unit) (_:List ByteArray) (_:List Wr) (_:List ByteArray) (r6:List Wr):Nat:=v6.toNat - r6.length + 1
def J1 (v7:Int) (_:(List Int)×Int×Unit) (_:List ByteArray) (_:List Wr) (r5:List ByteArray) (_:List Wr):Nat:=v7.toNat - r5.length + 1
def Aiz:Sig:=⟨[.bx 176 (.pair (.sl (.int .u8)) (.pair tI .unit)),.rd yDk],[none,some 2],[.rd (.sl .str),.own 174 Da],[some 2]⟩
noncomputable def ta_spec_l2Spoil:Tb:=tb [(63,sd_spec_l1Rd__pick),(155,sd_spec_l2Zeros),(187,sd_spec_l2Copy)]
def pa_spec_l2Spoil:Nat→Pat×(Nat→Pat):=Gf [(17,⟨[.boxRow 4 0 9 .str,.boxRow 4 1 174 Da,.boxRow 5 0 9 .str,.boxRow 5 1 174 Da],[(4,.lf (.ptr 1 0)),(5,.lf (.ptr 2 0)),(6,.lf (.d tI))],[.box 176 [.d (.pair (.sl (.int .u8)) (.pair tI .unit))],.box 26 [.row 3,.row 4],.box 26 [.row 5,.row 6],.row 9 .str,.row 174 Da,.row 9 .str,.row 174 Da]⟩,[(3,⟨[.boxRow 4 0 9 .str,.boxRow 4 1 174 Da,.boxRow 5 0 9 .str,.boxRow 5 1 174 Da],[(4,.lf (.ptr 1 0)),(5,.lf (.ptr 2 0))],[.box 176 [.d (.pair (.sl (.int .u8)) (.pair tI .unit))],.box 26 [.row 3,.row 4],.box 26 [.row 5,.row 6],.row 9 .str,.row 174 Da,.row 9 .str,.row 174 Da]⟩)]),(21,⟨[.boxRow 4 0 9 .str,.boxRow 4 1 174 Da,.boxRow 5 0 9 .str,.boxRow 5 1 174 Da],[(4,.lf (.ptr 1 0)),(5,.lf (.ptr 2 0)),(7,.lf (.d tI))],[.box 176 [.d (.pair (.sl (.int .u8)) (.pair tI .unit))],.box 26 [.row 3,.row 4],.box 26 [.row 5,.row 6],.row 9 .str,.row 174 Da,.row 9 .str,.row 174 Da]⟩,[(5,⟨[.boxRow 4 0 9 .str,.boxRow 4 1 174 Da,.boxRow 5 0 9 .str,.boxRow 5 1 174 Da],[(4,.lf (.ptr 1 0)),(5,.lf (.ptr 2 0))],[.box 176 [.d (.pair (.sl (.int .u8)) (.pair tI .unit))],.box 26 [.row 3,.row 4],.box 26 [.row 5,.row 6],.row 9 .str,.row 174 Da,.row 9 .str,.row 174 Da]⟩)])]
noncomputable def co_spec_l2Spoil_17:Code:=(As (Ba Tryz.f208)).getD 0 .skip
noncomputable def co_spec_l2Spoil_21:Code:=(As (Ba Tryz.f208)).getD 1 .skip
noncomputable def Hn {R:Type}  (NX:((Int)×((List Int)×Int×Unit)×(List ByteArray)×(List Wr)×(List ByteArray)×(List Wr)×Unit)→Option R) (X5:(((List Int)×Int×Unit)×(List ByteArray)×(List Wr)×(List ByteArray)×(List Wr)×Unit)→Option R) (v7:Int) (b0:(List Int)×Int×Unit) (r3:List ByteArray) (r4:List Wr) (r5:List ByteArray) (r6:List Wr):Option R:=
 bif decide (nI r5.length < v7) then bif decide ((r5.length + [A5].length) * 16≤140737488355328) then NX (v7,b0,r3,r4,r5++[A5],r6,()) else none else X5 (b0,r3,r4,r5,r6,())
noncomputable def Ej:Nat→(Int)→((List Int)×Int×Unit)→(List ByteArray)→(List Wr)→(List ByteArray)→(List Wr) →  Option (((List Int)×Int×Unit)×(List ByteArray)×(List Wr)×(List ByteArray)×(List Wr)×Unit)
 | 0,_,_,_,_,_,_=>none
 | m + 1,v7,b0,r3,r4,r5,r6=>Hn  (fun d=>Ej m d.1 d.2.1 d.2.2.1 d.2.2.2.1 d.2.2.2.2.1 d.2.2.2.2.2.1) (fun d=>some (d)) v7 b0 r3 r4 r5 r6
noncomputable def Ho {R:Type}  (NX:((Int)×((List Int)×Int×Unit)×(List ByteArray)×(List Wr)×(List ByteArray)×(List Wr)×Unit)→Option R) (X3:(((List Int)×Int×Unit)×(List ByteArray)×(List Wr)×(List ByteArray)×(List Wr)×Unit)→Option R) (v6:Int) (b0:(List Int)×Int×Unit) (r3:List ByteArray) (r4:List Wr) (r5:List ByteArray) (r6:List Wr):Option R:=
 bif decide (nI r6.length < v6) then bif decide ((r6.length + [(3,A5,())].length) * 24≤140737488355328) then NX (v6,b0,r3,r4,r5,r6++[(3,A5,())],()) else none else X3 (b0,r3,r4,r5,r6,())
noncomputable def Ek:Nat→(Int)→((List Int)×Int×Unit)→(List ByteArray)→(List Wr)→(List ByteArray)→(List Wr) →  Option (((List Int)×Int×Unit)×(List ByteArray)×(List Wr)×(List ByteArray)×(List Wr)×Unit)
 | 0,_,_,_,_,_,_=>none
 | m + 1,v6,b0,r3,r4,r5,r6=>Ho  (fun d=>Ek m d.1 d.2.1 d.2.2.1 d.2.2.2.1 d.2.2.2.2.1 d.2.2.2.2.2.1) (fun d=>some (d)) v6 b0 r3 r4 r5 r6
noncomputable def Mf (a0:(List Int)×Int×Unit) (a1:Dk):Option ((Dk×(((List Int)×Int×Unit)×Unit))):=
 ((Cr a1).bind fun val=>some (val,())).bind fun val=>((Aa a0 7).bind fun val=>some ((val.1,()),val.2,())).bind fun val_1=>bif val_1.1.1==0 then bif decide (nI (List.length val.1.1) > 0) then ((Aa val_1.2.1 (nI (List.length val.1.1))).bind fun val=>some ((val.1,()),val.2,())).bind fun val_2=>bif decide (0≤val_2.1.1) then bif decide (val_2.1.1 < nI (List.length val.1.1)) then bif decide (Int.toNat val_2.1.1 < List.length val.1.1) then some ((List.set val.1.1 (Int.toNat val_2.1.1) (ByteArray.mk #[115,104,111,114,116]),val.1.2),val_2.2) else none else none else none else some (val.1,val_1.2) else bif val_1.1.1==1 then ((Aa val_1.2.1 (IntKind.i64.wrap (nI (List.length val.1.1) + 1))).bind fun val=>some ((val.1,()),val.2,())).bind fun val_2=>bif decide (0≤val_2.1.1) then bif decide (val_2.1.1≤nI (List.length val.1.1)) then some ((List.drop (Int.toNat 0) (List.take (Int.toNat val_2.1.1) val.1.1),val.1.2),val_2.2) else none else none else bif val_1.1.1==2 then ((Aa val_1.2.1 3).bind fun val=>some ((val.1,()),val.2,())).bind fun val_2=>bif decide (0≤val_2.1.1) then bif decide (val_2.1.1 < nI [-1,nI (List.length val.1.1),0].length) then bif decide ((List.length val.1.2.1 + [([-1,nI (List.length val.1.1),0].getD (Int.toNat val_2.1.1) 0,A5,())].length) * 24≤140737488355328) then some ((val.1.1,val.1.2.1++[([-1,nI (List.length val.1.1),0].getD (Int.toNat val_2.1.1) 0,A5,())],()),val_2.2) else none else none else none else bif val_1.1.1==3 then bif decide ((List.length val.1.2.1 + [(2,ByteArray.mk #[115,104,111,114,116],())].length) * 24≤140737488355328) then some ((val.1.1,val.1.2.1++[(2,ByteArray.mk #[115,104,111,114,116],())],()),val_1.2) else none else bif val_1.1.1==4 then ((Aa val_1.2.1 2).bind fun val=>some ((val.1,()),val.2,())).bind fun val_2=>((fun d=>Ek (J0 d.1 d.2.1 d.2.2.1 d.2.2.2.1 d.2.2.2.2.1 d.2.2.2.2.2.1) d.1 d.2.1 d.2.2.1 d.2.2.2.1 d.2.2.2.2.1 d.2.2.2.2.2.1) (IntKind.i64.wrap (300 + val_2.1.1),val_2.2.1,[],[],val.1)).bind fun val=>some (val.2.2.2,val.1,()) else bif val_1.1.1==5 then ((Aa val_1.2.1 2).bind fun val=>some ((val.1,()),val.2,())).bind fun val_2=>((fun d=>Ej (J1 d.1 d.2.1 d.2.2.1 d.2.2.2.1 d.2.2.2.2.1 d.2.2.2.2.2.1) d.1 d.2.1 d.2.2.1 d.2.2.2.1 d.2.2.2.2.1 d.2.2.2.2.2.1) (IntKind.i64.wrap (200 + val_2.1.1),val_2.2.1,[],[],val.1)).bind fun val=>some (val.2.2.2,val.1,()) else bif decide (nI (List.length val.1.1) > 4) then ((Aa val_1.2.1 2).bind fun val=>some ((val.1,()),val.2,())).bind fun val_2=>((Aa val_2.2.1 (nI (List.length val.1.1))).bind fun val=>some ((val.1,()),val.2,())).bind fun val_3=>bif decide (0≤val_3.1.1) then bif decide (val_3.1.1 < nI (List.length val.1.1)) then bif decide (0≤IntKind.i64.wrap (2 + val_2.1.1)) then bif decide (IntKind.i64.wrap (2 + val_2.1.1) < nI (List.length val.1.1)) then bif decide ((IntKind.i64.wrap (2 + val_2.1.1)).toNat < List.length val.1.1) then some ((List.set val.1.1 (IntKind.i64.wrap (2 + val_2.1.1)).toNat (List.getD val.1.1 (Int.toNat val_3.1.1) (ByteArray.mk #[])),val.1.2),val_3.2) else none else none else none else none else none else some (val.1,val_1.2)
theorem Yf:∃ f,f=@Mf:=⟨_,rfl⟩
noncomputable def m_spec_l2Spoil:=Classical.choose Yf
theorem Yg:@m_spec_l2Spoil=@Mf:=Classical.choose_spec Yf
noncomputable def sd_spec_l2Spoil:SD:=⟨Aiz,fun x=>m_spec_l2Spoil x.1 x.2.1⟩
theorem A56 (r:Rd) (r3:List ByteArray) (r4:List Wr) (r5:List ByteArray) (v:Int) (hv:v≤1000):∀ (k m:Nat) (l:List Wr),v≤(l.length:Int) + k→k < m→l.length + k≤2000001000→
  Ai (Ek m v r r3 r4 r5 l) fun q=>q.1=r∧q.2.2.2.1=r5∧q.2.2.2.2.1.length≤l.length + k
 | 0,m + 1,l,h,_,_=>by
  simp only [Ek,Ho]
  exact Ai.no (decide_eq_false (by simp only [nI]; omega)) (Ai.some ⟨rfl,rfl,Nat.le_refl _⟩)
 | k + 1,m + 1,l,h,hm,hl=>by
  simp only [Ek,Ho]
  refine Ai.cond (fun c=>?_) fun _=>Ai.some ⟨rfl,rfl,by dsimp only; omega⟩
  have c:=of_decide_eq_true c
  simp only [nI] at c
  refine Ai.go (decide_eq_true (by simp only [List.length_singleton]; omega)) ?_
  refine (A56 r r3 r4 r5 v hv k m _ (by rw [List.length_append,List.length_singleton]; omega) (by omega) (by rw [List.length_append,List.length_singleton]; omega)).mono fun q hq=>⟨hq.1,hq.2.1,?_⟩
  have:=hq.2.2
  rw [List.length_append,List.length_singleton] at this
  omega
theorem A57 (r:Rd) (r3:List ByteArray) (r4:List Wr) (r6:List Wr) (v:Int) (hv:v≤1000):∀ (k m:Nat) (l:List ByteArray),v≤(l.length:Int) + k→k < m→l.length + k≤2000001000→
  Ai (Ej m v r r3 r4 l r6) fun q=>q.1=r∧q.2.2.2.2.1=r6∧q.2.2.2.1.length≤l.length + k
 | 0,m + 1,l,h,_,_=>by
  simp only [Ej,Hn]
  exact Ai.no (decide_eq_false (by simp only [nI]; omega)) (Ai.some ⟨rfl,rfl,Nat.le_refl _⟩)
 | k + 1,m + 1,l,h,hm,hl=>by
  simp only [Ej,Hn]
  refine Ai.cond (fun c=>?_) fun _=>Ai.some ⟨rfl,rfl,by dsimp only; omega⟩
  have c:=of_decide_eq_true c
  simp only [nI] at c
  refine Ai.go (decide_eq_true (by simp only [List.length_singleton]; omega)) ?_
  refine (A57 r r3 r4 r6 v hv k m _ (by rw [List.length_append,List.length_singleton]; omega) (by omega) (by rw [List.length_append,List.length_singleton]; omega)).mono fun q hq=>⟨hq.1,hq.2.1,?_⟩
  have:=hq.2.2
  rw [List.length_append,List.length_singleton] at this
  omega
theorem Azx {K:Nat} {r:Rd} {d:Dk} (h:Kz K r) (hK:K + 100 < 1000000000000) (h1:d.1.length≤1073741824) (h2:d.2.1.length≤1073741824):
  Ai (m_spec_l2Spoil r d) fun q=>(q.1.1.length≤1073751824∧q.1.2.1.length≤1073751824)∧Kz (K + 10) q.2.1:=by
 rw [Yg]
 unfold Mf
 refine Ai.bind (Q:=fun q=>q=(d,())) (Ai.bind ⟨_,if_pos ⟨Nat.le_trans h1 (by decide),Nat.le_trans h2 (by decide)⟩,rfl⟩ fun a ha=>Ai.some (by rw [ha])) fun q hq=>?_
 subst hq
 refine At h (by omega) (by omega) fun v r1 v0 v1 g1=>?_
 dsimp only
 have hn:nI d.1.length=(d.1.length:Int):=rfl
 refine Ai.cond (fun _=>?_) fun _=>Ai.cond (fun _=>?_) fun _=>Ai.cond (fun _=>?_) fun _=>Ai.cond (fun _=>?_) fun _=>Ai.cond (fun _=>?_) fun _=>Ai.cond (fun _=>?_) fun _=>?_
 ·refine Ai.cond (fun c=>?_) fun _=>Ai.some ⟨⟨by dsimp only; omega,by dsimp only; omega⟩,g1.mono (by omega)⟩
  have c:=of_decide_eq_true c
  refine At g1 (by omega) (by omega) fun u r2 u0 u1 g2=>?_
  dsimp only
  refine Ai.go (decide_eq_true u0) (Ai.go (decide_eq_true u1) (Ai.go (decide_eq_true (by omega)) (Ai.some ⟨⟨?_,by dsimp only; omega⟩,g2.mono (by omega)⟩)))
  dsimp only
  rw [List.length_set]
  omega
 ·rw [show IntKind.i64.wrap (nI d.1.length + 1)=nI d.1.length + 1 from Ag (by omega) (by omega)]
  refine At g1 (by omega) (by omega) fun u r2 u0 u1 g2=>?_
  dsimp only
  refine Ai.go (decide_eq_true u0) (Ai.go (decide_eq_true (by omega)) (Ai.some ⟨⟨?_,by dsimp only; omega⟩,g2.mono (by omega)⟩))
  simp only [List.length_drop,List.length_take]
  omega
 ·refine At g1 (by omega) (by omega) fun u r2 u0 u1 g2=>?_
  dsimp only
  refine Ai.go (decide_eq_true u0) (Ai.go (decide_eq_true u1) (Ai.go (decide_eq_true (by simp only [List.length_singleton]; omega)) (Ai.some ⟨⟨by dsimp only; omega,by simp only [List.length_append,List.length_singleton]; omega⟩,g2.mono (by omega)⟩)))
 ·refine Ai.go (decide_eq_true (by simp only [List.length_singleton]; omega)) (Ai.some ⟨⟨by dsimp only; omega,by simp only [List.length_append,List.length_singleton]; omega⟩,g1.mono (by omega)⟩)
 ·refine At g1 (by omega) (by omega) fun u r2 u0 u1 g2=>?_
  dsimp only
  rw [show IntKind.i64.wrap (300 + u)=300 + u from Ag (by omega) (by omega)]
  refine Ai.bind (A56 r2 [] [] d.1 (300 + u) (by omega) ((300 + u).toNat - d.2.1.length) _ d.2.1 (by omega) (by simp only [J0]; omega) (by omega)) fun q hq=>Ai.some ⟨⟨?_,?_⟩,?_⟩
  ·show q.2.2.2.1.length≤_; rw [hq.2.1]; omega
  ·show q.2.2.2.2.1.length≤_; have:=hq.2.2; omega
  ·show Kz _ q.1; rw [hq.1]; exact g2.mono (by omega)
 ·refine At g1 (by omega) (by omega) fun u r2 u0 u1 g2=>?_
  dsimp only
  rw [show IntKind.i64.wrap (200 + u)=200 + u from Ag (by omega) (by omega)]
  refine Ai.bind (A57 r2 [] [] d.2.1 (200 + u) (by omega) ((200 + u).toNat - d.1.length) _ d.1 (by omega) (by simp only [J1]; omega) (by omega)) fun q hq=>Ai.some ⟨⟨?_,?_⟩,?_⟩
  ·show q.2.2.2.1.length≤_; have:=hq.2.2; omega
  ·show q.2.2.2.2.1.length≤_; rw [hq.2.1]; omega
  ·show Kz _ q.1; rw [hq.1]; exact g2.mono (by omega)
 ·refine Ai.cond (fun c=>?_) fun _=>Ai.some ⟨⟨by dsimp only; omega,by dsimp only; omega⟩,g1.mono (by omega)⟩
  have c:=of_decide_eq_true c
  refine At g1 (by omega) (by omega) fun u r2 u0 u1 g2=>?_
  dsimp only
  refine At g2 (by omega) (by omega) fun z r3 z0 z1 g3=>?_
  dsimp only
  rw [show IntKind.i64.wrap (2 + u)=2 + u from Ag (by omega) (by omega)]
  refine Ai.go (decide_eq_true z0) (Ai.go (decide_eq_true z1) (Ai.go (decide_eq_true (by omega)) (Ai.go (decide_eq_true (by omega)) (Ai.go (decide_eq_true (by omega)) (Ai.some ⟨⟨?_,by dsimp only; omega⟩,g3.mono (by omega)⟩)))))
  dsimp only
  rw [List.length_set]
  omega
noncomputable def Sr {R:Type} (k:Kt R):=(I1 (pa_spec_l2Spoil 17) (.exit 1) 3 k)
noncomputable def Ss {R:Type} (k:Kt R):=(I1 (pa_spec_l2Spoil 21) (.exit 3) 5 k)
noncomputable def Su {R:Type}:Lt R pa_spec_l2Spoil:=(Ed (pat:=pa_spec_l2Spoil) 17 (fun d k=>(Ek (J0 d.1 d.2.1 d.2.2.1 d.2.2.2.1 d.2.2.2.2.1 d.2.2.2.2.2.1) d.1 d.2.1 d.2.2.1 d.2.2.2.1 d.2.2.2.2.1 d.2.2.2.2.2.1).bind (Sr k)) (Ed (pat:=pa_spec_l2Spoil) 21 (fun d k=>(Ej (J1 d.1 d.2.1 d.2.2.1 d.2.2.2.1 d.2.2.2.2.1 d.2.2.2.2.2.1) d.1 d.2.1 d.2.2.1 d.2.2.2.1 d.2.2.2.2.1 d.2.2.2.2.2.1).bind (Ss k)) Hu))
theorem Qe:A2 Tryz.prog ta_spec_l2Spoil:=A7 ⟨Bm,L9,I8,trivial⟩
theorem Abg {R:Type}:A3 Tryz.prog R 116 1 pa_spec_l2Spoil Su co_spec_l2Spoil_21:=
 B3 (cfg:=⟨ta_spec_l2Spoil,1,116,pa_spec_l2Spoil⟩) 21 [] (fun NX X d=>Hn  NX X d.1 d.2.1 d.2.2.1 d.2.2.2.1 d.2.2.2.2.1 d.2.2.2.2.2.1) (fun m d=>Ej m d.1 d.2.1 d.2.2.1 d.2.2.2.1 d.2.2.2.2.1 d.2.2.2.2.2.1) (fun d=>J1 d.1 d.2.1 d.2.2.1 d.2.2.2.1 d.2.2.2.2.1 d.2.2.2.2.2.1) Ss Qe trivial (fun f NX d=>by unfold Hn; simp only [Al,Ar,Ak,Option.bind_assoc,Option.bind_none,Option.bind_some]) (fun _ _ _=>by kernel_rfl)
theorem Abh {R:Type}:A3 Tryz.prog R 116 1 pa_spec_l2Spoil Su co_spec_l2Spoil_17:=
 B3 (cfg:=⟨ta_spec_l2Spoil,1,116,pa_spec_l2Spoil⟩) 17 [] (fun NX X d=>Ho  NX X d.1 d.2.1 d.2.2.1 d.2.2.2.1 d.2.2.2.2.1 d.2.2.2.2.2.1) (fun m d=>Ek m d.1 d.2.1 d.2.2.1 d.2.2.2.1 d.2.2.2.2.1 d.2.2.2.2.2.1) (fun d=>J0 d.1 d.2.1 d.2.2.1 d.2.2.2.1 d.2.2.2.2.1 d.2.2.2.2.2.1) Sr Qe trivial (fun f NX d=>by unfold Ho; simp only [Al,Ar,Ak,Option.bind_assoc,Option.bind_none,Option.bind_some]) (fun _ _ _=>by kernel_rfl)
theorem Ai0:B2 Tryz.prog 208 sd_spec_l2Spoil:=
 A6 (pat:=pa_spec_l2Spoil) [co_spec_l2Spoil_17,co_spec_l2Spoil_21] Su Qe ⟨Abh,Abg,trivial⟩ Tryz.func208 (de:=fun x=>Mf x.1 x.2.1) (fun x r h=>by have q:m_spec_l2Spoil x.1 x.2.1=some r:=h; rw [Yg] at q; exact q) fun _=>by kernel_rfl
def J2 (v6:Int) (_:(List Int)×Int×Unit) (_:Wld) (_:Int) (_:List ByteArray) (_:List Wr) (_:Bool) (_:Int) (_:Int) (_:Int) (_:Int) (_:Int) (_:Int) (_:Int) (_:Int) (_:Int) (_:List Pr2) (r3:List Stt) (_:List ByteArray):Nat:=v6.toNat - r3.length + 1
def J3 (v7:Int) (_:(List Int)×Int×Unit) (_:Wld) (_:Int) (_:List ByteArray) (_:List Wr) (_:Bool) (_:Int) (_:Int) (_:Int) (_:Int) (_:Int) (_:Int) (_:Int) (_:Int) (_:Int) (_:List Pr2) (_:List Stt) (r4:List ByteArray):Nat:=v7.toNat - r4.length + 1
def Ai1:Sig:=⟨[.bx 176 (.pair (.sl (.int .u8)) (.pair tI .unit)),.rd Fr],[none,some 16],[.rd Fr],[some 16]⟩
noncomputable def ta_spec_l7Spoil:Tb:=tb [(63,sd_spec_l1Rd__pick),(130,sd_spec_l7Copy),(155,sd_spec_l2Zeros),(193,sd_spec_l6Spoil),(208,sd_spec_l2Spoil),(209,sd_spec_l4Any)]
def pa_spec_l7Spoil:Nat→Pat×(Nat→Pat):=Gf [(17,⟨[.boxSl 4 1 .str,.boxSl 4 2 Da,.boxSl 4 13 Av,.boxSl 4 14 Ci,.boxSl 4 15 .str,.boxSl 5 1 .str,.boxSl 5 2 Da,.boxSl 5 13 Av,.boxRow 5 14 31 Ci,.boxRow 5 15 9 .str],[(4,.lf (.ptr 1 0)),(5,.lf (.ptr 2 0)),(6,.lf (.d tI))],[.box 176 [.d (.pair (.sl (.int .u8)) (.pair tI .unit))],.box 36 [.d Fr],.box 36 [.d tI,.d (.sl .str),.d (.sl Da),.d .bool,.d tI,.d tI,.d tI,.d tI,.d tI,.d tI,.d tI,.d tI,.d tI,.d (.sl Av),.row 3,.row 4],.row 31 Ci,.row 9 .str]⟩,[(3,⟨[.boxSl 4 1 .str,.boxSl 4 2 Da,.boxSl 4 13 Av,.boxSl 4 14 Ci,.boxSl 4 15 .str,.boxSl 5 1 .str,.boxSl 5 2 Da,.boxSl 5 13 Av,.boxRow 5 14 31 Ci,.boxRow 5 15 9 .str],[(4,.lf (.ptr 1 0)),(5,.lf (.ptr 2 0))],[.box 176 [.d (.pair (.sl (.int .u8)) (.pair tI .unit))],.box 36 [.d Fr],.box 36 [.d tI,.d (.sl .str),.d (.sl Da),.d .bool,.d tI,.d tI,.d tI,.d tI,.d tI,.d tI,.d tI,.d tI,.d tI,.d (.sl Av),.row 3,.row 4],.row 31 Ci,.row 9 .str]⟩)]),(21,⟨[.boxSl 4 1 .str,.boxSl 4 2 Da,.boxSl 4 13 Av,.boxSl 4 14 Ci,.boxSl 4 15 .str,.boxSl 5 1 .str,.boxSl 5 2 Da,.boxSl 5 13 Av,.boxRow 5 14 31 Ci,.boxRow 5 15 9 .str],[(4,.lf (.ptr 1 0)),(5,.lf (.ptr 2 0)),(7,.lf (.d tI))],[.box 176 [.d (.pair (.sl (.int .u8)) (.pair tI .unit))],.box 36 [.d Fr],.box 36 [.d tI,.d (.sl .str),.d (.sl Da),.d .bool,.d tI,.d tI,.d tI,.d tI,.d tI,.d tI,.d tI,.d tI,.d tI,.d (.sl Av),.row 3,.row 4],.row 31 Ci,.row 9 .str]⟩,[(5,⟨[.boxSl 4 1 .str,.boxSl 4 2 Da,.boxSl 4 13 Av,.boxSl 4 14 Ci,.boxSl 4 15 .str,.boxSl 5 1 .str,.boxSl 5 2 Da,.boxSl 5 13 Av,.boxRow 5 14 31 Ci,.boxRow 5 15 9 .str],[(4,.lf (.ptr 1 0)),(5,.lf (.ptr 2 0))],[.box 176 [.d (.pair (.sl (.int .u8)) (.pair tI .unit))],.box 36 [.d Fr],.box 36 [.d tI,.d (.sl .str),.d (.sl Da),.d .bool,.d tI,.d tI,.d tI,.d tI,.d tI,.d tI,.d tI,.d tI,.d tI,.d (.sl Av),.row 3,.row 4],.row 31 Ci,.row 9 .str]⟩)])]
noncomputable def co_spec_l7Spoil_17:Code:=(As (Ba Tryz.f154)).getD 0 .skip
noncomputable def co_spec_l7Spoil_21:Code:=(As (Ba Tryz.f154)).getD 1 .skip
noncomputable def Hp {R:Type}  (NX:((Int)×((List Int)×Int×Unit)×Wld×(Int)×(List ByteArray)×(List Wr)×(Bool)×(Int)×(Int)×(Int)×(Int)×(Int)×(Int)×(Int)×(Int)×(Int)×(List Pr2)×(List Stt)×(List ByteArray)×Unit)→Option R) (X5:(((List Int)×Int×Unit)×Wld×(Int)×(List ByteArray)×(List Wr)×(Bool)×(Int)×(Int)×(Int)×(Int)×(Int)×(Int)×(Int)×(Int)×(Int)×(List Pr2)×(List Stt)×(List ByteArray)×Unit)→Option R) (v7:Int) (b0:(List Int)×Int×Unit) (b1:Wld) (b2_0:Int) (b2_1:List ByteArray) (b2_2:List Wr) (b2_3:Bool) (b2_4:Int) (b2_5:Int) (b2_6:Int) (b2_7:Int) (b2_8:Int) (b2_9:Int) (b2_10:Int) (b2_11:Int) (b2_12:Int) (b2_13:List Pr2) (r3:List Stt) (r4:List ByteArray):Option R:=
 bif decide (nI r4.length < v7) then bif decide ((r4.length + [A5].length) * 16≤140737488355328) then NX (v7,b0,b1,b2_0,b2_1,b2_2,b2_3,b2_4,b2_5,b2_6,b2_7,b2_8,b2_9,b2_10,b2_11,b2_12,b2_13,r3,r4++[A5],()) else none else X5 (b0,b1,b2_0,b2_1,b2_2,b2_3,b2_4,b2_5,b2_6,b2_7,b2_8,b2_9,b2_10,b2_11,b2_12,b2_13,r3,r4,())
noncomputable def Em:Nat→(Int)→((List Int)×Int×Unit)→Wld→(Int)→(List ByteArray)→(List Wr)→(Bool)→(Int)→(Int)→(Int)→(Int)→(Int)→(Int)→(Int)→(Int)→(Int)→(List Pr2)→(List Stt)→(List ByteArray) →  Option (((List Int)×Int×Unit)×Wld×(Int)×(List ByteArray)×(List Wr)×(Bool)×(Int)×(Int)×(Int)×(Int)×(Int)×(Int)×(Int)×(Int)×(Int)×(List Pr2)×(List Stt)×(List ByteArray)×Unit)
 | 0,_,_,_,_,_,_,_,_,_,_,_,_,_,_,_,_,_,_,_=>none
 | m + 1,v7,b0,b1,b2_0,b2_1,b2_2,b2_3,b2_4,b2_5,b2_6,b2_7,b2_8,b2_9,b2_10,b2_11,b2_12,b2_13,r3,r4=>Hp  (fun d=>Em m d.1 d.2.1 d.2.2.1 d.2.2.2.1 d.2.2.2.2.1 d.2.2.2.2.2.1 d.2.2.2.2.2.2.1 d.2.2.2.2.2.2.2.1 d.2.2.2.2.2.2.2.2.1 d.2.2.2.2.2.2.2.2.2.1 d.2.2.2.2.2.2.2.2.2.2.1 d.2.2.2.2.2.2.2.2.2.2.2.1 d.2.2.2.2.2.2.2.2.2.2.2.2.1 d.2.2.2.2.2.2.2.2.2.2.2.2.2.1 d.2.2.2.2.2.2.2.2.2.2.2.2.2.2.1 d.2.2.2.2.2.2.2.2.2.2.2.2.2.2.2.1 d.2.2.2.2.2.2.2.2.2.2.2.2.2.2.2.2.1 d.2.2.2.2.2.2.2.2.2.2.2.2.2.2.2.2.2.1 d.2.2.2.2.2.2.2.2.2.2.2.2.2.2.2.2.2.2.1) (fun d=>some (d)) v7 b0 b1 b2_0 b2_1 b2_2 b2_3 b2_4 b2_5 b2_6 b2_7 b2_8 b2_9 b2_10 b2_11 b2_12 b2_13 r3 r4
noncomputable def Hq {R:Type}  (NX:((Int)×((List Int)×Int×Unit)×Wld×(Int)×(List ByteArray)×(List Wr)×(Bool)×(Int)×(Int)×(Int)×(Int)×(Int)×(Int)×(Int)×(Int)×(Int)×(List Pr2)×(List Stt)×(List ByteArray)×Unit)→Option R) (X3:(((List Int)×Int×Unit)×Wld×(Int)×(List ByteArray)×(List Wr)×(Bool)×(Int)×(Int)×(Int)×(Int)×(Int)×(Int)×(Int)×(Int)×(Int)×(List Pr2)×(List Stt)×(List ByteArray)×Unit)→Option R) (v6:Int) (b0:(List Int)×Int×Unit) (b1:Wld) (b2_0:Int) (b2_1:List ByteArray) (b2_2:List Wr) (b2_3:Bool) (b2_4:Int) (b2_5:Int) (b2_6:Int) (b2_7:Int) (b2_8:Int) (b2_9:Int) (b2_10:Int) (b2_11:Int) (b2_12:Int) (b2_13:List Pr2) (r3:List Stt) (r4:List ByteArray):Option R:=
 bif decide (nI r3.length < v6) then bif decide ((r3.length + 1) * 24≤140737488355328) then NX (v6,b0,b1,b2_0,b2_1,b2_2,b2_3,b2_4,b2_5,b2_6,b2_7,b2_8,b2_9,b2_10,b2_11,b2_12,b2_13,r3++[([],())],r4,()) else none else X3 (b0,b1,b2_0,b2_1,b2_2,b2_3,b2_4,b2_5,b2_6,b2_7,b2_8,b2_9,b2_10,b2_11,b2_12,b2_13,r3,r4,())
noncomputable def En:Nat→(Int)→((List Int)×Int×Unit)→Wld→(Int)→(List ByteArray)→(List Wr)→(Bool)→(Int)→(Int)→(Int)→(Int)→(Int)→(Int)→(Int)→(Int)→(Int)→(List Pr2)→(List Stt)→(List ByteArray) →  Option (((List Int)×Int×Unit)×Wld×(Int)×(List ByteArray)×(List Wr)×(Bool)×(Int)×(Int)×(Int)×(Int)×(Int)×(Int)×(Int)×(Int)×(Int)×(List Pr2)×(List Stt)×(List ByteArray)×Unit)
 | 0,_,_,_,_,_,_,_,_,_,_,_,_,_,_,_,_,_,_,_=>none
 | m + 1,v6,b0,b1,b2_0,b2_1,b2_2,b2_3,b2_4,b2_5,b2_6,b2_7,b2_8,b2_9,b2_10,b2_11,b2_12,b2_13,r3,r4=>Hq  (fun d=>En m d.1 d.2.1 d.2.2.1 d.2.2.2.1 d.2.2.2.2.1 d.2.2.2.2.2.1 d.2.2.2.2.2.2.1 d.2.2.2.2.2.2.2.1 d.2.2.2.2.2.2.2.2.1 d.2.2.2.2.2.2.2.2.2.1 d.2.2.2.2.2.2.2.2.2.2.1 d.2.2.2.2.2.2.2.2.2.2.2.1 d.2.2.2.2.2.2.2.2.2.2.2.2.1 d.2.2.2.2.2.2.2.2.2.2.2.2.2.1 d.2.2.2.2.2.2.2.2.2.2.2.2.2.2.1 d.2.2.2.2.2.2.2.2.2.2.2.2.2.2.2.1 d.2.2.2.2.2.2.2.2.2.2.2.2.2.2.2.2.1 d.2.2.2.2.2.2.2.2.2.2.2.2.2.2.2.2.2.1 d.2.2.2.2.2.2.2.2.2.2.2.2.2.2.2.2.2.2.1) (fun d=>some (d)) v6 b0 b1 b2_0 b2_1 b2_2 b2_3 b2_4 b2_5 b2_6 b2_7 b2_8 b2_9 b2_10 b2_11 b2_12 b2_13 r3 r4
noncomputable def Mg (a0:(List Int)×Int×Unit) (a1:Wld):Option (((Wld×Unit)×(((List Int)×Int×Unit)×Unit))):=
 (m_spec_l7Copy a1).bind fun val=>((Aa a0 8).bind fun val=>some ((val.1,()),val.2,())).bind fun val_1=>bif val_1.1.1==0 then ((Aa val_1.2.1 11).bind fun val=>some ((val.1,()),val.2,())).bind fun val_2=>some (((IntKind.i64.wrap (val_2.1.1 - 1),(val.1.2.1,val.1.2.2.1,()),val.1.2.2.2.1,(val.1.2.2.2.2.1,val.1.2.2.2.2.2.1,val.1.2.2.2.2.2.2.1,(val.1.2.2.2.2.2.2.2.1,val.1.2.2.2.2.2.2.2.2.1,val.1.2.2.2.2.2.2.2.2.2.1,val.1.2.2.2.2.2.2.2.2.2.2.1,()),val.1.2.2.2.2.2.2.2.2.2.2.2.1,val.1.2.2.2.2.2.2.2.2.2.2.2.2.1,(val.1.2.2.2.2.2.2.2.2.2.2.2.2.2.1,()),()),val.1.2.2.2.2.2.2.2.2.2.2.2.2.2.2),()),val_2.2) else bif val_1.1.1==1 then (m_spec_l2Spoil val_1.2.1 (val.1.2.1,val.1.2.2.1,())).bind fun val_2=>some (((val.1.1,val_2.1,val.1.2.2.2.1,(val.1.2.2.2.2.1,val.1.2.2.2.2.2.1,val.1.2.2.2.2.2.2.1,(val.1.2.2.2.2.2.2.2.1,val.1.2.2.2.2.2.2.2.2.1,val.1.2.2.2.2.2.2.2.2.2.1,val.1.2.2.2.2.2.2.2.2.2.2.1,()),val.1.2.2.2.2.2.2.2.2.2.2.2.1,val.1.2.2.2.2.2.2.2.2.2.2.2.2.1,(val.1.2.2.2.2.2.2.2.2.2.2.2.2.2.1,()),()),val.1.2.2.2.2.2.2.2.2.2.2.2.2.2.2),()),val_2.2) else bif val_1.1.1==2 then some (((val.1.1,(val.1.2.1,val.1.2.2.1,()),!val.1.2.2.2.1,(val.1.2.2.2.2.1,val.1.2.2.2.2.2.1,val.1.2.2.2.2.2.2.1,(val.1.2.2.2.2.2.2.2.1,val.1.2.2.2.2.2.2.2.2.1,val.1.2.2.2.2.2.2.2.2.2.1,val.1.2.2.2.2.2.2.2.2.2.2.1,()),val.1.2.2.2.2.2.2.2.2.2.2.2.1,val.1.2.2.2.2.2.2.2.2.2.2.2.2.1,(val.1.2.2.2.2.2.2.2.2.2.2.2.2.2.1,()),()),val.1.2.2.2.2.2.2.2.2.2.2.2.2.2.2),()),val_1.2) else bif val_1.1.1==3 then (m_spec_l6Spoil val_1.2.1 (val.1.2.2.2.2.1,val.1.2.2.2.2.2.1,val.1.2.2.2.2.2.2.1,(val.1.2.2.2.2.2.2.2.1,val.1.2.2.2.2.2.2.2.2.1,val.1.2.2.2.2.2.2.2.2.2.1,val.1.2.2.2.2.2.2.2.2.2.2.1,()),val.1.2.2.2.2.2.2.2.2.2.2.2.1,val.1.2.2.2.2.2.2.2.2.2.2.2.2.1,(val.1.2.2.2.2.2.2.2.2.2.2.2.2.2.1,()),())).bind fun val_2=>some (((val.1.1,(val.1.2.1,val.1.2.2.1,()),val.1.2.2.2.1,val_2.1.1,val.1.2.2.2.2.2.2.2.2.2.2.2.2.2.2),()),val_2.2) else bif val_1.1.1==4 then (m_spec_l4Any val_1.2.1).bind fun val_2=>bif decide ((List.length val.1.2.2.2.2.2.2.2.2.2.2.2.2.2.2.1 + [val_2.1].length) * 24≤140737488355328) then some (((val.1.1,(val.1.2.1,val.1.2.2.1,()),val.1.2.2.2.1,(val.1.2.2.2.2.1,val.1.2.2.2.2.2.1,val.1.2.2.2.2.2.2.1,(val.1.2.2.2.2.2.2.2.1,val.1.2.2.2.2.2.2.2.2.1,val.1.2.2.2.2.2.2.2.2.2.1,val.1.2.2.2.2.2.2.2.2.2.2.1,()),val.1.2.2.2.2.2.2.2.2.2.2.2.1,val.1.2.2.2.2.2.2.2.2.2.2.2.2.1,(val.1.2.2.2.2.2.2.2.2.2.2.2.2.2.1,()),()),val.1.2.2.2.2.2.2.2.2.2.2.2.2.2.2.1++[val_2.1],val.1.2.2.2.2.2.2.2.2.2.2.2.2.2.2.2),()),val_2.2) else none else bif val_1.1.1==5 then ((Aa val_1.2.1 2).bind fun val=>some ((val.1,()),val.2,())).bind fun val_2=>((fun d=>En (J2 d.1 d.2.1 d.2.2.1 d.2.2.2.1 d.2.2.2.2.1 d.2.2.2.2.2.1 d.2.2.2.2.2.2.1 d.2.2.2.2.2.2.2.1 d.2.2.2.2.2.2.2.2.1 d.2.2.2.2.2.2.2.2.2.1 d.2.2.2.2.2.2.2.2.2.2.1 d.2.2.2.2.2.2.2.2.2.2.2.1 d.2.2.2.2.2.2.2.2.2.2.2.2.1 d.2.2.2.2.2.2.2.2.2.2.2.2.2.1 d.2.2.2.2.2.2.2.2.2.2.2.2.2.2.1 d.2.2.2.2.2.2.2.2.2.2.2.2.2.2.2.1 d.2.2.2.2.2.2.2.2.2.2.2.2.2.2.2.2.1 d.2.2.2.2.2.2.2.2.2.2.2.2.2.2.2.2.2.1 d.2.2.2.2.2.2.2.2.2.2.2.2.2.2.2.2.2.2.1) d.1 d.2.1 d.2.2.1 d.2.2.2.1 d.2.2.2.2.1 d.2.2.2.2.2.1 d.2.2.2.2.2.2.1 d.2.2.2.2.2.2.2.1 d.2.2.2.2.2.2.2.2.1 d.2.2.2.2.2.2.2.2.2.1 d.2.2.2.2.2.2.2.2.2.2.1 d.2.2.2.2.2.2.2.2.2.2.2.1 d.2.2.2.2.2.2.2.2.2.2.2.2.1 d.2.2.2.2.2.2.2.2.2.2.2.2.2.1 d.2.2.2.2.2.2.2.2.2.2.2.2.2.2.1 d.2.2.2.2.2.2.2.2.2.2.2.2.2.2.2.1 d.2.2.2.2.2.2.2.2.2.2.2.2.2.2.2.2.1 d.2.2.2.2.2.2.2.2.2.2.2.2.2.2.2.2.2.1 d.2.2.2.2.2.2.2.2.2.2.2.2.2.2.2.2.2.2.1) (IntKind.i64.wrap (200 + val_2.1.1),val_2.2.1,(0,([],[],()),false,(0,0,0,(0,0,0,0,()),0,0,([],()),()),[],[],()),val.1)).bind fun val=>some (((val.2.2.1,(val.2.2.2.1,val.2.2.2.2.1,()),val.2.2.2.2.2.1,(val.2.2.2.2.2.2.1,val.2.2.2.2.2.2.2.1,val.2.2.2.2.2.2.2.2.1,(val.2.2.2.2.2.2.2.2.2.1,val.2.2.2.2.2.2.2.2.2.2.1,val.2.2.2.2.2.2.2.2.2.2.2.1,val.2.2.2.2.2.2.2.2.2.2.2.2.1,()),val.2.2.2.2.2.2.2.2.2.2.2.2.2.1,val.2.2.2.2.2.2.2.2.2.2.2.2.2.2.1,(val.2.2.2.2.2.2.2.2.2.2.2.2.2.2.2.1,()),()),val.2.2.2.2.2.2.2.2.2.2.2.2.2.2.2.2),()),val.1,()) else bif val_1.1.1==6 then ((Aa val_1.2.1 2).bind fun val=>some ((val.1,()),val.2,())).bind fun val_2=>((fun d=>Em (J3 d.1 d.2.1 d.2.2.1 d.2.2.2.1 d.2.2.2.2.1 d.2.2.2.2.2.1 d.2.2.2.2.2.2.1 d.2.2.2.2.2.2.2.1 d.2.2.2.2.2.2.2.2.1 d.2.2.2.2.2.2.2.2.2.1 d.2.2.2.2.2.2.2.2.2.2.1 d.2.2.2.2.2.2.2.2.2.2.2.1 d.2.2.2.2.2.2.2.2.2.2.2.2.1 d.2.2.2.2.2.2.2.2.2.2.2.2.2.1 d.2.2.2.2.2.2.2.2.2.2.2.2.2.2.1 d.2.2.2.2.2.2.2.2.2.2.2.2.2.2.2.1 d.2.2.2.2.2.2.2.2.2.2.2.2.2.2.2.2.1 d.2.2.2.2.2.2.2.2.2.2.2.2.2.2.2.2.2.1 d.2.2.2.2.2.2.2.2.2.2.2.2.2.2.2.2.2.2.1) d.1 d.2.1 d.2.2.1 d.2.2.2.1 d.2.2.2.2.1 d.2.2.2.2.2.1 d.2.2.2.2.2.2.1 d.2.2.2.2.2.2.2.1 d.2.2.2.2.2.2.2.2.1 d.2.2.2.2.2.2.2.2.2.1 d.2.2.2.2.2.2.2.2.2.2.1 d.2.2.2.2.2.2.2.2.2.2.2.1 d.2.2.2.2.2.2.2.2.2.2.2.2.1 d.2.2.2.2.2.2.2.2.2.2.2.2.2.1 d.2.2.2.2.2.2.2.2.2.2.2.2.2.2.1 d.2.2.2.2.2.2.2.2.2.2.2.2.2.2.2.1 d.2.2.2.2.2.2.2.2.2.2.2.2.2.2.2.2.1 d.2.2.2.2.2.2.2.2.2.2.2.2.2.2.2.2.2.1 d.2.2.2.2.2.2.2.2.2.2.2.2.2.2.2.2.2.2.1) (IntKind.i64.wrap (2000 + val_2.1.1),val_2.2.1,(0,([],[],()),false,(0,0,0,(0,0,0,0,()),0,0,([],()),()),[],[],()),val.1)).bind fun val=>some (((val.2.2.1,(val.2.2.2.1,val.2.2.2.2.1,()),val.2.2.2.2.2.1,(val.2.2.2.2.2.2.1,val.2.2.2.2.2.2.2.1,val.2.2.2.2.2.2.2.2.1,(val.2.2.2.2.2.2.2.2.2.1,val.2.2.2.2.2.2.2.2.2.2.1,val.2.2.2.2.2.2.2.2.2.2.2.1,val.2.2.2.2.2.2.2.2.2.2.2.2.1,()),val.2.2.2.2.2.2.2.2.2.2.2.2.2.1,val.2.2.2.2.2.2.2.2.2.2.2.2.2.2.1,(val.2.2.2.2.2.2.2.2.2.2.2.2.2.2.2.1,()),()),val.2.2.2.2.2.2.2.2.2.2.2.2.2.2.2.2),()),val.1,()) else ((Aa val_1.2.1 2).bind fun val=>some ((val.1,()),val.2,())).bind fun val_2=>bif decide (0≤val_2.1.1) then bif decide (val_2.1.1 < nI [ByteArray.mk #[115,104,111,114,116],A5].length) then bif decide ((List.length val.1.2.2.2.2.2.2.2.2.2.2.2.2.2.2.2.1 + [[ByteArray.mk #[115,104,111,114,116],A5].getD (Int.toNat val_2.1.1) (ByteArray.mk #[])].length) * 16≤140737488355328) then some (((val.1.1,(val.1.2.1,val.1.2.2.1,()),val.1.2.2.2.1,(val.1.2.2.2.2.1,val.1.2.2.2.2.2.1,val.1.2.2.2.2.2.2.1,(val.1.2.2.2.2.2.2.2.1,val.1.2.2.2.2.2.2.2.2.1,val.1.2.2.2.2.2.2.2.2.2.1,val.1.2.2.2.2.2.2.2.2.2.2.1,()),val.1.2.2.2.2.2.2.2.2.2.2.2.1,val.1.2.2.2.2.2.2.2.2.2.2.2.2.1,(val.1.2.2.2.2.2.2.2.2.2.2.2.2.2.1,()),()),val.1.2.2.2.2.2.2.2.2.2.2.2.2.2.2.1,val.1.2.2.2.2.2.2.2.2.2.2.2.2.2.2.2.1++[[ByteArray.mk #[115,104,111,114,116],A5].getD (Int.toNat val_2.1.1) (ByteArray.mk #[])],()),()),val_2.2) else none else none else none
theorem Yh:∃ f,f=@Mg:=⟨_,rfl⟩
noncomputable def m_spec_l7Spoil:=Classical.choose Yh
theorem Yi:@m_spec_l7Spoil=@Mg:=Classical.choose_spec Yh
noncomputable def sd_spec_l7Spoil:SD:=⟨Ai1,fun x=>m_spec_l7Spoil x.1 x.2.1⟩
theorem A6r (v:Int) (b0:Rd) (b1:Wld) (b2_0:Int) (b2_1:List ByteArray) (b2_2:List Wr) (b2_3:Bool) (b2_4:Int) (b2_5:Int) (b2_6:Int) (b2_7:Int) (b2_8:Int) (b2_9:Int) (b2_10:Int) (b2_11:Int) (b2_12:Int) (b2_13:List Pr2) (r4:List ByteArray):∀ (k m:Nat) (l:List Stt),v≤(l.length:Int) + k→k < m→l.length + k≤1000000→
  Ai (En m v b0 b1 b2_0 b2_1 b2_2 b2_3 b2_4 b2_5 b2_6 b2_7 b2_8 b2_9 b2_10 b2_11 b2_12 b2_13 l r4) fun q=>∃ l',q=(b0,b1,b2_0,b2_1,b2_2,b2_3,b2_4,b2_5,b2_6,b2_7,b2_8,b2_9,b2_10,b2_11,b2_12,b2_13,l',r4,()):=by
 intro k
 induction k with
 | zero=>
  intro m l h hm hl
  cases m with
  | zero=>omega
  | succ m=>
   simp only [En,Hq]
   exact Ai.no (decide_eq_false (by simp only [nI]; omega)) (Ai.some ⟨l,rfl⟩)
 | succ k ih=>
  intro m l h hm hl
  cases m with
  | zero=>omega
  | succ m=>
   simp only [En,Hq]
   refine Ai.cond (fun _=>?_) fun _=>Ai.some ⟨l,rfl⟩
   exact Ai.go (decide_eq_true (by omega)) (ih m _ (by rw [List.length_append,List.length_singleton]; omega) (by omega) (by rw [List.length_append,List.length_singleton]; omega))
theorem A6s (v:Int) (b0:Rd) (b1:Wld) (b2_0:Int) (b2_1:List ByteArray) (b2_2:List Wr) (b2_3:Bool) (b2_4:Int) (b2_5:Int) (b2_6:Int) (b2_7:Int) (b2_8:Int) (b2_9:Int) (b2_10:Int) (b2_11:Int) (b2_12:Int) (b2_13:List Pr2) (r3:List Stt):∀ (k m:Nat) (l:List ByteArray),v≤(l.length:Int) + k→k < m→l.length + k≤1000000→
  Ai (Em m v b0 b1 b2_0 b2_1 b2_2 b2_3 b2_4 b2_5 b2_6 b2_7 b2_8 b2_9 b2_10 b2_11 b2_12 b2_13 r3 l) fun q=>∃ l',q=(b0,b1,b2_0,b2_1,b2_2,b2_3,b2_4,b2_5,b2_6,b2_7,b2_8,b2_9,b2_10,b2_11,b2_12,b2_13,r3,l',())∧l'.length≤l.length + k:=by
 intro k
 induction k with
 | zero=>
  intro m l h hm hl
  cases m with
  | zero=>omega
  | succ m=>
   simp only [Em,Hp]
   exact Ai.no (decide_eq_false (by simp only [nI]; omega)) (Ai.some ⟨l,rfl,Nat.le_refl _⟩)
 | succ k ih=>
  intro m l h hm hl
  cases m with
  | zero=>omega
  | succ m=>
   simp only [Em,Hp]
   refine Ai.cond (fun _=>?_) fun _=>Ai.some ⟨l,rfl,by omega⟩
   refine Ai.go (decide_eq_true (by rw [List.length_singleton]; omega)) ((ih m _ (by rw [List.length_append,List.length_singleton]; omega) (by omega) (by rw [List.length_append,List.length_singleton]; omega)).mono fun q hq=>?_)
   obtain ⟨l',e,h2⟩:=hq
   rw [List.length_append,List.length_singleton] at h2
   exact ⟨l',e,by omega⟩
theorem Azy {K:Nat} {r:Rd} {w:Wld} (hw:Yp w) (h:Kz K r) (hK:K + 20000 < 1000000000000):Ai (m_spec_l7Spoil r w) fun q=>q.1.1.2.2.2.2.2.1.length≤5000∧Kz (K + 8000) q.2.1:=by
 rw [Yi]
 unfold Mg
 refine Ai.bind (Ajw hw) fun x hx=>?_
 obtain ⟨x,⟨⟩⟩:=x
 have hx:unW x=w:=hx
 have hw':Yp (unW x):=by rw [hx]; exact hw
 have hl:=hw'.l
 have hn:=hw'.n
 have hd:=Jv hw'.v
 have hd1:x.2.1.length≤200:=hd.n200
 have hd2:x.2.2.1.length≤300:=hd.p300
 have hl:x.2.2.2.2.2.2.2.2.2.2.2.2.2.2.2.1.length≤2000:=hl
 have hn:x.2.2.2.2.2.2.2.2.2.2.2.2.2.2.1.length≤200:=hn
 refine At h (by omega) (by omega) fun v r1 v0 v1 h1=>?_
 dsimp only
 refine Ai.cond (fun _=>?_) fun _=>Ai.cond (fun _=>?_) fun _=>Ai.cond (fun _=>?_) fun _=>Ai.cond (fun _=>?_) fun _=>Ai.cond (fun _=>?_) fun _=>Ai.cond (fun _=>?_) fun _=>Ai.cond (fun _=>?_) fun _=>?_
 ·exact At h1 (by omega) (by omega) fun u r2 u0 u1 h2=>Ai.some ⟨by show x.2.2.2.2.2.2.2.2.2.2.2.2.2.2.2.1.length≤_; omega,h2.mono (by omega)⟩
 ·exact Ai.bind (Azx h1 (by omega) (by show x.2.1.length≤_; omega) (by show x.2.2.1.length≤_; omega)) fun q hq=>Ai.some ⟨by show x.2.2.2.2.2.2.2.2.2.2.2.2.2.2.2.1.length≤_; omega,hq.2.mono (by omega)⟩
 ·exact Ai.some ⟨by show x.2.2.2.2.2.2.2.2.2.2.2.2.2.2.2.1.length≤_; omega,h1.mono (by omega)⟩
 ·exact Ai.bind (Azw _ h1 (by omega)) fun q hq=>Ai.some ⟨by show x.2.2.2.2.2.2.2.2.2.2.2.2.2.2.2.1.length≤_; omega,hq.mono (by omega)⟩
 ·exact Ai.bind (A2d h1 (by omega)) fun q hq=>Ai.go (decide_eq_true (by rw [List.length_singleton]; omega)) (Ai.some ⟨by show x.2.2.2.2.2.2.2.2.2.2.2.2.2.2.2.1.length≤_; omega,hq.2.mono (by omega)⟩)
 ·refine At h1 (by omega) (by omega) fun u r2 u0 u1 h2=>?_
  dsimp only
  rw [show IntKind.i64.wrap (200 + u)=200 + u from Ag (by omega) (by omega)]
  refine Ai.bind (A6r (200 + u) r2 _ _ _ _ _ _ _ _ _ _ _ _ _ _ _ _ ((200 + u).toNat - x.2.2.2.2.2.2.2.2.2.2.2.2.2.2.1.length) _ x.2.2.2.2.2.2.2.2.2.2.2.2.2.2.1 (by omega) (by simp only [J2]; omega) (by omega)) fun q hq=>?_
  obtain ⟨l',rfl⟩:=hq
  exact Ai.some ⟨by show x.2.2.2.2.2.2.2.2.2.2.2.2.2.2.2.1.length≤_; omega,h2.mono (by omega)⟩
 ·refine At h1 (by omega) (by omega) fun u r2 u0 u1 h2=>?_
  dsimp only
  rw [show IntKind.i64.wrap (2000 + u)=2000 + u from Ag (by omega) (by omega)]
  refine Ai.bind (A6s (2000 + u) r2 _ _ _ _ _ _ _ _ _ _ _ _ _ _ _ _ ((2000 + u).toNat - x.2.2.2.2.2.2.2.2.2.2.2.2.2.2.2.1.length) _ x.2.2.2.2.2.2.2.2.2.2.2.2.2.2.2.1 (by omega) (by simp only [J3]; omega) (by omega)) fun q hq=>?_
  obtain ⟨l',rfl,hl'⟩:=hq
  exact Ai.some ⟨by show l'.length≤_; omega,h2.mono (by omega)⟩
 ·refine At h1 (by omega) (by omega) fun u r2 u0 u1 h2=>?_
  dsimp only
  exact Ai.go (decide_eq_true u0) (Ai.go (decide_eq_true u1) (Ai.go (decide_eq_true (by rw [List.length_singleton]; omega)) (Ai.some ⟨by show (x.2.2.2.2.2.2.2.2.2.2.2.2.2.2.2.1++[_]).length≤_; rw [List.length_append,List.length_singleton]; omega,h2.mono (by omega)⟩)))
noncomputable def Sv {R:Type} (k:Kt R):=(I1 (pa_spec_l7Spoil 17) (.exit 1) 3 k)
noncomputable def Sw {R:Type} (k:Kt R):=(I1 (pa_spec_l7Spoil 21) (.exit 3) 5 k)
noncomputable def Sx {R:Type}:Lt R pa_spec_l7Spoil:=(Ed (pat:=pa_spec_l7Spoil) 17 (fun d k=>(En (J2 d.1 d.2.1 d.2.2.1 d.2.2.2.1 d.2.2.2.2.1 d.2.2.2.2.2.1 d.2.2.2.2.2.2.1 d.2.2.2.2.2.2.2.1 d.2.2.2.2.2.2.2.2.1 d.2.2.2.2.2.2.2.2.2.1 d.2.2.2.2.2.2.2.2.2.2.1 d.2.2.2.2.2.2.2.2.2.2.2.1 d.2.2.2.2.2.2.2.2.2.2.2.2.1 d.2.2.2.2.2.2.2.2.2.2.2.2.2.1 d.2.2.2.2.2.2.2.2.2.2.2.2.2.2.1 d.2.2.2.2.2.2.2.2.2.2.2.2.2.2.2.1 d.2.2.2.2.2.2.2.2.2.2.2.2.2.2.2.2.1 d.2.2.2.2.2.2.2.2.2.2.2.2.2.2.2.2.2.1 d.2.2.2.2.2.2.2.2.2.2.2.2.2.2.2.2.2.2.1) d.1 d.2.1 d.2.2.1 d.2.2.2.1 d.2.2.2.2.1 d.2.2.2.2.2.1 d.2.2.2.2.2.2.1 d.2.2.2.2.2.2.2.1 d.2.2.2.2.2.2.2.2.1 d.2.2.2.2.2.2.2.2.2.1 d.2.2.2.2.2.2.2.2.2.2.1 d.2.2.2.2.2.2.2.2.2.2.2.1 d.2.2.2.2.2.2.2.2.2.2.2.2.1 d.2.2.2.2.2.2.2.2.2.2.2.2.2.1 d.2.2.2.2.2.2.2.2.2.2.2.2.2.2.1 d.2.2.2.2.2.2.2.2.2.2.2.2.2.2.2.1 d.2.2.2.2.2.2.2.2.2.2.2.2.2.2.2.2.1 d.2.2.2.2.2.2.2.2.2.2.2.2.2.2.2.2.2.1 d.2.2.2.2.2.2.2.2.2.2.2.2.2.2.2.2.2.2.1).bind (Sv k)) (Ed (pat:=pa_spec_l7Spoil) 21 (fun d k=>(Em (J3 d.1 d.2.1 d.2.2.1 d.2.2.2.1 d.2.2.2.2.1 d.2.2.2.2.2.1 d.2.2.2.2.2.2.1 d.2.2.2.2.2.2.2.1 d.2.2.2.2.2.2.2.2.1 d.2.2.2.2.2.2.2.2.2.1 d.2.2.2.2.2.2.2.2.2.2.1 d.2.2.2.2.2.2.2.2.2.2.2.1 d.2.2.2.2.2.2.2.2.2.2.2.2.1 d.2.2.2.2.2.2.2.2.2.2.2.2.2.1 d.2.2.2.2.2.2.2.2.2.2.2.2.2.2.1 d.2.2.2.2.2.2.2.2.2.2.2.2.2.2.2.1 d.2.2.2.2.2.2.2.2.2.2.2.2.2.2.2.2.1 d.2.2.2.2.2.2.2.2.2.2.2.2.2.2.2.2.2.1 d.2.2.2.2.2.2.2.2.2.2.2.2.2.2.2.2.2.2.1) d.1 d.2.1 d.2.2.1 d.2.2.2.1 d.2.2.2.2.1 d.2.2.2.2.2.1 d.2.2.2.2.2.2.1 d.2.2.2.2.2.2.2.1 d.2.2.2.2.2.2.2.2.1 d.2.2.2.2.2.2.2.2.2.1 d.2.2.2.2.2.2.2.2.2.2.1 d.2.2.2.2.2.2.2.2.2.2.2.1 d.2.2.2.2.2.2.2.2.2.2.2.2.1 d.2.2.2.2.2.2.2.2.2.2.2.2.2.1 d.2.2.2.2.2.2.2.2.2.2.2.2.2.2.1 d.2.2.2.2.2.2.2.2.2.2.2.2.2.2.2.1 d.2.2.2.2.2.2.2.2.2.2.2.2.2.2.2.2.1 d.2.2.2.2.2.2.2.2.2.2.2.2.2.2.2.2.2.1 d.2.2.2.2.2.2.2.2.2.2.2.2.2.2.2.2.2.2.1).bind (Sw k)) Hu))
theorem Qf:A2 Tryz.prog ta_spec_l7Spoil:=A7 ⟨Bm,Zp,L9,Aiy,Ai0,y7,trivial⟩
theorem Abi {R:Type}:A3 Tryz.prog R 91 1 pa_spec_l7Spoil Sx co_spec_l7Spoil_21:=
 B3 (cfg:=⟨ta_spec_l7Spoil,1,91,pa_spec_l7Spoil⟩) 21 [] (fun NX X (d:(Int)×((List Int)×Int×Unit)×Wld×(Int)×(List ByteArray)×(List Wr)×(Bool)×(Int)×(Int)×(Int)×(Int)×(Int)×(Int)×(Int)×(Int)×(Int)×(List Pr2)×(List Stt)×(List ByteArray)×Unit)=>Hp  NX X d.1 d.2.1 d.2.2.1 d.2.2.2.1 d.2.2.2.2.1 d.2.2.2.2.2.1 d.2.2.2.2.2.2.1 d.2.2.2.2.2.2.2.1 d.2.2.2.2.2.2.2.2.1 d.2.2.2.2.2.2.2.2.2.1 d.2.2.2.2.2.2.2.2.2.2.1 d.2.2.2.2.2.2.2.2.2.2.2.1 d.2.2.2.2.2.2.2.2.2.2.2.2.1 d.2.2.2.2.2.2.2.2.2.2.2.2.2.1 d.2.2.2.2.2.2.2.2.2.2.2.2.2.2.1 d.2.2.2.2.2.2.2.2.2.2.2.2.2.2.2.1 d.2.2.2.2.2.2.2.2.2.2.2.2.2.2.2.2.1 d.2.2.2.2.2.2.2.2.2.2.2.2.2.2.2.2.2.1 d.2.2.2.2.2.2.2.2.2.2.2.2.2.2.2.2.2.2.1) (fun m d=>Em m d.1 d.2.1 d.2.2.1 d.2.2.2.1 d.2.2.2.2.1 d.2.2.2.2.2.1 d.2.2.2.2.2.2.1 d.2.2.2.2.2.2.2.1 d.2.2.2.2.2.2.2.2.1 d.2.2.2.2.2.2.2.2.2.1 d.2.2.2.2.2.2.2.2.2.2.1 d.2.2.2.2.2.2.2.2.2.2.2.1 d.2.2.2.2.2.2.2.2.2.2.2.2.1 d.2.2.2.2.2.2.2.2.2.2.2.2.2.1 d.2.2.2.2.2.2.2.2.2.2.2.2.2.2.1 d.2.2.2.2.2.2.2.2.2.2.2.2.2.2.2.1 d.2.2.2.2.2.2.2.2.2.2.2.2.2.2.2.2.1 d.2.2.2.2.2.2.2.2.2.2.2.2.2.2.2.2.2.1 d.2.2.2.2.2.2.2.2.2.2.2.2.2.2.2.2.2.2.1) (fun d=>J3 d.1 d.2.1 d.2.2.1 d.2.2.2.1 d.2.2.2.2.1 d.2.2.2.2.2.1 d.2.2.2.2.2.2.1 d.2.2.2.2.2.2.2.1 d.2.2.2.2.2.2.2.2.1 d.2.2.2.2.2.2.2.2.2.1 d.2.2.2.2.2.2.2.2.2.2.1 d.2.2.2.2.2.2.2.2.2.2.2.1 d.2.2.2.2.2.2.2.2.2.2.2.2.1 d.2.2.2.2.2.2.2.2.2.2.2.2.2.1 d.2.2.2.2.2.2.2.2.2.2.2.2.2.2.1 d.2.2.2.2.2.2.2.2.2.2.2.2.2.2.2.1 d.2.2.2.2.2.2.2.2.2.2.2.2.2.2.2.2.1 d.2.2.2.2.2.2.2.2.2.2.2.2.2.2.2.2.2.1 d.2.2.2.2.2.2.2.2.2.2.2.2.2.2.2.2.2.2.1) Sw Qf trivial (fun f NX (d:(Int)×((List Int)×Int×Unit)×Wld×(Int)×(List ByteArray)×(List Wr)×(Bool)×(Int)×(Int)×(Int)×(Int)×(Int)×(Int)×(Int)×(Int)×(Int)×(List Pr2)×(List Stt)×(List ByteArray)×Unit)=>by unfold Hp; simp only [Al,Ar,Ak,Option.bind_assoc,Option.bind_none,Option.bind_some]) (fun _ _ _=>by kernel_rfl)
theorem Abj {R:Type}:A3 Tryz.prog R 91 1 pa_spec_l7Spoil Sx co_spec_l7Spoil_17:=
 B3 (cfg:=⟨ta_spec_l7Spoil,1,91,pa_spec_l7Spoil⟩) 17 [] (fun NX X (d:(Int)×((List Int)×Int×Unit)×Wld×(Int)×(List ByteArray)×(List Wr)×(Bool)×(Int)×(Int)×(Int)×(Int)×(Int)×(Int)×(Int)×(Int)×(Int)×(List Pr2)×(List Stt)×(List ByteArray)×Unit)=>Hq  NX X d.1 d.2.1 d.2.2.1 d.2.2.2.1 d.2.2.2.2.1 d.2.2.2.2.2.1 d.2.2.2.2.2.2.1 d.2.2.2.2.2.2.2.1 d.2.2.2.2.2.2.2.2.1 d.2.2.2.2.2.2.2.2.2.1 d.2.2.2.2.2.2.2.2.2.2.1 d.2.2.2.2.2.2.2.2.2.2.2.1 d.2.2.2.2.2.2.2.2.2.2.2.2.1 d.2.2.2.2.2.2.2.2.2.2.2.2.2.1 d.2.2.2.2.2.2.2.2.2.2.2.2.2.2.1 d.2.2.2.2.2.2.2.2.2.2.2.2.2.2.2.1 d.2.2.2.2.2.2.2.2.2.2.2.2.2.2.2.2.1 d.2.2.2.2.2.2.2.2.2.2.2.2.2.2.2.2.2.1 d.2.2.2.2.2.2.2.2.2.2.2.2.2.2.2.2.2.2.1) (fun m d=>En m d.1 d.2.1 d.2.2.1 d.2.2.2.1 d.2.2.2.2.1 d.2.2.2.2.2.1 d.2.2.2.2.2.2.1 d.2.2.2.2.2.2.2.1 d.2.2.2.2.2.2.2.2.1 d.2.2.2.2.2.2.2.2.2.1 d.2.2.2.2.2.2.2.2.2.2.1 d.2.2.2.2.2.2.2.2.2.2.2.1 d.2.2.2.2.2.2.2.2.2.2.2.2.1 d.2.2.2.2.2.2.2.2.2.2.2.2.2.1 d.2.2.2.2.2.2.2.2.2.2.2.2.2.2.1 d.2.2.2.2.2.2.2.2.2.2.2.2.2.2.2.1 d.2.2.2.2.2.2.2.2.2.2.2.2.2.2.2.2.1 d.2.2.2.2.2.2.2.2.2.2.2.2.2.2.2.2.2.1 d.2.2.2.2.2.2.2.2.2.2.2.2.2.2.2.2.2.2.1) (fun d=>J2 d.1 d.2.1 d.2.2.1 d.2.2.2.1 d.2.2.2.2.1 d.2.2.2.2.2.1 d.2.2.2.2.2.2.1 d.2.2.2.2.2.2.2.1 d.2.2.2.2.2.2.2.2.1 d.2.2.2.2.2.2.2.2.2.1 d.2.2.2.2.2.2.2.2.2.2.1 d.2.2.2.2.2.2.2.2.2.2.2.1 d.2.2.2.2.2.2.2.2.2.2.2.2.1 d.2.2.2.2.2.2.2.2.2.2.2.2.2.1 d.2.2.2.2.2.2.2.2.2.2.2.2.2.2.1 d.2.2.2.2.2.2.2.2.2.2.2.2.2.2.2.1 d.2.2.2.2.2.2.2.2.2.2.2.2.2.2.2.2.1 d.2.2.2.2.2.2.2.2.2.2.2.2.2.2.2.2.2.1 d.2.2.2.2.2.2.2.2.2.2.2.2.2.2.2.2.2.2.1) Sv Qf trivial (fun f NX (d:(Int)×((List Int)×Int×Unit)×Wld×(Int)×(List ByteArray)×(List Wr)×(Bool)×(Int)×(Int)×(Int)×(Int)×(Int)×(Int)×(Int)×(Int)×(Int)×(List Pr2)×(List Stt)×(List ByteArray)×Unit)=>by unfold Hq; simp only [Al,Ar,Ak,Option.bind_assoc,Option.bind_none,Option.bind_some]) (fun _ _ _=>by kernel_rfl)
theorem Ai2:B2 Tryz.prog 154 sd_spec_l7Spoil:=
 A6 (pat:=pa_spec_l7Spoil) [co_spec_l7Spoil_17,co_spec_l7Spoil_21] Sx Qf ⟨Abj,Abi,trivial⟩ Tryz.func154 (de:=fun x=>Mg x.1 x.2.1) (fun x r h=>by have q:m_spec_l7Spoil x.1 x.2.1=some r:=h; rw [Yi] at q; exact q) fun _=>by kernel_rfl
def Mh (v4:Int) (_:(List Int)×Int×Unit) (_ b2:Wld):Nat:=v4.toNat - b2.2.2.2.2.1.length + 1
def Lj (v5:Int) (_:(List Int)×Int×Unit) (_ b2:Wld):Nat:=v5.toNat - b2.2.2.2.2.2.1.length + 1
def Aoi:Sig:=⟨[.bx 176 (.pair (.sl (.int .u8)) (.pair tI .unit))],[none],[.rd Fr],[some 16]⟩
noncomputable def ta_spec_l7Any:Tb:=tb [(63,sd_spec_l1Rd__pick),(93,sd_spec_l7Reached),(154,sd_spec_l7Spoil),(155,sd_spec_l2Zeros)]
def pa_spec_l7Any:Nat→Pat×(Nat→Pat):=Gf [(8,⟨[.boxSl 2 1 .str,.boxSl 2 2 Da,.boxSl 2 13 Av,.boxSl 2 14 Ci,.boxSl 2 15 .str,.boxSl 3 1 .str,.boxSl 3 2 Da,.boxSl 3 13 Av,.boxSl 3 14 Ci,.boxSl 3 15 .str],[(2,.lf (.ptr 1 0)),(3,.lf (.ptr 2 0)),(4,.lf (.d tI))],[.box 176 [.d (.pair (.sl (.int .u8)) (.pair tI .unit))],.box 36 [.d Fr],.box 36 [.d Fr]]⟩,[(3,⟨[.boxSl 2 1 .str,.boxSl 2 2 Da,.boxSl 2 13 Av,.boxSl 2 14 Ci,.boxSl 2 15 .str,.boxSl 3 1 .str,.boxSl 3 2 Da,.boxSl 3 13 Av,.boxSl 3 14 Ci,.boxSl 3 15 .str],[(2,.lf (.ptr 1 0)),(3,.lf (.ptr 2 0))],[.box 176 [.d (.pair (.sl (.int .u8)) (.pair tI .unit))],.box 36 [.d Fr],.box 36 [.d Fr]]⟩)]),(12,⟨[.boxSl 2 1 .str,.boxSl 2 2 Da,.boxSl 2 13 Av,.boxSl 2 14 Ci,.boxSl 2 15 .str,.boxSl 3 1 .str,.boxSl 3 2 Da,.boxSl 3 13 Av,.boxSl 3 14 Ci,.boxSl 3 15 .str],[(2,.lf (.ptr 1 0)),(3,.lf (.ptr 2 0)),(5,.lf (.d tI))],[.box 176 [.d (.pair (.sl (.int .u8)) (.pair tI .unit))],.box 36 [.d Fr],.box 36 [.d Fr]]⟩,[(5,⟨[.boxSl 2 1 .str,.boxSl 2 2 Da,.boxSl 2 13 Av,.boxSl 2 14 Ci,.boxSl 2 15 .str,.boxSl 3 1 .str,.boxSl 3 2 Da,.boxSl 3 13 Av,.boxSl 3 14 Ci,.boxSl 3 15 .str],[(2,.lf (.ptr 1 0)),(3,.lf (.ptr 2 0))],[.box 176 [.d (.pair (.sl (.int .u8)) (.pair tI .unit))],.box 36 [.d Fr],.box 36 [.d Fr]]⟩)])]
noncomputable def co_spec_l7Any_8:Code:=(As (Ba Tryz.f62)).getD 0 .skip
noncomputable def co_spec_l7Any_12:Code:=(As (Ba Tryz.f62)).getD 1 .skip
noncomputable def Jk {R:Type}  (NX:((Int)×((List Int)×Int×Unit)×Wld×Wld×Unit)→Option R) (X5:(((List Int)×Int×Unit)×Wld×Wld×Unit)→Option R) (v5:Int) (b0:(List Int)×Int×Unit) (b1:Wld) (b2:Wld):Option R:=
 bif decide (nI (List.length b2.2.2.2.2.2.1) < v5) then bif decide (([A5].length + List.length b2.2.2.2.2.2.1) * 16≤140737488355328) then NX (v5,b0,b1,(b2.1,b2.2.1,b2.2.2.1,b2.2.2.2.1,b2.2.2.2.2.1,[A5]++b2.2.2.2.2.2.1,()),()) else none else X5 (b0,b1,b2,())
noncomputable def Fl:Nat→(Int)→((List Int)×Int×Unit)→Wld→Wld →  Option (((List Int)×Int×Unit)×Wld×Wld×Unit)
 | 0,_,_,_,_=>none
 | m + 1,v5,b0,b1,b2=>Jk  (fun d=>Fl m d.1 d.2.1 d.2.2.1 d.2.2.2.1) (fun d=>some (d)) v5 b0 b1 b2
noncomputable def Kb {R:Type}  (NX:((Int)×((List Int)×Int×Unit)×Wld×Wld×Unit)→Option R) (X3:(((List Int)×Int×Unit)×Wld×Wld×Unit)→Option R) (v4:Int) (b0:(List Int)×Int×Unit) (b1:Wld) (b2:Wld):Option R:=
 bif decide (nI (List.length b2.2.2.2.2.1) < v4) then bif decide ((1 + List.length b2.2.2.2.2.1) * 24≤140737488355328) then NX (v4,b0,b1,(b2.1,b2.2.1,b2.2.2.1,b2.2.2.2.1,[([],())]++b2.2.2.2.2.1,b2.2.2.2.2.2),()) else none else X3 (b0,b1,b2,())
noncomputable def Gk:Nat→(Int)→((List Int)×Int×Unit)→Wld→Wld →  Option (((List Int)×Int×Unit)×Wld×Wld×Unit)
 | 0,_,_,_,_=>none
 | m + 1,v4,b0,b1,b2=>Kb  (fun d=>Gk m d.1 d.2.1 d.2.2.1 d.2.2.2.1) (fun d=>some (d)) v4 b0 b1 b2
noncomputable def Pl (a0:(List Int)×Int×Unit):Option (((Wld×Unit)×(((List Int)×Int×Unit)×Unit))):=
 (m_spec_l7Reached a0).bind fun val=>((Aa val.2.1 14).bind fun val=>some ((val.1,()),val.2,())).bind fun val_1=>bif val_1.1.1==0 then (m_spec_l7Spoil val_1.2.1 (val.1.1,(val.1.2.1,val.1.2.2.1,()),val.1.2.2.2.1,(val.1.2.2.2.2.1,val.1.2.2.2.2.2.1,val.1.2.2.2.2.2.2.1,(val.1.2.2.2.2.2.2.2.1,val.1.2.2.2.2.2.2.2.2.1,val.1.2.2.2.2.2.2.2.2.2.1,val.1.2.2.2.2.2.2.2.2.2.2.1,()),val.1.2.2.2.2.2.2.2.2.2.2.2.1,val.1.2.2.2.2.2.2.2.2.2.2.2.2.1,(val.1.2.2.2.2.2.2.2.2.2.2.2.2.2.1,()),()),val.1.2.2.2.2.2.2.2.2.2.2.2.2.2.2)).bind fun val=>some val else bif val_1.1.1==1 then ((Aa val_1.2.1 2).bind fun val=>some ((val.1,()),val.2,())).bind fun val_2=>((fun d=>Gk (Mh d.1 d.2.1 d.2.2.1 d.2.2.2.1) d.1 d.2.1 d.2.2.1 d.2.2.2.1) (IntKind.i64.wrap (200 - val_2.1.1),val_2.2.1,(0,([],[],()),false,(0,0,0,(0,0,0,0,()),0,0,([],()),()),[],[],()),(val.1.1,(val.1.2.1,val.1.2.2.1,()),val.1.2.2.2.1,(val.1.2.2.2.2.1,val.1.2.2.2.2.2.1,val.1.2.2.2.2.2.2.1,(val.1.2.2.2.2.2.2.2.1,val.1.2.2.2.2.2.2.2.2.1,val.1.2.2.2.2.2.2.2.2.2.1,val.1.2.2.2.2.2.2.2.2.2.2.1,()),val.1.2.2.2.2.2.2.2.2.2.2.2.1,val.1.2.2.2.2.2.2.2.2.2.2.2.2.1,(val.1.2.2.2.2.2.2.2.2.2.2.2.2.2.1,()),()),val.1.2.2.2.2.2.2.2.2.2.2.2.2.2.2),())).bind fun val=>some (val.2.2,val.1,()) else bif val_1.1.1==2 then ((Aa val_1.2.1 4).bind fun val=>some ((val.1,()),val.2,())).bind fun val_2=>((fun d=>Fl (Lj d.1 d.2.1 d.2.2.1 d.2.2.2.1) d.1 d.2.1 d.2.2.1 d.2.2.2.1) (IntKind.i64.wrap (2000 - val_2.1.1),val_2.2.1,(0,([],[],()),false,(0,0,0,(0,0,0,0,()),0,0,([],()),()),[],[],()),(val.1.1,(val.1.2.1,val.1.2.2.1,()),val.1.2.2.2.1,(val.1.2.2.2.2.1,val.1.2.2.2.2.2.1,val.1.2.2.2.2.2.2.1,(val.1.2.2.2.2.2.2.2.1,val.1.2.2.2.2.2.2.2.2.1,val.1.2.2.2.2.2.2.2.2.2.1,val.1.2.2.2.2.2.2.2.2.2.2.1,()),val.1.2.2.2.2.2.2.2.2.2.2.2.1,val.1.2.2.2.2.2.2.2.2.2.2.2.2.1,(val.1.2.2.2.2.2.2.2.2.2.2.2.2.2.1,()),()),val.1.2.2.2.2.2.2.2.2.2.2.2.2.2.2),())).bind fun val=>some (val.2.2,val.1,()) else some (((val.1.1,(val.1.2.1,val.1.2.2.1,()),val.1.2.2.2.1,(val.1.2.2.2.2.1,val.1.2.2.2.2.2.1,val.1.2.2.2.2.2.2.1,(val.1.2.2.2.2.2.2.2.1,val.1.2.2.2.2.2.2.2.2.1,val.1.2.2.2.2.2.2.2.2.2.1,val.1.2.2.2.2.2.2.2.2.2.2.1,()),val.1.2.2.2.2.2.2.2.2.2.2.2.1,val.1.2.2.2.2.2.2.2.2.2.2.2.2.1,(val.1.2.2.2.2.2.2.2.2.2.2.2.2.2.1,()),()),val.1.2.2.2.2.2.2.2.2.2.2.2.2.2.2),()),val_1.2)
theorem y8:∃ f,f=@Pl:=⟨_,rfl⟩
noncomputable def m_spec_l7Any:=Classical.choose y8
theorem y9:@m_spec_l7Any=@Pl:=Classical.choose_spec y8
noncomputable def sd_spec_l7Any:SD:=⟨Aoi,fun x=>m_spec_l7Any x.1⟩
theorem sa8 (v:Int) (b0:Rd) (b1:Wld):∀ (k m:Nat) (b2:Wld),v≤(b2.2.2.2.2.1.length:Int) + k→k < m→b2.2.2.2.2.1.length + k≤1000000→
  Ai (Gk m v b0 b1 b2) fun q=>q.1=b0∧q.2.2.1.2.2.2.2.2.1=b2.2.2.2.2.2.1:=by
 intro k
 induction k with
 | zero=>
  intro m b2 h hm hl
  cases m with
  | zero=>omega
  | succ m=>
   simp only [Gk,Kb]
   exact Ai.no (decide_eq_false (by simp only [nI]; omega)) (Ai.some ⟨rfl,rfl⟩)
 | succ k ih=>
  intro m b2 h hm hl
  cases m with
  | zero=>omega
  | succ m=>
   simp only [Gk,Kb]
   refine Ai.cond (fun _=>Ai.go (decide_eq_true (by first | omega | (simp only [List.length_singleton]; omega))) ?_) fun _=>Ai.some ⟨rfl,rfl⟩
   have hz:∀ l:List Stt,([([],())]++l).length=1 + l.length:=fun l=>by rw [List.length_append]; rfl
   exact ih m (b2.1,b2.2.1,b2.2.2.1,b2.2.2.2.1,[([],())]++b2.2.2.2.2.1,b2.2.2.2.2.2) (by show v≤((([([],())]++b2.2.2.2.2.1:List Stt).length:Nat):Int) + _; rw [hz]; omega) (by omega) (by show ([([],())]++b2.2.2.2.2.1:List Stt).length + k≤_; rw [hz]; omega)
theorem A6t (v:Int) (b0:Rd) (b1:Wld):∀ (k m:Nat) (b2:Wld),v≤(b2.2.2.2.2.2.1.length:Int) + k→k < m→b2.2.2.2.2.2.1.length + k≤1000000→
  Ai (Fl m v b0 b1 b2) fun q=>q.1=b0∧q.2.2.1.2.2.2.2.2.1.length≤b2.2.2.2.2.2.1.length + k:=by
 intro k
 induction k with
 | zero=>
  intro m b2 h hm hl
  cases m with
  | zero=>omega
  | succ m=>
   simp only [Fl,Jk]
   exact Ai.no (decide_eq_false (by simp only [nI]; omega)) (Ai.some ⟨rfl,Nat.le_refl _⟩)
 | succ k ih=>
  intro m b2 h hm hl
  cases m with
  | zero=>omega
  | succ m=>
   simp only [Fl,Jk]
   refine Ai.cond (fun _=>Ai.go (decide_eq_true (by first | omega | (simp only [List.length_singleton]; omega))) ?_) fun _=>Ai.some ⟨rfl,by show b2.2.2.2.2.2.1.length≤_; omega⟩
   have hz:([A5]++b2.2.2.2.2.2.1).length=1 + b2.2.2.2.2.2.1.length:=by rw [List.length_append]; rfl
   refine (ih m (b2.1,b2.2.1,b2.2.2.1,b2.2.2.2.1,b2.2.2.2.2.1,[A5]++b2.2.2.2.2.2.1,()) (by show v≤((([A5]++b2.2.2.2.2.2.1).length:Nat):Int) + _; rw [hz]; omega) (by omega) (by show ([A5]++b2.2.2.2.2.2.1).length + k≤_; rw [hz]; omega)).mono fun q hq=>⟨hq.1,?_⟩
   have h2:_≤([A5]++b2.2.2.2.2.2.1).length + k:=hq.2
   rw [hz] at h2
   omega
theorem A3w {K:Nat} {r:Rd} (h:Kz K r) (hK:K + 200000 < 1000000000):Ai (m_spec_l7Any r) fun q=>q.1.1.2.2.2.2.2.1.length≤5000∧Kz (K + 50000) q.2.1:=by
 rw [y9]
 unfold Pl
 refine Ai.bind (Awr h (by omega)) fun x hx=>?_
 obtain ⟨x,r0⟩:=x
 obtain ⟨hw,h0⟩:=hx
 have hw:Yp (unW x):=hw
 have hl:(unW x).2.2.2.2.2.1.length≤2000:=hw.l
 have hn:(unW x).2.2.2.2.1.length≤200:=hw.n
 refine At h0 (by omega) (by omega) fun v r1 v0 v1 h1=>?_
 dsimp only
 refine Ai.cond (fun _=>?_) fun _=>Ai.cond (fun _=>?_) fun _=>Ai.cond (fun _=>?_) fun _=>?_
 ·exact Ai.bind (Azy (w:=unW x) hw h1 (by omega)) fun q hq=>Ai.some ⟨hq.1,hq.2.mono (by omega)⟩
 ·refine At h1 (by omega) (by omega) fun u r2 u0 u1 h2=>?_
  dsimp only
  rw [show IntKind.i64.wrap (200 - u)=200 - u from Ag (by omega) (by omega)]
  refine Ai.bind (sa8 (200 - u) r2 _ ((200 - u).toNat - (unW x).2.2.2.2.1.length) _ (unW x) (by omega) (by simp only [Mh]; exact Nat.lt_succ_self _) (by omega)) fun q hq=>Ai.some ⟨?_,?_⟩
  ·show q.2.2.1.2.2.2.2.2.1.length≤_
   rw [hq.2]; omega
  ·show Kz _ q.1
   rw [hq.1]; exact h2.mono (by omega)
 ·refine At h1 (by omega) (by omega) fun u r2 u0 u1 h2=>?_
  dsimp only
  rw [show IntKind.i64.wrap (2000 - u)=2000 - u from Ag (by omega) (by omega)]
  refine Ai.bind (A6t (2000 - u) r2 _ ((2000 - u).toNat - (unW x).2.2.2.2.2.1.length) _ (unW x) (by omega) (by simp only [Lj]; exact Nat.lt_succ_self _) (by omega)) fun q hq=>Ai.some ⟨?_,?_⟩
  ·show q.2.2.1.2.2.2.2.2.1.length≤_
   have:=hq.2
   omega
  ·show Kz _ q.1
   rw [hq.1]; exact h2.mono (by omega)
 ·exact Ai.some ⟨by show (unW x).2.2.2.2.2.1.length≤_; omega,h1.mono (by omega)⟩
noncomputable def Yj {R:Type} (k:Kt R):=(I1 (pa_spec_l7Any 8) (.exit 1) 3 k)
noncomputable def V8 {R:Type} (k:Kt R):=(I1 (pa_spec_l7Any 12) (.exit 3) 5 k)
noncomputable def Xf {R:Type}:Lt R pa_spec_l7Any:=(Ed (pat:=pa_spec_l7Any) 8 (fun d k=>(Gk (Mh d.1 d.2.1 d.2.2.1 d.2.2.2.1) d.1 d.2.1 d.2.2.1 d.2.2.2.1).bind (Yj k)) (Ed (pat:=pa_spec_l7Any) 12 (fun d k=>(Fl (Lj d.1 d.2.1 d.2.2.1 d.2.2.2.1) d.1 d.2.1 d.2.2.1 d.2.2.2.1).bind (V8 k)) Hu))
theorem Uw:A2 Tryz.prog ta_spec_l7Any:=A7 ⟨Bm,Ad5,Ai2,L9,trivial⟩
theorem Agj {R:Type}:A3 Tryz.prog R 48 1 pa_spec_l7Any Xf co_spec_l7Any_12:=
 B3 (cfg:=⟨ta_spec_l7Any,1,48,pa_spec_l7Any⟩) 12 [] (fun NX X d=>Jk  NX X d.1 d.2.1 d.2.2.1 d.2.2.2.1) (fun m d=>Fl m d.1 d.2.1 d.2.2.1 d.2.2.2.1) (fun d=>Lj d.1 d.2.1 d.2.2.1 d.2.2.2.1) V8 Uw trivial (fun f NX d=>by unfold Jk; simp only [Al,Ar,Ak,Option.bind_assoc,Option.bind_none,Option.bind_some]) (fun _ _ _=>by kernel_rfl)
theorem Ai3 {R:Type}:A3 Tryz.prog R 48 1 pa_spec_l7Any Xf co_spec_l7Any_8:=
 B3 (cfg:=⟨ta_spec_l7Any,1,48,pa_spec_l7Any⟩) 8 [] (fun NX X d=>Kb  NX X d.1 d.2.1 d.2.2.1 d.2.2.2.1) (fun m d=>Gk m d.1 d.2.1 d.2.2.1 d.2.2.2.1) (fun d=>Mh d.1 d.2.1 d.2.2.1 d.2.2.2.1) Yj Uw trivial (fun f NX d=>by unfold Kb; simp only [Al,Ar,Ak,Option.bind_assoc,Option.bind_none,Option.bind_some]) (fun _ _ _=>by kernel_rfl)
theorem Aoj:B2 Tryz.prog 62 sd_spec_l7Any:=
 A6 (pat:=pa_spec_l7Any) [co_spec_l7Any_8,co_spec_l7Any_12] Xf Uw ⟨Ai3,Agj,trivial⟩ Tryz.func62 (de:=fun x=>Pl x.1) (fun x r h=>by have q:m_spec_l7Any x.1=some r:=h; rw [y9] at q; exact q) fun _=>by kernel_rfl
def Abk:Sig:=⟨[.rd (.sl (.int .u8))],[none],[.rd Fr],[some 16]⟩
noncomputable def J4 (a0:List Int):Option (((Wld×Unit)×(Unit))):=
 (m_spec_l1Open a0).bind fun val=>(m_spec_l7Any val.1.1).bind fun val=>((Aa val.2.1 4).bind fun val=>some ((val.1,()),val.2,())).bind fun val_1=>bif val_1.1.1==0 then bif decide (nI (List.length val.1.1.2.2.2.2.2.1) > 0) then ((Aa val_1.2.1 (nI (List.length val.1.1.2.2.2.2.2.1))).bind fun val=>some ((val.1,()),val.2,())).bind fun val_2=>bif decide (0≤val_2.1.1) then bif decide (val_2.1.1≤nI (List.length val.1.1.2.2.2.2.2.1)) then bif decide ((0 + (List.drop (Int.toNat 0) (List.take (Int.toNat val_2.1.1) val.1.1.2.2.2.2.2.1)).length) * 16≤140737488355328) then bif decide (0≤IntKind.i64.wrap (val_2.1.1 + 1)) then bif decide (IntKind.i64.wrap (val_2.1.1 + 1)≤nI (List.length val.1.1.2.2.2.2.2.1)) then bif decide (nI (List.length val.1.1.2.2.2.2.2.1)≤nI (List.length val.1.1.2.2.2.2.2.1)) then bif decide ((([]++List.drop (Int.toNat 0) (List.take (Int.toNat val_2.1.1) val.1.1.2.2.2.2.2.1)).length + (List.drop (IntKind.i64.wrap (val_2.1.1 + 1)).toNat (List.take (nI (List.length val.1.1.2.2.2.2.2.1)).toNat val.1.1.2.2.2.2.2.1)).length) * 16≤140737488355328) then some (((val.1.1.1,val.1.1.2.1,val.1.1.2.2.1,val.1.1.2.2.2.1,val.1.1.2.2.2.2.1,[]++List.drop (Int.toNat 0) (List.take (Int.toNat val_2.1.1) val.1.1.2.2.2.2.2.1)++List.drop (IntKind.i64.wrap (val_2.1.1 + 1)).toNat (List.take (nI (List.length val.1.1.2.2.2.2.2.1)).toNat val.1.1.2.2.2.2.2.1),()),()),()) else none else none else none else none else none else none else none else some (val.1,()) else some (val.1,())
theorem Sy:∃ f,f=@J4:=⟨_,rfl⟩
noncomputable def m_spec_DrawForged:=Classical.choose Sy
theorem Sz:@m_spec_DrawForged=@J4:=Classical.choose_spec Sy
noncomputable def sd_spec_DrawForged:SD:=⟨Abk,fun x=>m_spec_DrawForged x.1⟩
theorem Aok (b:List Int) (h:o9 (.sl (.int .u8)) b):Ai (m_spec_DrawForged b) fun _=>True:=by
 rw [Sz]
 unfold J4
 refine Ai.bind (A3r b h) fun q hq=>?_
 refine Ai.bind (A3w hq (by omega)) fun q hq=>?_
 obtain ⟨hl,h0⟩:=hq
 refine At h0 (by omega) (by omega) fun v r1 v0 v1 h1=>?_
 dsimp only
 refine Ai.cond (fun _=>Ai.cond (fun c=>?_) fun _=>Ai.some trivial) fun _=>Ai.some trivial
 have c:=of_decide_eq_true c
 have hn:nI q.1.1.2.2.2.2.2.1.length=(q.1.1.2.2.2.2.2.1.length:Int):=rfl
 refine At h1 (by omega) (by omega) fun u r2 u0 u1 h2=>?_
 dsimp only
 rw [Ag (n:=u + 1) (by omega) (by omega)]
 refine Ai.go (decide_eq_true u0) (Ai.go (decide_eq_true (by omega)) (Ai.go (decide_eq_true ?_) (Ai.go (decide_eq_true (by omega)) (Ai.go (decide_eq_true (by omega)) (Ai.go (decide_eq_true (Int.le_refl _)) (Ai.go (decide_eq_true ?_) (Ai.some trivial)))))))
 ·simp only [List.length_drop,List.length_take]; omega
 ·simp only [List.length_append,List.length_drop,List.length_take,List.length_nil]; omega
theorem Abl:B2 Tryz.prog 12 sd_spec_DrawForged:=
 A6 (pat:=D3) [] Hu (A7 (l:=[(61,sd_spec_l1Open),(62,sd_spec_l7Any),(63,sd_spec_l1Rd__pick)]) ⟨Al1,Aoj,Bm,trivial⟩) trivial Tryz.func12 (de:=fun x=>J4 x.1) (fun x r h=>by have q:m_spec_DrawForged x.1=some r:=h; rw [Sz] at q; exact q) fun _=>by kernel_rfl
def B1 (v lo hi:Int):Bool:=Ch v lo hi
def Aws:Sig:=⟨[.rd tI,.rd tI,.rd tI],[none,none,none],[.rd .bool],[none]⟩
noncomputable def sd_impl_in:SD:=⟨Aws,fun x=>some (((B1 x.1 x.2.1 x.2.2.1),()),(()))⟩
noncomputable def Abm (a0:Int) (a1:Int) (a2:Int):Option ((((Bool)×Unit)×(Unit))):=
 bif decide (a0≥a1) then some ((decide (a0≤a2),()),()) else some ((false,()),())
theorem Awt (a0 a1 a2:Int):Abm a0 a1 a2=some ((B1 a0 a1 a2,()),()):=by
 unfold Abm B1 Ch
 by_cases h:a0≥a1
 ·have:decide (a1≤a0)=true:=by simpa using h
  simp [h,this]
 ·have:decide (a1≤a0)=false:=by simpa using h
  simp [h,this]
theorem Gl:B2 Tryz.prog 95 sd_impl_in:=
 A6 (pat:=D3) [] Hu (A7 (l:=[]) trivial) trivial Tryz.func95 (de:=fun x=>Abm x.1 x.2.1 x.2.2.1) (fun x r h=>(Awt x.1 x.2.1 x.2.2.1).trans h) fun _=>by kernel_rfl
def Asd:Sig:=⟨[.rd tI],[none],[.rd tI],[none]⟩
noncomputable def Ad6 (a0:Int):Option ((((Int)×Unit)×(Unit))):=
 some ((IntKind.i64.wrap (IntKind.i64.wrap (64 - a0) - 8),()),())
noncomputable def sd_impl_room:SD:=⟨Asd,fun x=>Ad6 x.1⟩
theorem Xg:B2 Tryz.prog 147 sd_impl_room:=
 A6 (pat:=D3) [] Hu (A7 (l:=[]) trivial) trivial Tryz.func147 (de:=fun x=>Ad6 x.1) (fun x r h=>h) fun _=>by kernel_rfl
def Lk (p:Pg) (w:Int):Bool:=Fg p w
def Ad7:Sig:=⟨[.rd yPg,.rd tI],[some 4,none],[.rd .bool],[none]⟩
noncomputable def sd_impl_validPage:SD:=⟨Ad7,fun x=>some (((Lk x.1 x.2.1),()),(()))⟩
noncomputable def N1 (a0:Pg) (a1:Int):Option ((((Bool)×Unit)×(Unit))):=
 bif B1 a1 1 8 then bif B1 a0.1 1 4 then bif B1 a0.2.1 1 60000 then bif B1 a0.2.2.1 1 1000000000 then bif decide (nI (ByteArray.size a0.2.2.2.1)≤IntKind.i64.wrap (IntKind.i64.wrap (64 - a1) - 8)) then bif a0.1 != 3 then some ((true,()),()) else some ((ByteArray.toList a0.2.2.2.1==(ByteArray.mk #[]).toList,()),()) else some ((false,()),()) else some ((false,()),()) else some ((false,()),()) else some ((false,()),()) else some ((false,()),())
theorem Ad8 (a0:Pg) (a1:Int):N1 a0 a1=some (((Lk a0 a1),()),(())):=by
 unfold N1 Lk Fg
 have tl:ByteArray.toList (ByteArray.mk #[])=[]:=by decide +kernel
 rw [tl]
 show (bif Ch a1 1 8 then (bif Ch a0.1 1 4 then (bif Ch a0.2.1 1 60000 then (bif Ch a0.2.2.1 1 1000000000 then _ else _) else _) else _) else _)=_
 cases hw:Ch a1 1 8 with
 | false=>rfl
 | true=>
  have k1:=of_decide_eq_true (B7 hw).1
  have k2:=of_decide_eq_true (B7 hw).2
  rw [Ag (n:=64 - a1) (by omega) (by omega),Ag (by omega) (by omega),show 64 - a1 - 8=56 - a1 by omega]
  cases Ch a0.1 1 4<;>cases Ch a0.2.1 1 60000<;>cases Ch a0.2.2.1 1 1000000000<;>try rfl
  show (bif decide ((ByteArray.size a0.2.2.2.1:Int)≤56 - a1) then _ else _)=_
  cases decide ((ByteArray.size a0.2.2.2.1:Int)≤56 - a1)<;>cases (a0.1 != 3)<;>rfl
theorem Ad9:B2 Tryz.prog 181 sd_impl_validPage:=
 A6 (pat:=D3) [] Hu (A7 (l:=[(95,sd_impl_in),(147,sd_impl_room)]) ⟨Gl,Xg,trivial⟩) trivial Tryz.func181 (de:=fun x=>N1 x.1 x.2.1) (fun x r h=>(Ad8 x.1 x.2.1).trans h) fun _=>by kernel_rfl
def Agk (v n:Int):Option ByteArray:=if 0≤n∧n≤1000 then some (C9 v n.toNat) else none
def N2 (v0 v6:Int) (r0:List Int):Nat:=v6.toNat + 2
def Awu:Sig:=⟨[.rd tI,.rd tI],[none,none],[.rd .str],[none]⟩
noncomputable def sd_impl_be:SD:=⟨Awu,fun x=>(Agk x.1 x.2.1).bind fun r=>some ((r,()),(()))⟩
noncomputable def ta_impl_be:Tb:=tb []
def pa_impl_be:Nat→Pat×(Nat→Pat):=Gf [(4,⟨[.row 5 0 5 (.int .u8)],[(0,.lf (.d tI)),(5,.lf (.row 0)),(6,.lf (.d tI))],[.row 5 (.int .u8)]⟩,[(2,⟨[.row 5 0 5 (.int .u8)],[(5,.lf (.row 0))],[.row 5 (.int .u8)]⟩)])]
noncomputable def co_impl_be_4:Code:=(As (Ba Tryz.f182)).getD 0 .skip
noncomputable def N3 {R:Type}  (NX:((Int)×(Int)×(List Int)×Unit)→Option R) (X2:((List Int)×Unit)→Option R) (v0:Int) (v6:Int) (r0:List Int):Option R:=
 bif decide (v6≥0) then bif decide (0≤v6) then bif decide (v6 < nI r0.length) then bif decide (v6.toNat < r0.length) then NX (v0.fdiv (2 ^ min (Int.toNat 8) 64),IntKind.i64.wrap (v6 - 1),r0.set v6.toNat (IntKind.u8.wrap v0),()) else none else none else none else X2 (r0,())
noncomputable def J5:Nat→(Int)→(Int)→(List Int) →  Option ((List Int)×Unit)
 | 0,_,_,_=>none
 | m + 1,v0,v6,r0=>N3  (fun d=>J5 m d.1 d.2.1 d.2.2.1) (fun d=>some (d)) v0 v6 r0
noncomputable def Abn (a0:Int) (a1:Int):Option ((((ByteArray)×Unit)×(Unit))):=
 bif decide (a1=a1) then bif decide (0≤a1) then bif decide (a1.toNat * 1≤140737488355328) then ((fun d=>J5 (N2 d.1 d.2.1 d.2.2.1) d.1 d.2.1 d.2.2.1) (a0,IntKind.i64.wrap (a1 - 1),List.replicate a1.toNat 0,())).bind fun val=>some ((strOfNums val.1,()),()) else none else none else none
theorem Ayk:∀ (k m:Nat) (v:Int) (l t:List Int),l.length=k→k≤1000→k < m→J5 m v ((k:Int) - 1) (l++t)=some (Nc v k++t,())
 | 0,m + 1,v,l,t,hl,hk,hm=>by
  obtain rfl:l=[]:=List.length_eq_zero_iff.1 hl
  simp only [J5,N3]
  rw [decide_eq_false (by omega)]
  rfl
 | k + 1,m + 1,v,l,t,hl,hk,hm=>by
  have e:(((k + 1:Nat):Int) - 1)=(k:Int):=by omega
  rw [e]
  simp only [J5,N3]
  have hlen:(l++t).length=k + 1 + t.length:=by rw [List.length_append,hl]
  rw [decide_eq_true (show (k:Int)≥0 by omega),decide_eq_true (show (k:Int) < nI (l++t).length by simp only [nI,hlen]; omega),decide_eq_true (show Int.toNat (k:Int) < (l++t).length by rw [hlen]; omega),Ag (by omega) (by omega)]
  simp only [cond_true,Int.toNat_natCast]
  obtain ⟨l',x,rfl⟩:∃ l' x,l=l'++[x]:=⟨l.dropLast,l.getLast (by intro h; subst h; simp at hl),(List.dropLast_concat_getLast _).symm⟩
  have hl':l'.length=k:=by simpa using hl
  have hs:((l'++[x])++t).set k (IntKind.wrap IntKind.u8 v)=l'++(v % 256::t):=by
   rw [List.append_assoc,List.set_append_right _ _ (by omega),hl']
   simp only [Nat.sub_self,List.singleton_append,List.set_cons_zero]
   rfl
  rw [hs]
  have:=Ayk k m (v / 256) l' (v % 256::t) hl' (by omega) (by omega)
  have e2:Int.fdiv v (2 ^ min (Int.toNat 8) 64)=v / 256:=by
   show Int.fdiv v 256=v / 256
   exact Int.fdiv_eq_ediv_of_nonneg _ (by omega)
  rw [e2,this]
  simp only [Nc,List.append_assoc,List.singleton_append]
theorem Awv (a0:Int) (a1:Int) r (h:Agk a0 a1=some r):Abn a0 a1=some ((r,()),(())):=by
 unfold Agk at h
 split at h
 ·rename_i hc
  cases h
  obtain ⟨n,rfl⟩:∃ n:Nat,a1=(n:Int):=⟨a1.toNat,by omega⟩
  unfold Abn
  rw [decide_eq_true rfl,decide_eq_true hc.1,decide_eq_true (show Int.toNat (n:Int) * 1≤140737488355328 by omega),Ag (by omega) (by omega)]
  have hL:=Ayk n (N2 a0 ((n:Int) - 1) (List.replicate n 0)) a0 (List.replicate n 0) [] (by simp) (by omega) (by simp only [N2]; omega)
  rw [List.append_nil,List.append_nil] at hL
  exact l8 hL rfl
 ·cases h
noncomputable def Aea {R:Type} (k:Kt R):=(I1 (pa_impl_be 4) (.exit 0) 2 k)
noncomputable def Aqi {R:Type}:Lt R pa_impl_be:=(Ed (pat:=pa_impl_be) 4 (fun d k=>(J5 (N2 d.1 d.2.1 d.2.2.1) d.1 d.2.1 d.2.2.1).bind (Aea k)) Hu)
theorem Am3:A2 Tryz.prog ta_impl_be:=A7 trivial
theorem Ase {R:Type}:A3 Tryz.prog R 24 0 pa_impl_be Aqi co_impl_be_4:=
 B3 (cfg:=⟨ta_impl_be,0,24,pa_impl_be⟩) 4 [] (fun NX X d=>N3  NX X d.1 d.2.1 d.2.2.1) (fun m d=>J5 m d.1 d.2.1 d.2.2.1) (fun d=>N2 d.1 d.2.1 d.2.2.1) Aea Am3 trivial (fun f NX d=>by unfold N3; simp only [Al,Ar,Ak,Option.bind_assoc,Option.bind_none,Option.bind_some]) (fun _ _ _=>by kernel_rfl)
theorem Abo:B2 Tryz.prog 182 sd_impl_be:=
 A6 (pat:=pa_impl_be) [co_impl_be_4] Aqi Am3 ⟨Ase,trivial⟩ Tryz.func182 (de:=fun x=>Abn x.1 x.2.1) (fun x r h=>Hv (Awv x.1 x.2.1) h) fun _=>by kernel_rfl
def Aeb:Sig:=⟨[.rd .str,.rd (.int .i64)],[none,none],[.rd .str],[none]⟩
noncomputable def N4:SD:=⟨Aeb,fun x=>(Aas x.1 x.2.1).bind fun r=>some ((r,()),())⟩
theorem Aec:J6 Tryz.prog 183∧Yz Tryz.prog 183 N4.sg N4.den:=⟨⟨_,Tryz.func183,by kernel_rfl,by kernel_rfl⟩,A1p⟩
def O7 (s:ByteArray) (w:Int):Option ByteArray:=if s.size < 4611686018427387904 then some (Ac1 s w) else none
def L2 (v0:ByteArray) (v1 v5 v6:Int):Nat:=(nI v0.size - v6).toNat + 1
def Auu:Sig:=⟨[.rd .str,.rd tI],[none,none],[.rd .str],[none]⟩
noncomputable def sd_impl_Sum:SD:=⟨Auu,fun x=>(O7 x.1 x.2.1).bind fun r=>some ((r,()),(()))⟩
noncomputable def ta_impl_Sum:Tb:=tb [(95,sd_impl_in),(182,sd_impl_be)]
def pa_impl_Sum:Nat→Pat×(Nat→Pat):=Gf [(6,⟨[],[(0,.lf (.d .str)),(1,.lf (.d tI)),(5,.lf (.d (.int .u64))),(6,.lf (.d tI))],[]⟩,[(2,⟨[],[(1,.lf (.d tI)),(5,.lf (.d (.int .u64)))],[]⟩)])]
noncomputable def co_impl_Sum_6:Code:=(As (Ba Tryz.f184)).getD 0 .skip
noncomputable def L3 {R:Type}  (NX:((ByteArray)×(Int)×(Int)×(Int)×Unit)→Option R) (X2:((Int)×(Int)×Unit)→Option R) (v0:ByteArray) (v1:Int) (v5:Int) (v6:Int):Option R:=
 bif decide (v6 < nI v0.size) then bif decide (0≤v6) then bif decide (v6 < nI v0.size) then NX (v0,v1,IntKind.u64.wrap (IntKind.u64.wrap (nI (BitVec.ofInt 64 v5 ^^^ BitVec.ofInt 64 (IntKind.u64.wrap (An v0 v6))).toNat) * 1099511628211),IntKind.i64.wrap (v6 + 1),()) else none else none else X2 (v1,v5,())
noncomputable def Fq:Nat→(ByteArray)→(Int)→(Int)→(Int) →  Option ((Int)×(Int)×Unit)
 | 0,_,_,_,_=>none
 | m + 1,v0,v1,v5,v6=>L3  (fun d=>Fq m d.1 d.2.1 d.2.2.1 d.2.2.2.1) (fun d=>some (d)) v0 v1 v5 v6
noncomputable def e9 (a0:ByteArray) (a1:Int):Option ((((ByteArray)×Unit)×(Unit))):=
 bif !B1 a1 1 8 then some ((ByteArray.mk #[],()),()) else ((fun d=>Fq (L2 d.1 d.2.1 d.2.2.1 d.2.2.2.1) d.1 d.2.1 d.2.2.1 d.2.2.2.1) (a0,a1,14695981039346656037,0,())).bind fun val=>bif decide (0≤IntKind.i64.wrap (8 - val.1)) then bif decide (IntKind.i64.wrap (8 - val.1)≤nI (C9 (IntKind.i64.wrap val.2.1) (Int.toNat 8)).size) then some ((Ac (C9 (IntKind.i64.wrap val.2.1) (Int.toNat 8)) (IntKind.i64.wrap (8 - val.1)) (nI (C9 (IntKind.i64.wrap val.2.1) (Int.toNat 8)).size),()),()) else none else none
theorem Auv (a0:ByteArray) (a1:Int) r (h:O7 a0 a1=some r):e9 a0 a1=some ((r,()),(())):=by
 unfold O7 at h
 split at h
 rotate_left
 ·cases h
 rename_i hsz
 cases h
 unfold e9 Ac1
 generalize hC:(14695981039346656037:Int)=C
 have h0:U64 C:=by rw [← hC]; exact ⟨by decide,by decide⟩
 show (bif !Ch a1 1 8 then _ else _)=_
 cases hw:Ch a1 1 8 with
 | false=>rfl
 | true=>
  have k1:=of_decide_eq_true (B7 hw).1
  have k2:=of_decide_eq_true (B7 hw).2
  ·simp only [Bool.not_true,cond_false,cond_true]
   have hL:=j8 a0.size (fun _ _=>True) (fun i h=>Ze h (An a0 i)) (g:=fun m i h=>Fq m a0 a1 h i) (ok:=fun h=>(a1,h,())) (fun m i h hi _=>by
    show Fq (m + 1) a0 a1 h i=_
    simp only [Fq,L3]
    have c1:(i:Int) < nI a0.size:=by simp only [nI]; omega
    rw [decide_eq_true c1,H2,wI (show i < 4611686018427387904 by omega)]
    rfl) (fun m h _=>by
    show Fq (m + 1) a0 a1 h a0.size=_
    simp only [Fq,L3]
    rw [decide_eq_false (show ¬ ((a0.size:Int) < nI a0.size) by simp only [nI]; omega)]
    rfl) (fun _ _ _ _=>trivial) a0.size (L2 a0 a1 C 0) 0 C (by omega) (by simp only [L2,nI]; omega) trivial
   rw [show ((0:Nat):Int)=0 from rfl] at hL
   refine l8 hL ?_
   have e1:IntKind.i64.wrap (8 - a1)=8 - a1:=Ag (by omega) (by omega)
   have hh:=Axs a0 a0.size 0 h0
   have eH:iter (fun i h=>Ze h (An a0 i)) a0.size 0 C=Aff a0 a0.size 0 C:=rfl
   rw [eH]
   generalize Aff a0 a0.size 0 C=H at hh ⊢
   show (bif decide (0≤IntKind.i64.wrap (8 - a1)) then (bif decide (IntKind.i64.wrap (8 - a1)≤nI (ByteArray.size (C9 (IntKind.i64.wrap H) (Int.toNat 8)))) then some ((Ac (C9 (IntKind.i64.wrap H) (Int.toNat 8)) (IntKind.i64.wrap (8 - a1)) (nI (ByteArray.size (C9 (IntKind.i64.wrap H) (Int.toNat 8)))),()),()) else none) else none)=some ((C9 H a1.toNat,()),())
   rw [e1,A3d hh k1 k2,decide_eq_true (show 0≤8 - a1 by omega),decide_eq_true (show 8 - a1≤nI (ByteArray.size (C9 (IntKind.i64.wrap H) (Int.toNat 8))) by rw [I4]; simp [nI]; omega)]
   rfl
noncomputable def z6 {R:Type} (k:Kt R):=(I1 (pa_impl_Sum 6) (.exit 0) 2 k)
noncomputable def Am4 {R:Type}:Lt R pa_impl_Sum:=(Ed (pat:=pa_impl_Sum) 6 (fun d k=>(Fq (L2 d.1 d.2.1 d.2.2.1 d.2.2.2.1) d.1 d.2.1 d.2.2.1 d.2.2.2.1).bind (z6 k)) Hu)
theorem Ahs:A2 Tryz.prog ta_impl_Sum:=A7 ⟨Gl,Abo,trivial⟩
theorem Aol {R:Type}:A3 Tryz.prog R 29 0 pa_impl_Sum Am4 co_impl_Sum_6:=
 B3 (cfg:=⟨ta_impl_Sum,0,29,pa_impl_Sum⟩) 6 [] (fun NX X d=>L3  NX X d.1 d.2.1 d.2.2.1 d.2.2.2.1) (fun m d=>Fq m d.1 d.2.1 d.2.2.1 d.2.2.2.1) (fun d=>L2 d.1 d.2.1 d.2.2.1 d.2.2.2.1) z6 Ahs trivial (fun f NX d=>by unfold L3; simp only [Al,Ar,Ak,Option.bind_assoc,Option.bind_none,Option.bind_some]) (fun _ _ _=>by kernel_rfl)
theorem Auw:B2 Tryz.prog 184 sd_impl_Sum:=
 A6 (pat:=pa_impl_Sum) [co_impl_Sum_6] Am4 Ahs ⟨Aol,trivial⟩ Tryz.func184 (de:=fun x=>e9 x.1 x.2.1) (fun x r h=>Hv (Auv x.1 x.2.1) h) fun _=>by kernel_rfl
def Mi (p:Pg) (w:Int):ByteArray:=Cx p w
def Agl:Sig:=⟨[.rd yPg,.rd tI],[some 4,none],[.rd .str],[none]⟩
noncomputable def sd_impl_FormPage:SD:=⟨Agl,fun x=>some (((Mi x.1 x.2.1),()),(()))⟩
noncomputable def O8 (a0:Pg) (a1:Int):Option ((((ByteArray)×Unit)×(Unit))):=
 bif !Lk a0 a1 then some ((ByteArray.mk #[],()),()) else bif decide ((C9 a0.1 (Int.toNat 1)++C9 a0.2.1 (Int.toNat 2)++C9 a0.2.2.1 (Int.toNat 4)++C9 (nI (ByteArray.size a0.2.2.2.1)) (Int.toNat 1)).size + ByteArray.size a0.2.2.2.1≤9223372036854775807) then ((Aas (ByteArray.mk #[0]) (IntKind.i64.wrap (IntKind.i64.wrap (64 - a1) - nI (C9 a0.1 (Int.toNat 1)++C9 a0.2.1 (Int.toNat 2)++C9 a0.2.2.1 (Int.toNat 4)++C9 (nI (ByteArray.size a0.2.2.2.1)) (Int.toNat 1)++a0.2.2.2.1).size))).bind fun val=>some ((val,()),())).bind fun val=>bif decide ((C9 a0.1 (Int.toNat 1)++C9 a0.2.1 (Int.toNat 2)++C9 a0.2.2.1 (Int.toNat 4)++C9 (nI (ByteArray.size a0.2.2.2.1)) (Int.toNat 1)++a0.2.2.2.1).size + ByteArray.size val.1.1≤9223372036854775807) then ((O7 (C9 a0.1 (Int.toNat 1)++C9 a0.2.1 (Int.toNat 2)++C9 a0.2.2.1 (Int.toNat 4)++C9 (nI (ByteArray.size a0.2.2.2.1)) (Int.toNat 1)++a0.2.2.2.1++val.1.1) a1).bind fun val=>some ((val,()),())).bind fun val_1=>bif decide (ByteArray.size val_1.1.1 + (C9 a0.1 (Int.toNat 1)++C9 a0.2.1 (Int.toNat 2)++C9 a0.2.2.1 (Int.toNat 4)++C9 (nI (ByteArray.size a0.2.2.2.1)) (Int.toNat 1)++a0.2.2.2.1++val.1.1).size≤9223372036854775807) then some ((val_1.1.1++(C9 a0.1 (Int.toNat 1)++C9 a0.2.1 (Int.toNat 2)++C9 a0.2.2.1 (Int.toNat 4)++C9 (nI (ByteArray.size a0.2.2.2.1)) (Int.toNat 1)++a0.2.2.2.1++val.1.1),()),()) else none else none else none
theorem Agm (a0:Pg) (a1:Int):O8 a0 a1=some (((Mi a0 a1),()),(())):=by
 unfold O8 Mi Cx
 show (bif !Fg a0 a1 then _ else _)=_
 cases hp:Fg a0 a1 with
 | false=>rfl
 | true=>
  obtain ⟨hw,k1,k2,kp⟩:=Rn hp
  simp only [Bool.not_true,cond_false,cond_true]
  have hb:F4 a0 a1=C9 a0.1 1++C9 a0.2.1 2++C9 a0.2.2.1 4++C9 (nI a0.2.2.2.1.size) 1++a0.2.2.2.1++strOfNums (List.replicate (56 - a1 - a0.2.2.2.1.size).toNat 0):=rfl
  have hs4:(C9 a0.1 1++C9 a0.2.1 2++C9 a0.2.2.1 4++C9 (nI a0.2.2.2.1.size) 1).size=8:=by simp only [ByteArray.size_append,I4]
  have hs5:(C9 a0.1 1++C9 a0.2.1 2++C9 a0.2.2.1 4++C9 (nI a0.2.2.2.1.size) 1++a0.2.2.2.1).size=8 + a0.2.2.2.1.size:=by rw [ByteArray.size_append,hs4]
  show (bif decide ((C9 a0.1 1++C9 a0.2.1 2++C9 a0.2.2.1 4++C9 (nI a0.2.2.2.1.size) 1).size + a0.2.2.2.1.size≤9223372036854775807) then Option.bind (Option.bind (Aas (ByteArray.mk #[0]) (IntKind.i64.wrap (IntKind.i64.wrap (64 - a1) - nI (C9 a0.1 1++C9 a0.2.1 2++C9 a0.2.2.1 4++C9 (nI a0.2.2.2.1.size) 1++a0.2.2.2.1).size))) _) _ else none)=_
  generalize hB:C9 a0.1 1++C9 a0.2.1 2++C9 a0.2.2.1 4++C9 (nI a0.2.2.2.1.size) 1++a0.2.2.2.1=B at *
  rw [hs4,decide_eq_true (by omega),Ag (n:=64 - a1) (by omega) (by omega),hs5,Ag (by simp only [nI]; omega) (by simp only [nI]; omega)]
  have hr:Aas (ByteArray.mk #[0]) (64 - a1 - nI (8 + a0.2.2.2.1.size))=some (strOfNums (List.replicate (56 - a1 - a0.2.2.2.1.size).toNat 0)):=by
   have:=A6n (56 - a1 - a0.2.2.2.1.size).toNat (by omega)
   rw [show ((56 - a1 - a0.2.2.2.1.size).toNat:Int)=64 - a1 - nI (8 + a0.2.2.2.1.size) by simp only [nI]; omega] at this
   exact this
  have hz:(strOfNums (List.replicate (56 - a1 - a0.2.2.2.1.size).toNat 0)).size=(56 - a1 - a0.2.2.2.1.size).toNat:=by rw [Cp,List.length_replicate]
  generalize strOfNums (List.replicate (56 - a1 - a0.2.2.2.1.size).toNat 0)=Z at *
  refine l8 (l8 hr rfl) ?_
  have hbs:(F4 a0 a1).size≤64:=by rw [hb,ByteArray.size_append,hs5,hz]; omega
  dsimp only
  have hB':C9 a0.1 (Int.toNat 1)++C9 a0.2.1 (Int.toNat 2)++C9 a0.2.2.1 (Int.toNat 4)++C9 (nI a0.2.2.2.1.size) (Int.toNat 1)++a0.2.2.2.1=B:=hB
  rw [hB']
  show (bif decide (ByteArray.size B + ByteArray.size Z≤9223372036854775807) then Option.bind (Option.bind (O7 (B++Z) a1) _) _ else none)=_
  have hm:O7 (B++Z) a1=some (Ac1 (F4 a0 a1) a1):=by
   rw [← hb]
   exact if_pos (by omega)
  rw [hs5,hz,decide_eq_true (by omega)]
  refine l8 (l8 hm rfl) ?_
  show (bif decide (ByteArray.size (Ac1 (F4 a0 a1) a1) + ByteArray.size (B++Z)≤9223372036854775807) then some ((Ac1 (F4 a0 a1) a1++(B++Z),()),()) else none)=_
  rw [← hb,Ve hw,decide_eq_true (by omega)]
  rfl
theorem Agn:B2 Tryz.prog 103 sd_impl_FormPage:=
 A6 (pat:=D3) [] Hu (A7 (l:=[(181,sd_impl_validPage),(182,sd_impl_be),(183,N4),(184,sd_impl_Sum)]) ⟨Ad9,Abo,Aec,Auw,trivial⟩) trivial Tryz.func103 (de:=fun x=>O8 x.1 x.2.1) (fun x r h=>(Agm x.1 x.2.1).trans h) fun _=>by kernel_rfl
def My (s:ByteArray):Option Int:=if s.size≤7 then some (l7 s) else none
def L4 (v0:ByteArray) (v3 v4:Int):Nat:=(nI v0.size - v4).toNat + 1
def Aux:Sig:=⟨[.rd .str],[none],[.rd tI],[none]⟩
noncomputable def sd_impl_num:SD:=⟨Aux,fun x=>(My x.1).bind fun r=>some ((r,()),(()))⟩
noncomputable def ta_impl_num:Tb:=tb []
def pa_impl_num:Nat→Pat×(Nat→Pat):=Gf [(4,⟨[],[(0,.lf (.d .str)),(3,.lf (.d tI)),(4,.lf (.d tI))],[]⟩,[(2,⟨[],[(3,.lf (.d tI))],[]⟩)])]
noncomputable def co_impl_num_4:Code:=(As (Ba Tryz.f148)).getD 0 .skip
noncomputable def L5 {R:Type}  (NX:((ByteArray)×(Int)×(Int)×Unit)→Option R) (X2:((Int)×Unit)→Option R) (v0:ByteArray) (v3:Int) (v4:Int):Option R:=
 bif decide (v4 < nI v0.size) then bif decide (0≤v4) then bif decide (v4 < nI v0.size) then NX (v0,IntKind.i64.wrap (nI (BitVec.ofInt 64 (IntKind.i64.wrap (v3 * 2 ^ min (Int.toNat 8) 64)) ||| BitVec.ofInt 64 (IntKind.i64.wrap (An v0 v4))).toNat),IntKind.i64.wrap (v4 + 1),()) else none else none else X2 (v3,())
noncomputable def Is:Nat→(ByteArray)→(Int)→(Int) →  Option ((Int)×Unit)
 | 0,_,_,_=>none
 | m + 1,v0,v3,v4=>L5  (fun d=>Is m d.1 d.2.1 d.2.2.1) (fun d=>some (d)) v0 v3 v4
noncomputable def f4 (a0:ByteArray):Option ((((Int)×Unit)×(Unit))):=
 ((fun d=>Is (L4 d.1 d.2.1 d.2.2.1) d.1 d.2.1 d.2.2.1) (a0,0,0,())).bind fun val=>some (val,())
theorem Auy (s:ByteArray) (hs:s.size≤7):∀ (k m i:Nat) (v:Int),i + k=s.size→k < m→0≤v→v < 256 ^ i→Is m s v i=some (Atr s k i v,())
 | 0,m + 1,i,v,hi,hm,h0,h1=>by
  simp only [Is,L5]
  rw [decide_eq_false (show ¬ ((i:Int) < nI s.size) by simp only [nI]; omega)]
  rfl
 | k + 1,m + 1,i,v,hi,hm,h0,h1=>by
  obtain ⟨hb,hs',e⟩:=A3c s i hi (by omega) h0 h1
  simp only [Is,L5]
  have c1:(i:Int) < nI s.size:=by simp only [nI]; omega
  rw [decide_eq_true c1,decide_eq_true (show (0:Int)≤(i:Int) by omega),wI (show i < 4611686018427387904 by omega),e]
  exact Auy s hs k m (i + 1) _ (by omega) (by omega) hb hs'
theorem Auz (a0:ByteArray) r (h:My a0=some r):f4 a0=some ((r,()),(())):=by
 unfold My at h
 split at h
 ·rename_i hc
  cases h
  unfold f4
  have hL:=Auy a0 hc a0.size (L4 a0 0 0) 0 0 (by omega) (by simp only [L4,nI]; omega) (by omega) (by decide)
  exact l8 hL rfl
 ·cases h
noncomputable def z7 {R:Type} (k:Kt R):=(I1 (pa_impl_num 4) (.exit 0) 2 k)
noncomputable def Am5 {R:Type}:Lt R pa_impl_num:=(Ed (pat:=pa_impl_num) 4 (fun d k=>(Is (L4 d.1 d.2.1 d.2.2.1) d.1 d.2.1 d.2.2.1).bind (z7 k)) Hu)
theorem Aht:A2 Tryz.prog ta_impl_num:=A7 trivial
theorem Aom {R:Type}:A3 Tryz.prog R 19 0 pa_impl_num Am5 co_impl_num_4:=
 B3 (cfg:=⟨ta_impl_num,0,19,pa_impl_num⟩) 4 [] (fun NX X d=>L5  NX X d.1 d.2.1 d.2.2.1) (fun m d=>Is m d.1 d.2.1 d.2.2.1) (fun d=>L4 d.1 d.2.1 d.2.2.1) z7 Aht trivial (fun f NX d=>by unfold L5; simp only [Al,Ar,Ak,Option.bind_assoc,Option.bind_none,Option.bind_some]) (fun _ _ _=>by kernel_rfl)
theorem Au0:B2 Tryz.prog 148 sd_impl_num:=
 A6 (pat:=pa_impl_num) [co_impl_num_4] Am5 Aht ⟨Aom,trivial⟩ Tryz.func148 (de:=fun x=>f4 x.1) (fun x r h=>Hv (Auz x.1) h) fun _=>by kernel_rfl
def H7 (s:ByteArray) (w:Int):Pg×Bool:=Bw s w
def Ago:Sig:=⟨[.rd .str,.rd tI],[none,none],[.rd yPg,.rd .bool],[some 4,none]⟩
noncomputable def sd_impl_ReadPage:SD:=⟨Ago,fun x=>some (((H7 x.1 x.2.1).1,(H7 x.1 x.2.1).2,()),(()))⟩
noncomputable def O9 (a0:ByteArray) (a1:Int):Option (((Pg×(Bool)×Unit)×(Unit))):=
 bif nI a0.size != 64 then some (((0,0,0,ByteArray.mk #[],()),false,()),()) else bif !B1 a1 1 8 then some (((0,0,0,ByteArray.mk #[],()),false,()),()) else bif decide (0≤a1) then bif decide (a1≤nI a0.size) then bif decide (7 < nI (Ac a0 a1 (nI a0.size)).size) then bif decide (IntKind.i64.wrap (An (Ac a0 a1 (nI a0.size)) 7) > IntKind.i64.wrap (IntKind.i64.wrap (64 - a1) - 8)) then some (((0,0,0,ByteArray.mk #[],()),false,()),()) else bif decide (0 < nI (Ac a0 a1 (nI a0.size)).size) then bif decide (3≤nI (Ac a0 a1 (nI a0.size)).size) then ((My (Ac (Ac a0 a1 (nI a0.size)) 1 3)).bind fun val=>some ((val,()),())).bind fun val=>bif decide (7≤nI (Ac a0 a1 (nI a0.size)).size) then ((My (Ac (Ac a0 a1 (nI a0.size)) 3 7)).bind fun val=>some ((val,()),())).bind fun val_1=>bif decide (8≤IntKind.i64.wrap (8 + IntKind.i64.wrap (An (Ac a0 a1 (nI a0.size)) 7))) then bif decide (IntKind.i64.wrap (8 + IntKind.i64.wrap (An (Ac a0 a1 (nI a0.size)) 7))≤nI (Ac a0 a1 (nI a0.size)).size) then bif !(Mi (IntKind.i64.wrap (An (Ac a0 a1 (nI a0.size)) 0),val.1.1,val_1.1.1,Ac (Ac a0 a1 (nI a0.size)) 8 (IntKind.i64.wrap (8 + IntKind.i64.wrap (An (Ac a0 a1 (nI a0.size)) 7))),()) a1).toList==a0.toList then some (((0,0,0,ByteArray.mk #[],()),false,()),()) else some (((IntKind.i64.wrap (An (Ac a0 a1 (nI a0.size)) 0),val.1.1,val_1.1.1,Ac (Ac a0 a1 (nI a0.size)) 8 (IntKind.i64.wrap (8 + IntKind.i64.wrap (An (Ac a0 a1 (nI a0.size)) 7))),()),true,()),()) else none else none else none else none else none else none else none else none
theorem Agp (a0:ByteArray) (a1:Int):O9 a0 a1=some (((H7 a0 a1).1,(H7 a0 a1).2,()),(())):=by
 unfold O9 H7 Bw
 show (bif nI a0.size != 64 then _ else (bif !Ch a1 1 8 then _ else _))=_
 cases hz:nI a0.size != 64 with
 | true=>rfl
 | false=>
   cases hw:Ch a1 1 8 with
   | false=>rfl
   | true=>
    have k1:=(Cy hw).1
    have k2:=(Cy hw).2
    have hs:a0.size=64:=by
     by_cases q:nI a0.size=64
     ·simp only [nI] at q; omega
     ·rw [(bne_iff_ne).2 q] at hz; cases hz
    have hb:(Ac a0 a1 (nI a0.size)).size=(64 - a1).toNat:=by rw [C6 (by omega) (by simp only [nI]; omega) (by simp [nI])]; simp only [nI,hs]; omega
    simp only [Bool.not_true,cond_false,cond_true]
    rw [decide_eq_true (show (0:Int)≤a1 by omega),decide_eq_true (show a1≤nI a0.size by simp only [nI]; omega)]
    unfold Av5
    generalize Ac a0 a1 (nI a0.size)=b at *
    obtain ⟨b0,b1⟩:=I5 b 7
    obtain ⟨c0,c1⟩:=I5 b 0
    have hB:nI b.size=64 - a1:=by simp only [nI]; omega
    rw [hB,decide_eq_true (show (7:Int) < 64 - a1 by omega),decide_eq_true (show (0:Int) < 64 - a1 by omega),decide_eq_true (show (3:Int)≤64 - a1 by omega),decide_eq_true (show (7:Int)≤64 - a1 by omega),Ag (n:=An b 7) (by omega) (by omega),Ag (n:=An b 0) (by omega) (by omega),Ag (n:=64 - a1) (by omega) (by omega),Ag (n:=64 - a1 - 8) (by omega) (by omega),Ag (n:=8 + An b 7) (by omega) (by omega),show 64 - a1 - 8=56 - a1 by omega]
    by_cases q:An b 7 > 56 - a1
    ·rw [decide_eq_true q]; rfl
    ·rw [decide_eq_false q]
     have n1:My (Ac b 1 3)=some (l7 (Ac b 1 3)):=if_pos (by rw [C6 (by omega) (by omega) (by omega)]; decide)
     have n2:My (Ac b 3 7)=some (l7 (Ac b 3 7)):=if_pos (by rw [C6 (by omega) (by omega) (by omega)]; decide)
     simp only [n1,n2,Option.bind_some,cond_true,cond_false]
     rw [decide_eq_true (show 8≤8 + An b 7 by omega),decide_eq_true (show 8 + An b 7≤64 - a1 by omega)]
     show (bif !(ByteArray.toList (Cx (Av4 b) a1)==ByteArray.toList a0) then _ else _)=_
     cases (ByteArray.toList (Cx (Av4 b) a1)==ByteArray.toList a0)<;>rfl
theorem Agq:B2 Tryz.prog 53 sd_impl_ReadPage:=
 A6 (pat:=D3) [] Hu (A7 (l:=[(95,sd_impl_in),(103,sd_impl_FormPage),(147,sd_impl_room),(148,sd_impl_num)]) ⟨Gl,Agn,Xg,Au0,trivial⟩) trivial Tryz.func53 (de:=fun x=>O9 x.1 x.2.1) (fun x r h=>(Agp x.1 x.2.1).trans h) fun _=>by kernel_rfl
def Ll (d:Dk):Bool:=A0 d
def Aed:Sig:=⟨[.rd yDk],[some 2],[.rd .bool],[none]⟩
noncomputable def sd_impl_ValidDisk:SD:=⟨Aed,fun x=>some (((Ll x.1),()),(()))⟩
noncomputable def ta_impl_ValidDisk:Tb:=tb [(95,sd_impl_in)]
def pa_impl_ValidDisk:Nat→Pat×(Nat→Pat):=Gf [(5,⟨[.sl 19 0 .str,.boxSl 1 0 .str,.boxSl 1 1 Da],[(1,.lf (.ptr 0 0)),(19,.lf (.d (.sl .str))),(20,.lf (.d tI)),(21,.lf (.d tI))],[.box 26 [.d (.sl .str),.d (.sl Da)]]⟩,[(2,⟨[.boxSl 1 0 .str,.boxSl 1 1 Da],[(1,.lf (.ptr 0 0))],[.box 26 [.d (.sl .str),.d (.sl Da)]]⟩),(1,⟨[],[(2,.lf (.d .bool))],[]⟩)]),(11,⟨[.sl 30 0 Da,.boxSl 1 0 .str,.boxSl 1 1 Da],[(1,.lf (.ptr 0 0)),(30,.lf (.d (.sl Da))),(31,.lf (.d tI)),(32,.lf (.d tI))],[.box 26 [.d (.sl .str),.d (.sl Da)]]⟩,[(4,p0),(1,⟨[],[(2,.lf (.d .bool))],[]⟩)])]
noncomputable def co_impl_ValidDisk_5:Code:=(As (Ba Tryz.f94)).getD 0 .skip
noncomputable def co_impl_ValidDisk_11:Code:=(As (Ba Tryz.f94)).getD 1 .skip
def Dl (v30:List Wr) (v31:Int) (v32:Int) (b0_0:List ByteArray) (b0_1:List Wr):Nat:=(v31 - v32).toNat + 1
noncomputable def Fw {R:Type}  (NX:((List Wr)×(Int)×(Int)×(List ByteArray)×(List Wr)×Unit)→Option R) (X4:(Unit)→Option R) (X1:((Bool)×Unit)→Option R) (v30:List Wr) (v31:Int) (v32:Int) (b0_0:List ByteArray) (b0_1:List Wr):Option R:=
 bif decide (v32 < v31) then bif decide (0≤v32) then bif decide (v32 < nI v30.length) then bif !B1 (v30.getD v32.toNat (0,ByteArray.mk #[],())).1 0 (IntKind.i64.wrap (nI b0_0.length - 1)) then X1 (false,()) else bif nI (ByteArray.size (v30.getD v32.toNat (0,ByteArray.mk #[],())).2.1) != 64 then X1 (false,()) else NX (v30,v31,IntKind.i64.wrap (v32 + 1),b0_0,b0_1,()) else none else none else X4 PUnit.unit
noncomputable def Bt:Nat→(List Wr)→(Int)→(Int)→(List ByteArray)→(List Wr) →  Option ((Unit) ⊕ ((Bool)×Unit))
 | 0,_,_,_,_,_=>none
 | m + 1,v30,v31,v32,b0_0,b0_1=>Fw  (fun d=>Bt m d.1 d.2.1 d.2.2.1 d.2.2.2.1 d.2.2.2.2.1) (fun d=>some (.inl (d))) (fun d=>some (.inr (d))) v30 v31 v32 b0_0 b0_1
def D0 (v19:List ByteArray) (v20:Int) (v21:Int) (b0_0:List ByteArray) (b0_1:List Wr):Nat:=(v20 - v21).toNat + 1
noncomputable def Gs {R:Type}  (NX:((List ByteArray)×(Int)×(Int)×(List ByteArray)×(List Wr)×Unit)→Option R) (X2:Dk→Option R) (X1:((Bool)×Unit)→Option R) (v19:List ByteArray) (v20:Int) (v21:Int) (b0_0:List ByteArray) (b0_1:List Wr):Option R:=
 bif decide (v21 < v20) then bif decide (0≤v21) then bif decide (v21 < nI v19.length) then bif nI (ByteArray.size (v19.getD v21.toNat (ByteArray.mk #[]))) != 64 then X1 (false,()) else NX (v19,v20,IntKind.i64.wrap (v21 + 1),b0_0,b0_1,()) else none else none else X2 (b0_0,b0_1,())
noncomputable def B0:Nat→(List ByteArray)→(Int)→(Int)→(List ByteArray)→(List Wr) →  Option (Dk ⊕ ((Bool)×Unit))
 | 0,_,_,_,_,_=>none
 | m + 1,v19,v20,v21,b0_0,b0_1=>Gs  (fun d=>B0 m d.1 d.2.1 d.2.2.1 d.2.2.2.1 d.2.2.2.2.1) (fun d=>some (.inl (d))) (fun d=>some (.inr (d))) v19 v20 v21 b0_0 b0_1
noncomputable def N5 (a0:Dk):Option ((((Bool)×Unit)×(Unit))):=
 bif !B1 (nI (List.length a0.1)) 8 200 then some ((false,()),()) else bif decide (nI (List.length a0.2.1) > 300) then some ((false,()),()) else ((fun d=>B0 (D0 d.1 d.2.1 d.2.2.1 d.2.2.2.1 d.2.2.2.2.1) d.1 d.2.1 d.2.2.1 d.2.2.2.1 d.2.2.2.2.1) (a0.1,nI (List.length a0.1),0,a0)).bind fun val=>Cj (fun d=>((fun d=>Bt (Dl d.1 d.2.1 d.2.2.1 d.2.2.2.1 d.2.2.2.2.1) d.1 d.2.1 d.2.2.1 d.2.2.2.1 d.2.2.2.2.1) (d.2.1,nI (List.length d.2.1),0,d)).bind fun val=>Cj (fun d=>some ((true,()),())) (fun d=>some (d,())) val) (fun d=>some (d,())) val
theorem Aee (a0:Dk):N5 a0=some ((Ll a0,()),()):=by
 unfold N5 Ll A0
 have c1:decide (nI a0.2.1.length > 300)=!decide (a0.2.1.length≤300):=Zf _ 300
 rw [c1]
 show (bif !Ch (a0.1.length:Int) 8 200 then _ else _)=_
 cases hin:Ch (a0.1.length:Int) 8 200 with
 | false=>rfl
 | true=>
  have hlen:a0.1.length≤200:=by have:=of_decide_eq_true (B7 hin).2; omega
  by_cases hp:a0.2.1.length≤300
  ·rw [decide_eq_true hp]
   have hL:=I3 (n:=a0.1.length) (fun i=>decide ((a0.1.getD i z0).size=64)) (g:=fun m i=>B0 m a0.1 (nI a0.1.length) i a0.1 a0.2.1) (ok:=.inl (a0.1,a0.2.1,())) (bad:=.inr (false,())) (fun m i hi=>by
    show B0 (m + 1) a0.1 (nI a0.1.length) i a0.1 a0.2.1=_
    simp only [B0,Gs]
    have g1:(nI (ByteArray.size (List.getD a0.1 i (ByteArray.mk #[]))) != 64)=!decide ((a0.1.getD i z0).size=64):=Aza _ 64
    rw [W1 hi,H2,wI (show i < 4611686018427387904 by omega),Int.toNat_natCast,g1]
    cases decide ((a0.1.getD i z0).size=64)<;>rfl) (fun m=>by
    show B0 (m + 1) a0.1 (nI a0.1.length) (a0.1.length:Int) a0.1 a0.2.1=_
    simp only [B0,Gs]
    rw [Mm]
    rfl) (D0 a0.1 (nI a0.1.length) 0 a0.1 a0.2.1) 0 (by omega) (by simp [D0,nI])
   have hL':B0 (D0 a0.1 (nI a0.1.length) 0 a0.1 a0.2.1) a0.1 (nI a0.1.length) 0 a0.1 a0.2.1=_:=hL
   have hM:=I3 (n:=a0.2.1.length) (fun i=>l6 a0.1.length (a0.2.1.getD i zW)) (g:=fun m i=>Bt m a0.2.1 (nI a0.2.1.length) i a0.1 a0.2.1) (ok:=.inl ()) (bad:=.inr (false,())) (fun m i hi=>by
    show Bt (m + 1) a0.2.1 (nI a0.2.1.length) i a0.1 a0.2.1=_
    simp only [Bt,Fw]
    have g1:(nI (ByteArray.size (List.getD a0.2.1 i (0,ByteArray.mk #[],())).2.1) != 64)=!decide ((a0.2.1.getD i zW).2.1.size=64):=Aza _ 64
    have hw:IntKind.i64.wrap (nI a0.1.length - 1)=(a0.1.length:Int) - 1:=Ag (by simp only [nI]; omega) (by simp only [nI]; omega)
    rw [W1 hi,H2,wI (show i < 4611686018427387904 by omega),Int.toNat_natCast,g1,hw]
    have g2:B1 (List.getD a0.2.1 i (0,ByteArray.mk #[],())).1 0 ((a0.1.length:Int) - 1)=(decide (0≤(a0.2.1.getD i zW).1)&&decide ((a0.2.1.getD i zW).1 < (a0.1.length:Int))):=by
     show (decide (0≤(a0.2.1.getD i zW).1)&&decide ((a0.2.1.getD i zW).1≤(a0.1.length:Int) - 1))=_
     congr 1
     exact decide_eq_decide.2 (by omega)
    rw [g2]
    unfold l6
    cases decide (0≤(a0.2.1.getD i zW).1)<;>cases decide ((a0.2.1.getD i zW).1 < (a0.1.length:Int))<;>cases decide ((a0.2.1.getD i zW).2.1.size=64)<;>rfl) (fun m=>by
    show Bt (m + 1) a0.2.1 (nI a0.2.1.length) (a0.2.1.length:Int) a0.1 a0.2.1=_
    simp only [Bt,Fw]
    rw [Mm]
    rfl) (Dl a0.2.1 (nI a0.2.1.length) 0 a0.1 a0.2.1) 0 (by omega) (by simp [Dl,nI])
   have hM':Bt (Dl a0.2.1 (nI a0.2.1.length) 0 a0.1 a0.2.1) a0.2.1 (nI a0.2.1.length) 0 a0.1 a0.2.1=_:=hM
   show (B0 (D0 a0.1 (nI a0.1.length) 0 a0.1 a0.2.1) a0.1 (nI a0.1.length) 0 a0.1 a0.2.1).bind _=_
   rw [hL']
   rw [Nat.sub_zero] at hM' ⊢
   cases (List.range' 0 a0.1.length).all (fun i=>decide ((a0.1.getD i z0).size=64)) with
   | false=>rfl
   | true=>
    show (Bt (Dl a0.2.1 (nI a0.2.1.length) 0 a0.1 a0.2.1) a0.2.1 (nI a0.2.1.length) 0 a0.1 a0.2.1).bind _=_
    rw [hM']
    cases (List.range' 0 a0.2.1.length).all (fun i=>l6 a0.1.length (a0.2.1.getD i zW))<;>rfl
  ·rw [decide_eq_false hp]
   rfl
noncomputable def Qt {R:Type} (k:Kt R):=(Cj (I1 (pa_impl_ValidDisk 5) (.exit 0) 2 k) (I1 (pa_impl_ValidDisk 5) .ret 1 k))
noncomputable def Pu {R:Type} (k:Kt R):=(Cj (I1 (pa_impl_ValidDisk 11) (.exit 2) 4 k) (I1 (pa_impl_ValidDisk 11) .ret 1 k))
noncomputable def Pa {R:Type}:Lt R pa_impl_ValidDisk:=(Ed (pat:=pa_impl_ValidDisk) 5 (fun d k=>(B0 (D0 d.1 d.2.1 d.2.2.1 d.2.2.2.1 d.2.2.2.2.1) d.1 d.2.1 d.2.2.1 d.2.2.2.1 d.2.2.2.2.1).bind (Qt k)) (Ed (pat:=pa_impl_ValidDisk) 11 (fun d k=>(Bt (Dl d.1 d.2.1 d.2.2.1 d.2.2.2.1 d.2.2.2.2.1) d.1 d.2.1 d.2.2.1 d.2.2.2.1 d.2.2.2.2.1).bind (Pu k)) Hu))
theorem N6:A2 Tryz.prog ta_impl_ValidDisk:=A7 ⟨Gl,trivial⟩
theorem f5 {R:Type}:A3 Tryz.prog R 51 0 pa_impl_ValidDisk Pa co_impl_ValidDisk_11:=
 B3 (cfg:=⟨ta_impl_ValidDisk,0,51,pa_impl_ValidDisk⟩) 11 [] (fun NX X d=>Fw  NX (fun e=>X (.inl (e))) (fun e=>X (.inr (e))) d.1 d.2.1 d.2.2.1 d.2.2.2.1 d.2.2.2.2.1) (fun m d=>Bt m d.1 d.2.1 d.2.2.1 d.2.2.2.1 d.2.2.2.2.1) (fun d=>Dl d.1 d.2.1 d.2.2.1 d.2.2.2.1 d.2.2.2.2.1) Pu N6 trivial (fun f NX d=>by unfold Fw; simp only [Al,Ar,Ak,Option.bind_assoc,Option.bind_none,Option.bind_some]) (fun _ _ _=>by kernel_rfl)
theorem n5 {R:Type}:A3 Tryz.prog R 51 0 pa_impl_ValidDisk Pa co_impl_ValidDisk_5:=
 B3 (cfg:=⟨ta_impl_ValidDisk,0,51,pa_impl_ValidDisk⟩) 5 [] (fun NX X d=>Gs  NX (fun e=>X (.inl (e))) (fun e=>X (.inr (e))) d.1 d.2.1 d.2.2.1 d.2.2.2.1 d.2.2.2.2.1) (fun m d=>B0 m d.1 d.2.1 d.2.2.1 d.2.2.2.1 d.2.2.2.2.1) (fun d=>D0 d.1 d.2.1 d.2.2.1 d.2.2.2.1 d.2.2.2.2.1) Qt N6 trivial (fun f NX d=>by unfold Gs; simp only [Al,Ar,Ak,Option.bind_assoc,Option.bind_none,Option.bind_some]) (fun _ _ _=>by kernel_rfl)
theorem Aef:B2 Tryz.prog 94 sd_impl_ValidDisk:=
 A6 (pat:=pa_impl_ValidDisk) [co_impl_ValidDisk_5,co_impl_ValidDisk_11] Pa N6 ⟨n5,f5,trivial⟩ Tryz.func94 (de:=fun x=>N5 x.1) (fun x r h=>(Aee x.1).trans h) fun _=>by kernel_rfl
def It (n:Int):Int:=Am n
def Am6:Sig:=⟨[.rd tI],[none],[.rd tI],[none]⟩
noncomputable def sd_impl_Halves:SD:=⟨Am6,fun x=>some (((It x.1),()),(()))⟩
noncomputable def S0 (a0:Int):Option ((((Int)×Unit)×(Unit))):=
 bif !B1 a0 8 200 then some ((0,()),()) else some ((IntKind.i64.wrap ((IntKind.i64.wrap (a0 - 2)).tdiv 2),()),())
theorem Am7 (a0:Int):S0 a0=some (((It a0),()),(())):=by
 unfold S0 It Am
 show (bif !Ch a0 8 200 then _ else _)=_
 cases h:Ch a0 8 200 with
 | false=>rfl
 | true=>
  obtain ⟨h1,h2⟩:=Cy h
  rw [Ahg h1 h2]
  rfl
theorem Am8:B2 Tryz.prog 96 sd_impl_Halves:=
 A6 (pat:=D3) [] Hu (A7 (l:=[(95,sd_impl_in)]) ⟨Gl,trivial⟩) trivial Tryz.func96 (de:=fun x=>S0 x.1) (fun x r h=>(Am7 x.1).trans h) fun _=>by kernel_rfl
def N7 (k:ByteArray):Bool:=M9 k
def Ai4:Sig:=⟨[.rd .str],[none],[.rd .bool],[none]⟩
noncomputable def sd_impl_goodKey:SD:=⟨Ai4,fun x=>some (((N7 x.1),()),(()))⟩
noncomputable def Yk (a0:ByteArray):Option ((((Bool)×Unit)×(Unit))):=
 some ((B1 (nI a0.size) 1 20,()),())
theorem Ai5 (a0:ByteArray):Yk a0=some ((N7 a0,()),()):=rfl
theorem Yl:B2 Tryz.prog 196 sd_impl_goodKey:=
 A6 (pat:=D3) [] Hu (A7 (l:=[(95,sd_impl_in)]) ⟨Gl,trivial⟩) trivial Tryz.func196 (de:=fun x=>Yk x.1) (fun x r h=>(Ai5 x.1).trans h) fun _=>by kernel_rfl
def Kn (b:List Chg):Bool:=Bb b
def Abp:Sig:=⟨[.rd (.sl D7)],[none],[.rd .bool],[none]⟩
noncomputable def sd_impl_ValidBatch:SD:=⟨Abp,fun x=>some (((Kn x.1),()),(()))⟩
noncomputable def ta_impl_ValidBatch:Tb:=tb [(95,sd_impl_in),(196,sd_impl_goodKey)]
def pa_impl_ValidBatch:Nat→Pat×(Nat→Pat):=Gf [(5,⟨[.sl 9 0 D7],[(9,.lf (.d (.sl D7))),(10,.lf (.d tI)),(11,.lf (.d tI))],[]⟩,[(2,p0),(1,⟨[],[(2,.lf (.d .bool))],[]⟩)])]
noncomputable def co_impl_ValidBatch_5:Code:=(As (Ba Tryz.f118)).getD 0 .skip
def Fy (v9:List Chg) (v10:Int) (v11:Int):Nat:=(v10 - v11).toNat + 1
noncomputable def Fz {R:Type}  (NX:((List Chg)×(Int)×(Int)×Unit)→Option R) (X2:(Unit)→Option R) (X1:((Bool)×Unit)→Option R) (v9:List Chg) (v10:Int) (v11:Int):Option R:=
 bif decide (v11 < v10) then bif decide (0≤v11) then bif decide (v11 < nI v9.length) then bif !N7 (v9.getD v11.toNat (ByteArray.mk #[],ByteArray.mk #[],false,())).1 then X1 (false,()) else bif decide (nI (ByteArray.size (v9.getD v11.toNat (ByteArray.mk #[],ByteArray.mk #[],false,())).2.1) > 100) then X1 (false,()) else bif (v9.getD v11.toNat (ByteArray.mk #[],ByteArray.mk #[],false,())).2.2.1 then bif !ByteArray.toList (v9.getD v11.toNat (ByteArray.mk #[],ByteArray.mk #[],false,())).2.1==(ByteArray.mk #[]).toList then X1 (false,()) else NX (v9,v10,IntKind.i64.wrap (v11 + 1),()) else NX (v9,v10,IntKind.i64.wrap (v11 + 1),()) else none else none else X2 PUnit.unit
noncomputable def Cc:Nat→(List Chg)→(Int)→(Int) →  Option ((Unit) ⊕ ((Bool)×Unit))
 | 0,_,_,_=>none
 | m + 1,v9,v10,v11=>Fz  (fun d=>Cc m d.1 d.2.1 d.2.2.1) (fun d=>some (.inl (d))) (fun d=>some (.inr (d))) v9 v10 v11
noncomputable def Mz (a0:List Chg):Option ((((Bool)×Unit)×(Unit))):=
 bif !B1 (nI a0.length) 1 20 then some ((false,()),()) else ((fun d=>Cc (Fy d.1 d.2.1 d.2.2.1) d.1 d.2.1 d.2.2.1) (a0,nI a0.length,0,())).bind fun val=>Cj (fun d=>some ((true,()),())) (fun d=>some (d,())) val
theorem Abq (a0:List Chg):Mz a0=some (((Kn a0),()),(())):=by
 unfold Mz Kn Bb
 have tl:ByteArray.toList (ByteArray.mk #[])=[]:=by decide +kernel
 show (bif !Ch (a0.length:Int) 1 20 then _ else _)=_
 cases hin:Ch (a0.length:Int) 1 20 with
 | false=>rfl
 | true=>
  have hlen:a0.length≤20:=by have:=(Cy hin).2; omega
  have hL:=I3 (n:=a0.length) (fun i=>Nl (a0.getD i zC)) (g:=fun m i=>Cc m a0 (nI a0.length) i) (ok:=.inl ()) (bad:=.inr (false,())) (fun m i hi=>by
   show Cc (m + 1) a0 (nI a0.length) i=_
   simp only [Cc,Fz]
   rw [tl,W1 hi,H2,wI (show i < 4611686018427387904 by omega),Int.toNat_natCast]
   have g1:decide (nI (ByteArray.size (List.getD a0 i (ByteArray.mk #[],ByteArray.mk #[],false,())).2.1) > 100)=!decide ((a0.getD i zC).2.1.size≤100):=Zf _ 100
   rw [g1]
   show (bif !M9 (a0.getD i zC).1 then _ else (bif _ then _ else (bif (a0.getD i zC).2.2.1 then (bif !((a0.getD i zC).2.1.toList==[]) then _ else _) else _)))=_
   unfold Nl
   cases M9 (a0.getD i zC).1<;>cases decide ((a0.getD i zC).2.1.size≤100)<;>cases (a0.getD i zC).2.2.1<;>cases ((a0.getD i zC).2.1.toList==[])<;>rfl) (fun m=>by
   show Cc (m + 1) a0 (nI a0.length) (a0.length:Int)=_
   simp only [Cc,Fz]
   rw [Mm]
   rfl) (Fy a0 (nI a0.length) 0) 0 (by omega) (by simp [Fy,nI])
  refine l8 hL ?_
  rw [Nat.sub_zero]
  cases (List.range' 0 a0.length).all (fun i=>Nl (a0.getD i zC))<;>rfl
noncomputable def Pw {R:Type} (k:Kt R):=(Cj (I1 (pa_impl_ValidBatch 5) (.exit 0) 2 k) (I1 (pa_impl_ValidBatch 5) .ret 1 k))
noncomputable def Uf {R:Type}:Lt R pa_impl_ValidBatch:=(Ed (pat:=pa_impl_ValidBatch) 5 (fun d k=>(Cc (Fy d.1 d.2.1 d.2.2.1) d.1 d.2.1 d.2.2.1).bind (Pw k)) Hu)
theorem S1:A2 Tryz.prog ta_impl_ValidBatch:=A7 ⟨Gl,Yl,trivial⟩
theorem f6 {R:Type}:A3 Tryz.prog R 35 0 pa_impl_ValidBatch Uf co_impl_ValidBatch_5:=
 B3 (cfg:=⟨ta_impl_ValidBatch,0,35,pa_impl_ValidBatch⟩) 5 [] (fun NX X d=>Fz  NX (fun e=>X (.inl (e))) (fun e=>X (.inr (e))) d.1 d.2.1 d.2.2.1) (fun m d=>Cc m d.1 d.2.1 d.2.2.1) (fun d=>Fy d.1 d.2.1 d.2.2.1) Pw S1 trivial (fun f NX d=>by unfold Fz; simp only [Al,Ar,Ak,Option.bind_assoc,Option.bind_none,Option.bind_some]) (fun _ _ _=>by kernel_rfl)
theorem Abr:B2 Tryz.prog 118 sd_impl_ValidBatch:=
 A6 (pat:=pa_impl_ValidBatch) [co_impl_ValidBatch_5] Uf S1 ⟨f6,trivial⟩ Tryz.func118 (de:=fun x=>Mz x.1) (fun x r h=>(Abq x.1).trans h) fun _=>by kernel_rfl
def Jl (b:List Chg):ByteArray:=Ee b
def Aeg:Sig:=⟨[.rd (.sl D7)],[none],[.rd .str],[none]⟩
noncomputable def sd_impl_FormBatch:SD:=⟨Aeg,fun x=>some (((Jl x.1),()),(()))⟩
noncomputable def N8:Tb:=⟨tbF [(118,sd_impl_ValidBatch),(182,sd_impl_be)],fun f=>if f=197 then some Tryz.f197 else none,some (227,209),some (198,209,5),none⟩
def pa_impl_FormBatch:Nat→Pat×(Nat→Pat):=Gf [(6,⟨[.sl 9 0 D7,.self 3 0,.boxRow 3 1 5 (.int .u8)],[(3,.lf (.ptr 0 0)),(9,.lf (.d (.sl D7))),(10,.lf (.d tI)),(11,.lf (.d tI))],[.box 209 [.sp 0,.row 1],.row 5 (.int .u8)]⟩,[(2,⟨[.self 3 0,.boxRow 3 1 5 (.int .u8)],[(3,.lf (.ptr 0 0))],[.box 209 [.sp 0,.row 1],.row 5 (.int .u8)]⟩)])]
noncomputable def co_impl_FormBatch_6:Code:=(As (Ba Tryz.f120)).getD 0 .skip
def Gt (v9:List Chg) (v10:Int) (v11:Int) (r1:List Int):Nat:=(v10 - v11).toNat + 1
noncomputable def Gu {R:Type}  (NX:((List Chg)×(Int)×(Int)×(List Int)×Unit)→Option R) (X2:((List Int)×Unit)→Option R) (v9:List Chg) (v10:Int) (v11:Int) (r1:List Int):Option R:=
 bif decide (v11 < v10) then bif decide (0≤v11) then bif decide (v11 < nI v9.length) then bif (v9.getD v11.toNat (ByteArray.mk #[],ByteArray.mk #[],false,())).2.2.1 then bif decide ((ByteArray.mk #[1]++C9 (nI (ByteArray.size (v9.getD v11.toNat (ByteArray.mk #[],ByteArray.mk #[],false,())).1)) (Int.toNat 1)).size + ByteArray.size (v9.getD v11.toNat (ByteArray.mk #[],ByteArray.mk #[],false,())).1≤9223372036854775807) then bif decide (r1.length + (ByteArray.mk #[1]++C9 (nI (ByteArray.size (v9.getD v11.toNat (ByteArray.mk #[],ByteArray.mk #[],false,())).1)) (Int.toNat 1)++(v9.getD v11.toNat (ByteArray.mk #[],ByteArray.mk #[],false,())).1).size≤140737488355328) then NX (v9,v10,IntKind.i64.wrap (v11 + 1),r1++Ab (ByteArray.mk #[1]++C9 (nI (ByteArray.size (v9.getD v11.toNat (ByteArray.mk #[],ByteArray.mk #[],false,())).1)) (Int.toNat 1)++(v9.getD v11.toNat (ByteArray.mk #[],ByteArray.mk #[],false,())).1),()) else none else none else bif decide ((ByteArray.mk #[0]++C9 (nI (ByteArray.size (v9.getD v11.toNat (ByteArray.mk #[],ByteArray.mk #[],false,())).1)) (Int.toNat 1)).size + ByteArray.size (v9.getD v11.toNat (ByteArray.mk #[],ByteArray.mk #[],false,())).1≤9223372036854775807) then bif decide ((ByteArray.mk #[0]++C9 (nI (ByteArray.size (v9.getD v11.toNat (ByteArray.mk #[],ByteArray.mk #[],false,())).1)) (Int.toNat 1)++(v9.getD v11.toNat (ByteArray.mk #[],ByteArray.mk #[],false,())).1).size + (C9 (nI (ByteArray.size (v9.getD v11.toNat (ByteArray.mk #[],ByteArray.mk #[],false,())).2.1)) (Int.toNat 1)).size≤9223372036854775807) then bif decide ((ByteArray.mk #[0]++C9 (nI (ByteArray.size (v9.getD v11.toNat (ByteArray.mk #[],ByteArray.mk #[],false,())).1)) (Int.toNat 1)++(v9.getD v11.toNat (ByteArray.mk #[],ByteArray.mk #[],false,())).1++C9 (nI (ByteArray.size (v9.getD v11.toNat (ByteArray.mk #[],ByteArray.mk #[],false,())).2.1)) (Int.toNat 1)).size + ByteArray.size (v9.getD v11.toNat (ByteArray.mk #[],ByteArray.mk #[],false,())).2.1≤9223372036854775807) then bif decide (r1.length + (ByteArray.mk #[0]++C9 (nI (ByteArray.size (v9.getD v11.toNat (ByteArray.mk #[],ByteArray.mk #[],false,())).1)) (Int.toNat 1)++(v9.getD v11.toNat (ByteArray.mk #[],ByteArray.mk #[],false,())).1++C9 (nI (ByteArray.size (v9.getD v11.toNat (ByteArray.mk #[],ByteArray.mk #[],false,())).2.1)) (Int.toNat 1)++(v9.getD v11.toNat (ByteArray.mk #[],ByteArray.mk #[],false,())).2.1).size≤140737488355328) then NX (v9,v10,IntKind.i64.wrap (v11 + 1),r1++Ab (ByteArray.mk #[0]++C9 (nI (ByteArray.size (v9.getD v11.toNat (ByteArray.mk #[],ByteArray.mk #[],false,())).1)) (Int.toNat 1)++(v9.getD v11.toNat (ByteArray.mk #[],ByteArray.mk #[],false,())).1++C9 (nI (ByteArray.size (v9.getD v11.toNat (ByteArray.mk #[],ByteArray.mk #[],false,())).2.1)) (Int.toNat 1)++(v9.getD v11.toNat (ByteArray.mk #[],ByteArray.mk #[],false,())).2.1),()) else none else none else none else none else none else none else X2 (r1,())
noncomputable def Bo:Nat→(List Chg)→(Int)→(Int)→(List Int) →  Option ((List Int)×Unit)
 | 0,_,_,_,_=>none
 | m + 1,v9,v10,v11,r1=>Gu  (fun d=>Bo m d.1 d.2.1 d.2.2.1 d.2.2.2.1) (fun d=>some (d)) v9 v10 v11 r1
noncomputable def N9 (a0:List Chg):Option ((((ByteArray)×Unit)×(Unit))):=
 bif !Kn a0 then some ((ByteArray.mk #[],()),()) else ((fun d=>Bo (Gt d.1 d.2.1 d.2.2.1 d.2.2.2.1) d.1 d.2.1 d.2.2.1 d.2.2.2.1) (a0,nI a0.length,0,[],())).bind fun val=>bif Ep val.1 then some ((strOfNums val.1,()),()) else none
theorem Aeh (a0:List Chg):N9 a0=some ((Jl a0,()),(())):=by
 unfold N9 Jl Ee
 show (bif !Bb a0 then _ else _)=_
 cases hv:Bb a0 with
 | false=>rfl
 | true=>
  obtain ⟨hlen,hok⟩:=Ph hv
  have hL:=j8 a0.length Alg (fun i r=>r++Qy (a0.getD i zC)) (g:=fun m i r=>Bo m a0 (nI a0.length) i r) (ok:=fun r=>(r,())) (fun m i r hi hr=>by
   show Bo (m + 1) a0 (nI a0.length) i r=_
   simp only [Bo,Gu]
   have hc:=hok i hi
   obtain ⟨k1,k2,k3⟩:=j9 hc
   rw [W1 hi,H2,wI (show i < 4611686018427387904 by omega),Int.toNat_natCast]
   show (bif (a0.getD i zC).2.2.1 then (bif decide (ByteArray.size (ByteArray.mk #[1]++C9 (nI (ByteArray.size (a0.getD i zC).1)) 1) + ByteArray.size (a0.getD i zC).1≤9223372036854775807) then (bif decide (List.length r + ByteArray.size (ByteArray.mk #[1]++C9 (nI (ByteArray.size (a0.getD i zC).1)) 1++(a0.getD i zC).1)≤140737488355328) then Bo m a0 (nI a0.length) ((i + 1:Nat):Int) (r++Ab (ByteArray.mk #[1]++C9 (nI (ByteArray.size (a0.getD i zC).1)) 1++(a0.getD i zC).1)) else none) else none) else (bif decide (ByteArray.size (ByteArray.mk #[0]++C9 (nI (ByteArray.size (a0.getD i zC).1)) 1) + ByteArray.size (a0.getD i zC).1≤9223372036854775807) then (bif decide (ByteArray.size (ByteArray.mk #[0]++C9 (nI (ByteArray.size (a0.getD i zC).1)) 1++(a0.getD i zC).1) + ByteArray.size (C9 (nI (ByteArray.size (a0.getD i zC).2.1)) 1)≤9223372036854775807) then (bif decide (ByteArray.size (ByteArray.mk #[0]++C9 (nI (ByteArray.size (a0.getD i zC).1)) 1++(a0.getD i zC).1++C9 (nI (ByteArray.size (a0.getD i zC).2.1)) 1) + ByteArray.size (a0.getD i zC).2.1≤9223372036854775807) then (bif decide (List.length r + ByteArray.size (ByteArray.mk #[0]++C9 (nI (ByteArray.size (a0.getD i zC).1)) 1++(a0.getD i zC).1++C9 (nI (ByteArray.size (a0.getD i zC).2.1)) 1++(a0.getD i zC).2.1)≤140737488355328) then Bo m a0 (nI a0.length) ((i + 1:Nat):Int) (r++Ab (ByteArray.mk #[0]++C9 (nI (ByteArray.size (a0.getD i zC).1)) 1++(a0.getD i zC).1++C9 (nI (ByteArray.size (a0.getD i zC).2.1)) 1++(a0.getD i zC).2.1)) else none) else none) else none) else none))=Bo m a0 (nI a0.length) ((i + 1:Nat):Int) (r++Qy (a0.getD i zC))
   have hr1:=hr.1
   generalize a0.getD i zC=c at *
   have o1:Ab (ByteArray.mk #[1])=[1]:=rfl
   have o0:Ab (ByteArray.mk #[0])=[0]:=rfl
   have s1:ByteArray.size (ByteArray.mk #[1])=1:=rfl
   have s0:ByteArray.size (ByteArray.mk #[0])=1:=rfl
   simp only [Kd,Atx _ (show c.1.size < 256 by omega),Atx _ (show c.2.1.size < 256 by omega),o1,o0,ByteArray.size_append,I4,s1,s0]
   rw [decide_eq_true (show 1 + 1 + c.1.size≤9223372036854775807 by omega),decide_eq_true (show r.length + (1 + 1 + c.1.size)≤140737488355328 by omega),decide_eq_true (show 1 + 1 + c.1.size + 1≤9223372036854775807 by omega),decide_eq_true (show 1 + 1 + c.1.size + 1 + c.2.1.size≤9223372036854775807 by omega),decide_eq_true (show r.length + (1 + 1 + c.1.size + 1 + c.2.1.size)≤140737488355328 by omega)]
   unfold Qy
   cases c.2.2.1<;>rfl) (fun m r _=>by
   show Bo (m + 1) a0 (nI a0.length) (a0.length:Int) r=_
   simp only [Bo,Gu]
   rw [Mm]
   rfl) (fun i r hi hr=>hr.step (hok i hi)) a0.length (Gt a0 (nI a0.length) 0 []) 0 [] (by omega) (by simp [Gt,nI]) ⟨by simp,rfl⟩
  have hB:=Aty hok a0.length 0 [] (by omega) ⟨by simp,rfl⟩
  rw [Alf Qy zC a0 a0.length 0 [] (by omega),List.nil_append,List.drop_zero] at hL hB
  refine l8 hL ?_
  show (bif Ep (Gg a0) then some ((strOfNums (Gg a0),()),()) else none)=_
  have:Ep (Gg a0)=true:=hB.2
  rw [this]
  rfl
noncomputable def Qu {R:Type} (k:Kt R):=(I1 (pa_impl_FormBatch 6) (.exit 0) 2 k)
noncomputable def V9 {R:Type}:Lt R pa_impl_FormBatch:=(Ed (pat:=pa_impl_FormBatch) 6 (fun d k=>(Bo (Gt d.1 d.2.1 d.2.2.1 d.2.2.2.1) d.1 d.2.1 d.2.2.1 d.2.2.2.1).bind (Qu k)) Hu)
theorem Ug:A2 Tryz.prog N8 where
 sd:=Av3 (l:=[(118,sd_impl_ValidBatch),(182,sd_impl_be)]) ⟨Abr,Abo,trivial⟩
 inl:=fun f fn h=>by
  simp only [N8] at h
  split at h
  ·rename_i e; subst e; cases h; exact ⟨Tryz.func197,by kernel_rfl,by kernel_rfl⟩
  cases h
 cc:=fun f BT h=>by cases h; exact ⟨⟨_,Tryz.func227,by kernel_rfl,by kernel_rfl⟩,A3f⟩
 st:=fun f BT e h=>by cases h; exact ⟨⟨_,Tryz.func198,by kernel_rfl,by kernel_rfl⟩,A3g⟩
 srt:=fun fs fc BT U e h=>by cases h
theorem n6 {R:Type}:A3 Tryz.prog R 45 0 pa_impl_FormBatch V9 co_impl_FormBatch_6:=
 B3 (cfg:=⟨N8,0,45,pa_impl_FormBatch⟩) 6 [] (fun NX X d=>Gu  NX X d.1 d.2.1 d.2.2.1 d.2.2.2.1) (fun m d=>Bo m d.1 d.2.1 d.2.2.1 d.2.2.2.1) (fun d=>Gt d.1 d.2.1 d.2.2.1 d.2.2.2.1) Qu Ug trivial (fun f NX d=>by unfold Gu; simp only [Al,Ar,Ak,Option.bind_assoc,Option.bind_none,Option.bind_some]) (fun _ _ _=>by kernel_rfl)
theorem Aei:B2 Tryz.prog 120 sd_impl_FormBatch:=
 A6 (pat:=pa_impl_FormBatch) [co_impl_FormBatch_6] V9 Ug ⟨n6,trivial⟩ Tryz.func120 (de:=fun x=>N9 x.1) (fun x r h=>(Aeh x.1).trans h) fun _=>by kernel_rfl
def E2 (s:Stt):Bool:=Aj s
def Abs:Sig:=⟨[.rd Ci],[some 1],[.rd .bool],[none]⟩
noncomputable def sd_impl_ValidState:SD:=⟨Abs,fun x=>some (((E2 x.1),()),(()))⟩
noncomputable def ta_impl_ValidState:Tb:=tb [(196,sd_impl_goodKey)]
def pa_impl_ValidState:Nat→Pat×(Nat→Pat):=Gf [(5,⟨[.sl 10 0 Av,.boxSl 1 0 Av],[(1,.lf (.ptr 0 0)),(10,.lf (.d (.sl Av))),(11,.lf (.d tI)),(12,.lf (.d tI))],[.box 31 [.d (.sl Av)]]⟩,[(2,p0),(1,⟨[],[(2,.lf (.d .bool))],[]⟩)])]
noncomputable def co_impl_ValidState_5:Code:=(As (Ba Tryz.f150)).getD 0 .skip
def Dm (v10:List Pr2) (v11:Int) (v12:Int) (b0_0:List Pr2):Nat:=(v11 - v12).toNat + 1
noncomputable def F0 {R:Type}  (NX:((List Pr2)×(Int)×(Int)×(List Pr2)×Unit)→Option R) (X2:(Unit)→Option R) (X1:((Bool)×Unit)→Option R) (v10:List Pr2) (v11:Int) (v12:Int) (b0_0:List Pr2):Option R:=
 bif decide (v12 < v11) then bif decide (0≤v12) then bif decide (v12 < nI v10.length) then bif !N7 (v10.getD v12.toNat (ByteArray.mk #[],ByteArray.mk #[],())).1 then X1 (false,()) else bif decide (nI (ByteArray.size (v10.getD v12.toNat (ByteArray.mk #[],ByteArray.mk #[],())).2.1) > 100) then X1 (false,()) else bif decide (v12 > 0) then bif decide (0≤IntKind.i64.wrap (v12 - 1)) then bif decide (IntKind.i64.wrap (v12 - 1) < nI b0_0.length) then bif !Op.bytesLess (ByteArray.toList (b0_0.getD (IntKind.i64.wrap (v12 - 1)).toNat (ByteArray.mk #[],ByteArray.mk #[],())).1) (ByteArray.toList (v10.getD v12.toNat (ByteArray.mk #[],ByteArray.mk #[],())).1) then X1 (false,()) else NX (v10,v11,IntKind.i64.wrap (v12 + 1),b0_0,()) else none else none else NX (v10,v11,IntKind.i64.wrap (v12 + 1),b0_0,()) else none else none else X2 PUnit.unit
noncomputable def Bu:Nat→(List Pr2)→(Int)→(Int)→(List Pr2) →  Option ((Unit) ⊕ ((Bool)×Unit))
 | 0,_,_,_,_=>none
 | m + 1,v10,v11,v12,b0_0=>F0  (fun d=>Bu m d.1 d.2.1 d.2.2.1 d.2.2.2.1) (fun d=>some (.inl (d))) (fun d=>some (.inr (d))) v10 v11 v12 b0_0
noncomputable def M0 (a0:Stt):Option ((((Bool)×Unit)×(Unit))):=
 bif decide (nI (List.length a0.1) > 100) then some ((false,()),()) else ((fun d=>Bu (Dm d.1 d.2.1 d.2.2.1 d.2.2.2.1) d.1 d.2.1 d.2.2.1 d.2.2.2.1) (a0.1,nI (List.length a0.1),0,a0)).bind fun val=>Cj (fun d=>some ((true,()),())) (fun d=>some (d,())) val
theorem Abt (a0:Stt):M0 a0=some ((E2 a0,()),()):=by
 unfold M0 E2 Aj
 have c1:decide (nI a0.1.length > 100)=!decide (a0.1.length≤100):=Zf _ 100
 by_cases hl:a0.1.length≤100
 ·have hL:=I3 (n:=a0.1.length) (J7 a0.1) (g:=fun m i=>Bu m a0.1 (nI a0.1.length) i a0.1) (ok:=.inl ()) (bad:=.inr (false,())) (fun m i hi=>by
   show Bu (m + 1) a0.1 (nI a0.1.length) i a0.1=_
   simp only [Bu,F0]
   have g1:decide (nI (ByteArray.size (List.getD a0.1 i (ByteArray.mk #[],ByteArray.mk #[],())).2.1) > 100)=!decide (ByteArray.size (List.getD a0.1 i zP).2.1≤100):=Zf _ 100
   rw [W1 hi,H2,wI (show i < 4611686018427387904 by omega),Int.toNat_natCast,gt0,g1]
   simp only [cond_true]
   unfold J7 bl
   show (bif !M9 (List.getD a0.1 i zP).1 then _ else _)=_
   cases i with
   | zero=>
    show (bif !M9 (List.getD a0.1 0 zP).1 then _ else bif !decide (ByteArray.size (List.getD a0.1 0 zP).2.1≤100) then _ else _)=_
    cases M9 (List.getD a0.1 0 zP).1<;>cases decide (ByteArray.size (List.getD a0.1 0 zP).2.1≤100)<;>rfl
   | succ j=>
    rw [wP j (by omega),H2,W1 (show j < a0.1.length by omega)]
    show (bif !M9 (List.getD a0.1 (j + 1) zP).1 then _ else bif !decide (ByteArray.size (List.getD a0.1 (j + 1) zP).2.1≤100) then _ else bif !Op.bytesLess (ByteArray.toList (List.getD a0.1 j zP).1) (ByteArray.toList (List.getD a0.1 (j + 1) zP).1) then _ else _)=_
    rw [Nat.add_sub_cancel]
    cases M9 (List.getD a0.1 (j + 1) zP).1<;>cases decide (ByteArray.size (List.getD a0.1 (j + 1) zP).2.1≤100)<;>cases Op.bytesLess (ByteArray.toList (List.getD a0.1 j zP).1) (ByteArray.toList (List.getD a0.1 (j + 1) zP).1)<;>rfl) (fun m=>by
   show Bu (m + 1) a0.1 (nI a0.1.length) (a0.1.length:Int) a0.1=_
   simp only [Bu,F0]
   rw [Mm]
   rfl) (Dm a0.1 (nI a0.1.length) 0 a0.1) 0 (by omega) (by simp [Dm,nI])
  have hL':Bu (Dm a0.1 (nI a0.1.length) 0 a0.1) a0.1 (nI a0.1.length) 0 a0.1=_:=hL
  rw [c1,decide_eq_true hl]
  show (Bu (Dm a0.1 (nI a0.1.length) 0 a0.1) a0.1 (nI a0.1.length) 0 a0.1).bind _=_
  rw [hL']
  cases (List.range' 0 (a0.1.length - 0)).all (J7 a0.1)<;>rfl
 ·rw [c1,decide_eq_false hl]
  rfl
noncomputable def Px {R:Type} (k:Kt R):=(Cj (I1 (pa_impl_ValidState 5) (.exit 0) 2 k) (I1 (pa_impl_ValidState 5) .ret 1 k))
noncomputable def Uh {R:Type}:Lt R pa_impl_ValidState:=(Ed (pat:=pa_impl_ValidState) 5 (fun d k=>(Bu (Dm d.1 d.2.1 d.2.2.1 d.2.2.2.1) d.1 d.2.1 d.2.2.1 d.2.2.2.1).bind (Px k)) Hu)
theorem S2:A2 Tryz.prog ta_impl_ValidState:=A7 ⟨Yl,trivial⟩
theorem f7 {R:Type}:A3 Tryz.prog R 44 0 pa_impl_ValidState Uh co_impl_ValidState_5:=
 B3 (cfg:=⟨ta_impl_ValidState,0,44,pa_impl_ValidState⟩) 5 [] (fun NX X d=>F0  NX (fun e=>X (.inl (e))) (fun e=>X (.inr (e))) d.1 d.2.1 d.2.2.1 d.2.2.2.1) (fun m d=>Bu m d.1 d.2.1 d.2.2.1 d.2.2.2.1) (fun d=>Dm d.1 d.2.1 d.2.2.1 d.2.2.2.1) Px S2 trivial (fun f NX d=>by unfold F0; simp only [Al,Ar,Ak,Option.bind_assoc,Option.bind_none,Option.bind_some]) (fun _ _ _=>by kernel_rfl)
theorem M1:B2 Tryz.prog 150 sd_impl_ValidState:=
 A6 (pat:=pa_impl_ValidState) [co_impl_ValidState_5] Uh S2 ⟨f7,trivial⟩ Tryz.func150 (de:=fun x=>M0 x.1) (fun x r h=>(Abt x.1).trans h) fun _=>by kernel_rfl
def Kc (s:Stt):List (List Chg):=Dd s
def Agr:Sig:=⟨[.rd Ci],[some 1],[.rd (.sl (.sl D7))],[none]⟩
noncomputable def sd_impl_Snapshot:SD:=⟨Agr,fun x=>some (((Kc x.1),()),(()))⟩
noncomputable def ta_impl_Snapshot:Tb:=tb [(150,sd_impl_ValidState)]
def pa_impl_Snapshot:Nat→Pat×(Nat→Pat):=Gf [(6,⟨[.last 3 99 D7,.sl 10 0 Av],[(3,.lf (.row 0)),(10,.lf (.d (.sl Av))),(11,.lf (.d tI)),(12,.lf (.d tI))],[.last 73 D7 1,.row 99 D7]⟩,[(2,⟨[.last 3 99 D7],[(3,.lf (.row 0))],[.last 73 D7 1,.row 99 D7]⟩)])]
noncomputable def co_impl_Snapshot_6:Code:=(As (Ba Tryz.f179)).getD 0 .skip
def Eo (v10:List Pr2) (v11:Int) (v12:Int) (r0:List (List Chg)) (c0:Bool) (r1:List Chg):Nat:=(v11 - v12).toNat + 1
noncomputable def Hr {R:Type}  (NX:((List Pr2)×(Int)×(Int)×(List (List Chg))×(Bool)×(List Chg)×Unit)→Option R) (X2:((List (List Chg))×(Bool)×(List Chg)×Unit)→Option R) (v10:List Pr2) (v11:Int) (v12:Int) (r0:List (List Chg)) (c0:Bool) (r1:List Chg):Option R:=
 bif decide (v12 < v11) then bif decide (0≤v12) then bif decide (v12 < nI v10.length) then bif v12.tmod 20==0 then bif decide ((r0.length + c0.toNat + 1) * 24≤140737488355328) then bif decide (0≤IntKind.i64.wrap (nI ((bif c0 then r0++[r1] else r0).length + true.toNat) - 1)) then bif decide (IntKind.i64.wrap (nI ((bif c0 then r0++[r1] else r0).length + true.toNat) - 1) < nI ((bif c0 then r0++[r1] else r0).length + true.toNat)) then bif decide ((IntKind.i64.wrap (nI ((bif c0 then r0++[r1] else r0).length + true.toNat) - 1)).toNat=(bif c0 then r0++[r1] else r0).length) then bif decide (0≤IntKind.i64.wrap (nI ((bif c0 then r0++[r1] else r0).length + true.toNat) - 1)) then bif decide (IntKind.i64.wrap (nI ((bif c0 then r0++[r1] else r0).length + true.toNat) - 1) < nI ((bif c0 then r0++[r1] else r0).length + true.toNat)) then bif decide ((IntKind.i64.wrap (nI ((bif c0 then r0++[r1] else r0).length + true.toNat) - 1)).toNat=(bif c0 then r0++[r1] else r0).length) then NX (v10,v11,IntKind.i64.wrap (v12 + 1),bif c0 then r0++[r1] else r0,true,[]++[((v10.getD v12.toNat (ByteArray.mk #[],ByteArray.mk #[],())).1,(v10.getD v12.toNat (ByteArray.mk #[],ByteArray.mk #[],())).2.1,false,())],()) else none else none else none else none else none else none else none else bif decide (0≤IntKind.i64.wrap (nI (r0.length + c0.toNat) - 1)) then bif decide (IntKind.i64.wrap (nI (r0.length + c0.toNat) - 1) < nI (r0.length + c0.toNat)) then bif c0 then bif decide ((IntKind.i64.wrap (nI (r0.length + c0.toNat) - 1)).toNat=r0.length) then bif decide ((r1.length + [((v10.getD v12.toNat (ByteArray.mk #[],ByteArray.mk #[],())).1,(v10.getD v12.toNat (ByteArray.mk #[],ByteArray.mk #[],())).2.1,false,())].length) * 40≤140737488355328) then bif decide (0≤IntKind.i64.wrap (nI (r0.length + c0.toNat) - 1)) then bif decide (IntKind.i64.wrap (nI (r0.length + c0.toNat) - 1) < nI (r0.length + c0.toNat)) then bif c0 then bif decide ((IntKind.i64.wrap (nI (r0.length + c0.toNat) - 1)).toNat=r0.length) then NX (v10,v11,IntKind.i64.wrap (v12 + 1),r0,c0,r1++[((v10.getD v12.toNat (ByteArray.mk #[],ByteArray.mk #[],())).1,(v10.getD v12.toNat (ByteArray.mk #[],ByteArray.mk #[],())).2.1,false,())],()) else none else none else none else none else none else none else none else none else none else none else none else X2 (r0,c0,r1,())
noncomputable def B6:Nat→(List Pr2)→(Int)→(Int)→(List (List Chg))→(Bool)→(List Chg) →  Option ((List (List Chg))×(Bool)×(List Chg)×Unit)
 | 0,_,_,_,_,_,_=>none
 | m + 1,v10,v11,v12,r0,c0,r1=>Hr  (fun d=>B6 m d.1 d.2.1 d.2.2.1 d.2.2.2.1 d.2.2.2.2.1 d.2.2.2.2.2.1) (fun d=>some (d)) v10 v11 v12 r0 c0 r1
noncomputable def Pb (a0:Stt):Option ((((List (List Chg))×Unit)×(Unit))):=
 bif !E2 a0 then some (([],()),()) else ((fun d=>B6 (Eo d.1 d.2.1 d.2.2.1 d.2.2.2.1 d.2.2.2.2.1 d.2.2.2.2.2.1) d.1 d.2.1 d.2.2.1 d.2.2.2.1 d.2.2.2.2.1 d.2.2.2.2.2.1) (a0.1,nI (List.length a0.1),0,[],false,[],())).bind fun val=>some ((bif val.2.1 then val.1++[val.2.2.1] else val.1,()),())
theorem Ags (a0:Stt):Pb a0=some (((Kc a0),()),(())):=by
 unfold Pb Kc Dd
 show (bif !Aj a0 then _ else _)=_
 cases hv:Aj a0 with
 | false=>rfl
 | true=>
  have hl:=De hv
  have hL:=Gi (xs:=a0.1) zP Ap1 Pp (g:=fun m i s=>B6 m a0.1 (nI a0.1.length) i s.1 s.2.1 s.2.2) (ok:=fun s=>(s.1,s.2.1,s.2.2,())) (fun m i s hi hI=>by
   show B6 (m + 1) a0.1 (nI a0.1.length) i s.1 s.2.1 s.2.2=_
   obtain ⟨r0,c0,r1⟩:=s
   obtain ⟨h1,h2,h3,h4⟩:=hI
   simp only at h2 h3 h4 ⊢
   simp only [B6,Hr]
   rw [W1 hi,H2,wI (show i < 4611686018427387904 by omega),Int.toNat_natCast,A1q]
   unfold Pp
   cases hc:(i % 20==0)
   ·have hp:0 < i:=Nat.pos_of_ne_zero fun q=>by subst q; cases hc
    have hc0:=h3 hp
    subst hc0
    have e1:=Ali r0.length (by omega)
    have e2:decide ((r0.length:Int) < nI (r0.length + 1))=true:=W1 (Nat.lt_succ_self _)
    have e3:decide ((r1.length + 1) * 40≤140737488355328)=true:=decide_eq_true (by omega)
    simp only [Bool.toNat_true,List.length_singleton,cond_true,cond_false,e1,e2,e3,H2,Int.toNat_natCast,decide_true]
    rfl
   ·have hL:List.length (bif c0 then r0++[r1] else r0)≤i + 1:=by cases c0<;>simp<;>omega
    have e1:=Ali (List.length (bif c0 then r0++[r1] else r0)) (by omega)
    have e2:decide (((List.length (bif c0 then r0++[r1] else r0):Nat):Int) < nI (List.length (bif c0 then r0++[r1] else r0) + 1))=true:=W1 (Nat.lt_succ_self _)
    have e3:decide ((r0.length + Bool.toNat c0 + 1) * 24≤140737488355328)=true:=decide_eq_true (by cases c0<;>simp<;>omega)
    simp only [Bool.toNat_true,cond_true,e1,e2,e3,H2,Int.toNat_natCast,decide_true]
    rfl) (fun i s hi hI=>hI.step (by omega) _) (fun m s hI=>by
   show B6 (m + 1) a0.1 (nI a0.1.length) (a0.1.length:Int) s.1 s.2.1 s.2.2=_
   simp only [B6,Hr]
   rw [Mm]
   rfl) (Eo a0.1 (nI a0.1.length) 0 [] false []) 0 ([],false,[]) (by omega) (by simp [Eo,nI]) ⟨by omega,by simp,fun q=>by omega,by simp⟩
  have hL':B6 (Eo a0.1 (nI a0.1.length) 0 [] false []) a0.1 (nI a0.1.length) 0 [] false []=_:=hL
  show (B6 (Eo a0.1 (nI a0.1.length) 0 [] false []) a0.1 (nI a0.1.length) 0 [] false []).bind _=_
  rw [hL']
  rfl
noncomputable def S3 {R:Type} (k:Kt R):=(I1 (pa_impl_Snapshot 6) (.exit 0) 2 k)
noncomputable def Ym {R:Type}:Lt R pa_impl_Snapshot:=(Ed (pat:=pa_impl_Snapshot) 6 (fun d k=>(B6 (Eo d.1 d.2.1 d.2.2.1 d.2.2.2.1 d.2.2.2.2.1 d.2.2.2.2.2.1) d.1 d.2.1 d.2.2.1 d.2.2.2.1 d.2.2.2.2.1 d.2.2.2.2.2.1).bind (S3 k)) Hu)
theorem Wa:A2 Tryz.prog ta_impl_Snapshot:=A7 ⟨M1,trivial⟩
theorem Abu {R:Type}:A3 Tryz.prog R 43 0 pa_impl_Snapshot Ym co_impl_Snapshot_6:=
 B3 (cfg:=⟨ta_impl_Snapshot,0,43,pa_impl_Snapshot⟩) 6 [] (fun NX X (d:(List Pr2)×(Int)×(Int)×(List (List Chg))×(Bool)×(List Chg)×Unit)=>Hr  NX X d.1 d.2.1 d.2.2.1 d.2.2.2.1 d.2.2.2.2.1 d.2.2.2.2.2.1) (fun m d=>B6 m d.1 d.2.1 d.2.2.1 d.2.2.2.1 d.2.2.2.2.1 d.2.2.2.2.2.1) (fun d=>Eo d.1 d.2.1 d.2.2.1 d.2.2.2.1 d.2.2.2.2.1 d.2.2.2.2.2.1) S3 Wa trivial (fun f NX (d:(List Pr2)×(Int)×(Int)×(List (List Chg))×(Bool)×(List Chg)×Unit)=>by unfold Hr; simp only [Al,Ar,Ak,Option.bind_assoc,Option.bind_none,Option.bind_some]) (fun _ _ _=>by kernel_rfl)
theorem Agt:B2 Tryz.prog 179 sd_impl_Snapshot:=
 A6 (pat:=pa_impl_Snapshot) [co_impl_Snapshot_6] Ym Wa ⟨Abu,trivial⟩ Tryz.func179 (de:=fun x=>Pb x.1) (fun x r h=>(Ags x.1).trans h) fun _=>by kernel_rfl
def Oa (s:ByteArray) (w:Int):Option Int:=if s.size≤1099511627776 then some (Gw s.size w) else none
def Aon:Sig:=⟨[.rd .str,.rd tI],[none,none],[.rd tI],[none]⟩
noncomputable def sd_impl_Pages:SD:=⟨Aon,fun x=>(Oa x.1 x.2.1).bind fun r=>some ((r,()),(()))⟩
noncomputable def Ux (a0:ByteArray) (a1:Int):Option ((((Int)×Unit)×(Unit))):=
 bif !B1 a1 1 8 then some ((0,()),()) else bif !decide (IntKind.i64.wrap (IntKind.i64.wrap (64 - a1) - 8)=0) then some ((if IntKind.i64.wrap ((IntKind.i64.wrap (IntKind.i64.wrap (nI a0.size + IntKind.i64.wrap (IntKind.i64.wrap (64 - a1) - 8)) - 1)).tdiv (IntKind.i64.wrap (IntKind.i64.wrap (64 - a1) - 8))) > 1 then IntKind.i64.wrap ((IntKind.i64.wrap (IntKind.i64.wrap (nI a0.size + IntKind.i64.wrap (IntKind.i64.wrap (64 - a1) - 8)) - 1)).tdiv (IntKind.i64.wrap (IntKind.i64.wrap (64 - a1) - 8))) else 1,()),()) else none
theorem Aoo (a0:ByteArray) (a1:Int) r (h:Oa a0 a1=some r):Ux a0 a1=some ((r,()),(())):=by
 unfold Oa at h
 split at h
 ·rename_i hc
  cases h
  unfold Ux Gw
  show (bif !Ch a1 1 8 then _ else _)=_
  cases hw:Ch a1 1 8 with
  | false=>rfl
  | true=>
   have k1:=(Cy hw).1
   have k2:=(Cy hw).2
   have hq:0≤((a0.size:Int) + (56 - a1) - 1) / (56 - a1):=Int.ediv_nonneg (by omega) (by omega)
   have hq2:((a0.size:Int) + (56 - a1) - 1) / (56 - a1)≤(a0.size:Int) + (56 - a1) - 1:=Int.ediv_le_self _ (by omega)
   rw [Ag (n:=64 - a1) (by omega) (by omega),Ag (n:=64 - a1 - 8) (by omega) (by omega),show 64 - a1 - 8=56 - a1 by omega]
   simp only [nI]
   rw [Ag (n:=(a0.size:Int) + (56 - a1)) (by omega) (by omega),Ag (n:=(a0.size:Int) + (56 - a1) - 1) (by omega) (by omega),Int.tdiv_eq_ediv_of_nonneg (by omega),Ag (n:=((a0.size:Int) + (56 - a1) - 1) / (56 - a1)) (by omega) (by omega),decide_eq_false (show ¬ (56 - a1=0) by omega)]
   rfl
 ·cases h
theorem Aop:B2 Tryz.prog 180 sd_impl_Pages:=
 A6 (pat:=D3) [] Hu (A7 (l:=[(95,sd_impl_in),(147,sd_impl_room)]) ⟨Gl,Xg,trivial⟩) trivial Tryz.func180 (de:=fun x=>Ux x.1 x.2.1) (fun x r h=>Hv (Aoo x.1 x.2.1) h) fun _=>by kernel_rfl
def Py (s:Stt) (w:Int):Int:=Kj s w
def Asf:Sig:=⟨[.rd Ci,.rd tI],[some 1,none],[.rd tI],[none]⟩
noncomputable def sd_impl_Room:SD:=⟨Asf,fun x=>some (((Py x.1 x.2.1),()),(()))⟩
noncomputable def ta_impl_Room:Tb:=tb [(95,sd_impl_in),(120,sd_impl_FormBatch),(179,sd_impl_Snapshot),(180,sd_impl_Pages)]
def pa_impl_Room:Nat→Pat×(Nat→Pat):=Gf [(6,⟨[.sl 12 0 (.sl D7)],[(1,.lf (.d tI)),(5,.lf (.d tI)),(12,.lf (.d (.sl (.sl D7)))),(13,.lf (.d tI)),(14,.lf (.d tI))],[]⟩,[(2,⟨[],[(5,.lf (.d tI))],[]⟩)])]
noncomputable def co_impl_Room_6:Code:=(As (Ba Tryz.f102)).getD 0 .skip
def Hs (v1:Int) (v5:Int) (v12:List (List Chg)) (v13:Int) (v14:Int):Nat:=(v13 - v14).toNat + 1
noncomputable def K6 {R:Type}  (NX:((Int)×(Int)×(List (List Chg))×(Int)×(Int)×Unit)→Option R) (X2:((Int)×Unit)→Option R) (v1:Int) (v5:Int) (v12:List (List Chg)) (v13:Int) (v14:Int):Option R:=
 bif decide (v14 < v13) then bif decide (0≤v14) then bif decide (v14 < nI v12.length) then ((Oa (Jl (v12.getD v14.toNat [])) v1).bind fun val=>some ((val,()),())).bind fun val=>NX (v1,IntKind.i64.wrap (v5 + val.1.1),v12,v13,IntKind.i64.wrap (v14 + 1),()) else none else none else X2 (v5,())
noncomputable def Dn:Nat→(Int)→(Int)→(List (List Chg))→(Int)→(Int) →  Option ((Int)×Unit)
 | 0,_,_,_,_,_=>none
 | m + 1,v1,v5,v12,v13,v14=>K6  (fun d=>Dn m d.1 d.2.1 d.2.2.1 d.2.2.2.1 d.2.2.2.2.1) (fun d=>some (d)) v1 v5 v12 v13 v14
noncomputable def Xh (a0:Stt) (a1:Int):Option ((((Int)×Unit)×(Unit))):=
 bif !B1 a1 1 8 then some ((0,()),()) else ((fun d=>Dn (Hs d.1 d.2.1 d.2.2.1 d.2.2.2.1 d.2.2.2.2.1) d.1 d.2.1 d.2.2.1 d.2.2.2.1 d.2.2.2.2.1) (a1,0,Kc a0,nI (Kc a0).length,0,())).bind fun val=>some (val,())
theorem Asg (a0:Stt) (a1:Int):Xh a0 a1=some (((Py a0 a1),()),(())):=by
 unfold Xh Py
 show (bif !Ch a1 1 8 then _ else _)=_
 cases hw:Ch a1 1 8 with
 | false=>unfold Kj; rw [hw]; rfl
 | true=>
  have hl:=Vg a0
  have hL:=Gi (xs:=Dd a0) [] Azh (fun _ b a=>a + Gw (Ee b).size a1) (g:=fun m i a=>Dn m a1 a (Dd a0) (nI (Dd a0).length) i) (ok:=fun a=>(a,())) (fun m i a hi hI=>by
   show Dn (m + 1) a1 a (Dd a0) (nI (Dd a0).length) i=_
   simp only [Dn,K6]
   rw [W1 hi,H2,wI (show i < 4611686018427387904 by omega),Int.toNat_natCast]
   have e1:Oa (Jl (List.getD (Dd a0) i [])) a1=some (Gw (Ee (List.getD (Dd a0) i [])).size a1):=if_pos (Nat.le_trans (Kx _) (by decide))
   rw [e1]
   simp only [cond_true,Option.bind_some]
   rw [Alj hI]) (fun i a hi hI=>hI.step (by omega) _ _) (fun m a hI=>by
   show Dn (m + 1) a1 a (Dd a0) (nI (Dd a0).length) ((Dd a0).length:Int)=_
   simp only [Dn,K6]
   rw [Mm]
   rfl) (Hs a1 0 (Dd a0) (nI (Dd a0).length) 0) 0 0 (by omega) (by simp [Hs,nI]) ⟨by omega,by omega,by omega⟩
  have hL':Dn (Hs a1 0 (Dd a0) (nI (Dd a0).length) 0) a1 0 (Dd a0) (nI (Dd a0).length) 0=_:=hL
  show (Dn (Hs a1 0 (Dd a0) (nI (Dd a0).length) 0) a1 0 (Dd a0) (nI (Dd a0).length) 0).bind _=_
  rw [hL',Afk,List.drop_zero,At5,Int.zero_add]
  rfl
noncomputable def f8 {R:Type} (k:Kt R):=(I1 (pa_impl_Room 6) (.exit 0) 2 k)
noncomputable def Ahu {R:Type}:Lt R pa_impl_Room:=(Ed (pat:=pa_impl_Room) 6 (fun d k=>(Dn (Hs d.1 d.2.1 d.2.2.1 d.2.2.2.1 d.2.2.2.2.1) d.1 d.2.1 d.2.2.1 d.2.2.2.1 d.2.2.2.2.1).bind (f8 k)) Hu)
theorem Aej:A2 Tryz.prog ta_impl_Room:=A7 ⟨Gl,Aei,Agt,Aop,trivial⟩
theorem Am9 {R:Type}:A3 Tryz.prog R 26 0 pa_impl_Room Ahu co_impl_Room_6:=
 B3 (cfg:=⟨ta_impl_Room,0,26,pa_impl_Room⟩) 6 [] (fun NX X d=>K6  NX X d.1 d.2.1 d.2.2.1 d.2.2.2.1 d.2.2.2.2.1) (fun m d=>Dn m d.1 d.2.1 d.2.2.1 d.2.2.2.1 d.2.2.2.2.1) (fun d=>Hs d.1 d.2.1 d.2.2.1 d.2.2.2.1 d.2.2.2.2.1) f8 Aej trivial (fun f NX d=>by unfold K6; simp only [Al,Ar,Ak,Option.bind_assoc,Option.bind_none,Option.bind_some]) (fun _ _ _=>by kernel_rfl)
theorem Ash:B2 Tryz.prog 102 sd_impl_Room:=
 A6 (pat:=pa_impl_Room) [co_impl_Room_6] Ahu Aej ⟨Am9,trivial⟩ Tryz.func102 (de:=fun x=>Xh x.1 x.2.1) (fun x r h=>(Asg x.1 x.2.1).trans h) fun _=>by kernel_rfl
def Jm (r:Rt):Bool:=Ox r
def Aek:Sig:=⟨[.rd yRt],[some 4],[.rd .bool],[none]⟩
noncomputable def sd_impl_validRoot:SD:=⟨Aek,fun x=>some (((Jm x.1),()),(()))⟩
noncomputable def Ob (a0:Rt):Option ((((Bool)×Unit)×(Unit))):=
 bif B1 a0.2.1 0 1 then some ((B1 a0.2.2.1 1 999999000,()),()) else some ((false,()),())
theorem Ael (a0:Rt):Ob a0=some (((Jm a0),()),(())):=by
 unfold Ob Jm Ox
 show (bif Ch a0.2.1 0 1 then _ else _)=_
 cases Ch a0.2.1 0 1<;>rfl
theorem Aem:B2 Tryz.prog 175 sd_impl_validRoot:=
 A6 (pat:=D3) [] Hu (A7 (l:=[(95,sd_impl_in)]) ⟨Gl,trivial⟩) trivial Tryz.func175 (de:=fun x=>Ob x.1) (fun x r h=>(Ael x.1).trans h) fun _=>by kernel_rfl
def Ko (s:Sto):Bool:=Ax s
def Abv:Sig:=⟨[.rd Ahx],[some 10],[.rd .bool],[none]⟩
noncomputable def sd_impl_ValidStore:SD:=⟨Abv,fun x=>some (((Ko x.1),()),(()))⟩
noncomputable def M2 (a0:Sto):Option ((((Bool)×Unit)×(Unit))):=
 bif decide (It a0.2.1 > 0) then bif B1 a0.1 1 8 then bif B1 a0.2.2.1 1 60000 then bif B1 a0.2.2.2.1.1 0 1000000000 then bif Jm a0.2.2.2.1 then bif B1 a0.2.2.2.1.2.2.2.1 0 60000 then bif B1 a0.2.2.2.2.1 0 (It a0.2.1) then bif B1 a0.2.2.2.2.2.1 0 a0.2.2.2.2.1 then bif E2 a0.2.2.2.2.2.2.1 then some ((decide (Py a0.2.2.2.2.2.2.1 a0.1≤IntKind.i64.wrap (It a0.2.1 - 1)),()),()) else some ((false,()),()) else some ((false,()),()) else some ((false,()),()) else some ((false,()),()) else some ((false,()),()) else some ((false,()),()) else some ((false,()),()) else some ((false,()),()) else some ((false,()),())
theorem Abw (a0:Sto):M2 a0=some (((Ko a0),()),(())):=by
 unfold M2 Ko Ax
 simp only [It,B1,Jm,E2,Py,gt_iff_lt,Tn,A3h]
theorem Abx:B2 Tryz.prog 117 sd_impl_ValidStore:=
 A6 (pat:=D3) [] Hu (A7 (l:=[(95,sd_impl_in),(96,sd_impl_Halves),(102,sd_impl_Room),(150,sd_impl_ValidState),(175,sd_impl_validRoot)]) ⟨Gl,Am8,Ash,M1,Aem,trivial⟩) trivial Tryz.func117 (de:=fun x=>M2 x.1) (fun x r h=>(Abw x.1).trans h) fun _=>by kernel_rfl
def K7 (s:Sto):Bool:=Q0 s
def Ai6:Sig:=⟨[.rd Ahx],[some 10],[.rd .bool],[none]⟩
noncomputable def sd_impl_noStore:SD:=⟨Ai6,fun x=>some (((K7 x.1),()),(()))⟩
noncomputable def Qg (a0:Sto):Option ((((Bool)×Unit)×(Unit))):=
 bif a0.1==0 then bif a0.2.1==0 then bif a0.2.2.1==0 then bif a0.2.2.2.1.1==0&&(a0.2.2.2.1.2.1==0&&(a0.2.2.2.1.2.2.1==0&&(a0.2.2.2.1.2.2.2.1==0&&true))) then bif a0.2.2.2.2.1==0 then bif a0.2.2.2.2.2.1==0 then some ((nI (List.length a0.2.2.2.2.2.2.1.1)==0,()),()) else some ((false,()),()) else some ((false,()),()) else some ((false,()),()) else some ((false,()),()) else some ((false,()),()) else some ((false,()),())
theorem Ai7 (a0:Sto):Qg a0=some (((K7 a0),()),(())):=by
 unfold Qg K7 Q0
 simp only [A3h,Bool.and_true]
theorem Ai8:B2 Tryz.prog 156 sd_impl_noStore:=
 A6 (pat:=D3) [] Hu (A7 (l:=[]) trivial) trivial Tryz.func156 (de:=fun x=>Qg x.1) (fun x r h=>(Ai7 x.1).trans h) fun _=>by kernel_rfl
end Go.Proofs.YtfkefgbihlfjmaaGreat.V

