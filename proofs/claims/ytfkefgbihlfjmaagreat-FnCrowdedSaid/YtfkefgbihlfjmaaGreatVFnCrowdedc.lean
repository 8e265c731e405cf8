/- What the functions that FnCrowded reaches come to: part 3. No condition. -/
import Derived.Test.YtfkefgbihlfjmaaGreatVFnCrowdedb
import Derived.KernelRfl
noncomputable section
set_option linter.unusedVariables false
set_option linter.unusedSimpArgs false
namespace Go.Proofs.YtfkefgbihlfjmaaGreat.V
open Go Go.Proofs.YtfkefgbihlfjmaaGreat.R Go.Proofs
set_option maxRecDepth 100000
def Bcd:Hh:=⟨[.rd I5,.rd Bdn],[some 16,some 4],[.rd I5],[some 16]⟩
def Au5:Tb:=tb [(152,Ah4),(202,Ah9),(203,Al9)]
def Rj:Nat→Dq×(Nat→Dq):=Hk [(13,⟨[.row 9 0 9 .str,.boxSl 2 1 .str,.boxSl 2 2 Ew,.boxSl 2 13 A1,.boxSl 2 14 F0,.boxSl 2 15 .str,.boxSl 3 1 Dr,.boxSl 3 3 tI,.boxSl 4 1 .str,.boxSl 4 2 Ew,.boxSl 4 13 A1,.boxSl 4 14 F0,.boxSl 4 15 .str,.boxSl 5 10 A1,.boxSl 5 11 E4],[(2,.lf (.ptr 0 0)),(3,.lf (.ptr 1 0)),(4,.lf (.ptr 2 0)),(5,.lf (.ptr 3 0)),(7,.lf (.d tI)),(8,.lf (.d .bool)),(9,.lf (.row 4)),(10,.lf (.d tI))],[.box 36 [.d I5],.box 87 [.d Bdn],.box 36 [.d I5],.box 68 [.d Bkg],.row 9 .str]⟩,[(2,⟨[.row 9 0 9 .str,.boxSl 2 1 .str,.boxSl 2 2 Ew,.boxSl 2 13 A1,.boxSl 2 14 F0,.boxSl 2 15 .str,.boxSl 3 1 Dr,.boxSl 3 3 tI,.boxSl 4 1 .str,.boxSl 4 2 Ew,.boxSl 4 13 A1,.boxSl 4 14 F0,.boxSl 4 15 .str,.boxSl 5 10 A1,.boxSl 5 11 E4],[(2,.lf (.ptr 0 0)),(3,.lf (.ptr 1 0)),(4,.lf (.ptr 2 0)),(5,.lf (.ptr 3 0)),(7,.lf (.d tI)),(8,.lf (.d .bool)),(9,.lf (.row 4))],[.box 36 [.d I5],.box 87 [.d Bdn],.box 36 [.d I5],.box 68 [.d Bkg],.row 9 .str]⟩)])]
def Aid:Code:=(Ax (Bm Tryz.f131)).getD 0 .skip
def Ic (v7:Int) (v8:Bool) (v10:Int) (b0:Bo) (b1:T8) (b2:Bo) (b3:Pl) (r4:List Aa):Nat:=(v7 - v10).toNat + 1
def Pj {R:Type}  (NX:((Int)×(Bool)×(Int)×Bo×T8×Bo×Pl×(List Aa)×Unit)→Option R) (X2:((Int)×(Bool)×Bo×T8×Bo×Pl×(List Aa)×Unit)→Option R) (v7:Int) (v8:Bool) (v10:Int) (b0:Bo) (b1:T8) (b2:Bo) (b3:Pl) (r4:List Aa):Option R:=
 bif decide (v10 < v7) then bif decide (0≤v10) then bif decide (v10 < nI (List.length b3.2.2.1)) then bif !(List.getD b3.2.2.1 v10.toNat (false,0,Ad,())).1 then bif decide (0≤v10) then bif decide (v10 < nI (List.length b3.2.2.1)) then bif decide ((r4.length + [(List.getD b3.2.2.1 v10.toNat (false,0,Ad,())).2.2.1].length) * 16≤140737488355328) then NX (v7,v8,IntKind.i64.wrap (v10 + 1),b0,b1,b2,b3,r4++[(List.getD b3.2.2.1 v10.toNat (false,0,Ad,())).2.2.1],()) else none else none else none else NX (v7,v8,IntKind.i64.wrap (v10 + 1),b0,b1,b2,b3,r4,()) else none else none else X2 (v7,v8,b0,b1,b2,b3,r4,())
def Fo:Nat→(Int)→(Bool)→(Int)→Bo→T8→Bo→Pl→(List Aa) →  Option ((Int)×(Bool)×Bo×T8×Bo×Pl×(List Aa)×Unit)
 | 0,_,_,_,_,_,_,_,_=>none
 | m + 1,v7,v8,v10,b0,b1,b2,b3,r4=>Pj  (fun d=>Fo m d.1 d.2.1 d.2.2.1 d.2.2.2.1 d.2.2.2.2.1 d.2.2.2.2.2.1 d.2.2.2.2.2.2.1 d.2.2.2.2.2.2.2.1) (fun d=>some (d)) v7 v8 v10 b0 b1 b2 b3 r4
def A0n (d:(Int)×(Bool)×(Int)×Bo×T8×Bo×Pl×(List Aa)×Unit):Option ((Int)×(Bool)×Bo×T8×Bo×Pl×(List Aa)×Unit):=(u4 (u4 Ah)) (Fo ((u4 (u4 Ah)) Ic d)) d
def b5 (a0:Bo) (a1:T8):Option (((Bo×Unit)×(Unit))):=
 bif a1.1==5 then (Fg a0 a1.2.2.2.1).bind fun val=>some val else (Sc a0 a1).bind fun val=>bif !val.1.2.1 then some ((a0,()),()) else bif val.1.1.1 != 0 then some ((a0,()),()) else bif decide (a1.2.2.1≥0) then bif decide (a1.2.2.1≤nI (List.length val.1.1.2.2.1)) then bif decide ((0 + List.length a0.2.2.2.2.2.1) * 16≤140737488355328) then ((fun d=>Fo (Ic d.1 d.2.1 d.2.2.1 d.2.2.2.1 d.2.2.2.2.1 d.2.2.2.2.2.1 d.2.2.2.2.2.2.1 d.2.2.2.2.2.2.2.1) d.1 d.2.1 d.2.2.1 d.2.2.2.1 d.2.2.2.2.1 d.2.2.2.2.2.1 d.2.2.2.2.2.2.1 d.2.2.2.2.2.2.2.1) (a1.2.2.1,decide (a1.2.2.1≤nI (List.length val.1.1.2.2.1)),0,a0,a1,(0,([],[],()),false,(0,0,0,(0,0,0,0,()),0,0,([],()),()),[],[],()),val.1.1,[]++a0.2.2.2.2.2.1,())).bind fun val=>bif val.2.2.2.1.1==2 then bif decide ((0 + List.length val.2.2.1.2.2.2.2.1) * 24≤140737488355328) then bif decide ((([]++val.2.2.1.2.2.2.2.1).length + [val.2.2.2.2.2.1.2.1.2.2.2.2.2.2.1].length) * 24≤140737488355328) then bif decide (nI val.2.2.2.2.2.2.1.length > 2000) then some ((val.2.2.1,()),()) else bif decide (nI ([]++val.2.2.1.2.2.2.2.1++[val.2.2.2.2.2.1.2.1.2.2.2.2.2.2.1]).length > 200) then some ((val.2.2.1,()),()) else ((Gn val.2.2.1.2.1 val.2.2.2.2.2.1.2.2.1 val.1).bind fun val=>some (val,())).bind fun val_1=>bif val.2.1 then (Fg (val.2.2.1.1,val_1.1,val.2.2.1.2.2.1,val.2.2.1.2.2.2.1,[]++val.2.2.1.2.2.2.2.1++[val.2.2.2.2.2.1.2.1.2.2.2.2.2.2.1],val.2.2.2.2.2.2) val.2.2.2.1.2.2.2.1).bind fun val=>some val else bif val.2.2.2.1.1 != 2 then some (((val.2.2.1.1,val_1.1,true,val.2.2.2.2.2.1.2.1,[val.2.2.2.2.2.1.2.1.2.2.2.2.2.2.1],val.2.2.2.2.2.2),()),()) else some (((val.2.2.1.1,val_1.1,true,val.2.2.2.2.2.1.2.1,[]++val.2.2.1.2.2.2.2.1++[val.2.2.2.2.2.1.2.1.2.2.2.2.2.2.1],val.2.2.2.2.2.2),()),()) else none else none else bif decide (nI val.2.2.2.2.2.2.1.length > 2000) then some ((val.2.2.1,()),()) else bif decide (nI (List.length val.2.2.1.2.2.2.2.1) > 200) then some ((val.2.2.1,()),()) else ((Gn val.2.2.1.2.1 val.2.2.2.2.2.1.2.2.1 val.1).bind fun val=>some (val,())).bind fun val_1=>bif val.2.1 then (Fg (val.2.2.1.1,val_1.1,val.2.2.1.2.2.1,val.2.2.1.2.2.2.1,val.2.2.1.2.2.2.2.1,val.2.2.2.2.2.2) val.2.2.2.1.2.2.2.1).bind fun val=>some val else bif val.2.2.2.1.1 != 2 then some (((val.2.2.1.1,val_1.1,true,val.2.2.2.2.2.1.2.1,[val.2.2.2.2.2.1.2.1.2.2.2.2.2.2.1],val.2.2.2.2.2.2),()),()) else some (((val.2.2.1.1,val_1.1,true,val.2.2.2.2.2.1.2.1,val.2.2.1.2.2.2.2.1,val.2.2.2.2.2.2),()),()) else none else bif decide ((0 + List.length a0.2.2.2.2.2.1) * 16≤140737488355328) then ((fun d=>Fo (Ic d.1 d.2.1 d.2.2.1 d.2.2.2.1 d.2.2.2.2.1 d.2.2.2.2.2.1 d.2.2.2.2.2.2.1 d.2.2.2.2.2.2.2.1) d.1 d.2.1 d.2.2.1 d.2.2.2.1 d.2.2.2.2.1 d.2.2.2.2.2.1 d.2.2.2.2.2.2.1 d.2.2.2.2.2.2.2.1) (nI (List.length val.1.1.2.2.1),decide (a1.2.2.1≤nI (List.length val.1.1.2.2.1)),0,a0,a1,(0,([],[],()),false,(0,0,0,(0,0,0,0,()),0,0,([],()),()),[],[],()),val.1.1,[]++a0.2.2.2.2.2.1,())).bind fun val=>bif val.2.2.2.1.1==2 then bif decide ((0 + List.length val.2.2.1.2.2.2.2.1) * 24≤140737488355328) then bif decide ((([]++val.2.2.1.2.2.2.2.1).length + [val.2.2.2.2.2.1.2.1.2.2.2.2.2.2.1].length) * 24≤140737488355328) then bif decide (nI val.2.2.2.2.2.2.1.length > 2000) then some ((val.2.2.1,()),()) else bif decide (nI ([]++val.2.2.1.2.2.2.2.1++[val.2.2.2.2.2.1.2.1.2.2.2.2.2.2.1]).length > 200) then some ((val.2.2.1,()),()) else ((Gn val.2.2.1.2.1 val.2.2.2.2.2.1.2.2.1 val.1).bind fun val=>some (val,())).bind fun val_1=>bif val.2.1 then (Fg (val.2.2.1.1,val_1.1,val.2.2.1.2.2.1,val.2.2.1.2.2.2.1,[]++val.2.2.1.2.2.2.2.1++[val.2.2.2.2.2.1.2.1.2.2.2.2.2.2.1],val.2.2.2.2.2.2) val.2.2.2.1.2.2.2.1).bind fun val=>some val else bif val.2.2.2.1.1 != 2 then some (((val.2.2.1.1,val_1.1,true,val.2.2.2.2.2.1.2.1,[val.2.2.2.2.2.1.2.1.2.2.2.2.2.2.1],val.2.2.2.2.2.2),()),()) else some (((val.2.2.1.1,val_1.1,true,val.2.2.2.2.2.1.2.1,[]++val.2.2.1.2.2.2.2.1++[val.2.2.2.2.2.1.2.1.2.2.2.2.2.2.1],val.2.2.2.2.2.2),()),()) else none else none else bif decide (nI val.2.2.2.2.2.2.1.length > 2000) then some ((val.2.2.1,()),()) else bif decide (nI (List.length val.2.2.1.2.2.2.2.1) > 200) then some ((val.2.2.1,()),()) else ((Gn val.2.2.1.2.1 val.2.2.2.2.2.1.2.2.1 val.1).bind fun val=>some (val,())).bind fun val_1=>bif val.2.1 then (Fg (val.2.2.1.1,val_1.1,val.2.2.1.2.2.1,val.2.2.1.2.2.2.1,val.2.2.1.2.2.2.2.1,val.2.2.2.2.2.2) val.2.2.2.1.2.2.2.1).bind fun val=>some val else bif val.2.2.2.1.1 != 2 then some (((val.2.2.1.1,val_1.1,true,val.2.2.2.2.2.1.2.1,[val.2.2.2.2.2.1.2.1.2.2.2.2.2.2.1],val.2.2.2.2.2.2),()),()) else some (((val.2.2.1.1,val_1.1,true,val.2.2.2.2.2.1.2.1,val.2.2.1.2.2.2.2.1,val.2.2.2.2.2.2),()),()) else none else bif decide ((0 + List.length a0.2.2.2.2.2.1) * 16≤140737488355328) then ((fun d=>Fo (Ic d.1 d.2.1 d.2.2.1 d.2.2.2.1 d.2.2.2.2.1 d.2.2.2.2.2.1 d.2.2.2.2.2.2.1 d.2.2.2.2.2.2.2.1) d.1 d.2.1 d.2.2.1 d.2.2.2.1 d.2.2.2.2.1 d.2.2.2.2.2.1 d.2.2.2.2.2.2.1 d.2.2.2.2.2.2.2.1) (nI (List.length val.1.1.2.2.1),false,0,a0,a1,(0,([],[],()),false,(0,0,0,(0,0,0,0,()),0,0,([],()),()),[],[],()),val.1.1,[]++a0.2.2.2.2.2.1,())).bind fun val=>bif val.2.2.2.1.1==2 then bif decide ((0 + List.length val.2.2.1.2.2.2.2.1) * 24≤140737488355328) then bif decide ((([]++val.2.2.1.2.2.2.2.1).length + [val.2.2.2.2.2.1.2.1.2.2.2.2.2.2.1].length) * 24≤140737488355328) then bif decide (nI val.2.2.2.2.2.2.1.length > 2000) then some ((val.2.2.1,()),()) else bif decide (nI ([]++val.2.2.1.2.2.2.2.1++[val.2.2.2.2.2.1.2.1.2.2.2.2.2.2.1]).length > 200) then some ((val.2.2.1,()),()) else ((Gn val.2.2.1.2.1 val.2.2.2.2.2.1.2.2.1 val.1).bind fun val=>some (val,())).bind fun val_1=>bif val.2.1 then (Fg (val.2.2.1.1,val_1.1,val.2.2.1.2.2.1,val.2.2.1.2.2.2.1,[]++val.2.2.1.2.2.2.2.1++[val.2.2.2.2.2.1.2.1.2.2.2.2.2.2.1],val.2.2.2.2.2.2) val.2.2.2.1.2.2.2.1).bind fun val=>some val else bif val.2.2.2.1.1 != 2 then some (((val.2.2.1.1,val_1.1,true,val.2.2.2.2.2.1.2.1,[val.2.2.2.2.2.1.2.1.2.2.2.2.2.2.1],val.2.2.2.2.2.2),()),()) else some (((val.2.2.1.1,val_1.1,true,val.2.2.2.2.2.1.2.1,[]++val.2.2.1.2.2.2.2.1++[val.2.2.2.2.2.1.2.1.2.2.2.2.2.2.1],val.2.2.2.2.2.2),()),()) else none else none else bif decide (nI val.2.2.2.2.2.2.1.length > 2000) then some ((val.2.2.1,()),()) else bif decide (nI (List.length val.2.2.1.2.2.2.2.1) > 200) then some ((val.2.2.1,()),()) else ((Gn val.2.2.1.2.1 val.2.2.2.2.2.1.2.2.1 val.1).bind fun val=>some (val,())).bind fun val_1=>bif val.2.1 then (Fg (val.2.2.1.1,val_1.1,val.2.2.1.2.2.1,val.2.2.1.2.2.2.1,val.2.2.1.2.2.2.2.1,val.2.2.2.2.2.2) val.2.2.2.1.2.2.2.1).bind fun val=>some val else bif val.2.2.2.1.1 != 2 then some (((val.2.2.1.1,val_1.1,true,val.2.2.2.2.2.1.2.1,[val.2.2.2.2.2.1.2.1.2.2.2.2.2.2.1],val.2.2.2.2.2.2),()),()) else some (((val.2.2.1.1,val_1.1,true,val.2.2.2.2.2.1.2.1,val.2.2.1.2.2.2.2.1,val.2.2.2.2.2.2),()),()) else none
theorem Au6:∃ f,f=@b5:=⟨_,rfl⟩
def Oq:=Classical.choose Au6
theorem Au7:@Oq=@b5:=Classical.choose_spec Au6
def Ag6:SD:=⟨Bcd,fun x=>Oq x.1 x.2.1⟩
theorem Bce (v8:Bool) (b0:Bo) (b1:T8) (b2:Bo) (b3:Pl):∀ (k m i:Nat) (n:Int) (r:List Aa),(i:Int) + k=n→k < m→n≤(b3.2.2.1.length:Int)→b3.2.2.1.length≤1073741824→r.length + k≤4000000000→
  ∃ r':List Aa,Fo m n v8 i b0 b1 b2 b3 r=some (n,v8,b0,b1,b2,b3,r',())∧r'.length≤r.length + k∧r'=r++Db ((b3.2.2.1.drop i).take k)
 | 0,m + 1,i,n,r,hi,_,_,_,_=>by
  refine ⟨r,?_,by omega,by simp [Db]⟩
  simp only [Fo,Pj]
  rw [Bd (show ¬ (i:Int) < n by omega)]
  rfl
 | k + 1,m + 1,i,n,r,hi,hm,hn,hl,hr=>by
  have e1:IntKind.i64.wrap ((i:Int) + 1)=((i + 1:Nat):Int):=wI (by omega)
  have d1:decide ((i:Int) < n)=true:=Af (by omega)
  have d2:decide ((i:Int) < nI b3.2.2.1.length)=true:=Af (by simp only [nI]; omega)
  simp only [Fo,Pj,d1,d2,J1,e1,cond_true,En]
  have d3:decide ((r.length + 1) * 16≤140737488355328)=true:=Af (by omega)
  rw [d3]
  cases hc:(b3.2.2.1.getD (Int.toNat (i:Int)) (false,0,Ad,())).1 with
  | true=>
   obtain ⟨r',q1,q2,q3⟩:=Bce v8 b0 b1 b2 b3 k m (i + 1) n r (by omega) (by omega) hn hl (by omega)
   have hc':(b3.2.2.1.getD i zOp).1=true:=hc
   exact ⟨r',q1,by omega,by rw [q3,Bi2 k (by omega),hc']; rfl⟩
  | false=>
   obtain ⟨r',q1,q2,q3⟩:=Bce v8 b0 b1 b2 b3 k m (i + 1) n (r++[(b3.2.2.1.getD (Int.toNat (i:Int)) (false,0,Ad,())).2.2.1]) (by omega) (by omega) hn hl (by rw [Dn,En]; omega)
   rw [Dn,En] at q2
   have hc':(b3.2.2.1.getD i zOp).1=false:=hc
   exact ⟨r',q1,by omega,by rw [q3,Bi2 k (by omega),hc',List.append_assoc]; rfl⟩
theorem Bhr {v8:Bool} {b0:Bo} {b1:T8} {b2:Bo} {b3:Pl} {n:Int} {r:List Aa} (h0:0≤n) (hn:n≤(b3.2.2.1.length:Int)) (hl:b3.2.2.1.length≤1073741824) (hr:r.length≤2000000000):
  Av (Fo (Ic n v8 0 b0 b1 b2 b3 r) n v8 0 b0 b1 b2 b3 r) fun q=>∃ r':List Aa,q=(n,v8,b0,b1,b2,b3,r',())∧r'=r++Db (b3.2.2.1.take n.toNat):=by
 obtain ⟨k,rfl⟩:∃ k:Nat,n=(k:Int):=⟨n.toNat,by omega⟩
 obtain ⟨r',q1,_,q3⟩:=Bce v8 b0 b1 b2 b3 k (Ic k v8 0 b0 b1 b2 b3 r) 0 k r (by omega) (by simp only [Ic]; omega) hn hl (by omega)
 exact ⟨_,q1,r',rfl,q3⟩
theorem Bjm {w:Bo} (h:WOk w) (e:T8):Av (Oq w e) fun q=>q.1.1=Ou w e:=by
 rw [Au7]
 unfold b5
 refine Av.cond (fun c0=>Av.bind (Alw w _) fun q hq=>Av.some ?_) fun c0=>?_
 ·rw [hq]; unfold Ou; rw [c0]; rfl
 refine Av.bind (Bp6 h e) fun q hx=>?_
 obtain ⟨⟨x,asked,⟨⟩⟩,⟨⟩⟩:=q
 dsimp only at hx ⊢
 have hx1:x=(Ih w e).1:=congrArg (fun z=>z.1) hx
 have hx2:asked=(Ih w e).2:=congrArg (fun z=>z.2.1) hx
 have hX:XOk x:=by rw [hx1]; exact XOk.calls h e
 have hS:Ou w e=bif !asked || x.1 != 0 then w else Cc w e x:=by unfold Ou; rw [c0,hx1,hx2]; rfl
 rw [hS]
 refine Av.cond (fun c1=>Av.some ?_) fun c1=>Av.cond (fun c2=>Av.some ?_) fun c2=>?_
 ·rw [c1]; rfl
 ·rw [c1,c2]; rfl
 rw [show (bif !asked || x.1 != 0 then w else Cc w e x)=Cc w e x by rw [c1,c2]; rfl]
 have ho:=hX.ops
 have hl:=h.l
 have hp:=h.n
 have hd:=Ki h.v
 have hperf:∀ n:Int,Av (((Gn (w.2.1.1,w.2.1.2.1,()) x.2.2.1 n).bind fun val=>some (val,()))) fun q=>q=(B9 w.2.1 x.2.2.1 n,()):=fun n=>Av.bind ⟨_,if_pos (by omega),rfl⟩ fun a ha=>Av.some (by rw [ha])
 have fin:∀ (v8:Bool) (m:Int),Wf e x=v8→Vr e x=m→∀ (pst:List Cv) (wr:List Aa),wr=Gs w e x→pst=E7 w e x→Om w e x=false→∀ (y:Option (((Bo×Unit)×Unit))),
   (v8=true→Av y fun q=>q.1.1=(w.1,Eo (B9 w.2.1 x.2.2.1 m) e.2.2.2.1,false,Vt,pst,wr,()))→(v8=false→Av y fun q=>q.1.1=(w.1,B9 w.2.1 x.2.2.1 m,true,x.2.1,(bif e.1==2 then pst else [x.2.1.2.2.2.2.2.2.1]),wr,()))→Av y fun q=>q.1.1=Cc w e x:=fun v8 m h1 h2 pst wr h3 h4 h5 y k1 k2=>by
  cases v8 with
  | true=>rw [Awb h5 h1,h2,← h3,← h4]; exact k1 rfl
  | false=>rw [A33 h5 h1,h2,← h3,← h4]; exact k2 rfl
 have full1:decide ((Gs w e x).length > 2000)=true→Cc w e x=w:=fun g=>Agi (Agj g rfl)
 have full2:∀ {a},decide ((Gs w e x).length > 2000)=a→decide ((E7 w e x).length > 200)=true→Cc w e x=w:=fun g1 g2=>Agi (by rw [Agj g1 g2,Bool.or_true])
 have full3:decide ((Gs w e x).length > 2000)=false→decide ((E7 w e x).length > 200)=false→Om w e x=false:=fun g1 g2=>by rw [Agj g1 g2]; rfl
 have n2:∀ {α:Type} (l:List α),decide (nI l.length > 2000)=decide (l.length > 2000):=fun l=>by
  by_cases q:l.length > 2000
  ·rw [Af q]; exact Af (by simp only [nI]; omega)
  ·rw [Bd q]; exact Bd (by simp only [nI]; omega)
 have n1:∀ {α:Type} (l:List α),decide (nI l.length > 200)=decide (l.length > 200):=fun l=>by
  by_cases q:l.length > 200
  ·rw [Af q]; exact Af (by simp only [nI]; omega)
  ·rw [Bd q]; exact Bd (by simp only [nI]; omega)
 refine Av.cond (fun c3=>Av.cond (fun c4=>?_) fun c4=>?_) fun c3=>?_
 ·have c3':=G8 c3
  have c4':=G8 c4
  have hcb:Wf e x=decide (e.2.2.1≤nI x.2.2.1.length):=by unfold Wf; rw [Af (show 0≤e.2.2.1 from c3'),Bool.true_and]
  have hcn:Vr e x=e.2.2.1:=by unfold Vr; rw [hcb,c4]; rfl
  refine Av.go (Af (by omega)) ?_
  refine Av.bind (Bhr c3' c4' ho (by rw [List.nil_append]; omega)) fun q hq=>?_
  obtain ⟨r',rfl,hr⟩:=hq
  dsimp only
  have hw:r'=Gs w e x:=by rw [hr]; unfold Gs; rw [hcn,List.nil_append]
  refine Av.cond (fun k=>Av.go (Af (by omega)) (Av.go (Af (by rw [List.nil_append,En]; omega)) ?_)) fun k=>?_
  ·have hpast:[]++w.2.2.2.2.1++[(x.2.1.2.2.2.2.2.2.1.1,())]=E7 w e x:=by unfold E7; rw [k]; rfl
   rw [hpast,n2 r',n1 (E7 w e x),hw]
   refine Av.cond (fun d1=>Av.some (full1 d1).symm) fun d1=>Av.cond (fun d2=>Av.some (full2 d1 d2).symm) fun d2=>?_
   refine Av.bind (hperf _) fun q hq=>fin _ _ hcb hcn _ _ rfl rfl (full3 d1 d2) _ (fun g=>?_) fun g=>?_
   ·rw [g,hq]
    exact Av.bind (Alw _ _) fun q hq=>Av.some (by rw [hq]; rfl)
   ·rw [g,hq]
    refine Av.no rfl (Av.cond (fun z=>?_) fun _=>Av.some (by rw [k]; rfl))
    rw [beq_iff_eq.1 k] at z; cases z
  ·have hpast:w.2.2.2.2.1=E7 w e x:=by unfold E7; rw [k]; rfl
   rw [n2 r',n1 w.2.2.2.2.1,hw,hpast]
   refine Av.cond (fun d1=>Av.some (full1 d1).symm) fun d1=>Av.cond (fun d2=>Av.some (full2 d1 d2).symm) fun d2=>?_
   refine Av.bind (hperf _) fun q hq=>fin _ _ hcb hcn _ _ rfl rfl (full3 d1 d2) _ (fun g=>?_) fun g=>?_
   ·rw [g,hq]
    exact Av.bind (Alw _ _) fun q hq=>Av.some (by rw [hq]; rfl)
   ·rw [g,hq]
    refine Av.no rfl (Av.cond (fun z=>Av.some (by rw [k]; rfl)) fun z=>?_)
    have:(e.1 != 2)=true:=by rw [bne,k]; rfl
    rw [this] at z; cases z
 ·have c3':=G8 c3
  have hcb:Wf e x=decide (e.2.2.1≤nI x.2.2.1.length):=by unfold Wf; rw [Af (show 0≤e.2.2.1 from c3'),Bool.true_and]
  have hcn:Vr e x=nI x.2.2.1.length:=by unfold Vr; rw [hcb,c4]; rfl
  refine Av.go (Af (by omega)) ?_
  refine Av.bind (Bhr (by simp only [nI]; omega) (Int.le_refl _) ho (by rw [List.nil_append]; omega)) fun q hq=>?_
  obtain ⟨r',rfl,hr⟩:=hq
  dsimp only
  have hw:r'=Gs w e x:=by rw [hr]; unfold Gs; rw [hcn,List.nil_append]
  refine Av.cond (fun k=>Av.go (Af (by omega)) (Av.go (Af (by rw [List.nil_append,En]; omega)) ?_)) fun k=>?_
  ·have hpast:[]++w.2.2.2.2.1++[(x.2.1.2.2.2.2.2.2.1.1,())]=E7 w e x:=by unfold E7; rw [k]; rfl
   rw [hpast,n2 r',n1 (E7 w e x),hw]
   refine Av.cond (fun d1=>Av.some (full1 d1).symm) fun d1=>Av.cond (fun d2=>Av.some (full2 d1 d2).symm) fun d2=>?_
   refine Av.bind (hperf _) fun q hq=>fin _ _ hcb hcn _ _ rfl rfl (full3 d1 d2) _ (fun g=>?_) fun g=>?_
   ·rw [g,hq]
    exact Av.bind (Alw _ _) fun q hq=>Av.some (by rw [hq]; rfl)
   ·rw [g,hq]
    refine Av.no rfl (Av.cond (fun z=>?_) fun _=>Av.some (by rw [k]; rfl))
    rw [beq_iff_eq.1 k] at z; cases z
  ·have hpast:w.2.2.2.2.1=E7 w e x:=by unfold E7; rw [k]; rfl
   rw [n2 r',n1 w.2.2.2.2.1,hw,hpast]
   refine Av.cond (fun d1=>Av.some (full1 d1).symm) fun d1=>Av.cond (fun d2=>Av.some (full2 d1 d2).symm) fun d2=>?_
   refine Av.bind (hperf _) fun q hq=>fin _ _ hcb hcn _ _ rfl rfl (full3 d1 d2) _ (fun g=>?_) fun g=>?_
   ·rw [g,hq]
    exact Av.bind (Alw _ _) fun q hq=>Av.some (by rw [hq]; rfl)
   ·rw [g,hq]
    refine Av.no rfl (Av.cond (fun z=>Av.some (by rw [k]; rfl)) fun z=>?_)
    have:(e.1 != 2)=true:=by rw [bne,k]; rfl
    rw [this] at z; cases z
 ·have c3':=of_decide_eq_false c3
  have hcb:Wf e x=false:=by unfold Wf; rw [Bd (show ¬ 0≤e.2.2.1 from c3')]; rfl
  have hcn:Vr e x=nI x.2.2.1.length:=by unfold Vr; rw [hcb]; rfl
  refine Av.go (Af (by omega)) ?_
  refine Av.bind (Bhr (by simp only [nI]; omega) (Int.le_refl _) ho (by rw [List.nil_append]; omega)) fun q hq=>?_
  obtain ⟨r',rfl,hr⟩:=hq
  dsimp only
  have hw:r'=Gs w e x:=by rw [hr]; unfold Gs; rw [hcn,List.nil_append]
  refine Av.cond (fun k=>Av.go (Af (by omega)) (Av.go (Af (by rw [List.nil_append,En]; omega)) ?_)) fun k=>?_
  ·have hpast:[]++w.2.2.2.2.1++[(x.2.1.2.2.2.2.2.2.1.1,())]=E7 w e x:=by unfold E7; rw [k]; rfl
   rw [hpast,n2 r',n1 (E7 w e x),hw]
   refine Av.cond (fun d1=>Av.some (full1 d1).symm) fun d1=>Av.cond (fun d2=>Av.some (full2 d1 d2).symm) fun d2=>?_
   refine Av.bind (hperf _) fun q hq=>fin _ _ hcb hcn _ _ rfl rfl (full3 d1 d2) _ (fun g=>?_) fun g=>?_
   ·cases g
   ·rw [hq]
    refine Av.no rfl (Av.cond (fun z=>?_) fun _=>Av.some (by rw [k]; rfl))
    rw [beq_iff_eq.1 k] at z; cases z
  ·have hpast:w.2.2.2.2.1=E7 w e x:=by unfold E7; rw [k]; rfl
   rw [n2 r',n1 w.2.2.2.2.1,hw,hpast]
   refine Av.cond (fun d1=>Av.some (full1 d1).symm) fun d1=>Av.cond (fun d2=>Av.some (full2 d1 d2).symm) fun d2=>?_
   refine Av.bind (hperf _) fun q hq=>fin _ _ hcb hcn _ _ rfl rfl (full3 d1 d2) _ (fun g=>?_) fun g=>?_
   ·cases g
   ·rw [hq]
    refine Av.no rfl (Av.cond (fun z=>Av.some (by rw [k]; rfl)) fun z=>?_)
    have:(e.1 != 2)=true:=by rw [bne,k]; rfl
    rw [this] at z; cases z
def Aie {R:Type} (k:Kt R):=(L7 (Rj 13) (.exit 0) 2 k)
def Aze {R:Type}:Lt R Rj:=(Fp (pat:=Rj) 13 (fun d k=>(A0n d).bind (Aie k)) Ik)
theorem Au8:A5 Tryz.prog Au5:=Bb ⟨A0e,A0g,A58,trivial⟩
theorem A0o {R:Type}:Ba Tryz.prog R 124 0 Rj Aze Aid:=
 Cn (cfg:=⟨Au5,0,124,Rj⟩) 13 [] (fun NX X (d:(Int)×(Bool)×(Int)×Bo×T8×Bo×Pl×(List Aa)×Unit)=>(u4 (u4 Ah)) (Pj  NX X) d) (fun m d=>(u4 (u4 Ah)) (Fo m) d) (fun d=>(u4 (u4 Ah)) Ic d) Aie Au8 trivial (fun f NX (d:(Int)×(Bool)×(Int)×Bo×T8×Bo×Pl×(List Aa)×Unit)=>by simp only [u4,Ac,Ah]; unfold Pj; simp only [nb])
theorem Au9:B8 Tryz.prog 131 Ag6:=
 A7 (pat:=Rj) [Aid] Aze Au8 ⟨A0o,trivial⟩ Tryz.func131 (de:=fun x=>b5 x.1 x.2.1) (fun x r h=>by have q:Oq x.1 x.2.1=some r:=h; rw [Au7] at q; exact q) fun _=>by kernel_rfl
def Rk (v0:Aa) (v1:Int) (v5:Aa):Nat:=v1.toNat + 1
def A59:Hh:=⟨[.rd .str,.rd tI],[none,none],[.rd .str],[none]⟩
def Ama:Tb:=tb []
def Oh:Nat→Dq×(Nat→Dq):=Hk [(3,⟨[],[(0,.lf (.d .str)),(1,.lf (.d tI)),(5,.lf (.d .str))],[]⟩,[(2,⟨[],[(5,.lf (.d .str))],[]⟩)])]
def Afl:Code:=(Ax (Bm Tryz.f195)).getD 0 .skip
def Rl {R:Type}  (NX:((Aa)×(Int)×(Aa)×Unit)→Option R) (X2:((Aa)×Unit)→Option R) (v0:Aa) (v1:Int) (v5:Aa):Option R:=
 bif decide (v1 > 0) then bif v1.tmod 2==1 then bif decide (v5.size + v0.size≤9223372036854775807) then bif decide (v0.size + v0.size≤9223372036854775807) then NX (v0++v0,IntKind.i64.wrap (v1.tdiv 2),v5++v0,()) else none else none else bif decide (v0.size + v0.size≤9223372036854775807) then NX (v0++v0,IntKind.i64.wrap (v1.tdiv 2),v5,()) else none else X2 (v5,())
def K5:Nat→(Aa)→(Int)→(Aa) →  Option ((Aa)×Unit)
 | 0,_,_,_=>none
 | m + 1,v0,v1,v5=>Rl  (fun d=>K5 m d.1 d.2.1 d.2.2.1) (fun d=>some (d)) v0 v1 v5
def Axt (d:(Aa)×(Int)×(Aa)×Unit):Option ((Aa)×Unit):=(Ac (Ac (Ac Ah))) (K5 ((Ac (Ac (Ac Ah))) Rk d)) d
def Vj (a0:Aa) (a1:Int):Option ((((Aa)×Unit)×(Unit))):=
 ((fun d=>K5 (Rk d.1 d.2.1 d.2.2.1) d.1 d.2.1 d.2.2.1) (a0,a1,Ad,())).bind fun val=>some (val,())
theorem Amb:∃ f,f=@Vj:=⟨_,rfl⟩
def Pw:=Classical.choose Amb
theorem Amc:@Pw=@Vj:=Classical.choose_spec Amb
def Aab:SD:=⟨A59,fun x=>Pw x.1 x.2.1⟩
theorem Axu:∀ (m n:Nat) (v0 v5:Aa),n < m→n < 1099511627776→v5.size + v0.size * n≤1099511627776→Av (K5 m v0 n v5) fun r=>r.1.size=v5.size + v0.size * n
 | 0,n,v0,v5,h,_,_=>by omega
 | m + 1,n,v0,v5,h,hn,ht=>by
  simp only [K5,Rl]
  refine Av.cond (fun c=>?_) fun c=>?_
  ·have hp:0 < n:=by simpa using c
   have e:v0.size * n=2 * (v0.size * (n / 2)) + v0.size * (n % 2):=by
    conv=>lhs; rw [← Nat.div_add_mod n 2]
    rw [Nat.mul_add,Nat.mul_left_comm]
   have e':(v0.size + v0.size) * (n / 2)=2 * (v0.size * (n / 2)):=by rw [Nat.add_mul]; omega
   have hle:v0.size≤v0.size * n:=Nat.le_mul_of_pos_right _ hp
   have e1:IntKind.i64.wrap (Int.tdiv (n:Int) 2)=((n / 2:Nat):Int):=by
    rw [Int.tdiv_eq_ediv_of_nonneg (by omega),Aj (by omega) (by omega)]
    rfl
   have e2:(Int.tmod (n:Int) 2==1)=decide (n % 2=1):=by
    rw [Int.tmod_eq_emod_of_nonneg (by omega)]
    by_cases q:n % 2=1
    ·rw [Af q]; simp; omega
    ·rw [Bd q]; simp; omega
   rw [e1,e2]
   refine Av.cond (fun c=>?_) fun c=>?_
   ·rw [G8 c,Nat.mul_one] at e
    refine Av.go (Af (by omega)) (Av.go (Af (by omega)) ?_)
    refine (Axu m (n / 2) (v0++v0) (v5++v0) (by omega) (by omega) (by simp only [ByteArray.size_append]; omega)).mono fun r q=>?_
    simp only [ByteArray.size_append] at q
    omega
   ·have c:=of_decide_eq_false c
    rw [show n % 2=0 by omega,Nat.mul_zero] at e
    refine Av.go (Af (by omega)) ?_
    refine (Axu m (n / 2) (v0++v0) v5 (by omega) (by omega) (by simp only [ByteArray.size_append]; omega)).mono fun r q=>?_
    simp only [ByteArray.size_append] at q
    omega
  ·have:n=0:=by simpa using c
   subst this
   exact Av.some (by simp)
theorem Bjn (s:Aa) (n:Int) (h0:0≤n) (h1:n≤10000) (hs:s.size≤10000):Av (Pw s n) fun r=>r.1.1.size=s.size * n.toNat:=by
 obtain ⟨k,rfl⟩:∃ k:Nat,n=(k:Int):=⟨n.toNat,by omega⟩
 rw [Amc]
 unfold Vj
 have hk:s.size * k≤10000 * 10000:=Nat.mul_le_mul hs (by omega)
 refine Av.bind (Axu _ k s (Ad) (by simp [Rk]) (by omega) (by show 0 + s.size * k≤_; omega)) fun r q=>Av.some ?_
 rw [Fz]
 exact q.trans (Nat.zero_add _)
def Afm {R:Type} (k:Kt R):=(L7 (Oh 3) (.exit 0) 2 k)
def Apr {R:Type}:Lt R Oh:=(Fp (pat:=Oh) 3 (fun d k=>(Axt d).bind (Afm k)) Ik)
theorem Amd:A5 Tryz.prog Ama:=Bb trivial
theorem Axv {R:Type}:Ba Tryz.prog R 20 0 Oh Apr Afl:=
 Cn (cfg:=⟨Ama,0,20,Oh⟩) 3 [] (fun NX X d=>(Ac (Ac (Ac Ah))) (Rl  NX X) d) (fun m d=>(Ac (Ac (Ac Ah))) (K5 m) d) (fun d=>(Ac (Ac (Ac Ah))) Rk d) Afm Amd trivial (fun f NX d=>by simp only [u4,Ac,Ah]; unfold Rl; simp only [nb])
theorem Ame:B8 Tryz.prog 195 Aab:=
 A7 (pat:=Oh) [Afl] Apr Amd ⟨Axv,trivial⟩ Tryz.func195 (de:=fun x=>Vj x.1 x.2.1) (fun x r h=>by have q:Pw x.1 x.2.1=some r:=h; rw [Amc] at q; exact q) fun _=>by kernel_rfl
def L4 (v3:Aa) (v4:Int) (b0:(List Int)×Int×Unit):Nat:=v4.toNat + 1
def Ars:Hh:=⟨[.bx 176 (.pair (.sl (.int .u8)) (.pair tI .unit))],[none],[.rd .str],[none]⟩
def Aac:Tb:=tb [(63,Ff),(195,Aab)]
def Iv:Nat→Dq×(Nat→Dq):=Hk [(13,⟨[],[(0,.lf (.ptr 0 0)),(3,.lf (.d .str)),(4,.lf (.d tI))],[.box 176 [.d (.pair (.sl (.int .u8)) (.pair tI .unit))]]⟩,[(3,⟨[],[(3,.lf (.d .str))],[.box 176 [.d (.pair (.sl (.int .u8)) (.pair tI .unit))]]⟩)])]
def Vy:Code:=(Ax (Bm Tryz.f194)).getD 0 .skip
def L5 {R:Type}  (NX:((Aa)×(Int)×((List Int)×Int×Unit)×Unit)→Option R) (X3:((Aa)×((List Int)×Int×Unit)×Unit)→Option R) (v3:Aa) (v4:Int) (b0:(List Int)×Int×Unit):Option R:=
 bif decide (v4 > 0) then ((Ab b0 4).bind fun val=>some ((val.1,()),val.2,())).bind fun val=>bif decide (0≤val.1.1) then bif decide (val.1.1≤nI (ByteArray.mk #[97,98,99,100]).size) then bif decide (1≤nI (Ag (ByteArray.mk #[97,98,99,100]) val.1.1 (nI (ByteArray.mk #[97,98,99,100]).size)).size) then bif decide (v3.size + (Ag (Ag (ByteArray.mk #[97,98,99,100]) val.1.1 (nI (ByteArray.mk #[97,98,99,100]).size)) 0 1).size≤9223372036854775807) then NX (v3++Ag (Ag (ByteArray.mk #[97,98,99,100]) val.1.1 (nI (ByteArray.mk #[97,98,99,100]).size)) 0 1,IntKind.i64.wrap (v4 - 1),val.2) else none else none else none else none else X3 (v3,b0,())
def Gf:Nat→(Aa)→(Int)→((List Int)×Int×Unit) →  Option ((Aa)×((List Int)×Int×Unit)×Unit)
 | 0,_,_,_=>none
 | m + 1,v3,v4,b0=>L5  (fun d=>Gf m d.1 d.2.1 d.2.2.1) (fun d=>some (d)) v3 v4 b0
def Ai3 (d:(Aa)×(Int)×((List Int)×Int×Unit)×Unit):Option ((Aa)×((List Int)×Int×Unit)×Unit):=(Ac (Ac (Ac Ah))) (Gf ((Ac (Ac (Ac Ah))) L4 d)) d
def O8 (a0:(List Int)×Int×Unit):Option ((((Aa)×Unit)×(((List Int)×Int×Unit)×Unit))):=
 ((Ab a0 8).bind fun val=>some ((val.1,()),val.2,())).bind fun val=>bif val.1.1==0 then some ((Ad,()),val.2) else bif val.1.1==1 then some ((ByteArray.mk #[0,255],()),val.2) else bif val.1.1==2 then ((Ab val.2.1 21).bind fun val=>some ((val.1,()),val.2,())).bind fun val=>(Pw (ByteArray.mk #[108,111,110,103]) (IntKind.i64.wrap (5 + val.1.1))).bind fun val_1=>some (val_1.1,val.2) else bif val.1.1==3 then some ((ByteArray.mk #[45],()),val.2) else ((Ab val.2.1 4).bind fun val=>some ((val.1,()),val.2,())).bind fun val=>((fun d=>Gf (L4 d.1 d.2.1 d.2.2.1) d.1 d.2.1 d.2.2.1) (Ad,IntKind.i64.wrap (1 + val.1.1),val.2)).bind fun val=>some ((val.1,()),val.2)
theorem Aad:∃ f,f=@O8:=⟨_,rfl⟩
def Hy:=Classical.choose Aad
theorem Aae:@Hy=@O8:=Classical.choose_spec Aad
def Aaf:SD:=⟨Ars,fun x=>Hy x.1⟩
theorem A9w:∀ (m n:Nat) (k:Nat) (v3:Aa) (r:Rd),n < m→n≤10→v3.size + n≤100→RdK k r→k + n < 1099511627776→Av (Gf m v3 n r) fun q=>q.1.size≤100∧RdK (k + n) q.2.1
 | 0,n,k,v3,r,h,_,_,_,_=>by omega
 | m + 1,n,k,v3,r,h,hn,hs,hr,hk=>by
  simp only [Gf,L5]
  refine Av.cond (fun c=>?_) fun c=>?_
  ·have hp:0 < n:=by simpa using c
   refine Ek hr (by omega) (by omega) fun v r' v0 v1 h'=>?_
   have sz:((ByteArray.mk #[97,98,99,100]).size:Int)=4:=rfl
   have e1:=A1t (s:=ByteArray.mk #[97,98,99,100]) v0 (show v≤nI (ByteArray.mk #[97,98,99,100]).size by simp only [nI,sz]; omega) (Int.le_refl _)
   have e2:=A1t (s:=Ag (ByteArray.mk #[97,98,99,100]) v (nI (ByteArray.mk #[97,98,99,100]).size)) (i:=0) (j:=1) (by omega) (by omega) (by simp only [nI,sz] at e1 ⊢; omega)
   refine Av.go (Af v0) (Av.go (Af (show v≤_ by simp only [nI,sz]; omega)) (Av.go (Af (show 1≤nI (Ag (ByteArray.mk #[97,98,99,100]) v (nI (ByteArray.mk #[97,98,99,100]).size)).size by simp only [nI,sz] at e1 ⊢; omega)) (Av.go (Af (show v3.size + (Ag (Ag (ByteArray.mk #[97,98,99,100]) v (nI (ByteArray.mk #[97,98,99,100]).size)) 0 1).size≤_ by omega)) ?_)))
   have ew:IntKind.i64.wrap ((n:Int) - 1)=((n - 1:Nat):Int):=by rw [Aj (by omega) (by omega)]; omega
   rw [ew]
   refine (A9w m (n - 1) (k + 1) (v3++Ag (Ag (ByteArray.mk #[97,98,99,100]) v (nI (ByteArray.mk #[97,98,99,100]).size)) 0 1) r' (by omega) (by omega) (by rw [ByteArray.size_append]; omega) h' (by omega)).mono fun q hq=>⟨hq.1,?_⟩
   rw [show k + 1 + (n - 1)=k + n by omega] at hq
   exact hq.2
  ·have:n=0:=by simpa using c
   subst this
   exact Av.some ⟨by show v3.size≤100; omega,hr⟩
theorem Bp7 {k:Nat} {r:Rd} (h:RdK k r) (hk:k + 10 < 1099511627776):Av (Hy r) fun q=>q.1.1.size≤100∧RdK (k + 10) q.2.1:=by
 rw [Aae]
 unfold O8
 refine Ek h (by omega) (by omega) fun v r' v0 v1 h1=>?_
 refine Av.cond (fun _=>Av.some ⟨Nat.zero_le _,h1.mono (by omega)⟩) fun _=>Av.cond (fun _=>Av.some ⟨by show 2≤100; omega,h1.mono (by omega)⟩) fun _=>Av.cond (fun _=>?_) fun _=>Av.cond (fun _=>Av.some ⟨by show 1≤100; omega,h1.mono (by omega)⟩) fun _=>?_
 ·dsimp only
  refine Ek h1 (by omega) (by omega) fun v2 r2 w0 w1 h2=>?_
  dsimp only
  have ew:IntKind.i64.wrap (5 + v2)=5 + v2:=Aj (by omega) (by omega)
  simp only [ew]
  refine Av.bind (Bjn (ByteArray.mk #[108,111,110,103]) (5 + v2) (by omega) (by omega) (by decide)) fun q hq=>Av.some ⟨?_,h2.mono (by omega)⟩
  show q.1.1.size≤100
  rw [hq]
  show 4 * _≤100
  omega
 ·dsimp only
  refine Ek h1 (by omega) (by omega) fun v2 r2 w0 w1 h2=>?_
  dsimp only
  have ew:IntKind.i64.wrap (1 + v2)=((1 + v2).toNat:Int):=by rw [Aj (by omega) (by omega)]; omega
  simp only [ew]
  refine Av.bind (A9w _ (1 + v2).toNat (k + 2) (Ad) r2 (by simp only [L4]; omega) (by omega) (by show 0 + _≤100; omega) h2 (by omega)) fun q hq=>Av.some ⟨hq.1,hq.2.mono (by omega)⟩
def Vz {R:Type} (k:Kt R):=(L7 (Iv 13) (.exit 1) 3 k)
def Ach {R:Type}:Lt R Iv:=(Fp (pat:=Iv) 13 (fun d k=>(Ai3 d).bind (Vz k)) Ik)
theorem Aag:A5 Tryz.prog Aac:=Bb ⟨G5,Ame,trivial⟩
theorem Ai4 {R:Type}:Ba Tryz.prog R 33 1 Iv Ach Vy:=
 Cn (cfg:=⟨Aac,1,33,Iv⟩) 13 [] (fun NX X d=>(Ac (Ac (Ac Ah))) (L5  NX X) d) (fun m d=>(Ac (Ac (Ac Ah))) (Gf m) d) (fun d=>(Ac (Ac (Ac Ah))) L4 d) Vz Aag trivial (fun f NX d=>by simp only [u4,Ac,Ah]; unfold L5; simp only [nb])
theorem Art:B8 Tryz.prog 194 Aaf:=
 A7 (pat:=Iv) [Vy] Ach Aag ⟨Ai4,trivial⟩ Tryz.func194 (de:=fun x=>O8 x.1) (fun x r h=>by have q:Hy x.1=some r:=h; rw [Aae] at q; exact q) fun _=>by kernel_rfl
def Aob:Hh:=⟨[.bx 176 (.pair (.sl (.int .u8)) (.pair tI .unit))],[none],[.own 99 Dr],[none]⟩
def Zl:Tb:=tb [(63,Ff),(194,Aaf)]
def H8:Nat→Dq×(Nat→Dq):=Hk [(7,⟨[.row 3 0 99 Dr],[(0,.lf (.ptr 0 0)),(3,.lf (.row 1)),(4,.lf (.d tI)),(5,.lf (.d tI))],[.box 176 [.d (.pair (.sl (.int .u8)) (.pair tI .unit))],.row 99 Dr]⟩,[(2,⟨[.row 3 0 99 Dr],[(3,.lf (.row 1))],[.box 176 [.d (.pair (.sl (.int .u8)) (.pair tI .unit))],.row 99 Dr]⟩)])]
def V0:Code:=(Ax (Bm Tryz.f115)).getD 0 .skip
def Gg (v4 v5:Int) (b0:(List Int)×Int×Unit) (r1:List Bc):Nat:=(v4 - v5).toNat + 1
def L6 {R:Type}  (NX:((Int)×(Int)×((List Int)×Int×Unit)×(List Bc)×Unit)→Option R) (X2:(((List Int)×Int×Unit)×(List Bc)×Unit)→Option R) (v4:Int) (v5:Int) (b0:(List Int)×Int×Unit) (r1:List Bc):Option R:=
 bif decide (v5 < v4) then ((Ab b0 8).bind fun val=>some ((val.1,()),val.2,())).bind fun val=>bif decide (0≤val.1.1) then bif decide (val.1.1≤nI (ByteArray.mk #[97,98,99,100,101,102,103,104]).size) then bif decide (1≤nI (Ag (ByteArray.mk #[97,98,99,100,101,102,103,104]) val.1.1 (nI (ByteArray.mk #[97,98,99,100,101,102,103,104]).size)).size) then bif decide ((ByteArray.mk #[107]).size + (Ag (Ag (ByteArray.mk #[97,98,99,100,101,102,103,104]) val.1.1 (nI (ByteArray.mk #[97,98,99,100,101,102,103,104]).size)) 0 1).size≤9223372036854775807) then ((Ab val.2.1 4).bind fun val=>some ((val.1,()),val.2,())).bind fun val_1=>bif decide (v4 > 8) then ((Ab val_1.2.1 3).bind fun val=>some ((val.1,()),val.2,())).bind fun val_2=>bif decide (0≤val_2.1.1) then bif decide (val_2.1.1≤nI (ByteArray.mk #[120,121,122]).size) then bif decide (1≤nI (Ag (ByteArray.mk #[120,121,122]) val_2.1.1 (nI (ByteArray.mk #[120,121,122]).size)).size) then bif decide ((ByteArray.mk #[107]++Ag (Ag (ByteArray.mk #[97,98,99,100,101,102,103,104]) val.1.1 (nI (ByteArray.mk #[97,98,99,100,101,102,103,104]).size)) 0 1).size + (Ag (Ag (ByteArray.mk #[120,121,122]) val_2.1.1 (nI (ByteArray.mk #[120,121,122]).size)) 0 1).size≤9223372036854775807) then bif !val_1.1.1==0 then (Hy val_2.2.1).bind fun val_3=>bif decide (nI (ByteArray.size val_3.1.1) > 100) then bif decide (100≤nI (ByteArray.size val_3.1.1)) then bif decide ((r1.length + [(ByteArray.mk #[107]++Ag (Ag (ByteArray.mk #[97,98,99,100,101,102,103,104]) val.1.1 (nI (ByteArray.mk #[97,98,99,100,101,102,103,104]).size)) 0 1++Ag (Ag (ByteArray.mk #[120,121,122]) val_2.1.1 (nI (ByteArray.mk #[120,121,122]).size)) 0 1,Ag val_3.1.1 0 100,val_1.1.1==0,())].length) * 40≤140737488355328) then NX (v4,IntKind.i64.wrap (v5 + 1),val_3.2.1,r1++[(ByteArray.mk #[107]++Ag (Ag (ByteArray.mk #[97,98,99,100,101,102,103,104]) val.1.1 (nI (ByteArray.mk #[97,98,99,100,101,102,103,104]).size)) 0 1++Ag (Ag (ByteArray.mk #[120,121,122]) val_2.1.1 (nI (ByteArray.mk #[120,121,122]).size)) 0 1,Ag val_3.1.1 0 100,val_1.1.1==0,())],()) else none else none else bif decide ((r1.length + [(ByteArray.mk #[107]++Ag (Ag (ByteArray.mk #[97,98,99,100,101,102,103,104]) val.1.1 (nI (ByteArray.mk #[97,98,99,100,101,102,103,104]).size)) 0 1++Ag (Ag (ByteArray.mk #[120,121,122]) val_2.1.1 (nI (ByteArray.mk #[120,121,122]).size)) 0 1,val_3.1.1,val_1.1.1==0,())].length) * 40≤140737488355328) then NX (v4,IntKind.i64.wrap (v5 + 1),val_3.2.1,r1++[(ByteArray.mk #[107]++Ag (Ag (ByteArray.mk #[97,98,99,100,101,102,103,104]) val.1.1 (nI (ByteArray.mk #[97,98,99,100,101,102,103,104]).size)) 0 1++Ag (Ag (ByteArray.mk #[120,121,122]) val_2.1.1 (nI (ByteArray.mk #[120,121,122]).size)) 0 1,val_3.1.1,val_1.1.1==0,())],()) else none else bif decide ((r1.length + [(ByteArray.mk #[107]++Ag (Ag (ByteArray.mk #[97,98,99,100,101,102,103,104]) val.1.1 (nI (ByteArray.mk #[97,98,99,100,101,102,103,104]).size)) 0 1++Ag (Ag (ByteArray.mk #[120,121,122]) val_2.1.1 (nI (ByteArray.mk #[120,121,122]).size)) 0 1,Ad,val_1.1.1==0,())].length) * 40≤140737488355328) then NX (v4,IntKind.i64.wrap (v5 + 1),val_2.2.1,r1++[(ByteArray.mk #[107]++Ag (Ag (ByteArray.mk #[97,98,99,100,101,102,103,104]) val.1.1 (nI (ByteArray.mk #[97,98,99,100,101,102,103,104]).size)) 0 1++Ag (Ag (ByteArray.mk #[120,121,122]) val_2.1.1 (nI (ByteArray.mk #[120,121,122]).size)) 0 1,Ad,val_1.1.1==0,())],()) else none else none else none else none else none else bif !val_1.1.1==0 then (Hy val_1.2.1).bind fun val_2=>bif decide (nI (ByteArray.size val_2.1.1) > 100) then bif decide (100≤nI (ByteArray.size val_2.1.1)) then bif decide ((r1.length + [(ByteArray.mk #[107]++Ag (Ag (ByteArray.mk #[97,98,99,100,101,102,103,104]) val.1.1 (nI (ByteArray.mk #[97,98,99,100,101,102,103,104]).size)) 0 1,Ag val_2.1.1 0 100,val_1.1.1==0,())].length) * 40≤140737488355328) then NX (v4,IntKind.i64.wrap (v5 + 1),val_2.2.1,r1++[(ByteArray.mk #[107]++Ag (Ag (ByteArray.mk #[97,98,99,100,101,102,103,104]) val.1.1 (nI (ByteArray.mk #[97,98,99,100,101,102,103,104]).size)) 0 1,Ag val_2.1.1 0 100,val_1.1.1==0,())],()) else none else none else bif decide ((r1.length + [(ByteArray.mk #[107]++Ag (Ag (ByteArray.mk #[97,98,99,100,101,102,103,104]) val.1.1 (nI (ByteArray.mk #[97,98,99,100,101,102,103,104]).size)) 0 1,val_2.1.1,val_1.1.1==0,())].length) * 40≤140737488355328) then NX (v4,IntKind.i64.wrap (v5 + 1),val_2.2.1,r1++[(ByteArray.mk #[107]++Ag (Ag (ByteArray.mk #[97,98,99,100,101,102,103,104]) val.1.1 (nI (ByteArray.mk #[97,98,99,100,101,102,103,104]).size)) 0 1,val_2.1.1,val_1.1.1==0,())],()) else none else bif decide ((r1.length + [(ByteArray.mk #[107]++Ag (Ag (ByteArray.mk #[97,98,99,100,101,102,103,104]) val.1.1 (nI (ByteArray.mk #[97,98,99,100,101,102,103,104]).size)) 0 1,Ad,val_1.1.1==0,())].length) * 40≤140737488355328) then NX (v4,IntKind.i64.wrap (v5 + 1),val_1.2.1,r1++[(ByteArray.mk #[107]++Ag (Ag (ByteArray.mk #[97,98,99,100,101,102,103,104]) val.1.1 (nI (ByteArray.mk #[97,98,99,100,101,102,103,104]).size)) 0 1,Ad,val_1.1.1==0,())],()) else none else none else none else none else none else X2 (b0,r1,())
def B3:Nat→(Int)→(Int)→((List Int)×Int×Unit)→(List Bc) →  Option (((List Int)×Int×Unit)×(List Bc)×Unit)
 | 0,_,_,_,_=>none
 | m + 1,v4,v5,b0,r1=>L6  (fun d=>B3 m d.1 d.2.1 d.2.2.1 d.2.2.2.1) (fun d=>some (d)) v4 v5 b0 r1
def Ai5 (d:(Int)×(Int)×((List Int)×Int×Unit)×(List Bc)×Unit):Option (((List Int)×Int×Unit)×(List Bc)×Unit):=(u4 Ah) (B3 ((u4 Ah) Gg d)) d
def Nm (a0:(List Int)×Int×Unit):Option ((((List Bc)×Unit)×(((List Int)×Int×Unit)×Unit))):=
 ((Ab a0 4).bind fun val=>some ((val.1,()),val.2,())).bind fun val=>((Ab val.2.1 10).bind fun val=>some ((val.1,()),val.2,())).bind fun val_1=>bif val_1.1.1==0 then ((Ab val_1.2.1 2).bind fun val=>some ((val.1,()),val.2,())).bind fun val=>((fun d=>B3 (Gg d.1 d.2.1 d.2.2.1 d.2.2.2.1) d.1 d.2.1 d.2.2.1 d.2.2.2.1) (IntKind.i64.wrap (20 - val.1.1),0,val.2.1,[],())).bind fun val=>some (val.2,val.1,()) else ((fun d=>B3 (Gg d.1 d.2.1 d.2.2.1 d.2.2.2.1) d.1 d.2.1 d.2.2.1 d.2.2.2.1) (IntKind.i64.wrap (1 + val.1.1),0,val_1.2.1,[],())).bind fun val=>some (val.2,val.1,())
theorem Zm:∃ f,f=@Nm:=⟨_,rfl⟩
def Iw:=Classical.choose Zm
theorem Zn:@Iw=@Nm:=Classical.choose_spec Zm
def Zo:SD:=⟨Aob,fun x=>Iw x.1⟩
theorem A6a (n:Nat) (hn:n≤20):∀ (m i k:Nat) (r:Rd) (l:List Bc),n - i < m→i≤n→l.length=i→(∀ c∈l,A6w c)→RdK k r→k + 15 * (n - i) < 1099511627776→
  Av (B3 m n i r l) fun q=>RdK (k + 15 * (n - i)) q.1∧q.2.1.length=n∧∀ c∈q.2.1,A6w c
 | 0,i,k,r,l,h,_,_,_,_,_=>by omega
 | m + 1,i,k,r,l,h,hi,hl,hc,hr,hk=>by
  simp only [B3,L6]
  refine Av.cond (fun c=>?_) fun c=>?_
  ·have hi':i < n:=by simpa using c
   have fin:∀ (c:Bc) (r':Rd),A6w c→RdK (k + 15) r'→Av (bif decide ((l.length + [c].length) * 40≤140737488355328) then B3 m n (IntKind.i64.wrap ((i:Int) + 1)) r' (l++[c]) else none) fun q=>RdK (k + 15 * (n - i)) q.1∧q.2.1.length=n∧∀ c∈q.2.1,A6w c:=fun c r' h1 h2=>by
    refine Av.go (Af (by simp only [En]; omega)) ?_
    rw [wI (by omega)]
    refine (A6a n hn m (i + 1) (k + 15) r' (l++[c]) (by omega) (by omega) (by rw [Dn,En,hl]) (Bng hc h1) h2 (by omega)).mono fun q hq=>?_
    rw [show k + 15 + 15 * (n - (i + 1))=k + 15 * (n - i) by omega] at hq
    exact hq
   refine Ek hr (by omega) (by omega) fun v r1 v0 v1 h1=>?_
   dsimp only
   refine Av.letter v0 v1 fun s1=>?_
   generalize Ag (Ag (ByteArray.mk #[97,98,99,100,101,102,103,104]) v (nI (ByteArray.mk #[97,98,99,100,101,102,103,104]).size)) 0 1=c1 at *
   have k1:(ByteArray.mk #[107]++c1).size=2:=by rw [ByteArray.size_append,s1]; rfl
   refine Av.go (Af (by rw [s1]; decide)) ?_
   refine Ek h1 (by omega) (by omega) fun g r2 g0 g1 h2=>?_
   dsimp only
   have val:∀ (key:Aa) (r3:Rd),key.size≤1000→RdK (k + 3) r3→Av (bif !(g==0) then (Hy r3).bind fun val=>bif decide (nI (ByteArray.size val.1.1) > 100) then bif decide (100≤nI (ByteArray.size val.1.1)) then bif decide ((l.length + [((key,Ag val.1.1 0 100,g==0,()):Bc)].length) * 40≤140737488355328) then B3 m n (IntKind.i64.wrap ((i:Int) + 1)) val.2.1 (l++[(key,Ag val.1.1 0 100,g==0,())]) else none else none
     else bif decide ((l.length + [((key,val.1.1,g==0,()):Bc)].length) * 40≤140737488355328) then B3 m n (IntKind.i64.wrap ((i:Int) + 1)) val.2.1 (l++[(key,val.1.1,g==0,())]) else none
     else bif decide ((l.length + [((key,Ad,g==0,()):Bc)].length) * 40≤140737488355328) then B3 m n (IntKind.i64.wrap ((i:Int) + 1)) r3 (l++[(key,Ad,g==0,())]) else none) fun q=>RdK (k + 15 * (n - i)) q.1∧q.2.1.length=n∧∀ c∈q.2.1,A6w c:=fun key r3 hkey h3=>by
    refine Av.cond (fun _=>?_) fun _=>fin _ _ ⟨hkey,Nat.zero_le _⟩ (h3.mono (by omega))
    refine Av.bind (Bp7 h3 (by omega)) fun q hq=>?_
    refine Av.cond (fun c=>?_) fun c=>fin _ _ ⟨hkey,by show q.1.1.size≤1000; omega⟩ (hq.2.mono (by omega))
    exfalso
    have c:=G8 c
    simp only [nI] at c
    omega
   refine Av.cond (fun _=>?_) fun _=>val _ r2 (by rw [k1]; decide) (h2.mono (by omega))
   refine Ek h2 (by omega) (by omega) fun w r3 w0 w1 h3=>?_
   dsimp only
   refine Av.letter w0 w1 fun s2=>?_
   generalize Ag (Ag (ByteArray.mk #[120,121,122]) w (nI (ByteArray.mk #[120,121,122]).size)) 0 1=c2 at *
   refine Av.go (Af (by rw [s2,k1]; decide)) ?_
   exact val _ r3 (by rw [ByteArray.size_append,s2,k1]; decide) (h3.mono (by omega))
  ·have:i=n:=by have:=of_decide_eq_false c; omega
   subst this
   exact Av.some ⟨hr.mono (by omega),hl,hc⟩
theorem Bn2 {k:Nat} {r:Rd} (h:RdK k r) (hk:k + 400 < 1099511627776):Av (Iw r) fun q=>(1≤q.1.1.length∧q.1.1.length≤20∧∀ c∈q.1.1,A6w c)∧RdK (k + 400) q.2.1:=by
 rw [Zn]
 unfold Nm
 refine Ek h (by omega) (by omega) fun v r1 v0 v1 h1=>?_
 dsimp only
 refine Ek h1 (by omega) (by omega) fun w r2 w0 w1 h2=>?_
 dsimp only
 have fin:∀ (n:Nat) (x:Int) (r3:Rd),x=(n:Int)→1≤n→n≤20→RdK (k + 3) r3→Av ((B3 (Gg x 0 r3 []) x 0 r3 []).bind fun val=>some ((val.2.1,()),val.1,())) fun q=>(1≤q.1.1.length∧q.1.1.length≤20∧∀ c∈q.1.1,A6w c)∧RdK (k + 400) q.2.1:=fun n x r3 hx n1 n2 h3=>by
  subst hx
  refine Av.bind (A6a n n2 _ 0 (k + 3) r3 [] (by simp only [Gg]; omega) (by omega) rfl (fun c hc=>by cases hc) h3 (by omega)) fun q hq=>Av.some ⟨⟨by show 1≤q.2.1.length; omega,by show q.2.1.length≤20; omega,hq.2.2⟩,hq.1.mono (by omega)⟩
 refine Av.cond (fun _=>?_) fun _=>?_
 ·refine Ek h2 (by omega) (by omega) fun u r3 u0 u1 h3=>?_
  dsimp only
  exact fin (20 - u).toNat _ r3 (by rw [Aj (by omega) (by omega)]; omega) (by omega) (by omega) h3
 ·exact fin (1 + v).toNat _ r2 (by rw [Aj (by omega) (by omega)]; omega) (by omega) (by omega) (h2.mono (by omega))
def V1 {R:Type} (k:Kt R):=(L7 (H8 7) (.exit 0) 2 k)
def Aah {R:Type}:Lt R H8:=(Fp (pat:=H8) 7 (fun d k=>(Ai5 d).bind (V1 k)) Ik)
theorem Zp:A5 Tryz.prog Zl:=Bb ⟨G5,Art,trivial⟩
theorem Ai6 {R:Type}:Ba Tryz.prog R 60 1 H8 Aah V0:=
 Cn (cfg:=⟨Zl,1,60,H8⟩) 7 [] (fun NX X d=>(u4 Ah) (L6  NX X) d) (fun m d=>(u4 Ah) (B3 m) d) (fun d=>(u4 Ah) Gg d) V1 Zp trivial (fun f NX d=>by simp only [u4,Ac,Ah]; unfold L6; simp only [nb])
theorem Aoc:B8 Tryz.prog 115 Zo:=
 A7 (pat:=H8) [V0] Aah Zp ⟨Ai6,trivial⟩ Tryz.func115 (de:=fun x=>Nm x.1) (fun x r h=>by have q:Iw x.1=some r:=h; rw [Zn] at q; exact q) fun _=>by kernel_rfl
def G7 (v7:Int) (_:(List Int)×Int×Unit) (_:Int) (_:List Bc) (_:Int) (_:List Int) (_:Int) (_:List Bc) (_:Int) (_:List Int):Nat:=v7.toNat + 1
def A0p:Hh:=⟨[.bx 176 (.pair (.sl (.int .u8)) (.pair tI .unit)),.rd .bool],[none,none],[.rd Bdn],[some 4]⟩
def Aif:Tb:=tb [(63,Ff),(115,Zo)]
def Mm:Nat→Dq×(Nat→Dq):=Hk [(21,⟨[.boxSl 4 1 Dr,.boxSl 4 3 tI,.boxSl 5 1 Dr,.boxRow 5 3 3 tI],[(0,.lf (.ptr 0 0)),(4,.lf (.ptr 1 0)),(5,.lf (.ptr 2 0)),(7,.lf (.d tI))],[.box 176 [.d (.pair (.sl (.int .u8)) (.pair tI .unit))],.box 87 [.d tI,.d (.sl Dr),.d tI,.d (.sl tI)],.box 87 [.d tI,.d (.sl Dr),.d tI,.row 3],.row 3 tI]⟩,[(2,⟨[.boxSl 4 1 Dr,.boxSl 4 3 tI,.boxSl 5 1 Dr,.boxRow 5 3 3 tI],[(4,.lf (.ptr 1 0)),(5,.lf (.ptr 2 0))],[.box 176 [.d (.pair (.sl (.int .u8)) (.pair tI .unit))],.box 87 [.d tI,.d (.sl Dr),.d tI,.d (.sl tI)],.box 87 [.d tI,.d (.sl Dr),.d tI,.row 3],.row 3 tI]⟩)])]
def Aai:Code:=(Ax (Bm Tryz.f145)).getD 0 .skip
def Lz {R:Type}  (NX:((Int)×((List Int)×Int×Unit)×(Int)×(List Bc)×(Int)×(List Int)×(Int)×(List Bc)×(Int)×(List Int)×Unit)→Option R) (X2:(((List Int)×Int×Unit)×(Int)×(List Bc)×(Int)×(List Int)×(Int)×(List Bc)×(Int)×(List Int)×Unit)→Option R) (v7:Int) (b0:(List Int)×Int×Unit) (b1_0:Int) (b1_1:List Bc) (b1_2:Int) (b1_3:List Int) (b2_0:Int) (b2_1:List Bc) (b2_2:Int) (r3:List Int):Option R:=
 bif decide (v7 > 0) then ((Ab b0 63).bind fun val=>some ((val.1,()),val.2,())).bind fun val=>((Ab val.2.1 6).bind fun val=>some ((val.1,()),val.2,())).bind fun val_1=>bif decide (0≤val_1.1.1) then bif decide (val_1.1.1 < nI [0,64,64,IntKind.i64.wrap (1 + val.1.1),-1,65].length) then bif decide ((r3.length + [[0,64,64,IntKind.i64.wrap (1 + val.1.1),-1,65].getD (Int.toNat val_1.1.1) 0].length) * 8≤140737488355328) then NX (IntKind.i64.wrap (v7 - 1),val_1.2.1,b1_0,b1_1,b1_2,b1_3,b2_0,b2_1,b2_2,r3++[[0,64,64,IntKind.i64.wrap (1 + val.1.1),-1,65].getD (Int.toNat val_1.1.1) 0],()) else none else none else none else X2 (b0,b1_0,b1_1,b1_2,b1_3,b2_0,b2_1,b2_2,r3,())
def Dp:Nat→(Int)→((List Int)×Int×Unit)→(Int)→(List Bc)→(Int)→(List Int)→(Int)→(List Bc)→(Int)→(List Int) →  Option (((List Int)×Int×Unit)×(Int)×(List Bc)×(Int)×(List Int)×(Int)×(List Bc)×(Int)×(List Int)×Unit)
 | 0,_,_,_,_,_,_,_,_,_,_=>none
 | m + 1,v7,b0,b1_0,b1_1,b1_2,b1_3,b2_0,b2_1,b2_2,r3=>Lz  (fun d=>Dp m d.1 d.2.1 d.2.2.1 d.2.2.2.1 d.2.2.2.2.1 d.2.2.2.2.2.1 d.2.2.2.2.2.2.1 d.2.2.2.2.2.2.2.1 d.2.2.2.2.2.2.2.2.1 d.2.2.2.2.2.2.2.2.2.1) (fun d=>some (d)) v7 b0 b1_0 b1_1 b1_2 b1_3 b2_0 b2_1 b2_2 r3
def Ar (d:(Int)×((List Int)×Int×Unit)×(Int)×(List Bc)×(Int)×(List Int)×(Int)×(List Bc)×(Int)×(List Int)×Unit):Option (((List Int)×Int×Unit)×(Int)×(List Bc)×(Int)×(List Int)×(Int)×(List Bc)×(Int)×(List Int)×Unit):=(u4 (u4 (Ac (Ac Ah)))) (Dp ((u4 (u4 (Ac (Ac Ah)))) G7 d)) d
def Sh (a0:(List Int)×Int×Unit) (a1:Bool):Option (((T8×Unit)×(((List Int)×Int×Unit)×Unit))):=
 ((Ab a0 20).bind fun val=>some ((val.1,()),val.2,())).bind fun val=>bif !a1 then bif decide (val.1.1 < 16) then ((Ab val.2.1 4).bind fun val=>some ((val.1,()),val.2,())).bind fun val=>bif val.1.1==0 then ((Ab val.2.1 5).bind fun val=>some ((val.1,()),val.2,())).bind fun val=>((Ab val.2.1 4).bind fun val=>some ((val.1,()),val.2,())).bind fun val_1=>bif val_1.1.1==0 then ((Ab val_1.2.1 14).bind fun val=>some ((val.1,()),val.2,())).bind fun val=>((Ab val.2.1 8).bind fun val=>some ((val.1,()),val.2,())).bind fun val_2=>(Ar (val_2.1.1,val_2.2.1,0,[],0,[],1,[],val.1.1,[],())).bind fun val=>some ((val.2.2.2.2.2,()),val.1,()) else ((Ab val_1.2.1 8).bind fun val=>some ((val.1,()),val.2,())).bind fun val_2=>(Ar (val_2.1.1,val_2.2.1,0,[],0,[],1,[],val.1.1,[],())).bind fun val=>some ((val.2.2.2.2.2,()),val.1,()) else ((Ab val.2.1 8).bind fun val=>some ((val.1,()),val.2,())).bind fun val=>(Ar (val.1.1,val.2.1,0,[],0,[],1,[],-1,[],())).bind fun val=>some ((val.2.2.2.2.2,()),val.1,()) else bif decide (val.1.1 < 11) then (Iw val.2.1).bind fun val=>((Ab val.2.1 4).bind fun val=>some ((val.1,()),val.2,())).bind fun val_1=>bif val_1.1.1==0 then ((Ab val_1.2.1 5).bind fun val=>some ((val.1,()),val.2,())).bind fun val_2=>((Ab val_2.2.1 4).bind fun val=>some ((val.1,()),val.2,())).bind fun val_3=>bif val_3.1.1==0 then ((Ab val_3.2.1 14).bind fun val=>some ((val.1,()),val.2,())).bind fun val_4=>((Ab val_4.2.1 8).bind fun val=>some ((val.1,()),val.2,())).bind fun val_5=>(Ar (val_5.1.1,val_5.2.1,0,[],0,[],2,val.1.1,val_4.1.1,[],())).bind fun val=>some ((val.2.2.2.2.2,()),val.1,()) else ((Ab val_3.2.1 8).bind fun val=>some ((val.1,()),val.2,())).bind fun val_4=>(Ar (val_4.1.1,val_4.2.1,0,[],0,[],2,val.1.1,val_2.1.1,[],())).bind fun val=>some ((val.2.2.2.2.2,()),val.1,()) else ((Ab val_1.2.1 8).bind fun val=>some ((val.1,()),val.2,())).bind fun val_2=>(Ar (val_2.1.1,val_2.2.1,0,[],0,[],2,val.1.1,-1,[],())).bind fun val=>some ((val.2.2.2.2.2,()),val.1,()) else bif decide (val.1.1 < 14) then ((Ab val.2.1 4).bind fun val=>some ((val.1,()),val.2,())).bind fun val=>bif val.1.1==0 then ((Ab val.2.1 5).bind fun val=>some ((val.1,()),val.2,())).bind fun val=>((Ab val.2.1 4).bind fun val=>some ((val.1,()),val.2,())).bind fun val_1=>bif val_1.1.1==0 then ((Ab val_1.2.1 14).bind fun val=>some ((val.1,()),val.2,())).bind fun val=>((Ab val.2.1 8).bind fun val=>some ((val.1,()),val.2,())).bind fun val_2=>(Ar (val_2.1.1,val_2.2.1,0,[],0,[],3,[],val.1.1,[],())).bind fun val=>some ((val.2.2.2.2.2,()),val.1,()) else ((Ab val_1.2.1 8).bind fun val=>some ((val.1,()),val.2,())).bind fun val_2=>(Ar (val_2.1.1,val_2.2.1,0,[],0,[],3,[],val.1.1,[],())).bind fun val=>some ((val.2.2.2.2.2,()),val.1,()) else ((Ab val.2.1 8).bind fun val=>some ((val.1,()),val.2,())).bind fun val=>(Ar (val.1.1,val.2.1,0,[],0,[],3,[],-1,[],())).bind fun val=>some ((val.2.2.2.2.2,()),val.1,()) else bif decide (val.1.1 < 17) then ((Ab val.2.1 4).bind fun val=>some ((val.1,()),val.2,())).bind fun val=>bif val.1.1==0 then ((Ab val.2.1 5).bind fun val=>some ((val.1,()),val.2,())).bind fun val=>((Ab val.2.1 4).bind fun val=>some ((val.1,()),val.2,())).bind fun val_1=>bif val_1.1.1==0 then ((Ab val_1.2.1 14).bind fun val=>some ((val.1,()),val.2,())).bind fun val=>((Ab val.2.1 8).bind fun val=>some ((val.1,()),val.2,())).bind fun val_2=>(Ar (val_2.1.1,val_2.2.1,0,[],0,[],4,[],val.1.1,[],())).bind fun val=>some ((val.2.2.2.2.2,()),val.1,()) else ((Ab val_1.2.1 8).bind fun val=>some ((val.1,()),val.2,())).bind fun val_2=>(Ar (val_2.1.1,val_2.2.1,0,[],0,[],4,[],val.1.1,[],())).bind fun val=>some ((val.2.2.2.2.2,()),val.1,()) else ((Ab val.2.1 8).bind fun val=>some ((val.1,()),val.2,())).bind fun val=>(Ar (val.1.1,val.2.1,0,[],0,[],4,[],-1,[],())).bind fun val=>some ((val.2.2.2.2.2,()),val.1,()) else bif decide (val.1.1 < 19) then ((Ab val.2.1 4).bind fun val=>some ((val.1,()),val.2,())).bind fun val=>bif val.1.1==0 then ((Ab val.2.1 5).bind fun val=>some ((val.1,()),val.2,())).bind fun val=>((Ab val.2.1 4).bind fun val=>some ((val.1,()),val.2,())).bind fun val_1=>bif val_1.1.1==0 then ((Ab val_1.2.1 14).bind fun val=>some ((val.1,()),val.2,())).bind fun val=>((Ab val.2.1 8).bind fun val=>some ((val.1,()),val.2,())).bind fun val_2=>(Ar (val_2.1.1,val_2.2.1,0,[],0,[],5,[],val.1.1,[],())).bind fun val=>some ((val.2.2.2.2.2,()),val.1,()) else ((Ab val_1.2.1 8).bind fun val=>some ((val.1,()),val.2,())).bind fun val_2=>(Ar (val_2.1.1,val_2.2.1,0,[],0,[],5,[],val.1.1,[],())).bind fun val=>some ((val.2.2.2.2.2,()),val.1,()) else ((Ab val.2.1 8).bind fun val=>some ((val.1,()),val.2,())).bind fun val=>(Ar (val.1.1,val.2.1,0,[],0,[],5,[],-1,[],())).bind fun val=>some ((val.2.2.2.2.2,()),val.1,()) else ((Ab val.2.1 4).bind fun val=>some ((val.1,()),val.2,())).bind fun val=>bif decide (0≤val.1.1) then bif decide (val.1.1 < nI [1,2,0,6].length) then ((Ab val.2.1 4).bind fun val=>some ((val.1,()),val.2,())).bind fun val_1=>bif val_1.1.1==0 then ((Ab val_1.2.1 5).bind fun val=>some ((val.1,()),val.2,())).bind fun val_2=>((Ab val_2.2.1 4).bind fun val=>some ((val.1,()),val.2,())).bind fun val_3=>bif val_3.1.1==0 then ((Ab val_3.2.1 14).bind fun val=>some ((val.1,()),val.2,())).bind fun val_4=>((Ab val_4.2.1 8).bind fun val=>some ((val.1,()),val.2,())).bind fun val_5=>(Ar (val_5.1.1,val_5.2.1,0,[],0,[],[1,2,0,6].getD (Int.toNat val.1.1) 0,[],val_4.1.1,[],())).bind fun val=>some ((val.2.2.2.2.2,()),val.1,()) else ((Ab val_3.2.1 8).bind fun val=>some ((val.1,()),val.2,())).bind fun val_4=>(Ar (val_4.1.1,val_4.2.1,0,[],0,[],[1,2,0,6].getD (Int.toNat val.1.1) 0,[],val_2.1.1,[],())).bind fun val=>some ((val.2.2.2.2.2,()),val.1,()) else ((Ab val_1.2.1 8).bind fun val=>some ((val.1,()),val.2,())).bind fun val_2=>(Ar (val_2.1.1,val_2.2.1,0,[],0,[],[1,2,0,6].getD (Int.toNat val.1.1) 0,[],-1,[],())).bind fun val=>some ((val.2.2.2.2.2,()),val.1,()) else none else none else bif decide (val.1.1 < 11) then (Iw val.2.1).bind fun val=>((Ab val.2.1 4).bind fun val=>some ((val.1,()),val.2,())).bind fun val_1=>bif val_1.1.1==0 then ((Ab val_1.2.1 5).bind fun val=>some ((val.1,()),val.2,())).bind fun val_2=>((Ab val_2.2.1 4).bind fun val=>some ((val.1,()),val.2,())).bind fun val_3=>bif val_3.1.1==0 then ((Ab val_3.2.1 14).bind fun val=>some ((val.1,()),val.2,())).bind fun val_4=>((Ab val_4.2.1 8).bind fun val=>some ((val.1,()),val.2,())).bind fun val_5=>(Ar (val_5.1.1,val_5.2.1,0,[],0,[],2,val.1.1,val_4.1.1,[],())).bind fun val=>some ((val.2.2.2.2.2,()),val.1,()) else ((Ab val_3.2.1 8).bind fun val=>some ((val.1,()),val.2,())).bind fun val_4=>(Ar (val_4.1.1,val_4.2.1,0,[],0,[],2,val.1.1,val_2.1.1,[],())).bind fun val=>some ((val.2.2.2.2.2,()),val.1,()) else ((Ab val_1.2.1 8).bind fun val=>some ((val.1,()),val.2,())).bind fun val_2=>(Ar (val_2.1.1,val_2.2.1,0,[],0,[],2,val.1.1,-1,[],())).bind fun val=>some ((val.2.2.2.2.2,()),val.1,()) else bif decide (val.1.1 < 14) then ((Ab val.2.1 4).bind fun val=>some ((val.1,()),val.2,())).bind fun val=>bif val.1.1==0 then ((Ab val.2.1 5).bind fun val=>some ((val.1,()),val.2,())).bind fun val=>((Ab val.2.1 4).bind fun val=>some ((val.1,()),val.2,())).bind fun val_1=>bif val_1.1.1==0 then ((Ab val_1.2.1 14).bind fun val=>some ((val.1,()),val.2,())).bind fun val=>((Ab val.2.1 8).bind fun val=>some ((val.1,()),val.2,())).bind fun val_2=>(Ar (val_2.1.1,val_2.2.1,0,[],0,[],3,[],val.1.1,[],())).bind fun val=>some ((val.2.2.2.2.2,()),val.1,()) else ((Ab val_1.2.1 8).bind fun val=>some ((val.1,()),val.2,())).bind fun val_2=>(Ar (val_2.1.1,val_2.2.1,0,[],0,[],3,[],val.1.1,[],())).bind fun val=>some ((val.2.2.2.2.2,()),val.1,()) else ((Ab val.2.1 8).bind fun val=>some ((val.1,()),val.2,())).bind fun val=>(Ar (val.1.1,val.2.1,0,[],0,[],3,[],-1,[],())).bind fun val=>some ((val.2.2.2.2.2,()),val.1,()) else bif decide (val.1.1 < 17) then ((Ab val.2.1 4).bind fun val=>some ((val.1,()),val.2,())).bind fun val=>bif val.1.1==0 then ((Ab val.2.1 5).bind fun val=>some ((val.1,()),val.2,())).bind fun val=>((Ab val.2.1 4).bind fun val=>some ((val.1,()),val.2,())).bind fun val_1=>bif val_1.1.1==0 then ((Ab val_1.2.1 14).bind fun val=>some ((val.1,()),val.2,())).bind fun val=>((Ab val.2.1 8).bind fun val=>some ((val.1,()),val.2,())).bind fun val_2=>(Ar (val_2.1.1,val_2.2.1,0,[],0,[],4,[],val.1.1,[],())).bind fun val=>some ((val.2.2.2.2.2,()),val.1,()) else ((Ab val_1.2.1 8).bind fun val=>some ((val.1,()),val.2,())).bind fun val_2=>(Ar (val_2.1.1,val_2.2.1,0,[],0,[],4,[],val.1.1,[],())).bind fun val=>some ((val.2.2.2.2.2,()),val.1,()) else ((Ab val.2.1 8).bind fun val=>some ((val.1,()),val.2,())).bind fun val=>(Ar (val.1.1,val.2.1,0,[],0,[],4,[],-1,[],())).bind fun val=>some ((val.2.2.2.2.2,()),val.1,()) else bif decide (val.1.1 < 19) then ((Ab val.2.1 4).bind fun val=>some ((val.1,()),val.2,())).bind fun val=>bif val.1.1==0 then ((Ab val.2.1 5).bind fun val=>some ((val.1,()),val.2,())).bind fun val=>((Ab val.2.1 4).bind fun val=>some ((val.1,()),val.2,())).bind fun val_1=>bif val_1.1.1==0 then ((Ab val_1.2.1 14).bind fun val=>some ((val.1,()),val.2,())).bind fun val=>((Ab val.2.1 8).bind fun val=>some ((val.1,()),val.2,())).bind fun val_2=>(Ar (val_2.1.1,val_2.2.1,0,[],0,[],5,[],val.1.1,[],())).bind fun val=>some ((val.2.2.2.2.2,()),val.1,()) else ((Ab val_1.2.1 8).bind fun val=>some ((val.1,()),val.2,())).bind fun val_2=>(Ar (val_2.1.1,val_2.2.1,0,[],0,[],5,[],val.1.1,[],())).bind fun val=>some ((val.2.2.2.2.2,()),val.1,()) else ((Ab val.2.1 8).bind fun val=>some ((val.1,()),val.2,())).bind fun val=>(Ar (val.1.1,val.2.1,0,[],0,[],5,[],-1,[],())).bind fun val=>some ((val.2.2.2.2.2,()),val.1,()) else ((Ab val.2.1 4).bind fun val=>some ((val.1,()),val.2,())).bind fun val=>bif decide (0≤val.1.1) then bif decide (val.1.1 < nI [1,2,0,6].length) then ((Ab val.2.1 4).bind fun val=>some ((val.1,()),val.2,())).bind fun val_1=>bif val_1.1.1==0 then ((Ab val_1.2.1 5).bind fun val=>some ((val.1,()),val.2,())).bind fun val_2=>((Ab val_2.2.1 4).bind fun val=>some ((val.1,()),val.2,())).bind fun val_3=>bif val_3.1.1==0 then ((Ab val_3.2.1 14).bind fun val=>some ((val.1,()),val.2,())).bind fun val_4=>((Ab val_4.2.1 8).bind fun val=>some ((val.1,()),val.2,())).bind fun val_5=>(Ar (val_5.1.1,val_5.2.1,0,[],0,[],[1,2,0,6].getD (Int.toNat val.1.1) 0,[],val_4.1.1,[],())).bind fun val=>some ((val.2.2.2.2.2,()),val.1,()) else ((Ab val_3.2.1 8).bind fun val=>some ((val.1,()),val.2,())).bind fun val_4=>(Ar (val_4.1.1,val_4.2.1,0,[],0,[],[1,2,0,6].getD (Int.toNat val.1.1) 0,[],val_2.1.1,[],())).bind fun val=>some ((val.2.2.2.2.2,()),val.1,()) else ((Ab val_1.2.1 8).bind fun val=>some ((val.1,()),val.2,())).bind fun val_2=>(Ar (val_2.1.1,val_2.2.1,0,[],0,[],[1,2,0,6].getD (Int.toNat val.1.1) 0,[],-1,[],())).bind fun val=>some ((val.2.2.2.2.2,()),val.1,()) else none else none
theorem Aig:∃ f,f=@Sh:=⟨_,rfl⟩
def Qw:=Classical.choose Aig
theorem Aih:@Qw=@Sh:=Classical.choose_spec Aig
def Aii:SD:=⟨A0p,fun x=>Qw x.1 x.2.1⟩
theorem Bjo (x1:Int) (x2:List Bc) (x3:Int) (x4:List Int) (y1:Int) (y2:List Bc) (y3:Int):∀ (n m K:Nat) (r:Rd) (f:List Int),n < m→f.length + n≤100→RdK K r→K + 2 * n < 1000000000000→
  Av (Dp m n r x1 x2 x3 x4 y1 y2 y3 f) fun q=>RdK (K + 2 * n) q.1
 | 0,m + 1,K,r,f,_,_,h,_=>by
  simp only [Dp,Lz]
  exact Av.no (by rfl) (Av.some h)
 | n + 1,m + 1,K,r,f,hm,hf,h,hK=>by
  simp only [Dp,Lz]
  refine Av.go (Af (by omega)) ?_
  refine Ek h (by omega) (by omega) fun v r1 v0 v1 h1=>?_
  dsimp only
  refine Ek h1 (by omega) (by omega) fun u r2 u0 u1 h2=>?_
  dsimp only
  refine Av.go (Af u0) (Av.go (Af u1) (Av.go (Af (by rw [En]; omega)) ?_))
  rw [show IntKind.i64.wrap (((n + 1:Nat):Int) - 1)=(n:Int) by rw [Aj (by omega) (by omega)]; omega]
  refine (Bjo x1 x2 x3 x4 y1 y2 y3 n m (K + 1 + 1) r2 _ (by omega) (by rw [Dn,En]; omega) h2 (by omega)).mono fun q hq=>hq.mono (by omega)
theorem Bhs {K:Nat} {r:Rd} (kind:Int) (b:List Bc) (cut:Int) (h:RdK K r) (hK:K + 100 < 1000000000000):
  Av (((Ab r 8).bind fun val=>some ((val.1,()),val.2,())).bind fun val=>(Dp (G7 val.1.1 val.2.1 0 [] 0 [] kind b cut []) val.1.1 val.2.1 0 [] 0 [] kind b cut []).bind fun val=>some (((val.2.2.2.2.2,()),val.1,()):((T8×Unit)×(Rd×Unit)))) fun q=>RdK (K + 40) q.2.1:=by
 refine Ek h (by omega) (by omega) fun v r1 v0 v1 h1=>?_
 dsimp only
 obtain ⟨n,rfl⟩:∃ n:Nat,v=(n:Int):=⟨v.toNat,by omega⟩
 refine Av.bind (Bjo 0 [] 0 [] kind b cut n _ (K + 1) r1 [] (by simp only [G7]; omega) (by simp; omega) h1 (by omega)) fun q hq=>Av.some ?_
 exact hq.mono (by omega)
theorem Axw {K:Nat} {r:Rd} (kind:Int) (b:List Bc) (h:RdK K r) (hK:K + 200 < 1000000000000):
  Av (((Ab r 4).bind fun val=>some ((val.1,()),val.2,())).bind fun val_1=>bif val_1.1.1==0 then
   ((Ab val_1.2.1 5).bind fun val=>some ((val.1,()),val.2,())).bind fun val_2=>
    ((Ab val_2.2.1 4).bind fun val=>some ((val.1,()),val.2,())).bind fun val_3=>
     bif val_3.1.1==0 then
      ((Ab val_3.2.1 14).bind fun val=>some ((val.1,()),val.2,())).bind fun val_4=>
       ((Ab val_4.2.1 8).bind fun val=>some ((val.1,()),val.2,())).bind fun val=>(Dp (G7 val.1.1 val.2.1 0 [] 0 [] kind b val_4.1.1 []) val.1.1 val.2.1 0 [] 0 [] kind b val_4.1.1 []).bind fun val=>some (((val.2.2.2.2.2,()),val.1,()):((T8×Unit)×(Rd×Unit)))
     else
      ((Ab val_3.2.1 8).bind fun val=>some ((val.1,()),val.2,())).bind fun val=>(Dp (G7 val.1.1 val.2.1 0 [] 0 [] kind b val_2.1.1 []) val.1.1 val.2.1 0 [] 0 [] kind b val_2.1.1 []).bind fun val=>some (((val.2.2.2.2.2,()),val.1,()):((T8×Unit)×(Rd×Unit)))
   else
    ((Ab val_1.2.1 8).bind fun val=>some ((val.1,()),val.2,())).bind fun val=>(Dp (G7 val.1.1 val.2.1 0 [] 0 [] kind b (-1) []) val.1.1 val.2.1 0 [] 0 [] kind b (-1) []).bind fun val=>some (((val.2.2.2.2.2,()),val.1,()):((T8×Unit)×(Rd×Unit)))) fun q=>RdK (K + 50) q.2.1:=by
 refine Ek h (by omega) (by omega) fun v r1 v0 v1 h1=>?_
 dsimp only
 refine Av.cond (fun _=>?_) fun _=>(Bhs kind b (-1) h1 (by omega)).mono fun q hq=>hq.mono (by omega)
 refine Ek h1 (by omega) (by omega) fun c r2 c0 c1 h2=>?_
 dsimp only
 refine Ek h2 (by omega) (by omega) fun u r3 u0 u1 h3=>?_
 dsimp only
 refine Av.cond (fun _=>?_) fun _=>(Bhs kind b c h3 (by omega)).mono fun q hq=>hq.mono (by omega)
 refine Ek h3 (by omega) (by omega) fun z r4 z0 z1 h4=>?_
 dsimp only
 exact (Bhs kind b z h4 (by omega)).mono fun q hq=>hq.mono (by omega)
theorem Bn3 {K:Nat} {r:Rd} (up:Bool) (h:RdK K r) (hK:K + 1000 < 1000000000000):Av (Qw r up) fun q=>RdK (K + 500) q.2.1:=by
 rw [Aih]
 unfold Sh
 refine Ek h (by omega) (by omega) fun v r1 v0 v1 h1=>?_
 dsimp only
 refine Av.cond (fun _=>Av.cond (fun _=>(Axw 1 [] h1 (by omega)).mono fun q hq=>hq.mono (by omega)) fun _=>?_) fun _=>?_
 all_goals
  refine Av.cond (fun _=>?_) fun _=>Av.cond (fun _=>(Axw 3 [] h1 (by omega)).mono fun q hq=>hq.mono (by omega)) fun _=>Av.cond (fun _=>(Axw 4 [] h1 (by omega)).mono fun q hq=>hq.mono (by omega)) fun _=>Av.cond (fun _=>(Axw 5 [] h1 (by omega)).mono fun q hq=>hq.mono (by omega)) fun _=>?_
  ·refine Av.bind (Bn2 h1 (by omega)) fun q hq=>?_
   exact (Axw 2 q.1.1 hq.2 (by omega)).mono fun q hq=>hq.mono (by omega)
  ·refine Ek h1 (by omega) (by omega) fun c r2 c0 c1 h2=>?_
   dsimp only
   refine Av.go (Af c0) (Av.go (Af c1) ?_)
   exact (Axw _ [] h2 (by omega)).mono fun q hq=>hq.mono (by omega)
def Aaj {R:Type} (k:Kt R):=(L7 (Mm 21) (.exit 0) 2 k)
def Amf {R:Type}:Lt R Mm:=(Fp (pat:=Mm) 21 (fun d k=>(Ar d).bind (Aaj k)) Ik)
theorem Aij:A5 Tryz.prog Aif:=Bb ⟨G5,Aoc,trivial⟩
theorem Aru {R:Type}:Ba Tryz.prog R 71 1 Mm Amf Aai:=
 Cn (cfg:=⟨Aif,1,71,Mm⟩) 21 [] (fun NX X d=>(u4 (u4 (Ac (Ac Ah)))) (Lz  NX X) d) (fun m d=>(u4 (u4 (Ac (Ac Ah)))) (Dp m) d) (fun d=>(u4 (u4 (Ac (Ac Ah)))) G7 d) Aaj Aij trivial (fun f NX d=>by simp only [u4,Ac,Ah]; unfold Lz; simp only [nb])
theorem A0q:B8 Tryz.prog 145 Aii:=
 A7 (pat:=Mm) [Aai] Amf Aij ⟨Aru,trivial⟩ Tryz.func145 (de:=fun x=>Sh x.1 x.2.1) (fun x r h=>by have q:Qw x.1 x.2.1=some r:=h; rw [Aih] at q; exact q) fun _=>by kernel_rfl
def Qx:Aa:=zS
def A0r:Hh:=⟨[],[],[.rd .str],[none]⟩
def Aik:SD:=⟨A0r,fun x=>some (((Qx),()),(()))⟩
def Ail  : Option ((((Aa)×Unit)×(Unit))):=
 some ((strOfNums (List.replicate (Int.toNat 64) 0),()),())
theorem A0s  : Ail  = some ((Qx,()),(())):=rfl
theorem A0t:B8 Tryz.prog 155 Aik:=
 A7 (pat:=Ei) [] Ik (Bb (l:=[]) trivial) trivial Tryz.func155 (de:=fun x=>Ail ) (fun x r h=>(A0s ).trans h) fun _=>by kernel_rfl
def Hz (n:Int):Dk:=Kh n
def A0u:Hh:=⟨[.rd tI],[none],[.own 9 .str,.own 174 Ew],[some 2]⟩
def Aim:SD:=⟨A0u,fun x=>some (((Hz x.1).1,(Hz x.1).2.1,()),(()))⟩
def Ain:Tb:=tb [(155,Aik)]
def Mn:Nat→Dq×(Nat→Dq):=Hk [(6,⟨[.boxRow 2 0 9 .str,.boxRow 2 1 174 Ew,.boxRow 3 0 9 .str,.boxRow 3 1 174 Ew],[(0,.lf (.d tI)),(2,.lf (.ptr 0 0)),(3,.lf (.ptr 1 0)),(4,.lf (.d tI))],[.box 26 [.row 2,.row 3],.box 26 [.row 4,.row 5],.row 9 .str,.row 174 Ew,.row 9 .str,.row 174 Ew]⟩,[(2,⟨[.boxRow 2 0 9 .str,.boxRow 2 1 174 Ew,.boxRow 3 0 9 .str,.boxRow 3 1 174 Ew],[(2,.lf (.ptr 0 0)),(3,.lf (.ptr 1 0))],[.box 26 [.row 2,.row 3],.box 26 [.row 4,.row 5],.row 9 .str,.row 174 Ew,.row 9 .str,.row 174 Ew]⟩)])]
def Aci:Code:=(Ax (Bm Tryz.f144)).getD 0 .skip
def H0 (v0 v4:Int) (r2:List Aa) (r3:List Wr) (r4:List Aa) (r5:List Wr):Nat:=(v0 - v4).toNat + 1
def M7 {R:Type}  (NX:((Int)×(Int)×(List Aa)×(List Wr)×(List Aa)×(List Wr)×Unit)→Option R) (X2:((List Aa)×(List Wr)×(List Aa)×(List Wr)×Unit)→Option R) (v0:Int) (v4:Int) (r2:List Aa) (r3:List Wr) (r4:List Aa) (r5:List Wr):Option R:=
 bif decide (v4 < v0) then bif decide ((r4.length + [Qx].length) * 16≤140737488355328) then NX (v0,IntKind.i64.wrap (v4 + 1),r2,r3,r4++[Qx],r5,()) else none else X2 (r2,r3,r4,r5,())
def Dj:Nat→(Int)→(Int)→(List Aa)→(List Wr)→(List Aa)→(List Wr) →  Option ((List Aa)×(List Wr)×(List Aa)×(List Wr)×Unit)
 | 0,_,_,_,_,_,_=>none
 | m + 1,v0,v4,r2,r3,r4,r5=>M7  (fun d=>Dj m d.1 d.2.1 d.2.2.1 d.2.2.2.1 d.2.2.2.2.1 d.2.2.2.2.2.1) (fun d=>some (d)) v0 v4 r2 r3 r4 r5
def Ava (d:(Int)×(Int)×(List Aa)×(List Wr)×(List Aa)×(List Wr)×Unit):Option ((List Aa)×(List Wr)×(List Aa)×(List Wr)×Unit):=(u4 (Ac (Ac Ah))) (Dj ((u4 (Ac (Ac Ah))) H0 d)) d
def Yy (a0:Int):Option ((Dk×(Unit))):=
 bif decide (a0 < 8) then some (([],[],()),()) else bif decide (a0 > 200) then some (([],[],()),()) else ((fun d=>Dj (H0 d.1 d.2.1 d.2.2.1 d.2.2.2.1 d.2.2.2.2.1 d.2.2.2.2.2.1) d.1 d.2.1 d.2.2.1 d.2.2.2.1 d.2.2.2.2.1 d.2.2.2.2.2.1) (a0,0,[],[],[],[],())).bind fun val=>some (val.2.2,())
theorem A0v (a0:Int):Yy a0=some (((Hz a0).1,(Hz a0).2.1,()),(())):=by
 unfold Yy Hz Kh Bq
 by_cases k1:8≤a0
 ·have n1:¬ a0 < 8:=by omega
  rw [Af k1,Bd n1]
  by_cases k2:a0≤200
  ·have n2:¬ a0 > 200:=by omega
   rw [Af k2,Bd n2]
   obtain ⟨n,rfl⟩:∃ n:Nat,a0=(n:Int):=⟨a0.toNat,by omega⟩
   have hL:=A3e (n:=n) (fun _=>zS) (g:=fun m i r=>Dj m n i [] [] r []) (ok:=fun r=>([],[],r,[],())) (fun m i r hi hr=>by
    show Dj (m + 1) n i [] [] r []=_
    simp only [Dj,M7]
    have c1:(i:Int) < (n:Int):=by omega
    have c2:(List.length r + List.length [Qx]) * 16≤140737488355328:=by simp; omega
    rw [Af c1,wI (show i < 4611686018427387904 by omega),Af c2]
    rfl) (fun m r=>by
    show Dj (m + 1) n n [] [] r []=_
    simp only [Dj,M7]
    have c1:¬ (n:Int) < (n:Int):=by omega
    rw [Bd c1]
    rfl) (H0 n 0 [] [] [] []) 0 [] (by omega) (by simp [H0]) rfl
   have hL':Dj (H0 n 0 [] [] [] []) n 0 [] [] [] []=_:=hL
   show (Dj (H0 n 0 [] [] [] []) n 0 [] [] [] []).bind _=_
   rw [hL',Ajx,Nat.sub_zero]
   rfl
  ·have n2:a0 > 200:=by omega
   rw [Bd k2,Af n2]
   rfl
 ·have n1:a0 < 8:=by omega
  rw [Bd k1,Af n1]
  rfl
def Acj {R:Type} (k:Kt R):=(L7 (Mn 6) (.exit 0) 2 k)
def Amg {R:Type}:Lt R Mn:=(Fp (pat:=Mn) 6 (fun d k=>(Ava d).bind (Acj k)) Ik)
theorem Aio:A5 Tryz.prog Ain:=Bb ⟨A0t,trivial⟩
theorem Avb {R:Type}:Ba Tryz.prog R 25 0 Mn Amg Aci:=
 Cn (cfg:=⟨Ain,0,25,Mn⟩) 6 [] (fun NX X d=>(u4 (Ac (Ac Ah))) (M7  NX X) d) (fun m d=>(u4 (Ac (Ac Ah))) (Dj m) d) (fun d=>(u4 (Ac (Ac Ah))) H0 d) Acj Aio trivial (fun f NX d=>by simp only [u4,Ac,Ah]; unfold M7; simp only [nb])
theorem A0w:B8 Tryz.prog 144 Aim:=
 A7 (pat:=Mn) [Aci] Amg Aio ⟨Avb,trivial⟩ Tryz.func144 (de:=fun x=>Yy x.1) (fun x r h=>(A0v x.1).trans h) fun _=>by kernel_rfl
def Axx:Hh:=⟨[.rd tI,.rd tI],[none,none],[.rd I5],[some 16]⟩
def Oi (a0 a1:Int):Option (((Bo×Unit)×(Unit))):=
 bif nI (Hz a0).1.length==0 then some (((0,([],[],()),false,(0,0,0,(0,0,0,0,()),0,0,([],()),()),[],[],()),()),()) else (Co a1).bind fun val=>bif !val.1.1 then some (((0,([],[],()),false,(0,0,0,(0,0,0,0,()),0,0,([],()),()),[],[],()),()),()) else some (((a1,Hz a0,false,(0,0,0,(0,0,0,0,()),0,0,([],()),()),[([],())],[],()),()),())
def W9:SD:=⟨Axx,fun x=>Oi x.1 x.2.1⟩
theorem Afn:B8 Tryz.prog 50 W9:=
 A7 (pat:=Ei) [] Ik (Bb (l:=[(65,Dv),(144,Aim)]) ⟨Ej,A0w,trivial⟩) trivial Tryz.func50 (de:=fun x=>Oi x.1 x.2.1) (fun x r h=>h) fun _=>by kernel_rfl
def Aps:Hh:=⟨[.rd tI],[none],[.rd .str],[none]⟩
def Sd (mR_spec_l8Dec:(Int)→Option (((Aa)×Unit)×(Unit))) (a0:Int):Option (((Aa)×Unit)×(Unit)):=
 bif decide (a0 < 10) then some ((strOfNums [IntKind.u8.wrap (IntKind.i64.wrap (48 + a0))],()),()) else (mR_spec_l8Dec (IntKind.i64.wrap (a0.tdiv 10))).bind fun val=>bif decide (ByteArray.size val.1.1 + (strOfNums [IntKind.u8.wrap (IntKind.i64.wrap (48 + a0.tmod 10))]).size≤9223372036854775807) then some ((val.1.1++strOfNums [IntKind.u8.wrap (IntKind.i64.wrap (48 + a0.tmod 10))],()),()) else none
def Nh:Nat→(Int)→Option (((Aa)×Unit)×(Unit))
 | 0,_=>none
 | k + 1,a0=>Sd (Nh k) a0
def Apt (a0:Int):Option (((Aa)×Unit)×(Unit)):=Nh 8 a0
def Amh (k:Nat):SD:=⟨Aps,fun x=>Nh k x.1⟩
theorem Apu:∃ f,f=@Apt:=⟨_,rfl⟩
def Vk:=Classical.choose Apu
theorem Apv:@Vk=@Apt:=Classical.choose_spec Apu
def Apw:SD:=⟨Aps,fun x=>Vk x.1⟩
theorem Bqx:∀ (k:Nat) (n:Int),k≤7→0≤n→n < 10 ^ (k + 1)→Av (Nh (k + 1) n) fun q=>q.1.1.size≤k + 1
 | 0,n,_,h0,h1=>by
  simp only [Nh,Sd]
  exact Av.go (Af (by simpa using h1)) (Av.some (by rw [D3]; simp))
 | k + 1,n,hk,h0,h1=>by
  show Av (Sd (Nh (k + 1)) n) _
  unfold Sd
  refine Av.cond (fun _=>Av.some (by rw [D3]; simp)) fun c=>?_
  have c:=of_decide_eq_false c
  have hd:n.tdiv 10=n / 10:=Int.tdiv_eq_ediv_of_nonneg h0
  have hp:(10:Int) ^ (k + 1 + 1)=10 ^ (k + 1) * 10:=Int.pow_succ 10 (k + 1)
  have hb:(10:Int) ^ (k + 1 + 1)≤1000000000:=by
   have:k=0∨k=1∨k=2∨k=3∨k=4∨k=5∨k=6:=by omega
   rcases this with rfl | rfl | rfl | rfl | rfl | rfl | rfl<;>decide
  rw [hd,Aj (n:=n / 10) (by omega) (by omega)]
  refine Av.bind (Bqx k (n / 10) (by omega) (by omega) (by omega)) fun q hq=>?_
  refine Av.go (Af ?_) (Av.some ?_)
  ·rw [D3,En]; omega
  ·show (q.1.1++strOfNums _).size≤_
   rw [ByteArray.size_append,D3,En]; omega
theorem Brx {n:Int} (h0:0≤n) (h1:n < 100000000):Av (Vk n) fun q=>q.1.1.size≤8:=by
 rw [Apv]
 exact Bqx 7 n (by decide) h0 (by rw [show (10:Int) ^ (7 + 1)=100000000 by decide]; exact h1)
theorem Adg:∀ k,B8 Tryz.prog 215 (Amh k)
 | 0=>⟨⟨_,Tryz.func215,by kernel_rfl,by kernel_rfl⟩,fun x r h=>by cases h⟩
 | k + 1=>A7 (pat:=Ei) [] Ik (Bb (l:=[(215,Amh k)]) ⟨Adg k,trivial⟩) trivial Tryz.func215 (de:=fun x=>Sd (Nh k) x.1) (fun x r h=>h) fun _=>by kernel_rfl
theorem A7x:B8 Tryz.prog 215 Apw:=⟨(Adg 8).1,fun x r h=>(Adg 8).2 x r (by have q:Vk x.1=some r:=h; rw [Apv] at q; exact q)⟩
def Tf (_:Int) (_:List Bc) (_:Aa) (v8:Int) (_:(List Int)×Int×Unit) (_ _:Bo) (_:Pl):Nat:=(60 - v8).toNat + 1
def P6 (v4:Int) (_:(List Int)×Int×Unit) (_ _:Bo):Nat:=(60 - v4).toNat + 1
def A0x:Hh:=⟨[.bx 176 (.pair (.sl (.int .u8)) (.pair tI .unit))],[none],[.rd I5],[some 16]⟩
def Yz:Tb:=tb [(16,Ri),(36,U2),(50,W9),(63,Ff),(131,Ag6),(195,Aab),(215,Apw)]
def Dz:Nat→Dq×(Nat→Dq):=Hk [(4,⟨[.boxSl 2 1 .str,.boxSl 2 2 Ew,.boxSl 2 13 A1,.boxSl 2 14 F0,.boxSl 2 15 .str,.boxSl 3 1 .str,.boxSl 3 2 Ew,.boxSl 3 13 A1,.boxSl 3 14 F0,.boxSl 3 15 .str],[(0,.lf (.ptr 0 0)),(2,.lf (.ptr 1 0)),(3,.lf (.ptr 2 0)),(4,.lf (.d tI))],[.box 176 [.d (.pair (.sl (.int .u8)) (.pair tI .unit))],.box 36 [.d I5],.box 36 [.d I5]]⟩,[(2,⟨[.boxSl 2 1 .str,.boxSl 2 2 Ew,.boxSl 2 13 A1,.boxSl 2 14 F0,.boxSl 2 15 .str,.boxSl 3 1 .str,.boxSl 3 2 Ew,.boxSl 3 13 A1,.boxSl 3 14 F0,.boxSl 3 15 .str],[(2,.lf (.ptr 1 0)),(3,.lf (.ptr 2 0))],[.box 176 [.d (.pair (.sl (.int .u8)) (.pair tI .unit))],.box 36 [.d I5],.box 36 [.d I5]]⟩),(1,⟨[.boxSl 2 1 .str,.boxSl 2 2 Ew,.boxSl 2 13 A1,.boxSl 2 14 F0,.boxSl 2 15 .str],[(2,.lf (.ptr 1 0))],[.box 176 [.d (.pair (.sl (.int .u8)) (.pair tI .unit))],.box 36 [.d I5]]⟩)]),(12,⟨[.sl 5 0 Dr,.boxSl 2 1 .str,.boxSl 2 2 Ew,.boxSl 2 13 A1,.boxSl 2 14 F0,.boxSl 2 15 .str,.boxSl 3 1 .str,.boxSl 3 2 Ew,.boxSl 3 13 A1,.boxSl 3 14 F0,.boxSl 3 15 .str,.boxSl 6 10 A1,.boxSl 6 11 E4],[(0,.lf (.ptr 0 0)),(2,.lf (.ptr 1 0)),(3,.lf (.ptr 2 0)),(4,.lf (.d tI)),(5,.lf (.d (.sl Dr))),(6,.lf (.ptr 3 0)),(7,.lf (.d .str)),(8,.lf (.d tI))],[.box 176 [.d (.pair (.sl (.int .u8)) (.pair tI .unit))],.box 36 [.d I5],.box 36 [.d I5],.box 68 [.d Bkg]]⟩,[(4,⟨[.boxSl 2 1 .str,.boxSl 2 2 Ew,.boxSl 2 13 A1,.boxSl 2 14 F0,.boxSl 2 15 .str,.boxSl 3 1 .str,.boxSl 3 2 Ew,.boxSl 3 13 A1,.boxSl 3 14 F0,.boxSl 3 15 .str],[(0,.lf (.ptr 0 0)),(2,.lf (.ptr 1 0)),(3,.lf (.ptr 2 0)),(4,.lf (.d tI))],[.box 176 [.d (.pair (.sl (.int .u8)) (.pair tI .unit))],.box 36 [.d I5],.box 36 [.d I5]]⟩),(1,⟨[.boxSl 2 1 .str,.boxSl 2 2 Ew,.boxSl 2 13 A1,.boxSl 2 14 F0,.boxSl 2 15 .str],[(2,.lf (.ptr 1 0))],[.box 176 [.d (.pair (.sl (.int .u8)) (.pair tI .unit))],.box 36 [.d I5]]⟩)])]
def Vm:Code:=(Ax (Bm Tryz.f172)).getD 0 .skip
def Aak:Code:=(Ax Vm).getD 0 .skip
def L1 {R:Type}  (NX:((Int)×(List Bc)×(Aa)×(Int)×((List Int)×Int×Unit)×Bo×Bo×Pl×Unit)→Option R) (X4:((Int)×((List Int)×Int×Unit)×Bo×Bo×Unit)→Option R) (X1:(((List Int)×Int×Unit)×Bo×Unit)→Option R) (v4:Int) (v5:List Bc) (v7:Aa) (v8:Int) (b0:(List Int)×Int×Unit) (b1:Bo) (b2:Bo) (b3:Pl):Option R:=
 bif decide (v8 < 60) then bif decide (0 < nI (List.length b3.2.2.1)) then bif decide (0≤v8) then bif decide (v8≤nI (ByteArray.size (List.getD b3.2.2.1 (Int.toNat 0) (false,0,Ad,())).2.2.1)) then bif decide (0≤v8) then bif decide (v8≤nI v7.size) then bif decide ((Ag (List.getD b3.2.2.1 (Int.toNat 0) (false,0,Ad,())).2.2.1 0 v8).size + (Ag v7 v8 (nI v7.size)).size≤9223372036854775807) then bif (Am (Ag (List.getD b3.2.2.1 (Int.toNat 0) (false,0,Ad,())).2.2.1 0 v8++Ag v7 v8 (nI v7.size)) 1).2 then bif decide (0 < nI (List.length b3.2.2.1)) then bif !(Ag (List.getD b3.2.2.1 (Int.toNat 0) (false,0,Ad,())).2.2.1 0 v8++Ag v7 v8 (nI v7.size)).toList==ByteArray.toList (List.getD b3.2.2.1 (Int.toNat 0) (false,0,Ad,())).2.2.1 then (Oq b2 (2,v5,1,[v8],())).bind fun val=>X1 (b0,val.1) else NX (v4,v5,v7,IntKind.i64.wrap (v8 + 1),b0,b1,b2,b3,()) else none else NX (v4,v5,v7,IntKind.i64.wrap (v8 + 1),b0,b1,b2,b3,()) else none else none else none else none else none else none else X4 (v4,b0,b1,b2,())
def Ix:Nat→(Int)→(List Bc)→(Aa)→(Int)→((List Int)×Int×Unit)→Bo→Bo→Pl →  Option (((Int)×((List Int)×Int×Unit)×Bo×Bo×Unit) ⊕ (((List Int)×Int×Unit)×Bo×Unit))
 | 0,_,_,_,_,_,_,_,_=>none
 | m + 1,v4,v5,v7,v8,b0,b1,b2,b3=>L1  (fun d=>Ix m d.1 d.2.1 d.2.2.1 d.2.2.2.1 d.2.2.2.2.1 d.2.2.2.2.2.1 d.2.2.2.2.2.2.1 d.2.2.2.2.2.2.2.1) (fun d=>some (.inl (d))) (fun d=>some (.inr (d))) v4 v5 v7 v8 b0 b1 b2 b3
def Tg (d:(Int)×(List Bc)×(Aa)×(Int)×((List Int)×Int×Unit)×Bo×Bo×Pl×Unit):Option (((Int)×((List Int)×Int×Unit)×Bo×Bo×Unit) ⊕ (((List Int)×Int×Unit)×Bo×Unit)):=(u4 (u4 Ah)) (Ix ((u4 (u4 Ah)) Tf d)) d
def M8 {R:Type} (LO12:((Int)×(List Bc)×(Aa)×(Int)×((List Int)×Int×Unit)×Bo×Bo×Pl×Unit)→Option (((Int)×((List Int)×Int×Unit)×Bo×Bo×Unit) ⊕ (((List Int)×Int×Unit)×Bo×Unit))) (NX:((Int)×((List Int)×Int×Unit)×Bo×Bo×Unit)→Option R) (X2:(((List Int)×Int×Unit)×Bo×Bo×Unit)→Option R) (X1:(((List Int)×Int×Unit)×Bo×Unit)→Option R) (v4:Int) (b0:(List Int)×Int×Unit) (b1 b2:Bo):Option R:=
 bif decide (v4 < 60) then (Pw (ByteArray.mk #[118,119]) 20).bind fun val=>((Ab b0 900).bind fun val=>some ((val.1,()),val.2,())).bind fun val_1=>(Vk (IntKind.i64.wrap (v4 + val_1.1.1))).bind fun val_2=>bif decide (ByteArray.size val.1.1 + ByteArray.size val_2.1.1≤9223372036854775807) then bif (A0 b2.2.2.2.1 [(ByteArray.mk #[107],val.1.1++val_2.1.1,false,())]).1 != 0 then X1 (val_1.2.1,b2,()) else bif decide (0 < nI (A0 b2.2.2.2.1 [(ByteArray.mk #[107],val.1.1++val_2.1.1,false,())]).2.2.1.length) then bif decide (0≤((A0 b2.2.2.2.1 [(ByteArray.mk #[107],val.1.1++val_2.1.1,false,())]).2.2.1.getD (Int.toNat 0) (false,0,Ad,())).2.1) then bif decide (((A0 b2.2.2.2.1 [(ByteArray.mk #[107],val.1.1++val_2.1.1,false,())]).2.2.1.getD (Int.toNat 0) (false,0,Ad,())).2.1 < nI (List.length b2.2.1.1)) then (LO12 (v4,[(ByteArray.mk #[107],val.1.1++val_2.1.1,false,())],List.getD b2.2.1.1 (Int.toNat ((A0 b2.2.2.2.1 [(ByteArray.mk #[107],val.1.1++val_2.1.1,false,())]).2.2.1.getD (Int.toNat 0) (false,0,Ad,())).2.1) (Ad),10,val_1.2.1,b1,b2,A0 b2.2.2.2.1 [(ByteArray.mk #[107],val.1.1++val_2.1.1,false,())],())).bind fun val=>Cy (fun d=>NX (IntKind.i64.wrap (d.1 + 1),d.2)) (fun d=>X1 d) val else none else none else none else none else X2 (b0,b1,b2,())
def Ge:Nat→(Int)→((List Int)×Int×Unit)→Bo→Bo →  Option ((((List Int)×Int×Unit)×Bo×Bo×Unit) ⊕ (((List Int)×Int×Unit)×Bo×Unit))
 | 0,_,_,_,_=>none
 | m + 1,v4,b0,b1,b2=>M8 Tg (fun d=>Ge m d.1 d.2.1 d.2.2.1 d.2.2.2.1) (fun d=>some (.inl (d))) (fun d=>some (.inr (d))) v4 b0 b1 b2
def Avc (d:(Int)×((List Int)×Int×Unit)×Bo×Bo×Unit):Option ((((List Int)×Int×Unit)×Bo×Bo×Unit) ⊕ (((List Int)×Int×Unit)×Bo×Unit)):=(u4 Ah) (Ge ((u4 Ah) P6 d)) d
def Si (a0:(List Int)×Int×Unit):Option (((Bo×Unit)×(((List Int)×Int×Unit)×Unit))):=
 (Oq (1,(List.replicate (Int.toNat 12) (strOfNums (List.replicate 64 0)),[],()),false,(0,0,0,(0,0,0,0,()),0,0,([],()),()),[([],())],[],()) (1,[],-1,[],())).bind fun val=>((fun d=>Ge (P6 d.1 d.2.1 d.2.2.1 d.2.2.2.1) d.1 d.2.1 d.2.2.1 d.2.2.2.1) (0,a0,(0,([],[],()),false,(0,0,0,(0,0,0,0,()),0,0,([],()),()),[],[],()),val.1)).bind fun val=>Cy (fun d=>some (d.2.2,d.1,())) (fun d=>some (d.2,d.1,())) val
theorem Aip:∃ f,f=@Si:=⟨_,rfl⟩
def Qy:=Classical.choose Aip
theorem Aiq:@Qy=@Si:=Classical.choose_spec Aip
def Air:SD:=⟨A0x,fun x=>Qy x.1⟩
theorem Bqy (v4:Int) (v5:List Bc) (v7:Aa) (b0:Rd) (b1 b2:Bo) (b3:Pl) {K:Nat} (h0:RdK K b0) (hw:WOk b2) (h7:v7.size=64) (hops:0 < b3.2.2.1.length) (hd:(b3.2.2.1.getD 0 zOp).2.2.1.size=64):∀ (k m:Nat) (v8:Int),v8 + k=60→k < m→0≤v8→
  Av (Ix m v4 v5 v7 v8 b0 b1 b2 b3) fun q=>(∀ d,q=.inl d→d=(v4,b0,b1,b2,()))∧∀ d,q=.inr d→RdK K d.1∧WOk d.2.1
 | 0,m + 1,v8,hk,_,_=>by
  simp only [Ix,L1]
  exact Av.no (Bd (by omega)) (Av.some ⟨fun d q=>(by cases q; rfl),fun d q=>(by cases q)⟩)
 | k + 1,m + 1,v8,hk,hm,h8=>by
  have hd':(b3.2.2.1.getD (Int.toNat 0) (false,0,Ad,())).2.2.1.size=64:=hd
  have e1:IntKind.i64.wrap (v8 + 1)=v8 + 1:=Aj (by omega) (by omega)
  simp only [Ix,L1]
  refine Av.go (Af (by omega)) (Av.go (Af (by simp only [nI]; omega)) (Av.go (Af h8) (Av.go (Af (by rw [hd']; simp only [nI]; omega)) (Av.go (Af h8) (Av.go (Af (by rw [h7]; simp only [nI]; omega)) (Av.go (Af ?_) ?_))))))
  ·have a1:=Bmz (b3.2.2.1.getD (Int.toNat 0) (false,0,Ad,())).2.2.1 0 v8
   have a2:=Bmz v7 v8 (nI v7.size)
   omega
  ·rw [e1]
   have rec_:=Bqy v4 v5 v7 b0 b1 b2 b3 h0 hw h7 hops hd k m (v8 + 1) (by omega) (by omega) (by omega)
   refine Av.cond (fun _=>Av.go (Af (by simp only [nI]; omega)) (Av.cond (fun _=>?_) fun _=>rec_)) fun _=>rec_
   refine Av.bind (Bjm hw _) fun q hq=>Av.some ⟨fun d q=>(by cases q),fun d z=>?_⟩
   cases z
   refine ⟨h0,?_⟩
   show WOk q.1.1
   rw [hq]
   exact hw.doI _
theorem Bn4 (b1 b2:Bo) (hw:WOk b2):∀ (k m:Nat) (v4:Int) (b0:Rd) (K:Nat),v4 + k=60→k < m→0≤v4→RdK K b0→K + 10 * k < 1000000000000→
  Av (Ge m v4 b0 b1 b2) fun q=>(∀ d,q=.inl d→d.2=(b1,b2,())∧RdK (K + 10 * k) d.1)∧∀ d,q=.inr d→RdK (K + 10 * k) d.1∧WOk d.2.1
 | 0,m + 1,v4,b0,K,hk,_,_,h0,_=>by
  simp only [Ge,M8]
  exact Av.no (Bd (by omega)) (Av.some ⟨fun d q=>(by cases q; exact ⟨rfl,h0⟩),fun d q=>(by cases q)⟩)
 | k + 1,m + 1,v4,b0,K,hk,hm,h4,h0,hK=>by
  have e1:IntKind.i64.wrap (v4 + 1)=v4 + 1:=Aj (by omega) (by omega)
  simp only [Ge,M8]
  refine Av.go (Af (by omega)) ?_
  refine Av.bind (Bjn (ByteArray.mk #[118,119]) 20 (by decide) (by decide) (by decide)) fun q hq=>?_
  refine Ek h0 (by omega) (by omega) fun u r1 u0 u1 h1=>?_
  dsimp only
  rw [Aj (n:=v4 + u) (by omega) (by omega)]
  refine Av.bind (Brx (n:=v4 + u) (by omega) (by omega)) fun q2 hq2=>?_
  refine Av.go (Af (by rw [hq]; show 2 * 20 + _≤_; omega)) ?_
  refine Av.cond (fun _=>Av.some ⟨fun d q=>(by cases q),fun d z=>(by cases z; exact ⟨h1.mono (by omega),hw⟩)⟩) fun c=>?_
  have hc:(Bs b2.2.2.2.1 [(ByteArray.mk #[107],q.1.1++q2.1.1,false,())]).1=0:=by
   have c:((Bs b2.2.2.2.1 [(ByteArray.mk #[107],q.1.1++q2.1.1,false,())]).1 != 0)=false:=c
   simpa using c
  obtain ⟨o1,o2,o3,o4⟩:=Bku hc
  have hf:=hw.f (Aqm _ _ hc).1
  have hdk:=Ki hw.v
  have hlen:(b2.2.1.1.length:Int)=(b2.2.1.1.length:Int):=rfl
  refine Av.go (Af (by simp only [nI]; exact Int.ofNat_lt.2 o1)) (Av.go (Af o2) (Av.go (Af ?_) ?_))
  ·have o3':=o3
   rw [hf,hlen] at o3'
   exact o3'
  ·have hold:(b2.2.1.1.getD (Int.toNat ((Bs b2.2.2.2.1 [(ByteArray.mk #[107],q.1.1++q2.1.1,false,())]).2.2.1.getD 0 zOp).2.1) z0).size=64:=by
    refine hdk.sec _ ?_
    show _ < b2.2.1.1.length
    rw [hf,hlen] at o3
    omega
   refine Av.bind (Bqy v4 _ _ r1 b1 b2 _ h1 hw hold o1 o4 50 _ 10 (by omega) (by simp only [Tf]; omega) (by omega)) fun z hz=>?_
   cases z with
   | inl d=>
    have hd:=hz.1 d rfl
    subst hd
    show Av (Ge m (IntKind.i64.wrap (v4 + 1)) r1 b1 b2) _
    rw [e1]
    refine (Bn4 b1 b2 hw k m (v4 + 1) r1 (K + 1) (by omega) (by omega) (by omega) h1 (by omega)).mono fun y hy=>⟨fun d q=>?_,fun d q=>?_⟩
    ·obtain ⟨y1,y2⟩:=hy.1 d q
     exact ⟨y1,y2.mono (by omega)⟩
    ·obtain ⟨y1,y2⟩:=hy.2 d q
     exact ⟨y1.mono (by omega),y2⟩
   | inr d=>
    obtain ⟨y1,y2⟩:=hz.2 d rfl
    exact Av.some ⟨fun d q=>(by cases q),fun d q=>(by cases q; exact ⟨y1.mono (by omega),y2⟩)⟩
theorem Bn5 {K:Nat} {r:Rd} (h:RdK K r) (hK:K + 1000 < 1000000000000):Av (Qy r) fun q=>WOk q.1.1∧RdK (K + 600) q.2.1:=by
 rw [Aiq]
 unfold Si
 have h0:WOk (Beg 12 1):=WOk.new (by decide) (by decide)
 have e0:Beg 12 1=(1,(List.replicate (Int.toNat 12) (strOfNums (List.replicate 64 0)),[],()),false,(0,0,0,(0,0,0,0,()),0,0,([],()),()),[([],())],[],()):=rfl
 rw [← e0]
 refine Av.bind (Bjm h0 _) fun q hq=>?_
 have hw:WOk q.1.1:=by rw [hq]; exact h0.doI _
 refine Av.bind (Bn4 _ _ hw 60 _ 0 r K (by omega) (by simp only [P6]; omega) (by omega) h (by omega)) fun z hz=>?_
 cases z with
 | inl d=>
  obtain ⟨y1,y2⟩:=hz.1 d rfl
  obtain ⟨d0,d1⟩:=d
  have y1:d1=_:=y1
  subst y1
  exact Av.some ⟨hw,y2⟩
 | inr d=>
  obtain ⟨y1,y2⟩:=hz.2 d rfl
  exact Av.some ⟨y2,y1⟩
def Ack {R:Type} (k:Kt R):=(Cy (L7 (Dz 4) (.exit 0) 2 k) (L7 (Dz 4) .ret 1 k))
def Aal {R:Type} (k:Kt R):=(Cy (L7 (Dz 12) (.exit 2) 4 k) (L7 (Dz 12) .ret 1 k))
def Aam {R:Type}:Lt R Dz:=(Fp (pat:=Dz) 4 (fun d k=>(Avc d).bind (Ack k)) (Fp (pat:=Dz) 12 (fun d k=>(Tg d).bind (Aal k)) Ik))
theorem Y0:A5 Tryz.prog Yz:=Bb ⟨W5,s8,Afn,G5,Au9,Ame,A7x,trivial⟩
theorem Arv {R:Type}:Ba Tryz.prog R 83 1 Dz Aam Aak:=
 Cn (cfg:=⟨Yz,1,83,Dz⟩) 12 [] (fun NX X d=>(u4 (u4 Ah)) (L1  NX (fun e=>X (.inl (e))) (fun e=>X (.inr (e)))) d) (fun m d=>(u4 (u4 Ah)) (Ix m) d) (fun d=>(u4 (u4 Ah)) Tf d) Aal Y0 trivial (fun f NX d=>by simp only [u4,Ac,Ah]; unfold L1; simp only [nb])
theorem Avd {R:Type}:Ba Tryz.prog R 83 1 Dz Aam Vm:=
 Cn (cfg:=⟨Yz,1,83,Dz⟩) 4 [Aak] (fun NX X d=>(u4 Ah) (M8 Tg NX (fun e=>X (.inl (e))) (fun e=>X (.inr (e)))) d) (fun m d=>(u4 Ah) (Ge m) d) (fun d=>(u4 Ah) P6 d) Ack Y0 ⟨Arv,trivial⟩ (fun f NX d=>by simp only [u4,Ac,Ah]; unfold M8; simp only [nb])
theorem A0y:B8 Tryz.prog 172 Air:=
 A7 (pat:=Dz) [Vm] Aam Y0 ⟨Avd,trivial⟩ Tryz.func172 (de:=fun x=>Si x.1) (fun x r h=>by have q:Qy x.1=some r:=h; rw [Aiq] at q; exact q) fun _=>by kernel_rfl
def Aod:Hh:=⟨[.bx 176 (.pair (.sl (.int .u8)) (.pair tI .unit))],[none],[.rd tI],[none]⟩
def Nn (a0:(List Int)×Int×Unit):Option ((((Int)×Unit)×(((List Int)×Int×Unit)×Unit))):=
 ((Ab a0 6).bind fun val=>some ((val.1,()),val.2,())).bind fun val=>bif decide (0≤val.1.1) then bif decide (val.1.1 < nI [8,8,4,2,1,1].length) then some (([8,8,4,2,1,1].getD (Int.toNat val.1.1) 0,()),val.2) else none else none
theorem Zq:∃ f,f=@Nn:=⟨_,rfl⟩
def L2:=Classical.choose Zq
theorem Zr:@L2=@Nn:=Classical.choose_spec Zq
def Zs:SD:=⟨Aod,fun x=>L2 x.1⟩
theorem Bn6 {k:Nat} {r:Rd} (h:RdK k r) (hk:k < 1099511627776):Av (L2 r) fun q=>(1≤q.1.1∧q.1.1≤8)∧RdK (k + 1) q.2.1:=by
 rw [Zr]
 unfold Nn
 refine Ek h hk (by omega) fun v r' v0 v1 h'=>?_
 refine Av.go (Af v0) (Av.go (Af v1) (Av.some ⟨?_,h'⟩))
 exact Bg2 (Q:=fun x:Int=>1≤x∧x≤8) (by decide) v0 v1
theorem Aoe:B8 Tryz.prog 216 Zs:=
 A7 (pat:=Ei) [] Ik (Bb (l:=[(63,Ff)]) ⟨G5,trivial⟩) trivial Tryz.func216 (de:=fun x=>Nn x.1) (fun x r h=>by have q:L2 x.1=some r:=h; rw [Zr] at q; exact q) fun _=>by kernel_rfl
def A0z:Hh:=⟨[.bx 176 (.pair (.sl (.int .u8)) (.pair tI .unit))],[none],[.rd I5],[some 16]⟩
def Sj (a0:(List Int)×Int×Unit):Option (((Bo×Unit)×(((List Int)×Int×Unit)×Unit))):=
 ((Ab a0 7).bind fun val=>some ((val.1,()),val.2,())).bind fun val=>bif decide (0≤val.1.1) then bif decide (val.1.1 < nI [8,9,10,12,16,24,40].length) then (L2 val.2.1).bind fun val_1=>(Oi ([8,9,10,12,16,24,40].getD (Int.toNat val.1.1) 0) val_1.1.1).bind fun val=>some (val.1,val_1.2) else none else none
theorem Ais:∃ f,f=@Sj:=⟨_,rfl⟩
def Qz:=Classical.choose Ais
theorem Ait:@Qz=@Sj:=Classical.choose_spec Ais
def Aiu:SD:=⟨A0z,fun x=>Qz x.1⟩
theorem Bry {a w:Int} (h:Bq a 8 200=true) (hw:Bq w 1 8=true):Oi a w=some ((Beg a w,()),()):=by
 unfold Oi
 have hl:(Hz a).1.length=a.toNat:=(A1w h).2
 obtain ⟨h1,h2⟩:=Cw h
 rw [show (nI (Hz a).1.length==0)=false from beq_eq_false_iff_ne.2 (by rw [hl]; simp only [nI]; omega),show Co w=some ((Bq w 1 8,()),()) from wid w,hw]
 rfl
theorem Bn7 {K:Nat} {r:Rd} (h:RdK K r) (hK:K + 100 < 1000000000000):Av (Qz r) fun q=>WOk q.1.1∧RdK (K + 20) q.2.1:=by
 rw [Ait]
 unfold Sj
 refine Ek h (by omega) (by omega) fun v r1 v0 v1 h1=>?_
 dsimp only
 refine Av.go (Af v0) (Av.go (Af v1) ?_)
 have ha:=Bg2 (Q:=fun x:Int=>8≤x∧x≤40) (l:=[8,9,10,12,16,24,40]) (d:=0) (by decide) v0 v1
 generalize ([8,9,10,12,16,24,40]:List Int).getD v.toNat 0=a at *
 refine Av.bind (Bn6 h1 (by omega)) fun q hq=>?_
 have i1:Bq a 8 200=true:=by unfold Bq; rw [Af ha.1,Af (show a≤200 by omega)]; rfl
 have i2:Bq a 8 40=true:=by unfold Bq; rw [Af ha.1,Af ha.2]; rfl
 have i3:Bq q.1.1 1 8=true:=by unfold Bq; rw [Af hq.1.1,Af hq.1.2]; rfl
 refine Av.bind ⟨_,Bry i1 i3,rfl⟩ fun q2 hq2=>Av.some ⟨?_,hq.2.mono (by omega)⟩
 rw [← hq2]
 exact WOk.new i2 i3
theorem A00:B8 Tryz.prog 173 Aiu:=
 A7 (pat:=Ei) [] Ik (Bb (l:=[(50,W9),(63,Ff),(216,Zs)]) ⟨Afn,G5,Aoe,trivial⟩) trivial Tryz.func173 (de:=fun x=>Sj x.1) (fun x r h=>by have q:Qz x.1=some r:=h; rw [Ait] at q; exact q) fun _=>by kernel_rfl
def Np (v4:Int) (_:(List Int)×Int×Unit) (_ _:Bo):Nat:=v4.toNat + 1
def Ave:Hh:=⟨[.bx 176 (.pair (.sl (.int .u8)) (.pair tI .unit))],[none],[.rd tI,.own 9 .str,.own 174 Ew,.rd .bool,.rd tI,.rd tI,.rd tI,.rd tI,.rd tI,.rd tI,.rd tI,.rd tI,.rd tI,.rd (.sl A1),.own 31 F0,.own 9 .str],[some 16]⟩
def Acl:Tb:=tb [(63,Ff),(130,Alr),(131,Ag6),(145,Aii),(172,Air),(173,Aiu)]
def J0:Nat→Dq×(Nat→Dq):=Hk [(6,⟨[.boxSl 2 1 .str,.boxSl 2 2 Ew,.boxSl 2 13 A1,.boxSl 2 14 F0,.boxSl 2 15 .str,.boxSl 3 1 .str,.boxSl 3 2 Ew,.boxSl 3 13 A1,.boxSl 3 14 F0,.boxSl 3 15 .str],[(0,.lf (.ptr 0 0)),(2,.lf (.ptr 1 0)),(3,.lf (.ptr 2 0)),(4,.lf (.d tI))],[.box 176 [.d (.pair (.sl (.int .u8)) (.pair tI .unit))],.box 36 [.d I5],.box 36 [.d I5]]⟩,[(2,⟨[.boxSl 2 1 .str,.boxSl 2 2 Ew,.boxSl 2 13 A1,.boxSl 2 14 F0,.boxSl 2 15 .str,.boxSl 3 1 .str,.boxSl 3 2 Ew,.boxSl 3 13 A1,.boxSl 3 14 F0,.boxSl 3 15 .str],[(0,.lf (.ptr 0 0)),(2,.lf (.ptr 1 0)),(3,.lf (.ptr 2 0))],[.box 176 [.d (.pair (.sl (.int .u8)) (.pair tI .unit))],.box 36 [.d I5],.box 36 [.d I5]]⟩)])]
def Zt:Code:=(Ax (Bm Tryz.f93)).getD 0 .skip
def Kf {R:Type}  (NX:((Int)×((List Int)×Int×Unit)×Bo×Bo×Unit)→Option R) (X2:(((List Int)×Int×Unit)×Bo×Bo×Unit)→Option R) (v4:Int) (b0:(List Int)×Int×Unit) (b1:Bo) (b2:Bo):Option R:=
 bif decide (v4 > 0) then (Qw b0 b2.2.2.1).bind fun val=>(Oq b2 val.1.1).bind fun val_1=>NX (IntKind.i64.wrap (v4 - 1),val.2.1,b1,val_1.1) else X2 (b0,b1,b2,())
def F8:Nat→(Int)→((List Int)×Int×Unit)→Bo→Bo →  Option (((List Int)×Int×Unit)×Bo×Bo×Unit)
 | 0,_,_,_,_=>none
 | m + 1,v4,b0,b1,b2=>Kf  (fun d=>F8 m d.1 d.2.1 d.2.2.1 d.2.2.2.1) (fun d=>some (d)) v4 b0 b1 b2
def Aof (d:(Int)×((List Int)×Int×Unit)×Bo×Bo×Unit):Option (((List Int)×Int×Unit)×Bo×Bo×Unit):=(u4 Ah) (F8 ((u4 Ah) Np d)) d
def P7 (a0:(List Int)×Int×Unit):Option ((((Int)×(List Aa)×(List Wr)×(Bool)×(Int)×(Int)×(Int)×(Int)×(Int)×(Int)×(Int)×(Int)×(Int)×(List A2)×(List Cv)×(List Aa)×Unit)×(((List Int)×Int×Unit)×Unit))):=
 ((Ab a0 16).bind fun val=>some ((val.1,()),val.2,())).bind fun val=>bif val.1.1==0 then (Qy val.2.1).bind fun val=>(Nf val.1.1).bind fun val_1=>some (val_1.1,val.2) else (Qz val.2.1).bind fun val=>((Ab val.2.1 30).bind fun val=>some ((val.1,()),val.2,())).bind fun val_1=>((fun d=>F8 (Np d.1 d.2.1 d.2.2.1 d.2.2.2.1) d.1 d.2.1 d.2.2.1 d.2.2.2.1) (val_1.1.1,val_1.2.1,(0,([],[],()),false,(0,0,0,(0,0,0,0,()),0,0,([],()),()),[],[],()),val.1)).bind fun val=>((Ab val.1 4).bind fun val=>some ((val.1,()),val.2,())).bind fun val_2=>bif decide (val_2.1.1 > 0) then (Oq val.2.2.1 (1,[],-1,[],())).bind fun val=>(Nf val.1.1).bind fun val=>some (val.1,val_2.2) else (Nf val.2.2.1).bind fun val=>some (val.1,val_2.2)
theorem Acm:∃ f,f=@P7:=⟨_,rfl⟩
def Oj:=Classical.choose Acm
theorem Acn:@Oj=@P7:=Classical.choose_spec Acm
def Aco:SD:=⟨Ave,fun x=>Oj x.1⟩
theorem Bp8 (b1:Bo):∀ (n m K:Nat) (r:Rd) (x:Bo),n < m→n≤1000→RdK K r→K + 600 * n < 1000000000→WOk x→
  Av (F8 m n r b1 x) fun q=>RdK (K + 600 * n) q.1∧WOk q.2.2.1:=by
 intro n
 induction n with
 | zero=>
  intro m K r x hm _ h _ hw
  cases m with
  | zero=>omega
  | succ m=>
   simp only [F8,Kf]
   exact Av.no (by rfl) (Av.some ⟨h,hw⟩)
 | succ n ih=>
  intro m K r x hm hn h hK hw
  cases m with
  | zero=>omega
  | succ m=>
   simp only [F8,Kf]
   refine Av.go (Af (by omega)) ?_
   refine Av.bind (Bn3 _ h (by omega)) fun q hq=>?_
   refine Av.bind (Bjm hw _) fun z hz=>?_
   have hw':WOk z.1.1:=by rw [hz]; exact hw.doI _
   rw [show IntKind.i64.wrap (((n + 1:Nat):Int) - 1)=(n:Int) by rw [Aj (by omega) (by omega)]; omega]
   exact (ih m (K + 500) q.2.1 z.1.1 (by omega) (by omega) hq (by omega) hw').mono fun y hy=>⟨hy.1.mono (by omega),hy.2⟩
theorem Bht {K:Nat} {r:Rd} (h:RdK K r) (hK:K + 100000 < 1000000000):Av (Oj r) fun q=>WOk (unW q.1)∧RdK (K + 20000) q.2.1:=by
 rw [Acn]
 unfold P7
 refine Ek h (by omega) (by omega) fun v r1 v0 v1 h1=>?_
 dsimp only
 refine Av.cond (fun _=>?_) fun _=>?_
 ·refine Av.bind (Bn5 h1 (by omega)) fun q hq=>?_
  refine Av.bind (Bb3 hq.1) fun z hz=>Av.some ⟨?_,hq.2.mono (by omega)⟩
  show WOk (unW z.1)
  rw [hz]
  exact hq.1
 ·refine Av.bind (Bn7 h1 (by omega)) fun q hq=>?_
  refine Ek hq.2 (by omega) (by omega) fun u r2 u0 u1 h2=>?_
  dsimp only
  obtain ⟨n,rfl⟩:∃ n:Nat,u=(n:Int):=⟨u.toNat,by omega⟩
  refine Av.bind (Bp8 _ n _ _ r2 q.1.1 (by simp only [Np]; omega) (by omega) h2 (by omega) hq.1) fun y hy=>?_
  refine Ek hy.1 (by omega) (by omega) fun t r3 t0 t1 h3=>?_
  dsimp only
  refine Av.cond (fun _=>?_) fun _=>?_
  ·refine Av.bind (Bjm hy.2 _) fun z hz=>?_
   have hw':WOk z.1.1:=by rw [hz]; exact hy.2.doI _
   refine Av.bind (Bb3 hw') fun y hy=>Av.some ⟨?_,h3.mono (by omega)⟩
   show WOk (unW y.1)
   rw [hy]
   exact hw'
  ·refine Av.bind (Bb3 hy.2) fun z hz=>Av.some ⟨?_,h3.mono (by omega)⟩
   show WOk (unW z.1)
   rw [hz]
   exact hy.2
def Zu {R:Type} (k:Kt R):=(L7 (J0 6) (.exit 0) 2 k)
def Afo {R:Type}:Lt R J0:=(Fp (pat:=J0) 6 (fun d k=>(Aof d).bind (Zu k)) Ik)
theorem Acp:A5 Tryz.prog Acl:=Bb ⟨G5,A5r,Au9,A0q,A0y,A00,trivial⟩
theorem Aog {R:Type}:Ba Tryz.prog R 33 1 J0 Afo Zt:=
 Cn (cfg:=⟨Acl,1,33,J0⟩) 6 [] (fun NX X d=>(u4 Ah) (Kf  NX X) d) (fun m d=>(u4 Ah) (F8 m) d) (fun d=>(u4 Ah) Np d) Zu Acp trivial (fun f NX d=>by simp only [u4,Ac,Ah]; unfold Kf; simp only [nb])
theorem Avf:B8 Tryz.prog 93 Aco:=
 A7 (pat:=J0) [Zt] Afo Acp ⟨Aog,trivial⟩ Tryz.func93 (de:=fun x=>P7 x.1) (fun x r h=>by have q:Oj x.1=some r:=h; rw [Acn] at q; exact q) fun _=>by kernel_rfl
def Aoh:Hh:=⟨[.rd (.sl (.int .u8))],[none],[.rd I5],[some 16]⟩
def Nq (a0:List Int):Option (((Bo×Unit)×(Unit))):=
 (R9 a0).bind fun val=>(Oj val.1.1).bind fun val=>some (((val.1.1,(val.1.2.1,val.1.2.2.1,()),val.1.2.2.2.1,(val.1.2.2.2.2.1,val.1.2.2.2.2.2.1,val.1.2.2.2.2.2.2.1,(val.1.2.2.2.2.2.2.2.1,val.1.2.2.2.2.2.2.2.2.1,val.1.2.2.2.2.2.2.2.2.2.1,val.1.2.2.2.2.2.2.2.2.2.2.1,()),val.1.2.2.2.2.2.2.2.2.2.2.2.1,val.1.2.2.2.2.2.2.2.2.2.2.2.2.1,(val.1.2.2.2.2.2.2.2.2.2.2.2.2.2.1,()),()),val.1.2.2.2.2.2.2.2.2.2.2.2.2.2.2),()),())
theorem Zv:∃ f,f=@Nq:=⟨_,rfl⟩
def L3:=Classical.choose Zv
theorem Zw:@L3=@Nq:=Classical.choose_spec Zv
def Zx:SD:=⟨Aoh,fun x=>L3 x.1⟩
theorem A6b (b:List Int) (h:Ajs (.sl (.int .u8)) b):Av (L3 b) fun q=>WOk q.1.1:=by
 rw [Zw]
 unfold Nq
 refine Av.bind (Bp3 b h) fun q hq=>?_
 exact Av.bind (Bht hq (by omega)) fun x hx=>Av.some hx.1
theorem Aoi:B8 Tryz.prog 26 Zx:=
 A7 (pat:=Ei) [] Ik (Bb (l:=[(61,Aln),(93,Aco)]) ⟨A5m,Avf,trivial⟩) trivial Tryz.func26 (de:=fun x=>Nq x.1) (fun x r h=>by have q:L3 x.1=some r:=h; rw [Zw] at q; exact q) fun _=>by kernel_rfl
def Ok (n:Int):Dk:=Kh n
def A01:Hh:=⟨[.rd tI],[none],[.own 9 .str,.own 174 Ew],[some 2]⟩
def Aiv:SD:=⟨A01,fun x=>some (((Ok x.1).1,(Ok x.1).2.1,()),(()))⟩
def Aiw:Tb:=tb [(95,Do),(183,P3)]
def Mo:Nat→Dq×(Nat→Dq):=Hk [(6,⟨[.boxRow 2 0 9 .str,.boxRow 2 1 174 Ew,.boxRow 3 0 9 .str,.boxRow 3 1 174 Ew],[(0,.lf (.d tI)),(2,.lf (.ptr 0 0)),(3,.lf (.ptr 1 0)),(4,.lf (.d tI))],[.box 26 [.row 2,.row 3],.box 26 [.row 4,.row 5],.row 9 .str,.row 174 Ew,.row 9 .str,.row 174 Ew]⟩,[(2,⟨[.boxRow 2 0 9 .str,.boxRow 2 1 174 Ew,.boxRow 3 0 9 .str,.boxRow 3 1 174 Ew],[(2,.lf (.ptr 0 0)),(3,.lf (.ptr 1 0))],[.box 26 [.row 2,.row 3],.box 26 [.row 4,.row 5],.row 9 .str,.row 174 Ew,.row 9 .str,.row 174 Ew]⟩)])]
def Acq:Code:=(Ax (Bm Tryz.f207)).getD 0 .skip
def H3 (v0 v4:Int) (r2:List Aa) (r3:List Wr) (r4:List Aa) (r5:List Wr):Nat:=(v0 - v4).toNat + 1
def M9 {R:Type}  (NX:((Int)×(Int)×(List Aa)×(List Wr)×(List Aa)×(List Wr)×Unit)→Option R) (X2:((List Aa)×(List Wr)×(List Aa)×(List Wr)×Unit)→Option R) (v0:Int) (v4:Int) (r2:List Aa) (r3:List Wr) (r4:List Aa) (r5:List Wr):Option R:=
 bif decide (v4 < v0) then ((Acz (ByteArray.mk #[0]) 64).bind fun val=>some ((val,()),())).bind fun val=>bif decide ((r4.length + [val.1.1].length) * 16≤140737488355328) then NX (v0,IntKind.i64.wrap (v4 + 1),r2,r3,r4++[val.1.1],r5,()) else none else X2 (r2,r3,r4,r5,())
def Dl:Nat→(Int)→(Int)→(List Aa)→(List Wr)→(List Aa)→(List Wr) →  Option ((List Aa)×(List Wr)×(List Aa)×(List Wr)×Unit)
 | 0,_,_,_,_,_,_=>none
 | m + 1,v0,v4,r2,r3,r4,r5=>M9  (fun d=>Dl m d.1 d.2.1 d.2.2.1 d.2.2.2.1 d.2.2.2.2.1 d.2.2.2.2.2.1) (fun d=>some (d)) v0 v4 r2 r3 r4 r5
def Avg (d:(Int)×(Int)×(List Aa)×(List Wr)×(List Aa)×(List Wr)×Unit):Option ((List Aa)×(List Wr)×(List Aa)×(List Wr)×Unit):=(u4 (Ac (Ac Ah))) (Dl ((u4 (Ac (Ac Ah))) H3 d)) d
def Y1 (a0:Int):Option ((Dk×(Unit))):=
 bif !A9 a0 8 200 then some (([],[],()),()) else ((fun d=>Dl (H3 d.1 d.2.1 d.2.2.1 d.2.2.2.1 d.2.2.2.2.1 d.2.2.2.2.2.1) d.1 d.2.1 d.2.2.1 d.2.2.2.1 d.2.2.2.2.1 d.2.2.2.2.2.1) (a0,0,[],[],[],[],())).bind fun val=>some (val.2.2,())
theorem Bsr:Acz (ByteArray.mk #[0]) 64=some zS:=by
 unfold Acz
 rw [if_pos (by decide)]
 decide +kernel
theorem A02 (a0:Int):Y1 a0=some (((Ok a0).1,(Ok a0).2.1,()),(())):=by
 unfold Y1 Ok Kh
 show (bif !Bq a0 8 200 then _ else _)=_
 cases hin:Bq a0 8 200 with
 | false=>rfl
 | true=>
  have k1:=G8 (B2 hin).1
  have k2:=G8 (B2 hin).2
  obtain ⟨n,rfl⟩:∃ n:Nat,a0=(n:Int):=⟨a0.toNat,by omega⟩
  have hL:=A3e (n:=n) (fun _=>zS) (g:=fun m i r=>Dl m n i [] [] r []) (ok:=fun r=>([],[],r,[],())) (fun m i r hi hr=>by
   show Dl (m + 1) n i [] [] r []=_
   simp only [Dl,M9]
   have c1:(i:Int) < (n:Int):=by omega
   have c2:(List.length r + List.length [zS]) * 16≤140737488355328:=by simp; omega
   rw [Af c1,Bsr,wI (show i < 4611686018427387904 by omega)]
   simp only [Option.bind_some,cond_true]
   rw [Af c2]
   rfl) (fun m r=>by
   show Dl (m + 1) n n [] [] r []=_
   simp only [Dl,M9]
   have c1:¬ (n:Int) < (n:Int):=by omega
   rw [Bd c1]
   rfl) (H3 n 0 [] [] [] []) 0 [] (by omega) (by simp [H3]) rfl
  have hL':Dl (H3 n 0 [] [] [] []) n 0 [] [] [] []=_:=hL
  show (Dl (H3 n 0 [] [] [] []) n 0 [] [] [] []).bind _=_
  rw [hL',Ajx,Nat.sub_zero]
  rfl
def Acr {R:Type} (k:Kt R):=(L7 (Mo 6) (.exit 0) 2 k)
def Ami {R:Type}:Lt R Mo:=(Fp (pat:=Mo) 6 (fun d k=>(Avg d).bind (Acr k)) Ik)
theorem Aix:A5 Tryz.prog Aiw:=Bb ⟨D4,Abm,trivial⟩
theorem Avh {R:Type}:Ba Tryz.prog R 22 0 Mo Ami Acq:=
 Cn (cfg:=⟨Aiw,0,22,Mo⟩) 6 [] (fun NX X d=>(u4 (Ac (Ac Ah))) (M9  NX X) d) (fun m d=>(u4 (Ac (Ac Ah))) (Dl m) d) (fun d=>(u4 (Ac (Ac Ah))) H3 d) Acr Aix trivial (fun f NX d=>by simp only [u4,Ac,Ah]; unfold M9; simp only [nb])
theorem A03:B8 Tryz.prog 207 Aiv:=
 A7 (pat:=Mo) [Acq] Ami Aix ⟨Avh,trivial⟩ Tryz.func207 (de:=fun x=>Y1 x.1) (fun x r h=>(A02 x.1).trans h) fun _=>by kernel_rfl
def Axy:Hh:=⟨[.rd tI,.rd tI],[none,none],[.rd I5],[some 16]⟩
def Rm (a0 a1:Int):Option (((Bo×Unit)×(Unit))):=
 bif !A9 a0 8 200 then some (((0,([],[],()),false,(0,0,0,(0,0,0,0,()),0,0,([],()),()),[],[],()),()),()) else bif !A9 a1 1 8 then some (((0,([],[],()),false,(0,0,0,(0,0,0,0,()),0,0,([],()),()),[],[],()),()),()) else some (((a1,Ok a0,false,(0,0,0,(0,0,0,0,()),0,0,([],()),()),[([],())],[],()),()),())
theorem Afp:∃ f,f=@Rm:=⟨_,rfl⟩
def Pk:=Classical.choose Afp
theorem Afq:@Pk=@Rm:=Classical.choose_spec Afp
def Afr:SD:=⟨Axy,fun x=>Pk x.1 x.2.1⟩
theorem Bp9 {a w:Int} (h:Bq a 8 200=true) (hw:Bq w 1 8=true):Av (Pk a w) fun q=>q.1.1=Beg a w:=by
 rw [Afq]
 unfold Rm
 have e1:A9 a 8 200=Bq a 8 200:=rfl
 have e2:A9 w 1 8=Bq w 1 8:=rfl
 rw [e1,e2,h,hw]
 exact Av.some rfl
theorem Axz:B8 Tryz.prog 143 Afr:=
 A7 (pat:=Ei) [] Ik (Bb (l:=[(95,Do),(207,Aiv)]) ⟨D4,A03,trivial⟩) trivial Tryz.func143 (de:=fun x=>Rm x.1 x.2.1) (fun x r h=>by have q:Pk x.1 x.2.1=some r:=h; rw [Afq] at q; exact q) fun _=>by kernel_rfl
def A6c:Hh:=⟨[.rd (.sl (.int .u8))],[none],[.rd I5,.rd .bool],[some 16,none]⟩
def Vn (a0:List Int):Option (((Bo×(Bool)×Unit)×(Unit))):=
 (L3 a0).bind fun val=>(Pk (nI (List.length val.1.1.2.1.1)) val.1.1.1).bind fun val_1=>bif val_1.1.1.1==val.1.1.1 then some ((val_1.1.1,nI (List.length val_1.1.1.2.1.1)==nI (List.length val.1.1.2.1.1),()),()) else some ((val_1.1.1,false,()),())
theorem Amj:∃ f,f=@Vn:=⟨_,rfl⟩
def Se:=Classical.choose Amj
theorem Amk:@Se=@Vn:=Classical.choose_spec Amj
def Aml:SD:=⟨A6c,fun x=>Se x.1⟩
theorem Bn8 (b:List Int) (h:Ajs (.sl (.int .u8)) b):Av (Se b) fun q=>q.1.2.1=true∧∃ (n:Nat) (w:Int),8≤n∧n≤40∧Bq w 1 8=true∧q.1.1=Beg n w:=by
 rw [Amk]
 unfold Vn
 refine Av.bind (A6b b h) fun q hq=>?_
 have hd:=Ki hq.v
 have n8:=hd.n8
 have n40:=hq.n40
 have hi:Bq (nI q.1.1.2.1.1.length) 8 200=true:=by
  unfold Bq
  rw [Af (show 8≤nI q.1.1.2.1.1.length by simp only [nI]; omega),Af (show nI q.1.1.2.1.1.length≤200 by simp only [nI]; omega)]
  rfl
 refine Av.bind (Bp9 hi hq.hw) fun z hz=>?_
 rw [hz]
 have hl:(Beg (nI q.1.1.2.1.1.length) q.1.1.1).2.1.1.length=q.1.1.2.1.1.length:=(A1w hi).2.trans (by simp [nI])
 refine Av.go (beq_self_eq_true _) (Av.some ⟨?_,q.1.1.2.1.1.length,q.1.1.1,n8,n40,hq.hw,rfl⟩)
 show (nI (Beg (nI q.1.1.2.1.1.length) q.1.1.1).2.1.1.length==nI q.1.1.2.1.1.length)=true
 rw [hl]
 exact beq_self_eq_true _
theorem A6d:B8 Tryz.prog 49 Aml:=
 A7 (pat:=Ei) [] Ik (Bb (l:=[(26,Zx),(143,Afr)]) ⟨Aoi,Axz,trivial⟩) trivial Tryz.func49 (de:=fun x=>Vn x.1) (fun x r h=>by have q:Se x.1=some r:=h; rw [Amk] at q; exact q) fun _=>by kernel_rfl
def Rv (_:Int) (_:Bo):Nat:=200
def Q0 (_ v9:Int) (_:Bo):Nat:=(3 - v9).toNat + 1
def Avi:Hh:=⟨[.rd (.sl (.int .u8))],[none],[.rd .bool],[none]⟩
def Vo:Tb:=tb [(15,l8),(33,Aks),(36,U2),(45,A5i),(49,Aml)]
def C4:Nat→Dq×(Nat→Dq):=Hk [(9,⟨[.boxSl 3 1 .str,.boxSl 3 2 Ew,.boxSl 3 13 A1,.boxSl 3 14 F0,.boxSl 3 15 .str],[(3,.lf (.ptr 0 0)),(5,.lf (.d tI))],[.box 36 [.d I5]]⟩,[(2,⟨[.boxSl 3 1 .str,.boxSl 3 2 Ew,.boxSl 3 13 A1,.boxSl 3 14 F0,.boxSl 3 15 .str],[(3,.lf (.ptr 0 0)),(5,.lf (.d tI))],[.box 36 [.d I5]]⟩),(1,⟨[],[(2,.lf (.d .bool))],[]⟩)]),(25,⟨[.boxSl 3 1 .str,.boxSl 3 2 Ew,.boxSl 3 13 A1,.boxSl 3 14 F0,.boxSl 3 15 .str],[(3,.lf (.ptr 0 0)),(5,.lf (.d tI)),(9,.lf (.d tI))],[.box 36 [.d I5]]⟩,[(4,p0),(1,⟨[],[(2,.lf (.d .bool))],[]⟩)])]
def Zy:Code:=(Ax (Bm Tryz.f11)).getD 0 .skip
def Yc:Code:=(Ax (Bm Tryz.f11)).getD 1 .skip
def Jl {R:Type}  (NX:((Int)×(Int)×Bo×Unit)→Option R) (X4:(Unit)→Option R) (X1:((Bool)×Unit)→Option R) (v5:Int) (v9:Int) (b0:Bo):Option R:=
 bif decide (v9 < 3) then (Pu b0 (5,[],0,[],())).bind fun val=>(Pu val.1.1 (1,[],-1,[],())).bind fun val=>bif !val.1.1.2.2.1 then X1 (false,()) else bif nI (List.length val.1.1.2.2.2.1.2.2.2.2.2.2.1.1) != v5 then X1 (false,()) else bif !Mw val.1.1 then X1 (false,()) else NX (v5,IntKind.i64.wrap (v9 + 1),val.1) else X4 PUnit.unit
def Fh:Nat→(Int)→(Int)→Bo →  Option ((Unit) ⊕ ((Bool)×Unit))
 | 0,_,_,_=>none
 | m + 1,v5,v9,b0=>Jl  (fun d=>Fh m d.1 d.2.1 d.2.2.1) (fun d=>some (.inl (d))) (fun d=>some (.inr (d))) v5 v9 b0
def Amm (d:(Int)×(Int)×Bo×Unit):Option ((Unit) ⊕ ((Bool)×Unit)):=(Ac (Ac (Ac Ah))) (Fh ((Ac (Ac (Ac Ah))) Q0 d)) d
def Nr {R:Type}  (NX:((Int)×Bo×Unit)→Option R) (X2:((Int)×Bo×Unit)→Option R) (X1:((Bool)×Unit)→Option R) (v5:Int) (b0:Bo):Option R:=
 bif decide (v5 < 60) then bif (A8 b0.2.2.2.1 [(ByteArray.mk #[107,101,121]++strOfNums [IntKind.u8.wrap (IntKind.i64.wrap (48 + IntKind.i64.wrap (v5.tdiv 10))),IntKind.u8.wrap (IntKind.i64.wrap (48 + v5.tmod 10))],ByteArray.mk #[97,32,118,97,108,117,101,32,111,102,32,50,48,32,98,121,116,101,115,46],false,())]).1 != (A0 b0.2.2.2.1 [(ByteArray.mk #[107,101,121]++strOfNums [IntKind.u8.wrap (IntKind.i64.wrap (48 + IntKind.i64.wrap (v5.tdiv 10))),IntKind.u8.wrap (IntKind.i64.wrap (48 + v5.tmod 10))],ByteArray.mk #[97,32,118,97,108,117,101,32,111,102,32,50,48,32,98,121,116,101,115,46],false,())]).1 then X1 (false,()) else bif (A0 b0.2.2.2.1 [(ByteArray.mk #[107,101,121]++strOfNums [IntKind.u8.wrap (IntKind.i64.wrap (48 + IntKind.i64.wrap (v5.tdiv 10))),IntKind.u8.wrap (IntKind.i64.wrap (48 + v5.tmod 10))],ByteArray.mk #[97,32,118,97,108,117,101,32,111,102,32,50,48,32,98,121,116,101,115,46],false,())]).1==4 then (Pu b0 (4,[],-1,[],())).bind fun val=>bif decide (val.1.1.2.2.2.1.2.2.2.2.1≥b0.2.2.2.1.2.2.2.2.1) then X2 (v5,b0,()) else NX (v5,val.1) else bif (A0 b0.2.2.2.1 [(ByteArray.mk #[107,101,121]++strOfNums [IntKind.u8.wrap (IntKind.i64.wrap (48 + IntKind.i64.wrap (v5.tdiv 10))),IntKind.u8.wrap (IntKind.i64.wrap (48 + v5.tmod 10))],ByteArray.mk #[97,32,118,97,108,117,101,32,111,102,32,50,48,32,98,121,116,101,115,46],false,())]).1 != 0 then X2 (v5,b0,()) else (Pu b0 (2,[(ByteArray.mk #[107,101,121]++strOfNums [IntKind.u8.wrap (IntKind.i64.wrap (48 + IntKind.i64.wrap (v5.tdiv 10))),IntKind.u8.wrap (IntKind.i64.wrap (48 + v5.tmod 10))],ByteArray.mk #[97,32,118,97,108,117,101,32,111,102,32,50,48,32,98,121,116,101,115,46],false,())],-1,[],())).bind fun val=>NX (IntKind.i64.wrap (v5 + 1),val.1) else X2 (v5,b0,())
def F9:Nat→(Int)→Bo →  Option (((Int)×Bo×Unit) ⊕ ((Bool)×Unit))
 | 0,_,_=>none
 | m + 1,v5,b0=>Nr  (fun d=>F9 m d.1 d.2.1) (fun d=>some (.inl (d))) (fun d=>some (.inr (d))) v5 b0
def Aoj (d:(Int)×Bo×Unit):Option (((Int)×Bo×Unit) ⊕ ((Bool)×Unit)):=(Ac (Ac Ah)) (F9 ((Ac (Ac Ah)) Rv d)) d
def P8 (a0:List Int):Option ((((Bool)×Unit)×(Unit))):=
 bif decide (nI a0.length > 1048576) then some ((true,()),()) else (Se a0).bind fun val=>bif !val.1.2.1 then some ((false,()),()) else (Pu val.1.1 (1,[],-1,[],())).bind fun val=>((fun d=>F9 (Rv d.1 d.2.1) d.1 d.2.1) (0,val.1)).bind fun val=>Cy (fun d=>bif d.1==0 then some ((false,()),()) else bif nI (List.length d.2.1.2.2.2.1.2.2.2.2.2.2.1.1) != d.1 then some ((false,()),()) else (Pu d.2.1 (3,[],-1,[],())).bind fun val=>((fun d=>Fh (Q0 d.1 d.2.1 d.2.2.1) d.1 d.2.1 d.2.2.1) (d.1,0,val.1)).bind fun val=>Cy (fun d=>some ((true,()),())) (fun d=>some (d,())) val) (fun d=>some (d,())) val
def Acs:SD:=⟨Avi,fun x=>P8 x.1⟩
def Bk9 (v5:Int):List Bc:=[(ByteArray.mk #[107,101,121]++strOfNums [IntKind.u8.wrap (IntKind.i64.wrap (48 + IntKind.i64.wrap (v5.tdiv 10))),IntKind.u8.wrap (IntKind.i64.wrap (48 + v5.tmod 10))],
 ByteArray.mk #[97,32,118,97,108,117,101,32,111,102,32,50,48,32,98,121,116,101,115,46],false,())]
def btK (k:Nat):Bool:=(match Bk9 k with
 | [(a,b,c,_)]=>a.toList==(Brv k).toList&&(b.toList==Bpw.toList&&!c)
 | _=>false)
theorem Bqa:(List.range 60).all btK=true:=by decide +kernel
theorem Brz {k:Nat} (h:k < 60):Bk9 k=Ss k:=by
 have h:=List.all_eq_true.1 Bqa k (List.mem_range.2 h)
 unfold btK Bk9 at h
 obtain ⟨h1,h⟩:=B2 h
 obtain ⟨h2,h3⟩:=B2 h
 unfold Bk9 Ss
 rw [Ayf h1,show ByteArray.mk #[97,32,118,97,108,117,101,32,111,102,32,50,48,32,98,121,116,101,115,46]=Bpw from Ayf h2]
theorem Bla {n:Nat} {w:Int} (n8:8≤n) (n40:n≤40):
  ∀ (j f k c B:Nat) (x:Bo),Azn B (20 + 20 * c + k) w n k x→c≤k + 1→(c=k + 1→x.2.2.2.1.2.2.2.2.1=1 + C5 (stK k) w)→B + j≤300→k≤60→122≤j + k + c→j < f→
   Av (F9 f k x) fun q=>∃ (k' B':Nat) (x':Bo),q=.inl ((k':Int),x',())∧Azn B' 1320 w n k' x'∧1≤k'∧k'≤60∧B'≤300:=by
 intro j
 induction j with
 | zero=>intro f k c B x hx hc hu hB hk hj hf; omega
 | succ j ih=>
  intro f k c B x hx hc hu hB hk hj hf
  cases f with
  | zero=>omega
  | succ f=>
   have h19:hN n≤19:=by unfold hN; omega
   have hlen:=hx.kp.len
   have hv:=hx.kp.valid
   have out:1≤k→Av (some (.inl ((k:Int),x,())):Option ((Int×Bo×Unit) ⊕ (Bool×Unit))) fun q=>∃ (k' B':Nat) (x':Bo),q=.inl ((k':Int),x',())∧Azn B' 1320 w n k' x'∧1≤k'∧k'≤60∧B'≤300:=fun h1=>
    Av.some ⟨k,B,x,rfl,⟨hx.kp,hx.cl,hx.up,hx.st,hx.ps,by have:=hx.wr; omega⟩,h1,hk,by omega⟩
   simp only [F9,Nr]
   refine Av.cond (fun hk60=>?_) fun hk60=>out (by have:=of_decide_eq_false hk60; omega)
   have hk60:k < 60:=by have:=G8 hk60; omega
   obtain ⟨hst,hw',hn',hw,_,_,_,_,_,u1,u2⟩:=hx.kp.store hx.up
   obtain ⟨c1,c2,c3,c4⟩:=hx.kp.commit_is hx.up hk60 hx.st
   have eb:Bk9 (k:Int)=Ss k:=Brz hk60
   unfold Bk9 at eb
   rw [eb]
   have f1:A8 x.2.2.2.1 (Ss k)=Bs x.2.2.2.1 (Ss k):=rfl
   have f2:A0 x.2.2.2.1 (Ss k)=Bs x.2.2.2.1 (Ss k):=rfl
   rw [f1,f2]
   refine Av.no (by simp) ?_
   refine Av.cond (fun h4=>?_) fun h4=>Av.cond (fun h0=>out ?_) fun h0=>?_
   ·have h4:=c3 (beq_iff_eq.1 h4)
    have hh:=L9 n8 (show n≤200 by omega)
    obtain ⟨d1,d2⟩:=hx.compact (by omega) h19 (by omega) []
    refine Av.bind (Axd hv (by omega) _) fun q hq=>?_
    obtain ⟨⟨q,⟨⟩⟩,⟨⟩⟩:=q
    have hq:q=Ou x (4,[],-1,[],()):=hq
    rw [← hq] at d1 d2
    refine Av.cond (fun hb=>out ?_) fun hb=>?_
    ·have hb:q.2.2.2.1.2.2.2.2.1≥x.2.2.2.1.2.2.2.2.1:=G8 hb
     rw [d2,h4] at hb
     refine Nat.pos_of_ne_zero fun e=>?_
     subst e
     rw [(rm1 hw).2] at hb
     omega
    ·have hb:¬ q.2.2.2.1.2.2.2.2.1≥x.2.2.2.1.2.2.2.2.1:=of_decide_eq_false hb
     have hck:c≤k:=by
      refine Nat.le_of_not_lt fun e=>hb ?_
      rw [d2,hu (by omega)]
      exact Int.le_refl _
     exact ih f k (c + 1) (B + 1) q ⟨d1.kp,d1.cl,d1.up,d1.st,d1.ps,by have:=d1.wr; omega⟩ (by omega) (fun _=>d2) (by omega) hk (by omega) (by omega)
   ·refine Nat.pos_of_ne_zero fun e=>?_
    rcases c4 e with q | q
    ·rw [q] at h0; exact absurd h0 (by decide)
    ·rw [q] at h4; exact absurd h4 (by decide)
   ·have h0:(Bs x.2.2.2.1 (Ss k)).1=0:=by simpa using h0
    have d1:=hx.commit (by omega) hk60 (by omega) h0 []
    refine Av.bind (Axd hv (by omega) _) fun q hq=>?_
    obtain ⟨⟨q,⟨⟩⟩,⟨⟩⟩:=q
    have hq:q=Ou x (2,Ss k,-1,[],()):=hq
    rw [← hq] at d1
    have e1:IntKind.i64.wrap ((k:Int) + 1)=((k + 1:Nat):Int):=wI (by omega)
    show Av (F9 f (IntKind.i64.wrap ((k:Int) + 1)) q) _
    rw [e1]
    exact ih f (k + 1) c (B + 1) q ⟨d1.kp,d1.cl,d1.up,d1.st,d1.ps,by have:=d1.wr; omega⟩ (by omega) (fun e=>by omega) (by omega) (by omega) (by omega) (by omega)
theorem Blb {n k:Nat} {w:Int} (n8:8≤n) (n40:n≤40):
  ∀ (j f i B m:Nat) (x:Bo),Bnw B m w n k x→i + j=3→j < f→B + 2 * j≤9000→m + 20 * j≤2000→Av (Fh f k i x) fun q=>q=.inl ():=by
 intro j
 induction j with
 | zero=>
  intro f i B m x hx hi hf _ _
  cases f with
  | zero=>omega
  | succ f=>
   simp only [Fh,Jl]
   exact Av.no (Bd (by omega)) (Av.some rfl)
 | succ j ih=>
  intro f i B m x hx hi hf hB hm
  cases f with
  | zero=>omega
  | succ f=>
   have h19:hN n≤19:=by unfold hN; omega
   have hlen:=hx.kp.len
   have hv:=hx.kp.valid
   simp only [Fh,Jl]
   refine Av.go (Af (by omega)) ?_
   obtain ⟨v1,d1⟩:=hx.again (by omega) h19 (by omega) 0 []
   have hlen1:(Ou x (5,[],0,[],())).2.1.1.length=n:=((hx.kp.step (by omega) (5,[],0,[],())).2 (hx.cl.power hx.pe [] 0 []).forged).len
   refine Av.bind (Axd hv (by omega) _) fun q hq=>?_
   obtain ⟨⟨q,⟨⟩⟩,⟨⟩⟩:=q
   have hq:q=Ou x (5,[],0,[],()):=hq
   rw [← hq] at d1 v1 hlen1
   refine Av.bind (Axd v1 (by omega) _) fun y hy=>?_
   obtain ⟨⟨y,⟨⟩⟩,⟨⟩⟩:=y
   have hy:y=Ou q (1,[],-1,[],()):=hy
   rw [← hy] at d1
   have e1:IntKind.i64.wrap ((i:Int) + 1)=((i + 1:Nat):Int):=wI (by omega)
   have f1:Mw y=B7 y:=rfl
   dsimp only
   rw [d1.up,d1.st,f1,d1.kp.valid,e1]
   refine Av.no rfl (Av.no (by rw [Bjg]; simp [nI]) (Av.no rfl ?_))
   exact ih f (i + 1) (B + 2) (m + 20) y d1 (by omega) (by omega) (by omega) (by omega)
theorem A7y (a0:List Int) (h0:Ajs (.sl (.int .u8)) a0):P8 a0=some ((true,()),()):=by
 apply Av.law
 unfold P8
 refine Av.cond (fun _=>Av.some rfl) fun _=>?_
 refine Av.bind (Bn8 a0 h0) fun q hq=>?_
 obtain ⟨hb,n,wd,n8,n40,hw,e⟩:=hq
 refine Av.no (by rw [hb]; rfl) ?_
 have h19:hN n≤19:=by unfold hN; omega
 obtain ⟨d1,v1⟩:=Bnx (x:=q.1.1) n8 (by omega) h19 hw e
 have hl:q.1.1.2.1.1.length=n:=by
  rw [e]
  exact (A1w (by unfold Bq; rw [Af (by omega),Af (by omega)]; rfl)).2.trans (by simp)
 refine Av.bind (Axd v1 (by omega) _) fun y hy=>?_
 obtain ⟨⟨y,⟨⟩⟩,⟨⟩⟩:=y
 have hy:y=Ou q.1.1 (1,[],-1,[],()):=hy
 rw [← hy] at d1
 refine Av.bind (Bla n8 n40 122 200 0 0 1 y d1 (by omega) (fun e=>by omega) (by omega) (by omega) (by omega) (by omega)) fun z hz=>?_
 obtain ⟨k,B,x,rfl,hx,k1,k60,hB⟩:=hz
 show Av (bif (k:Int)==0 then _ else _) _
 refine Av.no (beq_eq_false_iff_ne.2 (by omega)) ?_
 dsimp only
 rw [hx.st]
 refine Av.no (by rw [Bjg]; simp [nI]) ?_
 have hs:=hx.flush (by omega) k60 (by omega) []
 refine Av.bind (Axd hx.kp.valid (by rw [hx.kp.len]; omega) _) fun s hs'=>?_
 obtain ⟨⟨s,⟨⟩⟩,⟨⟩⟩:=s
 have hs':s=Ou x (3,[],-1,[],()):=hs'
 rw [← hs'] at hs
 refine Av.bind (Blb n8 n40 3 _ 0 (B + 1) 1320 s hs (by omega) (by show 3 < (3 - 0:Int).toNat + 1; decide) (by omega) (by omega)) fun t ht=>?_
 subst ht
 exact Av.some rfl
def Zz {R:Type} (k:Kt R):=(Cy (L7 (C4 9) (.exit 0) 2 k) (L7 (C4 9) .ret 1 k))
def Yd {R:Type} (k:Kt R):=(Cy (L7 (C4 25) (.exit 2) 4 k) (L7 (C4 25) .ret 1 k))
def Xa {R:Type}:Lt R C4:=(Fp (pat:=C4) 9 (fun d k=>(Aoj d).bind (Zz k)) (Fp (pat:=C4) 25 (fun d k=>(Amm d).bind (Yd k)) Ik))
theorem Vp:A5 Tryz.prog Vo:=Bb ⟨Aqz,n7,s8,Bhq,A6d,trivial⟩
theorem Amn {R:Type}:Ba Tryz.prog R 111 0 C4 Xa Yc:=
 Cn (cfg:=⟨Vo,0,111,C4⟩) 25 [] (fun NX X d=>(Ac (Ac (Ac Ah))) (Jl  NX (fun e=>X (.inl (e))) (fun e=>X (.inr (e)))) d) (fun m d=>(Ac (Ac (Ac Ah))) (Fh m) d) (fun d=>(Ac (Ac (Ac Ah))) Q0 d) Yd Vp trivial (fun f NX d=>by simp only [u4,Ac,Ah]; unfold Jl; simp only [nb])
theorem Aok {R:Type}:Ba Tryz.prog R 111 0 C4 Xa Zy:=
 Cn (cfg:=⟨Vo,0,111,C4⟩) 9 [] (fun NX X d=>(Ac (Ac Ah)) (Nr  NX (fun e=>X (.inl (e))) (fun e=>X (.inr (e)))) d) (fun m d=>(Ac (Ac Ah)) (F9 m) d) (fun d=>(Ac (Ac Ah)) Rv d) Zz Vp trivial (fun f NX d=>by simp only [u4,Ac,Ah]; unfold Nr; simp only [nb])
theorem Avj:B8 Tryz.prog 11 Acs:=
 A7 (pat:=C4) [Zy,Yc] Xa Vp ⟨Aok,Amn,trivial⟩ Tryz.func11 (de:=fun x=>P8 x.1) (fun x r h=>h) fun _=>by kernel_rfl
end Go.Proofs.YtfkefgbihlfjmaaGreat.V
end
