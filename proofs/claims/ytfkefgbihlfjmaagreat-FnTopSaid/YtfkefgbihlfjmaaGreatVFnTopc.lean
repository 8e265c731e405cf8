/- What the functions that FnTop reaches come to: part 3. No condition. -/
import Derived.Test.YtfkefgbihlfjmaaGreatVFnTopb
import Derived.KernelRfl
noncomputable section
set_option linter.unusedVariables false
set_option linter.unusedSimpArgs false
namespace Go.Proofs.YtfkefgbihlfjmaaGreat.V
open Go Go.Proofs.YtfkefgbihlfjmaaGreat.R Go.Proofs
set_option maxRecDepth 100000
theorem Ats:∃ f:Dk→(Int)→Option R0,f=fun a0 a1=>some (Bq a0 a1):=⟨_,rfl⟩
def Xi:=Classical.choose Ats
theorem Att:Xi=fun a0 a1=>some (Bq a0 a1):=Classical.choose_spec Ats
def Atu:SD:=⟨Ayq,fun x=>(Xi x.1 x.2.1).bind fun r=>some ((r.1,r.2.1.1,r.2.1.2.1,r.2.1.2.2.1,r.2.1.2.2.2.1.1,r.2.1.2.2.2.1.2.1,r.2.1.2.2.2.1.2.2.1,r.2.1.2.2.2.1.2.2.2.1,r.2.1.2.2.2.2.1,r.2.1.2.2.2.2.2.1,r.2.1.2.2.2.2.2.2.1.1,r.2.2.1,()),(()))⟩
theorem Alp:∃ f:E5→(List Be)→Option R0,f=fun a0 a1=>some (Bi a0 a1):=⟨_,rfl⟩
def P1:=Classical.choose Alp
theorem Alq:P1=fun a0 a1=>some (Bi a0 a1):=Classical.choose_spec Alp
def Alr:SD:=⟨Aps,fun x=>(P1 x.1 x.2.1).bind fun r=>some ((r.1,r.2.1.1,r.2.1.2.1,r.2.1.2.2.1,r.2.1.2.2.2.1.1,r.2.1.2.2.2.1.2.1,r.2.1.2.2.2.1.2.2.1,r.2.1.2.2.2.1.2.2.2.1,r.2.1.2.2.2.2.1,r.2.1.2.2.2.2.2.1,r.2.1.2.2.2.2.2.2.1.1,r.2.2.1,()),(()))⟩
theorem Apw:∃ f:E5→Option R0,f=fun a0=>some (Bp a0):=⟨_,rfl⟩
def Lb:=Classical.choose Apw
theorem Apx:Lb=fun a0=>some (Bp a0):=Classical.choose_spec Apw
def Apy:SD:=⟨Atq,fun x=>(Lb x.1).bind fun r=>some ((r.1,r.2.1.1,r.2.1.2.1,r.2.1.2.2.1,r.2.1.2.2.2.1.1,r.2.1.2.2.2.1.2.1,r.2.1.2.2.2.1.2.2.1,r.2.1.2.2.2.1.2.2.2.1,r.2.1.2.2.2.2.1,r.2.1.2.2.2.2.2.1,r.2.1.2.2.2.2.2.2.1.1,r.2.2.1,()),(()))⟩
theorem Ail:∃ f:E5→Option R0,f=fun a0=>some (A9 a0):=⟨_,rfl⟩
def Dw:=Classical.choose Ail
theorem Aim:Dw=fun a0=>some (A9 a0):=Classical.choose_spec Ail
def Ain:SD:=⟨Alm,fun x=>(Dw x.1).bind fun r=>some ((r.1,r.2.1.1,r.2.1.2.1,r.2.1.2.2.1,r.2.1.2.2.2.1.1,r.2.1.2.2.2.1.2.1,r.2.1.2.2.2.1.2.2.1,r.2.1.2.2.2.1.2.2.2.1,r.2.1.2.2.2.2.1,r.2.1.2.2.2.2.2.1,r.2.1.2.2.2.2.2.2.1.1,r.2.2.1,()),(()))⟩
theorem Acl:∃ f:Dk→(List Int)→Option Dk,f=fun a0 a1=>some (Ja a0 a1):=⟨_,rfl⟩
def D9:=Classical.choose Acl
theorem Vf:D9=fun a0 a1=>some (Ja a0 a1):=Classical.choose_spec Acl
def Acm:SD:=⟨Aeu,fun x=>(D9 x.1 x.2.1).bind fun r=>some ((r.1,r.2.1,()),(()))⟩
def Bn2:Gc:=⟨[.rd Gv,.rd Arq],[some 16,some 4],[.rd Gv],[some 16]⟩
def Bbn:Tb:=tb [(27,Atu),(33,Alr),(34,Apy),(35,Ain),(60,Acm),(64,Ql),(95,Dm),(113,Alo),(121,Nw),(134,Ae2)]
def Zc:Nat→C2×(Nat→C2):=F0 [(26,⟨[.row 9 0 9 .str,.sl 99 0 Fe,.boxSl 3 1 Do,.boxSl 3 3 tI,.boxSl 4 1 .str,.boxSl 4 2 Em,.boxSl 4 13 Ax,.boxSl 4 14 C8,.boxSl 4 15 .str,.boxSl 5 1 .str,.boxSl 5 2 Em,.boxSl 5 13 Ax,.boxRow 5 14 31 C8,.boxRow 5 15 9 .str,.boxSl 6 10 Ax,.boxSl 6 11 Fe],[(3,.lf (.ptr 0 0)),(4,.lf (.ptr 1 0)),(5,.lf (.ptr 2 0)),(6,.lf (.ptr 3 0)),(7,.lf (.d tI)),(8,.lf (.d .bool)),(9,.lf (.row 4)),(99,.lf (.d (.sl Fe))),(100,.lf (.d tI)),(101,.lf (.d tI))],[.box 87 [.d Arq],.box 36 [.d Gv],.box 36 [.d tI,.d yDk,.d .bool,.d Yf,.row 5,.row 6],.box 68 [.d Bqq],.row 9 .str,.row 31 C8,.row 9 .str]⟩,[(3,⟨[.row 9 0 9 .str,.boxSl 3 1 Do,.boxSl 3 3 tI,.boxSl 4 1 .str,.boxSl 4 2 Em,.boxSl 4 13 Ax,.boxSl 4 14 C8,.boxSl 4 15 .str,.boxSl 5 1 .str,.boxSl 5 2 Em,.boxSl 5 13 Ax,.boxRow 5 14 31 C8,.boxRow 5 15 9 .str,.boxSl 6 10 Ax,.boxSl 6 11 Fe],[(3,.lf (.ptr 0 0)),(4,.lf (.ptr 1 0)),(5,.lf (.ptr 2 0)),(6,.lf (.ptr 3 0)),(7,.lf (.d tI)),(8,.lf (.d .bool)),(9,.lf (.row 4))],[.box 87 [.d Arq],.box 36 [.d Gv],.box 36 [.d tI,.d yDk,.d .bool,.d Yf,.row 5,.row 6],.box 68 [.d Bqq],.row 9 .str,.row 31 C8,.row 9 .str]⟩)])]
def Atv:Code:=(At (Bb Tryz.f45)).getD 0 .skip
def Af9 (v7:Int) (v8:Bool) (v99:List Dl) (v100 v101:Int) (b0:Qw) (b1:Bg) (b2_0:Int) (b2_1:Dk) (b2_3:Bool) (b2_4:E5) (b3:R0) (r4:List Aa) (r5:List B5) (r6:List Aa):Nat:=(v100 - v101).toNat + 1
def Ub {R:Type}  (NX:((Int)×(Bool)×(List Dl)×(Int)×(Int)×Qw×Bg×(Int)×Dk×(Bool)×E5×R0×(List Aa)×(List B5)×(List Aa)×Unit)→Option R) (X3:((Int)×(Bool)×Qw×Bg×(Int)×Dk×(Bool)×E5×R0×(List Aa)×(List B5)×(List Aa)×Unit)→Option R) (v7:Int) (v8:Bool) (v99:List Dl) (v100:Int) (v101:Int) (b0:Qw) (b1:Bg) (b2_0:Int) (b2_1:Dk) (b2_3:Bool) (b2_4:E5) (b3:R0) (r4:List Aa) (r5:List B5) (r6:List Aa):Option R:=
 bif decide (v101 < v100) then
  bif decide (0≤v101) then
   bif decide (v101 < nI v99.length) then
    bif !(v99.getD v101.toNat (false,0,Ad,())).1 then
     bif decide ((r4.length + [(v99.getD v101.toNat (false,0,Ad,())).2.2.1].length) * 16≤140737488355328) then
      NX (v7,v8,v99,v100,IntKind.i64.wrap (v101 + 1),b0,b1,b2_0,b2_1,b2_3,b2_4,b3,r4++[(v99.getD v101.toNat (false,0,Ad,())).2.2.1],r5,r6,())
     else none
    else NX (v7,v8,v99,v100,IntKind.i64.wrap (v101 + 1),b0,b1,b2_0,b2_1,b2_3,b2_4,b3,r4,r5,r6,())
   else none
  else none
 else X3 (v7,v8,b0,b1,b2_0,b2_1,b2_3,b2_4,b3,r4,r5,r6,())
def Rg:Nat→(Int)→(Bool)→(List Dl)→(Int)→(Int)→Qw→Bg→(Int)→Dk→(Bool)→E5→R0→(List Aa)→(List B5)→(List Aa) →  Option ((Int)×(Bool)×Qw×Bg×(Int)×Dk×(Bool)×E5×R0×(List Aa)×(List B5)×(List Aa)×Unit)
 | 0,_,_,_,_,_,_,_,_,_,_,_,_,_,_,_=>none
 | m + 1,v7,v8,v99,v100,v101,b0,b1,b2_0,b2_1,b2_3,b2_4,b3,r4,r5,r6=>Ub  (fun d=>Rg m d.1 d.2.1 d.2.2.1 d.2.2.2.1 d.2.2.2.2.1 d.2.2.2.2.2.1 d.2.2.2.2.2.2.1 d.2.2.2.2.2.2.2.1 d.2.2.2.2.2.2.2.2.1 d.2.2.2.2.2.2.2.2.2.1 d.2.2.2.2.2.2.2.2.2.2.1 d.2.2.2.2.2.2.2.2.2.2.2.1 d.2.2.2.2.2.2.2.2.2.2.2.2.1 d.2.2.2.2.2.2.2.2.2.2.2.2.2.1 d.2.2.2.2.2.2.2.2.2.2.2.2.2.2.1) (fun d=>some (d)) v7 v8 v99 v100 v101 b0 b1 b2_0 b2_1 b2_3 b2_4 b3 r4 r5 r6
def Rh (d:(Int)×(Bool)×(List Dl)×(Int)×(Int)×Qw×Bg×(Int)×Dk×(Bool)×E5×R0×(List Aa)×(List B5)×(List Aa)×Unit):Option ((Int)×(Bool)×Qw×Bg×(Int)×Dk×(Bool)×E5×R0×(List Aa)×(List B5)×(List Aa)×Unit):=(u4 (u4 (u4 (Ac (Ac (Ac Ae)))))) (Rg ((u4 (u4 (u4 (Ac (Ac (Ac Ae)))))) Af9 d)) d
def Kq (val:((Int)×(Bool)×Qw×Bg×(Int)×Dk×(Bool)×E5×R0×(List Aa)×(List B5)×(List Aa)×Unit)):Option (((Bg×Unit)×(Unit))):=
 bif decide (IntKind.i64.wrap (nI val.2.2.2.2.2.2.2.2.2.2.2.1.length + nI val.2.2.2.2.2.2.2.2.2.1.length) > 2000) then
  some
   (((val.2.2.2.2.1,val.2.2.2.2.2.1,val.2.2.2.2.2.2.1,val.2.2.2.2.2.2.2.1,val.2.2.2.2.2.2.2.2.2.2),
     ()),
    ())
 else
  bif val.2.2.1.1==2 then
   bif decide (nI val.2.2.2.2.2.2.2.2.2.2.1.length≥200) then
    some
     (((val.2.2.2.2.1,val.2.2.2.2.2.1,val.2.2.2.2.2.2.1,val.2.2.2.2.2.2.2.1,
        val.2.2.2.2.2.2.2.2.2.2),
       ()),
      ())
   else
    bif decide ((val.2.2.2.2.2.2.2.2.2.2.2.1.length + val.2.2.2.2.2.2.2.2.2.1.length) * 16≤140737488355328) then
     bif val.2.2.1.1==2 then
      ((Bt val.2.2.2.2.2.2.2.2.1.2.1.2.2.2.2.2.2.1).bind fun val=>some (val,())).bind fun w0=>
       bif decide ((val.2.2.2.2.2.2.2.2.2.2.1.length + [w0.1].length) * 24≤140737488355328) then
        ((J2 val.2.2.2.2.2.1 val.2.2.2.2.2.2.2.2.1.2.2.1 val.1).bind fun val=>some (val,())).bind fun w1=>
         bif val.2.1 then
          ((D9 w1.1 val.2.2.1.2.2.2.1).bind fun val=>some (val,())).bind fun w2=>
           some
            (((val.2.2.2.2.1,w2.1,false,(0,0,0,(0,0,0,0,()),0,0,([],()),()),
               val.2.2.2.2.2.2.2.2.2.2.1++[w0.1],
               val.2.2.2.2.2.2.2.2.2.2.2.1++val.2.2.2.2.2.2.2.2.2.1,()),
              ()),
             ())
         else
          bif val.2.2.1.1 != 2 then
           ((Bt val.2.2.2.2.2.2.2.2.1.2.1.2.2.2.2.2.2.1).bind fun val=>some (val,())).bind fun w2=>
            some
             (((val.2.2.2.2.1,w1.1,true,val.2.2.2.2.2.2.2.2.1.2.1,[w2.1],
                val.2.2.2.2.2.2.2.2.2.2.2.1++val.2.2.2.2.2.2.2.2.2.1,()),
               ()),
              ())
          else
           some
            (((val.2.2.2.2.1,w1.1,true,val.2.2.2.2.2.2.2.2.1.2.1,
               val.2.2.2.2.2.2.2.2.2.2.1++[w0.1],
               val.2.2.2.2.2.2.2.2.2.2.2.1++val.2.2.2.2.2.2.2.2.2.1,()),
              ()),
             ())
       else none
     else
      ((J2 val.2.2.2.2.2.1 val.2.2.2.2.2.2.2.2.1.2.2.1 val.1).bind fun val=>some (val,())).bind fun w0=>
       bif val.2.1 then
        ((D9 w0.1 val.2.2.1.2.2.2.1).bind fun val=>some (val,())).bind fun w1=>
         some
          (((val.2.2.2.2.1,w1.1,false,(0,0,0,(0,0,0,0,()),0,0,([],()),()),val.2.2.2.2.2.2.2.2.2.2.1,
             val.2.2.2.2.2.2.2.2.2.2.2.1++val.2.2.2.2.2.2.2.2.2.1,()),
            ()),
           ())
       else
        bif val.2.2.1.1 != 2 then
         ((Bt val.2.2.2.2.2.2.2.2.1.2.1.2.2.2.2.2.2.1).bind fun val=>some (val,())).bind fun w1=>
          some
           (((val.2.2.2.2.1,w0.1,true,val.2.2.2.2.2.2.2.2.1.2.1,[w1.1],
              val.2.2.2.2.2.2.2.2.2.2.2.1++val.2.2.2.2.2.2.2.2.2.1,()),
             ()),
            ())
        else
         some
          (((val.2.2.2.2.1,w0.1,true,val.2.2.2.2.2.2.2.2.1.2.1,val.2.2.2.2.2.2.2.2.2.2.1,
             val.2.2.2.2.2.2.2.2.2.2.2.1++val.2.2.2.2.2.2.2.2.2.1,()),
            ()),
           ())
    else none
  else
   bif decide ((val.2.2.2.2.2.2.2.2.2.2.2.1.length + val.2.2.2.2.2.2.2.2.2.1.length) * 16≤140737488355328) then
    bif val.2.2.1.1==2 then
     ((Bt val.2.2.2.2.2.2.2.2.1.2.1.2.2.2.2.2.2.1).bind fun val=>some (val,())).bind fun w0=>
      bif decide ((val.2.2.2.2.2.2.2.2.2.2.1.length + [w0.1].length) * 24≤140737488355328) then
       ((J2 val.2.2.2.2.2.1 val.2.2.2.2.2.2.2.2.1.2.2.1 val.1).bind fun val=>some (val,())).bind fun w1=>
        bif val.2.1 then
         ((D9 w1.1 val.2.2.1.2.2.2.1).bind fun val=>some (val,())).bind fun w2=>
          some
           (((val.2.2.2.2.1,w2.1,false,(0,0,0,(0,0,0,0,()),0,0,([],()),()),val.2.2.2.2.2.2.2.2.2.2.1++[w0.1],
              val.2.2.2.2.2.2.2.2.2.2.2.1++val.2.2.2.2.2.2.2.2.2.1,()),
             ()),
            ())
        else
         bif val.2.2.1.1 != 2 then
          ((Bt val.2.2.2.2.2.2.2.2.1.2.1.2.2.2.2.2.2.1).bind fun val=>some (val,())).bind fun w2=>
           some
            (((val.2.2.2.2.1,w1.1,true,val.2.2.2.2.2.2.2.2.1.2.1,[w2.1],
               val.2.2.2.2.2.2.2.2.2.2.2.1++val.2.2.2.2.2.2.2.2.2.1,()),
              ()),
             ())
         else
          some
           (((val.2.2.2.2.1,w1.1,true,val.2.2.2.2.2.2.2.2.1.2.1,val.2.2.2.2.2.2.2.2.2.2.1++[w0.1],
              val.2.2.2.2.2.2.2.2.2.2.2.1++val.2.2.2.2.2.2.2.2.2.1,()),
             ()),
            ())
      else none
    else
     ((J2 val.2.2.2.2.2.1 val.2.2.2.2.2.2.2.2.1.2.2.1 val.1).bind fun val=>some (val,())).bind fun w0=>
      bif val.2.1 then
       ((D9 w0.1 val.2.2.1.2.2.2.1).bind fun val=>some (val,())).bind fun w1=>
        some
         (((val.2.2.2.2.1,w1.1,false,(0,0,0,(0,0,0,0,()),0,0,([],()),()),val.2.2.2.2.2.2.2.2.2.2.1,
            val.2.2.2.2.2.2.2.2.2.2.2.1++val.2.2.2.2.2.2.2.2.2.1,()),
           ()),
          ())
      else
       bif val.2.2.1.1 != 2 then
        ((Bt val.2.2.2.2.2.2.2.2.1.2.1.2.2.2.2.2.2.1).bind fun val=>some (val,())).bind fun w1=>
         some
          (((val.2.2.2.2.1,w0.1,true,val.2.2.2.2.2.2.2.2.1.2.1,[w1.1],
             val.2.2.2.2.2.2.2.2.2.2.2.1++val.2.2.2.2.2.2.2.2.2.1,()),
            ()),
           ())
       else
        some
         (((val.2.2.2.2.1,w0.1,true,val.2.2.2.2.2.2.2.2.1.2.1,val.2.2.2.2.2.2.2.2.2.2.1,
            val.2.2.2.2.2.2.2.2.2.2.2.1++val.2.2.2.2.2.2.2.2.2.1,()),
           ()),
          ())
   else none
def Ej (a0:Bg) (a1:Qw) (val:(((Int)×Dk×(Bool)×E5×(List B5)×(List Aa)×Unit)×(Unit))) (val_1:(((Int)×(Int)×(Int)×(Int)×(Int)×(Int)×(Int)×(Int)×(Int)×(Int)×(List A1)×(List Dl)×Unit)×(Unit))):Option (((Bg×Unit)×(Unit))):=
 bif val_1.1.1 != 0 then some (val,())
 else
  bif Ba a1.2.2.1 0 (nI (List.length val_1.1.2.2.2.2.2.2.2.2.2.2.2.1)) then
   bif decide (0≤a1.2.2.1) then
    bif decide (a1.2.2.1≤nI (List.length val_1.1.2.2.2.2.2.2.2.2.2.2.2.1)) then
     (Rh
        (a1.2.2.1,Ba a1.2.2.1 0 (nI (List.length val_1.1.2.2.2.2.2.2.2.2.2.2.2.1)),
         List.drop (Int.toNat 0) (List.take (Int.toNat a1.2.2.1) val_1.1.2.2.2.2.2.2.2.2.2.2.2.1),
         nI (List.drop (Int.toNat 0) (List.take (Int.toNat a1.2.2.1) val_1.1.2.2.2.2.2.2.2.2.2.2.2.1)).length,0,a1,
         (0,([],[],()),false,(0,0,0,(0,0,0,0,()),0,0,([],()),()),[],[],()),val.1.1,val.1.2.1,val.1.2.2.1,val.1.2.2.2.1,
         (val_1.1.1,
          (val_1.1.2.1,val_1.1.2.2.1,val_1.1.2.2.2.1,
           (val_1.1.2.2.2.2.1,val_1.1.2.2.2.2.2.1,val_1.1.2.2.2.2.2.2.1,val_1.1.2.2.2.2.2.2.2.1,()),
           val_1.1.2.2.2.2.2.2.2.2.1,val_1.1.2.2.2.2.2.2.2.2.2.1,(val_1.1.2.2.2.2.2.2.2.2.2.2.1,()),()),
          val_1.1.2.2.2.2.2.2.2.2.2.2.2),
         [],val.1.2.2.2.2)).bind
      Kq
    else none
   else none
  else
   bif decide (nI (List.length val_1.1.2.2.2.2.2.2.2.2.2.2.2.1)≤nI (List.length val_1.1.2.2.2.2.2.2.2.2.2.2.2.1)) then
    (Rh
       (nI (List.length val_1.1.2.2.2.2.2.2.2.2.2.2.2.1),
        Ba a1.2.2.1 0 (nI (List.length val_1.1.2.2.2.2.2.2.2.2.2.2.2.1)),
        List.drop (Int.toNat 0)
         (List.take (nI (List.length val_1.1.2.2.2.2.2.2.2.2.2.2.2.1)).toNat val_1.1.2.2.2.2.2.2.2.2.2.2.2.1),
        nI
         (List.drop (Int.toNat 0)
           (List.take (nI (List.length val_1.1.2.2.2.2.2.2.2.2.2.2.2.1)).toNat val_1.1.2.2.2.2.2.2.2.2.2.2.2.1)).length,
        0,a1,(0,([],[],()),false,(0,0,0,(0,0,0,0,()),0,0,([],()),()),[],[],()),val.1.1,val.1.2.1,val.1.2.2.1,val.1.2.2.2.1,
        (val_1.1.1,
         (val_1.1.2.1,val_1.1.2.2.1,val_1.1.2.2.2.1,
          (val_1.1.2.2.2.2.1,val_1.1.2.2.2.2.2.1,val_1.1.2.2.2.2.2.2.1,val_1.1.2.2.2.2.2.2.2.1,()),
          val_1.1.2.2.2.2.2.2.2.2.1,val_1.1.2.2.2.2.2.2.2.2.2.1,(val_1.1.2.2.2.2.2.2.2.2.2.2.1,()),()),
         val_1.1.2.2.2.2.2.2.2.2.2.2.2),
        [],val.1.2.2.2.2)).bind
     Kq
   else none
def Akj (a0:Bg) (a1:Qw):Option (((Bg×Unit)×(Unit))):=
 bif !H4 a0 then some (((0,([],[],()),false,(0,0,0,(0,0,0,0,()),0,0,([],()),()),[],[],()),()),())
 else
  (P0 a0).bind fun val=>
   bif a1.1==5 then
    ((D9 val.1.2.1 a1.2.2.2.1).bind fun val=>some (val,())).bind fun val_1=>
     some (((val.1.1,val_1.1,false,(0,0,0,(0,0,0,0,()),0,0,([],()),()),val.1.2.2.2.2),()),())
   else
    bif a1.1==1 then
     bif !a0.2.2.1 then
      ((Xi val.1.2.1 val.1.1).bind fun val=>
         some
          ((val.1,val.2.1.1,val.2.1.2.1,val.2.1.2.2.1,val.2.1.2.2.2.1.1,val.2.1.2.2.2.1.2.1,
            val.2.1.2.2.2.1.2.2.1,val.2.1.2.2.2.1.2.2.2.1,val.2.1.2.2.2.2.1,val.2.1.2.2.2.2.2.1,
            val.2.1.2.2.2.2.2.2.1.1,val.2.2),
           ())).bind
       (Ej a0 a1 val)
     else
      bif a1.1==2 then
       bif a0.2.2.1 then
        ((P1 val.1.2.2.2.1 a1.2.1).bind fun val=>
           some
            ((val.1,val.2.1.1,val.2.1.2.1,val.2.1.2.2.1,val.2.1.2.2.2.1.1,val.2.1.2.2.2.1.2.1,
              val.2.1.2.2.2.1.2.2.1,val.2.1.2.2.2.1.2.2.2.1,val.2.1.2.2.2.2.1,val.2.1.2.2.2.2.2.1,
              val.2.1.2.2.2.2.2.2.1.1,val.2.2),
             ())).bind
         (Ej a0 a1 val)
       else
        bif a1.1==3 then
         bif a0.2.2.1 then
          ((Lb val.1.2.2.2.1).bind fun val=>
             some
              ((val.1,val.2.1.1,val.2.1.2.1,val.2.1.2.2.1,val.2.1.2.2.2.1.1,val.2.1.2.2.2.1.2.1,
                val.2.1.2.2.2.1.2.2.1,val.2.1.2.2.2.1.2.2.2.1,val.2.1.2.2.2.2.1,val.2.1.2.2.2.2.2.1,
                val.2.1.2.2.2.2.2.2.1.1,val.2.2),
               ())).bind
           (Ej a0 a1 val)
         else
          bif a1.1==4 then
           bif a0.2.2.1 then
            ((Dw val.1.2.2.2.1).bind fun val=>
               some
                ((val.1,val.2.1.1,val.2.1.2.1,val.2.1.2.2.1,val.2.1.2.2.2.1.1,val.2.1.2.2.2.1.2.1,
                  val.2.1.2.2.2.1.2.2.1,val.2.1.2.2.2.1.2.2.2.1,val.2.1.2.2.2.2.1,val.2.1.2.2.2.2.2.1,
                  val.2.1.2.2.2.2.2.2.1.1,val.2.2),
                 ())).bind
             (Ej a0 a1 val)
           else some (val,())
          else some (val,())
        else
         bif a1.1==4 then
          bif a0.2.2.1 then
           ((Dw val.1.2.2.2.1).bind fun val=>
              some
               ((val.1,val.2.1.1,val.2.1.2.1,val.2.1.2.2.1,val.2.1.2.2.2.1.1,val.2.1.2.2.2.1.2.1,
                 val.2.1.2.2.2.1.2.2.1,val.2.1.2.2.2.1.2.2.2.1,val.2.1.2.2.2.2.1,val.2.1.2.2.2.2.2.1,
                 val.2.1.2.2.2.2.2.2.1.1,val.2.2),
                ())).bind
            (Ej a0 a1 val)
          else some (val,())
         else some (val,())
      else
       bif a1.1==3 then
        bif a0.2.2.1 then
         ((Lb val.1.2.2.2.1).bind fun val=>
            some
             ((val.1,val.2.1.1,val.2.1.2.1,val.2.1.2.2.1,val.2.1.2.2.2.1.1,val.2.1.2.2.2.1.2.1,
               val.2.1.2.2.2.1.2.2.1,val.2.1.2.2.2.1.2.2.2.1,val.2.1.2.2.2.2.1,val.2.1.2.2.2.2.2.1,
               val.2.1.2.2.2.2.2.2.1.1,val.2.2),
              ())).bind
          (Ej a0 a1 val)
        else
         bif a1.1==4 then
          bif a0.2.2.1 then
           ((Dw val.1.2.2.2.1).bind fun val=>
              some
               ((val.1,val.2.1.1,val.2.1.2.1,val.2.1.2.2.1,val.2.1.2.2.2.1.1,val.2.1.2.2.2.1.2.1,
                 val.2.1.2.2.2.1.2.2.1,val.2.1.2.2.2.1.2.2.2.1,val.2.1.2.2.2.2.1,val.2.1.2.2.2.2.2.1,
                 val.2.1.2.2.2.2.2.2.1.1,val.2.2),
                ())).bind
            (Ej a0 a1 val)
          else some (val,())
         else some (val,())
       else
        bif a1.1==4 then
         bif a0.2.2.1 then
          ((Dw val.1.2.2.2.1).bind fun val=>
             some
              ((val.1,val.2.1.1,val.2.1.2.1,val.2.1.2.2.1,val.2.1.2.2.2.1.1,val.2.1.2.2.2.1.2.1,
                val.2.1.2.2.2.1.2.2.1,val.2.1.2.2.2.1.2.2.2.1,val.2.1.2.2.2.2.1,val.2.1.2.2.2.2.2.1,
                val.2.1.2.2.2.2.2.2.1.1,val.2.2),
               ())).bind
           (Ej a0 a1 val)
         else some (val,())
        else some (val,())
    else
     bif a1.1==2 then
      bif a0.2.2.1 then
       ((P1 val.1.2.2.2.1 a1.2.1).bind fun val=>
          some
           ((val.1,val.2.1.1,val.2.1.2.1,val.2.1.2.2.1,val.2.1.2.2.2.1.1,val.2.1.2.2.2.1.2.1,
             val.2.1.2.2.2.1.2.2.1,val.2.1.2.2.2.1.2.2.2.1,val.2.1.2.2.2.2.1,val.2.1.2.2.2.2.2.1,
             val.2.1.2.2.2.2.2.2.1.1,val.2.2),
            ())).bind
        (Ej a0 a1 val)
      else
       bif a1.1==3 then
        bif a0.2.2.1 then
         ((Lb val.1.2.2.2.1).bind fun val=>
            some
             ((val.1,val.2.1.1,val.2.1.2.1,val.2.1.2.2.1,val.2.1.2.2.2.1.1,val.2.1.2.2.2.1.2.1,
               val.2.1.2.2.2.1.2.2.1,val.2.1.2.2.2.1.2.2.2.1,val.2.1.2.2.2.2.1,val.2.1.2.2.2.2.2.1,
               val.2.1.2.2.2.2.2.2.1.1,val.2.2),
              ())).bind
          (Ej a0 a1 val)
        else
         bif a1.1==4 then
          bif a0.2.2.1 then
           ((Dw val.1.2.2.2.1).bind fun val=>
              some
               ((val.1,val.2.1.1,val.2.1.2.1,val.2.1.2.2.1,val.2.1.2.2.2.1.1,val.2.1.2.2.2.1.2.1,
                 val.2.1.2.2.2.1.2.2.1,val.2.1.2.2.2.1.2.2.2.1,val.2.1.2.2.2.2.1,val.2.1.2.2.2.2.2.1,
                 val.2.1.2.2.2.2.2.2.1.1,val.2.2),
                ())).bind
            (Ej a0 a1 val)
          else some (val,())
         else some (val,())
       else
        bif a1.1==4 then
         bif a0.2.2.1 then
          ((Dw val.1.2.2.2.1).bind fun val=>
             some
              ((val.1,val.2.1.1,val.2.1.2.1,val.2.1.2.2.1,val.2.1.2.2.2.1.1,val.2.1.2.2.2.1.2.1,
                val.2.1.2.2.2.1.2.2.1,val.2.1.2.2.2.1.2.2.2.1,val.2.1.2.2.2.2.1,val.2.1.2.2.2.2.2.1,
                val.2.1.2.2.2.2.2.2.1.1,val.2.2),
               ())).bind
           (Ej a0 a1 val)
         else some (val,())
        else some (val,())
     else
      bif a1.1==3 then
       bif a0.2.2.1 then
        ((Lb val.1.2.2.2.1).bind fun val=>
           some
            ((val.1,val.2.1.1,val.2.1.2.1,val.2.1.2.2.1,val.2.1.2.2.2.1.1,val.2.1.2.2.2.1.2.1,
              val.2.1.2.2.2.1.2.2.1,val.2.1.2.2.2.1.2.2.2.1,val.2.1.2.2.2.2.1,val.2.1.2.2.2.2.2.1,
              val.2.1.2.2.2.2.2.2.1.1,val.2.2),
             ())).bind
         (Ej a0 a1 val)
       else
        bif a1.1==4 then
         bif a0.2.2.1 then
          ((Dw val.1.2.2.2.1).bind fun val=>
             some
              ((val.1,val.2.1.1,val.2.1.2.1,val.2.1.2.2.1,val.2.1.2.2.2.1.1,val.2.1.2.2.2.1.2.1,
                val.2.1.2.2.2.1.2.2.1,val.2.1.2.2.2.1.2.2.2.1,val.2.1.2.2.2.2.1,val.2.1.2.2.2.2.2.1,
                val.2.1.2.2.2.2.2.2.1.1,val.2.2),
               ())).bind
           (Ej a0 a1 val)
         else some (val,())
        else some (val,())
      else
       bif a1.1==4 then
        bif a0.2.2.1 then
         ((Dw val.1.2.2.2.1).bind fun val=>
            some
             ((val.1,val.2.1.1,val.2.1.2.1,val.2.1.2.2.1,val.2.1.2.2.2.1.1,val.2.1.2.2.2.1.2.1,
               val.2.1.2.2.2.1.2.2.1,val.2.1.2.2.2.1.2.2.2.1,val.2.1.2.2.2.2.1,val.2.1.2.2.2.2.2.1,
               val.2.1.2.2.2.2.2.2.1.1,val.2.2),
              ())).bind
          (Ej a0 a1 val)
        else some (val,())
       else some (val,())
theorem Bbo:∃ f,f=@Akj:=⟨_,rfl⟩
def Aio:=Classical.choose Bbo
theorem Bbp:@Aio=@Akj:=Classical.choose_spec Bbo
def Bbq:SD:=⟨Bn2,fun x=>Aio x.1 x.2.1⟩
theorem Bds:Bs Tryz.prog 27 Atu:=⟨Akd.1,fun x r h=>Akd.2 x r (by have q:(Xi x.1 x.2.1).bind (fun r=>some ((r.1,r.2.1.1,r.2.1.2.1,r.2.1.2.2.1,r.2.1.2.2.2.1.1,r.2.1.2.2.2.1.2.1,r.2.1.2.2.2.1.2.2.1,r.2.1.2.2.2.1.2.2.2.1,r.2.1.2.2.2.2.1,r.2.1.2.2.2.2.2.1,r.2.1.2.2.2.2.2.2.1.1,r.2.2.1,()),(())))=some r:=h; rw [Att] at q; exact q)⟩
theorem A5q:Bs Tryz.prog 33 Alr:=⟨Apv.1,fun x r h=>Apv.2 x r (by have q:(P1 x.1 x.2.1).bind (fun r=>some ((r.1,r.2.1.1,r.2.1.2.1,r.2.1.2.2.1,r.2.1.2.2.2.1.1,r.2.1.2.2.2.1.2.1,r.2.1.2.2.2.1.2.2.1,r.2.1.2.2.2.1.2.2.2.1,r.2.1.2.2.2.2.1,r.2.1.2.2.2.2.2.1,r.2.1.2.2.2.2.2.2.1.1,r.2.2.1,()),(())))=some r:=h; rw [Alq] at q; exact q)⟩
theorem Bbr:Bs Tryz.prog 34 Apy:=⟨Atr.1,fun x r h=>Atr.2 x r (by have q:(Lb x.1).bind (fun r=>some ((r.1,r.2.1.1,r.2.1.2.1,r.2.1.2.2.1,r.2.1.2.2.2.1.1,r.2.1.2.2.2.1.2.1,r.2.1.2.2.2.1.2.2.1,r.2.1.2.2.2.1.2.2.2.1,r.2.1.2.2.2.2.1,r.2.1.2.2.2.2.2.1,r.2.1.2.2.2.2.2.2.1.1,r.2.2.1,()),(())))=some r:=h; rw [Apx] at q; exact q)⟩
theorem A2o:Bs Tryz.prog 35 Ain:=⟨Aln.1,fun x r h=>Aln.2 x r (by have q:(Dw x.1).bind (fun r=>some ((r.1,r.2.1.1,r.2.1.2.1,r.2.1.2.2.1,r.2.1.2.2.2.1.1,r.2.1.2.2.2.1.2.1,r.2.1.2.2.2.1.2.2.1,r.2.1.2.2.2.1.2.2.2.1,r.2.1.2.2.2.2.1,r.2.1.2.2.2.2.2.1,r.2.1.2.2.2.2.2.2.1.1,r.2.2.1,()),(())))=some r:=h; rw [Aim] at q; exact q)⟩
theorem Av4:Bs Tryz.prog 60 Acm:=⟨Aex.1,fun x r h=>Aex.2 x r (by have q:(D9 x.1 x.2.1).bind (fun r=>some ((r.1,r.2.1,()),(())))=some r:=h; rw [Vf] at q; exact q)⟩
theorem Bv8 (v7:Int) (v8:Bool) (b0:Qw) (b1:Bg) (b2_0:Int) (b2_1:Dk) (b2_3:Bool) (b2_4:E5) (b3:R0) (r5:List B5) (r6:List Aa) (v:List Dl) (hv:v.length≤1073741824):∀ (k m i:Nat) (l:List Aa),i + k=v.length→k < m→l.length + k≤4000000000→l=Ep (v.take i)→
  As (Rg m v7 v8 v (nI v.length) i b0 b1 b2_0 b2_1 b2_3 b2_4 b3 l r5 r6) fun q=>q=(v7,v8,b0,b1,b2_0,b2_1,b2_3,b2_4,b3,Ep v,r5,r6,()):=by
 intro k
 induction k with
 | zero=>
  intro m i l hi hm hl he
  cases m with
  | zero=>omega
  | succ m=>
   simp only [Rg,Ub]
   rw [he,List.take_of_length_le (by omega)]
   exact As.no (Bd (by simp only [nI]; omega)) (As.some rfl)
 | succ k ih=>
  intro m i l hi hm hl he
  cases m with
  | zero=>omega
  | succ m=>
   have e1:IntKind.i64.wrap ((i:Int) + 1)=((i + 1:Nat):Int):=wI (by omega)
   have d:decide ((i:Int) < nI v.length)=true:=Ag (by simp only [nI]; omega)
   have hs:=Bvw (v.take i) (v.getD i zOp)
   rw [← A9f (by omega),← he] at hs
   simp only [Rg,Ub,e1,d,G9,cond_true]
   have hz:v.getD (Int.toNat (i:Int)) (false,0,Ad,())=v.getD i zOp:=rfl
   rw [hz]
   cases hc:(v.getD i zOp).1 with
   | true=>
    rw [hc] at hs
    refine As.no rfl (ih m (i + 1) l (by omega) (by omega) (by omega) ?_)
    rw [hs]
    exact (List.append_nil l).symm
   | false=>
    rw [hc] at hs
    exact As.go rfl (As.go (Ag (by first | omega | (simp only [Et]; omega))) (ih m (i + 1) _ (by omega) (by omega) (by rw [Ef,Et]; omega) hs.symm))
theorem Bv9 {w:Bg} {e:Qw} {x:R0} (hv:Bf w=true) (hx:XOk x) {n:Int} {cut:Bool} (hc:d5 e x=cut) (hn:y7 e x=n) (zW:Bg):
  As (Kq (n,cut,e,zW,w.1,w.2.1,w.2.2.1,w.2.2.2.1,x,Ep (x.2.2.1.take n.toNat),w.2.2.2.2.1,w.2.2.2.2.2.1,())) fun q=>q.1.1=Ff w e x:=by
 have hl:=(x9 hv).2.1
 have hp:=(x9 hv).2.2
 have hd:=Ix (x9 hv).1
 have ho:=hx.ops
 have hwl:(Ep (x.2.2.1.take n.toNat)).length≤1073741824:=by
  unfold Ep
  rw [List.length_map]
  refine Nat.le_trans (List.length_filter_le _ _) ?_
  rw [List.length_take]
  omega
 have hW:w.2.2.2.2.2.1++Ep (x.2.2.1.take n.toNat)=K9 w e x:=by unfold K9; rw [hn]
 have hWl:(K9 w e x).length=w.2.2.2.2.2.1.length + (Ep (x.2.2.1.take n.toNat)).length:=by rw [← hW,Ef]
 have hst:=Ca hx.s
 have ecs:Bt x.2.1.2.2.2.2.2.2.1=some x.2.1.2.2.2.2.2.2.1:=if_pos (Nat.le_trans hst (by decide))
 have epf:J2 w.2.1 x.2.2.1 n=some (Cn w.2.1 x.2.2.1 n):=if_pos (by omega)
 have epl:∀ d:Dk,D9 d e.2.2.2.1=some (E9 d e.2.2.2.1):=fun d=>by rw [Vf]; rfl
 unfold Kq
 dsimp only
 rw [show IntKind.i64.wrap (nI w.2.2.2.2.2.1.length + nI (Ep (x.2.2.1.take n.toNat)).length)=((K9 w e x).length:Int) by rw [hWl]; simp only [nI]; rw [Aj (by omega) (by omega)]; omega,ecs,epf,hW]
 refine As.cond (fun d1=>As.some ?_) fun d1=>?_
 ·have d1:=Io d1
  exact (Ajt (w:=w) (Aju (Ag (by omega)) rfl)).symm
 ·have d1:=of_decide_eq_false d1
  have d1':decide ((K9 w e x).length > 2000)=false:=Bd (by omega)
  cases hk:(e.1==2) with
  | true=>
   have hpe:w.2.2.2.2.1++[x.2.1.2.2.2.2.2.2.1]=Gp w e x:=by unfold Gp; rw [hk]; rfl
   have hpl:(Gp w e x).length=w.2.2.2.2.1.length + 1:=by rw [← hpe,Ef,Et]
   refine As.go rfl (As.cond (fun d2=>As.some ?_) fun d2=>?_)
   ·have d2:=Io d2
    simp only [nI] at d2
    exact (Ajt (w:=w) (by rw [Aju d1' (Ag (by omega)),Bool.or_true])).symm
   ·have d2:=of_decide_eq_false d2
    simp only [nI] at d2
    have hf:Tt w e x=false:=by rw [Aju d1' (Bd (by omega))]; rfl
    refine As.go (Ag (by rw [hWl] at d1; omega)) (As.go rfl ?_)
    refine As.bind ⟨_,rfl,rfl⟩ fun a ha=>?_
    subst ha
    refine As.go (Ag (by first | omega | (simp only [Et]; omega))) ?_
    refine As.bind ⟨_,rfl,rfl⟩ fun a ha=>?_
    subst ha
    dsimp only
    rw [hpe]
    cases cut with
    | true=>
     refine As.go rfl ?_
     rw [epl]
     refine As.some ?_
     rw [A02 hf hc,hn]
     rfl
    | false=>
     have hne:(e.1 != 2)=false:=by rw [bne,hk]; rfl
     rw [hne]
     refine As.no rfl (As.no rfl (As.some ?_))
     rw [A9e hf hc,hn,hk]
     rfl
  | false=>
   have hpe:w.2.2.2.2.1=Gp w e x:=by unfold Gp; rw [hk]; rfl
   have hf:Tt w e x=false:=by rw [Aju d1' (Bd (by rw [← hpe]; omega))]; rfl
   refine As.no rfl (As.go (Ag (by rw [hWl] at d1; omega)) (As.no rfl ?_))
   refine As.bind ⟨_,rfl,rfl⟩ fun a ha=>?_
   subst ha
   dsimp only
   rw [hpe]
   cases cut with
   | true=>
    refine As.go rfl ?_
    rw [epl]
    refine As.some ?_
    rw [A02 hf hc,hn]
    rfl
   | false=>
    have hne:(e.1 != 2)=true:=by rw [bne,hk]; rfl
    rw [hne]
    refine As.no rfl (As.go rfl (As.some ?_))
    rw [A9e hf hc,hn,hk]
    rfl
theorem Bil {w:Bg} {e:Qw} {x:R0} (hv:Bf w=true) (hx:XOk x) (hS:doS w e=bif x.1 != 0 then w else Ff w e x) (zW:Bg):
  As (bif x.1 != 0 then some ((w,()),()) else
   bif Ba e.2.2.1 0 (nI x.2.2.1.length) then
    bif decide (0≤e.2.2.1) then bif decide (e.2.2.1≤nI x.2.2.1.length) then
     (Rh (e.2.2.1,Ba e.2.2.1 0 (nI x.2.2.1.length),List.drop (Int.toNat 0) (List.take (Int.toNat e.2.2.1) x.2.2.1),nI (List.drop (Int.toNat 0) (List.take (Int.toNat e.2.2.1) x.2.2.1)).length,0,e,zW,w.1,w.2.1,w.2.2.1,w.2.2.2.1,x,[],w.2.2.2.2.1,w.2.2.2.2.2.1,())).bind Kq
    else none else none
   else
    bif decide (nI x.2.2.1.length≤nI x.2.2.1.length) then
     (Rh (nI x.2.2.1.length,Ba e.2.2.1 0 (nI x.2.2.1.length),List.drop (Int.toNat 0) (List.take (nI x.2.2.1.length).toNat x.2.2.1),nI (List.drop (Int.toNat 0) (List.take (nI x.2.2.1.length).toNat x.2.2.1)).length,0,e,zW,w.1,w.2.1,w.2.2.1,w.2.2.2.1,x,[],w.2.2.2.2.1,w.2.2.2.2.2.1,())).bind Kq
    else none) fun q=>q.1.1=doS w e:=by
 rw [hS]
 have ho:=hx.ops
 have e0:Ba e.2.2.1 0 (nI x.2.2.1.length)=d5 e x:=rfl
 rw [e0]
 have go:∀ (n:Int) (cut:Bool),d5 e x=cut→y7 e x=n→As ((Rh (n,cut,List.drop (Int.toNat 0) (List.take (Int.toNat n) x.2.2.1),nI (List.drop (Int.toNat 0) (List.take (Int.toNat n) x.2.2.1)).length,0,e,zW,w.1,w.2.1,w.2.2.1,w.2.2.2.1,x,[],w.2.2.2.2.1,w.2.2.2.2.2.1,())).bind Kq) fun q=>q.1.1=Ff w e x:=fun n cut h1 h2=>by
  rw [show List.drop (Int.toNat 0) (List.take (Int.toNat n) x.2.2.1)=x.2.2.1.take n.toNat from rfl]
  have hlt:(x.2.2.1.take n.toNat).length≤1073741824:=by rw [List.length_take]; omega
  refine As.bind (Bv8 n cut e zW w.1 w.2.1 w.2.2.1 w.2.2.2.1 x w.2.2.2.2.1 w.2.2.2.2.2.1 (x.2.2.1.take n.toNat) hlt (x.2.2.1.take n.toNat).length _ 0 [] (by omega) (by simp only [Af9,nI]; omega) (by simp only [List.length_nil]; omega) rfl) fun q hq=>?_
  rw [hq]
  exact Bv9 hv hx h1 h2 zW
 refine As.cond (fun c=>As.some (by rw [c]; rfl)) fun c=>?_
 rw [show (bif x.1 != 0 then w else Ff w e x)=Ff w e x by rw [c]; rfl]
 cases hcut:d5 e x with
 | true=>
  obtain ⟨c1,c2⟩:=B6 (show (decide (0≤e.2.2.1)&&decide (e.2.2.1≤(x.2.2.1.length:Int)))=true from hcut)
  exact As.go rfl (As.go c1 (As.go c2 (go _ _ hcut (by unfold y7; rw [hcut]; rfl))))
 | false=>exact As.no rfl (As.go (Ag (Int.le_refl _)) (go _ _ hcut (by unfold y7; rw [hcut]; rfl)))
theorem Bx3 {w:Bg} (hv:Bf w=true) (h40:w.2.1.1.length≤40) (e:Qw):As (Aio w e) fun q=>q.1.1=doS w e:=by
 have hw:=Bfp hv h40
 rw [Bbp]
 unfold Akj
 have e0:H4 w=Bf w:=rfl
 rw [e0,hv]
 refine As.no rfl (As.bind (Bt6 (A04 hv)) fun q hq=>?_)
 obtain ⟨q,⟨⟩⟩:=q
 have hq:q=w:=hq
 subst hq
 have epl:∀ d:Dk,D9 d e.2.2.2.1=some (E9 d e.2.2.2.1):=fun d=>by rw [Vf]; rfl
 have eop:Xi q.2.1 q.1=some (Oo q.2.1 q.1):=by rw [Att]; rfl
 have eco:P1 q.2.2.2.1 e.2.1=some (Es q.2.2.2.1 e.2.1):=by rw [Alq]; rfl
 have efl:Lb q.2.2.2.1=some (O4 q.2.2.2.1):=by rw [Apx]; rfl
 have ecm:Dw q.2.2.2.1=some (Hr q.2.2.2.1):=by rw [Aim]; rfl
 by_cases h5:e.1=5
 ·have k5:(e.1==5)=true:=beq_iff_eq.2 h5
  have hS:doS q e=Ag2 q e.2.2.2.1:=by unfold doS; rw [k5]; rfl
  rw [hS,k5]
  refine As.go rfl ?_
  rw [epl]
  exact As.some rfl
 ·have k5:(e.1==5)=false:=beq_eq_false_iff_ne.2 h5
  have hS0:doS q e=bif !(Jq q e).2 || (Jq q e).1.1 != 0 then q else Ff q e (Jq q e).1:=by unfold doS; rw [k5]; rfl
  have hX:=XOk.calls hw e
  have none_:(Jq q e).2=false→doS q e=q:=fun h=>by rw [hS0,h]; rfl
  have some_:∀ x,Jq q e=(x,true)→doS q e=bif x.1 != 0 then q else Ff q e x:=fun x h=>by rw [hS0,h]; rfl
  by_cases h1:e.1=1
  ·have k1:(e.1==1)=true:=beq_iff_eq.2 h1
   have k2:(e.1==2)=false:=beq_eq_false_iff_ne.2 (by omega)
   have k3:(e.1==3)=false:=beq_eq_false_iff_ne.2 (by omega)
   have k4:(e.1==4)=false:=beq_eq_false_iff_ne.2 (by omega)
   cases hu:q.2.2.1 with
   | true=>
    simp only [k5,k1,k2,k3,k4,hu,cond_true,cond_false,Bool.not_true,Bool.not_false]
    exact As.some (none_ (by unfold Jq; rw [k1,hu]; rfl)).symm
   | false=>
    simp only [k5,k1,k2,k3,k4,hu,cond_true,cond_false,Bool.not_true,Bool.not_false,eop,Option.bind_some]
    have hc:Jq q e=(Oo q.2.1 q.1,true):=by unfold Jq; rw [k1,hu]; rfl
    have:=Bil hv (x:=Oo q.2.1 q.1) (by rw [hc] at hX; exact hX) (some_ _ hc) (0,([],[],()),false,(0,0,0,(0,0,0,0,()),0,0,([],()),()),[],[],())
    exact this
  ·have k1:(e.1==1)=false:=beq_eq_false_iff_ne.2 h1
   cases hu:q.2.2.1 with
   | false=>
    have hn:(Jq q e).2=false:=by
     unfold Jq
     rw [k1,hu]
     cases (e.1==2)<;>cases (e.1==3)<;>cases (e.1==4)<;>rfl
    simp only [k5,k1,hu,cond_true,cond_false,Bool.not_true,Bool.not_false]
    refine As.cond (fun _=>As.cond (fun _=>As.cond (fun _=>As.some (none_ hn).symm) fun _=>As.some (none_ hn).symm) fun _=>As.cond (fun _=>As.some (none_ hn).symm) fun _=>As.some (none_ hn).symm) fun _=>As.cond (fun _=>As.cond (fun _=>As.some (none_ hn).symm) fun _=>As.some (none_ hn).symm) fun _=>As.cond (fun _=>As.some (none_ hn).symm) fun _=>As.some (none_ hn).symm
   | true=>
    by_cases h2:e.1=2
    ·have k2:(e.1==2)=true:=beq_iff_eq.2 h2
     simp only [k5,k1,k2,hu,cond_true,cond_false,Bool.not_true,Bool.not_false,eco,Option.bind_some]
     have hc:Jq q e=(Es q.2.2.2.1 e.2.1,true):=by unfold Jq; rw [k1,k2,hu]; rfl
     have:=Bil hv (x:=Es q.2.2.2.1 e.2.1) (by rw [hc] at hX; exact hX) (some_ _ hc) (0,([],[],()),false,(0,0,0,(0,0,0,0,()),0,0,([],()),()),[],[],())
     exact this
    ·have k2:(e.1==2)=false:=beq_eq_false_iff_ne.2 h2
     by_cases h3:e.1=3
     ·have k3:(e.1==3)=true:=beq_iff_eq.2 h3
      simp only [k5,k1,k2,k3,hu,cond_true,cond_false,Bool.not_true,Bool.not_false,efl,Option.bind_some]
      have hc:Jq q e=(O4 q.2.2.2.1,true):=by unfold Jq; rw [k1,k2,k3,hu]; rfl
      have:=Bil hv (x:=O4 q.2.2.2.1) (by rw [hc] at hX; exact hX) (some_ _ hc) (0,([],[],()),false,(0,0,0,(0,0,0,0,()),0,0,([],()),()),[],[],())
      exact this
     ·have k3:(e.1==3)=false:=beq_eq_false_iff_ne.2 h3
      by_cases h4:e.1=4
      ·have k4:(e.1==4)=true:=beq_iff_eq.2 h4
       simp only [k5,k1,k2,k3,k4,hu,cond_true,cond_false,Bool.not_true,Bool.not_false,ecm,Option.bind_some]
       have hc:Jq q e=(Hr q.2.2.2.1,true):=by unfold Jq; rw [k1,k2,k3,k4,hu]; rfl
       have:=Bil hv (x:=Hr q.2.2.2.1) (by rw [hc] at hX; exact hX) (some_ _ hc) (0,([],[],()),false,(0,0,0,(0,0,0,0,()),0,0,([],()),()),[],[],())
       exact this
      ·have k4:(e.1==4)=false:=beq_eq_false_iff_ne.2 h4
       simp only [k5,k1,k2,k3,k4,hu,cond_true,cond_false,Bool.not_true,Bool.not_false]
       exact As.some (none_ (by unfold Jq; rw [k1,k2,k3,k4]; rfl)).symm
def Atw {R:Type} (k:Kt R):=(I3 (Zc 26) (.exit 1) 3 k)
def Bf2 {R:Type}:Lt R Zc:=(Ea (pat:=Zc) 26 (fun d k=>(Rh d).bind (Atw k)) Hn)
theorem Bbs:A2 Tryz.prog Bbn:=A5 ⟨Bds,A5q,Bbr,A2o,Av4,U1,D2,A5p,Rs,Azq,trivial⟩
theorem Bdt {R:Type}:A4 Tryz.prog R 182 0 Zc Bf2 Atv:=
 B8 (cfg:=⟨Bbn,0,182,Zc⟩) 26 [] (fun NX X (d:(Int)×(Bool)×(List Dl)×(Int)×(Int)×Qw×Bg×(Int)×Dk×(Bool)×E5×R0×(List Aa)×(List B5)×(List Aa)×Unit)=>(u4 (u4 (u4 (Ac (Ac (Ac Ae)))))) (Ub  NX X) d) (fun m d=>(u4 (u4 (u4 (Ac (Ac (Ac Ae)))))) (Rg m) d) (fun d=>(u4 (u4 (u4 (Ac (Ac (Ac Ae)))))) Af9 d) Atw Bbs trivial (fun f NX (d:(Int)×(Bool)×(List Dl)×(Int)×(Int)×Qw×Bg×(Int)×Dk×(Bool)×E5×R0×(List Aa)×(List B5)×(List Aa)×Unit)=>by simp only [u4,Ac,Ae]; unfold Ub; simp only [nb])
theorem Bn3:Bs Tryz.prog 45 Bbq:=
 A3 (pat:=Zc) [Atv] Bf2 Bbs ⟨Bdt,trivial⟩ Tryz.func45 (de:=fun x=>Akj x.1 x.2.1) (fun x r h=>by have q:Aio x.1 x.2.1=some r:=h; rw [Bbp] at q; exact q) fun _=>by kernel_rfl
def Bbt:Gc:=⟨[.rd (.sl (.int .u8))],[none],[.bx 176 (.pair (.sl (.int .u8)) (.pair tI .unit))],[none]⟩
def Xj (a0:List Int):Option (((((List Int)×Int×Unit)×Unit)×(Unit))):=
 bif decide (nI a0.length > 2000) then bif decide (2000≤nI a0.length) then some (((List.drop (Int.toNat 0) (List.take (Int.toNat 2000) a0),0,()),()),()) else none else some (((a0,0,()),()),())
theorem Apz:∃ f,f=@Xj:=⟨_,rfl⟩
def Ri:=Classical.choose Apz
theorem Ap0:@Ri=@Xj:=Classical.choose_spec Apz
def Acn:SD:=⟨Bbt,fun x=>Ri x.1⟩
theorem Bpu (b:List Int) (h:Agp (.sl (.int .u8)) b):As (Ri b) fun r=>RdK 0 r.1.1:=by
 obtain ⟨_,h⟩:=h
 have hb:∀ l:List Int,(∀ x∈l,x∈b)→l.length≤2000→rdB l=true:=fun l h1 h2=>by
  unfold rdB
  rw [Ag h2,Bool.true_and,List.all_eq_true]
  intro x hx
  obtain ⟨i,hi,e⟩:=List.getElem_of_mem (h1 x hx)
  have q:=h i x (by rw [← e]; exact List.getElem?_eq_getElem hi)
  have q:(Lit.int .u8 x).wf=true:=q
  simp only [Lit.wf,Bool.and_eq_true,decide_eq_true_eq] at q
  simp only [Bool.and_eq_true,decide_eq_true_eq]
  have q1:(0:Int)≤x:=q.1
  have q2:x≤255:=q.2
  omega
 rw [Ap0]
 unfold Xj
 refine As.cond (fun c=>?_) fun c=>?_
 ·simp only [decide_eq_true_eq,nI] at c
  refine As.go (Ag (by simp only [nI]; omega)) (As.some ⟨hb _ (fun x hx=>List.mem_of_mem_take (List.mem_of_mem_drop hx)) ?_,Int.le_refl 0,Int.le_refl 0⟩)
  simp only [List.drop_zero,List.length_take,Int.toNat_zero]
  omega
 ·simp only [decide_eq_false_iff_not,nI] at c
  exact As.some ⟨hb _ (fun x hx=>hx) (by show b.length≤2000; omega),Int.le_refl 0,Int.le_refl 0⟩
theorem Ap1:Bs Tryz.prog 61 Acn:=
 A3 (pat:=Dp) [] Hn (A5 (l:=[]) trivial) trivial Tryz.func61 (de:=fun x=>Xj x.1) (fun x r h=>by have q:Ri x.1=some r:=h; rw [Ap0] at q; exact q) fun _=>by kernel_rfl
def Azr (b:List Int) (p:Int):Int:=IntKind.i64.wrap (IntKind.i64.wrap (IntKind.i64.wrap (IntKind.i64.wrap (IntKind.i64.wrap (b.getD (p.tmod (nI b.length)).toNat 0) * 131) + IntKind.i64.wrap (IntKind.i64.wrap (b.getD ((IntKind.i64.wrap (IntKind.i64.wrap (p * 7) + 3)).tmod (nI b.length)).toNat 0) * 1117)) + IntKind.i64.wrap (p * 29)) + IntKind.i64.wrap (IntKind.i64.wrap (p.tdiv (nI b.length)) * 53))
def Bbu (b:List Int) (p n:Int):Int:=bif decide (n < 1) then 0 else bif nI b.length==0 then 0 else bif decide (p < nI b.length) then (IntKind.i64.wrap (b.getD p.toNat 0)).tmod n else
 (IntKind.i64.wrap (nI (BitVec.ofInt 64 (Azr b p) ^^^ BitVec.ofInt 64 (IntKind.i64.wrap ((Azr b p).tdiv 64))).toNat)).tmod n
theorem Bpv:∃ f:Rd→Int→Option (Int×Rd),f=fun r n=>if rdB r.1=true∧0≤r.2.1∧r.2.1 < 1099511627776 then some (Bbu r.1 r.2.1 n,(r.1,r.2.1 + 1,())) else none:=⟨_,rfl⟩
def Ab (r:Rd) (n:Int):Option (Int×Rd):=Classical.choose Bpv r n
theorem Bpw (r:Rd) (n:Int):Ab r n=if rdB r.1=true∧0≤r.2.1∧r.2.1 < 1099511627776 then some (Bbu r.1 r.2.1 n,(r.1,r.2.1 + 1,())) else none:=by
 unfold Ab
 rw [Classical.choose_spec Bpv]
def Av5:Gc:=⟨[.bx 176 (.pair (.sl (.int .u8)) (.pair tI .unit)),.rd tI],[none,none],[.rd tI],[none]⟩
def Ek:SD:=⟨Av5,fun x=>(Ab x.1 x.2.1).bind fun r=>some ((r.1,()),(r.2,()))⟩
def Vg (a0:(List Int)×Int×Unit) (a1:Int):Option ((((Int)×Unit)×(((List Int)×Int×Unit)×Unit))):=
 bif decide (a1 < 1) then some ((0,()),(a0.1,IntKind.i64.wrap (a0.2.1 + 1),()),()) else bif nI (List.length a0.1)==0 then some ((0,()),(a0.1,IntKind.i64.wrap (a0.2.1 + 1),()),()) else bif decide (IntKind.i64.wrap (IntKind.i64.wrap (a0.2.1 + 1) - 1) < nI (List.length a0.1)) then bif decide (0≤IntKind.i64.wrap (IntKind.i64.wrap (a0.2.1 + 1) - 1)) then bif decide (IntKind.i64.wrap (IntKind.i64.wrap (a0.2.1 + 1) - 1) < nI (List.length a0.1)) then bif !decide (a1=0) then some (((IntKind.i64.wrap (List.getD a0.1 (IntKind.i64.wrap (IntKind.i64.wrap (a0.2.1 + 1) - 1)).toNat 0)).tmod a1,()),(a0.1,IntKind.i64.wrap (a0.2.1 + 1),()),()) else none else none else none else bif !decide (nI (List.length a0.1)=0) then bif decide (0≤(IntKind.i64.wrap (IntKind.i64.wrap (a0.2.1 + 1) - 1)).tmod (nI (List.length a0.1))) then bif decide ((IntKind.i64.wrap (IntKind.i64.wrap (a0.2.1 + 1) - 1)).tmod (nI (List.length a0.1)) < nI (List.length a0.1)) then bif !decide (nI (List.length a0.1)=0) then bif decide (0≤(IntKind.i64.wrap (IntKind.i64.wrap (IntKind.i64.wrap (IntKind.i64.wrap (a0.2.1 + 1) - 1) * 7) + 3)).tmod (nI (List.length a0.1))) then bif decide ((IntKind.i64.wrap (IntKind.i64.wrap (IntKind.i64.wrap (IntKind.i64.wrap (a0.2.1 + 1) - 1) * 7) + 3)).tmod (nI (List.length a0.1)) < nI (List.length a0.1)) then bif !decide (nI (List.length a0.1)=0) then bif !decide (a1=0) then some (((IntKind.i64.wrap (nI (BitVec.ofInt 64 (IntKind.i64.wrap (IntKind.i64.wrap (IntKind.i64.wrap (IntKind.i64.wrap (IntKind.i64.wrap (List.getD a0.1 ((IntKind.i64.wrap (IntKind.i64.wrap (a0.2.1 + 1) - 1)).tmod (nI (List.length a0.1))).toNat 0) * 131) + IntKind.i64.wrap (IntKind.i64.wrap (List.getD a0.1 ((IntKind.i64.wrap (IntKind.i64.wrap (IntKind.i64.wrap (IntKind.i64.wrap (a0.2.1 + 1) - 1) * 7) + 3)).tmod (nI (List.length a0.1))).toNat 0) * 1117)) + IntKind.i64.wrap (IntKind.i64.wrap (IntKind.i64.wrap (a0.2.1 + 1) - 1) * 29)) + IntKind.i64.wrap (IntKind.i64.wrap ((IntKind.i64.wrap (IntKind.i64.wrap (a0.2.1 + 1) - 1)).tdiv (nI (List.length a0.1))) * 53))) ^^^ BitVec.ofInt 64 (IntKind.i64.wrap ((IntKind.i64.wrap (IntKind.i64.wrap (IntKind.i64.wrap (IntKind.i64.wrap (IntKind.i64.wrap (List.getD a0.1 ((IntKind.i64.wrap (IntKind.i64.wrap (a0.2.1 + 1) - 1)).tmod (nI (List.length a0.1))).toNat 0) * 131) + IntKind.i64.wrap (IntKind.i64.wrap (List.getD a0.1 ((IntKind.i64.wrap (IntKind.i64.wrap (IntKind.i64.wrap (IntKind.i64.wrap (a0.2.1 + 1) - 1) * 7) + 3)).tmod (nI (List.length a0.1))).toNat 0) * 1117)) + IntKind.i64.wrap (IntKind.i64.wrap (IntKind.i64.wrap (a0.2.1 + 1) - 1) * 29)) + IntKind.i64.wrap (IntKind.i64.wrap ((IntKind.i64.wrap (IntKind.i64.wrap (a0.2.1 + 1) - 1)).tdiv (nI (List.length a0.1))) * 53))).tdiv 64))).toNat)).tmod a1,()),(a0.1,IntKind.i64.wrap (a0.2.1 + 1),()),()) else none else none else none else none else none else none else none else none
theorem Bt7 {b:List Int} {p:Int} (hb:rdB b=true) (h0:0≤p) (h1:p < 1099511627776) (hn:0 < b.length):0≤Azr b p∧Azr b p < 1125899906842624:=by
 have c1:=Bnb hb (p.tmod (nI b.length)).toNat
 have c2:=Bnb hb ((IntKind.i64.wrap (IntKind.i64.wrap (p * 7) + 3)).tmod (nI b.length)).toNat
 have c3:0≤p.tdiv (nI b.length)∧p.tdiv (nI b.length)≤p:=by
  rw [Int.tdiv_eq_ediv_of_nonneg h0]
  exact ⟨Int.ediv_nonneg h0 (by simp [nI]),Int.ediv_le_self _ h0⟩
 unfold Azr
 generalize b.getD (p.tmod (nI b.length)).toNat 0=x at *
 generalize b.getD ((IntKind.i64.wrap (IntKind.i64.wrap (p * 7) + 3)).tmod (nI b.length)).toNat 0=y at *
 generalize p.tdiv (nI b.length)=z at *
 rw [Aj (n:=x) (by omega) (by omega),Aj (n:=y) (by omega) (by omega),Aj (n:=z) (by omega) (by omega),Aj (n:=y * 1117) (by omega) (by omega),Aj (n:=x * 131) (by omega) (by omega),Aj (n:=p * 29) (by omega) (by omega),Aj (n:=z * 53) (by omega) (by omega),Aj (n:=x * 131 + y * 1117) (by omega) (by omega),Aj (n:=x * 131 + y * 1117 + p * 29) (by omega) (by omega),Aj (by omega) (by omega)]
 omega
theorem Bt8 {b:List Int} {p n:Int} (hb:rdB b=true) (h0:0≤p) (h1:p < 1099511627776):0≤Bbu b p n∧(1≤n→Bbu b p n < n)∧(n < 1→Bbu b p n=0):=by
 unfold Bbu
 by_cases hn:n < 1
 ·rw [Ag hn]
  exact ⟨Int.le_refl 0,fun q=>by omega,fun _=>rfl⟩
 ·rw [Bd hn,cond_false]
  refine ⟨?_,fun _=>?_,fun q=>absurd q hn⟩
  all_goals
   by_cases hl:b.length=0
   ·rw [show (nI b.length==0)=true by simp [nI,hl]]
    simp only [cond_true]
    omega
   ·rw [show (nI b.length==0)=false by simp only [nI,beq_eq_false_iff_ne]; omega,cond_false]
    by_cases hp:p < nI b.length
    ·rw [Ag hp,cond_true]
     have c:=Bnb hb p.toNat
     rw [Aj (by omega) (by omega)]
     have:=A64 (x:=b.getD p.toNat 0) (n:=n) c.1 (by omega)
     omega
    ·rw [Bd hp,cond_false]
     obtain ⟨x0,x1⟩:=Bt7 hb h0 h1 (by omega)
     have t:0≤(Azr b p).tdiv 64∧(Azr b p).tdiv 64≤Azr b p:=by
      rw [Int.tdiv_eq_ediv_of_nonneg x0]
      omega
     rw [Aj (n:=(Azr b p).tdiv 64) (by omega) (by omega)]
     have:=A64 (n:=n) (Bq1 x0 (by omega) t.1 (by omega)) (by omega)
     omega
theorem Bwa {k:Nat} {r:Rd} (n:Int) (h:RdK k r) (hk:k < 1099511627776):∃ v,Ab r n=some (v,(r.1,r.2.1 + 1,()))∧0≤v∧(1≤n→v < n)∧(n < 1→v=0)∧RdK (k + 1) (r.1,r.2.1 + 1,()):=by
 obtain ⟨h1,h2,h3⟩:=h
 have hn:=Bt8 (n:=n) h1 h2 (by omega)
 exact ⟨_,by rw [Bpw,if_pos ⟨h1,h2,by omega⟩],hn.1,hn.2.1,hn.2.2,h1,by show 0≤r.2.1 + 1; omega,by show r.2.1 + 1≤((k + 1:Nat):Int); omega⟩
theorem Ed {α:Type} {k:Nat} {r:Rd} {n:Int} {f:(Int×Unit)×Rd×Unit→Option α} {S:α→Prop} (h:RdK k r) (hk:k < 1099511627776) (hn:1≤n) (q:∀ v r',0≤v→v < n→RdK (k + 1) r'→As (f ((v,()),r',())) S):
  As (((Ab r n).bind fun val=>some ((val.1,()),val.2,())).bind f) S:=by
 obtain ⟨v,e,v0,v1,_,h'⟩:=Bwa n h hk
 rw [e]
 exact q v _ v0 (v1 hn) h'
theorem Av6 (a0:(List Int)×Int×Unit) (a1:Int) r (h:Ab a0 a1=some r):Vg a0 a1=some ((r.1,()),(r.2,())):=by
 rw [Bpw] at h
 split at h
 ·rename_i hc
  obtain ⟨hb,h0,h1⟩:=hc
  cases h
  unfold Vg
  have e1:IntKind.i64.wrap (a0.2.1 + 1)=a0.2.1 + 1:=Aj (by omega) (by omega)
  have e2:IntKind.i64.wrap (a0.2.1 + 1 - 1)=a0.2.1:=by rw [Aj (by omega) (by omega)]; omega
  simp only [e1,e2]
  unfold Bbu
  by_cases hn:a1 < 1
  ·rw [Ag hn]; rfl
  ·rw [Bd hn]
   have hn0:decide (a1=0)=false:=Bd (by omega)
   simp only [cond_false]
   by_cases hl:a0.1.length=0
   ·rw [show (nI a0.1.length==0)=true by simp [nI,hl]]; rfl
   ·rw [show (nI a0.1.length==0)=false by simp only [nI,beq_eq_false_iff_ne]; omega]
    have hl0:decide (nI a0.1.length=0)=false:=Bd (by simp only [nI]; omega)
    simp only [cond_false]
    by_cases hp:a0.2.1 < nI a0.1.length
    ·rw [Ag hp,Ag h0,hn0]; rfl
    ·have t1:=A64 (n:=nI a0.1.length) h0 (by simp only [nI]; omega)
     have w7:IntKind.i64.wrap (IntKind.i64.wrap (a0.2.1 * 7) + 3)=a0.2.1 * 7 + 3:=by rw [Aj (n:=a0.2.1 * 7) (by omega) (by omega),Aj (by omega) (by omega)]
     have t2:=A64 (x:=a0.2.1 * 7 + 3) (n:=nI a0.1.length) (by omega) (by simp only [nI]; omega)
     rw [← w7] at t2
     rw [Bd hp,hl0,hn0,Ag t1.1,Ag t1.2,Ag t2.1,Ag t2.2]
     rfl
 ·cases h
theorem Fq:Bs Tryz.prog 63 Ek:=
 A3 (pat:=Dp) [] Hn (A5 (l:=[]) trivial) trivial Tryz.func63 (de:=fun x=>Vg x.1 x.2.1) (fun x r h=>F1 (Av6 x.1 x.2.1) h) fun _=>by kernel_rfl
def Ta (v0:Aa) (v1:Int) (v5:Aa):Nat:=v1.toNat + 1
def Bbv:Gc:=⟨[.rd .str,.rd tI],[none,none],[.rd .str],[none]⟩
def Ap2:Tb:=tb []
def P2:Nat→C2×(Nat→C2):=F0 [(3,⟨[],[(0,.lf (.d .str)),(1,.lf (.d tI)),(5,.lf (.d .str))],[]⟩,[(2,⟨[],[(5,.lf (.d .str))],[]⟩)])]
def Aip:Code:=(At (Bb Tryz.f195)).getD 0 .skip
def Tc {R:Type}  (NX:((Aa)×(Int)×(Aa)×Unit)→Option R) (X2:((Aa)×Unit)→Option R) (v0:Aa) (v1:Int) (v5:Aa):Option R:=
 bif decide (v1 > 0) then bif v1.tmod 2==1 then bif decide (v5.size + v0.size≤9223372036854775807) then bif decide (v0.size + v0.size≤9223372036854775807) then NX (v0++v0,IntKind.i64.wrap (v1.tdiv 2),v5++v0,()) else none else none else bif decide (v0.size + v0.size≤9223372036854775807) then NX (v0++v0,IntKind.i64.wrap (v1.tdiv 2),v5,()) else none else X2 (v5,())
def Lx:Nat→(Aa)→(Int)→(Aa) →  Option ((Aa)×Unit)
 | 0,_,_,_=>none
 | m + 1,v0,v1,v5=>Tc  (fun d=>Lx m d.1 d.2.1 d.2.2.1) (fun d=>some (d)) v0 v1 v5
def A2p (d:(Aa)×(Int)×(Aa)×Unit):Option ((Aa)×Unit):=(Ac (Ac (Ac Ae))) (Lx ((Ac (Ac (Ac Ae))) Ta d)) d
def Xk (a0:Aa) (a1:Int):Option ((((Aa)×Unit)×(Unit))):=
 ((fun d=>Lx (Ta d.1 d.2.1 d.2.2.1) d.1 d.2.1 d.2.2.1) (a0,a1,Ad,())).bind fun val=>some (val,())
theorem Ap3:∃ f,f=@Xk:=⟨_,rfl⟩
def Rj:=Classical.choose Ap3
theorem Ap4:@Rj=@Xk:=Classical.choose_spec Ap3
def Aco:SD:=⟨Bbv,fun x=>Rj x.1 x.2.1⟩
theorem A2q:∀ (m n:Nat) (v0 v5:Aa),n < m→n < 1099511627776→v5.size + v0.size * n≤1099511627776→As (Lx m v0 n v5) fun r=>r.1.size=v5.size + v0.size * n
 | 0,n,v0,v5,h,_,_=>by omega
 | m + 1,n,v0,v5,h,hn,ht=>by
  simp only [Lx,Tc]
  refine As.cond (fun c=>?_) fun c=>?_
  ·have hp:0 < n:=by simpa using c
   have e:v0.size * n=2 * (v0.size * (n / 2)) + v0.size * (n % 2):=by
    conv=>lhs; rw [← Nat.div_add_mod n 2]
    rw [Nat.mul_add,Nat.mul_left_comm]
   have e':(v0.size + v0.size) * (n / 2)=2 * (v0.size * (n / 2)):=by rw [Nat.add_mul]; omega
   have hle:v0.size≤v0.size * n:=Nat.le_mul_of_pos_right _ hp
   have e1:IntKind.i64.wrap (Int.tdiv (n:Int) 2)=((n / 2:Nat):Int):=by
    rw [Int.tdiv_eq_ediv_of_nonneg (by omega),Aj (by omega) (by omega)]
    rfl
   have e2:(Int.tmod (n:Int) 2==1)=decide (n % 2=1):=by
    rw [Int.tmod_eq_emod_of_nonneg (by omega)]
    by_cases q:n % 2=1
    ·rw [Ag q]; simp; omega
    ·rw [Bd q]; simp; omega
   rw [e1,e2]
   refine As.cond (fun c=>?_) fun c=>?_
   ·rw [Io c,Nat.mul_one] at e
    refine As.go (Ag (by omega)) (As.go (Ag (by omega)) ?_)
    refine (A2q m (n / 2) (v0++v0) (v5++v0) (by omega) (by omega) (by simp only [ByteArray.size_append]; omega)).mono fun r q=>?_
    simp only [ByteArray.size_append] at q
    omega
   ·have c:=of_decide_eq_false c
    rw [show n % 2=0 by omega,Nat.mul_zero] at e
    refine As.go (Ag (by omega)) ?_
    refine (A2q m (n / 2) (v0++v0) v5 (by omega) (by omega) (by simp only [ByteArray.size_append]; omega)).mono fun r q=>?_
    simp only [ByteArray.size_append] at q
    omega
  ·have:n=0:=by simpa using c
   subst this
   exact As.some (by simp)
theorem Bpx (s:Aa) (n:Int) (h0:0≤n) (h1:n≤10000) (hs:s.size≤10000):As (Rj s n) fun r=>r.1.1.size=s.size * n.toNat:=by
 obtain ⟨k,rfl⟩:∃ k:Nat,n=(k:Int):=⟨n.toNat,by omega⟩
 rw [Ap4]
 unfold Xk
 have hk:s.size * k≤10000 * 10000:=Nat.mul_le_mul hs (by omega)
 refine As.bind (A2q _ k s (Ad) (by simp [Ta]) (by omega) (by show 0 + s.size * k≤_; omega)) fun r q=>As.some ?_
 rw [En]
 exact q.trans (Nat.zero_add _)
def Aiq {R:Type} (k:Kt R):=(I3 (P2 3) (.exit 0) 2 k)
def Atx {R:Type}:Lt R P2:=(Ea (pat:=P2) 3 (fun d k=>(A2p d).bind (Aiq k)) Hn)
theorem Ap5:A2 Tryz.prog Ap2:=A5 trivial
theorem A2r {R:Type}:A4 Tryz.prog R 20 0 P2 Atx Aip:=
 B8 (cfg:=⟨Ap2,0,20,P2⟩) 3 [] (fun NX X d=>(Ac (Ac (Ac Ae))) (Tc  NX X) d) (fun m d=>(Ac (Ac (Ac Ae))) (Lx m) d) (fun d=>(Ac (Ac (Ac Ae))) Ta d) Aiq Ap5 trivial (fun f NX d=>by simp only [u4,Ac,Ae]; unfold Tc; simp only [nb])
theorem Ap6:Bs Tryz.prog 195 Aco:=
 A3 (pat:=P2) [Aip] Atx Ap5 ⟨A2r,trivial⟩ Tryz.func195 (de:=fun x=>Xk x.1 x.2.1) (fun x r h=>by have q:Rj x.1 x.2.1=some r:=h; rw [Ap4] at q; exact q) fun _=>by kernel_rfl
def M3 (v3:Aa) (v4:Int) (b0:(List Int)×Int×Unit):Nat:=v4.toNat + 1
def Av7:Gc:=⟨[.bx 176 (.pair (.sl (.int .u8)) (.pair tI .unit))],[none],[.rd .str],[none]⟩
def Acp:Tb:=tb [(63,Ek),(195,Aco)]
def Jb:Nat→C2×(Nat→C2):=F0 [(13,⟨[],[(0,.lf (.ptr 0 0)),(3,.lf (.d .str)),(4,.lf (.d tI))],[.box 176 [.d (.pair (.sl (.int .u8)) (.pair tI .unit))]]⟩,[(3,⟨[],[(3,.lf (.d .str))],[.box 176 [.d (.pair (.sl (.int .u8)) (.pair tI .unit))]]⟩)])]
def X5:Code:=(At (Bb Tryz.f194)).getD 0 .skip
def M4 {R:Type}  (NX:((Aa)×(Int)×((List Int)×Int×Unit)×Unit)→Option R) (X3:((Aa)×((List Int)×Int×Unit)×Unit)→Option R) (v3:Aa) (v4:Int) (b0:(List Int)×Int×Unit):Option R:=
 bif decide (v4 > 0) then ((Ab b0 4).bind fun val=>some ((val.1,()),val.2,())).bind fun val=>bif decide (0≤val.1.1) then bif decide (val.1.1≤nI (ByteArray.mk #[97,98,99,100]).size) then bif decide (1≤nI (Ah (ByteArray.mk #[97,98,99,100]) val.1.1 (nI (ByteArray.mk #[97,98,99,100]).size)).size) then bif decide (v3.size + (Ah (Ah (ByteArray.mk #[97,98,99,100]) val.1.1 (nI (ByteArray.mk #[97,98,99,100]).size)) 0 1).size≤9223372036854775807) then NX (v3++Ah (Ah (ByteArray.mk #[97,98,99,100]) val.1.1 (nI (ByteArray.mk #[97,98,99,100]).size)) 0 1,IntKind.i64.wrap (v4 - 1),val.2) else none else none else none else none else X3 (v3,b0,())
def Gw:Nat→(Aa)→(Int)→((List Int)×Int×Unit) →  Option ((Aa)×((List Int)×Int×Unit)×Unit)
 | 0,_,_,_=>none
 | m + 1,v3,v4,b0=>M4  (fun d=>Gw m d.1 d.2.1 d.2.2.1) (fun d=>some (d)) v3 v4 b0
def Amo (d:(Aa)×(Int)×((List Int)×Int×Unit)×Unit):Option ((Aa)×((List Int)×Int×Unit)×Unit):=(Ac (Ac (Ac Ae))) (Gw ((Ac (Ac (Ac Ae))) M3 d)) d
def Qu (a0:(List Int)×Int×Unit):Option ((((Aa)×Unit)×(((List Int)×Int×Unit)×Unit))):=
 ((Ab a0 8).bind fun val=>some ((val.1,()),val.2,())).bind fun val=>bif val.1.1==0 then some ((Ad,()),val.2) else bif val.1.1==1 then some ((ByteArray.mk #[0,255],()),val.2) else bif val.1.1==2 then ((Ab val.2.1 21).bind fun val=>some ((val.1,()),val.2,())).bind fun val=>(Rj (ByteArray.mk #[108,111,110,103]) (IntKind.i64.wrap (5 + val.1.1))).bind fun val_1=>some (val_1.1,val.2) else bif val.1.1==3 then some ((ByteArray.mk #[45],()),val.2) else ((Ab val.2.1 4).bind fun val=>some ((val.1,()),val.2,())).bind fun val=>((fun d=>Gw (M3 d.1 d.2.1 d.2.2.1) d.1 d.2.1 d.2.2.1) (Ad,IntKind.i64.wrap (1 + val.1.1),val.2)).bind fun val=>some ((val.1,()),val.2)
theorem Acq:∃ f,f=@Qu:=⟨_,rfl⟩
def Ie:=Classical.choose Acq
theorem Acr:@Ie=@Qu:=Classical.choose_spec Acq
def Acs:SD:=⟨Av7,fun x=>Ie x.1⟩
theorem Bf3:∀ (m n:Nat) (k:Nat) (v3:Aa) (r:Rd),n < m→n≤10→v3.size + n≤100→RdK k r→k + n < 1099511627776→As (Gw m v3 n r) fun q=>q.1.size≤100∧RdK (k + n) q.2.1
 | 0,n,k,v3,r,h,_,_,_,_=>by omega
 | m + 1,n,k,v3,r,h,hn,hs,hr,hk=>by
  simp only [Gw,M4]
  refine As.cond (fun c=>?_) fun c=>?_
  ·have hp:0 < n:=by simpa using c
   refine Ed hr (by omega) (by omega) fun v r' v0 v1 h'=>?_
   have sz:((ByteArray.mk #[97,98,99,100]).size:Int)=4:=rfl
   have e1:=A63 (s:=ByteArray.mk #[97,98,99,100]) v0 (show v≤nI (ByteArray.mk #[97,98,99,100]).size by simp only [nI,sz]; omega) (Int.le_refl _)
   have e2:=A63 (s:=Ah (ByteArray.mk #[97,98,99,100]) v (nI (ByteArray.mk #[97,98,99,100]).size)) (i:=0) (j:=1) (by omega) (by omega) (by simp only [nI,sz] at e1 ⊢; omega)
   refine As.go (Ag v0) (As.go (Ag (show v≤_ by simp only [nI,sz]; omega)) (As.go (Ag (show 1≤nI (Ah (ByteArray.mk #[97,98,99,100]) v (nI (ByteArray.mk #[97,98,99,100]).size)).size by simp only [nI,sz] at e1 ⊢; omega)) (As.go (Ag (show v3.size + (Ah (Ah (ByteArray.mk #[97,98,99,100]) v (nI (ByteArray.mk #[97,98,99,100]).size)) 0 1).size≤_ by omega)) ?_)))
   have ew:IntKind.i64.wrap ((n:Int) - 1)=((n - 1:Nat):Int):=by rw [Aj (by omega) (by omega)]; omega
   rw [ew]
   refine (Bf3 m (n - 1) (k + 1) (v3++Ah (Ah (ByteArray.mk #[97,98,99,100]) v (nI (ByteArray.mk #[97,98,99,100]).size)) 0 1) r' (by omega) (by omega) (by rw [ByteArray.size_append]; omega) h' (by omega)).mono fun q hq=>⟨hq.1,?_⟩
   rw [show k + 1 + (n - 1)=k + n by omega] at hq
   exact hq.2
  ·have:n=0:=by simpa using c
   subst this
   exact As.some ⟨by show v3.size≤100; omega,hr⟩
theorem Bwb {k:Nat} {r:Rd} (h:RdK k r) (hk:k + 10 < 1099511627776):As (Ie r) fun q=>q.1.1.size≤100∧RdK (k + 10) q.2.1:=by
 rw [Acr]
 unfold Qu
 refine Ed h (by omega) (by omega) fun v r' v0 v1 h1=>?_
 refine As.cond (fun _=>As.some ⟨Nat.zero_le _,h1.mono (by omega)⟩) fun _=>As.cond (fun _=>As.some ⟨by show 2≤100; omega,h1.mono (by omega)⟩) fun _=>As.cond (fun _=>?_) fun _=>As.cond (fun _=>As.some ⟨by show 1≤100; omega,h1.mono (by omega)⟩) fun _=>?_
 ·dsimp only
  refine Ed h1 (by omega) (by omega) fun v2 r2 w0 w1 h2=>?_
  dsimp only
  have ew:IntKind.i64.wrap (5 + v2)=5 + v2:=Aj (by omega) (by omega)
  simp only [ew]
  refine As.bind (Bpx (ByteArray.mk #[108,111,110,103]) (5 + v2) (by omega) (by omega) (by decide)) fun q hq=>As.some ⟨?_,h2.mono (by omega)⟩
  show q.1.1.size≤100
  rw [hq]
  show 4 * _≤100
  omega
 ·dsimp only
  refine Ed h1 (by omega) (by omega) fun v2 r2 w0 w1 h2=>?_
  dsimp only
  have ew:IntKind.i64.wrap (1 + v2)=((1 + v2).toNat:Int):=by rw [Aj (by omega) (by omega)]; omega
  simp only [ew]
  refine As.bind (Bf3 _ (1 + v2).toNat (k + 2) (Ad) r2 (by simp only [M3]; omega) (by omega) (by show 0 + _≤100; omega) h2 (by omega)) fun q hq=>As.some ⟨hq.1,hq.2.mono (by omega)⟩
def X6 {R:Type} (k:Kt R):=(I3 (Jb 13) (.exit 1) 3 k)
def Ae4 {R:Type}:Lt R Jb:=(Ea (pat:=Jb) 13 (fun d k=>(Amo d).bind (X6 k)) Hn)
theorem Acu:A2 Tryz.prog Acp:=A5 ⟨Fq,Ap6,trivial⟩
theorem Amp {R:Type}:A4 Tryz.prog R 33 1 Jb Ae4 X5:=
 B8 (cfg:=⟨Acp,1,33,Jb⟩) 13 [] (fun NX X d=>(Ac (Ac (Ac Ae))) (M4  NX X) d) (fun m d=>(Ac (Ac (Ac Ae))) (Gw m) d) (fun d=>(Ac (Ac (Ac Ae))) M3 d) X6 Acu trivial (fun f NX d=>by simp only [u4,Ac,Ae]; unfold M4; simp only [nb])
theorem Av8:Bs Tryz.prog 194 Acs:=
 A3 (pat:=Jb) [X5] Ae4 Acu ⟨Amp,trivial⟩ Tryz.func194 (de:=fun x=>Qu x.1) (fun x r h=>by have q:Ie x.1=some r:=h; rw [Acr] at q; exact q) fun _=>by kernel_rfl
def Ase:Gc:=⟨[.bx 176 (.pair (.sl (.int .u8)) (.pair tI .unit))],[none],[.own 99 Do],[none]⟩
def o5:Tb:=tb [(63,Ek),(194,Acs)]
def In:Nat→C2×(Nat→C2):=F0 [(7,⟨[.row 3 0 99 Do],[(0,.lf (.ptr 0 0)),(3,.lf (.row 1)),(4,.lf (.d tI)),(5,.lf (.d tI))],[.box 176 [.d (.pair (.sl (.int .u8)) (.pair tI .unit))],.row 99 Do]⟩,[(2,⟨[.row 3 0 99 Do],[(3,.lf (.row 1))],[.box 176 [.d (.pair (.sl (.int .u8)) (.pair tI .unit))],.row 99 Do]⟩)])]
def X7:Code:=(At (Bb Tryz.f115)).getD 0 .skip
def Gy (v4 v5:Int) (b0:(List Int)×Int×Unit) (r1:List Be):Nat:=(v4 - v5).toNat + 1
def M5 {R:Type}  (NX:((Int)×(Int)×((List Int)×Int×Unit)×(List Be)×Unit)→Option R) (X2:(((List Int)×Int×Unit)×(List Be)×Unit)→Option R) (v4:Int) (v5:Int) (b0:(List Int)×Int×Unit) (r1:List Be):Option R:=
 bif decide (v5 < v4) then ((Ab b0 8).bind fun val=>some ((val.1,()),val.2,())).bind fun val=>bif decide (0≤val.1.1) then bif decide (val.1.1≤nI (ByteArray.mk #[97,98,99,100,101,102,103,104]).size) then bif decide (1≤nI (Ah (ByteArray.mk #[97,98,99,100,101,102,103,104]) val.1.1 (nI (ByteArray.mk #[97,98,99,100,101,102,103,104]).size)).size) then bif decide ((ByteArray.mk #[107]).size + (Ah (Ah (ByteArray.mk #[97,98,99,100,101,102,103,104]) val.1.1 (nI (ByteArray.mk #[97,98,99,100,101,102,103,104]).size)) 0 1).size≤9223372036854775807) then ((Ab val.2.1 4).bind fun val=>some ((val.1,()),val.2,())).bind fun val_1=>bif decide (v4 > 8) then ((Ab val_1.2.1 3).bind fun val=>some ((val.1,()),val.2,())).bind fun val_2=>bif decide (0≤val_2.1.1) then bif decide (val_2.1.1≤nI (ByteArray.mk #[120,121,122]).size) then bif decide (1≤nI (Ah (ByteArray.mk #[120,121,122]) val_2.1.1 (nI (ByteArray.mk #[120,121,122]).size)).size) then bif decide ((ByteArray.mk #[107]++Ah (Ah (ByteArray.mk #[97,98,99,100,101,102,103,104]) val.1.1 (nI (ByteArray.mk #[97,98,99,100,101,102,103,104]).size)) 0 1).size + (Ah (Ah (ByteArray.mk #[120,121,122]) val_2.1.1 (nI (ByteArray.mk #[120,121,122]).size)) 0 1).size≤9223372036854775807) then bif !val_1.1.1==0 then (Ie val_2.2.1).bind fun val_3=>bif decide (nI (ByteArray.size val_3.1.1) > 100) then bif decide (100≤nI (ByteArray.size val_3.1.1)) then bif decide ((r1.length + [(ByteArray.mk #[107]++Ah (Ah (ByteArray.mk #[97,98,99,100,101,102,103,104]) val.1.1 (nI (ByteArray.mk #[97,98,99,100,101,102,103,104]).size)) 0 1++Ah (Ah (ByteArray.mk #[120,121,122]) val_2.1.1 (nI (ByteArray.mk #[120,121,122]).size)) 0 1,Ah val_3.1.1 0 100,val_1.1.1==0,())].length) * 40≤140737488355328) then NX (v4,IntKind.i64.wrap (v5 + 1),val_3.2.1,r1++[(ByteArray.mk #[107]++Ah (Ah (ByteArray.mk #[97,98,99,100,101,102,103,104]) val.1.1 (nI (ByteArray.mk #[97,98,99,100,101,102,103,104]).size)) 0 1++Ah (Ah (ByteArray.mk #[120,121,122]) val_2.1.1 (nI (ByteArray.mk #[120,121,122]).size)) 0 1,Ah val_3.1.1 0 100,val_1.1.1==0,())],()) else none else none else bif decide ((r1.length + [(ByteArray.mk #[107]++Ah (Ah (ByteArray.mk #[97,98,99,100,101,102,103,104]) val.1.1 (nI (ByteArray.mk #[97,98,99,100,101,102,103,104]).size)) 0 1++Ah (Ah (ByteArray.mk #[120,121,122]) val_2.1.1 (nI (ByteArray.mk #[120,121,122]).size)) 0 1,val_3.1.1,val_1.1.1==0,())].length) * 40≤140737488355328) then NX (v4,IntKind.i64.wrap (v5 + 1),val_3.2.1,r1++[(ByteArray.mk #[107]++Ah (Ah (ByteArray.mk #[97,98,99,100,101,102,103,104]) val.1.1 (nI (ByteArray.mk #[97,98,99,100,101,102,103,104]).size)) 0 1++Ah (Ah (ByteArray.mk #[120,121,122]) val_2.1.1 (nI (ByteArray.mk #[120,121,122]).size)) 0 1,val_3.1.1,val_1.1.1==0,())],()) else none else bif decide ((r1.length + [(ByteArray.mk #[107]++Ah (Ah (ByteArray.mk #[97,98,99,100,101,102,103,104]) val.1.1 (nI (ByteArray.mk #[97,98,99,100,101,102,103,104]).size)) 0 1++Ah (Ah (ByteArray.mk #[120,121,122]) val_2.1.1 (nI (ByteArray.mk #[120,121,122]).size)) 0 1,Ad,val_1.1.1==0,())].length) * 40≤140737488355328) then NX (v4,IntKind.i64.wrap (v5 + 1),val_2.2.1,r1++[(ByteArray.mk #[107]++Ah (Ah (ByteArray.mk #[97,98,99,100,101,102,103,104]) val.1.1 (nI (ByteArray.mk #[97,98,99,100,101,102,103,104]).size)) 0 1++Ah (Ah (ByteArray.mk #[120,121,122]) val_2.1.1 (nI (ByteArray.mk #[120,121,122]).size)) 0 1,Ad,val_1.1.1==0,())],()) else none else none else none else none else none else bif !val_1.1.1==0 then (Ie val_1.2.1).bind fun val_2=>bif decide (nI (ByteArray.size val_2.1.1) > 100) then bif decide (100≤nI (ByteArray.size val_2.1.1)) then bif decide ((r1.length + [(ByteArray.mk #[107]++Ah (Ah (ByteArray.mk #[97,98,99,100,101,102,103,104]) val.1.1 (nI (ByteArray.mk #[97,98,99,100,101,102,103,104]).size)) 0 1,Ah val_2.1.1 0 100,val_1.1.1==0,())].length) * 40≤140737488355328) then NX (v4,IntKind.i64.wrap (v5 + 1),val_2.2.1,r1++[(ByteArray.mk #[107]++Ah (Ah (ByteArray.mk #[97,98,99,100,101,102,103,104]) val.1.1 (nI (ByteArray.mk #[97,98,99,100,101,102,103,104]).size)) 0 1,Ah val_2.1.1 0 100,val_1.1.1==0,())],()) else none else none else bif decide ((r1.length + [(ByteArray.mk #[107]++Ah (Ah (ByteArray.mk #[97,98,99,100,101,102,103,104]) val.1.1 (nI (ByteArray.mk #[97,98,99,100,101,102,103,104]).size)) 0 1,val_2.1.1,val_1.1.1==0,())].length) * 40≤140737488355328) then NX (v4,IntKind.i64.wrap (v5 + 1),val_2.2.1,r1++[(ByteArray.mk #[107]++Ah (Ah (ByteArray.mk #[97,98,99,100,101,102,103,104]) val.1.1 (nI (ByteArray.mk #[97,98,99,100,101,102,103,104]).size)) 0 1,val_2.1.1,val_1.1.1==0,())],()) else none else bif decide ((r1.length + [(ByteArray.mk #[107]++Ah (Ah (ByteArray.mk #[97,98,99,100,101,102,103,104]) val.1.1 (nI (ByteArray.mk #[97,98,99,100,101,102,103,104]).size)) 0 1,Ad,val_1.1.1==0,())].length) * 40≤140737488355328) then NX (v4,IntKind.i64.wrap (v5 + 1),val_1.2.1,r1++[(ByteArray.mk #[107]++Ah (Ah (ByteArray.mk #[97,98,99,100,101,102,103,104]) val.1.1 (nI (ByteArray.mk #[97,98,99,100,101,102,103,104]).size)) 0 1,Ad,val_1.1.1==0,())],()) else none else none else none else none else none else X2 (b0,r1,())
def B3:Nat→(Int)→(Int)→((List Int)×Int×Unit)→(List Be) →  Option (((List Int)×Int×Unit)×(List Be)×Unit)
 | 0,_,_,_,_=>none
 | m + 1,v4,v5,b0,r1=>M5  (fun d=>B3 m d.1 d.2.1 d.2.2.1 d.2.2.2.1) (fun d=>some (d)) v4 v5 b0 r1
def Amq (d:(Int)×(Int)×((List Int)×Int×Unit)×(List Be)×Unit):Option (((List Int)×Int×Unit)×(List Be)×Unit):=(u4 Ae) (B3 ((u4 Ae) Gy d)) d
def Ox (a0:(List Int)×Int×Unit):Option ((((List Be)×Unit)×(((List Int)×Int×Unit)×Unit))):=
 ((Ab a0 4).bind fun val=>some ((val.1,()),val.2,())).bind fun val=>((Ab val.2.1 10).bind fun val=>some ((val.1,()),val.2,())).bind fun val_1=>bif val_1.1.1==0 then ((Ab val_1.2.1 2).bind fun val=>some ((val.1,()),val.2,())).bind fun val=>((fun d=>B3 (Gy d.1 d.2.1 d.2.2.1 d.2.2.2.1) d.1 d.2.1 d.2.2.1 d.2.2.2.1) (IntKind.i64.wrap (20 - val.1.1),0,val.2.1,[],())).bind fun val=>some (val.2,val.1,()) else ((fun d=>B3 (Gy d.1 d.2.1 d.2.2.1 d.2.2.2.1) d.1 d.2.1 d.2.2.1 d.2.2.2.1) (IntKind.i64.wrap (1 + val.1.1),0,val_1.2.1,[],())).bind fun val=>some (val.2,val.1,())
theorem o6:∃ f,f=@Ox:=⟨_,rfl⟩
def Jc:=Classical.choose o6
theorem o7:@Jc=@Ox:=Classical.choose_spec o6
def o8:SD:=⟨Ase,fun x=>Jc x.1⟩
theorem Bbw (n:Nat) (hn:n≤20):∀ (m i k:Nat) (r:Rd) (l:List Be),n - i < m→i≤n→l.length=i→(∀ c∈l,Bcq c)→RdK k r→k + 15 * (n - i) < 1099511627776→
  As (B3 m n i r l) fun q=>RdK (k + 15 * (n - i)) q.1∧q.2.1.length=n∧∀ c∈q.2.1,Bcq c
 | 0,i,k,r,l,h,_,_,_,_,_=>by omega
 | m + 1,i,k,r,l,h,hi,hl,hc,hr,hk=>by
  simp only [B3,M5]
  refine As.cond (fun c=>?_) fun c=>?_
  ·have hi':i < n:=by simpa using c
   have fin:∀ (c:Be) (r':Rd),Bcq c→RdK (k + 15) r'→As (bif decide ((l.length + [c].length) * 40≤140737488355328) then B3 m n (IntKind.i64.wrap ((i:Int) + 1)) r' (l++[c]) else none) fun q=>RdK (k + 15 * (n - i)) q.1∧q.2.1.length=n∧∀ c∈q.2.1,Bcq c:=fun c r' h1 h2=>by
    refine As.go (Ag (by simp only [Et]; omega)) ?_
    rw [wI (by omega)]
    refine (Bbw n hn m (i + 1) (k + 15) r' (l++[c]) (by omega) (by omega) (by rw [Ef,Et,hl]) (Btt hc h1) h2 (by omega)).mono fun q hq=>?_
    rw [show k + 15 + 15 * (n - (i + 1))=k + 15 * (n - i) by omega] at hq
    exact hq
   refine Ed hr (by omega) (by omega) fun v r1 v0 v1 h1=>?_
   dsimp only
   refine As.letter v0 v1 fun s1=>?_
   generalize Ah (Ah (ByteArray.mk #[97,98,99,100,101,102,103,104]) v (nI (ByteArray.mk #[97,98,99,100,101,102,103,104]).size)) 0 1=c1 at *
   have k1:(ByteArray.mk #[107]++c1).size=2:=by rw [ByteArray.size_append,s1]; rfl
   refine As.go (Ag (by rw [s1]; decide)) ?_
   refine Ed h1 (by omega) (by omega) fun g r2 g0 g1 h2=>?_
   dsimp only
   have val:∀ (key:Aa) (r3:Rd),key.size≤1000→RdK (k + 3) r3→As (bif !(g==0) then (Ie r3).bind fun val=>bif decide (nI (ByteArray.size val.1.1) > 100) then bif decide (100≤nI (ByteArray.size val.1.1)) then bif decide ((l.length + [((key,Ah val.1.1 0 100,g==0,()):Be)].length) * 40≤140737488355328) then B3 m n (IntKind.i64.wrap ((i:Int) + 1)) val.2.1 (l++[(key,Ah val.1.1 0 100,g==0,())]) else none else none
     else bif decide ((l.length + [((key,val.1.1,g==0,()):Be)].length) * 40≤140737488355328) then B3 m n (IntKind.i64.wrap ((i:Int) + 1)) val.2.1 (l++[(key,val.1.1,g==0,())]) else none
     else bif decide ((l.length + [((key,Ad,g==0,()):Be)].length) * 40≤140737488355328) then B3 m n (IntKind.i64.wrap ((i:Int) + 1)) r3 (l++[(key,Ad,g==0,())]) else none) fun q=>RdK (k + 15 * (n - i)) q.1∧q.2.1.length=n∧∀ c∈q.2.1,Bcq c:=fun key r3 hkey h3=>by
    refine As.cond (fun _=>?_) fun _=>fin _ _ ⟨hkey,Nat.zero_le _⟩ (h3.mono (by omega))
    refine As.bind (Bwb h3 (by omega)) fun q hq=>?_
    refine As.cond (fun c=>?_) fun c=>fin _ _ ⟨hkey,by show q.1.1.size≤1000; omega⟩ (hq.2.mono (by omega))
    exfalso
    have c:=Io c
    simp only [nI] at c
    omega
   refine As.cond (fun _=>?_) fun _=>val _ r2 (by rw [k1]; decide) (h2.mono (by omega))
   refine Ed h2 (by omega) (by omega) fun w r3 w0 w1 h3=>?_
   dsimp only
   refine As.letter w0 w1 fun s2=>?_
   generalize Ah (Ah (ByteArray.mk #[120,121,122]) w (nI (ByteArray.mk #[120,121,122]).size)) 0 1=c2 at *
   refine As.go (Ag (by rw [s2,k1]; decide)) ?_
   exact val _ r3 (by rw [ByteArray.size_append,s2,k1]; decide) (h3.mono (by omega))
  ·have:i=n:=by have:=of_decide_eq_false c; omega
   subst this
   exact As.some ⟨hr.mono (by omega),hl,hc⟩
theorem Bt9 {k:Nat} {r:Rd} (h:RdK k r) (hk:k + 400 < 1099511627776):As (Jc r) fun q=>(1≤q.1.1.length∧q.1.1.length≤20∧∀ c∈q.1.1,Bcq c)∧RdK (k + 400) q.2.1:=by
 rw [o7]
 unfold Ox
 refine Ed h (by omega) (by omega) fun v r1 v0 v1 h1=>?_
 dsimp only
 refine Ed h1 (by omega) (by omega) fun w r2 w0 w1 h2=>?_
 dsimp only
 have fin:∀ (n:Nat) (x:Int) (r3:Rd),x=(n:Int)→1≤n→n≤20→RdK (k + 3) r3→As ((B3 (Gy x 0 r3 []) x 0 r3 []).bind fun val=>some ((val.2.1,()),val.1,())) fun q=>(1≤q.1.1.length∧q.1.1.length≤20∧∀ c∈q.1.1,Bcq c)∧RdK (k + 400) q.2.1:=fun n x r3 hx n1 n2 h3=>by
  subst hx
  refine As.bind (Bbw n n2 _ 0 (k + 3) r3 [] (by simp only [Gy]; omega) (by omega) rfl (fun c hc=>by cases hc) h3 (by omega)) fun q hq=>As.some ⟨⟨by show 1≤q.2.1.length; omega,by show q.2.1.length≤20; omega,hq.2.2⟩,hq.1.mono (by omega)⟩
 refine As.cond (fun _=>?_) fun _=>?_
 ·refine Ed h2 (by omega) (by omega) fun u r3 u0 u1 h3=>?_
  dsimp only
  exact fin (20 - u).toNat _ r3 (by rw [Aj (by omega) (by omega)]; omega) (by omega) (by omega) h3
 ·exact fin (1 + v).toNat _ r2 (by rw [Aj (by omega) (by omega)]; omega) (by omega) (by omega) (h2.mono (by omega))
def X8 {R:Type} (k:Kt R):=(I3 (In 7) (.exit 0) 2 k)
def Acv {R:Type}:Lt R In:=(Ea (pat:=In) 7 (fun d k=>(Amq d).bind (X8 k)) Hn)
theorem o9:A2 Tryz.prog o5:=A5 ⟨Fq,Av8,trivial⟩
theorem Amr {R:Type}:A4 Tryz.prog R 60 1 In Acv X7:=
 B8 (cfg:=⟨o5,1,60,In⟩) 7 [] (fun NX X d=>(u4 Ae) (M5  NX X) d) (fun m d=>(u4 Ae) (B3 m) d) (fun d=>(u4 Ae) Gy d) X8 o9 trivial (fun f NX d=>by simp only [u4,Ac,Ae]; unfold M5; simp only [nb])
theorem Asf:Bs Tryz.prog 115 o8:=
 A3 (pat:=In) [X7] Acv o9 ⟨Amr,trivial⟩ Tryz.func115 (de:=fun x=>Ox x.1) (fun x r h=>by have q:Jc x.1=some r:=h; rw [o7] at q; exact q) fun _=>by kernel_rfl
def Hm (v7:Int) (_:(List Int)×Int×Unit) (_:Int) (_:List Be) (_:Int) (_:List Int) (_:Int) (_:List Be) (_:Int) (_:List Int):Nat:=v7.toNat + 1
def A5r:Gc:=⟨[.bx 176 (.pair (.sl (.int .u8)) (.pair tI .unit)),.rd .bool],[none,none],[.rd Arq],[some 4]⟩
def Als:Tb:=tb [(63,Ek),(115,o8)]
def Nj:Nat→C2×(Nat→C2):=F0 [(21,⟨[.boxSl 4 1 Do,.boxSl 4 3 tI,.boxSl 5 1 Do,.boxRow 5 3 3 tI],[(0,.lf (.ptr 0 0)),(4,.lf (.ptr 1 0)),(5,.lf (.ptr 2 0)),(7,.lf (.d tI))],[.box 176 [.d (.pair (.sl (.int .u8)) (.pair tI .unit))],.box 87 [.d tI,.d (.sl Do),.d tI,.d (.sl tI)],.box 87 [.d tI,.d (.sl Do),.d tI,.row 3],.row 3 tI]⟩,[(2,⟨[.boxSl 4 1 Do,.boxSl 4 3 tI,.boxSl 5 1 Do,.boxRow 5 3 3 tI],[(4,.lf (.ptr 1 0)),(5,.lf (.ptr 2 0))],[.box 176 [.d (.pair (.sl (.int .u8)) (.pair tI .unit))],.box 87 [.d tI,.d (.sl Do),.d tI,.d (.sl tI)],.box 87 [.d tI,.d (.sl Do),.d tI,.row 3],.row 3 tI]⟩)])]
def Acw:Code:=(At (Bb Tryz.f145)).getD 0 .skip
def Mw {R:Type}  (NX:((Int)×((List Int)×Int×Unit)×(Int)×(List Be)×(Int)×(List Int)×(Int)×(List Be)×(Int)×(List Int)×Unit)→Option R) (X2:(((List Int)×Int×Unit)×(Int)×(List Be)×(Int)×(List Int)×(Int)×(List Be)×(Int)×(List Int)×Unit)→Option R) (v7:Int) (b0:(List Int)×Int×Unit) (b1_0:Int) (b1_1:List Be) (b1_2:Int) (b1_3:List Int) (b2_0:Int) (b2_1:List Be) (b2_2:Int) (r3:List Int):Option R:=
 bif decide (v7 > 0) then ((Ab b0 63).bind fun val=>some ((val.1,()),val.2,())).bind fun val=>((Ab val.2.1 6).bind fun val=>some ((val.1,()),val.2,())).bind fun val_1=>bif decide (0≤val_1.1.1) then bif decide (val_1.1.1 < nI [0,64,64,IntKind.i64.wrap (1 + val.1.1),-1,65].length) then bif decide ((r3.length + [[0,64,64,IntKind.i64.wrap (1 + val.1.1),-1,65].getD (Int.toNat val_1.1.1) 0].length) * 8≤140737488355328) then NX (IntKind.i64.wrap (v7 - 1),val_1.2.1,b1_0,b1_1,b1_2,b1_3,b2_0,b2_1,b2_2,r3++[[0,64,64,IntKind.i64.wrap (1 + val.1.1),-1,65].getD (Int.toNat val_1.1.1) 0],()) else none else none else none else X2 (b0,b1_0,b1_1,b1_2,b1_3,b2_0,b2_1,b2_2,r3,())
def Dn:Nat→(Int)→((List Int)×Int×Unit)→(Int)→(List Be)→(Int)→(List Int)→(Int)→(List Be)→(Int)→(List Int) →  Option (((List Int)×Int×Unit)×(Int)×(List Be)×(Int)×(List Int)×(Int)×(List Be)×(Int)×(List Int)×Unit)
 | 0,_,_,_,_,_,_,_,_,_,_=>none
 | m + 1,v7,b0,b1_0,b1_1,b1_2,b1_3,b2_0,b2_1,b2_2,r3=>Mw  (fun d=>Dn m d.1 d.2.1 d.2.2.1 d.2.2.2.1 d.2.2.2.2.1 d.2.2.2.2.2.1 d.2.2.2.2.2.2.1 d.2.2.2.2.2.2.2.1 d.2.2.2.2.2.2.2.2.1 d.2.2.2.2.2.2.2.2.2.1) (fun d=>some (d)) v7 b0 b1_0 b1_1 b1_2 b1_3 b2_0 b2_1 b2_2 r3
def Aq (d:(Int)×((List Int)×Int×Unit)×(Int)×(List Be)×(Int)×(List Int)×(Int)×(List Be)×(Int)×(List Int)×Unit):Option (((List Int)×Int×Unit)×(Int)×(List Be)×(Int)×(List Int)×(Int)×(List Be)×(Int)×(List Int)×Unit):=(u4 (u4 (Ac (Ac Ae)))) (Dn ((u4 (u4 (Ac (Ac Ae)))) Hm d)) d
def Ui (a0:(List Int)×Int×Unit) (a1:Bool):Option (((Qw×Unit)×(((List Int)×Int×Unit)×Unit))):=
 ((Ab a0 20).bind fun val=>some ((val.1,()),val.2,())).bind fun val=>bif !a1 then bif decide (val.1.1 < 16) then ((Ab val.2.1 4).bind fun val=>some ((val.1,()),val.2,())).bind fun val=>bif val.1.1==0 then ((Ab val.2.1 5).bind fun val=>some ((val.1,()),val.2,())).bind fun val=>((Ab val.2.1 4).bind fun val=>some ((val.1,()),val.2,())).bind fun val_1=>bif val_1.1.1==0 then ((Ab val_1.2.1 14).bind fun val=>some ((val.1,()),val.2,())).bind fun val=>((Ab val.2.1 8).bind fun val=>some ((val.1,()),val.2,())).bind fun val_2=>(Aq (val_2.1.1,val_2.2.1,0,[],0,[],1,[],val.1.1,[],())).bind fun val=>some ((val.2.2.2.2.2,()),val.1,()) else ((Ab val_1.2.1 8).bind fun val=>some ((val.1,()),val.2,())).bind fun val_2=>(Aq (val_2.1.1,val_2.2.1,0,[],0,[],1,[],val.1.1,[],())).bind fun val=>some ((val.2.2.2.2.2,()),val.1,()) else ((Ab val.2.1 8).bind fun val=>some ((val.1,()),val.2,())).bind fun val=>(Aq (val.1.1,val.2.1,0,[],0,[],1,[],-1,[],())).bind fun val=>some ((val.2.2.2.2.2,()),val.1,()) else bif decide (val.1.1 < 11) then (Jc val.2.1).bind fun val=>((Ab val.2.1 4).bind fun val=>some ((val.1,()),val.2,())).bind fun val_1=>bif val_1.1.1==0 then ((Ab val_1.2.1 5).bind fun val=>some ((val.1,()),val.2,())).bind fun val_2=>((Ab val_2.2.1 4).bind fun val=>some ((val.1,()),val.2,())).bind fun val_3=>bif val_3.1.1==0 then ((Ab val_3.2.1 14).bind fun val=>some ((val.1,()),val.2,())).bind fun val_4=>((Ab val_4.2.1 8).bind fun val=>some ((val.1,()),val.2,())).bind fun val_5=>(Aq (val_5.1.1,val_5.2.1,0,[],0,[],2,val.1.1,val_4.1.1,[],())).bind fun val=>some ((val.2.2.2.2.2,()),val.1,()) else ((Ab val_3.2.1 8).bind fun val=>some ((val.1,()),val.2,())).bind fun val_4=>(Aq (val_4.1.1,val_4.2.1,0,[],0,[],2,val.1.1,val_2.1.1,[],())).bind fun val=>some ((val.2.2.2.2.2,()),val.1,()) else ((Ab val_1.2.1 8).bind fun val=>some ((val.1,()),val.2,())).bind fun val_2=>(Aq (val_2.1.1,val_2.2.1,0,[],0,[],2,val.1.1,-1,[],())).bind fun val=>some ((val.2.2.2.2.2,()),val.1,()) else bif decide (val.1.1 < 14) then ((Ab val.2.1 4).bind fun val=>some ((val.1,()),val.2,())).bind fun val=>bif val.1.1==0 then ((Ab val.2.1 5).bind fun val=>some ((val.1,()),val.2,())).bind fun val=>((Ab val.2.1 4).bind fun val=>some ((val.1,()),val.2,())).bind fun val_1=>bif val_1.1.1==0 then ((Ab val_1.2.1 14).bind fun val=>some ((val.1,()),val.2,())).bind fun val=>((Ab val.2.1 8).bind fun val=>some ((val.1,()),val.2,())).bind fun val_2=>(Aq (val_2.1.1,val_2.2.1,0,[],0,[],3,[],val.1.1,[],())).bind fun val=>some ((val.2.2.2.2.2,()),val.1,()) else ((Ab val_1.2.1 8).bind fun val=>some ((val.1,()),val.2,())).bind fun val_2=>(Aq (val_2.1.1,val_2.2.1,0,[],0,[],3,[],val.1.1,[],())).bind fun val=>some ((val.2.2.2.2.2,()),val.1,()) else ((Ab val.2.1 8).bind fun val=>some ((val.1,()),val.2,())).bind fun val=>(Aq (val.1.1,val.2.1,0,[],0,[],3,[],-1,[],())).bind fun val=>some ((val.2.2.2.2.2,()),val.1,()) else bif decide (val.1.1 < 17) then ((Ab val.2.1 4).bind fun val=>some ((val.1,()),val.2,())).bind fun val=>bif val.1.1==0 then ((Ab val.2.1 5).bind fun val=>some ((val.1,()),val.2,())).bind fun val=>((Ab val.2.1 4).bind fun val=>some ((val.1,()),val.2,())).bind fun val_1=>bif val_1.1.1==0 then ((Ab val_1.2.1 14).bind fun val=>some ((val.1,()),val.2,())).bind fun val=>((Ab val.2.1 8).bind fun val=>some ((val.1,()),val.2,())).bind fun val_2=>(Aq (val_2.1.1,val_2.2.1,0,[],0,[],4,[],val.1.1,[],())).bind fun val=>some ((val.2.2.2.2.2,()),val.1,()) else ((Ab val_1.2.1 8).bind fun val=>some ((val.1,()),val.2,())).bind fun val_2=>(Aq (val_2.1.1,val_2.2.1,0,[],0,[],4,[],val.1.1,[],())).bind fun val=>some ((val.2.2.2.2.2,()),val.1,()) else ((Ab val.2.1 8).bind fun val=>some ((val.1,()),val.2,())).bind fun val=>(Aq (val.1.1,val.2.1,0,[],0,[],4,[],-1,[],())).bind fun val=>some ((val.2.2.2.2.2,()),val.1,()) else bif decide (val.1.1 < 19) then ((Ab val.2.1 4).bind fun val=>some ((val.1,()),val.2,())).bind fun val=>bif val.1.1==0 then ((Ab val.2.1 5).bind fun val=>some ((val.1,()),val.2,())).bind fun val=>((Ab val.2.1 4).bind fun val=>some ((val.1,()),val.2,())).bind fun val_1=>bif val_1.1.1==0 then ((Ab val_1.2.1 14).bind fun val=>some ((val.1,()),val.2,())).bind fun val=>((Ab val.2.1 8).bind fun val=>some ((val.1,()),val.2,())).bind fun val_2=>(Aq (val_2.1.1,val_2.2.1,0,[],0,[],5,[],val.1.1,[],())).bind fun val=>some ((val.2.2.2.2.2,()),val.1,()) else ((Ab val_1.2.1 8).bind fun val=>some ((val.1,()),val.2,())).bind fun val_2=>(Aq (val_2.1.1,val_2.2.1,0,[],0,[],5,[],val.1.1,[],())).bind fun val=>some ((val.2.2.2.2.2,()),val.1,()) else ((Ab val.2.1 8).bind fun val=>some ((val.1,()),val.2,())).bind fun val=>(Aq (val.1.1,val.2.1,0,[],0,[],5,[],-1,[],())).bind fun val=>some ((val.2.2.2.2.2,()),val.1,()) else ((Ab val.2.1 4).bind fun val=>some ((val.1,()),val.2,())).bind fun val=>bif decide (0≤val.1.1) then bif decide (val.1.1 < nI [1,2,0,6].length) then ((Ab val.2.1 4).bind fun val=>some ((val.1,()),val.2,())).bind fun val_1=>bif val_1.1.1==0 then ((Ab val_1.2.1 5).bind fun val=>some ((val.1,()),val.2,())).bind fun val_2=>((Ab val_2.2.1 4).bind fun val=>some ((val.1,()),val.2,())).bind fun val_3=>bif val_3.1.1==0 then ((Ab val_3.2.1 14).bind fun val=>some ((val.1,()),val.2,())).bind fun val_4=>((Ab val_4.2.1 8).bind fun val=>some ((val.1,()),val.2,())).bind fun val_5=>(Aq (val_5.1.1,val_5.2.1,0,[],0,[],[1,2,0,6].getD (Int.toNat val.1.1) 0,[],val_4.1.1,[],())).bind fun val=>some ((val.2.2.2.2.2,()),val.1,()) else ((Ab val_3.2.1 8).bind fun val=>some ((val.1,()),val.2,())).bind fun val_4=>(Aq (val_4.1.1,val_4.2.1,0,[],0,[],[1,2,0,6].getD (Int.toNat val.1.1) 0,[],val_2.1.1,[],())).bind fun val=>some ((val.2.2.2.2.2,()),val.1,()) else ((Ab val_1.2.1 8).bind fun val=>some ((val.1,()),val.2,())).bind fun val_2=>(Aq (val_2.1.1,val_2.2.1,0,[],0,[],[1,2,0,6].getD (Int.toNat val.1.1) 0,[],-1,[],())).bind fun val=>some ((val.2.2.2.2.2,()),val.1,()) else none else none else bif decide (val.1.1 < 11) then (Jc val.2.1).bind fun val=>((Ab val.2.1 4).bind fun val=>some ((val.1,()),val.2,())).bind fun val_1=>bif val_1.1.1==0 then ((Ab val_1.2.1 5).bind fun val=>some ((val.1,()),val.2,())).bind fun val_2=>((Ab val_2.2.1 4).bind fun val=>some ((val.1,()),val.2,())).bind fun val_3=>bif val_3.1.1==0 then ((Ab val_3.2.1 14).bind fun val=>some ((val.1,()),val.2,())).bind fun val_4=>((Ab val_4.2.1 8).bind fun val=>some ((val.1,()),val.2,())).bind fun val_5=>(Aq (val_5.1.1,val_5.2.1,0,[],0,[],2,val.1.1,val_4.1.1,[],())).bind fun val=>some ((val.2.2.2.2.2,()),val.1,()) else ((Ab val_3.2.1 8).bind fun val=>some ((val.1,()),val.2,())).bind fun val_4=>(Aq (val_4.1.1,val_4.2.1,0,[],0,[],2,val.1.1,val_2.1.1,[],())).bind fun val=>some ((val.2.2.2.2.2,()),val.1,()) else ((Ab val_1.2.1 8).bind fun val=>some ((val.1,()),val.2,())).bind fun val_2=>(Aq (val_2.1.1,val_2.2.1,0,[],0,[],2,val.1.1,-1,[],())).bind fun val=>some ((val.2.2.2.2.2,()),val.1,()) else bif decide (val.1.1 < 14) then ((Ab val.2.1 4).bind fun val=>some ((val.1,()),val.2,())).bind fun val=>bif val.1.1==0 then ((Ab val.2.1 5).bind fun val=>some ((val.1,()),val.2,())).bind fun val=>((Ab val.2.1 4).bind fun val=>some ((val.1,()),val.2,())).bind fun val_1=>bif val_1.1.1==0 then ((Ab val_1.2.1 14).bind fun val=>some ((val.1,()),val.2,())).bind fun val=>((Ab val.2.1 8).bind fun val=>some ((val.1,()),val.2,())).bind fun val_2=>(Aq (val_2.1.1,val_2.2.1,0,[],0,[],3,[],val.1.1,[],())).bind fun val=>some ((val.2.2.2.2.2,()),val.1,()) else ((Ab val_1.2.1 8).bind fun val=>some ((val.1,()),val.2,())).bind fun val_2=>(Aq (val_2.1.1,val_2.2.1,0,[],0,[],3,[],val.1.1,[],())).bind fun val=>some ((val.2.2.2.2.2,()),val.1,()) else ((Ab val.2.1 8).bind fun val=>some ((val.1,()),val.2,())).bind fun val=>(Aq (val.1.1,val.2.1,0,[],0,[],3,[],-1,[],())).bind fun val=>some ((val.2.2.2.2.2,()),val.1,()) else bif decide (val.1.1 < 17) then ((Ab val.2.1 4).bind fun val=>some ((val.1,()),val.2,())).bind fun val=>bif val.1.1==0 then ((Ab val.2.1 5).bind fun val=>some ((val.1,()),val.2,())).bind fun val=>((Ab val.2.1 4).bind fun val=>some ((val.1,()),val.2,())).bind fun val_1=>bif val_1.1.1==0 then ((Ab val_1.2.1 14).bind fun val=>some ((val.1,()),val.2,())).bind fun val=>((Ab val.2.1 8).bind fun val=>some ((val.1,()),val.2,())).bind fun val_2=>(Aq (val_2.1.1,val_2.2.1,0,[],0,[],4,[],val.1.1,[],())).bind fun val=>some ((val.2.2.2.2.2,()),val.1,()) else ((Ab val_1.2.1 8).bind fun val=>some ((val.1,()),val.2,())).bind fun val_2=>(Aq (val_2.1.1,val_2.2.1,0,[],0,[],4,[],val.1.1,[],())).bind fun val=>some ((val.2.2.2.2.2,()),val.1,()) else ((Ab val.2.1 8).bind fun val=>some ((val.1,()),val.2,())).bind fun val=>(Aq (val.1.1,val.2.1,0,[],0,[],4,[],-1,[],())).bind fun val=>some ((val.2.2.2.2.2,()),val.1,()) else bif decide (val.1.1 < 19) then ((Ab val.2.1 4).bind fun val=>some ((val.1,()),val.2,())).bind fun val=>bif val.1.1==0 then ((Ab val.2.1 5).bind fun val=>some ((val.1,()),val.2,())).bind fun val=>((Ab val.2.1 4).bind fun val=>some ((val.1,()),val.2,())).bind fun val_1=>bif val_1.1.1==0 then ((Ab val_1.2.1 14).bind fun val=>some ((val.1,()),val.2,())).bind fun val=>((Ab val.2.1 8).bind fun val=>some ((val.1,()),val.2,())).bind fun val_2=>(Aq (val_2.1.1,val_2.2.1,0,[],0,[],5,[],val.1.1,[],())).bind fun val=>some ((val.2.2.2.2.2,()),val.1,()) else ((Ab val_1.2.1 8).bind fun val=>some ((val.1,()),val.2,())).bind fun val_2=>(Aq (val_2.1.1,val_2.2.1,0,[],0,[],5,[],val.1.1,[],())).bind fun val=>some ((val.2.2.2.2.2,()),val.1,()) else ((Ab val.2.1 8).bind fun val=>some ((val.1,()),val.2,())).bind fun val=>(Aq (val.1.1,val.2.1,0,[],0,[],5,[],-1,[],())).bind fun val=>some ((val.2.2.2.2.2,()),val.1,()) else ((Ab val.2.1 4).bind fun val=>some ((val.1,()),val.2,())).bind fun val=>bif decide (0≤val.1.1) then bif decide (val.1.1 < nI [1,2,0,6].length) then ((Ab val.2.1 4).bind fun val=>some ((val.1,()),val.2,())).bind fun val_1=>bif val_1.1.1==0 then ((Ab val_1.2.1 5).bind fun val=>some ((val.1,()),val.2,())).bind fun val_2=>((Ab val_2.2.1 4).bind fun val=>some ((val.1,()),val.2,())).bind fun val_3=>bif val_3.1.1==0 then ((Ab val_3.2.1 14).bind fun val=>some ((val.1,()),val.2,())).bind fun val_4=>((Ab val_4.2.1 8).bind fun val=>some ((val.1,()),val.2,())).bind fun val_5=>(Aq (val_5.1.1,val_5.2.1,0,[],0,[],[1,2,0,6].getD (Int.toNat val.1.1) 0,[],val_4.1.1,[],())).bind fun val=>some ((val.2.2.2.2.2,()),val.1,()) else ((Ab val_3.2.1 8).bind fun val=>some ((val.1,()),val.2,())).bind fun val_4=>(Aq (val_4.1.1,val_4.2.1,0,[],0,[],[1,2,0,6].getD (Int.toNat val.1.1) 0,[],val_2.1.1,[],())).bind fun val=>some ((val.2.2.2.2.2,()),val.1,()) else ((Ab val_1.2.1 8).bind fun val=>some ((val.1,()),val.2,())).bind fun val_2=>(Aq (val_2.1.1,val_2.2.1,0,[],0,[],[1,2,0,6].getD (Int.toNat val.1.1) 0,[],-1,[],())).bind fun val=>some ((val.2.2.2.2.2,()),val.1,()) else none else none
theorem Alt:∃ f,f=@Ui:=⟨_,rfl⟩
def P3:=Classical.choose Alt
theorem Alu:@P3=@Ui:=Classical.choose_spec Alt
def j4:SD:=⟨A5r,fun x=>P3 x.1 x.2.1⟩
theorem Bpy (x1:Int) (x2:List Be) (x3:Int) (x4:List Int) (y1:Int) (y2:List Be) (y3:Int):∀ (n m K:Nat) (r:Rd) (f:List Int),n < m→f.length + n≤100→RdK K r→K + 2 * n < 1000000000000→
  As (Dn m n r x1 x2 x3 x4 y1 y2 y3 f) fun q=>RdK (K + 2 * n) q.1
 | 0,m + 1,K,r,f,_,_,h,_=>by
  simp only [Dn,Mw]
  exact As.no (by rfl) (As.some h)
 | n + 1,m + 1,K,r,f,hm,hf,h,hK=>by
  simp only [Dn,Mw]
  refine As.go (Ag (by omega)) ?_
  refine Ed h (by omega) (by omega) fun v r1 v0 v1 h1=>?_
  dsimp only
  refine Ed h1 (by omega) (by omega) fun u r2 u0 u1 h2=>?_
  dsimp only
  refine As.go (Ag u0) (As.go (Ag u1) (As.go (Ag (by rw [Et]; omega)) ?_))
  rw [show IntKind.i64.wrap (((n + 1:Nat):Int) - 1)=(n:Int) by rw [Aj (by omega) (by omega)]; omega]
  refine (Bpy x1 x2 x3 x4 y1 y2 y3 n m (K + 1 + 1) r2 _ (by omega) (by rw [Ef,Et]; omega) h2 (by omega)).mono fun q hq=>hq.mono (by omega)
theorem Bn4 {K:Nat} {r:Rd} (kind:Int) (b:List Be) (cut:Int) (h:RdK K r) (hK:K + 100 < 1000000000000):
  As (((Ab r 8).bind fun val=>some ((val.1,()),val.2,())).bind fun val=>(Dn (Hm val.1.1 val.2.1 0 [] 0 [] kind b cut []) val.1.1 val.2.1 0 [] 0 [] kind b cut []).bind fun val=>some (((val.2.2.2.2.2,()),val.1,()):((Qw×Unit)×(Rd×Unit)))) fun q=>RdK (K + 40) q.2.1:=by
 refine Ed h (by omega) (by omega) fun v r1 v0 v1 h1=>?_
 dsimp only
 obtain ⟨n,rfl⟩:∃ n:Nat,v=(n:Int):=⟨v.toNat,by omega⟩
 refine As.bind (Bpy 0 [] 0 [] kind b cut n _ (K + 1) r1 [] (by simp only [Hm]; omega) (by simp; omega) h1 (by omega)) fun q hq=>As.some ?_
 exact hq.mono (by omega)
theorem A2s {K:Nat} {r:Rd} (kind:Int) (b:List Be) (h:RdK K r) (hK:K + 200 < 1000000000000):
  As (((Ab r 4).bind fun val=>some ((val.1,()),val.2,())).bind fun val_1=>bif val_1.1.1==0 then
   ((Ab val_1.2.1 5).bind fun val=>some ((val.1,()),val.2,())).bind fun val_2=>
    ((Ab val_2.2.1 4).bind fun val=>some ((val.1,()),val.2,())).bind fun val_3=>
     bif val_3.1.1==0 then
      ((Ab val_3.2.1 14).bind fun val=>some ((val.1,()),val.2,())).bind fun val_4=>
       ((Ab val_4.2.1 8).bind fun val=>some ((val.1,()),val.2,())).bind fun val=>(Dn (Hm val.1.1 val.2.1 0 [] 0 [] kind b val_4.1.1 []) val.1.1 val.2.1 0 [] 0 [] kind b val_4.1.1 []).bind fun val=>some (((val.2.2.2.2.2,()),val.1,()):((Qw×Unit)×(Rd×Unit)))
     else
      ((Ab val_3.2.1 8).bind fun val=>some ((val.1,()),val.2,())).bind fun val=>(Dn (Hm val.1.1 val.2.1 0 [] 0 [] kind b val_2.1.1 []) val.1.1 val.2.1 0 [] 0 [] kind b val_2.1.1 []).bind fun val=>some (((val.2.2.2.2.2,()),val.1,()):((Qw×Unit)×(Rd×Unit)))
   else
    ((Ab val_1.2.1 8).bind fun val=>some ((val.1,()),val.2,())).bind fun val=>(Dn (Hm val.1.1 val.2.1 0 [] 0 [] kind b (-1) []) val.1.1 val.2.1 0 [] 0 [] kind b (-1) []).bind fun val=>some (((val.2.2.2.2.2,()),val.1,()):((Qw×Unit)×(Rd×Unit)))) fun q=>RdK (K + 50) q.2.1:=by
 refine Ed h (by omega) (by omega) fun v r1 v0 v1 h1=>?_
 dsimp only
 refine As.cond (fun _=>?_) fun _=>(Bn4 kind b (-1) h1 (by omega)).mono fun q hq=>hq.mono (by omega)
 refine Ed h1 (by omega) (by omega) fun c r2 c0 c1 h2=>?_
 dsimp only
 refine Ed h2 (by omega) (by omega) fun u r3 u0 u1 h3=>?_
 dsimp only
 refine As.cond (fun _=>?_) fun _=>(Bn4 kind b c h3 (by omega)).mono fun q hq=>hq.mono (by omega)
 refine Ed h3 (by omega) (by omega) fun z r4 z0 z1 h4=>?_
 dsimp only
 exact (Bn4 kind b z h4 (by omega)).mono fun q hq=>hq.mono (by omega)
theorem Blr {K:Nat} {r:Rd} (up:Bool) (h:RdK K r) (hK:K + 1000 < 1000000000000):As (P3 r up) fun q=>RdK (K + 500) q.2.1:=by
 rw [Alu]
 unfold Ui
 refine Ed h (by omega) (by omega) fun v r1 v0 v1 h1=>?_
 dsimp only
 refine As.cond (fun _=>As.cond (fun _=>(A2s 1 [] h1 (by omega)).mono fun q hq=>hq.mono (by omega)) fun _=>?_) fun _=>?_
 all_goals
  refine As.cond (fun _=>?_) fun _=>As.cond (fun _=>(A2s 3 [] h1 (by omega)).mono fun q hq=>hq.mono (by omega)) fun _=>As.cond (fun _=>(A2s 4 [] h1 (by omega)).mono fun q hq=>hq.mono (by omega)) fun _=>As.cond (fun _=>(A2s 5 [] h1 (by omega)).mono fun q hq=>hq.mono (by omega)) fun _=>?_
  ·refine As.bind (Bt9 h1 (by omega)) fun q hq=>?_
   exact (A2s 2 q.1.1 hq.2 (by omega)).mono fun q hq=>hq.mono (by omega)
  ·refine Ed h1 (by omega) (by omega) fun c r2 c0 c1 h2=>?_
   dsimp only
   refine As.go (Ag c0) (As.go (Ag c1) ?_)
   exact (A2s _ [] h2 (by omega)).mono fun q hq=>hq.mono (by omega)
def Acx {R:Type} (k:Kt R):=(I3 (Nj 21) (.exit 0) 2 k)
def Ap7 {R:Type}:Lt R Nj:=(Ea (pat:=Nj) 21 (fun d k=>(Aq d).bind (Acx k)) Hn)
theorem Alv:A2 Tryz.prog Als:=A5 ⟨Fq,Asf,trivial⟩
theorem Av9 {R:Type}:A4 Tryz.prog R 71 1 Nj Ap7 Acw:=
 B8 (cfg:=⟨Als,1,71,Nj⟩) 21 [] (fun NX X d=>(u4 (u4 (Ac (Ac Ae)))) (Mw  NX X) d) (fun m d=>(u4 (u4 (Ac (Ac Ae)))) (Dn m) d) (fun d=>(u4 (u4 (Ac (Ac Ae)))) Hm d) Acx Alv trivial (fun f NX d=>by simp only [u4,Ac,Ae]; unfold Mw; simp only [nb])
theorem Alw:Bs Tryz.prog 145 j4:=
 A3 (pat:=Nj) [Acw] Ap7 Alv ⟨Av9,trivial⟩ Tryz.func145 (de:=fun x=>Ui x.1 x.2.1) (fun x r h=>by have q:P3 x.1 x.2.1=some r:=h; rw [Alu] at q; exact q) fun _=>by kernel_rfl
def Sn:Aa:=zS
def A5s:Gc:=⟨[],[],[.rd .str],[none]⟩
def Alx:SD:=⟨A5s,fun x=>some (((Sn),()),(()))⟩
def Aly  : Option ((((Aa)×Unit)×(Unit))):=
 some ((strOfNums (List.replicate (Int.toNat 64) 0),()),())
theorem A5t  : Aly  = some ((Sn,()),(())):=rfl
theorem A5u:Bs Tryz.prog 155 Alx:=
 A3 (pat:=Dp) [] Hn (A5 (l:=[]) trivial) trivial Tryz.func155 (de:=fun x=>Aly ) (fun x r h=>(A5t ).trans h) fun _=>by kernel_rfl
def If (n:Int):Dk:=Ot n
def A5v:Gc:=⟨[.rd tI],[none],[.own 9 .str,.own 174 Em],[some 2]⟩
def Alz:SD:=⟨A5v,fun x=>some (((If x.1).1,(If x.1).2.1,()),(()))⟩
def Al0:Tb:=tb [(155,Alx)]
def Nk:Nat→C2×(Nat→C2):=F0 [(6,⟨[.boxRow 2 0 9 .str,.boxRow 2 1 174 Em,.boxRow 3 0 9 .str,.boxRow 3 1 174 Em],[(0,.lf (.d tI)),(2,.lf (.ptr 0 0)),(3,.lf (.ptr 1 0)),(4,.lf (.d tI))],[.box 26 [.row 2,.row 3],.box 26 [.row 4,.row 5],.row 9 .str,.row 174 Em,.row 9 .str,.row 174 Em]⟩,[(2,⟨[.boxRow 2 0 9 .str,.boxRow 2 1 174 Em,.boxRow 3 0 9 .str,.boxRow 3 1 174 Em],[(2,.lf (.ptr 0 0)),(3,.lf (.ptr 1 0))],[.box 26 [.row 2,.row 3],.box 26 [.row 4,.row 5],.row 9 .str,.row 174 Em,.row 9 .str,.row 174 Em]⟩)])]
def Ae5:Code:=(At (Bb Tryz.f144)).getD 0 .skip
def Ig (v0 v4:Int) (r2:List Aa) (r3:List Wr) (r4:List Aa) (r5:List Wr):Nat:=(v0 - v4).toNat + 1
def N5 {R:Type}  (NX:((Int)×(Int)×(List Aa)×(List Wr)×(List Aa)×(List Wr)×Unit)→Option R) (X2:((List Aa)×(List Wr)×(List Aa)×(List Wr)×Unit)→Option R) (v0:Int) (v4:Int) (r2:List Aa) (r3:List Wr) (r4:List Aa) (r5:List Wr):Option R:=
 bif decide (v4 < v0) then bif decide ((r4.length + [Sn].length) * 16≤140737488355328) then NX (v0,IntKind.i64.wrap (v4 + 1),r2,r3,r4++[Sn],r5,()) else none else X2 (r2,r3,r4,r5,())
def Dh:Nat→(Int)→(Int)→(List Aa)→(List Wr)→(List Aa)→(List Wr) →  Option ((List Aa)×(List Wr)×(List Aa)×(List Wr)×Unit)
 | 0,_,_,_,_,_,_=>none
 | m + 1,v0,v4,r2,r3,r4,r5=>N5  (fun d=>Dh m d.1 d.2.1 d.2.2.1 d.2.2.2.1 d.2.2.2.2.1 d.2.2.2.2.2.1) (fun d=>some (d)) v0 v4 r2 r3 r4 r5
def Azs (d:(Int)×(Int)×(List Aa)×(List Wr)×(List Aa)×(List Wr)×Unit):Option ((List Aa)×(List Wr)×(List Aa)×(List Wr)×Unit):=(u4 (Ac (Ac Ae))) (Dh ((u4 (Ac (Ac Ae))) Ig d)) d
def j5 (a0:Int):Option ((Dk×(Unit))):=
 bif decide (a0 < 8) then some (([],[],()),()) else bif decide (a0 > 200) then some (([],[],()),()) else ((fun d=>Dh (Ig d.1 d.2.1 d.2.2.1 d.2.2.2.1 d.2.2.2.2.1 d.2.2.2.2.2.1) d.1 d.2.1 d.2.2.1 d.2.2.2.1 d.2.2.2.2.1 d.2.2.2.2.2.1) (a0,0,[],[],[],[],())).bind fun val=>some (val.2.2,())
theorem A5w (a0:Int):j5 a0=some (((If a0).1,(If a0).2.1,()),(())):=by
 unfold j5 If Ot Bw
 by_cases k1:8≤a0
 ·have n1:¬ a0 < 8:=by omega
  rw [Ag k1,Bd n1]
  by_cases k2:a0≤200
  ·have n2:¬ a0 > 200:=by omega
   rw [Ag k2,Bd n2]
   obtain ⟨n,rfl⟩:∃ n:Nat,a0=(n:Int):=⟨a0.toNat,by omega⟩
   have hL:=A8o (n:=n) (fun _=>zS) (g:=fun m i r=>Dh m n i [] [] r []) (ok:=fun r=>([],[],r,[],())) (fun m i r hi hr=>by
    show Dh (m + 1) n i [] [] r []=_
    simp only [Dh,N5]
    have c1:(i:Int) < (n:Int):=by omega
    have c2:(List.length r + List.length [Sn]) * 16≤140737488355328:=by simp; omega
    rw [Ag c1,wI (show i < 4611686018427387904 by omega),Ag c2]
    rfl) (fun m r=>by
    show Dh (m + 1) n n [] [] r []=_
    simp only [Dh,N5]
    have c1:¬ (n:Int) < (n:Int):=by omega
    rw [Bd c1]
    rfl) (Ig n 0 [] [] [] []) 0 [] (by omega) (by simp [Ig]) rfl
   have hL':Dh (Ig n 0 [] [] [] []) n 0 [] [] [] []=_:=hL
   show (Dh (Ig n 0 [] [] [] []) n 0 [] [] [] []).bind _=_
   rw [hL',Anj,Nat.sub_zero]
   rfl
  ·have n2:a0 > 200:=by omega
   rw [Bd k2,Ag n2]
   rfl
 ·have n1:a0 < 8:=by omega
  rw [Bd k1,Ag n1]
  rfl
def Ae6 {R:Type} (k:Kt R):=(I3 (Nk 6) (.exit 0) 2 k)
def Ap8 {R:Type}:Lt R Nk:=(Ea (pat:=Nk) 6 (fun d k=>(Azs d).bind (Ae6 k)) Hn)
theorem Al1:A2 Tryz.prog Al0:=A5 ⟨A5u,trivial⟩
theorem Azt {R:Type}:A4 Tryz.prog R 25 0 Nk Ap8 Ae5:=
 B8 (cfg:=⟨Al0,0,25,Nk⟩) 6 [] (fun NX X d=>(u4 (Ac (Ac Ae))) (N5  NX X) d) (fun m d=>(u4 (Ac (Ac Ae))) (Dh m) d) (fun d=>(u4 (Ac (Ac Ae))) Ig d) Ae6 Al1 trivial (fun f NX d=>by simp only [u4,Ac,Ae]; unfold N5; simp only [nb])
theorem A5x:Bs Tryz.prog 144 Alz:=
 A3 (pat:=Nk) [Ae5] Ap8 Al1 ⟨Azt,trivial⟩ Tryz.func144 (de:=fun x=>j5 x.1) (fun x r h=>(A5w x.1).trans h) fun _=>by kernel_rfl
def A2t:Gc:=⟨[.rd tI,.rd tI],[none,none],[.rd Gv],[some 16]⟩
def Ly (a0 a1:Int):Option (((Bg×Unit)×(Unit))):=
 bif nI (If a0).1.length==0 then some (((0,([],[],()),false,(0,0,0,(0,0,0,0,()),0,0,([],()),()),[],[],()),()),()) else (Cp a1).bind fun val=>bif !val.1.1 then some (((0,([],[],()),false,(0,0,0,(0,0,0,0,()),0,0,([],()),()),[],[],()),()),()) else some (((a1,If a0,false,(0,0,0,(0,0,0,0,()),0,0,([],()),()),[([],())],[],()),()),())
def Td:SD:=⟨A2t,fun x=>Ly x.1 x.2.1⟩
theorem Zd:Bs Tryz.prog 50 Td:=
 A3 (pat:=Dp) [] Hn (A5 (l:=[(65,Du),(144,Alz)]) ⟨Er,A5x,trivial⟩) trivial Tryz.func50 (de:=fun x=>Ly x.1 x.2.1) (fun x r h=>h) fun _=>by kernel_rfl
def Aty:Gc:=⟨[.rd tI],[none],[.rd .str],[none]⟩
def Uc (mR_spec_l8Dec:(Int)→Option (((Aa)×Unit)×(Unit))) (a0:Int):Option (((Aa)×Unit)×(Unit)):=
 bif decide (a0 < 10) then some ((strOfNums [IntKind.u8.wrap (IntKind.i64.wrap (48 + a0))],()),()) else (mR_spec_l8Dec (IntKind.i64.wrap (a0.tdiv 10))).bind fun val=>bif decide (ByteArray.size val.1.1 + (strOfNums [IntKind.u8.wrap (IntKind.i64.wrap (48 + a0.tmod 10))]).size≤9223372036854775807) then some ((val.1.1++strOfNums [IntKind.u8.wrap (IntKind.i64.wrap (48 + a0.tmod 10))],()),()) else none
def Oi:Nat→(Int)→Option (((Aa)×Unit)×(Unit))
 | 0,_=>none
 | k + 1,a0=>Uc (Oi k) a0
def Atz (a0:Int):Option (((Aa)×Unit)×(Unit)):=Oi 8 a0
def Ap9 (k:Nat):SD:=⟨Aty,fun x=>Oi k x.1⟩
theorem At0:∃ f,f=@Atz:=⟨_,rfl⟩
def Xl:=Classical.choose At0
theorem At1:@Xl=@Atz:=Classical.choose_spec At0
def At2:SD:=⟨Aty,fun x=>Xl x.1⟩
theorem Bw3:∀ (k:Nat) (n:Int),k≤7→0≤n→n < 10 ^ (k + 1)→As (Oi (k + 1) n) fun q=>q.1.1.size≤k + 1
 | 0,n,_,h0,h1=>by
  simp only [Oi,Uc]
  exact As.go (Ag (by simpa using h1)) (As.some (by rw [D0]; simp))
 | k + 1,n,hk,h0,h1=>by
  show As (Uc (Oi (k + 1)) n) _
  unfold Uc
  refine As.cond (fun _=>As.some (by rw [D0]; simp)) fun c=>?_
  have c:=of_decide_eq_false c
  have hd:n.tdiv 10=n / 10:=Int.tdiv_eq_ediv_of_nonneg h0
  have hp:(10:Int) ^ (k + 1 + 1)=10 ^ (k + 1) * 10:=Int.pow_succ 10 (k + 1)
  have hb:(10:Int) ^ (k + 1 + 1)≤1000000000:=by
   have:k=0∨k=1∨k=2∨k=3∨k=4∨k=5∨k=6:=by omega
   rcases this with rfl | rfl | rfl | rfl | rfl | rfl | rfl<;>decide
  rw [hd,Aj (n:=n / 10) (by omega) (by omega)]
  refine As.bind (Bw3 k (n / 10) (by omega) (by omega) (by omega)) fun q hq=>?_
  refine As.go (Ag ?_) (As.some ?_)
  ·rw [D0,Et]; omega
  ·show (q.1.1++strOfNums _).size≤_
   rw [ByteArray.size_append,D0,Et]; omega
theorem Bx4 {n:Int} (h0:0≤n) (h1:n < 100000000):As (Xl n) fun q=>q.1.1.size≤8:=by
 rw [At1]
 exact Bw3 7 n (by decide) h0 (by rw [show (10:Int) ^ (7 + 1)=100000000 by decide]; exact h1)
theorem Aga:∀ k,Bs Tryz.prog 215 (Ap9 k)
 | 0=>⟨⟨_,Tryz.func215,by kernel_rfl,by kernel_rfl⟩,fun x r h=>by cases h⟩
 | k + 1=>A3 (pat:=Dp) [] Hn (A5 (l:=[(215,Ap9 k)]) ⟨Aga k,trivial⟩) trivial Tryz.func215 (de:=fun x=>Uc (Oi k) x.1) (fun x r h=>h) fun _=>by kernel_rfl
theorem Bdu:Bs Tryz.prog 215 At2:=⟨(Aga 8).1,fun x r h=>(Aga 8).2 x r (by have q:Xl x.1=some r:=h; rw [At1] at q; exact q)⟩
def Vh (_:Int) (_:List Be) (_:Aa) (v8:Int) (_:(List Int)×Int×Unit) (_ _:Bg) (_:R0):Nat:=(60 - v8).toNat + 1
def Rv (v4:Int) (_:(List Int)×Int×Unit) (_ _:Bg):Nat:=(60 - v4).toNat + 1
def A5y:Gc:=⟨[.bx 176 (.pair (.sl (.int .u8)) (.pair tI .unit))],[none],[.rd Gv],[some 16]⟩
def j6:Tb:=tb [(16,Pj),(36,Acf),(50,Td),(63,Ek),(131,Aab),(195,Aco),(215,At2)]
def Dx:Nat→C2×(Nat→C2):=F0 [(4,⟨[.boxSl 2 1 .str,.boxSl 2 2 Em,.boxSl 2 13 Ax,.boxSl 2 14 C8,.boxSl 2 15 .str,.boxSl 3 1 .str,.boxSl 3 2 Em,.boxSl 3 13 Ax,.boxSl 3 14 C8,.boxSl 3 15 .str],[(0,.lf (.ptr 0 0)),(2,.lf (.ptr 1 0)),(3,.lf (.ptr 2 0)),(4,.lf (.d tI))],[.box 176 [.d (.pair (.sl (.int .u8)) (.pair tI .unit))],.box 36 [.d Gv],.box 36 [.d Gv]]⟩,[(2,⟨[.boxSl 2 1 .str,.boxSl 2 2 Em,.boxSl 2 13 Ax,.boxSl 2 14 C8,.boxSl 2 15 .str,.boxSl 3 1 .str,.boxSl 3 2 Em,.boxSl 3 13 Ax,.boxSl 3 14 C8,.boxSl 3 15 .str],[(2,.lf (.ptr 1 0)),(3,.lf (.ptr 2 0))],[.box 176 [.d (.pair (.sl (.int .u8)) (.pair tI .unit))],.box 36 [.d Gv],.box 36 [.d Gv]]⟩),(1,⟨[.boxSl 2 1 .str,.boxSl 2 2 Em,.boxSl 2 13 Ax,.boxSl 2 14 C8,.boxSl 2 15 .str],[(2,.lf (.ptr 1 0))],[.box 176 [.d (.pair (.sl (.int .u8)) (.pair tI .unit))],.box 36 [.d Gv]]⟩)]),(12,⟨[.sl 5 0 Do,.boxSl 2 1 .str,.boxSl 2 2 Em,.boxSl 2 13 Ax,.boxSl 2 14 C8,.boxSl 2 15 .str,.boxSl 3 1 .str,.boxSl 3 2 Em,.boxSl 3 13 Ax,.boxSl 3 14 C8,.boxSl 3 15 .str,.boxSl 6 10 Ax,.boxSl 6 11 Fe],[(0,.lf (.ptr 0 0)),(2,.lf (.ptr 1 0)),(3,.lf (.ptr 2 0)),(4,.lf (.d tI)),(5,.lf (.d (.sl Do))),(6,.lf (.ptr 3 0)),(7,.lf (.d .str)),(8,.lf (.d tI))],[.box 176 [.d (.pair (.sl (.int .u8)) (.pair tI .unit))],.box 36 [.d Gv],.box 36 [.d Gv],.box 68 [.d Bqq]]⟩,[(4,⟨[.boxSl 2 1 .str,.boxSl 2 2 Em,.boxSl 2 13 Ax,.boxSl 2 14 C8,.boxSl 2 15 .str,.boxSl 3 1 .str,.boxSl 3 2 Em,.boxSl 3 13 Ax,.boxSl 3 14 C8,.boxSl 3 15 .str],[(0,.lf (.ptr 0 0)),(2,.lf (.ptr 1 0)),(3,.lf (.ptr 2 0)),(4,.lf (.d tI))],[.box 176 [.d (.pair (.sl (.int .u8)) (.pair tI .unit))],.box 36 [.d Gv],.box 36 [.d Gv]]⟩),(1,⟨[.boxSl 2 1 .str,.boxSl 2 2 Em,.boxSl 2 13 Ax,.boxSl 2 14 C8,.boxSl 2 15 .str],[(2,.lf (.ptr 1 0))],[.box 176 [.d (.pair (.sl (.int .u8)) (.pair tI .unit))],.box 36 [.d Gv]]⟩)])]
def Xm:Code:=(At (Bb Tryz.f172)).getD 0 .skip
def Acy:Code:=(At Xm).getD 0 .skip
def Mx {R:Type}  (NX:((Int)×(List Be)×(Aa)×(Int)×((List Int)×Int×Unit)×Bg×Bg×R0×Unit)→Option R) (X4:((Int)×((List Int)×Int×Unit)×Bg×Bg×Unit)→Option R) (X1:(((List Int)×Int×Unit)×Bg×Unit)→Option R) (v4:Int) (v5:List Be) (v7:Aa) (v8:Int) (b0:(List Int)×Int×Unit) (b1:Bg) (b2:Bg) (b3:R0):Option R:=
 bif decide (v8 < 60) then bif decide (0 < nI (List.length b3.2.2.1)) then bif decide (0≤v8) then bif decide (v8≤nI (ByteArray.size (List.getD b3.2.2.1 (Int.toNat 0) (false,0,Ad,())).2.2.1)) then bif decide (0≤v8) then bif decide (v8≤nI v7.size) then bif decide ((Ah (List.getD b3.2.2.1 (Int.toNat 0) (false,0,Ad,())).2.2.1 0 v8).size + (Ah v7 v8 (nI v7.size)).size≤9223372036854775807) then bif (Am (Ah (List.getD b3.2.2.1 (Int.toNat 0) (false,0,Ad,())).2.2.1 0 v8++Ah v7 v8 (nI v7.size)) 1).2 then bif decide (0 < nI (List.length b3.2.2.1)) then bif !(Ah (List.getD b3.2.2.1 (Int.toNat 0) (false,0,Ad,())).2.2.1 0 v8++Ah v7 v8 (nI v7.size)).toList==ByteArray.toList (List.getD b3.2.2.1 (Int.toNat 0) (false,0,Ad,())).2.2.1 then (Iu b2 (2,v5,1,[v8],())).bind fun val=>X1 (b0,val.1) else NX (v4,v5,v7,IntKind.i64.wrap (v8 + 1),b0,b1,b2,b3,()) else none else NX (v4,v5,v7,IntKind.i64.wrap (v8 + 1),b0,b1,b2,b3,()) else none else none else none else none else none else none else X4 (v4,b0,b1,b2,())
def Jd:Nat→(Int)→(List Be)→(Aa)→(Int)→((List Int)×Int×Unit)→Bg→Bg→R0 →  Option (((Int)×((List Int)×Int×Unit)×Bg×Bg×Unit) ⊕ (((List Int)×Int×Unit)×Bg×Unit))
 | 0,_,_,_,_,_,_,_,_=>none
 | m + 1,v4,v5,v7,v8,b0,b1,b2,b3=>Mx  (fun d=>Jd m d.1 d.2.1 d.2.2.1 d.2.2.2.1 d.2.2.2.2.1 d.2.2.2.2.2.1 d.2.2.2.2.2.2.1 d.2.2.2.2.2.2.2.1) (fun d=>some (.inl (d))) (fun d=>some (.inr (d))) v4 v5 v7 v8 b0 b1 b2 b3
def Vi (d:(Int)×(List Be)×(Aa)×(Int)×((List Int)×Int×Unit)×Bg×Bg×R0×Unit):Option (((Int)×((List Int)×Int×Unit)×Bg×Bg×Unit) ⊕ (((List Int)×Int×Unit)×Bg×Unit)):=(u4 (u4 Ae)) (Jd ((u4 (u4 Ae)) Vh d)) d
def N6 {R:Type} (LO12:((Int)×(List Be)×(Aa)×(Int)×((List Int)×Int×Unit)×Bg×Bg×R0×Unit)→Option (((Int)×((List Int)×Int×Unit)×Bg×Bg×Unit) ⊕ (((List Int)×Int×Unit)×Bg×Unit))) (NX:((Int)×((List Int)×Int×Unit)×Bg×Bg×Unit)→Option R) (X2:(((List Int)×Int×Unit)×Bg×Bg×Unit)→Option R) (X1:(((List Int)×Int×Unit)×Bg×Unit)→Option R) (v4:Int) (b0:(List Int)×Int×Unit) (b1 b2:Bg):Option R:=
 bif decide (v4 < 60) then (Rj (ByteArray.mk #[118,119]) 20).bind fun val=>((Ab b0 900).bind fun val=>some ((val.1,()),val.2,())).bind fun val_1=>(Xl (IntKind.i64.wrap (v4 + val_1.1.1))).bind fun val_2=>bif decide (ByteArray.size val.1.1 + ByteArray.size val_2.1.1≤9223372036854775807) then bif (A6 b2.2.2.2.1 [(ByteArray.mk #[107],val.1.1++val_2.1.1,false,())]).1 != 0 then X1 (val_1.2.1,b2,()) else bif decide (0 < nI (A6 b2.2.2.2.1 [(ByteArray.mk #[107],val.1.1++val_2.1.1,false,())]).2.2.1.length) then bif decide (0≤((A6 b2.2.2.2.1 [(ByteArray.mk #[107],val.1.1++val_2.1.1,false,())]).2.2.1.getD (Int.toNat 0) (false,0,Ad,())).2.1) then bif decide (((A6 b2.2.2.2.1 [(ByteArray.mk #[107],val.1.1++val_2.1.1,false,())]).2.2.1.getD (Int.toNat 0) (false,0,Ad,())).2.1 < nI (List.length b2.2.1.1)) then (LO12 (v4,[(ByteArray.mk #[107],val.1.1++val_2.1.1,false,())],List.getD b2.2.1.1 (Int.toNat ((A6 b2.2.2.2.1 [(ByteArray.mk #[107],val.1.1++val_2.1.1,false,())]).2.2.1.getD (Int.toNat 0) (false,0,Ad,())).2.1) (Ad),10,val_1.2.1,b1,b2,A6 b2.2.2.2.1 [(ByteArray.mk #[107],val.1.1++val_2.1.1,false,())],())).bind fun val=>Bx (fun d=>NX (IntKind.i64.wrap (d.1 + 1),d.2)) (fun d=>X1 d) val else none else none else none else none else X2 (b0,b1,b2,())
def Gu:Nat→(Int)→((List Int)×Int×Unit)→Bg→Bg →  Option ((((List Int)×Int×Unit)×Bg×Bg×Unit) ⊕ (((List Int)×Int×Unit)×Bg×Unit))
 | 0,_,_,_,_=>none
 | m + 1,v4,b0,b1,b2=>N6 Vi (fun d=>Gu m d.1 d.2.1 d.2.2.1 d.2.2.2.1) (fun d=>some (.inl (d))) (fun d=>some (.inr (d))) v4 b0 b1 b2
def Azu (d:(Int)×((List Int)×Int×Unit)×Bg×Bg×Unit):Option ((((List Int)×Int×Unit)×Bg×Bg×Unit) ⊕ (((List Int)×Int×Unit)×Bg×Unit)):=(u4 Ae) (Gu ((u4 Ae) Rv d)) d
def Uj (a0:(List Int)×Int×Unit):Option (((Bg×Unit)×(((List Int)×Int×Unit)×Unit))):=
 (Iu (1,(List.replicate (Int.toNat 12) (strOfNums (List.replicate 64 0)),[],()),false,(0,0,0,(0,0,0,0,()),0,0,([],()),()),[([],())],[],()) (1,[],-1,[],())).bind fun val=>((fun d=>Gu (Rv d.1 d.2.1 d.2.2.1 d.2.2.2.1) d.1 d.2.1 d.2.2.1 d.2.2.2.1) (0,a0,(0,([],[],()),false,(0,0,0,(0,0,0,0,()),0,0,([],()),()),[],[],()),val.1)).bind fun val=>Bx (fun d=>some (d.2.2,d.1,())) (fun d=>some (d.2,d.1,())) val
theorem Al2:∃ f,f=@Uj:=⟨_,rfl⟩
def So:=Classical.choose Al2
theorem Al3:@So=@Uj:=Classical.choose_spec Al2
def Al4:SD:=⟨A5y,fun x=>So x.1⟩
theorem Bw4 (v4:Int) (v5:List Be) (v7:Aa) (b0:Rd) (b1 b2:Bg) (b3:R0) {K:Nat} (h0:RdK K b0) (hw:WOk b2) (h7:v7.size=64) (hops:0 < b3.2.2.1.length) (hd:(b3.2.2.1.getD 0 zOp).2.2.1.size=64):∀ (k m:Nat) (v8:Int),v8 + k=60→k < m→0≤v8→
  As (Jd m v4 v5 v7 v8 b0 b1 b2 b3) fun q=>(∀ d,q=.inl d→d=(v4,b0,b1,b2,()))∧∀ d,q=.inr d→RdK K d.1∧WOk d.2.1
 | 0,m + 1,v8,hk,_,_=>by
  simp only [Jd,Mx]
  exact As.no (Bd (by omega)) (As.some ⟨fun d q=>(by cases q; rfl),fun d q=>(by cases q)⟩)
 | k + 1,m + 1,v8,hk,hm,h8=>by
  have hd':(b3.2.2.1.getD (Int.toNat 0) (false,0,Ad,())).2.2.1.size=64:=hd
  have e1:IntKind.i64.wrap (v8 + 1)=v8 + 1:=Aj (by omega) (by omega)
  simp only [Jd,Mx]
  refine As.go (Ag (by omega)) (As.go (Ag (by simp only [nI]; omega)) (As.go (Ag h8) (As.go (Ag (by rw [hd']; simp only [nI]; omega)) (As.go (Ag h8) (As.go (Ag (by rw [h7]; simp only [nI]; omega)) (As.go (Ag ?_) ?_))))))
  ·have a1:=Btd (b3.2.2.1.getD (Int.toNat 0) (false,0,Ad,())).2.2.1 0 v8
   have a2:=Btd v7 v8 (nI v7.size)
   omega
  ·rw [e1]
   have rec_:=Bw4 v4 v5 v7 b0 b1 b2 b3 h0 hw h7 hops hd k m (v8 + 1) (by omega) (by omega) (by omega)
   refine As.cond (fun _=>As.go (Ag (by simp only [nI]; omega)) (As.cond (fun _=>?_) fun _=>rec_)) fun _=>rec_
   refine As.bind (Blq hw _) fun q hq=>As.some ⟨fun d q=>(by cases q),fun d z=>?_⟩
   cases z
   refine ⟨h0,?_⟩
   show WOk q.1.1
   rw [hq]
   exact hw.doI _
theorem Bua (b1 b2:Bg) (hw:WOk b2):∀ (k m:Nat) (v4:Int) (b0:Rd) (K:Nat),v4 + k=60→k < m→0≤v4→RdK K b0→K + 10 * k < 1000000000000→
  As (Gu m v4 b0 b1 b2) fun q=>(∀ d,q=.inl d→d.2=(b1,b2,())∧RdK (K + 10 * k) d.1)∧∀ d,q=.inr d→RdK (K + 10 * k) d.1∧WOk d.2.1
 | 0,m + 1,v4,b0,K,hk,_,_,h0,_=>by
  simp only [Gu,N6]
  exact As.no (Bd (by omega)) (As.some ⟨fun d q=>(by cases q; exact ⟨rfl,h0⟩),fun d q=>(by cases q)⟩)
 | k + 1,m + 1,v4,b0,K,hk,hm,h4,h0,hK=>by
  have e1:IntKind.i64.wrap (v4 + 1)=v4 + 1:=Aj (by omega) (by omega)
  simp only [Gu,N6]
  refine As.go (Ag (by omega)) ?_
  refine As.bind (Bpx (ByteArray.mk #[118,119]) 20 (by decide) (by decide) (by decide)) fun q hq=>?_
  refine Ed h0 (by omega) (by omega) fun u r1 u0 u1 h1=>?_
  dsimp only
  rw [Aj (n:=v4 + u) (by omega) (by omega)]
  refine As.bind (Bx4 (n:=v4 + u) (by omega) (by omega)) fun q2 hq2=>?_
  refine As.go (Ag (by rw [hq]; show 2 * 20 + _≤_; omega)) ?_
  refine As.cond (fun _=>As.some ⟨fun d q=>(by cases q),fun d z=>(by cases z; exact ⟨h1.mono (by omega),hw⟩)⟩) fun c=>?_
  have hc:(Es b2.2.2.2.1 [(ByteArray.mk #[107],q.1.1++q2.1.1,false,())]).1=0:=by
   have c:((Es b2.2.2.2.1 [(ByteArray.mk #[107],q.1.1++q2.1.1,false,())]).1 != 0)=false:=c
   simpa using c
  obtain ⟨o1,o2,o3,o4⟩:=Bq5 hc
  have hf:=hw.f (Au3 _ _ hc).1
  have hdk:=Ix hw.v
  have hlen:(b2.2.1.1.length:Int)=(b2.2.1.1.length:Int):=rfl
  refine As.go (Ag (by simp only [nI]; exact Int.ofNat_lt.2 o1)) (As.go (Ag o2) (As.go (Ag ?_) ?_))
  ·have o3':=o3
   rw [hf,hlen] at o3'
   exact o3'
  ·have hold:(b2.2.1.1.getD (Int.toNat ((Es b2.2.2.2.1 [(ByteArray.mk #[107],q.1.1++q2.1.1,false,())]).2.2.1.getD 0 zOp).2.1) z0).size=64:=by
    refine hdk.sec _ ?_
    show _ < b2.2.1.1.length
    rw [hf,hlen] at o3
    omega
   refine As.bind (Bw4 v4 _ _ r1 b1 b2 _ h1 hw hold o1 o4 50 _ 10 (by omega) (by simp only [Vh]; omega) (by omega)) fun z hz=>?_
   cases z with
   | inl d=>
    have hd:=hz.1 d rfl
    subst hd
    show As (Gu m (IntKind.i64.wrap (v4 + 1)) r1 b1 b2) _
    rw [e1]
    refine (Bua b1 b2 hw k m (v4 + 1) r1 (K + 1) (by omega) (by omega) (by omega) h1 (by omega)).mono fun y hy=>⟨fun d q=>?_,fun d q=>?_⟩
    ·obtain ⟨y1,y2⟩:=hy.1 d q
     exact ⟨y1,y2.mono (by omega)⟩
    ·obtain ⟨y1,y2⟩:=hy.2 d q
     exact ⟨y1.mono (by omega),y2⟩
   | inr d=>
    obtain ⟨y1,y2⟩:=hz.2 d rfl
    exact As.some ⟨fun d q=>(by cases q),fun d q=>(by cases q; exact ⟨y1.mono (by omega),y2⟩)⟩
theorem Bub {K:Nat} {r:Rd} (h:RdK K r) (hK:K + 1000 < 1000000000000):As (So r) fun q=>WOk q.1.1∧RdK (K + 600) q.2.1:=by
 rw [Al3]
 unfold Uj
 have h0:WOk (A9g 12 1):=WOk.new (by decide) (by decide)
 have e0:A9g 12 1=(1,(List.replicate (Int.toNat 12) (strOfNums (List.replicate 64 0)),[],()),false,(0,0,0,(0,0,0,0,()),0,0,([],()),()),[([],())],[],()):=rfl
 rw [← e0]
 refine As.bind (Blq h0 _) fun q hq=>?_
 have hw:WOk q.1.1:=by rw [hq]; exact h0.doI _
 refine As.bind (Bua _ _ hw 60 _ 0 r K (by omega) (by simp only [Rv]; omega) (by omega) h (by omega)) fun z hz=>?_
 cases z with
 | inl d=>
  obtain ⟨y1,y2⟩:=hz.1 d rfl
  obtain ⟨d0,d1⟩:=d
  have y1:d1=_:=y1
  subst y1
  exact As.some ⟨hw,y2⟩
 | inr d=>
  obtain ⟨y1,y2⟩:=hz.2 d rfl
  exact As.some ⟨y2,y1⟩
def Ae7 {R:Type} (k:Kt R):=(Bx (I3 (Dx 4) (.exit 0) 2 k) (I3 (Dx 4) .ret 1 k))
def Acz {R:Type} (k:Kt R):=(Bx (I3 (Dx 12) (.exit 2) 4 k) (I3 (Dx 12) .ret 1 k))
def Ac0 {R:Type}:Lt R Dx:=(Ea (pat:=Dx) 4 (fun d k=>(Azu d).bind (Ae7 k)) (Ea (pat:=Dx) 12 (fun d k=>(Vi d).bind (Acz k)) Hn))
theorem j7:A2 Tryz.prog j6:=A5 ⟨S6,Apo,Zd,Fq,Akh,Ap6,Bdu,trivial⟩
theorem Awa {R:Type}:A4 Tryz.prog R 83 1 Dx Ac0 Acy:=
 B8 (cfg:=⟨j6,1,83,Dx⟩) 12 [] (fun NX X d=>(u4 (u4 Ae)) (Mx  NX (fun e=>X (.inl (e))) (fun e=>X (.inr (e)))) d) (fun m d=>(u4 (u4 Ae)) (Jd m) d) (fun d=>(u4 (u4 Ae)) Vh d) Acz j7 trivial (fun f NX d=>by simp only [u4,Ac,Ae]; unfold Mx; simp only [nb])
theorem Azv {R:Type}:A4 Tryz.prog R 83 1 Dx Ac0 Xm:=
 B8 (cfg:=⟨j6,1,83,Dx⟩) 4 [Acy] (fun NX X d=>(u4 Ae) (N6 Vi NX (fun e=>X (.inl (e))) (fun e=>X (.inr (e)))) d) (fun m d=>(u4 Ae) (Gu m) d) (fun d=>(u4 Ae) Rv d) Ae7 j7 ⟨Awa,trivial⟩ (fun f NX d=>by simp only [u4,Ac,Ae]; unfold N6; simp only [nb])
theorem A5z:Bs Tryz.prog 172 Al4:=
 A3 (pat:=Dx) [Xm] Ac0 j7 ⟨Azv,trivial⟩ Tryz.func172 (de:=fun x=>Uj x.1) (fun x r h=>by have q:So x.1=some r:=h; rw [Al3] at q; exact q) fun _=>by kernel_rfl
def Asg:Gc:=⟨[.bx 176 (.pair (.sl (.int .u8)) (.pair tI .unit))],[none],[.rd tI],[none]⟩
def Oy (a0:(List Int)×Int×Unit):Option ((((Int)×Unit)×(((List Int)×Int×Unit)×Unit))):=
 ((Ab a0 6).bind fun val=>some ((val.1,()),val.2,())).bind fun val=>bif decide (0≤val.1.1) then bif decide (val.1.1 < nI [8,8,4,2,1,1].length) then some (([8,8,4,2,1,1].getD (Int.toNat val.1.1) 0,()),val.2) else none else none
theorem s4:∃ f,f=@Oy:=⟨_,rfl⟩
def My:=Classical.choose s4
theorem s5:@My=@Oy:=Classical.choose_spec s4
def s6:SD:=⟨Asg,fun x=>My x.1⟩
theorem Buc {k:Nat} {r:Rd} (h:RdK k r) (hk:k < 1099511627776):As (My r) fun q=>(1≤q.1.1∧q.1.1≤8)∧RdK (k + 1) q.2.1:=by
 rw [s5]
 unfold Oy
 refine Ed h hk (by omega) fun v r' v0 v1 h'=>?_
 refine As.go (Ag v0) (As.go (Ag v1) (As.some ⟨?_,h'⟩))
 exact Bnc (Q:=fun x:Int=>1≤x∧x≤8) (by decide) v0 v1
theorem Ash:Bs Tryz.prog 216 s6:=
 A3 (pat:=Dp) [] Hn (A5 (l:=[(63,Ek)]) ⟨Fq,trivial⟩) trivial Tryz.func216 (de:=fun x=>Oy x.1) (fun x r h=>by have q:My x.1=some r:=h; rw [s5] at q; exact q) fun _=>by kernel_rfl
def A50:Gc:=⟨[.bx 176 (.pair (.sl (.int .u8)) (.pair tI .unit))],[none],[.rd Gv],[some 16]⟩
def Uk (a0:(List Int)×Int×Unit):Option (((Bg×Unit)×(((List Int)×Int×Unit)×Unit))):=
 ((Ab a0 7).bind fun val=>some ((val.1,()),val.2,())).bind fun val=>bif decide (0≤val.1.1) then bif decide (val.1.1 < nI [8,9,10,12,16,24,40].length) then (My val.2.1).bind fun val_1=>(Ly ([8,9,10,12,16,24,40].getD (Int.toNat val.1.1) 0) val_1.1.1).bind fun val=>some (val.1,val_1.2) else none else none
theorem Al5:∃ f,f=@Uk:=⟨_,rfl⟩
def Sp:=Classical.choose Al5
theorem Al6:@Sp=@Uk:=Classical.choose_spec Al5
def Al7:SD:=⟨A50,fun x=>Sp x.1⟩
theorem Bud {a w:Int} (h:Bw a 8 200=true) (hw:Bw w 1 8=true):Ly a w=some ((A9g a w,()),()):=by
 unfold Ly
 have hl:(If a).1.length=a.toNat:=(A66 h).2
 obtain ⟨h1,h2⟩:=Cv h
 rw [show (nI (If a).1.length==0)=false from beq_eq_false_iff_ne.2 (by rw [hl]; simp only [nI]; omega),show Cp w=some ((Bw w 1 8,()),()) from wid w,hw]
 rfl
theorem Bue {K:Nat} {r:Rd} (h:RdK K r) (hK:K + 100 < 1000000000000):As (Sp r) fun q=>WOk q.1.1∧RdK (K + 20) q.2.1:=by
 rw [Al6]
 unfold Uk
 refine Ed h (by omega) (by omega) fun v r1 v0 v1 h1=>?_
 dsimp only
 refine As.go (Ag v0) (As.go (Ag v1) ?_)
 have ha:=Bnc (Q:=fun x:Int=>8≤x∧x≤40) (l:=[8,9,10,12,16,24,40]) (d:=0) (by decide) v0 v1
 generalize ([8,9,10,12,16,24,40]:List Int).getD v.toNat 0=a at *
 refine As.bind (Buc h1 (by omega)) fun q hq=>?_
 have i1:Bw a 8 200=true:=by unfold Bw; rw [Ag ha.1,Ag (show a≤200 by omega)]; rfl
 have i2:Bw a 8 40=true:=by unfold Bw; rw [Ag ha.1,Ag ha.2]; rfl
 have i3:Bw q.1.1 1 8=true:=by unfold Bw; rw [Ag hq.1.1,Ag hq.1.2]; rfl
 refine As.bind ⟨_,Bud i1 i3,rfl⟩ fun q2 hq2=>As.some ⟨?_,hq.2.mono (by omega)⟩
 rw [← hq2]
 exact WOk.new i2 i3
theorem A51:Bs Tryz.prog 173 Al7:=
 A3 (pat:=Dp) [] Hn (A5 (l:=[(50,Td),(63,Ek),(216,s6)]) ⟨Zd,Fq,Ash,trivial⟩) trivial Tryz.func173 (de:=fun x=>Uk x.1) (fun x r h=>by have q:Sp x.1=some r:=h; rw [Al6] at q; exact q) fun _=>by kernel_rfl
def Oz (v4:Int) (_:(List Int)×Int×Unit) (_ _:Bg):Nat:=v4.toNat + 1
def Azw:Gc:=⟨[.bx 176 (.pair (.sl (.int .u8)) (.pair tI .unit))],[none],[.rd tI,.own 9 .str,.own 174 Em,.rd .bool,.rd tI,.rd tI,.rd tI,.rd tI,.rd tI,.rd tI,.rd tI,.rd tI,.rd tI,.rd (.sl Ax),.own 31 C8,.own 9 .str],[some 16]⟩
def Ae8:Tb:=tb [(63,Ek),(130,Ab0),(131,Aab),(145,j4),(172,Al4),(173,Al7)]
def Km:Nat→C2×(Nat→C2):=F0 [(6,⟨[.boxSl 2 1 .str,.boxSl 2 2 Em,.boxSl 2 13 Ax,.boxSl 2 14 C8,.boxSl 2 15 .str,.boxSl 3 1 .str,.boxSl 3 2 Em,.boxSl 3 13 Ax,.boxSl 3 14 C8,.boxSl 3 15 .str],[(0,.lf (.ptr 0 0)),(2,.lf (.ptr 1 0)),(3,.lf (.ptr 2 0)),(4,.lf (.d tI))],[.box 176 [.d (.pair (.sl (.int .u8)) (.pair tI .unit))],.box 36 [.d Gv],.box 36 [.d Gv]]⟩,[(2,⟨[.boxSl 2 1 .str,.boxSl 2 2 Em,.boxSl 2 13 Ax,.boxSl 2 14 C8,.boxSl 2 15 .str,.boxSl 3 1 .str,.boxSl 3 2 Em,.boxSl 3 13 Ax,.boxSl 3 14 C8,.boxSl 3 15 .str],[(0,.lf (.ptr 0 0)),(2,.lf (.ptr 1 0)),(3,.lf (.ptr 2 0))],[.box 176 [.d (.pair (.sl (.int .u8)) (.pair tI .unit))],.box 36 [.d Gv],.box 36 [.d Gv]]⟩)])]
def s7:Code:=(At (Bb Tryz.f93)).getD 0 .skip
def K4 {R:Type}  (NX:((Int)×((List Int)×Int×Unit)×Bg×Bg×Unit)→Option R) (X2:(((List Int)×Int×Unit)×Bg×Bg×Unit)→Option R) (v4:Int) (b0:(List Int)×Int×Unit) (b1:Bg) (b2:Bg):Option R:=
 bif decide (v4 > 0) then (P3 b0 b2.2.2.1).bind fun val=>(Iu b2 val.1.1).bind fun val_1=>NX (IntKind.i64.wrap (v4 - 1),val.2.1,b1,val_1.1) else X2 (b0,b1,b2,())
def Gl:Nat→(Int)→((List Int)×Int×Unit)→Bg→Bg →  Option (((List Int)×Int×Unit)×Bg×Bg×Unit)
 | 0,_,_,_,_=>none
 | m + 1,v4,b0,b1,b2=>K4  (fun d=>Gl m d.1 d.2.1 d.2.2.1 d.2.2.2.1) (fun d=>some (d)) v4 b0 b1 b2
def Asi (d:(Int)×((List Int)×Int×Unit)×Bg×Bg×Unit):Option (((List Int)×Int×Unit)×Bg×Bg×Unit):=(u4 Ae) (Gl ((u4 Ae) Oz d)) d
def Rw (a0:(List Int)×Int×Unit):Option ((((Int)×(List Aa)×(List Wr)×(Bool)×(Int)×(Int)×(Int)×(Int)×(Int)×(Int)×(Int)×(Int)×(Int)×(List A1)×(List B5)×(List Aa)×Unit)×(((List Int)×Int×Unit)×Unit))):=
 ((Ab a0 16).bind fun val=>some ((val.1,()),val.2,())).bind fun val=>bif val.1.1==0 then (So val.2.1).bind fun val=>(Jm val.1.1).bind fun val_1=>some (val_1.1,val.2) else (Sp val.2.1).bind fun val=>((Ab val.2.1 30).bind fun val=>some ((val.1,()),val.2,())).bind fun val_1=>((fun d=>Gl (Oz d.1 d.2.1 d.2.2.1 d.2.2.2.1) d.1 d.2.1 d.2.2.1 d.2.2.2.1) (val_1.1.1,val_1.2.1,(0,([],[],()),false,(0,0,0,(0,0,0,0,()),0,0,([],()),()),[],[],()),val.1)).bind fun val=>((Ab val.1 4).bind fun val=>some ((val.1,()),val.2,())).bind fun val_2=>bif decide (val_2.1.1 > 0) then (Iu val.2.2.1 (1,[],-1,[],())).bind fun val=>(Jm val.1.1).bind fun val=>some (val.1,val_2.2) else (Jm val.2.2.1).bind fun val=>some (val.1,val_2.2)
theorem Ae9:∃ f,f=@Rw:=⟨_,rfl⟩
def P4:=Classical.choose Ae9
theorem Afa:@P4=@Rw:=Classical.choose_spec Ae9
def Afb:SD:=⟨Azw,fun x=>P4 x.1⟩
theorem Bwc (b1:Bg):∀ (n m K:Nat) (r:Rd) (x:Bg),n < m→n≤1000→RdK K r→K + 600 * n < 1000000000→WOk x→
  As (Gl m n r b1 x) fun q=>RdK (K + 600 * n) q.1∧WOk q.2.2.1:=by
 intro n
 induction n with
 | zero=>
  intro m K r x hm _ h _ hw
  cases m with
  | zero=>omega
  | succ m=>
   simp only [Gl,K4]
   exact As.no (by rfl) (As.some ⟨h,hw⟩)
 | succ n ih=>
  intro m K r x hm hn h hK hw
  cases m with
  | zero=>omega
  | succ m=>
   simp only [Gl,K4]
   refine As.go (Ag (by omega)) ?_
   refine As.bind (Blr _ h (by omega)) fun q hq=>?_
   refine As.bind (Blq hw _) fun z hz=>?_
   have hw':WOk z.1.1:=by rw [hz]; exact hw.doI _
   rw [show IntKind.i64.wrap (((n + 1:Nat):Int) - 1)=(n:Int) by rw [Aj (by omega) (by omega)]; omega]
   exact (ih m (K + 500) q.2.1 z.1.1 (by omega) (by omega) hq (by omega) hw').mono fun y hy=>⟨hy.1.mono (by omega),hy.2⟩
theorem Bn5 {K:Nat} {r:Rd} (h:RdK K r) (hK:K + 100000 < 1000000000):As (P4 r) fun q=>WOk (unW q.1)∧RdK (K + 20000) q.2.1:=by
 rw [Afa]
 unfold Rw
 refine Ed h (by omega) (by omega) fun v r1 v0 v1 h1=>?_
 dsimp only
 refine As.cond (fun _=>?_) fun _=>?_
 ·refine As.bind (Bub h1 (by omega)) fun q hq=>?_
  refine As.bind (Ayu hq.1) fun z hz=>As.some ⟨?_,hq.2.mono (by omega)⟩
  show WOk (unW z.1)
  rw [hz]
  exact hq.1
 ·refine As.bind (Bue h1 (by omega)) fun q hq=>?_
  refine Ed hq.2 (by omega) (by omega) fun u r2 u0 u1 h2=>?_
  dsimp only
  obtain ⟨n,rfl⟩:∃ n:Nat,u=(n:Int):=⟨u.toNat,by omega⟩
  refine As.bind (Bwc _ n _ _ r2 q.1.1 (by simp only [Oz]; omega) (by omega) h2 (by omega) hq.1) fun y hy=>?_
  refine Ed hy.1 (by omega) (by omega) fun t r3 t0 t1 h3=>?_
  dsimp only
  refine As.cond (fun _=>?_) fun _=>?_
  ·refine As.bind (Blq hy.2 _) fun z hz=>?_
   have hw':WOk z.1.1:=by rw [hz]; exact hy.2.doI _
   refine As.bind (Ayu hw') fun y hy=>As.some ⟨?_,h3.mono (by omega)⟩
   show WOk (unW y.1)
   rw [hy]
   exact hw'
  ·refine As.bind (Ayu hy.2) fun z hz=>As.some ⟨?_,h3.mono (by omega)⟩
   show WOk (unW z.1)
   rw [hz]
   exact hy.2
def s8 {R:Type} (k:Kt R):=(I3 (Km 6) (.exit 0) 2 k)
def Air {R:Type}:Lt R Km:=(Ea (pat:=Km) 6 (fun d k=>(Asi d).bind (s8 k)) Hn)
theorem Afc:A2 Tryz.prog Ae8:=A5 ⟨Fq,Ao7,Akh,Alw,A5z,A51,trivial⟩
theorem Asj {R:Type}:A4 Tryz.prog R 33 1 Km Air s7:=
 B8 (cfg:=⟨Ae8,1,33,Km⟩) 6 [] (fun NX X d=>(u4 Ae) (K4  NX X) d) (fun m d=>(u4 Ae) (Gl m) d) (fun d=>(u4 Ae) Oz d) s8 Afc trivial (fun f NX d=>by simp only [u4,Ac,Ae]; unfold K4; simp only [nb])
theorem Azx:Bs Tryz.prog 93 Afb:=
 A3 (pat:=Km) [s7] Air Afc ⟨Asj,trivial⟩ Tryz.func93 (de:=fun x=>Rw x.1) (fun x r h=>by have q:P4 x.1=some r:=h; rw [Afa] at q; exact q) fun _=>by kernel_rfl
def Asl:Gc:=⟨[.rd (.sl (.int .u8))],[none],[.rd Gv],[some 16]⟩
def O0 (a0:List Int):Option (((Bg×Unit)×(Unit))):=
 (Ri a0).bind fun val=>(P4 val.1.1).bind fun val=>some (((val.1.1,(val.1.2.1,val.1.2.2.1,()),val.1.2.2.2.1,(val.1.2.2.2.2.1,val.1.2.2.2.2.2.1,val.1.2.2.2.2.2.2.1,(val.1.2.2.2.2.2.2.2.1,val.1.2.2.2.2.2.2.2.2.1,val.1.2.2.2.2.2.2.2.2.2.1,val.1.2.2.2.2.2.2.2.2.2.2.1,()),val.1.2.2.2.2.2.2.2.2.2.2.2.1,val.1.2.2.2.2.2.2.2.2.2.2.2.2.1,(val.1.2.2.2.2.2.2.2.2.2.2.2.2.2.1,()),()),val.1.2.2.2.2.2.2.2.2.2.2.2.2.2.2),()),())
theorem s9:∃ f,f=@O0:=⟨_,rfl⟩
def Mz:=Classical.choose s9
theorem u6:@Mz=@O0:=Classical.choose_spec s9
def u7:SD:=⟨Asl,fun x=>Mz x.1⟩
theorem Bbx (b:List Int) (h:Agp (.sl (.int .u8)) b):As (Mz b) fun q=>WOk q.1.1:=by
 rw [u6]
 unfold O0
 refine As.bind (Bpu b h) fun q hq=>?_
 exact As.bind (Bn5 hq (by omega)) fun x hx=>As.some hx.1
theorem Asm:Bs Tryz.prog 26 u7:=
 A3 (pat:=Dp) [] Hn (A5 (l:=[(61,Acn),(93,Afb)]) ⟨Ap1,Azx,trivial⟩) trivial Tryz.func26 (de:=fun x=>O0 x.1) (fun x r h=>by have q:Mz x.1=some r:=h; rw [u6] at q; exact q) fun _=>by kernel_rfl
def P5 (n:Int):Dk:=Ot n
def A52:Gc:=⟨[.rd tI],[none],[.own 9 .str,.own 174 Em],[some 2]⟩
def Al8:SD:=⟨A52,fun x=>some (((P5 x.1).1,(P5 x.1).2.1,()),(()))⟩
def Al9:Tb:=tb [(95,Dm),(183,Ro)]
def Nl:Nat→C2×(Nat→C2):=F0 [(6,⟨[.boxRow 2 0 9 .str,.boxRow 2 1 174 Em,.boxRow 3 0 9 .str,.boxRow 3 1 174 Em],[(0,.lf (.d tI)),(2,.lf (.ptr 0 0)),(3,.lf (.ptr 1 0)),(4,.lf (.d tI))],[.box 26 [.row 2,.row 3],.box 26 [.row 4,.row 5],.row 9 .str,.row 174 Em,.row 9 .str,.row 174 Em]⟩,[(2,⟨[.boxRow 2 0 9 .str,.boxRow 2 1 174 Em,.boxRow 3 0 9 .str,.boxRow 3 1 174 Em],[(2,.lf (.ptr 0 0)),(3,.lf (.ptr 1 0))],[.box 26 [.row 2,.row 3],.box 26 [.row 4,.row 5],.row 9 .str,.row 174 Em,.row 9 .str,.row 174 Em]⟩)])]
def Afd:Code:=(At (Bb Tryz.f207)).getD 0 .skip
def Ih (v0 v4:Int) (r2:List Aa) (r3:List Wr) (r4:List Aa) (r5:List Wr):Nat:=(v0 - v4).toNat + 1
def N7 {R:Type}  (NX:((Int)×(Int)×(List Aa)×(List Wr)×(List Aa)×(List Wr)×Unit)→Option R) (X2:((List Aa)×(List Wr)×(List Aa)×(List Wr)×Unit)→Option R) (v0:Int) (v4:Int) (r2:List Aa) (r3:List Wr) (r4:List Aa) (r5:List Wr):Option R:=
 bif decide (v4 < v0) then ((Afq (ByteArray.mk #[0]) 64).bind fun val=>some ((val,()),())).bind fun val=>bif decide ((r4.length + [val.1.1].length) * 16≤140737488355328) then NX (v0,IntKind.i64.wrap (v4 + 1),r2,r3,r4++[val.1.1],r5,()) else none else X2 (r2,r3,r4,r5,())
def Di:Nat→(Int)→(Int)→(List Aa)→(List Wr)→(List Aa)→(List Wr) →  Option ((List Aa)×(List Wr)×(List Aa)×(List Wr)×Unit)
 | 0,_,_,_,_,_,_=>none
 | m + 1,v0,v4,r2,r3,r4,r5=>N7  (fun d=>Di m d.1 d.2.1 d.2.2.1 d.2.2.2.1 d.2.2.2.2.1 d.2.2.2.2.2.1) (fun d=>some (d)) v0 v4 r2 r3 r4 r5
def Azy (d:(Int)×(Int)×(List Aa)×(List Wr)×(List Aa)×(List Wr)×Unit):Option ((List Aa)×(List Wr)×(List Aa)×(List Wr)×Unit):=(u4 (Ac (Ac Ae))) (Di ((u4 (Ac (Ac Ae))) Ih d)) d
def j8 (a0:Int):Option ((Dk×(Unit))):=
 bif !Ba a0 8 200 then some (([],[],()),()) else ((fun d=>Di (Ih d.1 d.2.1 d.2.2.1 d.2.2.2.1 d.2.2.2.2.1 d.2.2.2.2.2.1) d.1 d.2.1 d.2.2.1 d.2.2.2.1 d.2.2.2.2.1 d.2.2.2.2.2.1) (a0,0,[],[],[],[],())).bind fun val=>some (val.2.2,())
theorem Byr:Afq (ByteArray.mk #[0]) 64=some zS:=by
 unfold Afq
 rw [if_pos (by decide)]
 decide +kernel
theorem A53 (a0:Int):j8 a0=some (((P5 a0).1,(P5 a0).2.1,()),(())):=by
 unfold j8 P5 Ot
 show (bif !Bw a0 8 200 then _ else _)=_
 cases hin:Bw a0 8 200 with
 | false=>rfl
 | true=>
  have k1:=Io (B6 hin).1
  have k2:=Io (B6 hin).2
  obtain ⟨n,rfl⟩:∃ n:Nat,a0=(n:Int):=⟨a0.toNat,by omega⟩
  have hL:=A8o (n:=n) (fun _=>zS) (g:=fun m i r=>Di m n i [] [] r []) (ok:=fun r=>([],[],r,[],())) (fun m i r hi hr=>by
   show Di (m + 1) n i [] [] r []=_
   simp only [Di,N7]
   have c1:(i:Int) < (n:Int):=by omega
   have c2:(List.length r + List.length [zS]) * 16≤140737488355328:=by simp; omega
   rw [Ag c1,Byr,wI (show i < 4611686018427387904 by omega)]
   simp only [Option.bind_some,cond_true]
   rw [Ag c2]
   rfl) (fun m r=>by
   show Di (m + 1) n n [] [] r []=_
   simp only [Di,N7]
   have c1:¬ (n:Int) < (n:Int):=by omega
   rw [Bd c1]
   rfl) (Ih n 0 [] [] [] []) 0 [] (by omega) (by simp [Ih]) rfl
  have hL':Di (Ih n 0 [] [] [] []) n 0 [] [] [] []=_:=hL
  show (Di (Ih n 0 [] [] [] []) n 0 [] [] [] []).bind _=_
  rw [hL',Anj,Nat.sub_zero]
  rfl
def Afe {R:Type} (k:Kt R):=(I3 (Nl 6) (.exit 0) 2 k)
def Aqa {R:Type}:Lt R Nl:=(Ea (pat:=Nl) 6 (fun d k=>(Azy d).bind (Afe k)) Hn)
theorem Ama:A2 Tryz.prog Al9:=A5 ⟨D2,Adv,trivial⟩
theorem Azz {R:Type}:A4 Tryz.prog R 22 0 Nl Aqa Afd:=
 B8 (cfg:=⟨Al9,0,22,Nl⟩) 6 [] (fun NX X d=>(u4 (Ac (Ac Ae))) (N7  NX X) d) (fun m d=>(u4 (Ac (Ac Ae))) (Di m) d) (fun d=>(u4 (Ac (Ac Ae))) Ih d) Afe Ama trivial (fun f NX d=>by simp only [u4,Ac,Ae]; unfold N7; simp only [nb])
theorem A54:Bs Tryz.prog 207 Al8:=
 A3 (pat:=Nl) [Afd] Aqa Ama ⟨Azz,trivial⟩ Tryz.func207 (de:=fun x=>j8 x.1) (fun x r h=>(A53 x.1).trans h) fun _=>by kernel_rfl
def A2u:Gc:=⟨[.rd tI,.rd tI],[none,none],[.rd Gv],[some 16]⟩
def Te (a0 a1:Int):Option (((Bg×Unit)×(Unit))):=
 bif !Ba a0 8 200 then some (((0,([],[],()),false,(0,0,0,(0,0,0,0,()),0,0,([],()),()),[],[],()),()),()) else bif !Ba a1 1 8 then some (((0,([],[],()),false,(0,0,0,(0,0,0,0,()),0,0,([],()),()),[],[],()),()),()) else some (((a1,P5 a0,false,(0,0,0,(0,0,0,0,()),0,0,([],()),()),[([],())],[],()),()),())
theorem Ais:∃ f,f=@Te:=⟨_,rfl⟩
def Q6:=Classical.choose Ais
theorem Ait:@Q6=@Te:=Classical.choose_spec Ais
def Aiu:SD:=⟨A2u,fun x=>Q6 x.1 x.2.1⟩
theorem Bwd {a w:Int} (h:Bw a 8 200=true) (hw:Bw w 1 8=true):As (Q6 a w) fun q=>q.1.1=A9g a w:=by
 rw [Ait]
 unfold Te
 have e1:Ba a 8 200=Bw a 8 200:=rfl
 have e2:Ba w 1 8=Bw w 1 8:=rfl
 rw [e1,e2,h,hw]
 exact As.some rfl
theorem A2v:Bs Tryz.prog 143 Aiu:=
 A3 (pat:=Dp) [] Hn (A5 (l:=[(95,Dm),(207,Al8)]) ⟨D2,A54,trivial⟩) trivial Tryz.func143 (de:=fun x=>Te x.1 x.2.1) (fun x r h=>by have q:Q6 x.1 x.2.1=some r:=h; rw [Ait] at q; exact q) fun _=>by kernel_rfl
def Bby:Gc:=⟨[.rd (.sl (.int .u8))],[none],[.rd Gv,.rd .bool],[some 16,none]⟩
def Xn (a0:List Int):Option (((Bg×(Bool)×Unit)×(Unit))):=
 (Mz a0).bind fun val=>(Q6 (nI (List.length val.1.1.2.1.1)) val.1.1.1).bind fun val_1=>bif val_1.1.1.1==val.1.1.1 then some ((val_1.1.1,nI (List.length val_1.1.1.2.1.1)==nI (List.length val.1.1.2.1.1),()),()) else some ((val_1.1.1,false,()),())
theorem Aqb:∃ f,f=@Xn:=⟨_,rfl⟩
def Ud:=Classical.choose Aqb
theorem Aqc:@Ud=@Xn:=Classical.choose_spec Aqb
def Aqd:SD:=⟨Bby,fun x=>Ud x.1⟩
theorem Buf (b:List Int) (h:Agp (.sl (.int .u8)) b):As (Ud b) fun q=>q.1.2.1=true∧∃ (n:Nat) (w:Int),8≤n∧n≤40∧Bw w 1 8=true∧q.1.1=A9g n w:=by
 rw [Aqc]
 unfold Xn
 refine As.bind (Bbx b h) fun q hq=>?_
 have hd:=Ix hq.v
 have n8:=hd.n8
 have n40:=hq.n40
 have hi:Bw (nI q.1.1.2.1.1.length) 8 200=true:=by
  unfold Bw
  rw [Ag (show 8≤nI q.1.1.2.1.1.length by simp only [nI]; omega),Ag (show nI q.1.1.2.1.1.length≤200 by simp only [nI]; omega)]
  rfl
 refine As.bind (Bwd hi hq.hw) fun z hz=>?_
 rw [hz]
 have hl:(A9g (nI q.1.1.2.1.1.length) q.1.1.1).2.1.1.length=q.1.1.2.1.1.length:=(A66 hi).2.trans (by simp [nI])
 refine As.go (beq_self_eq_true _) (As.some ⟨?_,q.1.1.2.1.1.length,q.1.1.1,n8,n40,hq.hw,rfl⟩)
 show (nI (A9g (nI q.1.1.2.1.1.length) q.1.1.1).2.1.1.length==nI q.1.1.2.1.1.length)=true
 rw [hl]
 exact beq_self_eq_true _
theorem Bbz:Bs Tryz.prog 49 Aqd:=
 A3 (pat:=Dp) [] Hn (A5 (l:=[(26,u7),(143,Aiu)]) ⟨Asm,A2v,trivial⟩) trivial Tryz.func49 (de:=fun x=>Xn x.1) (fun x r h=>by have q:Ud x.1=some r:=h; rw [Aqc] at q; exact q) fun _=>by kernel_rfl
def Awb:Gc:=⟨[.rd (.sl (.int .u8))],[none],[.own 87 Arq],[none]⟩
def Ac1:Tb:=tb [(61,Acn),(63,Ek),(145,j4)]
def Je:Nat→C2×(Nat→C2):=F0 [(7,⟨[.row 4 0 87 Arq,.boxSl 3 0 (.int .u8)],[(3,.lf (.ptr 0 0)),(4,.lf (.row 1)),(5,.lf (.d tI)),(6,.lf (.d .bool)),(7,.lf (.d tI))],[.box 176 [.d (.pair (.sl (.int .u8)) (.pair tI .unit))],.row 87 Arq]⟩,[(2,⟨[.row 4 0 87 Arq],[(4,.lf (.row 0))],[.row 87 Arq]⟩)])]
def b5:Code:=(At (Bb Tryz.f51)).getD 0 .skip
def N8 (v5:Int) (v6:Bool) (v7:Int) (b0:(List Int)×Int×Unit) (r1:List Qw):Nat:=(v5 - v7).toNat + 1
def J3 {R:Type}  (NX:((Int)×(Bool)×(Int)×((List Int)×Int×Unit)×(List Qw)×Unit)→Option R) (X2:((List Qw)×Unit)→Option R) (v5:Int) (v6:Bool) (v7:Int) (b0:(List Int)×Int×Unit) (r1:List Qw):Option R:=
 bif decide (v7 < v5) then (P3 b0 v6).bind fun val=>bif decide ((r1.length + [val.1.1].length) * 64≤140737488355328) then bif val.1.1.1 != 5 then bif decide (val.1.1.2.2.1 < 0) then bif v6 then NX (v5,true,IntKind.i64.wrap (v7 + 1),val.2.1,r1++[val.1.1],()) else NX (v5,val.1.1.1==1,IntKind.i64.wrap (v7 + 1),val.2.1,r1++[val.1.1],()) else NX (v5,false,IntKind.i64.wrap (v7 + 1),val.2.1,r1++[val.1.1],()) else NX (v5,false,IntKind.i64.wrap (v7 + 1),val.2.1,r1++[val.1.1],()) else none else X2 (r1,())
def Ee:Nat→(Int)→(Bool)→(Int)→((List Int)×Int×Unit)→(List Qw) →  Option ((List Qw)×Unit)
 | 0,_,_,_,_,_=>none
 | m + 1,v5,v6,v7,b0,r1=>J3  (fun d=>Ee m d.1 d.2.1 d.2.2.1 d.2.2.2.1 d.2.2.2.2.1) (fun d=>some (d)) v5 v6 v7 b0 r1
def Aqe (d:(Int)×(Bool)×(Int)×((List Int)×Int×Unit)×(List Qw)×Unit):Option ((List Qw)×Unit):=(u4 (Ac Ae)) (Ee ((u4 (Ac Ae)) N8 d)) d
def Qv (a0:List Int):Option ((((List Qw)×Unit)×(Unit))):=
 (Ri a0).bind fun val=>((Ab val.1.1 30).bind fun val=>some ((val.1,()),val.2,())).bind fun val=>((fun d=>Ee (N8 d.1 d.2.1 d.2.2.1 d.2.2.2.1 d.2.2.2.2.1) d.1 d.2.1 d.2.2.1 d.2.2.2.1 d.2.2.2.2.1) (IntKind.i64.wrap (6 + val.1.1),false,0,val.2.1,[],())).bind fun val=>some (val,())
theorem Ac2:∃ f,f=@Qv:=⟨_,rfl⟩
def N9:=Classical.choose Ac2
theorem Ac3:@N9=@Qv:=Classical.choose_spec Ac2
def Ac4:SD:=⟨Awb,fun x=>N9 x.1⟩
theorem Bwe (v:Int):∀ (k m:Nat) (up:Bool) (i:Int) (K:Nat) (r:Rd) (l:List Qw),i + k=v→k < m→RdK K r→K + 500 * k < 1000000000→l.length + k≤1000→0≤i→i + k≤1000→
  As (Ee m v up i r l) fun q=>q.1.length=l.length + k:=by
 intro k
 induction k with
 | zero=>
  intro m up i K r l hi hm h hK hl h0 h9
  cases m with
  | zero=>omega
  | succ m=>
   simp only [Ee,J3]
   exact As.no (Bd (by omega)) (As.some rfl)
 | succ k ih=>
  intro m up i K r l hi hm h hK hl h0 h9
  cases m with
  | zero=>omega
  | succ m=>
   simp only [Ee,J3]
   rw [Aj (n:=i + 1) (by omega) (by omega)]
   refine As.go (Ag (by omega)) (As.bind (Blr up h (by omega)) fun q hq=>As.go (Ag (by first | omega | (rw [Et]; omega))) ?_)
   have rec_:∀ u:Bool,As (Ee m v u (i + 1) q.2.1 (l++[q.1.1])) fun q=>q.1.length=l.length + (k + 1):=fun u=>
    (ih m u (i + 1) (K + 500) q.2.1 _ (by omega) (by omega) hq (by omega) (by rw [Ef,Et]; omega) (by omega) (by omega)).mono fun y hy=>by rw [hy,Ef,Et]; omega
   exact As.cond (fun _=>As.cond (fun _=>As.cond (fun _=>rec_ _) fun _=>rec_ _) fun _=>rec_ _) fun _=>rec_ _
theorem Brj (b:List Int) (h:Agp (.sl (.int .u8)) b):As (N9 b) fun q=>q.1.1.length≤35:=by
 rw [Ac3]
 unfold Qv
 refine As.bind (Bpu b h) fun q hq=>?_
 refine Ed hq (by omega) (by omega) fun u r1 u0 u1 h1=>?_
 dsimp only
 rw [Aj (n:=6 + u) (by omega) (by omega)]
 refine As.bind (Bwe (6 + u) (6 + u).toNat _ false 0 1 r1 [] (by omega) (by simp only [N8]; omega) h1 (by omega) (by simp; omega) (by omega) (by omega)) fun y hy=>As.some ?_
 show y.1.length≤35
 rw [hy]
 simp
 omega
def b6 {R:Type} (k:Kt R):=(I3 (Je 7) (.exit 0) 2 k)
def Aff {R:Type}:Lt R Je:=(Ea (pat:=Je) 7 (fun d k=>(Aqe d).bind (b6 k)) Hn)
theorem Ac5:A2 Tryz.prog Ac1:=A5 ⟨Ap1,Fq,Alw,trivial⟩
theorem Aqf {R:Type}:A4 Tryz.prog R 44 0 Je Aff b5:=
 B8 (cfg:=⟨Ac1,0,44,Je⟩) 7 [] (fun NX X (d:(Int)×(Bool)×(Int)×((List Int)×Int×Unit)×(List Qw)×Unit)=>(u4 (Ac Ae)) (J3  NX X) d) (fun m d=>(u4 (Ac Ae)) (Ee m) d) (fun d=>(u4 (Ac Ae)) N8 d) b6 Ac5 trivial (fun f NX (d:(Int)×(Bool)×(Int)×((List Int)×Int×Unit)×(List Qw)×Unit)=>by simp only [u4,Ac,Ae]; unfold J3; simp only [nb])
theorem Awc:Bs Tryz.prog 51 Ac4:=
 A3 (pat:=Je) [b5] Aff Ac5 ⟨Aqf,trivial⟩ Tryz.func51 (de:=fun x=>Qv x.1) (fun x r h=>by have q:N9 x.1=some r:=h; rw [Ac3] at q; exact q) fun _=>by kernel_rfl
def A55:Gc:=⟨[.rd (.sl C8),.rd (.sl C8)],[none,none],[.rd .bool],[none]⟩
def Amb:Tb:=tb [(39,Si)]
def Kr:Nat→C2×(Nat→C2):=F0 [(5,⟨[.sl 0 0 C8,.sl 1 0 C8],[(0,.lf (.d (.sl C8))),(1,.lf (.d (.sl C8))),(5,.lf (.d tI))],[]⟩,[(2,p0),(1,⟨[],[(4,.lf (.d .bool))],[]⟩)])]
def Afg:Code:=(At (Bb Tryz.f58)).getD 0 .skip
def Rx (v0 v1:List B5) (v5:Int):Nat:=((v0.length:Int) - v5).toNat + 1
def Oa {R:Type}  (NX:((List B5)×(List B5)×(Int)×Unit)→Option R) (X2:(Unit)→Option R) (X1:((Bool)×Unit)→Option R) (v0:List B5) (v1:List B5) (v5:Int):Option R:=
 bif decide (v5 < nI v0.length) then bif decide (0≤v5) then bif decide (v5 < nI v0.length) then bif decide (0≤v5) then bif decide (v5 < nI v1.length) then ((E0 (v0.getD v5.toNat ([],())) (v1.getD v5.toNat ([],()))).bind fun val=>some ((val,()),())).bind fun val=>bif !val.1.1 then X1 (false,()) else NX (v0,v1,IntKind.i64.wrap (v5 + 1),()) else none else none else none else none else X2 PUnit.unit
def Ii:Nat→(List B5)→(List B5)→(Int) →  Option ((Unit) ⊕ ((Bool)×Unit))
 | 0,_,_,_=>none
 | m + 1,v0,v1,v5=>Oa  (fun d=>Ii m d.1 d.2.1 d.2.2.1) (fun d=>some (.inl (d))) (fun d=>some (.inr (d))) v0 v1 v5
def Az0 (d:(List B5)×(List B5)×(Int)×Unit):Option ((Unit) ⊕ ((Bool)×Unit)):=(Ac (Ac (Ac Ae))) (Ii ((Ac (Ac (Ac Ae))) Rx d)) d
def Ul (a0 a1:List B5):Option ((((Bool)×Unit)×(Unit))):=
 bif nI a0.length != nI a1.length then some ((false,()),()) else ((fun d=>Ii (Rx d.1 d.2.1 d.2.2.1) d.1 d.2.1 d.2.2.1) (a0,a1,0,())).bind fun val=>Bx (fun d=>some ((true,()),())) (fun d=>some (d,())) val
theorem Amc:∃ f,f=@Ul:=⟨_,rfl⟩
def Sq:=Classical.choose Amc
theorem Amd:@Sq=@Ul:=Classical.choose_spec Amc
def Ame:SD:=⟨A55,fun x=>Sq x.1 x.2.1⟩
theorem A4g {s:B5} (h:s.1.length≤1000):E0 s s=some true:=by
 have e:E0 s s=some (eqL (fun x y:A1=>eqB Ax x y) s.1 s.1):=if_pos (Nat.le_trans h (by decide))
 rw [e,show eqL (fun x y:A1=>eqB Ax x y) s.1 s.1=true from Agq (fun x=>Aat Ax x) s.1]
theorem Bwf (v:List B5) (hv:v.length≤1000) (hp:∀ x∈v,x.1.length≤1000):∀ (k m i:Nat),i + k=v.length→k < m→As (Ii m v v i) fun q=>q=.inl PUnit.unit:=by
 intro k
 induction k with
 | zero=>
  intro m i hi hm
  cases m with
  | zero=>omega
  | succ m=>
   simp only [Ii,Oa]
   exact As.no (Bd (by simp only [nI]; omega)) (As.some rfl)
 | succ k ih=>
  intro m i hi hm
  cases m with
  | zero=>omega
  | succ m=>
   have e1:IntKind.i64.wrap ((i:Int) + 1)=((i + 1:Nat):Int):=wI (by omega)
   have d:decide ((i:Int) < nI v.length)=true:=Ag (by simp only [nI]; omega)
   have e2:E0 (v.getD (Int.toNat (i:Int)) ([],())) (v.getD (Int.toNat (i:Int)) ([],()))=some true:=A4g (hp _ (Zr Ut (show i < v.length by omega)))
   simp only [Ii,Oa,e1,e2,d,G9,cond_true,Option.bind_some]
   exact ih m (i + 1) (by omega) (by omega)
theorem Bn6 {v:List B5} (hv:v.length≤1000) (hp:∀ x∈v,x.1.length≤1000):As (Sq v v) fun q=>q.1.1=true:=by
 rw [Amd]
 unfold Ul
 refine As.no (by simp) (As.bind (Bwf v hv hp v.length _ 0 (by omega) (by simp only [Rx]; omega)) fun q hq=>?_)
 rw [hq]
 exact As.some rfl
def Afh {R:Type} (k:Kt R):=(Bx (I3 (Kr 5) (.exit 0) 2 k) (I3 (Kr 5) .ret 1 k))
def Aqg {R:Type}:Lt R Kr:=(Ea (pat:=Kr) 5 (fun d k=>(Az0 d).bind (Afh k)) Hn)
theorem Amf:A2 Tryz.prog Amb:=A5 ⟨W7,trivial⟩
theorem Az1 {R:Type}:A4 Tryz.prog R 27 0 Kr Aqg Afg:=
 B8 (cfg:=⟨Amb,0,27,Kr⟩) 5 [] (fun NX X d=>(Ac (Ac (Ac Ae))) (Oa  NX (fun e=>X (.inl (e))) (fun e=>X (.inr (e)))) d) (fun m d=>(Ac (Ac (Ac Ae))) (Ii m) d) (fun d=>(Ac (Ac (Ac Ae))) Rx d) Afh Amf trivial (fun f NX d=>by simp only [u4,Ac,Ae]; unfold Oa; simp only [nb])
theorem A56:Bs Tryz.prog 58 Ame:=
 A3 (pat:=Kr) [Afg] Aqg Amf ⟨Az1,trivial⟩ Tryz.func58 (de:=fun x=>Ul x.1 x.2.1) (fun x r h=>by have q:Sq x.1 x.2.1=some r:=h; rw [Amd] at q; exact q) fun _=>by kernel_rfl
def Oj (a b:List Aa):Option Bool:=if a.length≤1073741824 then some (eqL eqS a b) else none
def Bb0:Gc:=⟨[.rd (.sl .str),.rd (.sl .str)],[none,none],[.rd .bool],[none]⟩
def Ac6:SD:=⟨Bb0,fun x=>(Oj x.1 x.2.1).bind fun r=>some ((r,()),(()))⟩
def Aqh:Tb:=tb []
def M0:Nat→C2×(Nat→C2):=F0 [(5,⟨[.sl 0 0 .str,.sl 1 0 .str],[(0,.lf (.d (.sl .str))),(1,.lf (.d (.sl .str))),(5,.lf (.d tI))],[]⟩,[(2,p0),(1,⟨[],[(4,.lf (.d .bool))],[]⟩)])]
def Aiv:Code:=(At (Bb Tryz.f146)).getD 0 .skip
def P6 (v0 v1:List Aa) (v5:Int):Nat:=((v0.length:Int) - v5).toNat + 1
def P7 {R:Type}  (NX:((List Aa)×(List Aa)×(Int)×Unit)→Option R) (X2:(Unit)→Option R) (X1:((Bool)×Unit)→Option R) (v0:List Aa) (v1:List Aa) (v5:Int):Option R:=
 bif decide (v5 < nI v0.length) then bif decide (0≤v5) then bif decide (v5 < nI v0.length) then bif decide (0≤v5) then bif decide (v5 < nI v1.length) then bif !ByteArray.toList (v0.getD v5.toNat (Ad))==ByteArray.toList (v1.getD v5.toNat (Ad)) then X1 (false,()) else NX (v0,v1,IntKind.i64.wrap (v5 + 1),()) else none else none else none else none else X2 PUnit.unit
def Ga:Nat→(List Aa)→(List Aa)→(Int) →  Option ((Unit) ⊕ ((Bool)×Unit))
 | 0,_,_,_=>none
 | m + 1,v0,v1,v5=>P7  (fun d=>Ga m d.1 d.2.1 d.2.2.1) (fun d=>some (.inl (d))) (fun d=>some (.inr (d))) v0 v1 v5
def A2w (d:(List Aa)×(List Aa)×(Int)×Unit):Option ((Unit) ⊕ ((Bool)×Unit)):=(Ac (Ac (Ac Ae))) (Ga ((Ac (Ac (Ac Ae))) P6 d)) d
def Ac7 (a0 a1:List Aa):Option ((((Bool)×Unit)×(Unit))):=
 bif nI a0.length != nI a1.length then some ((false,()),()) else ((fun d=>Ga (P6 d.1 d.2.1 d.2.2.1) d.1 d.2.1 d.2.2.1) (a0,a1,0,())).bind fun val=>Bx (fun d=>some ((true,()),())) (fun d=>some (d,())) val
theorem Bb1 (a0 a1:List Aa) r (h:Oj a0 a1=some r):Ac7 a0 a1=some ((r,()),(())):=by
 unfold Oj at h
 split at h
 rotate_left
 ·cases h
 rename_i hlen
 cases h
 unfold Ac7
 by_cases hl:a1.length=a0.length
 ·have c1:(nI a0.length != nI a1.length)=false:=by simp [nI,hl]
  rw [c1]
  have hL:=A6v (xs:=a0) (ys:=a1) z0 eqS (g:=fun m i=>Ga m a0 a1 i) (ok:=.inl ()) (bad:=.inr (false,())) hl (fun m i hi=>by
   show Ga (m + 1) a0 a1 i=_
   simp only [Ga,P7]
   rw [Xv hi,G9,Xv (show i < a1.length by omega),wI (by omega)]
   simp only [cond_true,En]
   show (bif !(eqS (a0.getD i z0) (a1.getD i z0)) then _ else _)=bif eqS (a0.getD i z0) (a1.getD i z0) then _ else _
   cases eqS (a0.getD i z0) (a1.getD i z0)<;>rfl) (fun m=>by
   show Ga (m + 1) a0 a1 (a0.length:Int)=_
   simp only [Ga,P7]
   rw [Od]
   rfl) (P6 a0 a1 0) 0 (by omega) (by simp [P6,nI])
  refine Qe hL ?_
  rw [List.drop_zero,List.drop_zero]
  cases eqL eqS a0 a1<;>rfl
 ·have c1:(nI a0.length != nI a1.length)=true:=by simp [nI]; omega
  rw [c1,show eqL eqS a0 a1=false from A6u fun q=>hl q.symm]
  rfl
def Aiw {R:Type} (k:Kt R):=(Bx (I3 (M0 5) (.exit 0) 2 k) (I3 (M0 5) .ret 1 k))
def At3 {R:Type}:Lt R M0:=(Ea (pat:=M0) 5 (fun d k=>(A2w d).bind (Aiw k)) Hn)
theorem Aqi:A2 Tryz.prog Aqh:=A5 trivial
theorem A2x {R:Type}:A4 Tryz.prog R 26 0 M0 At3 Aiv:=
 B8 (cfg:=⟨Aqh,0,26,M0⟩) 5 [] (fun NX X d=>(Ac (Ac (Ac Ae))) (P7  NX (fun e=>X (.inl (e))) (fun e=>X (.inr (e)))) d) (fun m d=>(Ac (Ac (Ac Ae))) (Ga m) d) (fun d=>(Ac (Ac (Ac Ae))) P6 d) Aiw Aqi trivial (fun f NX d=>by simp only [u4,Ac,Ae]; unfold P7; simp only [nb])
theorem Aqj:Bs Tryz.prog 146 Ac6:=
 A3 (pat:=M0) [Aiv] At3 Aqi ⟨A2x,trivial⟩ Tryz.func146 (de:=fun x=>Ac7 x.1 x.2.1) (fun x r h=>F1 (Bb1 x.1 x.2.1) h) fun _=>by kernel_rfl
def Bdv:Gc:=⟨[.rd yDk,.rd yDk],[some 2,some 2],[.rd .bool],[none]⟩
def At4:Tb:=tb [(146,Ac6)]
def Ok:Nat→C2×(Nat→C2):=F0 [(5,⟨[.boxSl 2 0 .str,.boxSl 2 1 Em,.boxSl 3 0 .str,.boxSl 3 1 Em],[(2,.lf (.ptr 0 0)),(3,.lf (.ptr 1 0)),(5,.lf (.d tI))],[.box 26 [.d yDk],.box 26 [.d yDk]]⟩,[(2,p0),(1,⟨[],[(4,.lf (.d .bool))],[]⟩)])]
def Amg:Code:=(At (Bb Tryz.f59)).getD 0 .skip
def Um (v5:Int) (b0 b1:Dk):Nat:=((List.length b0.2.1:Int) - v5).toNat + 1
def Q7 {R:Type}  (NX:((Int)×Dk×Dk×Unit)→Option R) (X2:(Unit)→Option R) (X1:((Bool)×Unit)→Option R) (v5:Int) (b0:Dk) (b1:Dk):Option R:=
 bif decide (v5 < nI (List.length b0.2.1)) then bif decide (0≤v5) then bif decide (v5 < nI (List.length b0.2.1)) then bif decide (0≤v5) then bif decide (v5 < nI (List.length b1.2.1)) then bif !((List.getD b0.2.1 v5.toNat (0,Ad,())).1==(List.getD b1.2.1 v5.toNat (0,Ad,())).1&&(ByteArray.toList (List.getD b0.2.1 v5.toNat (0,Ad,())).2.1==ByteArray.toList (List.getD b1.2.1 v5.toNat (0,Ad,())).2.1&&true)) then X1 (false,()) else NX (IntKind.i64.wrap (v5 + 1),b0,b1,()) else none else none else none else none else X2 PUnit.unit
def Ks:Nat→(Int)→Dk→Dk →  Option ((Unit) ⊕ ((Bool)×Unit))
 | 0,_,_,_=>none
 | m + 1,v5,b0,b1=>Q7  (fun d=>Ks m d.1 d.2.1 d.2.2.1) (fun d=>some (.inl (d))) (fun d=>some (.inr (d))) v5 b0 b1
def A57 (d:(Int)×Dk×Dk×Unit):Option ((Unit) ⊕ ((Bool)×Unit)):=(Ac (Ac (Ac Ae))) (Ks ((Ac (Ac (Ac Ae))) Um d)) d
def Zn (a0 a1:Dk):Option ((((Bool)×Unit)×(Unit))):=
 ((Oj a0.1 a1.1).bind fun val=>some ((val,()),())).bind fun val=>bif !val.1.1 then some ((false,()),()) else bif nI (List.length a0.2.1) != nI (List.length a1.2.1) then some ((false,()),()) else ((fun d=>Ks (Um d.1 d.2.1 d.2.2.1) d.1 d.2.1 d.2.2.1) (0,a0,a1,())).bind fun val=>Bx (fun d=>some ((true,()),())) (fun d=>some (d,())) val
theorem At5:∃ f,f=@Zn:=⟨_,rfl⟩
def Xo:=Classical.choose At5
theorem At6:@Xo=@Zn:=Classical.choose_spec At5
def At7:SD:=⟨Bdv,fun x=>Xo x.1 x.2.1⟩
theorem A4h {v:List Aa} (h:v.length≤1000000):Oj v v=some true:=by
 have e:Oj v v=some (eqL eqS v v):=if_pos (Nat.le_trans h (by decide))
 rw [e,show eqL eqS v v=true from Agq (fun x=>Aat .str x) v]
theorem Bwg (b:Dk) (hv:b.2.1.length≤1000000):∀ (k m i:Nat),i + k=b.2.1.length→k < m→As (Ks m i b b) fun q=>q=.inl PUnit.unit:=by
 intro k
 induction k with
 | zero=>
  intro m i hi hm
  cases m with
  | zero=>omega
  | succ m=>
   simp only [Ks,Q7]
   exact As.no (Bd (by simp only [nI]; omega)) (As.some rfl)
 | succ k ih=>
  intro m i hi hm
  cases m with
  | zero=>omega
  | succ m=>
   have e1:IntKind.i64.wrap ((i:Int) + 1)=((i + 1:Nat):Int):=wI (by omega)
   have d:decide ((i:Int) < nI (List.length b.2.1))=true:=Ag (by simp only [nI]; omega)
   simp only [Ks,Q7,e1,d,G9,cond_true,beq_self_eq_true,Bool.and_true,Bool.not_true,cond_false]
   exact ih m (i + 1) (by omega) (by omega)
theorem Bug {b:Dk} (h1:b.1.length≤1000000) (h2:b.2.1.length≤1000000):As (Xo b b) fun q=>q.1.1=true:=by
 rw [At6]
 unfold Zn
 rw [A4h h1]
 refine As.no (by simp) (As.bind (Bwg b h2 b.2.1.length _ 0 (by omega) (by simp only [Um]; omega)) fun q hq=>?_)
 rw [hq]
 exact As.some rfl
def Amh {R:Type} (k:Kt R):=(Bx (I3 (Ok 5) (.exit 0) 2 k) (I3 (Ok 5) .ret 1 k))
def Az2 {R:Type}:Lt R Ok:=(Ea (pat:=Ok) 5 (fun d k=>(A57 d).bind (Amh k)) Hn)
theorem At8:A2 Tryz.prog At4:=A5 ⟨Aqj,trivial⟩
theorem A58 {R:Type}:A4 Tryz.prog R 39 0 Ok Az2 Amg:=
 B8 (cfg:=⟨At4,0,39,Ok⟩) 5 [] (fun NX X d=>(Ac (Ac (Ac Ae))) (Q7  NX (fun e=>X (.inl (e))) (fun e=>X (.inr (e)))) d) (fun m d=>(Ac (Ac (Ac Ae))) (Ks m) d) (fun d=>(Ac (Ac (Ac Ae))) Um d) Amh At8 trivial (fun f NX d=>by simp only [u4,Ac,Ae]; unfold Q7; simp only [nb])
theorem Bdw:Bs Tryz.prog 59 At7:=
 A3 (pat:=Ok) [Amg] Az2 At8 ⟨A58,trivial⟩ Tryz.func59 (de:=fun x=>Zn x.1 x.2.1) (fun x r h=>by have q:Xo x.1 x.2.1=some r:=h; rw [At6] at q; exact q) fun _=>by kernel_rfl
def Bb2:Gc:=⟨[.rd Yf,.rd Yf],[some 10,some 10],[.rd .bool],[none]⟩
def Xp (a0 a1:E5):Option ((((Bool)×Unit)×(Unit))):=
 bif a0.1==a1.1 then bif a0.2.1==a1.2.1 then bif a0.2.2.1==a1.2.2.1 then bif a0.2.2.2.1.1==a1.2.2.2.1.1&&(a0.2.2.2.1.2.1==a1.2.2.2.1.2.1&&(a0.2.2.2.1.2.2.1==a1.2.2.2.1.2.2.1&&(a0.2.2.2.1.2.2.2.1==a1.2.2.2.1.2.2.2.1&&true))) then bif a0.2.2.2.2.1==a1.2.2.2.2.1 then bif a0.2.2.2.2.2.1==a1.2.2.2.2.2.1 then ((E0 a0.2.2.2.2.2.2.1 a1.2.2.2.2.2.2.1).bind fun val=>some ((val,()),())).bind fun val=>some val else some ((false,()),()) else some ((false,()),()) else some ((false,()),()) else some ((false,()),()) else some ((false,()),()) else some ((false,()),())
theorem Aqk:∃ f,f=@Xp:=⟨_,rfl⟩
def Ue:=Classical.choose Aqk
theorem Aql:@Ue=@Xp:=Classical.choose_spec Aqk
def Aqm:SD:=⟨Bb2,fun x=>Ue x.1 x.2.1⟩
theorem Brk {s:E5} (h:s.2.2.2.2.2.2.1.1.length≤1000):As (Ue s s) fun q=>q.1.1=true:=by
 rw [Aql]
 unfold Xp
 have e:E0 s.2.2.2.2.2.2.1 s.2.2.2.2.2.2.1=some true:=by
  have e:E0 s.2.2.2.2.2.2.1 s.2.2.2.2.2.2.1=some (eqL (fun x y:A1=>eqB Ax x y) s.2.2.2.2.2.2.1.1 s.2.2.2.2.2.2.1.1):=if_pos (Nat.le_trans h (by decide))
  rw [e,show eqL (fun x y:A1=>eqB Ax x y) s.2.2.2.2.2.2.1.1 s.2.2.2.2.2.2.1.1=true from Agq (fun x=>Aat Ax x) _]
 simp only [beq_self_eq_true,Bool.and_true,cond_true,e,Option.bind_some]
 exact As.some rfl
theorem Bb3:Bs Tryz.prog 105 Aqm:=
 A3 (pat:=Dp) [] Hn (A5 (l:=[(39,Si)]) ⟨W7,trivial⟩) trivial Tryz.func105 (de:=fun x=>Xp x.1 x.2.1) (fun x r h=>by have q:Ue x.1 x.2.1=some r:=h; rw [Aql] at q; exact q) fun _=>by kernel_rfl
def Bb4:Gc:=⟨[.rd Gv,.rd Gv],[some 16,some 16],[.rd .bool],[none]⟩
def Xq (a0 a1:Bg):Option ((((Bool)×Unit)×(Unit))):=
 bif a0.1==a1.1 then bif a0.2.2.1==a1.2.2.1 then (Xo a0.2.1 a1.2.1).bind fun val=>bif val.1.1 then (Ue a0.2.2.2.1 a1.2.2.2.1).bind fun val=>bif val.1.1 then (Sq a0.2.2.2.2.1 a1.2.2.2.2.1).bind fun val=>bif val.1.1 then ((Oj a0.2.2.2.2.2.1 a1.2.2.2.2.2.1).bind fun val=>some ((val,()),())).bind fun val=>some val else some ((false,()),()) else some ((false,()),()) else some ((false,()),()) else some ((false,()),()) else some ((false,()),())
theorem Aqn:∃ f,f=@Xq:=⟨_,rfl⟩
def Uf:=Classical.choose Aqn
theorem Aqo:@Uf=@Xq:=Classical.choose_spec Aqn
def Aqp:SD:=⟨Bb4,fun x=>Uf x.1 x.2.1⟩
theorem Brl {w:Bg} (h:Bnh w):As (Uf w w) fun q=>q.1.1=true:=by
 obtain ⟨h1,h2,h3,h4,h5,h6⟩:=h
 rw [Aqo]
 unfold Xq
 refine As.go (beq_self_eq_true _) (As.go (beq_self_eq_true _) (As.bind (Bug (by omega) (by omega)) fun q hq=>As.go hq (As.bind (Brk h3) fun q hq=>As.go hq (As.bind (Bn6 h4 h5) fun q hq=>As.go hq ?_))))
 rw [A4h (by omega)]
 exact As.some rfl
theorem Bb5:Bs Tryz.prog 52 Aqp:=
 A3 (pat:=Dp) [] Hn (A5 (l:=[(58,Ame),(59,At7),(105,Aqm),(146,Ac6)]) ⟨A56,Bdw,Bb3,Aqj,trivial⟩) trivial Tryz.func52 (de:=fun x=>Xq x.1 x.2.1) (fun x r h=>by have q:Uf x.1 x.2.1=some r:=h; rw [Aqo] at q; exact q) fun _=>by kernel_rfl
def P8 (a b:B5):Option Bool:=if a.1.length≤1000000 then some (Akp a b) else none
def Az3:Gc:=⟨[.rd C8,.rd C8],[some 1,some 1],[.rd .bool],[none]⟩
def Afi:SD:=⟨Az3,fun x=>(P8 x.1 x.2.1).bind fun r=>some ((r,()),(()))⟩
def Afj:Tb:=tb []
def Ij:Nat→C2×(Nat→C2):=F0 [(5,⟨[.boxSl 2 0 Ax,.boxSl 3 0 Ax],[(2,.lf (.ptr 0 0)),(3,.lf (.ptr 1 0)),(15,.lf (.d tI)),(16,.lf (.d tI))],[.box 31 [.d (.sl Ax)],.box 31 [.d (.sl Ax)]]⟩,[(2,p0),(1,⟨[],[(4,.lf (.d .bool))],[]⟩)])]
def w5:Code:=(At (Bb Tryz.f149)).getD 0 .skip
def K5 (v15 v16:Int) (b0_0 b1_0:List A1):Nat:=(v15 - v16).toNat + 1
def K6 {R:Type}  (NX:((Int)×(Int)×(List A1)×(List A1)×Unit)→Option R) (X2:(Unit)→Option R) (X1:((Bool)×Unit)→Option R) (v15:Int) (v16:Int) (b0_0:List A1) (b1_0:List A1):Option R:=
 bif decide (v16 < v15) then bif decide (0≤v16) then bif decide (v16 < nI b0_0.length) then bif decide (0≤v16) then bif decide (v16 < nI b1_0.length) then bif !(ByteArray.toList (b0_0.getD v16.toNat (Ad,Ad,())).1==ByteArray.toList (b1_0.getD v16.toNat (Ad,Ad,())).1&&(ByteArray.toList (b0_0.getD v16.toNat (Ad,Ad,())).2.1==ByteArray.toList (b1_0.getD v16.toNat (Ad,Ad,())).2.1&&true)) then X1 (false,()) else NX (v15,IntKind.i64.wrap (v16 + 1),b0_0,b1_0,()) else none else none else none else none else X2 PUnit.unit
def Ds:Nat→(Int)→(Int)→(List A1)→(List A1) →  Option ((Unit) ⊕ ((Bool)×Unit))
 | 0,_,_,_,_=>none
 | m + 1,v15,v16,b0_0,b1_0=>K6  (fun d=>Ds m d.1 d.2.1 d.2.2.1 d.2.2.2.1) (fun d=>some (.inl (d))) (fun d=>some (.inr (d))) v15 v16 b0_0 b1_0
def Asn (d:(Int)×(Int)×(List A1)×(List A1)×Unit):Option ((Unit) ⊕ ((Bool)×Unit)):=(u4 Ae) (Ds ((u4 Ae) K5 d)) d
def Xr (a0 a1:B5):Option ((((Bool)×Unit)×(Unit))):=
 bif nI (List.length a0.1) != nI (List.length a1.1) then some ((false,()),()) else ((fun d=>Ds (K5 d.1 d.2.1 d.2.2.1 d.2.2.2.1) d.1 d.2.1 d.2.2.1 d.2.2.2.1) (nI (List.length a0.1),0,a0.1,a1)).bind fun val=>Bx (fun d=>some ((true,()),())) (fun d=>some (d,())) val
theorem Az4 (a0 a1:B5) r (h:P8 a0 a1=some r):Xr a0 a1=some ((r,()),(())):=by
 unfold P8 at h
 split at h
 rotate_left
 ·cases h
 rename_i hlen
 cases h
 unfold Xr
 by_cases hl:a1.1.length=a0.1.length
 ·have c1:(nI a0.1.length != nI a1.1.length)=false:=by simp [nI,hl]
  rw [c1]
  have hL:=A6v (xs:=a0.1) (ys:=a1.1) zP (fun x y:A1=>eqB Ax x y) (g:=fun m i=>Ds m (nI a0.1.length) i a0.1 a1.1) (ok:=.inl ()) (bad:=.inr (false,())) hl (fun m i hi=>by
   show Ds (m + 1) (nI a0.1.length) i a0.1 a1.1=_
   simp only [Ds,K6]
   rw [Xv hi,G9,Xv (show i < a1.1.length by omega),wI (by omega)]
   simp only [cond_true,En]
   show (bif !(eqB Ax (a0.1.getD i zP) (a1.1.getD i zP)) then _ else _)=bif eqB Ax (a0.1.getD i zP) (a1.1.getD i zP) then _ else _
   cases eqB Ax (a0.1.getD i zP) (a1.1.getD i zP)<;>rfl) (fun m=>by
   show Ds (m + 1) (nI a0.1.length) (a0.1.length:Int) a0.1 a1.1=_
   simp only [Ds,K6]
   rw [Od]
   rfl) (K5 (nI a0.1.length) 0 a0.1 a1.1) 0 (by omega) (by simp [K5,nI])
  refine Qe hL ?_
  rw [List.drop_zero,List.drop_zero]
  show Bx _ _ (bif Akp a0 a1 then _ else _)=_
  cases Akp a0 a1<;>rfl
 ·have c1:(nI a0.1.length != nI a1.1.length)=true:=by simp [nI]; omega
  rw [c1,show Akp a0 a1=false from A6u fun q=>hl q.symm]
  rfl
def w6 {R:Type} (k:Kt R):=(Bx (I3 (Ij 5) (.exit 0) 2 k) (I3 (Ij 5) .ret 1 k))
def Aix {R:Type}:Lt R Ij:=(Ea (pat:=Ij) 5 (fun d k=>(Asn d).bind (w6 k)) Hn)
theorem Afk:A2 Tryz.prog Afj:=A5 trivial
theorem Aso {R:Type}:A4 Tryz.prog R 31 0 Ij Aix w5:=
 B8 (cfg:=⟨Afj,0,31,Ij⟩) 5 [] (fun NX X d=>(u4 Ae) (K6  NX (fun e=>X (.inl (e))) (fun e=>X (.inr (e)))) d) (fun m d=>(u4 Ae) (Ds m) d) (fun d=>(u4 Ae) K5 d) w6 Afk trivial (fun f NX d=>by simp only [u4,Ac,Ae]; unfold K6; simp only [nb])
theorem Az5:Bs Tryz.prog 149 Afi:=
 A3 (pat:=Ij) [w5] Aix Afk ⟨Aso,trivial⟩ Tryz.func149 (de:=fun x=>Xr x.1 x.2.1) (fun x r h=>F1 (Az4 x.1 x.2.1) h) fun _=>by kernel_rfl
def Xs (w:Bg):Bool:=A9c w
def Bdx:Gc:=⟨[.rd Gv],[some 16],[.rd .bool],[none]⟩
def At9:SD:=⟨Bdx,fun x=>some (((Xs x.1),()),(()))⟩
def Aua:Tb:=tb [(20,Af1),(149,Afi)]
def Ol:Nat→C2×(Nat→C2):=F0 [(6,⟨[.sl 15 0 C8,.boxSl 3 0 Ax],[(3,.lf (.ptr 0 0)),(15,.lf (.d (.sl C8))),(16,.lf (.d tI)),(17,.lf (.d tI))],[.box 31 [.d (.sl Ax)]]⟩,[(2,p0),(1,⟨[],[(2,.lf (.d .bool))],[]⟩)])]
def Ami:Code:=(At (Bb Tryz.f54)).getD 0 .skip
def Q8 (v15:List B5) (v16 v17:Int) (b0_0:List A1):Nat:=(v16 - v17).toNat + 1
def Q9 {R:Type}  (NX:((List B5)×(Int)×(Int)×(List A1)×Unit)→Option R) (X2:(Unit)→Option R) (X1:((Bool)×Unit)→Option R) (v15:List B5) (v16:Int) (v17:Int) (b0_0:List A1):Option R:=
 bif decide (v17 < v16) then bif decide (0≤v17) then bif decide (v17 < nI v15.length) then ((P8 (v15.getD v17.toNat ([],())) (b0_0,())).bind fun val=>some ((val,()),())).bind fun val=>bif val.1.1 then X1 (true,()) else NX (v15,v16,IntKind.i64.wrap (v17 + 1),b0_0,()) else none else none else X2 PUnit.unit
def G8:Nat→(List B5)→(Int)→(Int)→(List A1) →  Option ((Unit) ⊕ ((Bool)×Unit))
 | 0,_,_,_,_=>none
 | m + 1,v15,v16,v17,b0_0=>Q9  (fun d=>G8 m d.1 d.2.1 d.2.2.1 d.2.2.2.1) (fun d=>some (.inl (d))) (fun d=>some (.inr (d))) v15 v16 v17 b0_0
def A59 (d:(List B5)×(Int)×(Int)×(List A1)×Unit):Option ((Unit) ⊕ ((Bool)×Unit)):=(u4 Ae) (G8 ((u4 Ae) Q8 d)) d
def Agb (a0:Bg):Option ((((Bool)×Unit)×(Unit))):=
 bif (Jl a0).2 != 0 then some ((false,()),()) else ((fun d=>G8 (Q8 d.1 d.2.1 d.2.2.1 d.2.2.2.1) d.1 d.2.1 d.2.2.1 d.2.2.2.1) (a0.2.2.2.2.1,nI (List.length a0.2.2.2.2.1),0,(Jl a0).1)).bind fun val=>Bx (fun d=>some ((false,()),())) (fun d=>some (d,())) val
theorem Bdy (a0:Bg):Agb a0=some (((Xs a0),()),(())):=by
 unfold Agb Xs A9c
 show (bif (L7 a0).2 != 0 then _ else _)=_
 cases hc:(L7 a0).2 != 0 with
 | true=>rfl
 | false=>
  simp only [cond_false]
  have hv:=Bkj hc
  have hP:=(x9 hv).2.2
  have hL:=Bkk (xs:=a0.2.2.2.2.1) Ut (fun p=>Akp p (L7 a0).1) (g:=fun m i=>G8 m a0.2.2.2.2.1 (nI a0.2.2.2.2.1.length) i (L7 a0).1.1) (ok:=.inl ()) (bad:=.inr (true,())) (fun m i hi=>by
   show G8 (m + 1) a0.2.2.2.2.1 (nI a0.2.2.2.2.1.length) i (L7 a0).1.1=_
   simp only [G8,Q9]
   have e1:P8 (a0.2.2.2.2.1.getD i Ut) ((L7 a0).1.1,())=some (Akp (a0.2.2.2.2.1.getD i Ut) (L7 a0).1):=if_pos (Nat.le_trans (Ca (Bna hv hi)) (by decide))
   rw [Xv hi,G9,wI (by omega)]
   simp only [cond_true,En]
   refine (congrArg (fun q=>Option.bind (Option.bind q _) _) e1).trans ?_
   cases Akp (a0.2.2.2.2.1.getD i Ut) (L7 a0).1<;>rfl) (fun m=>by
   show G8 (m + 1) a0.2.2.2.2.1 (nI a0.2.2.2.2.1.length) (a0.2.2.2.2.1.length:Int) (L7 a0).1.1=_
   simp only [G8,Q9]
   rw [Od]
   rfl) (Q8 a0.2.2.2.2.1 (nI a0.2.2.2.2.1.length) 0 (L7 a0).1.1) 0 (by omega) (by simp [Q8,nI])
  refine Qe hL ?_
  rw [List.drop_zero]
  cases a0.2.2.2.2.1.any (fun p=>Akp p (L7 a0).1)<;>rfl
def Amj {R:Type} (k:Kt R):=(Bx (I3 (Ol 6) (.exit 0) 2 k) (I3 (Ol 6) .ret 1 k))
def Az6 {R:Type}:Lt R Ol:=(Ea (pat:=Ol) 6 (fun d k=>(A59 d).bind (Amj k)) Hn)
theorem Aub:A2 Tryz.prog Aua:=A5 ⟨Atc,Az5,trivial⟩
theorem A6a {R:Type}:A4 Tryz.prog R 25 0 Ol Az6 Ami:=
 B8 (cfg:=⟨Aua,0,25,Ol⟩) 6 [] (fun NX X d=>(u4 Ae) (Q9  NX (fun e=>X (.inl (e))) (fun e=>X (.inr (e)))) d) (fun m d=>(u4 Ae) (G8 m) d) (fun d=>(u4 Ae) Q8 d) Amj Aub trivial (fun f NX d=>by simp only [u4,Ac,Ae]; unfold Q9; simp only [nb])
theorem Bdz:Bs Tryz.prog 54 At9:=
 A3 (pat:=Ol) [Ami] Az6 Aub ⟨A6a,trivial⟩ Tryz.func54 (de:=fun x=>Agb x.1) (fun x r h=>(Bdy x.1).trans h) fun _=>by kernel_rfl
def Bb6:Gc:=⟨[.rd (.sl C8),.rd C8],[none,some 1],[.rd .bool],[none]⟩
def Aqq:Tb:=tb [(39,Si)]
def M1:Nat→C2×(Nat→C2):=F0 [(3,⟨[.sl 0 0 C8,.boxSl 3 0 Ax],[(0,.lf (.d (.sl C8))),(3,.lf (.ptr 0 0)),(5,.lf (.d tI))],[.box 31 [.d C8]]⟩,[(2,p0),(1,⟨[],[(4,.lf (.d .bool))],[]⟩)])]
def Aiy:Code:=(At (Bb Tryz.f55)).getD 0 .skip
def Tf (v0:List B5) (v5:Int) (b0:B5):Nat:=((v0.length:Int) - v5).toNat + 1
def Tg {R:Type}  (NX:((List B5)×(Int)×B5×Unit)→Option R) (X2:(Unit)→Option R) (X1:((Bool)×Unit)→Option R) (v0:List B5) (v5:Int) (b0:B5):Option R:=
 bif decide (v5 < nI v0.length) then bif decide (0≤v5) then bif decide (v5 < nI v0.length) then ((E0 (v0.getD v5.toNat ([],())) b0).bind fun val=>some ((val,()),())).bind fun val=>bif val.1.1 then X1 (true,()) else NX (v0,IntKind.i64.wrap (v5 + 1),b0,()) else none else none else X2 PUnit.unit
def Lz:Nat→(List B5)→(Int)→B5 →  Option ((Unit) ⊕ ((Bool)×Unit))
 | 0,_,_,_=>none
 | m + 1,v0,v5,b0=>Tg  (fun d=>Lz m d.1 d.2.1 d.2.2.1) (fun d=>some (.inl (d))) (fun d=>some (.inr (d))) v0 v5 b0
def A2y (d:(List B5)×(Int)×B5×Unit):Option ((Unit) ⊕ ((Bool)×Unit)):=(Ac (Ac (Ac Ae))) (Lz ((Ac (Ac (Ac Ae))) Tf d)) d
def Xt (a0:List B5) (a1:B5):Option ((((Bool)×Unit)×(Unit))):=
 ((fun d=>Lz (Tf d.1 d.2.1 d.2.2.1) d.1 d.2.1 d.2.2.1) (a0,0,a1,())).bind fun val=>Bx (fun d=>some ((false,()),())) (fun d=>some (d,())) val
theorem Aqr:∃ f,f=@Xt:=⟨_,rfl⟩
def Lc:=Classical.choose Aqr
theorem Aqs:@Lc=@Xt:=Classical.choose_spec Aqr
def Aqt:SD:=⟨Bb6,fun x=>Lc x.1 x.2.1⟩
theorem Bwh (v:List B5) (s:B5) (hv:v.length≤1000) (hp:∀ x∈v,x.1.length≤1000):∀ (k m i:Nat),i + k=v.length→k < m→s∈v.drop i→As (Lz m v i s) fun q=>q=.inr (true,()):=by
 intro k
 induction k with
 | zero=>
  intro m i hi hm hs
  rw [List.drop_eq_nil_of_le (by omega)] at hs
  cases hs
 | succ k ih=>
  intro m i hi hm hs
  cases m with
  | zero=>omega
  | succ m=>
   have e1:IntKind.i64.wrap ((i:Int) + 1)=((i + 1:Nat):Int):=wI (by omega)
   have d:decide ((i:Int) < nI v.length)=true:=Ag (by simp only [nI]; omega)
   have hx:=hp _ (Zr Ut (show i < v.length by omega))
   have e2:E0 (v.getD (Int.toNat (i:Int)) ([],())) s=some (eqL (fun x y:A1=>eqB Ax x y) (v.getD i Ut).1 s.1):=if_pos (Nat.le_trans hx (by decide))
   simp only [Lz,Tg,e1,e2,d,G9,cond_true,Option.bind_some]
   refine As.cond (fun _=>As.some rfl) fun c=>ih m (i + 1) (by omega) (by omega) ?_
   rw [Ld v i Ut (by omega)] at hs
   rcases List.mem_cons.1 hs with q | q
   ·rw [q,show eqL (fun x y:A1=>eqB Ax x y) (v.getD i Ut).1 (v.getD i Ut).1=true from Agq (fun x=>Aat Ax x) _] at c
    cases c
   ·exact q
theorem Bf4 {v:List B5} {s:B5} (hv:v.length≤1000) (hp:∀ x∈v,x.1.length≤1000) (hs:s∈v):As (Lc v s) fun q=>q.1.1=true:=by
 rw [Aqs]
 unfold Xt
 refine As.bind (Bwh v s hv hp v.length _ 0 (by omega) (by simp only [Tf]; omega) hs) fun q hq=>?_
 rw [hq]
 exact As.some rfl
def Aiz {R:Type} (k:Kt R):=(Bx (I3 (M1 3) (.exit 0) 2 k) (I3 (M1 3) .ret 1 k))
def Auc {R:Type}:Lt R M1:=(Ea (pat:=M1) 3 (fun d k=>(A2y d).bind (Aiz k)) Hn)
theorem Aqu:A2 Tryz.prog Aqq:=A5 ⟨W7,trivial⟩
theorem A2z {R:Type}:A4 Tryz.prog R 18 0 M1 Auc Aiy:=
 B8 (cfg:=⟨Aqq,0,18,M1⟩) 3 [] (fun NX X d=>(Ac (Ac (Ac Ae))) (Tg  NX (fun e=>X (.inl (e))) (fun e=>X (.inr (e)))) d) (fun m d=>(Ac (Ac (Ac Ae))) (Lz m) d) (fun d=>(Ac (Ac (Ac Ae))) Tf d) Aiz Aqu trivial (fun f NX d=>by simp only [u4,Ac,Ae]; unfold Tg; simp only [nb])
theorem Bb7:Bs Tryz.prog 55 Aqt:=
 A3 (pat:=M1) [Aiy] Auc Aqu ⟨A2z,trivial⟩ Tryz.func55 (de:=fun x=>Xt x.1 x.2.1) (fun x r h=>by have q:Lc x.1 x.2.1=some r:=h; rw [Aqs] at q; exact q) fun _=>by kernel_rfl
def Bd0:Gc:=⟨[.rd (.sl (.int .u8)),.rd (.sl (.int .u8))],[none,none],[.rd .bool],[none]⟩
def Aud:Tb:=tb [(13,An6),(14,Aor),(15,Qp),(20,Af1),(39,Si),(43,Bbk),(45,Bbq),(49,Aqd),(50,Td),(51,Ac4),(52,Aqp),(53,O8),(54,At9),(55,Aqt)]
def Om:Nat→C2×(Nat→C2):=F0 [(11,⟨[.row 8 0 87 Arq,.boxSl 5 1 .str,.boxSl 5 2 Em,.boxSl 5 13 Ax,.boxSl 5 14 C8,.boxSl 5 15 .str,.boxSl 7 1 .str,.boxSl 7 2 Em,.boxSl 7 13 Ax,.boxSl 7 14 C8,.boxSl 7 15 .str],[(5,.lf (.ptr 0 0)),(7,.lf (.ptr 1 0)),(8,.lf (.row 2)),(9,.lf (.d tI))],[.box 36 [.d Gv],.box 36 [.d Gv],.row 87 Arq]⟩,[(2,p0),(1,⟨[],[(4,.lf (.d .bool))],[]⟩)])]
def Ai0:Code:=(At (Bb Tryz.f7)).getD 0 .skip
def Th (v9:Int) (b0 b1:Bg) (r2:List Qw):Nat:=((r2.length:Int) - v9).toNat + 1
def P9 {R:Type}  (NX:((Int)×Bg×Bg×(List Qw)×Unit)→Option R) (X2:(Unit)→Option R) (X1:((Bool)×Unit)→Option R) (v9:Int) (b0:Bg) (b1:Bg) (r2:List Qw):Option R:=
 bif decide (v9 < nI r2.length) then bif decide (0≤v9) then bif decide (v9 < nI r2.length) then (Aio b0 (r2.getD v9.toNat (0,[],0,[],()))).bind fun val=>bif decide (0≤v9) then bif decide (v9 < nI r2.length) then (Aih b1 (r2.getD v9.toNat (0,[],0,[],()))).bind fun val_1=>(Uf val.1.1 val_1.1.1).bind fun val_2=>bif !val_2.1.1 then X1 (false,()) else bif !Gt val.1.1 then X1 (false,()) else bif !(Of val.1.1).toList==(T4 val_1.1.1).toList then X1 (false,()) else bif !(Of val.1.1).toList==(Ad).toList then X1 ((Ai (Of val.1.1) val.1.1.1).2,()) else bif (Jl val.1.1).2 != 0 then X1 (false,()) else bif !Xs val.1.1 then X1 (false,()) else (Lc val.1.1.2.2.2.2.1 (Jl val.1.1).1).bind fun val_3=>bif !val_3.1.1 then X1 (false,()) else bif val.1.1.2.2.1 then bif decide (0≤IntKind.i64.wrap (nI (List.length val.1.1.2.2.2.2.1) - 1)) then bif decide (IntKind.i64.wrap (nI (List.length val.1.1.2.2.2.2.1) - 1) < nI (List.length val.1.1.2.2.2.2.1)) then ((E0 (List.getD val.1.1.2.2.2.2.1 (IntKind.i64.wrap (nI (List.length val.1.1.2.2.2.2.1) - 1)).toNat ([],())) val.1.1.2.2.2.1.2.2.2.2.2.2.1).bind fun val=>some ((val,()),())).bind fun val_4=>bif !val_4.1.1 then X1 (false,()) else bif v9==IntKind.i64.wrap (nI r2.length - 1) then bif !val.1.1.2.2.1 then X1 (false,()) else (Lc b1.2.2.2.2.1 val.1.1.2.2.2.1.2.2.2.2.2.2.1).bind fun val_5=>bif !val_5.1.1 then X1 (false,()) else NX (IntKind.i64.wrap (v9 + 1),val.1.1,val_1.1.1,r2,()) else NX (IntKind.i64.wrap (v9 + 1),val.1.1,val_1.1.1,r2,()) else none else none else bif v9==IntKind.i64.wrap (nI r2.length - 1) then bif !val.1.1.2.2.1 then X1 (false,()) else (Lc b1.2.2.2.2.1 val.1.1.2.2.2.1.2.2.2.2.2.2.1).bind fun val_4=>bif !val_4.1.1 then X1 (false,()) else NX (IntKind.i64.wrap (v9 + 1),val.1.1,val_1.1.1,r2,()) else NX (IntKind.i64.wrap (v9 + 1),val.1.1,val_1.1.1,r2,()) else none else none else none else none else X2 PUnit.unit
def Gb:Nat→(Int)→Bg→Bg→(List Qw) →  Option ((Unit) ⊕ ((Bool)×Unit))
 | 0,_,_,_,_=>none
 | m + 1,v9,b0,b1,r2=>P9  (fun d=>Gb m d.1 d.2.1 d.2.2.1 d.2.2.2.1) (fun d=>some (.inl (d))) (fun d=>some (.inr (d))) v9 b0 b1 r2
def A20 (d:(Int)×Bg×Bg×(List Qw)×Unit):Option ((Unit) ⊕ ((Bool)×Unit)):=(u4 Ae) (Gb ((u4 Ae) Th d)) d
def Zo (a0 a1:List Int):Option ((((Bool)×Unit)×(Unit))):=
 bif decide (nI a0.length > 1048576) then some ((true,()),()) else bif decide (nI a1.length > 1048576) then some ((true,()),()) else (Ud a0).bind fun val=>bif !val.1.2.1 then some ((false,()),()) else (Ly (nI (List.length val.1.1.2.1.1)) val.1.1.1).bind fun val_1=>(N9 a1).bind fun val_2=>bif decide ((List.length val_2.1.1 + 2) * 64≤140737488355328) then ((fun d=>Gb (Th d.1 d.2.1 d.2.2.1 d.2.2.2.1) d.1 d.2.1 d.2.2.1 d.2.2.2.1) (0,val.1.1,val_1.1.1,val_2.1.1++[(5,[],0,[],()),(1,[],-1,[],())],())).bind fun val=>Bx (fun d=>some ((true,()),())) (fun d=>some (d,())) val else none
def Aue:SD:=⟨Bd0,fun x=>Zo x.1 x.2.1⟩
theorem Buh {n:Nat} {wd:Int} (n8:8≤n) (n40:n≤40) (ev:List Qw) (hl:2≤ev.length) (hL:ev.length≤37) (ep:ev.getD (ev.length - 2) (0,[],0,[],())=(5,[],0,[],())) (eo:ev.getD (ev.length - 1) (0,[],0,[],())=(1,[],-1,[],())):
  ∀ (k m i:Nat) (x:Bg),i + k=ev.length→k < m→Fb i wd n x→(i + 1=ev.length→x.2.2.1=false)→As (Gb m i x x ev) fun q=>q=.inl ()∨q=.inr (true,()):=by
 intro k
 induction k with
 | zero=>
  intro m i x hi hm hx _
  cases m with
  | zero=>omega
  | succ m=>
   simp only [Gb,P9]
   exact As.no (Bd (by simp only [nI]; omega)) (As.some (.inl rfl))
 | succ k ih=>
  intro m i x hi hm hx hup
  cases m with
  | zero=>omega
  | succ m=>
   have hh:=Oq n8 (show n≤200 by omega)
   have h19:hN n≤19:=by unfold hN; omega
   have hBn:(i + 1) * (hN n + 1)≤2000:=Nat.le_trans (Nat.mul_le_mul (show i + 1≤37 by omega) (show hN n + 1≤20 by omega)) (by decide)
   have d1:decide ((i:Int) < nI ev.length)=true:=Ag (by simp only [nI]; omega)
   have e1:IntKind.i64.wrap ((i:Int) + 1)=((i + 1:Nat):Int):=wI (by omega)
   have e2:IntKind.i64.wrap (nI ev.length - 1)=((ev.length - 1:Nat):Int):=by simp only [nI]; rw [Aj (by omega) (by omega)]; omega
   have hv:=hx.valid
   have hlen:=hx.len
   simp only [Gb,P9,d1,G9,cond_true,e1,e2,En]
   have hst:=hx.step (by omega) (ev.getD i (0,[],0,[],()))
   have hlast:i + 1=ev.length→(doS x (ev.getD i (0,[],0,[],()))).2.2.1=true∧(doS x (ev.getD i (0,[],0,[],()))).2.2.2.1.2.2.2.2.2.2.1∈x.2.2.2.2.1:=fun q=>by
    rw [show i=ev.length - 1 by omega,eo]
    exact hx.opened (hup q) (by omega) hBn []
   have hnext:i + 1 + 1=ev.length→(doS x (ev.getD i (0,[],0,[],()))).2.2.1=false:=fun q=>by
    rw [show i=ev.length - 2 by omega,ep]
    exact (Bre x [] 0 []).1
   generalize hx':doS x (ev.getD i (0,[],0,[],()))=x' at hst hlast hnext
   obtain ⟨hv',hk'⟩:=hst
   have hl':=A04 hv'
   refine As.bind (Bx3 hv (by omega) _) fun q hq=>?_
   obtain ⟨⟨q,⟨⟩⟩,⟨⟩⟩:=q
   have hq:q=x':=hq.trans hx'
   subst hq
   refine As.bind (Bx2 hv (by omega) _) fun y hy=>?_
   obtain ⟨⟨y,⟨⟩⟩,⟨⟩⟩:=y
   have hy:y=q:=hy.trans hx'
   subst hy
   dsimp only
   refine As.bind (Brl hl') fun z hz=>As.no (by rw [hz]; rfl) ?_
   have f1:Gt y=Bf y:=rfl
   have f2:Of y=M2 y:=rfl
   have f3:T4 y=M2 y:=rfl
   have f4:Jl y=L7 y:=rfl
   have f5:Xs y=A9c y:=rfl
   have f6:Ai (M2 y) y.1=Av (M2 y) y.1:=rfl
   rw [f1,f2,f3,f4,f5,f6,hv']
   refine As.no rfl (As.no (by simp) (As.cond (fun c=>As.some (.inr ?_)) fun c=>?_))
   ·have:M2 y≠z0:=fun g=>by
     rw [g] at c
     have c:(!(z0.toList==z0.toList))=true:=c
     simp at c
    rw [Bhn hv' this]
   ·have hz:M2 y=z0:=by
     have c:(!((M2 y).toList==z0.toList))=false:=c
     exact Bj1 (by simpa using c)
    have hk:=hk' hz
    obtain ⟨s,hs1,hs2⟩:=hk.found
    have hp1:=hk.past1
    rw [hs2,hk.right]
    refine As.no rfl (As.no rfl (As.bind (Bf4 hl'.2.2.2.1 hl'.2.2.2.2.1 hs1) fun z hz=>As.no (by rw [hz]; rfl) ?_))
    have rec_:=ih m (i + 1) y (by omega) (by omega) hk (fun q=>hnext q)
    have e3:IntKind.i64.wrap (nI (List.length y.2.2.2.2.1) - 1)=((y.2.2.2.2.1.length - 1:Nat):Int):=by simp only [nI]; rw [Aj (by omega) (by omega)]; omega
    rw [e3]
    have tail:As (bif ((i:Nat):Int)==((ev.length - 1:Nat):Int) then bif !y.2.2.1 then some (.inr (false,())) else (Lc x.2.2.2.2.1 y.2.2.2.1.2.2.2.2.2.2.1).bind fun val=>bif !val.1.1 then some (.inr (false,())) else Gb m ((i + 1:Nat):Int) y y ev else Gb m ((i + 1:Nat):Int) y y ev) fun q=>q=.inl ()∨q=.inr (true,()):=by
     refine As.cond (fun c=>?_) fun _=>rec_
     have c:=beq_iff_eq.1 c
     obtain ⟨g1,g2⟩:=hlast (by omega)
     rw [g1]
     have hxl:=A04 hv
     exact As.no rfl (As.bind (Bf4 hxl.2.2.2.1 hxl.2.2.2.2.1 g2) fun z hz=>As.no (by rw [hz]; rfl) rec_)
    refine As.cond (fun hu=>?_) fun _=>tail
    refine As.go (Ag (by omega)) (As.go (Ag (by simp only [nI]; omega)) ?_)
    obtain ⟨pre,hpre⟩:=hk.last hu
    have eg:List.getD y.2.2.2.2.1 (y.2.2.2.2.1.length - 1) ([],())=y.2.2.2.1.2.2.2.2.2.2.1:=by
     rw [hpre]
     simp [List.getD]
    rw [En,eg,A4g hl'.2.2.1]
    exact tail
theorem Brm (a0 a1:List Int) (h0:Agp (.sl (.int .u8)) a0) (h1:Agp (.sl (.int .u8)) a1):Zo a0 a1=some ((true,()),()):=by
 apply As.law
 unfold Zo
 refine As.cond (fun _=>As.some rfl) fun _=>As.cond (fun _=>As.some rfl) fun _=>?_
 refine As.bind (Buf a0 h0) fun q hq=>?_
 obtain ⟨hb,n,wd,n8,n40,hw,e⟩:=hq
 refine As.no (by rw [hb]; rfl) ?_
 have hi:Bw (n:Int) 8 200=true:=by unfold Bw; rw [Ag (by omega),Ag (by omega)]; rfl
 rw [e]
 have hl:(A9g n wd).2.1.1.length=n:=(A66 hi).2.trans (by simp)
 refine As.bind (Q:=fun z=>z.1.1=A9g n wd) ⟨_,by rw [hl]; exact Bud hi hw,rfl⟩ fun z hz=>?_
 refine As.bind (Brj a1 h1) fun y hy=>?_
 rw [hz]
 refine As.go (Ag (by omega)) ?_
 have hlen:(y.1.1++[(5,[],0,[],()),(1,[],-1,[],())]:List Qw).length=y.1.1.length + 2:=by rw [Ef]; rfl
 refine As.bind (Buh (wd:=wd) n8 n40 (y.1.1++[(5,[],0,[],()),(1,[],-1,[],())]) (by omega) (by omega) (by rw [hlen]; simp [List.getD]) (by rw [hlen]; simp [List.getD]) (y.1.1.length + 2) _ 0 (A9g n wd) (by omega) (by simp only [Th]; omega) (Brf n n8 (by omega) hw) (fun q=>rfl)) fun q hq=>?_
 rcases hq with rfl | rfl
 ·exact As.some rfl
 ·exact As.some rfl
def Ai1 {R:Type} (k:Kt R):=(Bx (I3 (Om 11) (.exit 0) 2 k) (I3 (Om 11) .ret 1 k))
def Az7 {R:Type}:Lt R Om:=(Ea (pat:=Om) 11 (fun d k=>(A20 d).bind (Ai1 k)) Hn)
theorem Auf:A2 Tryz.prog Aud:=A5 ⟨A92,Bah,U9,Atc,W7,Bn0,Bn3,Bbz,Zd,Awc,Bb5,S3,Bdz,Bb7,trivial⟩
theorem A21 {R:Type}:A4 Tryz.prog R 144 0 Om Az7 Ai0:=
 B8 (cfg:=⟨Aud,0,144,Om⟩) 11 [] (fun NX X d=>(u4 Ae) (P9  NX (fun e=>X (.inl (e))) (fun e=>X (.inr (e)))) d) (fun m d=>(u4 Ae) (Gb m) d) (fun d=>(u4 Ae) Th d) Ai1 Auf trivial (fun f NX d=>by simp only [u4,Ac,Ae]; unfold P9; simp only [nb])
theorem Bd1:Bs Tryz.prog 7 Aue:=
 A3 (pat:=Om) [Ai0] Az7 Auf ⟨A21,trivial⟩ Tryz.func7 (de:=fun x=>Zo x.1 x.2.1) (fun x r h=>h) fun _=>by kernel_rfl
end Go.Proofs.YtfkefgbihlfjmaaGreat.V
end
