/- What the functions that FnCrowded reaches come to: part 1. No condition. -/
import Derived.Test.YtfkefgbihlfjmaaGreatRCode
import Derived.Test.YtfkefgbihlfjmaaGreatProg
import Derived.Test.YtfkefgbihlfjmaaGreatQG
import Derived.KernelRfl
noncomputable section
set_option linter.unusedVariables false
set_option linter.unusedSimpArgs false
namespace Go.Proofs.YtfkefgbihlfjmaaGreat.V
open Go Go.Proofs.YtfkefgbihlfjmaaGreat.R Go.Proofs
set_option maxRecDepth 100000
def A3 (n:Int):Int:=Al n
def A4g:Hh:=⟨[.rd tI],[none],[.rd tI],[none]⟩
def Nw:SD:=⟨A4g,fun x=>some (((A3 x.1),()),(()))⟩
def k7 (a0:Int):Option ((((Int)×Unit)×(Unit))):=
 bif decide (a0 < 8) then some ((0,()),()) else bif decide (a0 > 200) then some ((0,()),()) else some ((IntKind.i64.wrap ((IntKind.i64.wrap (a0 - 2)).tdiv 2),()),())
theorem A4h (a0:Int):k7 a0=some (((A3 a0),()),(())):=by
 unfold k7 A3 Al
 rw [A3g]
 cases h:Bq a0 8 200 with
 | false=>rfl
 | true=>
  obtain ⟨h1,h2⟩:=Cw h
  rw [Ayi h1 h2]
  rfl
theorem Qh:B8 Tryz.prog 40 Nw:=
 A7 (pat:=Ei) [] Ik (Bb (l:=[]) trivial) trivial Tryz.func40 (de:=fun x=>k7 x.1) (fun x r h=>(A4h x.1).trans h) fun _=>by kernel_rfl
def Qi (k:Aa):Bool:=Tk k
def Azo:Hh:=⟨[.rd .str],[none],[.rd .bool],[none]⟩
def Yk:SD:=⟨Azo,fun x=>some (((Qi x.1),()),(()))⟩
def Yl (a0:Aa):Option ((((Bool)×Unit)×(Unit))):=
 bif decide (nI a0.size≥1) then some ((decide (nI a0.size≤20),()),()) else some ((false,()),())
theorem Azp (a0:Aa):Yl a0=some ((Qi a0,()),()):=by
 unfold Yl Qi Tk Bq
 by_cases h:(a0.size:Int)≥1
 ·have:decide ((1:Int)≤(a0.size:Int))=true:=by simpa using h
  simp [nI,this]
 ·have h':¬ (1:Int)≤(a0.size:Int):=h
  simp [nI,h']
theorem Ahd:B8 Tryz.prog 158 Yk:=
 A7 (pat:=Ei) [] Ik (Bb (l:=[]) trivial) trivial Tryz.func158 (de:=fun x=>Yl x.1) (fun x r h=>(Azp x.1).trans h) fun _=>by kernel_rfl
def Jo (b:List Bc):Bool:=Az b
def Aqp:Hh:=⟨[.rd (.sl Dr)],[none],[.rd .bool],[none]⟩
def Ov:SD:=⟨Aqp,fun x=>some (((Jo x.1),()),(()))⟩
def k8:Tb:=tb [(158,Yk)]
def Gt:Nat→Dq×(Nat→Dq):=Hk [(5,⟨[.sl 0 0 Dr],[(0,.lf (.d (.sl Dr))),(3,.lf (.d tI))],[]⟩,[(2,p0),(1,⟨[],[(2,.lf (.d .bool))],[]⟩)])]
def Xs:Code:=(Ax (Bm Tryz.f122)).getD 0 .skip
def I9 (v0:List Bc) (v3:Int):Nat:=((v0.length:Int) - v3).toNat + 1
def Ja {R:Type}  (NX:((List Bc)×(Int)×Unit)→Option R) (X2:(Unit)→Option R) (X1:((Bool)×Unit)→Option R) (v0:List Bc) (v3:Int):Option R:=
 bif decide (v3 < nI v0.length) then bif decide (0≤v3) then bif decide (v3 < nI v0.length) then bif !Qi (v0.getD v3.toNat (Ad,Ad,false,())).1 then X1 (false,()) else bif decide (0≤v3) then bif decide (v3 < nI v0.length) then bif decide (nI (ByteArray.size (v0.getD v3.toNat (Ad,Ad,false,())).2.1) > 100) then X1 (false,()) else bif decide (0≤v3) then bif decide (v3 < nI v0.length) then bif (v0.getD v3.toNat (Ad,Ad,false,())).2.2.1 then bif decide (0≤v3) then bif decide (v3 < nI v0.length) then bif !ByteArray.toList (v0.getD v3.toNat (Ad,Ad,false,())).2.1==(Ad).toList then X1 (false,()) else NX (v0,IntKind.i64.wrap (v3 + 1),()) else none else none else NX (v0,IntKind.i64.wrap (v3 + 1),()) else none else none else none else none else none else none else X2 PUnit.unit
def Dd:Nat→(List Bc)→(Int) →  Option ((Unit) ⊕ ((Bool)×Unit))
 | 0,_,_=>none
 | m + 1,v0,v3=>Ja  (fun d=>Dd m d.1 d.2.1) (fun d=>some (.inl (d))) (fun d=>some (.inr (d))) v0 v3
def Aj6 (d:(List Bc)×(Int)×Unit):Option ((Unit) ⊕ ((Bool)×Unit)):=(Ac (Ac Ah)) (Dd ((Ac (Ac Ah)) I9 d)) d
def Su (a0:List Bc):Option ((((Bool)×Unit)×(Unit))):=
 bif decide (nI a0.length < 1) then some ((false,()),()) else bif decide (nI a0.length > 20) then some ((false,()),()) else ((fun d=>Dd (I9 d.1 d.2.1) d.1 d.2.1) (a0,0,())).bind fun val=>Cy (fun d=>some ((true,()),())) (fun d=>some (d,())) val
theorem Aqq (a0:List Bc):Su a0=some (((Jo a0),()),(())):=by
 unfold Su Jo Az
 have tl:ByteArray.toList (Ad)=[]:=by decide +kernel
 rw [A3g (nI (List.length a0))]
 show (bif Bq (a0.length:Int) 1 20 then _ else _)=_
 cases hin:Bq (a0.length:Int) 1 20 with
 | false=>rfl
 | true=>
  have hlen:a0.length≤20:=by have:=(Cw hin).2; omega
  have hL:=Ns (n:=a0.length) (fun i=>Ro (a0.getD i zC)) (g:=fun m i=>Dd m a0 i) (ok:=.inl ()) (bad:=.inr (false,())) (fun m i hi=>by
   show Dd (m + 1) a0 i=_
   simp only [Dd,Ja]
   rw [tl,cLt hi,J1,wI (show i < 4611686018427387904 by omega),Fz]
   have g1:decide (nI (ByteArray.size (List.getD a0 i (Ad,Ad,false,())).2.1) > 100)=!decide ((a0.getD i zC).2.1.size≤100):=Ajw _ 100
   rw [g1]
   show (bif !Tk (a0.getD i zC).1 then _ else (bif _ then _ else (bif (a0.getD i zC).2.2.1 then (bif !((a0.getD i zC).2.1.toList==[]) then _ else _) else _)))=_
   unfold Ro
   cases Tk (a0.getD i zC).1<;>cases decide ((a0.getD i zC).2.1.size≤100)<;>cases (a0.getD i zC).2.2.1<;>cases ((a0.getD i zC).2.1.toList==[])<;>rfl) (fun m=>by
   show Dd (m + 1) a0 (a0.length:Int)=_
   simp only [Dd,Ja]
   rw [Qd]
   rfl) (I9 a0 0) 0 (by omega) (by simp [I9,nI])
  refine bi_ hL ?_
  rw [Nat.sub_zero]
  cases (List.range' 0 a0.length).all (fun i=>Ro (a0.getD i zC))<;>rfl
def Xt {R:Type} (k:Kt R):=(Cy (L7 (Gt 5) (.exit 0) 2 k) (L7 (Gt 5) .ret 1 k))
def Aba {R:Type}:Lt R Gt:=(Fp (pat:=Gt) 5 (fun d k=>(Aj6 d).bind (Xt k)) Ik)
theorem k9:A5 Tryz.prog k8:=Bb ⟨Ahd,trivial⟩
theorem Aj7 {R:Type}:Ba Tryz.prog R 49 0 Gt Aba Xs:=
 Cn (cfg:=⟨k8,0,49,Gt⟩) 5 [] (fun NX X d=>(Ac (Ac Ah)) (Ja  NX (fun e=>X (.inl (e))) (fun e=>X (.inr (e)))) d) (fun m d=>(Ac (Ac Ah)) (Dd m) d) (fun d=>(Ac (Ac Ah)) I9 d) Xt k9 trivial (fun f NX d=>by simp only [u4,Ac,Ah]; unfold Ja; simp only [nb])
theorem Sv:B8 Tryz.prog 122 Ov:=
 A7 (pat:=Gt) [Xs] Aba k9 ⟨Aj7,trivial⟩ Tryz.func122 (de:=fun x=>Su x.1) (fun x r h=>(Aqq x.1).trans h) fun _=>by kernel_rfl
def Er (b:List Bc):Aa:=Be b
def As5:Hh:=⟨[.rd (.sl Dr)],[none],[.rd .str],[none]⟩
def Mu:SD:=⟨As5,fun x=>some (((Er x.1),()),(()))⟩
def Abb:Tb:=tb [(122,Ov)]
def Jp:Nat→Dq×(Nat→Dq):=Hk [(6,⟨[.sl 0 0 Dr,.row 3 0 5 (.int .u8)],[(0,.lf (.d (.sl Dr))),(3,.lf (.row 0)),(4,.lf (.d tI))],[.row 5 (.int .u8)]⟩,[(2,⟨[.row 3 0 5 (.int .u8)],[(3,.lf (.row 0))],[.row 5 (.int .u8)]⟩)])]
def Y2:Code:=(Ax (Bm Tryz.f125)).getD 0 .skip
def J6 (v0:List Bc) (v4:Int) (r0:List Int):Nat:=((v0.length:Int) - v4).toNat + 1
def J7 {R:Type}  (NX:((List Bc)×(Int)×(List Int)×Unit)→Option R) (X2:((List Int)×Unit)→Option R) (v0:List Bc) (v4:Int) (r0:List Int):Option R:=
 bif decide (v4 < nI v0.length) then bif decide (0≤v4) then bif decide (v4 < nI v0.length) then bif (v0.getD v4.toNat (Ad,Ad,false,())).2.2.1 then bif decide (0≤v4) then bif decide (v4 < nI v0.length) then bif decide ((r0.length + [1,IntKind.u8.wrap (nI (ByteArray.size (v0.getD v4.toNat (Ad,Ad,false,())).1))].length) * 1≤140737488355328) then bif decide (0≤v4) then bif decide (v4 < nI v0.length) then bif decide ((r0++[1,IntKind.u8.wrap (nI (ByteArray.size (v0.getD v4.toNat (Ad,Ad,false,())).1))]).length + ByteArray.size (v0.getD v4.toNat (Ad,Ad,false,())).1≤140737488355328) then NX (v0,IntKind.i64.wrap (v4 + 1),r0++[1,IntKind.u8.wrap (nI (ByteArray.size (v0.getD v4.toNat (Ad,Ad,false,())).1))]++Ae (v0.getD v4.toNat (Ad,Ad,false,())).1,()) else none else none else none else none else none else none else bif decide (0≤v4) then bif decide (v4 < nI v0.length) then bif decide ((r0.length + [0,IntKind.u8.wrap (nI (ByteArray.size (v0.getD v4.toNat (Ad,Ad,false,())).1))].length) * 1≤140737488355328) then bif decide (0≤v4) then bif decide (v4 < nI v0.length) then bif decide ((r0++[0,IntKind.u8.wrap (nI (ByteArray.size (v0.getD v4.toNat (Ad,Ad,false,())).1))]).length + ByteArray.size (v0.getD v4.toNat (Ad,Ad,false,())).1≤140737488355328) then bif decide (0≤v4) then bif decide (v4 < nI v0.length) then bif decide (((r0++[0,IntKind.u8.wrap (nI (ByteArray.size (v0.getD v4.toNat (Ad,Ad,false,())).1))]++Ae (v0.getD v4.toNat (Ad,Ad,false,())).1).length + [IntKind.u8.wrap (nI (ByteArray.size (v0.getD v4.toNat (Ad,Ad,false,())).2.1))].length) * 1≤140737488355328) then bif decide (0≤v4) then bif decide (v4 < nI v0.length) then bif decide ((r0++[0,IntKind.u8.wrap (nI (ByteArray.size (v0.getD v4.toNat (Ad,Ad,false,())).1))]++Ae (v0.getD v4.toNat (Ad,Ad,false,())).1++[IntKind.u8.wrap (nI (ByteArray.size (v0.getD v4.toNat (Ad,Ad,false,())).2.1))]).length + ByteArray.size (v0.getD v4.toNat (Ad,Ad,false,())).2.1≤140737488355328) then NX (v0,IntKind.i64.wrap (v4 + 1),r0++[0,IntKind.u8.wrap (nI (ByteArray.size (v0.getD v4.toNat (Ad,Ad,false,())).1))]++Ae (v0.getD v4.toNat (Ad,Ad,false,())).1++[IntKind.u8.wrap (nI (ByteArray.size (v0.getD v4.toNat (Ad,Ad,false,())).2.1))]++Ae (v0.getD v4.toNat (Ad,Ad,false,())).2.1,()) else none else none else none else none else none else none else none else none else none else none else none else none else none else none else X2 (r0,())
def Du:Nat→(List Bc)→(Int)→(List Int) →  Option ((List Int)×Unit)
 | 0,_,_,_=>none
 | m + 1,v0,v4,r0=>J7  (fun d=>Du m d.1 d.2.1 d.2.2.1) (fun d=>some (d)) v0 v4 r0
def Anp (d:(List Bc)×(Int)×(List Int)×Unit):Option ((List Int)×Unit):=(Ac (Ac (Ac Ah))) (Du ((Ac (Ac (Ac Ah))) J6 d)) d
def Ug (a0:List Bc):Option ((((Aa)×Unit)×(Unit))):=
 bif !Jo a0 then some ((Ad,()),()) else ((fun d=>Du (J6 d.1 d.2.1 d.2.2.1) d.1 d.2.1 d.2.2.1) (a0,0,[],())).bind fun val=>some ((strOfNums val.1,()),())
theorem As6 (a0:List Bc):Ug a0=some ((Er a0,()),(())):=by
 unfold Ug Er Be
 show (bif !Az a0 then _ else _)=_
 cases hv:Az a0 with
 | false=>rfl
 | true=>
  obtain ⟨hlen,hok⟩:=Xe hv
  have hL:=Am2 a0.length A3i (fun i r=>r++Z3 (a0.getD i zC)) (g:=fun m i r=>Du m a0 i r) (ok:=fun r=>(r,())) (fun m i r hi hr=>by
   show Du (m + 1) a0 i r=_
   simp only [Du,J7]
   have hc:=hok i hi
   obtain ⟨k1,k2,k3⟩:=Am3 hc
   rw [cLt hi,J1,wI (show i < 4611686018427387904 by omega),Fz]
   have hr1:=hr.1
   have eC:List.getD a0 i (Ad,Ad,false,())=a0.getD i zC:=rfl
   rw [eC]
   generalize a0.getD i zC=c at *
   rw [Bqt _ (show c.1.size < 256 by omega),Bqt _ (show c.2.1.size < 256 by omega)]
   simp only [Dn,List.length_cons,List.length_nil,Ep]
   rw [Af (show (r.length + (0 + 1 + 1)) * 1≤140737488355328 by omega),Af (show r.length + (0 + 1 + 1) + c.1.size≤140737488355328 by omega),Af (show (r.length + (0 + 1 + 1) + c.1.size + (0 + 1)) * 1≤140737488355328 by omega),Af (show r.length + (0 + 1 + 1) + c.1.size + (0 + 1) + c.2.1.size≤140737488355328 by omega)]
   unfold Z3
   simp only [cond_true]
   cases c.2.2.1<;>simp only [cond_true,cond_false,List.append_assoc]) (fun m r _=>by
   show Du (m + 1) a0 (a0.length:Int) r=_
   simp only [Du,J7]
   rw [Qd]
   rfl) (fun i r hi hr=>hr.step (hok i hi)) a0.length (J6 a0 0 []) 0 [] (by omega) (by simp [J6,nI]) ⟨by simp,rfl⟩
  rw [A3h Z3 zC a0 a0.length 0 [] (by omega),List.nil_append,List.drop_zero] at hL
  refine bi_ hL ?_
  rfl
def Y3 {R:Type} (k:Kt R):=(L7 (Jp 6) (.exit 0) 2 k)
def Aea {R:Type}:Lt R Jp:=(Fp (pat:=Jp) 6 (fun d k=>(Anp d).bind (Y3 k)) Ik)
theorem Abc:A5 Tryz.prog Abb:=Bb ⟨Sv,trivial⟩
theorem Anq {R:Type}:Ba Tryz.prog R 70 0 Jp Aea Y2:=
 Cn (cfg:=⟨Abb,0,70,Jp⟩) 6 [] (fun NX X d=>(Ac (Ac (Ac Ah))) (J7  NX X) d) (fun m d=>(Ac (Ac (Ac Ah))) (Du m) d) (fun d=>(Ac (Ac (Ac Ah))) J6 d) Y3 Abc trivial (fun f NX d=>by simp only [u4,Ac,Ah]; unfold J7; simp only [nb])
theorem P0:B8 Tryz.prog 125 Mu:=
 A7 (pat:=Jp) [Y2] Aea Abc ⟨Anq,trivial⟩ Tryz.func125 (de:=fun x=>Ug x.1) (fun x r h=>(As6 x.1).trans h) fun _=>by kernel_rfl
def Gb (s:Cv):Bool:=Ak s
def Aqr:Hh:=⟨[.rd F0],[some 1],[.rd .bool],[none]⟩
def Lc:SD:=⟨Aqr,fun x=>some (((Gb x.1),()),(()))⟩
def l3:Tb:=tb [(158,Yk)]
def Gu:Nat→Dq×(Nat→Dq):=Hk [(5,⟨[.boxSl 1 0 A1],[(1,.lf (.ptr 0 0)),(3,.lf (.d tI))],[.box 31 [.d (.sl A1)]]⟩,[(2,p0),(1,⟨[],[(2,.lf (.d .bool))],[]⟩)])]
def Xu:Code:=(Ax (Bm Tryz.f69)).getD 0 .skip
def E8 (v3:Int) (b0_0:List A2):Nat:=((b0_0.length:Int) - v3).toNat + 1
def Jb {R:Type}  (NX:((Int)×(List A2)×Unit)→Option R) (X2:(Unit)→Option R) (X1:((Bool)×Unit)→Option R) (v3:Int) (b0_0:List A2):Option R:=
 bif decide (v3 < nI b0_0.length) then bif decide (0≤v3) then bif decide (v3 < nI b0_0.length) then bif !Qi (b0_0.getD v3.toNat (Ad,Ad,())).1 then X1 (false,()) else bif decide (0≤v3) then bif decide (v3 < nI b0_0.length) then bif decide (nI (ByteArray.size (b0_0.getD v3.toNat (Ad,Ad,())).2.1) > 100) then X1 (false,()) else bif decide (v3 > 0) then bif decide (0≤IntKind.i64.wrap (v3 - 1)) then bif decide (IntKind.i64.wrap (v3 - 1) < nI b0_0.length) then bif decide (0≤v3) then bif decide (v3 < nI b0_0.length) then bif !Op.bytesLess (ByteArray.toList (b0_0.getD (IntKind.i64.wrap (v3 - 1)).toNat (Ad,Ad,())).1) (ByteArray.toList (b0_0.getD v3.toNat (Ad,Ad,())).1) then X1 (false,()) else NX (IntKind.i64.wrap (v3 + 1),b0_0,()) else none else none else none else none else NX (IntKind.i64.wrap (v3 + 1),b0_0,()) else none else none else none else none else X2 PUnit.unit
def Cj:Nat→(Int)→(List A2) →  Option ((Unit) ⊕ ((Bool)×Unit))
 | 0,_,_=>none
 | m + 1,v3,b0_0=>Jb  (fun d=>Cj m d.1 d.2.1) (fun d=>some (.inl (d))) (fun d=>some (.inr (d))) v3 b0_0
def Aj8 (d:(Int)×(List A2)×Unit):Option ((Unit) ⊕ ((Bool)×Unit)):=(Ac (Ac Ah)) (Cj ((Ac (Ac Ah)) E8 d)) d
def Sw (a0:Cv):Option ((((Bool)×Unit)×(Unit))):=
 bif decide (nI (List.length a0.1) > 100) then some ((false,()),()) else ((fun d=>Cj (E8 d.1 d.2.1) d.1 d.2.1) (0,a0)).bind fun val=>Cy (fun d=>some ((true,()),())) (fun d=>some (d,())) val
theorem Aqs (a0:Cv):Sw a0=some ((Gb a0,()),()):=by
 unfold Sw Gb Ak
 have c1:decide (nI a0.1.length > 100)=!decide (a0.1.length≤100):=Ajw _ 100
 by_cases hl:a0.1.length≤100
 ·have hL:=Ns (n:=a0.1.length) (Pa a0.1) (g:=fun m i=>Cj m i a0.1) (ok:=.inl ()) (bad:=.inr (false,())) (fun m i hi=>by
   show Cj (m + 1) i a0.1=_
   simp only [Cj,Jb]
   have g1:decide (nI (ByteArray.size (List.getD a0.1 i (Ad,Ad,())).2.1) > 100)=!decide (ByteArray.size (List.getD a0.1 i zP).2.1≤100):=Ajw _ 100
   rw [cLt hi,J1,wI (show i < 4611686018427387904 by omega),Fz,gt0,g1]
   simp only [cond_true]
   unfold Pa bl
   show (bif !Tk (List.getD a0.1 i zP).1 then _ else _)=_
   cases i with
   | zero=>
    show (bif !Tk (List.getD a0.1 0 zP).1 then _ else bif !decide (ByteArray.size (List.getD a0.1 0 zP).2.1≤100) then _ else _)=_
    cases Tk (List.getD a0.1 0 zP).1<;>cases decide (ByteArray.size (List.getD a0.1 0 zP).2.1≤100)<;>rfl
   | succ j=>
    rw [wP j (by omega),J1,cLt (show j < a0.1.length by omega)]
    show (bif !Tk (List.getD a0.1 (j + 1) zP).1 then _ else bif !decide (ByteArray.size (List.getD a0.1 (j + 1) zP).2.1≤100) then _ else bif !Op.bytesLess (ByteArray.toList (List.getD a0.1 j zP).1) (ByteArray.toList (List.getD a0.1 (j + 1) zP).1) then _ else _)=_
    rw [Nat.add_sub_cancel]
    cases Tk (List.getD a0.1 (j + 1) zP).1<;>cases decide (ByteArray.size (List.getD a0.1 (j + 1) zP).2.1≤100)<;>cases Op.bytesLess (ByteArray.toList (List.getD a0.1 j zP).1) (ByteArray.toList (List.getD a0.1 (j + 1) zP).1)<;>rfl) (fun m=>by
   show Cj (m + 1) (a0.1.length:Int) a0.1=_
   simp only [Cj,Jb]
   rw [Qd]
   rfl) (E8 0 a0.1) 0 (by omega) (by simp [E8,nI])
  have hL':Cj (E8 0 a0.1) 0 a0.1=_:=hL
  rw [c1,Af hl]
  show (Cj (E8 0 a0.1) 0 a0.1).bind _=_
  rw [hL']
  cases (List.range' 0 (a0.1.length - 0)).all (Pa a0.1)<;>rfl
 ·rw [c1,Bd hl]
  rfl
def Xv {R:Type} (k:Kt R):=(Cy (L7 (Gu 5) (.exit 0) 2 k) (L7 (Gu 5) .ret 1 k))
def Abd {R:Type}:Lt R Gu:=(Fp (pat:=Gu) 5 (fun d k=>(Aj8 d).bind (Xv k)) Ik)
theorem l4:A5 Tryz.prog l3:=Bb ⟨Ahd,trivial⟩
theorem Aj9 {R:Type}:Ba Tryz.prog R 53 0 Gu Abd Xu:=
 Cn (cfg:=⟨l3,0,53,Gu⟩) 5 [] (fun NX X d=>(Ac (Ac Ah)) (Jb  NX (fun e=>X (.inl (e))) (fun e=>X (.inr (e)))) d) (fun m d=>(Ac (Ac Ah)) (Cj m) d) (fun d=>(Ac (Ac Ah)) E8 d) Xv l4 trivial (fun f NX d=>by simp only [u4,Ac,Ah]; unfold Jb; simp only [nb])
theorem Ow:B8 Tryz.prog 69 Lc:=
 A7 (pat:=Gu) [Xu] Abd l4 ⟨Aj9,trivial⟩ Tryz.func69 (de:=fun x=>Sw x.1) (fun x r h=>(Aqs x.1).trans h) fun _=>by kernel_rfl
def Me (s:Cv):List (List Bc):=Ed s
def Awk:Hh:=⟨[.rd F0],[some 1],[.rd (.sl (.sl Dr))],[none]⟩
def Wg:SD:=⟨Awk,fun x=>some (((Me x.1),()),(()))⟩
def Aeb:Tb:=tb [(69,Lc)]
def Kr:Nat→Dq×(Nat→Dq):=Hk [(6,⟨[.last 3 99 Dr,.boxSl 1 0 A1],[(1,.lf (.ptr 0 0)),(3,.lf (.row 1)),(4,.lf (.d tI))],[.box 31 [.d (.sl A1)],.last 73 Dr 2,.row 99 Dr]⟩,[(2,⟨[.last 3 99 Dr],[(3,.lf (.row 0))],[.last 73 Dr 1,.row 99 Dr]⟩)])]
def l5:Code:=(Ax (Bm Tryz.f126)).getD 0 .skip
def Gv (v4:Int) (b0_0:List A2) (r1:List (List Bc)) (c1:Bool) (r2:List Bc):Nat:=((b0_0.length:Int) - v4).toNat + 1
def Ld {R:Type}  (NX:((Int)×(List A2)×(List (List Bc))×(Bool)×(List Bc)×Unit)→Option R) (X2:((List (List Bc))×(Bool)×(List Bc)×Unit)→Option R) (v4:Int) (b0_0:List A2) (r1:List (List Bc)) (c1:Bool) (r2:List Bc):Option R:=
 bif decide (v4 < nI b0_0.length) then bif v4.tmod 20==0 then bif decide ((r1.length + c1.toNat + 1) * 24≤140737488355328) then bif decide (0≤IntKind.i64.wrap (nI ((bif c1 then r1++[r2] else r1).length + true.toNat) - 1)) then bif decide (IntKind.i64.wrap (nI ((bif c1 then r1++[r2] else r1).length + true.toNat) - 1) < nI ((bif c1 then r1++[r2] else r1).length + true.toNat)) then bif decide ((IntKind.i64.wrap (nI ((bif c1 then r1++[r2] else r1).length + true.toNat) - 1)).toNat=(bif c1 then r1++[r2] else r1).length) then bif decide (0≤v4) then bif decide (v4 < nI b0_0.length) then bif decide (0≤v4) then bif decide (v4 < nI b0_0.length) then bif decide (0≤IntKind.i64.wrap (nI ((bif c1 then r1++[r2] else r1).length + true.toNat) - 1)) then bif decide (IntKind.i64.wrap (nI ((bif c1 then r1++[r2] else r1).length + true.toNat) - 1) < nI ((bif c1 then r1++[r2] else r1).length + true.toNat)) then bif decide ((IntKind.i64.wrap (nI ((bif c1 then r1++[r2] else r1).length + true.toNat) - 1)).toNat=(bif c1 then r1++[r2] else r1).length) then NX (IntKind.i64.wrap (v4 + 1),b0_0,bif c1 then r1++[r2] else r1,true,[]++[((b0_0.getD v4.toNat (Ad,Ad,())).1,(b0_0.getD v4.toNat (Ad,Ad,())).2.1,false,())],()) else none else none else none else none else none else none else none else none else none else none else none else bif decide (0≤IntKind.i64.wrap (nI (r1.length + c1.toNat) - 1)) then bif decide (IntKind.i64.wrap (nI (r1.length + c1.toNat) - 1) < nI (r1.length + c1.toNat)) then bif c1 then bif decide ((IntKind.i64.wrap (nI (r1.length + c1.toNat) - 1)).toNat=r1.length) then bif decide (0≤v4) then bif decide (v4 < nI b0_0.length) then bif decide (0≤v4) then bif decide (v4 < nI b0_0.length) then bif decide ((r2.length + [((b0_0.getD v4.toNat (Ad,Ad,())).1,(b0_0.getD v4.toNat (Ad,Ad,())).2.1,false,())].length) * 40≤140737488355328) then bif decide (0≤IntKind.i64.wrap (nI (r1.length + c1.toNat) - 1)) then bif decide (IntKind.i64.wrap (nI (r1.length + c1.toNat) - 1) < nI (r1.length + c1.toNat)) then bif c1 then bif decide ((IntKind.i64.wrap (nI (r1.length + c1.toNat) - 1)).toNat=r1.length) then NX (IntKind.i64.wrap (v4 + 1),b0_0,r1,c1,r2++[((b0_0.getD v4.toNat (Ad,Ad,())).1,(b0_0.getD v4.toNat (Ad,Ad,())).2.1,false,())],()) else none else none else none else none else none else none else none else none else none else none else none else none else none else X2 (r1,c1,r2,())
def C7:Nat→(Int)→(List A2)→(List (List Bc))→(Bool)→(List Bc) →  Option ((List (List Bc))×(Bool)×(List Bc)×Unit)
 | 0,_,_,_,_,_=>none
 | m + 1,v4,b0_0,r1,c1,r2=>Ld  (fun d=>C7 m d.1 d.2.1 d.2.2.1 d.2.2.2.1 d.2.2.2.2.1) (fun d=>some (d)) v4 b0_0 r1 c1 r2
def Aqt (d:(Int)×(List A2)×(List (List Bc))×(Bool)×(List Bc)×Unit):Option ((List (List Bc))×(Bool)×(List Bc)×Unit):=(u4 (Ac Ah)) (C7 ((u4 (Ac Ah)) Gv d)) d
def Wh (a0:Cv):Option ((((List (List Bc))×Unit)×(Unit))):=
 bif !Gb a0 then some (([],()),()) else ((fun d=>C7 (Gv d.1 d.2.1 d.2.2.1 d.2.2.2.1 d.2.2.2.2.1) d.1 d.2.1 d.2.2.1 d.2.2.2.1 d.2.2.2.2.1) (0,a0.1,[],false,[],())).bind fun val=>some ((bif val.2.1 then val.1++[val.2.2.1] else val.1,()),())
theorem Awl (a0:Cv):Wh a0=some (((Me a0),()),(())):=by
 unfold Wh Me Ed
 show (bif !Ak a0 then _ else _)=_
 cases hv:Ak a0 with
 | false=>rfl
 | true=>
  have hl:=Cb hv
  have hL:=E6 (xs:=a0.1) zP A89 Mr (g:=fun m i s=>C7 m i a0.1 s.1 s.2.1 s.2.2) (ok:=fun s=>(s.1,s.2.1,s.2.2,())) (fun m i s hi hI=>by
   show C7 (m + 1) i a0.1 s.1 s.2.1 s.2.2=_
   obtain ⟨r0,c0,r1⟩:=s
   obtain ⟨h1,h2,h3,h4⟩:=hI
   simp only at h2 h3 h4 ⊢
   simp only [C7,Ld]
   rw [cLt hi,J1,wI (show i < 4611686018427387904 by omega),Fz,Bm3]
   unfold Mr
   cases hc:(i % 20==0)
   ·have hp:0 < i:=Nat.pos_of_ne_zero fun q=>by subst q; cases hc
    have hc0:=h3 hp
    subst hc0
    have e1:=Ba1 r0.length (by omega)
    have e2:decide ((r0.length:Int) < nI (r0.length + 1))=true:=cLt (Nat.lt_succ_self _)
    have e3:decide ((r1.length + 1) * 40≤140737488355328)=true:=Af (by omega)
    simp only [Bool.toNat_true,En,cond_true,cond_false,e1,e2,e3,J1,Fz,decide_true]
    rfl
   ·have hL:List.length (bif c0 then r0++[r1] else r0)≤i + 1:=by cases c0<;>simp<;>omega
    have e1:=Ba1 (List.length (bif c0 then r0++[r1] else r0)) (by omega)
    have e2:decide (((List.length (bif c0 then r0++[r1] else r0):Nat):Int) < nI (List.length (bif c0 then r0++[r1] else r0) + 1))=true:=cLt (Nat.lt_succ_self _)
    have e3:decide ((r0.length + Bool.toNat c0 + 1) * 24≤140737488355328)=true:=Af (by cases c0<;>simp<;>omega)
    simp only [Bool.toNat_true,cond_true,e1,e2,e3,J1,Fz,decide_true]
    rfl) (fun i s hi hI=>hI.step (by omega) _) (fun m s hI=>by
   show C7 (m + 1) (a0.1.length:Int) a0.1 s.1 s.2.1 s.2.2=_
   simp only [C7,Ld]
   rw [Qd]
   rfl) (Gv 0 a0.1 [] false []) 0 ([],false,[]) (by omega) (by simp [Gv,nI]) ⟨by omega,by simp,fun q=>by omega,by simp⟩
  have hL':C7 (Gv 0 a0.1 [] false []) 0 a0.1 [] false []=_:=hL
  show (C7 (Gv 0 a0.1 [] false []) 0 a0.1 [] false []).bind _=_
  rw [hL']
  rfl
def l6 {R:Type} (k:Kt R):=(L7 (Kr 6) (.exit 0) 2 k)
def Ahe {R:Type}:Lt R Kr:=(Fp (pat:=Kr) 6 (fun d k=>(Aqt d).bind (l6 k)) Ik)
theorem Aec:A5 Tryz.prog Aeb:=Bb ⟨Ow,trivial⟩
theorem Aqu {R:Type}:Ba Tryz.prog R 51 0 Kr Ahe l5:=
 Cn (cfg:=⟨Aeb,0,51,Kr⟩) 6 [] (fun NX X (d:(Int)×(List A2)×(List (List Bc))×(Bool)×(List Bc)×Unit)=>(u4 (Ac Ah)) (Ld  NX X) d) (fun m d=>(u4 (Ac Ah)) (C7 m) d) (fun d=>(u4 (Ac Ah)) Gv d) l6 Aec trivial (fun f NX (d:(Int)×(List A2)×(List (List Bc))×(Bool)×(List Bc)×Unit)=>by simp only [u4,Ac,Ah]; unfold Ld; simp only [nb])
theorem Aed:B8 Tryz.prog 126 Wg:=
 A7 (pat:=Kr) [l5] Ahe Aec ⟨Aqu,trivial⟩ Tryz.func126 (de:=fun x=>Wh x.1) (fun x r h=>(Awl x.1).trans h) fun _=>by kernel_rfl
def Azq:Hh:=⟨[.rd tI],[none],[.rd .bool],[none]⟩
def Co (a0:Int):Option ((((Bool)×Unit)×(Unit))):=
 bif decide (a0≥1) then some ((decide (a0≤8),()),()) else some ((false,()),())
def Dv:SD:=⟨Azq,fun x=>Co x.1⟩
theorem Ej:B8 Tryz.prog 65 Dv:=
 A7 (pat:=Ei) [] Ik (Bb (l:=[]) trivial) trivial Tryz.func65 (de:=fun x=>Co x.1) (fun x r h=>h) fun _=>by kernel_rfl
def A4i:Hh:=⟨[.rd tI],[none],[.rd tI],[none]⟩
def Aka (a0:Int):Option ((((Int)×Unit)×(Unit))):=
 some ((IntKind.i64.wrap (IntKind.i64.wrap (64 - a0) - 8),()),())
def Uh:SD:=⟨A4i,fun x=>Aka x.1⟩
theorem l7:B8 Tryz.prog 70 Uh:=
 A7 (pat:=Ei) [] Ik (Bb (l:=[]) trivial) trivial Tryz.func70 (de:=fun x=>Aka x.1) (fun x r h=>h) fun _=>by kernel_rfl
def Le (s:Aa) (w:Int):Option (List Aa):=if s.size≤1099511627776∧1≤w∧w≤8 then some (Ao s w) else none
def Mv (v0:Aa) (v6:Int) (r0:List Aa):Nat:=v0.size + 1
def Azr:Hh:=⟨[.rd .str,.rd tI],[none,none],[.own 9 .str],[none]⟩
def Ym:SD:=⟨Azr,fun x=>(Le x.1 x.2.1).bind fun r=>some ((r,()),(()))⟩
def Ahf:Tb:=tb [(70,Uh)]
def Mf:Nat→Dq×(Nat→Dq):=Hk [(4,⟨[.row 5 0 9 .str],[(0,.lf (.d .str)),(5,.lf (.row 0)),(6,.lf (.d tI))],[.row 9 .str]⟩,[(2,⟨[.row 5 0 9 .str],[(0,.lf (.d .str)),(5,.lf (.row 0))],[.row 9 .str]⟩)])]
def Abe:Code:=(Ax (Bm Tryz.f200)).getD 0 .skip
def Jq {R:Type}  (NX:((Aa)×(Int)×(List Aa)×Unit)→Option R) (X2:((Aa)×(List Aa)×Unit)→Option R) (v0:Aa) (v6:Int) (r0:List Aa):Option R:=
 bif decide (nI v0.size > v6) then bif decide (0≤v6) then bif decide (v6≤nI v0.size) then bif decide ((r0.length + [Ag v0 0 v6].length) * 16≤140737488355328) then bif decide (0≤v6) then bif decide (v6≤nI v0.size) then NX (Ag v0 v6 (nI v0.size),v6,r0++[Ag v0 0 v6],()) else none else none else none else none else none else X2 (v0,r0,())
def Gc:Nat→(Aa)→(Int)→(List Aa) →  Option ((Aa)×(List Aa)×Unit)
 | 0,_,_,_=>none
 | m + 1,v0,v6,r0=>Jq  (fun d=>Gc m d.1 d.2.1 d.2.2.1) (fun d=>some (d)) v0 v6 r0
def As7 (d:(Aa)×(Int)×(List Aa)×Unit):Option ((Aa)×(List Aa)×Unit):=(Ac (Ac (Ac Ah))) (Gc ((Ac (Ac (Ac Ah))) Mv d)) d
def Yn (a0:Aa) (a1:Int):Option ((((List Aa)×Unit)×(Unit))):=
 ((fun d=>Gc (Mv d.1 d.2.1 d.2.2.1) d.1 d.2.1 d.2.2.1) (a0,IntKind.i64.wrap (IntKind.i64.wrap (64 - a1) - 8),[],())).bind fun val=>bif decide ((val.2.1.length + [val.1].length) * 16≤140737488355328) then some ((val.2.1++[val.1],()),()) else none
theorem A4j (n:Nat) (hn:1≤n) (hn2:n≤64):∀ (k m:Nat) (s:Aa) (r:List Aa),s.size≤k→k < m→r.length + s.size≤1099511627777→
  ∃ q t,Gc m s n r=some (t,q,())∧q++[t]=r++E2 n k s∧q.length + 1≤1099511627778
 | 0,m + 1,s,r,hs,hm,hr=>by
  refine ⟨r,s,?_,rfl,by omega⟩
  simp only [Gc,Jq]
  rw [Bd (show ¬ (nI s.size > (n:Int)) by simp only [nI]; omega)]
  rfl
 | k + 1,m + 1,s,r,hs,hm,hr=>by
  by_cases q:s.size > n
  ·have hc:(Ag s n (nI s.size)).size=s.size - n:=by rw [Da (by omega) (by simp only [nI]; omega) (by simp [nI])]; simp only [nI]; omega
   obtain ⟨q',t',e1,e2,e3⟩:=A4j n hn hn2 k m (Ag s n (nI s.size)) (r++[Ag s 0 n]) (by omega) (by omega) (by rw [Dn,En]; omega)
   refine ⟨q',t',?_,?_,e3⟩
   ·simp only [Gc,Jq]
    rw [Af (show nI s.size > (n:Int) by simp only [nI]; omega),J1,Af (show (n:Int)≤nI s.size by simp only [nI]; omega),Af (show (r.length + [Ag s 0 n].length) * 16≤140737488355328 by rw [En]; omega)]
    exact e1
   ·rw [e2,List.append_assoc]
    simp only [E2,if_pos q]
    rfl
  ·refine ⟨r,s,?_,by simp only [E2,if_neg q],by omega⟩
   simp only [Gc,Jq]
   rw [Bd (show ¬ (nI s.size > (n:Int)) by simp only [nI]; omega)]
   rfl
theorem Azs (a0:Aa) (a1:Int) r (h:Le a0 a1=some r):Yn a0 a1=some ((r,()),(())):=by
 unfold Le at h
 split at h
 ·rename_i hc
  cases h
  obtain ⟨h0,h1,h2⟩:=hc
  obtain ⟨n,hn⟩:∃ n:Nat,56 - a1=(n:Int):=⟨(56 - a1).toNat,by omega⟩
  unfold Yn Ao
  rw [Aj (n:=64 - a1) (by omega) (by omega),Aj (n:=64 - a1 - 8) (by omega) (by omega),show 64 - a1 - 8=56 - a1 by omega,hn,Fz]
  obtain ⟨q,t,e1,e2,e3⟩:=A4j n (by omega) (by omega) a0.size (Mv a0 n []) a0 [] (by omega) (by simp only [Mv]; omega) (by rw [List.length_nil]; omega)
  rw [List.nil_append] at e2
  refine bi_ e1 ?_
  show (bif decide ((q.length + [t].length) * 16≤140737488355328) then some ((q++[t],()),()) else none)=_
  rw [Af (by rw [En]; omega),e2]
  rfl
 ·cases h
def Abf {R:Type} (k:Kt R):=(L7 (Mf 4) (.exit 0) 2 k)
def Akb {R:Type}:Lt R Mf:=(Fp (pat:=Mf) 4 (fun d k=>(As7 d).bind (Abf k)) Ik)
theorem Ahg:A5 Tryz.prog Ahf:=Bb ⟨l7,trivial⟩
theorem As8 {R:Type}:Ba Tryz.prog R 27 0 Mf Akb Abe:=
 Cn (cfg:=⟨Ahf,0,27,Mf⟩) 4 [] (fun NX X d=>(Ac (Ac (Ac Ah))) (Jq  NX X) d) (fun m d=>(Ac (Ac (Ac Ah))) (Gc m) d) (fun d=>(Ac (Ac (Ac Ah))) Mv d) Abf Ahg trivial (fun f NX d=>by simp only [u4,Ac,Ah]; unfold Jq; simp only [nb])
theorem Ahh:B8 Tryz.prog 200 Ym:=
 A7 (pat:=Mf) [Abe] Akb Ahg ⟨As8,trivial⟩ Tryz.func200 (de:=fun x=>Yn x.1 x.2.1) (fun x r h=>Hf (Azs x.1 x.2.1) h) fun _=>by kernel_rfl
def Ui (s:Aa) (w:Int):Option Int:=if s.size≤1099511627776 then some (bif Bq w 1 8 then ((Ao s w).length:Int) else 0) else none
def A6z:Hh:=⟨[.rd .str,.rd tI],[none,none],[.rd tI],[none]⟩
def Aos:SD:=⟨A6z,fun x=>(Ui x.1 x.2.1).bind fun r=>some ((r,()),(()))⟩
def Ac2 (a0:Aa) (a1:Int):Option ((((Int)×Unit)×(Unit))):=
 (Co a1).bind fun val=>bif !val.1.1 then some ((0,()),()) else ((Le a0 a1).bind fun val=>some ((val,()),())).bind fun val=>some ((nI (List.length val.1.1),()),())
theorem A60 (a0:Aa) (a1:Int) r (h:Ui a0 a1=some r):Ac2 a0 a1=some ((r,()),(())):=by
 unfold Ui at h
 split at h
 ·rename_i hc
  cases h
  unfold Ac2
  refine bi_ (wid a1) ?_
  show (bif !Bq a1 1 8 then _ else _)=_
  cases hw:Bq a1 1 8 with
  | false=>rfl
  | true=>
   have n1:Le a0 a1=some (Ao a0 a1):=if_pos ⟨hc,Cw hw⟩
   simp only [n1,Option.bind_some,Bool.not_true,cond_false,cond_true]
   try rfl
 ·cases h
theorem A61:B8 Tryz.prog 127 Aos:=
 A7 (pat:=Ei) [] Ik (Bb (l:=[(65,Dv),(200,Ym)]) ⟨Ej,Ahh,trivial⟩) trivial Tryz.func127 (de:=fun x=>Ac2 x.1 x.2.1) (fun x r h=>Hf (A60 x.1 x.2.1) h) fun _=>by kernel_rfl
def On (s:Cv) (w:Int):Int:=C5 s w
def Bbh:Hh:=⟨[.rd F0,.rd tI],[some 1,none],[.rd tI],[none]⟩
def Z9:SD:=⟨Bbh,fun x=>some (((On x.1 x.2.1),()),(()))⟩
def As9:Tb:=tb [(125,Mu),(126,Wg),(127,Aos)]
def Rc:Nat→Dq×(Nat→Dq):=Hk [(5,⟨[.sl 6 0 (.sl Dr)],[(1,.lf (.d tI)),(5,.lf (.d tI)),(6,.lf (.d (.sl (.sl Dr)))),(7,.lf (.d tI))],[]⟩,[(2,⟨[],[(5,.lf (.d tI))],[]⟩)])]
def Akc:Code:=(Ax (Bm Tryz.f41)).getD 0 .skip
def Lg (v1 v5:Int) (v6:List (List Bc)) (v7:Int):Nat:=((v6.length:Int) - v7).toNat + 1
def Qj {R:Type}  (NX:((Int)×(Int)×(List (List Bc))×(Int)×Unit)→Option R) (X2:((Int)×Unit)→Option R) (v1:Int) (v5:Int) (v6:List (List Bc)) (v7:Int):Option R:=
 bif decide (v7 < nI v6.length) then bif decide (0≤v7) then bif decide (v7 < nI v6.length) then ((Ui (Er (v6.getD v7.toNat [])) v1).bind fun val=>some ((val,()),())).bind fun val=>NX (v1,IntKind.i64.wrap (v5 + val.1.1),v6,IntKind.i64.wrap (v7 + 1),()) else none else none else X2 (v5,())
def E9:Nat→(Int)→(Int)→(List (List Bc))→(Int) →  Option ((Int)×Unit)
 | 0,_,_,_,_=>none
 | m + 1,v1,v5,v6,v7=>Qj  (fun d=>E9 m d.1 d.2.1 d.2.2.1 d.2.2.2.1) (fun d=>some (d)) v1 v5 v6 v7
def A4k (d:(Int)×(Int)×(List (List Bc))×(Int)×Unit):Option ((Int)×Unit):=(u4 Ah) (E9 ((u4 Ah) Lg d)) d
def Ago (a0:Cv) (a1:Int):Option ((((Int)×Unit)×(Unit))):=
 ((fun d=>E9 (Lg d.1 d.2.1 d.2.2.1 d.2.2.2.1) d.1 d.2.1 d.2.2.1 d.2.2.2.1) (a1,0,Me a0,0,())).bind fun val=>some (val,())
theorem Bbi (a0:Cv) (a1:Int):Ago a0 a1=some (((On a0 a1),()),(())):=by
 unfold Ago On
 have hl:=Tl a0
 have hL:=E6 (xs:=Ed a0) [] Bgr (fun _ b a=>a + E5 (Be b).size a1) (g:=fun m i a=>E9 m a1 a (Ed a0) i) (ok:=fun a=>(a,())) (fun m i a hi hI=>by
  show E9 (m + 1) a1 a (Ed a0) i=_
  simp only [E9,Qj]
  rw [cLt hi,J1,wI (show i < 4611686018427387904 by omega),Fz]
  have e1:Ui (Er (List.getD (Ed a0) i [])) a1=some (E5 (Be (List.getD (Ed a0) i [])).size a1):=by
    rw [← Adz]
    exact if_pos (Nat.le_trans (La _) (by decide))
  rw [e1]
  simp only [cond_true,Option.bind_some]
  rw [A3l hI]) (fun i a hi hI=>hI.step (by omega) _ _) (fun m a hI=>by
  show E9 (m + 1) a1 a (Ed a0) ((Ed a0).length:Int)=_
  simp only [E9,Qj]
  rw [Qd]
  rfl) (Lg a1 0 (Ed a0) 0) 0 0 (by omega) (by simp [Lg,nI]) ⟨by omega,by omega,by omega⟩
 have hL':E9 (Lg a1 0 (Ed a0) 0) a1 0 (Ed a0) 0=_:=hL
 show (E9 (Lg a1 0 (Ed a0) 0) a1 0 (Ed a0) 0).bind _=_
 rw [hL',Am5,List.drop_zero,Bd0,Int.zero_add]
 rfl
def Akd {R:Type} (k:Kt R):=(L7 (Rc 5) (.exit 0) 2 k)
def Ays {R:Type}:Lt R Rc:=(Fp (pat:=Rc) 5 (fun d k=>(A4k d).bind (Akd k)) Ik)
theorem Ata:A5 Tryz.prog As9:=Bb ⟨P0,Aed,A61,trivial⟩
theorem A4l {R:Type}:Ba Tryz.prog R 26 0 Rc Ays Akc:=
 Cn (cfg:=⟨As9,0,26,Rc⟩) 5 [] (fun NX X d=>(u4 Ah) (Qj  NX X) d) (fun m d=>(u4 Ah) (E9 m) d) (fun d=>(u4 Ah) Lg d) Akd Ata trivial (fun f NX d=>by simp only [u4,Ac,Ah]; unfold Qj; simp only [nb])
theorem Agp:B8 Tryz.prog 41 Z9:=
 A7 (pat:=Rc) [Akc] Ays Ata ⟨A4l,trivial⟩ Tryz.func41 (de:=fun x=>Ago x.1 x.2.1) (fun x r h=>(Bbi x.1 x.2.1).trans h) fun _=>by kernel_rfl
def Ia (v lo hi:Int):Bool:=Bq v lo hi
def Bbj:Hh:=⟨[.rd tI,.rd tI,.rd tI],[none,none,none],[.rd .bool],[none]⟩
def Agq:SD:=⟨Bbj,fun x=>some (((Ia x.1 x.2.1 x.2.2.1),()),(()))⟩
def Agr (a0 a1 a2:Int):Option ((((Bool)×Unit)×(Unit))):=
 bif decide (a0≥a1) then some ((decide (a0≤a2),()),()) else some ((false,()),())
theorem Bbk (a0 a1 a2:Int):Agr a0 a1 a2=some ((Ia a0 a1 a2,()),()):=by
 unfold Agr Ia Bq
 by_cases h:a0≥a1
 ·have:decide (a1≤a0)=true:=by simpa using h
  simp [h,this]
 ·have:decide (a1≤a0)=false:=by simpa using h
  simp [h,this]
theorem Atb:B8 Tryz.prog 67 Agq:=
 A7 (pat:=Ei) [] Ik (Bb (l:=[]) trivial) trivial Tryz.func67 (de:=fun x=>Agr x.1 x.2.1 x.2.2.1) (fun x r h=>(Bbk x.1 x.2.1 x.2.2.1).trans h) fun _=>by kernel_rfl
def Hn (s:Ez):Bool:=As s
def Aqv:Hh:=⟨[.rd Yg],[some 10],[.rd .bool],[none]⟩
def Lh:SD:=⟨Aqv,fun x=>some (((Hn x.1),()),(()))⟩
def Sx (a0:Ez):Option ((((Bool)×Unit)×(Unit))):=
 (Co a0.1).bind fun val=>bif !val.1.1 then some ((false,()),()) else bif A3 a0.2.1==0 then some ((false,()),()) else bif !Ia a0.2.2.1 1 60000 then some ((false,()),()) else bif !Ia a0.2.2.2.1.1 0 1000000000 then some ((false,()),()) else bif !Ia a0.2.2.2.1.2.1 0 1 then some ((false,()),()) else bif !Ia a0.2.2.2.1.2.2.1 1 999999000 then some ((false,()),()) else bif !Ia a0.2.2.2.1.2.2.2.1 0 60000 then some ((false,()),()) else bif Ia a0.2.2.2.2.1 0 (A3 a0.2.1) then bif Ia a0.2.2.2.2.2.1 0 a0.2.2.2.2.1 then bif Gb a0.2.2.2.2.2.2.1 then some ((decide (On a0.2.2.2.2.2.2.1 a0.1≤IntKind.i64.wrap (A3 a0.2.1 - 1)),()),()) else some ((false,()),()) else some ((false,()),()) else some ((false,()),())
theorem Aqw (a0:Ez):Sx a0=some (((Hn a0),()),(())):=by
 unfold Sx Hn As
 refine bi_ (wid a0.1) ?_
 simp only [A3,Ia,Gb,On,Tm,Bpb,Bs8,Bd1]
 simp only [I6,Bool.and_assoc]
 rw [Bool.and_left_comm]
theorem Ox:B8 Tryz.prog 30 Lh:=
 A7 (pat:=Ei) [] Ik (Bb (l:=[(40,Nw),(41,Z9),(65,Dv),(67,Agq),(69,Lc)]) ⟨Qh,Agp,Ej,Atb,Ow,trivial⟩) trivial Tryz.func30 (de:=fun x=>Sx x.1) (fun x r h=>(Aqw x.1).trans h) fun _=>by kernel_rfl
def Ks (d:Dk) (at_:Int) (data:Aa):Bool:=Aiy d.1.length (at_,data,())
def Atc:Hh:=⟨[.rd yDk,.rd tI,.rd .str],[some 2,none,none],[.rd .bool],[none]⟩
def Uj:SD:=⟨Atc,fun x=>some (((Ks x.1 x.2.1 x.2.2.1),()),(()))⟩
def Uk (a0:Dk) (a1:Int) (a2:Aa):Option ((((Bool)×Unit)×(Unit))):=
 bif decide (a1≥0) then bif decide (a1 < nI (List.length a0.1)) then some ((nI a2.size==64,()),()) else some ((false,()),()) else some ((false,()),())
theorem Atd (a0:Dk) (a1:Int) (a2:Aa):Uk a0 a1 a2=some ((Ks a0 a1 a2,()),()):=by
 unfold Uk Ks Aiy
 have e:(nI (ByteArray.size a2)==64)=decide (a2.size=64):=by
  have:=Bkh a2.size 64
  simp only [bne] at this
  cases h:(nI (ByteArray.size a2)==((64:Nat):Int))<;>rw [h] at this<;>cases h2:decide (a2.size=64)<;>rw [h2] at this<;>first | (cases this; done) | exact h
 rw [e]
 by_cases h1:a1≥0
 ·have:decide (0≤a1)=true:=by simpa using h1
  rw [Af h1]
  simp only [this,cond_true,Bool.true_and,nI]
  cases decide (a1 < (a0.1.length:Int))<;>rfl
 ·have:decide (0≤a1)=false:=by simpa using h1
  rw [Bd h1]
  simp only [this]
  rfl
theorem Abg:B8 Tryz.prog 157 Uj:=
 A7 (pat:=Ei) [] Ik (Bb (l:=[]) trivial) trivial Tryz.func157 (de:=fun x=>Uk x.1 x.2.1 x.2.2.1) (fun x r h=>(Atd x.1 x.2.1 x.2.2.1).trans h) fun _=>by kernel_rfl
def Ft (d:Dk):Bool:=Ap d
def Ate:Hh:=⟨[.rd yDk],[some 2],[.rd .bool],[none]⟩
def Ho:SD:=⟨Ate,fun x=>some (((Ft x.1),()),(()))⟩
def Ul:Tb:=tb [(157,Uj)]
def C0:Nat→Dq×(Nat→Dq):=Hk [(5,⟨[.boxSl 1 0 .str,.boxSl 1 1 Ew],[(1,.lf (.ptr 0 0)),(3,.lf (.d tI))],[.box 26 [.d (.sl .str),.d (.sl Ew)]]⟩,[(2,⟨[.boxSl 1 0 .str,.boxSl 1 1 Ew],[(1,.lf (.ptr 0 0))],[.box 26 [.d (.sl .str),.d (.sl Ew)]]⟩),(1,⟨[],[(2,.lf (.d .bool))],[]⟩)]),(10,⟨[.boxSl 1 0 .str,.boxSl 1 1 Ew],[(1,.lf (.ptr 0 0)),(4,.lf (.d tI))],[.box 26 [.d (.sl .str),.d (.sl Ew)]]⟩,[(4,p0),(1,⟨[],[(2,.lf (.d .bool))],[]⟩)])]
def Y4:Code:=(Ax (Bm Tryz.f66)).getD 0 .skip
def Xw:Code:=(Ax (Bm Tryz.f66)).getD 1 .skip
def Fa (v4:Int) (b0_0:List Aa) (b0_1:List Wr):Nat:=((b0_1.length:Int) - v4).toNat + 1
def Jc {R:Type}  (NX:((Int)×(List Aa)×(List Wr)×Unit)→Option R) (X4:(Unit)→Option R) (X1:((Bool)×Unit)→Option R) (v4:Int) (b0_0:List Aa) (b0_1:List Wr):Option R:=
 bif decide (v4 < nI b0_1.length) then bif decide (0≤v4) then bif decide (v4 < nI b0_1.length) then bif decide (0≤v4) then bif decide (v4 < nI b0_1.length) then bif !Ks (b0_0,b0_1,()) (b0_1.getD v4.toNat (0,Ad,())).1 (b0_1.getD v4.toNat (0,Ad,())).2.1 then X1 (false,()) else NX (IntKind.i64.wrap (v4 + 1),b0_0,b0_1,()) else none else none else none else none else X4 PUnit.unit
def Ck:Nat→(Int)→(List Aa)→(List Wr) →  Option ((Unit) ⊕ ((Bool)×Unit))
 | 0,_,_,_=>none
 | m + 1,v4,b0_0,b0_1=>Jc  (fun d=>Ck m d.1 d.2.1 d.2.2.1) (fun d=>some (.inl (d))) (fun d=>some (.inr (d))) v4 b0_0 b0_1
def Ake (d:(Int)×(List Aa)×(List Wr)×Unit):Option ((Unit) ⊕ ((Bool)×Unit)):=(Ac (Ac (Ac Ah))) (Ck ((Ac (Ac (Ac Ah))) Fa d)) d
def F3 (v3:Int) (b0_0:List Aa) (b0_1:List Wr):Nat:=((b0_0.length:Int) - v3).toNat + 1
def J8 {R:Type}  (NX:((Int)×(List Aa)×(List Wr)×Unit)→Option R) (X2:Dk→Option R) (X1:((Bool)×Unit)→Option R) (v3:Int) (b0_0:List Aa) (b0_1:List Wr):Option R:=
 bif decide (v3 < nI b0_0.length) then bif decide (0≤v3) then bif decide (v3 < nI b0_0.length) then bif nI (ByteArray.size (b0_0.getD v3.toNat (Ad))) != 64 then X1 (false,()) else NX (IntKind.i64.wrap (v3 + 1),b0_0,b0_1,()) else none else none else X2 (b0_0,b0_1,())
def Cr:Nat→(Int)→(List Aa)→(List Wr) →  Option (Dk ⊕ ((Bool)×Unit))
 | 0,_,_,_=>none
 | m + 1,v3,b0_0,b0_1=>J8  (fun d=>Cr m d.1 d.2.1 d.2.2.1) (fun d=>some (.inl (d))) (fun d=>some (.inr (d))) v3 b0_0 b0_1
def Anr (d:(Int)×(List Aa)×(List Wr)×Unit):Option (Dk ⊕ ((Bool)×Unit)):=(Ac (Ac (Ac Ah))) (Cr ((Ac (Ac (Ac Ah))) F3 d)) d
def Um (a0:Dk):Option ((((Bool)×Unit)×(Unit))):=
 bif decide (nI (List.length a0.1) < 8) then some ((false,()),()) else bif decide (nI (List.length a0.1) > 200) then some ((false,()),()) else bif decide (nI (List.length a0.2.1) > 300) then some ((false,()),()) else ((fun d=>Cr (F3 d.1 d.2.1 d.2.2.1) d.1 d.2.1 d.2.2.1) (0,a0)).bind fun val=>Cy (fun d=>((fun d=>Ck (Fa d.1 d.2.1 d.2.2.1) d.1 d.2.1 d.2.2.1) (0,d)).bind fun val=>Cy (fun d=>some ((true,()),())) (fun d=>some (d,())) val) (fun d=>some (d,())) val
theorem Atf (a0:Dk):Um a0=some ((Ft a0,()),()):=by
 unfold Um Ft Ap
 have c1:decide (nI a0.2.1.length > 300)=!decide (a0.2.1.length≤300):=Ajw _ 300
 have c2:decide (nI a0.1.length > 200)=!decide ((a0.1.length:Int)≤200):=by
  rw [show decide (nI a0.1.length > 200)=!decide (a0.1.length≤200) from Ajw _ 200]
  congr 1
  exact decide_eq_decide.2 (by omega)
 have c3:decide (nI a0.1.length < 8)=!decide (8≤(a0.1.length:Int)):=by
  by_cases q:8≤(a0.1.length:Int)
  ·rw [Af q,Bd (by simp [nI]; omega)]; rfl
  ·rw [Bd q,Af (by simp [nI]; omega)]; rfl
 rw [c1,c2,c3]
 unfold Bq
 by_cases h8:8≤(a0.1.length:Int)
 ·rw [Af h8]
  by_cases h2:(a0.1.length:Int)≤200
  ·rw [Af h2]
   by_cases hp:a0.2.1.length≤300
   ·rw [Af hp]
    have hL:=Ns (n:=a0.1.length) (fun i=>decide ((a0.1.getD i z0).size=64)) (g:=fun m i=>Cr m i a0.1 a0.2.1) (ok:=.inl (a0.1,a0.2.1,())) (bad:=.inr (false,())) (fun m i hi=>by
     show Cr (m + 1) i a0.1 a0.2.1=_
     simp only [Cr,J8]
     have g1:(nI (ByteArray.size (List.getD a0.1 i (Ad))) != 64)=!decide ((a0.1.getD i z0).size=64):=Bkh _ 64
     rw [cLt hi,J1,wI (show i < 4611686018427387904 by omega),Fz,g1]
     cases decide ((a0.1.getD i z0).size=64)<;>rfl) (fun m=>by
     show Cr (m + 1) (a0.1.length:Int) a0.1 a0.2.1=_
     simp only [Cr,J8]
     rw [Qd]
     rfl) (F3 0 a0.1 a0.2.1) 0 (by omega) (by simp [F3])
    have hL':Cr (F3 0 a0.1 a0.2.1) 0 a0.1 a0.2.1=_:=hL
    have hM:=Ns (n:=a0.2.1.length) (fun i=>Aiy a0.1.length (a0.2.1.getD i zW)) (g:=fun m i=>Ck m i a0.1 a0.2.1) (ok:=.inl ()) (bad:=.inr (false,())) (fun m i hi=>by
     show Ck (m + 1) i a0.1 a0.2.1=_
     simp only [Ck,Jc]
     rw [cLt hi,J1,wI (show i < 4611686018427387904 by omega),Fz]
     show (bif !Aiy a0.1.length (a0.2.1.getD i zW) then _ else _)=_
     cases Aiy a0.1.length (a0.2.1.getD i zW)<;>rfl) (fun m=>by
     show Ck (m + 1) (a0.2.1.length:Int) a0.1 a0.2.1=_
     simp only [Ck,Jc]
     rw [Qd]
     rfl) (Fa 0 a0.1 a0.2.1) 0 (by omega) (by simp [Fa])
    have hM':Ck (Fa 0 a0.1 a0.2.1) 0 a0.1 a0.2.1=_:=hM
    show (Cr (F3 0 a0.1 a0.2.1) 0 a0.1 a0.2.1).bind _=_
    rw [hL']
    rw [Nat.sub_zero] at hM' ⊢
    cases (List.range' 0 a0.1.length).all (fun i=>decide ((a0.1.getD i z0).size=64)) with
    | false=>rfl
    | true=>
     show (Ck (Fa 0 a0.1 a0.2.1) 0 a0.1 a0.2.1).bind _=_
     rw [hM']
     cases (List.range' 0 a0.2.1.length).all (fun i=>Aiy a0.1.length (a0.2.1.getD i zW))<;>rfl
   ·rw [Bd hp]
    rfl
  ·rw [Bd h2]
   rfl
 ·rw [Bd h8]
  rfl
def Y5 {R:Type} (k:Kt R):=(Cy (L7 (C0 5) (.exit 0) 2 k) (L7 (C0 5) .ret 1 k))
def Xx {R:Type} (k:Kt R):=(Cy (L7 (C0 10) (.exit 2) 4 k) (L7 (C0 10) .ret 1 k))
def Wi {R:Type}:Lt R C0:=(Fp (pat:=C0) 5 (fun d k=>(Anr d).bind (Y5 k)) (Fp (pat:=C0) 10 (fun d k=>(Ake d).bind (Xx k)) Ik))
theorem Un:A5 Tryz.prog Ul:=Bb ⟨Abg,trivial⟩
theorem Akf {R:Type}:Ba Tryz.prog R 57 0 C0 Wi Xw:=
 Cn (cfg:=⟨Ul,0,57,C0⟩) 10 [] (fun NX X d=>(Ac (Ac (Ac Ah))) (Jc  NX (fun e=>X (.inl (e))) (fun e=>X (.inr (e)))) d) (fun m d=>(Ac (Ac (Ac Ah))) (Ck m) d) (fun d=>(Ac (Ac (Ac Ah))) Fa d) Xx Un trivial (fun f NX d=>by simp only [u4,Ac,Ah]; unfold Jc; simp only [nb])
theorem Ans {R:Type}:Ba Tryz.prog R 57 0 C0 Wi Y4:=
 Cn (cfg:=⟨Ul,0,57,C0⟩) 5 [] (fun NX X d=>(Ac (Ac (Ac Ah))) (J8  NX (fun e=>X (.inl (e))) (fun e=>X (.inr (e)))) d) (fun m d=>(Ac (Ac (Ac Ah))) (Cr m) d) (fun d=>(Ac (Ac (Ac Ah))) F3 d) Y5 Un trivial (fun f NX d=>by simp only [u4,Ac,Ah]; unfold J8; simp only [nb])
theorem Jr:B8 Tryz.prog 66 Ho:=
 A7 (pat:=C0) [Y4,Xw] Wi Un ⟨Ans,Akf,trivial⟩ Tryz.func66 (de:=fun x=>Um x.1) (fun x r h=>(Atf x.1).trans h) fun _=>by kernel_rfl
def Nx (s:Ez):Bool:=Py s
def Atg:Hh:=⟨[.rd Yg],[some 10],[.rd .bool],[none]⟩
def Abh:SD:=⟨Atg,fun x=>some (((Nx x.1),()),(()))⟩
def Uo (a0:Ez):Option ((((Bool)×Unit)×(Unit))):=
 bif a0.1==0 then bif a0.2.1==0 then bif a0.2.2.1==0 then bif a0.2.2.2.1.1==0&&(a0.2.2.2.1.2.1==0&&(a0.2.2.2.1.2.2.1==0&&(a0.2.2.2.1.2.2.2.1==0&&true))) then bif a0.2.2.2.2.1==0 then bif a0.2.2.2.2.2.1==0 then some ((nI (List.length a0.2.2.2.2.2.2.1.1)==0,()),()) else some ((false,()),()) else some ((false,()),()) else some ((false,()),()) else some ((false,()),()) else some ((false,()),()) else some ((false,()),())
theorem Ath (a0:Ez):Uo a0=some (((Nx a0),()),(())):=by
 unfold Uo Nx Py
 simp only [Bpb,Bool.and_true]
theorem Ati:B8 Tryz.prog 68 Abh:=
 A7 (pat:=Ei) [] Ik (Bb (l:=[]) trivial) trivial Tryz.func68 (de:=fun x=>Uo x.1) (fun x r h=>(Ath x.1).trans h) fun _=>by kernel_rfl
def Mw (w:Bo):Bool:=B7 w
def Aqx:Hh:=⟨[.rd I5],[some 16],[.rd .bool],[none]⟩
def l8:SD:=⟨Aqx,fun x=>some (((Mw x.1),()),(()))⟩
def Sy:Tb:=tb [(30,Lh),(65,Dv),(66,Ho),(67,Agq),(68,Abh),(69,Lc)]
def Cp:Nat→Dq×(Nat→Dq):=Hk [(7,⟨[.boxSl 1 1 .str,.boxSl 1 2 Ew,.boxSl 1 13 A1,.boxSl 1 14 F0,.boxSl 1 15 .str],[(1,.lf (.ptr 0 0)),(3,.lf (.d tI))],[.box 36 [.d I5]]⟩,[(2,⟨[.boxSl 1 1 .str,.boxSl 1 2 Ew,.boxSl 1 13 A1,.boxSl 1 14 F0,.boxSl 1 15 .str],[(1,.lf (.ptr 0 0))],[.box 36 [.d I5]]⟩),(1,⟨[],[(2,.lf (.d .bool))],[]⟩)]),(12,⟨[.boxSl 1 1 .str,.boxSl 1 2 Ew,.boxSl 1 13 A1,.boxSl 1 14 F0,.boxSl 1 15 .str],[(1,.lf (.ptr 0 0)),(4,.lf (.d tI))],[.box 36 [.d I5]]⟩,[(4,p0),(1,⟨[],[(2,.lf (.d .bool))],[]⟩)])]
def Xy:Code:=(Ax (Bm Tryz.f15)).getD 0 .skip
def Vu:Code:=(Ax (Bm Tryz.f15)).getD 1 .skip
def Ce (v4:Int) (b0:Bo):Nat:=((List.length b0.2.2.2.2.2.1:Int) - v4).toNat + 1
def Ii {R:Type}  (NX:((Int)×Bo×Unit)→Option R) (X4:(Unit)→Option R) (X1:((Bool)×Unit)→Option R) (v4:Int) (b0:Bo):Option R:=
 bif decide (v4 < nI (List.length b0.2.2.2.2.2.1)) then bif decide (0≤v4) then bif decide (v4 < nI (List.length b0.2.2.2.2.2.1)) then bif nI (ByteArray.size (List.getD b0.2.2.2.2.2.1 v4.toNat (Ad))) != 64 then X1 (false,()) else NX (IntKind.i64.wrap (v4 + 1),b0,()) else none else none else X4 PUnit.unit
def Bg:Nat→(Int)→Bo →  Option ((Unit) ⊕ ((Bool)×Unit))
 | 0,_,_=>none
 | m + 1,v4,b0=>Ii  (fun d=>Bg m d.1 d.2.1) (fun d=>some (.inl (d))) (fun d=>some (.inr (d))) v4 b0
def Aiz (d:(Int)×Bo×Unit):Option ((Unit) ⊕ ((Bool)×Unit)):=(Ac (Ac Ah)) (Bg ((Ac (Ac Ah)) Ce d)) d
def De (v3:Int) (b0:Bo):Nat:=((List.length b0.2.2.2.2.1:Int) - v3).toNat + 1
def Jd {R:Type}  (NX:((Int)×Bo×Unit)→Option R) (X2:(Bo×Unit)→Option R) (X1:((Bool)×Unit)→Option R) (v3:Int) (b0:Bo):Option R:=
 bif decide (v3 < nI (List.length b0.2.2.2.2.1)) then bif decide (0≤v3) then bif decide (v3 < nI (List.length b0.2.2.2.2.1)) then bif !Gb (List.getD b0.2.2.2.2.1 v3.toNat ([],())) then X1 (false,()) else NX (IntKind.i64.wrap (v3 + 1),b0,()) else none else none else X2 (b0,())
def Bz:Nat→(Int)→Bo →  Option ((Bo×Unit) ⊕ ((Bool)×Unit))
 | 0,_,_=>none
 | m + 1,v3,b0=>Jd  (fun d=>Bz m d.1 d.2.1) (fun d=>some (.inl (d))) (fun d=>some (.inr (d))) v3 b0
def Akg (d:(Int)×Bo×Unit):Option ((Bo×Unit) ⊕ ((Bool)×Unit)):=(Ac (Ac Ah)) (Bz ((Ac (Ac Ah)) De d)) d
def Sz (a0:Bo):Option ((((Bool)×Unit)×(Unit))):=
 (Co a0.1).bind fun val=>bif !val.1.1 then some ((false,()),()) else bif !Ft a0.2.1 then some ((false,()),()) else bif !Ia (nI (List.length a0.2.2.2.2.1)) 1 200 then some ((false,()),()) else bif decide (nI (List.length a0.2.2.2.2.2.1) > 2000) then some ((false,()),()) else bif a0.2.2.1 then bif !Hn a0.2.2.2.1 then some ((false,()),()) else bif a0.2.2.2.1.1 != a0.1 then some ((false,()),()) else bif a0.2.2.2.1.2.1 != nI (List.length a0.2.1.1) then some ((false,()),()) else bif !a0.2.2.1 then bif !Nx a0.2.2.2.1 then some ((false,()),()) else ((fun d=>Bz (De d.1 d.2.1) d.1 d.2.1) (0,a0,())).bind fun val=>Cy (fun d=>((fun d=>Bg (Ce d.1 d.2.1) d.1 d.2.1) (0,d)).bind fun val=>Cy (fun d=>some ((true,()),())) (fun d=>some (d,())) val) (fun d=>some (d,())) val else ((fun d=>Bz (De d.1 d.2.1) d.1 d.2.1) (0,a0,())).bind fun val=>Cy (fun d=>((fun d=>Bg (Ce d.1 d.2.1) d.1 d.2.1) (0,d)).bind fun val=>Cy (fun d=>some ((true,()),())) (fun d=>some (d,())) val) (fun d=>some (d,())) val else bif !a0.2.2.1 then bif !Nx a0.2.2.2.1 then some ((false,()),()) else ((fun d=>Bz (De d.1 d.2.1) d.1 d.2.1) (0,a0,())).bind fun val=>Cy (fun d=>((fun d=>Bg (Ce d.1 d.2.1) d.1 d.2.1) (0,d)).bind fun val=>Cy (fun d=>some ((true,()),())) (fun d=>some (d,())) val) (fun d=>some (d,())) val else ((fun d=>Bz (De d.1 d.2.1) d.1 d.2.1) (0,a0,())).bind fun val=>Cy (fun d=>((fun d=>Bg (Ce d.1 d.2.1) d.1 d.2.1) (0,d)).bind fun val=>Cy (fun d=>some ((true,()),())) (fun d=>some (d,())) val) (fun d=>some (d,())) val
theorem Bhh (b0:Bo) (h:b0.2.2.2.2.1.length≤200):
  Bz (De 0 b0) 0 b0=
  some (bif (List.range' 0 b0.2.2.2.2.1.length).all (fun i=>Ak (b0.2.2.2.2.1.getD i Ye)) then .inl (b0,()) else .inr (false,())):=by
 have hL:=Ns (n:=b0.2.2.2.2.1.length) (fun i=>Ak (b0.2.2.2.2.1.getD i Ye)) (g:=fun m i=>Bz m i b0) (ok:=.inl (b0,())) (bad:=.inr (false,())) (fun m i hi=>by
  show Bz (m + 1) i b0=_
  simp only [Bz,Jd]
  rw [cLt hi,J1,wI (show i < 4611686018427387904 by omega),Fz]
  show (bif !Ak (b0.2.2.2.2.1.getD i Ye) then _ else _)=_
  cases Ak (b0.2.2.2.2.1.getD i Ye)<;>rfl) (fun m=>by
  show Bz (m + 1) (b0.2.2.2.2.1.length:Int) b0=_
  simp only [Bz,Jd]
  rw [Qd]
  rfl) (De 0 b0) 0 (by omega) (by simp only [De]; omega)
 exact hL
theorem A4m (b0:Bo) (h:b0.2.2.2.2.2.1.length≤2000):Bg (Ce 0 b0) 0 b0=
  some (bif (List.range' 0 b0.2.2.2.2.2.1.length).all (fun i=>decide ((b0.2.2.2.2.2.1.getD i z0).size=64)) then .inl () else .inr (false,())):=by
 have hL:=Ns (n:=b0.2.2.2.2.2.1.length) (fun i=>decide ((b0.2.2.2.2.2.1.getD i z0).size=64)) (g:=fun m i=>Bg m i b0) (ok:=.inl ()) (bad:=.inr (false,())) (fun m i hi=>by
  show Bg (m + 1) i b0=_
  simp only [Bg,Ii]
  have e:(nI (ByteArray.size (List.getD b0.2.2.2.2.2.1 i (Ad))) != 64)=!decide ((b0.2.2.2.2.2.1.getD i z0).size=64):=Bkh (b0.2.2.2.2.2.1.getD i z0).size 64
  rw [cLt hi,J1,wI (show i < 4611686018427387904 by omega),Fz,e]
  cases decide ((b0.2.2.2.2.2.1.getD i z0).size=64)<;>rfl) (fun m=>by
  show Bg (m + 1) (b0.2.2.2.2.2.1.length:Int) b0=_
  simp only [Bg,Ii]
  rw [Qd]
  rfl) (Ce 0 b0) 0 (by omega) (by simp only [Ce]; omega)
 exact hL
theorem Aqy (a0:Bo):Sz a0=some (((Mw a0),()),(())):=by
 unfold Sz Mw B7
 refine bi_ (wid a0.1) ?_
 show (bif !Bq a0.1 1 8 then _ else bif !Ap a0.2.1 then _ else bif !Bq (nI a0.2.2.2.2.1.length) 1 200 then _ else _)=_
 cases Bq a0.1 1 8 with
 | false=>rfl
 | true=>
  cases Ap a0.2.1 with
  | false=>rfl
  | true=>
   cases hp:Bq (nI a0.2.2.2.2.1.length) 1 200 with
   | false=>rfl
   | true=>
    have hpl:a0.2.2.2.2.1.length≤200:=by have:=(Cw hp).2; simp only [nI] at this; omega
    have e1:decide (nI a0.2.2.2.2.2.1.length > 2000)=!decide (a0.2.2.2.2.2.1.length≤2000):=Ajw _ 2000
    rw [e1]
    cases hw:decide (a0.2.2.2.2.2.1.length≤2000) with
    | false=>rfl
    | true=>
     have hwl:=G8 hw
     simp only [Bool.not_true,Bool.true_and,cond_false]
     have key:∀ b:Bool,(bif b then (bif Yh a0 then (bif Mc a0 then some ((true,()),()) else some ((false,()),())) else some ((false,()),())) else some ((false,()),()))=(some ((b&&(Yh a0&&Mc a0),()),()):Option ((Bool×Unit)×Unit)):=fun b=>by
      cases b<;>cases Yh a0<;>cases Mc a0<;>rfl
     rw [← key]
     simp only [Bhh _ hpl,Option.bind_some]
     show _=(bif Pn a0 then (bif Yh a0 then (bif Mc a0 then _ else _) else _) else _)
     unfold Pn
     have hP:Yh a0=(List.range' 0 a0.2.2.2.2.1.length).all (fun i=>Ak (a0.2.2.2.2.1.getD i Ye)):=rfl
     have hW:Mc a0=(List.range' 0 a0.2.2.2.2.2.1.length).all (fun i=>decide ((a0.2.2.2.2.2.1.getD i z0).size=64)):=rfl
     rw [hP,hW]
     cases hu:a0.2.2.1 with
     | true=>
      simp only [cond_true,Bool.not_true,cond_false]
      show (bif !As a0.2.2.2.1 then _ else _)=_
      have w1:(a0.2.2.2.1.1 != a0.1)=!(a0.2.2.2.1.1==a0.1):=rfl
      have w2:(a0.2.2.2.1.2.1 != nI a0.2.1.1.length)=!(a0.2.2.2.1.2.1==nI a0.2.1.1.length):=rfl
      rw [w1,w2]
      cases As a0.2.2.2.1 with
      | false=>rfl
      | true=>
       cases (a0.2.2.2.1.1==a0.1) with
       | false=>rfl
       | true=>
        cases (a0.2.2.2.1.2.1==nI a0.2.1.1.length) with
        | false=>rfl
        | true=>
         cases (List.range' 0 a0.2.2.2.2.1.length).all (fun i=>Ak (a0.2.2.2.2.1.getD i Ye)) with
         | false=>rfl
         | true=>
          show (Bg (Ce 0 a0) 0 a0).bind _=_
          rw [A4m _ hwl]
          cases (List.range' 0 a0.2.2.2.2.2.1.length).all (fun i=>decide ((a0.2.2.2.2.2.1.getD i z0).size=64))<;>rfl
     | false=>
      simp only [cond_true,Bool.not_false,cond_false]
      show (bif !Py a0.2.2.2.1 then _ else _)=_
      cases Py a0.2.2.2.1 with
      | false=>rfl
      | true=>
       cases (List.range' 0 a0.2.2.2.2.1.length).all (fun i=>Ak (a0.2.2.2.2.1.getD i Ye)) with
       | false=>rfl
       | true=>
        show (Bg (Ce 0 a0) 0 a0).bind _=_
        rw [A4m _ hwl]
        cases (List.range' 0 a0.2.2.2.2.2.1.length).all (fun i=>decide ((a0.2.2.2.2.2.1.getD i z0).size=64))<;>rfl
def Xz {R:Type} (k:Kt R):=(Cy (L7 (Cp 7) (.exit 0) 2 k) (L7 (Cp 7) .ret 1 k))
def Vv {R:Type} (k:Kt R):=(Cy (L7 (Cp 12) (.exit 2) 4 k) (L7 (Cp 12) .ret 1 k))
def Up {R:Type}:Lt R Cp:=(Fp (pat:=Cp) 7 (fun d k=>(Akg d).bind (Xz k)) (Fp (pat:=Cp) 12 (fun d k=>(Aiz d).bind (Vv k)) Ik))
theorem S0:A5 Tryz.prog Sy:=Bb ⟨Ox,Ej,Jr,Atb,Ati,Ow,trivial⟩
theorem Ai0 {R:Type}:Ba Tryz.prog R 93 0 Cp Up Vu:=
 Cn (cfg:=⟨Sy,0,93,Cp⟩) 12 [] (fun NX X d=>(Ac (Ac Ah)) (Ii  NX (fun e=>X (.inl (e))) (fun e=>X (.inr (e)))) d) (fun m d=>(Ac (Ac Ah)) (Bg m) d) (fun d=>(Ac (Ac Ah)) Ce d) Vv S0 trivial (fun f NX d=>by simp only [u4,Ac,Ah]; unfold Ii; simp only [nb])
theorem Akh {R:Type}:Ba Tryz.prog R 93 0 Cp Up Xy:=
 Cn (cfg:=⟨Sy,0,93,Cp⟩) 7 [] (fun NX X d=>(Ac (Ac Ah)) (Jd  NX (fun e=>X (.inl (e))) (fun e=>X (.inr (e)))) d) (fun m d=>(Ac (Ac Ah)) (Bz m) d) (fun d=>(Ac (Ac Ah)) De d) Xz S0 trivial (fun f NX d=>by simp only [u4,Ac,Ah]; unfold Jd; simp only [nb])
theorem Aqz:B8 Tryz.prog 15 l8:=
 A7 (pat:=Cp) [Xy,Vu] Up S0 ⟨Akh,Ai0,trivial⟩ Tryz.func15 (de:=fun x=>Sz x.1) (fun x r h=>(Aqy x.1).trans h) fun _=>by kernel_rfl
def A9 (v lo hi:Int):Bool:=Bq v lo hi
def Bhi:Hh:=⟨[.rd tI,.rd tI,.rd tI],[none,none,none],[.rd .bool],[none]⟩
def Do:SD:=⟨Bhi,fun x=>some (((A9 x.1 x.2.1 x.2.2.1),()),(()))⟩
def Aq0 (a0 a1 a2:Int):Option ((((Bool)×Unit)×(Unit))):=
 bif decide (a0≥a1) then some ((decide (a0≤a2),()),()) else some ((false,()),())
theorem Bhj (a0 a1 a2:Int):Aq0 a0 a1 a2=some ((A9 a0 a1 a2,()),()):=by
 unfold Aq0 A9 Bq
 by_cases h:a0≥a1
 ·have:decide (a1≤a0)=true:=by simpa using h
  simp [h,this]
 ·have:decide (a1≤a0)=false:=by simpa using h
  simp [h,this]
theorem D4:B8 Tryz.prog 95 Do:=
 A7 (pat:=Ei) [] Ik (Bb (l:=[]) trivial) trivial Tryz.func95 (de:=fun x=>Aq0 x.1 x.2.1 x.2.2.1) (fun x r h=>(Bhj x.1 x.2.1 x.2.2.1).trans h) fun _=>by kernel_rfl
def Bu (n:Int):Int:=Al n
def A4n:Hh:=⟨[.rd tI],[none],[.rd tI],[none]⟩
def Ny:SD:=⟨A4n,fun x=>some (((Bu x.1),()),(()))⟩
def l9 (a0:Int):Option ((((Int)×Unit)×(Unit))):=
 bif !A9 a0 8 200 then some ((0,()),()) else some ((IntKind.i64.wrap ((IntKind.i64.wrap (a0 - 2)).tdiv 2),()),())
theorem A4o (a0:Int):l9 a0=some (((Bu a0),()),(())):=by
 unfold l9 Bu Al
 show (bif !Bq a0 8 200 then _ else _)=_
 cases h:Bq a0 8 200 with
 | false=>rfl
 | true=>
  obtain ⟨h1,h2⟩:=Cw h
  rw [Ayi h1 h2]
  rfl
theorem Qk:B8 Tryz.prog 96 Ny:=
 A7 (pat:=Ei) [] Ik (Bb (l:=[(95,Do)]) ⟨D4,trivial⟩) trivial Tryz.func96 (de:=fun x=>l9 x.1) (fun x r h=>(A4o x.1).trans h) fun _=>by kernel_rfl
def Df (h n:Int):Int:=IntKind.i64.wrap (2 + IntKind.i64.wrap (h * Bu n))
def A62:Hh:=⟨[.rd tI,.rd tI],[none,none],[.rd tI],[none]⟩
def Xg:SD:=⟨A62,fun x=>some (((Df x.1 x.2.1),()),(()))⟩
def Aot (a0 a1:Int):Option ((((Int)×Unit)×(Unit))):=
 some ((IntKind.i64.wrap (2 + IntKind.i64.wrap (a0 * Bu a1)),()),())
theorem A63 (a0 a1:Int):Aot a0 a1=some (((Df a0 a1),()),(())):=rfl
theorem Ac3:B8 Tryz.prog 99 Xg:=
 A7 (pat:=Ei) [] Ik (Bb (l:=[(96,Ny)]) ⟨Qk,trivial⟩) trivial Tryz.func99 (de:=fun x=>Aot x.1 x.2.1) (fun x r h=>(A63 x.1 x.2.1).trans h) fun _=>by kernel_rfl
def Uq (k:Aa):Bool:=Tk k
def Azt:Hh:=⟨[.rd .str],[none],[.rd .bool],[none]⟩
def Yo:SD:=⟨Azt,fun x=>some (((Uq x.1),()),(()))⟩
def Ahi (a0:Aa):Option ((((Bool)×Unit)×(Unit))):=
 some ((A9 (nI a0.size) 1 20,()),())
theorem Azu (a0:Aa):Ahi a0=some ((Uq a0,()),()):=rfl
theorem Ahj:B8 Tryz.prog 196 Yo:=
 A7 (pat:=Ei) [] Ik (Bb (l:=[(95,Do)]) ⟨D4,trivial⟩) trivial Tryz.func196 (de:=fun x=>Ahi x.1) (fun x r h=>(Azu x.1).trans h) fun _=>by kernel_rfl
def Hp (b:List Bc):Bool:=Az b
def Aq1:Hh:=⟨[.rd (.sl Dr)],[none],[.rd .bool],[none]⟩
def Gw:SD:=⟨Aq1,fun x=>some (((Hp x.1),()),(()))⟩
def m5:Tb:=tb [(95,Do),(196,Yo)]
def Gy:Nat→Dq×(Nat→Dq):=Hk [(5,⟨[.sl 9 0 Dr],[(9,.lf (.d (.sl Dr))),(10,.lf (.d tI)),(11,.lf (.d tI))],[]⟩,[(2,p0),(1,⟨[],[(2,.lf (.d .bool))],[]⟩)])]
def X0:Code:=(Ax (Bm Tryz.f118)).getD 0 .skip
def Je (v9:List Bc) (v10 v11:Int):Nat:=(v10 - v11).toNat + 1
def Jf {R:Type}  (NX:((List Bc)×(Int)×(Int)×Unit)→Option R) (X2:(Unit)→Option R) (X1:((Bool)×Unit)→Option R) (v9:List Bc) (v10:Int) (v11:Int):Option R:=
 bif decide (v11 < v10) then bif decide (0≤v11) then bif decide (v11 < nI v9.length) then bif !Uq (v9.getD v11.toNat (Ad,Ad,false,())).1 then X1 (false,()) else bif decide (nI (ByteArray.size (v9.getD v11.toNat (Ad,Ad,false,())).2.1) > 100) then X1 (false,()) else bif (v9.getD v11.toNat (Ad,Ad,false,())).2.2.1 then bif !ByteArray.toList (v9.getD v11.toNat (Ad,Ad,false,())).2.1==(Ad).toList then X1 (false,()) else NX (v9,v10,IntKind.i64.wrap (v11 + 1),()) else NX (v9,v10,IntKind.i64.wrap (v11 + 1),()) else none else none else X2 PUnit.unit
def Dg:Nat→(List Bc)→(Int)→(Int) →  Option ((Unit) ⊕ ((Bool)×Unit))
 | 0,_,_,_=>none
 | m + 1,v9,v10,v11=>Jf  (fun d=>Dg m d.1 d.2.1 d.2.2.1) (fun d=>some (.inl (d))) (fun d=>some (.inr (d))) v9 v10 v11
def Aki (d:(List Bc)×(Int)×(Int)×Unit):Option ((Unit) ⊕ ((Bool)×Unit)):=(Ac (Ac (Ac Ah))) (Dg ((Ac (Ac (Ac Ah))) Je d)) d
def S1 (a0:List Bc):Option ((((Bool)×Unit)×(Unit))):=
 bif !A9 (nI a0.length) 1 20 then some ((false,()),()) else ((fun d=>Dg (Je d.1 d.2.1 d.2.2.1) d.1 d.2.1 d.2.2.1) (a0,nI a0.length,0,())).bind fun val=>Cy (fun d=>some ((true,()),())) (fun d=>some (d,())) val
theorem Aq2 (a0:List Bc):S1 a0=some (((Hp a0),()),(())):=by
 unfold S1 Hp Az
 have tl:ByteArray.toList (Ad)=[]:=by decide +kernel
 show (bif !Bq (a0.length:Int) 1 20 then _ else _)=_
 cases hin:Bq (a0.length:Int) 1 20 with
 | false=>rfl
 | true=>
  have hlen:a0.length≤20:=by have:=(Cw hin).2; omega
  have hL:=Ns (n:=a0.length) (fun i=>Ro (a0.getD i zC)) (g:=fun m i=>Dg m a0 (nI a0.length) i) (ok:=.inl ()) (bad:=.inr (false,())) (fun m i hi=>by
   show Dg (m + 1) a0 (nI a0.length) i=_
   simp only [Dg,Jf]
   rw [tl,cLt hi,J1,wI (show i < 4611686018427387904 by omega),Fz]
   have g1:decide (nI (ByteArray.size (List.getD a0 i (Ad,Ad,false,())).2.1) > 100)=!decide ((a0.getD i zC).2.1.size≤100):=Ajw _ 100
   rw [g1]
   show (bif !Tk (a0.getD i zC).1 then _ else (bif _ then _ else (bif (a0.getD i zC).2.2.1 then (bif !((a0.getD i zC).2.1.toList==[]) then _ else _) else _)))=_
   unfold Ro
   cases Tk (a0.getD i zC).1<;>cases decide ((a0.getD i zC).2.1.size≤100)<;>cases (a0.getD i zC).2.2.1<;>cases ((a0.getD i zC).2.1.toList==[])<;>rfl) (fun m=>by
   show Dg (m + 1) a0 (nI a0.length) (a0.length:Int)=_
   simp only [Dg,Jf]
   rw [Qd]
   rfl) (Je a0 (nI a0.length) 0) 0 (by omega) (by simp [Je,nI])
  refine bi_ hL ?_
  rw [Nat.sub_zero]
  cases (List.range' 0 a0.length).all (fun i=>Ro (a0.getD i zC))<;>rfl
def X5 {R:Type} (k:Kt R):=(Cy (L7 (Gy 5) (.exit 0) 2 k) (L7 (Gy 5) .ret 1 k))
def Abi {R:Type}:Lt R Gy:=(Fp (pat:=Gy) 5 (fun d k=>(Aki d).bind (X5 k)) Ik)
theorem m6:A5 Tryz.prog m5:=Bb ⟨D4,Ahj,trivial⟩
theorem Akj {R:Type}:Ba Tryz.prog R 35 0 Gy Abi X0:=
 Cn (cfg:=⟨m5,0,35,Gy⟩) 5 [] (fun NX X d=>(Ac (Ac (Ac Ah))) (Jf  NX (fun e=>X (.inl (e))) (fun e=>X (.inr (e)))) d) (fun m d=>(Ac (Ac (Ac Ah))) (Dg m) d) (fun d=>(Ac (Ac (Ac Ah))) Je d) X5 m6 trivial (fun f NX d=>by simp only [u4,Ac,Ah]; unfold Jf; simp only [nb])
theorem Oy:B8 Tryz.prog 118 Gw:=
 A7 (pat:=Gy) [X0] Abi m6 ⟨Akj,trivial⟩ Tryz.func118 (de:=fun x=>S1 x.1) (fun x r h=>(Aq2 x.1).trans h) fun _=>by kernel_rfl
def Gd (s:Cv):Bool:=Ak s
def Aq3:Hh:=⟨[.rd F0],[some 1],[.rd .bool],[none]⟩
def Io:SD:=⟨Aq3,fun x=>some (((Gd x.1),()),(()))⟩
def m7:Tb:=tb [(196,Yo)]
def Gz:Nat→Dq×(Nat→Dq):=Hk [(5,⟨[.sl 10 0 A1,.boxSl 1 0 A1],[(1,.lf (.ptr 0 0)),(10,.lf (.d (.sl A1))),(11,.lf (.d tI)),(12,.lf (.d tI))],[.box 31 [.d (.sl A1)]]⟩,[(2,p0),(1,⟨[],[(2,.lf (.d .bool))],[]⟩)])]
def X6:Code:=(Ax (Bm Tryz.f150)).getD 0 .skip
def Fb (v10:List A2) (v11 v12:Int) (b0_0:List A2):Nat:=(v11 - v12).toNat + 1
def Jg {R:Type}  (NX:((List A2)×(Int)×(Int)×(List A2)×Unit)→Option R) (X2:(Unit)→Option R) (X1:((Bool)×Unit)→Option R) (v10:List A2) (v11:Int) (v12:Int) (b0_0:List A2):Option R:=
 bif decide (v12 < v11) then bif decide (0≤v12) then bif decide (v12 < nI v10.length) then bif !Uq (v10.getD v12.toNat (Ad,Ad,())).1 then X1 (false,()) else bif decide (nI (ByteArray.size (v10.getD v12.toNat (Ad,Ad,())).2.1) > 100) then X1 (false,()) else bif decide (v12 > 0) then bif decide (0≤IntKind.i64.wrap (v12 - 1)) then bif decide (IntKind.i64.wrap (v12 - 1) < nI b0_0.length) then bif !Op.bytesLess (ByteArray.toList (b0_0.getD (IntKind.i64.wrap (v12 - 1)).toNat (Ad,Ad,())).1) (ByteArray.toList (v10.getD v12.toNat (Ad,Ad,())).1) then X1 (false,()) else NX (v10,v11,IntKind.i64.wrap (v12 + 1),b0_0,()) else none else none else NX (v10,v11,IntKind.i64.wrap (v12 + 1),b0_0,()) else none else none else X2 PUnit.unit
def Cl:Nat→(List A2)→(Int)→(Int)→(List A2) →  Option ((Unit) ⊕ ((Bool)×Unit))
 | 0,_,_,_,_=>none
 | m + 1,v10,v11,v12,b0_0=>Jg  (fun d=>Cl m d.1 d.2.1 d.2.2.1 d.2.2.2.1) (fun d=>some (.inl (d))) (fun d=>some (.inr (d))) v10 v11 v12 b0_0
def Akk (d:(List A2)×(Int)×(Int)×(List A2)×Unit):Option ((Unit) ⊕ ((Bool)×Unit)):=(u4 Ah) (Cl ((u4 Ah) Fb d)) d
def S2 (a0:Cv):Option ((((Bool)×Unit)×(Unit))):=
 bif decide (nI (List.length a0.1) > 100) then some ((false,()),()) else ((fun d=>Cl (Fb d.1 d.2.1 d.2.2.1 d.2.2.2.1) d.1 d.2.1 d.2.2.1 d.2.2.2.1) (a0.1,nI (List.length a0.1),0,a0)).bind fun val=>Cy (fun d=>some ((true,()),())) (fun d=>some (d,())) val
theorem Aq4 (a0:Cv):S2 a0=some ((Gd a0,()),()):=by
 unfold S2 Gd Ak
 have c1:decide (nI a0.1.length > 100)=!decide (a0.1.length≤100):=Ajw _ 100
 by_cases hl:a0.1.length≤100
 ·have hL:=Ns (n:=a0.1.length) (Pa a0.1) (g:=fun m i=>Cl m a0.1 (nI a0.1.length) i a0.1) (ok:=.inl ()) (bad:=.inr (false,())) (fun m i hi=>by
   show Cl (m + 1) a0.1 (nI a0.1.length) i a0.1=_
   simp only [Cl,Jg]
   have g1:decide (nI (ByteArray.size (List.getD a0.1 i (Ad,Ad,())).2.1) > 100)=!decide (ByteArray.size (List.getD a0.1 i zP).2.1≤100):=Ajw _ 100
   rw [cLt hi,J1,wI (show i < 4611686018427387904 by omega),Fz,gt0,g1]
   simp only [cond_true]
   unfold Pa bl
   show (bif !Tk (List.getD a0.1 i zP).1 then _ else _)=_
   cases i with
   | zero=>
    show (bif !Tk (List.getD a0.1 0 zP).1 then _ else bif !decide (ByteArray.size (List.getD a0.1 0 zP).2.1≤100) then _ else _)=_
    cases Tk (List.getD a0.1 0 zP).1<;>cases decide (ByteArray.size (List.getD a0.1 0 zP).2.1≤100)<;>rfl
   | succ j=>
    rw [wP j (by omega),J1,cLt (show j < a0.1.length by omega)]
    show (bif !Tk (List.getD a0.1 (j + 1) zP).1 then _ else bif !decide (ByteArray.size (List.getD a0.1 (j + 1) zP).2.1≤100) then _ else bif !Op.bytesLess (ByteArray.toList (List.getD a0.1 j zP).1) (ByteArray.toList (List.getD a0.1 (j + 1) zP).1) then _ else _)=_
    rw [Nat.add_sub_cancel]
    cases Tk (List.getD a0.1 (j + 1) zP).1<;>cases decide (ByteArray.size (List.getD a0.1 (j + 1) zP).2.1≤100)<;>cases Op.bytesLess (ByteArray.toList (List.getD a0.1 j zP).1) (ByteArray.toList (List.getD a0.1 (j + 1) zP).1)<;>rfl) (fun m=>by
   show Cl (m + 1) a0.1 (nI a0.1.length) (a0.1.length:Int) a0.1=_
   simp only [Cl,Jg]
   rw [Qd]
   rfl) (Fb a0.1 (nI a0.1.length) 0 a0.1) 0 (by omega) (by simp [Fb,nI])
  have hL':Cl (Fb a0.1 (nI a0.1.length) 0 a0.1) a0.1 (nI a0.1.length) 0 a0.1=_:=hL
  rw [c1,Af hl]
  show (Cl (Fb a0.1 (nI a0.1.length) 0 a0.1) a0.1 (nI a0.1.length) 0 a0.1).bind _=_
  rw [hL']
  cases (List.range' 0 (a0.1.length - 0)).all (Pa a0.1)<;>rfl
 ·rw [c1,Bd hl]
  rfl
def X7 {R:Type} (k:Kt R):=(Cy (L7 (Gz 5) (.exit 0) 2 k) (L7 (Gz 5) .ret 1 k))
def Abj {R:Type}:Lt R Gz:=(Fp (pat:=Gz) 5 (fun d k=>(Akk d).bind (X7 k)) Ik)
theorem m8:A5 Tryz.prog m7:=Bb ⟨Ahj,trivial⟩
theorem Akl {R:Type}:Ba Tryz.prog R 44 0 Gz Abj X6:=
 Cn (cfg:=⟨m7,0,44,Gz⟩) 5 [] (fun NX X d=>(u4 Ah) (Jg  NX (fun e=>X (.inl (e))) (fun e=>X (.inr (e)))) d) (fun m d=>(u4 Ah) (Cl m) d) (fun d=>(u4 Ah) Fb d) X7 m8 trivial (fun f NX d=>by simp only [u4,Ac,Ah]; unfold Jg; simp only [nb])
theorem Oz:B8 Tryz.prog 150 Io:=
 A7 (pat:=Gz) [X6] Abj m8 ⟨Akl,trivial⟩ Tryz.func150 (de:=fun x=>S2 x.1) (fun x r h=>(Aq4 x.1).trans h) fun _=>by kernel_rfl
def Gq (s:Cv) (b:List Bc):Cv×Int:=Bx s b
def A64:Hh:=⟨[.rd F0,.rd (.sl Dr)],[some 1,none],[.own 157 A1,.rd tI],[some 1,none]⟩
def Ac4:SD:=⟨A64,fun x=>some (((Gq x.1 x.2.1).1.1,(Gq x.1 x.2.1).2,()),(()))⟩
def Xh:Tb:=⟨tbF [(118,Gw),(150,Io)],fun _=>none,none,none,some (177,178,31,29,157)⟩
def D7:Nat→Dq×(Nat→Dq):=Hk [(6,⟨[.sl 1 0 Dr,.sl 25 0 A1,.boxRow 4 0 157 A1],[(1,.lf (.d (.sl Dr))),(4,.lf (.ptr 0 0)),(6,.lf (.row 1)),(25,.lf (.d (.sl A1))),(26,.lf (.d tI)),(27,.lf (.d tI))],[.box 31 [.row 2],.map .str,.row 157 A1]⟩,[(2,⟨[.sl 1 0 Dr,.boxRow 4 0 157 A1],[(1,.lf (.d (.sl Dr))),(4,.lf (.ptr 0 0)),(6,.lf (.row 1))],[.box 31 [.row 2],.map .str,.row 157 A1]⟩)]),(11,⟨[.sl 37 0 Dr,.boxRow 4 0 157 A1],[(4,.lf (.ptr 0 0)),(6,.lf (.row 1)),(37,.lf (.d (.sl Dr))),(38,.lf (.d tI)),(39,.lf (.d tI))],[.box 31 [.row 2],.map .str,.row 157 A1]⟩,[(4,⟨[.boxRow 4 0 157 A1],[(4,.lf (.ptr 0 0)),(6,.lf (.row 1))],[.box 31 [.row 2],.map .str,.row 157 A1]⟩)]),(21,⟨[.boxRow 4 0 157 A1,.boxRow 11 0 157 A1],[(4,.lf (.ptr 0 0)),(11,.lf (.ptr 1 0)),(59,.lf (.row 2))],[.box 31 [.row 3],.box 31 [.row 4],.iter .str,.row 157 A1,.row 157 A1]⟩,[(6,⟨[.boxRow 4 0 157 A1,.boxRow 11 0 157 A1],[(4,.lf (.ptr 0 0)),(11,.lf (.ptr 1 0))],[.box 31 [.row 2],.box 31 [.row 3],.row 157 A1,.row 157 A1]⟩)])]
def Ahk:Code:=(Ax (Bm Tryz.f101)).getD 0 .skip
def Aee:Code:=(Ax (Bm Tryz.f101)).getD 1 .skip
def Aef:Code:=(Ax (Bm Tryz.f101)).getD 2 .skip
def Re (i2 l2:List (Aa×Aa)) (c2:Option (Aa×Aa)) (r3 r4:List A2) (e0 e1:Aa) (e2:List (Aa×Aa)):Option ((List (Aa×Aa))×(List (Aa×Aa))×(Option (Aa×Aa))×(List A2)×(List A2)×Unit):=
 bif decide ((r4.length + [(e0,e1,())].length) * 32≤140737488355328) then some (i2,e2,some (e0,e1),r3,r4++[(e0,e1,())],()) else none
def Aeg (i2 l2:List (Aa×Aa)) (c2:Option (Aa×Aa)) (r3 r4:List A2):Option ((List A2)×(List A2)×Unit):=
 some (r3,r4,())
def Wj {R:Type} (i2 l2:List (Aa×Aa)) (c2:Option (Aa×Aa)) (r3 r4:List A2) (kk:((List A2)×(List A2)×Unit)→Option R):Option R:=Bka (fun d:((List (Aa×Aa))×(List (Aa×Aa))×(Option (Aa×Aa))×(List A2)×(List A2)×Unit)=>d.2.1) (fun d e l=>Re d.1 d.2.1 d.2.2.1 d.2.2.2.1 d.2.2.2.2.1 e.1 e.2 l) (fun d=>(Aeg d.1 d.2.1 d.2.2.1 d.2.2.2.1 d.2.2.2.2.1).bind kk) (i2,l2,c2,r3,r4,())
def Ku (v37:List Bc) (v38 v39:Int) (m1:List (Aa×Aa)) (r2:List A2):Nat:=(v38 - v39).toNat + 1
def Nz {R:Type}  (NX:((List Bc)×(Int)×(Int)×(List (Aa×Aa))×(List A2)×Unit)→Option R) (X4:((List (Aa×Aa))×(List A2)×Unit)→Option R) (v37:List Bc) (v38:Int) (v39:Int) (m1:List (Aa×Aa)) (r2:List A2):Option R:=
 bif decide (v39 < v38) then bif decide (0≤v39) then bif decide (v39 < nI v37.length) then bif (v37.getD v39.toNat (Ad,Ad,false,())).2.2.1 then NX (v37,v38,IntKind.i64.wrap (v39 + 1),Aje (v37.getD v39.toNat (Ad,Ad,false,())).1 m1,r2,()) else NX (v37,v38,IntKind.i64.wrap (v39 + 1),f5 (v37.getD v39.toNat (Ad,Ad,false,())).1 (v37.getD v39.toNat (Ad,Ad,false,())).2.1 m1,r2,()) else none else none else X4 (m1,r2,())
def Es:Nat→(List Bc)→(Int)→(Int)→(List (Aa×Aa))→(List A2) →  Option ((List (Aa×Aa))×(List A2)×Unit)
 | 0,_,_,_,_,_=>none
 | m + 1,v37,v38,v39,m1,r2=>Nz  (fun d=>Es m d.1 d.2.1 d.2.2.1 d.2.2.2.1 d.2.2.2.2.1) (fun d=>some (d)) v37 v38 v39 m1 r2
def Awm (d:(List Bc)×(Int)×(Int)×(List (Aa×Aa))×(List A2)×Unit):Option ((List (Aa×Aa))×(List A2)×Unit):=(u4 (Ac Ah)) (Es ((u4 (Ac Ah)) Ku d)) d
def Mg (v1:List Bc) (v25:List A2) (v26 v27:Int) (m1:List (Aa×Aa)) (r2:List A2):Nat:=(v26 - v27).toNat + 1
def Pc {R:Type}  (NX:((List Bc)×(List A2)×(Int)×(Int)×(List (Aa×Aa))×(List A2)×Unit)→Option R) (X2:((List Bc)×(List (Aa×Aa))×(List A2)×Unit)→Option R) (v1:List Bc) (v25:List A2) (v26:Int) (v27:Int) (m1:List (Aa×Aa)) (r2:List A2):Option R:=
 bif decide (v27 < v26) then bif decide (0≤v27) then bif decide (v27 < nI v25.length) then NX (v1,v25,v26,IntKind.i64.wrap (v27 + 1),f5 (v25.getD v27.toNat (Ad,Ad,())).1 (v25.getD v27.toNat (Ad,Ad,())).2.1 m1,r2,()) else none else none else X2 (v1,m1,r2,())
def Fi:Nat→(List Bc)→(List A2)→(Int)→(Int)→(List (Aa×Aa))→(List A2) →  Option ((List Bc)×(List (Aa×Aa))×(List A2)×Unit)
 | 0,_,_,_,_,_,_=>none
 | m + 1,v1,v25,v26,v27,m1,r2=>Pc  (fun d=>Fi m d.1 d.2.1 d.2.2.1 d.2.2.2.1 d.2.2.2.2.1 d.2.2.2.2.2.1) (fun d=>some (d)) v1 v25 v26 v27 m1 r2
def Azv (d:(List Bc)×(List A2)×(Int)×(Int)×(List (Aa×Aa))×(List A2)×Unit):Option ((List Bc)×(List (Aa×Aa))×(List A2)×Unit):=(u4 (Ac (Ac Ah))) (Fi ((u4 (Ac (Ac Ah))) Mg d)) d
def Ac5 (a0:Cv) (a1:List Bc):Option ((((List A2)×(Int)×Unit)×(Unit))):=
 bif !Gd a0 then some (([],1,()),()) else bif !Hp a1 then some (([],1,()),()) else ((fun d=>Fi (Mg d.1 d.2.1 d.2.2.1 d.2.2.2.1 d.2.2.2.2.1 d.2.2.2.2.2.1) d.1 d.2.1 d.2.2.1 d.2.2.2.1 d.2.2.2.2.1 d.2.2.2.2.2.1) (a1,a0.1,nI (List.length a0.1),0,[],[],())).bind fun val=>((fun d=>Es (Ku d.1 d.2.1 d.2.2.1 d.2.2.2.1 d.2.2.2.2.1) d.1 d.2.1 d.2.2.1 d.2.2.2.1 d.2.2.2.2.1) (val.1,nI (List.length val.1),0,val.2)).bind fun val=>bif decide (nI val.1.length > 100) then some (([],2,()),()) else (fun d kk=>Wj d.1 d.2.1 d.2.2.1 d.2.2.2.1 d.2.2.2.2.1 kk) (val.1,val.1,none,val.2.1,[],()) fun d=>bif Gj d.2.1 then bif decide (d.2.1.length≤1000) then some ((List.foldr Azh [] d.2.1,0,()),()) else none else none
theorem Bev (v1:List Bc) (xs:List A2) (hx:xs.length≤100):Fi (Mg v1 xs (nI xs.length) 0 [] []) v1 xs (nI xs.length) 0 [] []=some (v1,A3y xs,[],()):=by
 have hL:=E6 (xs:=xs) zP (fun _ _=>True) (fun _ p m=>f5 p.1 p.2.1 m) (g:=fun m i M=>Fi m v1 xs (nI xs.length) i M []) (ok:=fun M=>(v1,M,[],())) (fun m i M hi _=>by
   show Fi (m + 1) v1 xs (nI xs.length) i M []=_
   simp only [Fi,Pc]
   rw [cLt hi,J1,wI (show i < 4611686018427387904 by omega),Fz]
   rfl) (fun _ _ _ _=>trivial) (fun m M _=>by
   show Fi (m + 1) v1 xs (nI xs.length) (xs.length:Int) M []=_
   simp only [Fi,Pc]
   rw [Qd]
   rfl) (Mg v1 xs (nI xs.length) 0 [] []) 0 [] (by omega) (by simp [Mg,nI]) trivial
 rw [List.drop_zero] at hL
 exact hL
theorem Bbl (b:List Bc) (m0:Mp) (hb:b.length≤20):Es (Ku b (nI b.length) 0 m0 []) b (nI b.length) 0 m0 []=some (Ds (fun _ c m=>Ayk c m) 0 b m0,[],()):=by
 have hL:=E6 (xs:=b) zC (fun _ _=>True) (fun _ c m=>Ayk c m) (g:=fun m i M=>Es m b (nI b.length) i M []) (ok:=fun M=>(M,[],())) (fun m i M hi _=>by
   show Es (m + 1) b (nI b.length) i M []=_
   simp only [Es,Nz]
   rw [cLt hi,J1,wI (show i < 4611686018427387904 by omega),Fz]
   simp only [cond_true]
   unfold Ayk
   show (bif (List.getD b i zC).2.2.1 then _ else _)=_
   cases (List.getD b i zC).2.2.1<;>rfl) (fun _ _ _ _=>trivial) (fun m M _=>by
   show Es (m + 1) b (nI b.length) (b.length:Int) M []=_
   simp only [Es,Nz]
   rw [Qd]
   rfl) (Ku b (nI b.length) 0 m0 []) 0 m0 (by omega) (by simp [Ku,nI]) trivial
 rw [List.drop_zero] at hL
 exact hL
theorem A65 (a0:Cv) (a1:List Bc):Ac5 a0 a1=some (((Gq a0 a1).1.1,(Gq a0 a1).2,()),(())):=by
 unfold Ac5 Gq Bx
 show (bif !Ak a0 then _ else bif !Az a1 then _ else _)=_
 cases hv:Ak a0 with
 | false=>rfl
 | true=>
  cases hb:Az a1 with
  | false=>rfl
  | true=>
   simp only [Bool.not_true,cond_false]
   have hl:=Cb hv
   have hb2:=Cw (B2 hb).1
   refine Yi (Bev a1 a0.1 hl) ?_
   dsimp only
   refine Yi (Bbl a1 (A3y a0.1) (by omega)) ?_
   dsimp only
   have hM:Ano (Ds (fun _ c m=>Ayk c m) 0 a1 (A3y a0.1)) (Pz a0.1 a1):=(Ano.init (Anc hv)).fold
   have hlen:=hM.len
   generalize Ds (fun _ c m=>Ayk c m) 0 a1 (A3y a0.1)=M at hM hlen
   by_cases q:M.length > 100
   ·rw [Af (show nI M.length > 100 by simp only [nI]; omega),Af (show (Pz a0.1 a1).length > 100 by omega)]
    rfl
   ·rw [Bd (show ¬ nI M.length > 100 by simp only [nI]; omega),Bd (show ¬ (Pz a0.1 a1).length > 100 by omega)]
    simp only [cond_false]
    unfold Wj
    refine Bo2 (m:=M.length + 1) ?_
    refine Bm9 M (Pz a0.1 a1) hM (by omega) (fun l c r=>(M,l,c,[],r,())) (fun _ _ _=>rfl) (fun l c r e l' hr=>?_) (fun c r h1 h2 h3=>?_) M.length M none [] rfl (List.Perm.refl _)
    ·show Re M l c [] r e.1 e.2 l'=_
     unfold Re
     rw [En,Af (show (r.length + 1) * 32≤140737488355328 by omega)]
     rfl
    ·show (bif Gj r then bif decide (r.length≤1000) then some ((T4 r,0,()),()) else none else none)=_
     rw [h1,Af h2,h3]
     rfl
def Ahl {R:Type} (k:Kt R):=(L7 (D7 6) (.exit 0) 2 k)
def Aeh {R:Type} (k:Kt R):=(L7 (D7 11) (.exit 2) 4 k)
def Awn {R:Type} (k:Kt R):=(L7 (D7 21) (.exit 4) 6 k)
def a7 {R:Type}:Lt R D7:=(Fp (pat:=D7) 6 (fun d k=>(Azv d).bind (Ahl k)) (Fp (pat:=D7) 11 (fun d k=>(Awm d).bind (Aeh k)) (Fp (pat:=D7) 21 (fun d k=>Wj d.1 d.2.1 d.2.2.1 d.2.2.2.1 d.2.2.2.2.1 (Awn k)) Ik)))
theorem Xi:A5 Tryz.prog Xh where
 sd:=Baz (l:=[(118,Gw),(150,Io)]) ⟨Oy,Oz,trivial⟩
 inl:=fun f fn h=>by cases h
 cc:=fun f BT h=>by cases h
 st:=fun f BT e h=>by cases h
 srt:=fun fs fc BT U e h=>by cases h; exact ⟨⟨_,Tryz.func177,by kernel_rfl,by kernel_rfl⟩,Bk8⟩
theorem Awo {R:Type}:Ba Tryz.prog R 79 0 D7 a7 Aef:=
 Bmq (cfg:=⟨Xh,0,79,D7⟩) (key:=21) (it:=.tmp 59) (sl:=60) (ii:=2) (xid:=4) (t:=.str) (by kernel_rfl) (by kernel_rfl) Xi rfl rfl rfl (by kernel_rfl) (by kernel_rfl) (xs:=fun d=>d.1) (left:=fun d=>d.2.1) (cur:=fun d=>d.2.2.1) (fun d=>rfl) (fun d=>rfl)
  (stp:=fun d e l=>Re d.1 d.2.1 d.2.2.1 d.2.2.2.1 d.2.2.2.2.1 e.1 e.2 l) (fin:=fun d=>Aeg d.1 d.2.1 d.2.2.1 d.2.2.2.1 d.2.2.2.2.1) (fun d e l=>by obtain ⟨i2,l2,c2,r3,r4,⟨⟩⟩:=d; obtain ⟨e0,e1⟩:=e; kernel_rfl) (fun d=>by obtain ⟨i2,l2,c2,r3,r4,⟨⟩⟩:=d; kernel_rfl) (fun d k=>rfl)
theorem Awp {R:Type}:Ba Tryz.prog R 79 0 D7 a7 Aee:=
 Cn (cfg:=⟨Xh,0,79,D7⟩) 11 [] (fun NX X d=>(u4 (Ac Ah)) (Nz  NX X) d) (fun m d=>(u4 (Ac Ah)) (Es m) d) (fun d=>(u4 (Ac Ah)) Ku d) Aeh Xi trivial (fun f NX d=>by simp only [u4,Ac,Ah]; unfold Nz; simp only [nb])
theorem Azw {R:Type}:Ba Tryz.prog R 79 0 D7 a7 Ahk:=
 Cn (cfg:=⟨Xh,0,79,D7⟩) 6 [] (fun NX X d=>(u4 (Ac (Ac Ah))) (Pc  NX X) d) (fun m d=>(u4 (Ac (Ac Ah))) (Fi m) d) (fun d=>(u4 (Ac (Ac Ah))) Mg d) Ahl Xi trivial (fun f NX d=>by simp only [u4,Ac,Ah]; unfold Pc; simp only [nb])
theorem Aou:B8 Tryz.prog 101 Ac4:=
 A7 (pat:=D7) [Ahk,Aee,Aef] a7 Xi ⟨Azw,Awp,Awo,trivial⟩ Tryz.func101 (de:=fun x=>Ac5 x.1 x.2.1) (fun x r h=>(A65 x.1 x.2.1).trans h) fun _=>by kernel_rfl
def Awq (v n:Int):Option Aa:=if 0≤n∧n≤1000 then some (Dm v n.toNat) else none
def Ur (v0 v6:Int) (r0:List Int):Nat:=v6.toNat + 2
def Bhk:Hh:=⟨[.rd tI,.rd tI],[none,none],[.rd .str],[none]⟩
def Wk:SD:=⟨Bhk,fun x=>(Awq x.1 x.2.1).bind fun r=>some ((r,()),(()))⟩
def A4p:Tb:=tb []
def Wl:Nat→Dq×(Nat→Dq):=Hk [(4,⟨[.row 5 0 5 (.int .u8)],[(0,.lf (.d tI)),(5,.lf (.row 0)),(6,.lf (.d tI))],[.row 5 (.int .u8)]⟩,[(2,⟨[.row 5 0 5 (.int .u8)],[(5,.lf (.row 0))],[.row 5 (.int .u8)]⟩)])]
def Atj:Code:=(Ax (Bm Tryz.f182)).getD 0 .skip
def Us {R:Type}  (NX:((Int)×(Int)×(List Int)×Unit)→Option R) (X2:((List Int)×Unit)→Option R) (v0:Int) (v6:Int) (r0:List Int):Option R:=
 bif decide (v6≥0) then bif decide (0≤v6) then bif decide (v6 < nI r0.length) then bif decide (v6.toNat < r0.length) then NX (v0.fdiv (2 ^ min (Int.toNat 8) 64),IntKind.i64.wrap (v6 - 1),r0.set v6.toNat (IntKind.u8.wrap v0),()) else none else none else none else X2 (r0,())
def O0:Nat→(Int)→(Int)→(List Int) →  Option ((List Int)×Unit)
 | 0,_,_,_=>none
 | m + 1,v0,v6,r0=>Us  (fun d=>O0 m d.1 d.2.1 d.2.2.1) (fun d=>some (d)) v0 v6 r0
def Bbm (d:(Int)×(Int)×(List Int)×Unit):Option ((List Int)×Unit):=(Ac (Ac (Ac Ah))) (O0 ((Ac (Ac (Ac Ah))) Ur d)) d
def Aq5 (a0 a1:Int):Option ((((Aa)×Unit)×(Unit))):=
 bif decide (a1=a1) then bif decide (0≤a1) then bif decide (a1.toNat * 1≤140737488355328) then ((fun d=>O0 (Ur d.1 d.2.1 d.2.2.1) d.1 d.2.1 d.2.2.1) (a0,IntKind.i64.wrap (a1 - 1),List.replicate a1.toNat 0,())).bind fun val=>some ((strOfNums val.1,()),()) else none else none else none
theorem Bjh:∀ (k m:Nat) (v:Int) (l t:List Int),l.length=k→k≤1000→k < m→O0 m v ((k:Int) - 1) (l++t)=some (Q6 v k++t,())
 | 0,m + 1,v,l,t,hl,hk,hm=>by
  obtain rfl:l=[]:=List.length_eq_zero_iff.1 hl
  simp only [O0,Us]
  rw [Bd (by omega)]
  rfl
 | k + 1,m + 1,v,l,t,hl,hk,hm=>by
  have e:(((k + 1:Nat):Int) - 1)=(k:Int):=by omega
  rw [e]
  simp only [O0,Us]
  have hlen:(l++t).length=k + 1 + t.length:=by rw [Dn,hl]
  rw [Af (show (k:Int)≥0 by omega),Af (show (k:Int) < nI (l++t).length by simp only [nI,hlen]; omega),Af (show Int.toNat (k:Int) < (l++t).length by rw [hlen]; omega),Aj (by omega) (by omega)]
  simp only [cond_true,Fz]
  obtain ⟨l',x,rfl⟩:∃ l' x,l=l'++[x]:=⟨l.dropLast,l.getLast (by intro h; subst h; simp at hl),(List.dropLast_concat_getLast _).symm⟩
  have hl':l'.length=k:=by simpa using hl
  have hs:((l'++[x])++t).set k (IntKind.wrap IntKind.u8 v)=l'++(v % 256::t):=by
   rw [List.append_assoc,List.set_append_right _ _ (by omega),hl']
   simp only [Nat.sub_self,List.singleton_append,List.set_cons_zero]
   rfl
  rw [hs]
  have:=Bjh k m (v / 256) l' (v % 256::t) hl' (by omega) (by omega)
  have e2:Int.fdiv v (2 ^ min (Int.toNat 8) 64)=v / 256:=by
   show Int.fdiv v 256=v / 256
   exact Int.fdiv_eq_ediv_of_nonneg _ (by omega)
  rw [e2,this]
  simp only [Q6,List.append_assoc,List.singleton_append]
theorem Bhl (a0 a1:Int) r (h:Awq a0 a1=some r):Aq5 a0 a1=some ((r,()),(())):=by
 unfold Awq at h
 split at h
 ·rename_i hc
  cases h
  obtain ⟨n,rfl⟩:∃ n:Nat,a1=(n:Int):=⟨a1.toNat,by omega⟩
  unfold Aq5
  rw [Af rfl,Af hc.1,Af (show Int.toNat (n:Int) * 1≤140737488355328 by omega),Aj (by omega) (by omega)]
  have hL:=Bjh n (Ur a0 ((n:Int) - 1) (List.replicate n 0)) a0 (List.replicate n 0) [] (by simp) (by omega) (by simp only [Ur]; omega)
  rw [List.append_nil,List.append_nil] at hL
  exact bi_ hL rfl
 ·cases h
def Atk {R:Type} (k:Kt R):=(L7 (Wl 4) (.exit 0) 2 k)
def A9t {R:Type}:Lt R Wl:=(Fp (pat:=Wl) 4 (fun d k=>(Bbm d).bind (Atk k)) Ik)
theorem A4q:A5 Tryz.prog A4p:=Bb trivial
theorem Bbn {R:Type}:Ba Tryz.prog R 24 0 Wl A9t Atj:=
 Cn (cfg:=⟨A4p,0,24,Wl⟩) 4 [] (fun NX X d=>(Ac (Ac (Ac Ah))) (Us  NX X) d) (fun m d=>(Ac (Ac (Ac Ah))) (O0 m) d) (fun d=>(Ac (Ac (Ac Ah))) Ur d) Atk A4q trivial (fun f NX d=>by simp only [u4,Ac,Ah]; unfold Us; simp only [nb])
theorem Ags:B8 Tryz.prog 182 Wk:=
 A7 (pat:=Wl) [Atj] A9t A4q ⟨Bbn,trivial⟩ Tryz.func182 (de:=fun x=>Aq5 x.1 x.2.1) (fun x r h=>Hf (Bhl x.1 x.2.1) h) fun _=>by kernel_rfl
def Fu (b:List Bc):Aa:=Be b
def Atl:Hh:=⟨[.rd (.sl Dr)],[none],[.rd .str],[none]⟩
def P1:SD:=⟨Atl,fun x=>some (((Fu x.1),()),(()))⟩
def Ut:Tb:=⟨tbF [(118,Gw),(182,Wk)],fun f=>if f=197 then some Tryz.f197 else none,some (227,209),some (198,209,5),none⟩
def Js:Nat→Dq×(Nat→Dq):=Hk [(6,⟨[.sl 9 0 Dr,.self 3 0,.boxRow 3 1 5 (.int .u8)],[(3,.lf (.ptr 0 0)),(9,.lf (.d (.sl Dr))),(10,.lf (.d tI)),(11,.lf (.d tI))],[.box 209 [.sp 0,.row 1],.row 5 (.int .u8)]⟩,[(2,⟨[.self 3 0,.boxRow 3 1 5 (.int .u8)],[(3,.lf (.ptr 0 0))],[.box 209 [.sp 0,.row 1],.row 5 (.int .u8)]⟩)])]
def Y6:Code:=(Ax (Bm Tryz.f120)).getD 0 .skip
def J9 (v9:List Bc) (v10 v11:Int) (r1:List Int):Nat:=(v10 - v11).toNat + 1
def Ka {R:Type}  (NX:((List Bc)×(Int)×(Int)×(List Int)×Unit)→Option R) (X2:((List Int)×Unit)→Option R) (v9:List Bc) (v10:Int) (v11:Int) (r1:List Int):Option R:=
 bif decide (v11 < v10) then bif decide (0≤v11) then bif decide (v11 < nI v9.length) then bif (v9.getD v11.toNat (Ad,Ad,false,())).2.2.1 then bif decide ((ByteArray.mk #[1]++Dm (nI (ByteArray.size (v9.getD v11.toNat (Ad,Ad,false,())).1)) (Int.toNat 1)).size + ByteArray.size (v9.getD v11.toNat (Ad,Ad,false,())).1≤9223372036854775807) then bif decide (r1.length + (ByteArray.mk #[1]++Dm (nI (ByteArray.size (v9.getD v11.toNat (Ad,Ad,false,())).1)) (Int.toNat 1)++(v9.getD v11.toNat (Ad,Ad,false,())).1).size≤140737488355328) then NX (v9,v10,IntKind.i64.wrap (v11 + 1),r1++Ae (ByteArray.mk #[1]++Dm (nI (ByteArray.size (v9.getD v11.toNat (Ad,Ad,false,())).1)) (Int.toNat 1)++(v9.getD v11.toNat (Ad,Ad,false,())).1),()) else none else none else bif decide ((ByteArray.mk #[0]++Dm (nI (ByteArray.size (v9.getD v11.toNat (Ad,Ad,false,())).1)) (Int.toNat 1)).size + ByteArray.size (v9.getD v11.toNat (Ad,Ad,false,())).1≤9223372036854775807) then bif decide ((ByteArray.mk #[0]++Dm (nI (ByteArray.size (v9.getD v11.toNat (Ad,Ad,false,())).1)) (Int.toNat 1)++(v9.getD v11.toNat (Ad,Ad,false,())).1).size + (Dm (nI (ByteArray.size (v9.getD v11.toNat (Ad,Ad,false,())).2.1)) (Int.toNat 1)).size≤9223372036854775807) then bif decide ((ByteArray.mk #[0]++Dm (nI (ByteArray.size (v9.getD v11.toNat (Ad,Ad,false,())).1)) (Int.toNat 1)++(v9.getD v11.toNat (Ad,Ad,false,())).1++Dm (nI (ByteArray.size (v9.getD v11.toNat (Ad,Ad,false,())).2.1)) (Int.toNat 1)).size + ByteArray.size (v9.getD v11.toNat (Ad,Ad,false,())).2.1≤9223372036854775807) then bif decide (r1.length + (ByteArray.mk #[0]++Dm (nI (ByteArray.size (v9.getD v11.toNat (Ad,Ad,false,())).1)) (Int.toNat 1)++(v9.getD v11.toNat (Ad,Ad,false,())).1++Dm (nI (ByteArray.size (v9.getD v11.toNat (Ad,Ad,false,())).2.1)) (Int.toNat 1)++(v9.getD v11.toNat (Ad,Ad,false,())).2.1).size≤140737488355328) then NX (v9,v10,IntKind.i64.wrap (v11 + 1),r1++Ae (ByteArray.mk #[0]++Dm (nI (ByteArray.size (v9.getD v11.toNat (Ad,Ad,false,())).1)) (Int.toNat 1)++(v9.getD v11.toNat (Ad,Ad,false,())).1++Dm (nI (ByteArray.size (v9.getD v11.toNat (Ad,Ad,false,())).2.1)) (Int.toNat 1)++(v9.getD v11.toNat (Ad,Ad,false,())).2.1),()) else none else none else none else none else none else none else X2 (r1,())
def Cg:Nat→(List Bc)→(Int)→(Int)→(List Int) →  Option ((List Int)×Unit)
 | 0,_,_,_,_=>none
 | m + 1,v9,v10,v11,r1=>Ka  (fun d=>Cg m d.1 d.2.1 d.2.2.1 d.2.2.2.1) (fun d=>some (d)) v9 v10 v11 r1
def Ant (d:(List Bc)×(Int)×(Int)×(List Int)×Unit):Option ((List Int)×Unit):=(u4 Ah) (Cg ((u4 Ah) J9 d)) d
def Uu (a0:List Bc):Option ((((Aa)×Unit)×(Unit))):=
 bif !Hp a0 then some ((Ad,()),()) else ((fun d=>Cg (J9 d.1 d.2.1 d.2.2.1 d.2.2.2.1) d.1 d.2.1 d.2.2.1 d.2.2.2.1) (a0,nI a0.length,0,[],())).bind fun val=>bif Ha val.1 then some ((strOfNums val.1,()),()) else none
theorem Atm (a0:List Bc):Uu a0=some ((Fu a0,()),(())):=by
 unfold Uu Fu Be
 show (bif !Az a0 then _ else _)=_
 cases hv:Az a0 with
 | false=>rfl
 | true=>
  obtain ⟨hlen,hok⟩:=Xe hv
  have hL:=Am2 a0.length A3i (fun i r=>r++Z3 (a0.getD i zC)) (g:=fun m i r=>Cg m a0 (nI a0.length) i r) (ok:=fun r=>(r,())) (fun m i r hi hr=>by
   show Cg (m + 1) a0 (nI a0.length) i r=_
   simp only [Cg,Ka]
   have hc:=hok i hi
   obtain ⟨k1,k2,k3⟩:=Am3 hc
   rw [cLt hi,J1,wI (show i < 4611686018427387904 by omega),Fz]
   show (bif (a0.getD i zC).2.2.1 then (bif decide (ByteArray.size (ByteArray.mk #[1]++Dm (nI (ByteArray.size (a0.getD i zC).1)) 1) + ByteArray.size (a0.getD i zC).1≤9223372036854775807) then (bif decide (List.length r + ByteArray.size (ByteArray.mk #[1]++Dm (nI (ByteArray.size (a0.getD i zC).1)) 1++(a0.getD i zC).1)≤140737488355328) then Cg m a0 (nI a0.length) ((i + 1:Nat):Int) (r++Ae (ByteArray.mk #[1]++Dm (nI (ByteArray.size (a0.getD i zC).1)) 1++(a0.getD i zC).1)) else none) else none) else (bif decide (ByteArray.size (ByteArray.mk #[0]++Dm (nI (ByteArray.size (a0.getD i zC).1)) 1) + ByteArray.size (a0.getD i zC).1≤9223372036854775807) then (bif decide (ByteArray.size (ByteArray.mk #[0]++Dm (nI (ByteArray.size (a0.getD i zC).1)) 1++(a0.getD i zC).1) + ByteArray.size (Dm (nI (ByteArray.size (a0.getD i zC).2.1)) 1)≤9223372036854775807) then (bif decide (ByteArray.size (ByteArray.mk #[0]++Dm (nI (ByteArray.size (a0.getD i zC).1)) 1++(a0.getD i zC).1++Dm (nI (ByteArray.size (a0.getD i zC).2.1)) 1) + ByteArray.size (a0.getD i zC).2.1≤9223372036854775807) then (bif decide (List.length r + ByteArray.size (ByteArray.mk #[0]++Dm (nI (ByteArray.size (a0.getD i zC).1)) 1++(a0.getD i zC).1++Dm (nI (ByteArray.size (a0.getD i zC).2.1)) 1++(a0.getD i zC).2.1)≤140737488355328) then Cg m a0 (nI a0.length) ((i + 1:Nat):Int) (r++Ae (ByteArray.mk #[0]++Dm (nI (ByteArray.size (a0.getD i zC).1)) 1++(a0.getD i zC).1++Dm (nI (ByteArray.size (a0.getD i zC).2.1)) 1++(a0.getD i zC).2.1)) else none) else none) else none) else none))=Cg m a0 (nI a0.length) ((i + 1:Nat):Int) (r++Z3 (a0.getD i zC))
   have hr1:=hr.1
   generalize a0.getD i zC=c at *
   have o1:Ae (ByteArray.mk #[1])=[1]:=rfl
   have o0:Ae (ByteArray.mk #[0])=[0]:=rfl
   have s1:ByteArray.size (ByteArray.mk #[1])=1:=rfl
   have s0:ByteArray.size (ByteArray.mk #[0])=1:=rfl
   simp only [Nt,Bdt _ (show c.1.size < 256 by omega),Bdt _ (show c.2.1.size < 256 by omega),o1,o0,ByteArray.size_append,K9,s1,s0]
   rw [Af (show 1 + 1 + c.1.size≤9223372036854775807 by omega),Af (show r.length + (1 + 1 + c.1.size)≤140737488355328 by omega),Af (show 1 + 1 + c.1.size + 1≤9223372036854775807 by omega),Af (show 1 + 1 + c.1.size + 1 + c.2.1.size≤9223372036854775807 by omega),Af (show r.length + (1 + 1 + c.1.size + 1 + c.2.1.size)≤140737488355328 by omega)]
   unfold Z3
   cases c.2.2.1<;>rfl) (fun m r _=>by
   show Cg (m + 1) a0 (nI a0.length) (a0.length:Int) r=_
   simp only [Cg,Ka]
   rw [Qd]
   rfl) (fun i r hi hr=>hr.step (hok i hi)) a0.length (J9 a0 (nI a0.length) 0 []) 0 [] (by omega) (by simp [J9,nI]) ⟨by simp,rfl⟩
  have hB:=Bdu hok a0.length 0 [] (by omega) ⟨by simp,rfl⟩
  rw [A3h Z3 zC a0 a0.length 0 [] (by omega),List.nil_append,List.drop_zero] at hL hB
  refine bi_ hL ?_
  show (bif Ha (I7 a0) then some ((strOfNums (I7 a0),()),()) else none)=_
  have:Ha (I7 a0)=true:=hB.2
  rw [this]
  rfl
def Y7 {R:Type} (k:Kt R):=(L7 (Js 6) (.exit 0) 2 k)
def Aei {R:Type}:Lt R Js:=(Fp (pat:=Js) 6 (fun d k=>(Ant d).bind (Y7 k)) Ik)
theorem Abk:A5 Tryz.prog Ut where
 sd:=Baz (l:=[(118,Gw),(182,Wk)]) ⟨Oy,Ags,trivial⟩
 inl:=fun f fn h=>by
  simp only [Ut] at h
  split at h
  ·rename_i e; subst e; cases h; exact ⟨Tryz.func197,by kernel_rfl,by kernel_rfl⟩
  cases h
 cc:=fun f BT h=>by cases h; exact ⟨⟨_,Tryz.func227,by kernel_rfl,by kernel_rfl⟩,Bo9⟩
 st:=fun f BT e h=>by cases h; exact ⟨⟨_,Tryz.func198,by kernel_rfl,by kernel_rfl⟩,Bpa⟩
 srt:=fun fs fc BT U e h=>by cases h
theorem Anu {R:Type}:Ba Tryz.prog R 45 0 Js Aei Y6:=
 Cn (cfg:=⟨Ut,0,45,Js⟩) 6 [] (fun NX X d=>(u4 Ah) (Ka  NX X) d) (fun m d=>(u4 Ah) (Cg m) d) (fun d=>(u4 Ah) J9 d) Y7 Abk trivial (fun f NX d=>by simp only [u4,Ac,Ah]; unfold Ka; simp only [nb])
theorem Uv:B8 Tryz.prog 120 P1:=
 A7 (pat:=Js) [Y6] Aei Abk ⟨Anu,trivial⟩ Tryz.func120 (de:=fun x=>Uu x.1) (fun x r h=>(Atm x.1).trans h) fun _=>by kernel_rfl
def Ib (s:Cv):List (List Bc):=Ed s
def Awr:Hh:=⟨[.rd F0],[some 1],[.rd (.sl (.sl Dr))],[none]⟩
def Wm:SD:=⟨Awr,fun x=>some (((Ib x.1),()),(()))⟩
def Aej:Tb:=tb [(150,Io)]
def Kv:Nat→Dq×(Nat→Dq):=Hk [(6,⟨[.last 3 99 Dr,.sl 10 0 A1],[(3,.lf (.row 0)),(10,.lf (.d (.sl A1))),(11,.lf (.d tI)),(12,.lf (.d tI))],[.last 73 Dr 1,.row 99 Dr]⟩,[(2,⟨[.last 3 99 Dr],[(3,.lf (.row 0))],[.last 73 Dr 1,.row 99 Dr]⟩)])]
def m9:Code:=(Ax (Bm Tryz.f179)).getD 0 .skip
def G0 (v10:List A2) (v11 v12:Int) (r0:List (List Bc)) (c0:Bool) (r1:List Bc):Nat:=(v11 - v12).toNat + 1
def Li {R:Type}  (NX:((List A2)×(Int)×(Int)×(List (List Bc))×(Bool)×(List Bc)×Unit)→Option R) (X2:((List (List Bc))×(Bool)×(List Bc)×Unit)→Option R) (v10:List A2) (v11:Int) (v12:Int) (r0:List (List Bc)) (c0:Bool) (r1:List Bc):Option R:=
 bif decide (v12 < v11) then bif decide (0≤v12) then bif decide (v12 < nI v10.length) then bif v12.tmod 20==0 then bif decide ((r0.length + c0.toNat + 1) * 24≤140737488355328) then bif decide (0≤IntKind.i64.wrap (nI ((bif c0 then r0++[r1] else r0).length + true.toNat) - 1)) then bif decide (IntKind.i64.wrap (nI ((bif c0 then r0++[r1] else r0).length + true.toNat) - 1) < nI ((bif c0 then r0++[r1] else r0).length + true.toNat)) then bif decide ((IntKind.i64.wrap (nI ((bif c0 then r0++[r1] else r0).length + true.toNat) - 1)).toNat=(bif c0 then r0++[r1] else r0).length) then bif decide (0≤IntKind.i64.wrap (nI ((bif c0 then r0++[r1] else r0).length + true.toNat) - 1)) then bif decide (IntKind.i64.wrap (nI ((bif c0 then r0++[r1] else r0).length + true.toNat) - 1) < nI ((bif c0 then r0++[r1] else r0).length + true.toNat)) then bif decide ((IntKind.i64.wrap (nI ((bif c0 then r0++[r1] else r0).length + true.toNat) - 1)).toNat=(bif c0 then r0++[r1] else r0).length) then NX (v10,v11,IntKind.i64.wrap (v12 + 1),bif c0 then r0++[r1] else r0,true,[]++[((v10.getD v12.toNat (Ad,Ad,())).1,(v10.getD v12.toNat (Ad,Ad,())).2.1,false,())],()) else none else none else none else none else none else none else none else bif decide (0≤IntKind.i64.wrap (nI (r0.length + c0.toNat) - 1)) then bif decide (IntKind.i64.wrap (nI (r0.length + c0.toNat) - 1) < nI (r0.length + c0.toNat)) then bif c0 then bif decide ((IntKind.i64.wrap (nI (r0.length + c0.toNat) - 1)).toNat=r0.length) then bif decide ((r1.length + [((v10.getD v12.toNat (Ad,Ad,())).1,(v10.getD v12.toNat (Ad,Ad,())).2.1,false,())].length) * 40≤140737488355328) then bif decide (0≤IntKind.i64.wrap (nI (r0.length + c0.toNat) - 1)) then bif decide (IntKind.i64.wrap (nI (r0.length + c0.toNat) - 1) < nI (r0.length + c0.toNat)) then bif c0 then bif decide ((IntKind.i64.wrap (nI (r0.length + c0.toNat) - 1)).toNat=r0.length) then NX (v10,v11,IntKind.i64.wrap (v12 + 1),r0,c0,r1++[((v10.getD v12.toNat (Ad,Ad,())).1,(v10.getD v12.toNat (Ad,Ad,())).2.1,false,())],()) else none else none else none else none else none else none else none else none else none else none else none else X2 (r0,c0,r1,())
def C8:Nat→(List A2)→(Int)→(Int)→(List (List Bc))→(Bool)→(List Bc) →  Option ((List (List Bc))×(Bool)×(List Bc)×Unit)
 | 0,_,_,_,_,_,_=>none
 | m + 1,v10,v11,v12,r0,c0,r1=>Li  (fun d=>C8 m d.1 d.2.1 d.2.2.1 d.2.2.2.1 d.2.2.2.2.1 d.2.2.2.2.2.1) (fun d=>some (d)) v10 v11 v12 r0 c0 r1
def Aq6 (d:(List A2)×(Int)×(Int)×(List (List Bc))×(Bool)×(List Bc)×Unit):Option ((List (List Bc))×(Bool)×(List Bc)×Unit):=(u4 (Ac (Ac Ah))) (C8 ((u4 (Ac (Ac Ah))) G0 d)) d
def Wn (a0:Cv):Option ((((List (List Bc))×Unit)×(Unit))):=
 bif !Gd a0 then some (([],()),()) else ((fun d=>C8 (G0 d.1 d.2.1 d.2.2.1 d.2.2.2.1 d.2.2.2.2.1 d.2.2.2.2.2.1) d.1 d.2.1 d.2.2.1 d.2.2.2.1 d.2.2.2.2.1 d.2.2.2.2.2.1) (a0.1,nI (List.length a0.1),0,[],false,[],())).bind fun val=>some ((bif val.2.1 then val.1++[val.2.2.1] else val.1,()),())
theorem Aws (a0:Cv):Wn a0=some (((Ib a0),()),(())):=by
 unfold Wn Ib Ed
 show (bif !Ak a0 then _ else _)=_
 cases hv:Ak a0 with
 | false=>rfl
 | true=>
  have hl:=Cb hv
  have hL:=E6 (xs:=a0.1) zP A89 Mr (g:=fun m i s=>C8 m a0.1 (nI a0.1.length) i s.1 s.2.1 s.2.2) (ok:=fun s=>(s.1,s.2.1,s.2.2,())) (fun m i s hi hI=>by
   show C8 (m + 1) a0.1 (nI a0.1.length) i s.1 s.2.1 s.2.2=_
   obtain ⟨r0,c0,r1⟩:=s
   obtain ⟨h1,h2,h3,h4⟩:=hI
   simp only at h2 h3 h4 ⊢
   simp only [C8,Li]
   rw [cLt hi,J1,wI (show i < 4611686018427387904 by omega),Fz,Bm3]
   unfold Mr
   cases hc:(i % 20==0)
   ·have hp:0 < i:=Nat.pos_of_ne_zero fun q=>by subst q; cases hc
    have hc0:=h3 hp
    subst hc0
    have e1:=Ba1 r0.length (by omega)
    have e2:decide ((r0.length:Int) < nI (r0.length + 1))=true:=cLt (Nat.lt_succ_self _)
    have e3:decide ((r1.length + 1) * 40≤140737488355328)=true:=Af (by omega)
    simp only [Bool.toNat_true,En,cond_true,cond_false,e1,e2,e3,J1,Fz,decide_true]
    rfl
   ·have hL:List.length (bif c0 then r0++[r1] else r0)≤i + 1:=by cases c0<;>simp<;>omega
    have e1:=Ba1 (List.length (bif c0 then r0++[r1] else r0)) (by omega)
    have e2:decide (((List.length (bif c0 then r0++[r1] else r0):Nat):Int) < nI (List.length (bif c0 then r0++[r1] else r0) + 1))=true:=cLt (Nat.lt_succ_self _)
    have e3:decide ((r0.length + Bool.toNat c0 + 1) * 24≤140737488355328)=true:=Af (by cases c0<;>simp<;>omega)
    simp only [Bool.toNat_true,cond_true,e1,e2,e3,J1,Fz,decide_true]
    rfl) (fun i s hi hI=>hI.step (by omega) _) (fun m s hI=>by
   show C8 (m + 1) a0.1 (nI a0.1.length) (a0.1.length:Int) s.1 s.2.1 s.2.2=_
   simp only [C8,Li]
   rw [Qd]
   rfl) (G0 a0.1 (nI a0.1.length) 0 [] false []) 0 ([],false,[]) (by omega) (by simp [G0,nI]) ⟨by omega,by simp,fun q=>by omega,by simp⟩
  have hL':C8 (G0 a0.1 (nI a0.1.length) 0 [] false []) a0.1 (nI a0.1.length) 0 [] false []=_:=hL
  show (C8 (G0 a0.1 (nI a0.1.length) 0 [] false []) a0.1 (nI a0.1.length) 0 [] false []).bind _=_
  rw [hL']
  rfl
def n0 {R:Type} (k:Kt R):=(L7 (Kv 6) (.exit 0) 2 k)
def Ahm {R:Type}:Lt R Kv:=(Fp (pat:=Kv) 6 (fun d k=>(Aq6 d).bind (n0 k)) Ik)
theorem Aek:A5 Tryz.prog Aej:=Bb ⟨Oz,trivial⟩
theorem Aq7 {R:Type}:Ba Tryz.prog R 43 0 Kv Ahm m9:=
 Cn (cfg:=⟨Aej,0,43,Kv⟩) 6 [] (fun NX X (d:(List A2)×(Int)×(Int)×(List (List Bc))×(Bool)×(List Bc)×Unit)=>(u4 (Ac (Ac Ah))) (Li  NX X) d) (fun m d=>(u4 (Ac (Ac Ah))) (C8 m) d) (fun d=>(u4 (Ac (Ac Ah))) G0 d) n0 Aek trivial (fun f NX (d:(List A2)×(Int)×(Int)×(List (List Bc))×(Bool)×(List Bc)×Unit)=>by simp only [u4,Ac,Ah]; unfold Li; simp only [nb])
theorem Ael:B8 Tryz.prog 179 Wm:=
 A7 (pat:=Kv) [m9] Ahm Aek ⟨Aq7,trivial⟩ Tryz.func179 (de:=fun x=>Wn x.1) (fun x r h=>(Aws x.1).trans h) fun _=>by kernel_rfl
def Bbo:Hh:=⟨[.rd tI],[none],[.rd tI],[none]⟩
def Atn (a0:Int):Option ((((Int)×Unit)×(Unit))):=
 some ((IntKind.i64.wrap (IntKind.i64.wrap (64 - a0) - 8),()),())
def Uw:SD:=⟨Bbo,fun x=>Atn x.1⟩
theorem a8:B8 Tryz.prog 147 Uw:=
 A7 (pat:=Ei) [] Ik (Bb (l:=[]) trivial) trivial Tryz.func147 (de:=fun x=>Atn x.1) (fun x r h=>h) fun _=>by kernel_rfl
def O1 (s:Aa) (w:Int):Option Int:=if s.size≤1099511627776 then some (E5 s.size w) else none
def A66:Hh:=⟨[.rd .str,.rd tI],[none,none],[.rd tI],[none]⟩
def Ac6:SD:=⟨A66,fun x=>(O1 x.1 x.2.1).bind fun r=>some ((r,()),(()))⟩
def Ac7 (a0:Aa) (a1:Int):Option ((((Int)×Unit)×(Unit))):=
 bif !A9 a1 1 8 then some ((0,()),()) else bif !decide (IntKind.i64.wrap (IntKind.i64.wrap (64 - a1) - 8)=0) then some ((if IntKind.i64.wrap ((IntKind.i64.wrap (IntKind.i64.wrap (nI a0.size + IntKind.i64.wrap (IntKind.i64.wrap (64 - a1) - 8)) - 1)).tdiv (IntKind.i64.wrap (IntKind.i64.wrap (64 - a1) - 8))) > 1 then IntKind.i64.wrap ((IntKind.i64.wrap (IntKind.i64.wrap (nI a0.size + IntKind.i64.wrap (IntKind.i64.wrap (64 - a1) - 8)) - 1)).tdiv (IntKind.i64.wrap (IntKind.i64.wrap (64 - a1) - 8))) else 1,()),()) else none
theorem A67 (a0:Aa) (a1:Int) r (h:O1 a0 a1=some r):Ac7 a0 a1=some ((r,()),(())):=by
 unfold O1 at h
 split at h
 ·rename_i hc
  cases h
  unfold Ac7 E5
  show (bif !Bq a1 1 8 then _ else _)=_
  cases hw:Bq a1 1 8 with
  | false=>rfl
  | true=>
   have k1:=(Cw hw).1
   have k2:=(Cw hw).2
   have hq:0≤((a0.size:Int) + (56 - a1) - 1) / (56 - a1):=Int.ediv_nonneg (by omega) (by omega)
   have hq2:((a0.size:Int) + (56 - a1) - 1) / (56 - a1)≤(a0.size:Int) + (56 - a1) - 1:=Int.ediv_le_self _ (by omega)
   rw [Aj (n:=64 - a1) (by omega) (by omega),Aj (n:=64 - a1 - 8) (by omega) (by omega),show 64 - a1 - 8=56 - a1 by omega]
   simp only [nI]
   rw [Aj (n:=(a0.size:Int) + (56 - a1)) (by omega) (by omega),Aj (n:=(a0.size:Int) + (56 - a1) - 1) (by omega) (by omega),Int.tdiv_eq_ediv_of_nonneg (by omega),Aj (n:=((a0.size:Int) + (56 - a1) - 1) / (56 - a1)) (by omega) (by omega),Bd (show ¬ (56 - a1=0) by omega)]
   rfl
 ·cases h
theorem Aov:B8 Tryz.prog 180 Ac6:=
 A7 (pat:=Ei) [] Ik (Bb (l:=[(95,Do),(147,Uw)]) ⟨D4,a8,trivial⟩) trivial Tryz.func180 (de:=fun x=>Ac7 x.1 x.2.1) (fun x r h=>Hf (A67 x.1 x.2.1) h) fun _=>by kernel_rfl
def Oo (s:Cv) (w:Int):Int:=C5 s w
def Bbp:Hh:=⟨[.rd F0,.rd tI],[some 1,none],[.rd tI],[none]⟩
def b4:SD:=⟨Bbp,fun x=>some (((Oo x.1 x.2.1),()),(()))⟩
def Ato:Tb:=tb [(95,Do),(120,P1),(179,Wm),(180,Ac6)]
def Rf:Nat→Dq×(Nat→Dq):=Hk [(6,⟨[.sl 12 0 (.sl Dr)],[(1,.lf (.d tI)),(5,.lf (.d tI)),(12,.lf (.d (.sl (.sl Dr)))),(13,.lf (.d tI)),(14,.lf (.d tI))],[]⟩,[(2,⟨[],[(5,.lf (.d tI))],[]⟩)])]
def Akm:Code:=(Ax (Bm Tryz.f102)).getD 0 .skip
def Lj (v1 v5:Int) (v12:List (List Bc)) (v13 v14:Int):Nat:=(v13 - v14).toNat + 1
def Ql {R:Type}  (NX:((Int)×(Int)×(List (List Bc))×(Int)×(Int)×Unit)→Option R) (X2:((Int)×Unit)→Option R) (v1:Int) (v5:Int) (v12:List (List Bc)) (v13:Int) (v14:Int):Option R:=
 bif decide (v14 < v13) then bif decide (0≤v14) then bif decide (v14 < nI v12.length) then ((O1 (Fu (v12.getD v14.toNat [])) v1).bind fun val=>some ((val,()),())).bind fun val=>NX (v1,IntKind.i64.wrap (v5 + val.1.1),v12,v13,IntKind.i64.wrap (v14 + 1),()) else none else none else X2 (v5,())
def Fc:Nat→(Int)→(Int)→(List (List Bc))→(Int)→(Int) →  Option ((Int)×Unit)
 | 0,_,_,_,_,_=>none
 | m + 1,v1,v5,v12,v13,v14=>Ql  (fun d=>Fc m d.1 d.2.1 d.2.2.1 d.2.2.2.1 d.2.2.2.2.1) (fun d=>some (d)) v1 v5 v12 v13 v14
def A4r (d:(Int)×(Int)×(List (List Bc))×(Int)×(Int)×Unit):Option ((Int)×Unit):=(u4 (Ac Ah)) (Fc ((u4 (Ac Ah)) Lj d)) d
def Agt (a0:Cv) (a1:Int):Option ((((Int)×Unit)×(Unit))):=
 bif !A9 a1 1 8 then some ((0,()),()) else ((fun d=>Fc (Lj d.1 d.2.1 d.2.2.1 d.2.2.2.1 d.2.2.2.2.1) d.1 d.2.1 d.2.2.1 d.2.2.2.1 d.2.2.2.2.1) (a1,0,Ib a0,nI (Ib a0).length,0,())).bind fun val=>some (val,())
theorem Bbq (a0:Cv) (a1:Int):Agt a0 a1=some (((Oo a0 a1),()),(())):=by
 unfold Agt Oo
 show (bif !Bq a1 1 8 then _ else _)=_
 cases hw:Bq a1 1 8 with
 | false=>unfold C5; rw [hw]; rfl
 | true=>
  have hl:=Tl a0
  have hL:=E6 (xs:=Ed a0) [] Bgr (fun _ b a=>a + E5 (Be b).size a1) (g:=fun m i a=>Fc m a1 a (Ed a0) (nI (Ed a0).length) i) (ok:=fun a=>(a,())) (fun m i a hi hI=>by
   show Fc (m + 1) a1 a (Ed a0) (nI (Ed a0).length) i=_
   simp only [Fc,Ql]
   rw [cLt hi,J1,wI (show i < 4611686018427387904 by omega),Fz]
   have e1:O1 (Fu (List.getD (Ed a0) i [])) a1=some (E5 (Be (List.getD (Ed a0) i [])).size a1):=if_pos (Nat.le_trans (La _) (by decide))
   rw [e1]
   simp only [cond_true,Option.bind_some]
   rw [A3l hI]) (fun i a hi hI=>hI.step (by omega) _ _) (fun m a hI=>by
   show Fc (m + 1) a1 a (Ed a0) (nI (Ed a0).length) ((Ed a0).length:Int)=_
   simp only [Fc,Ql]
   rw [Qd]
   rfl) (Lj a1 0 (Ed a0) (nI (Ed a0).length) 0) 0 0 (by omega) (by simp [Lj,nI]) ⟨by omega,by omega,by omega⟩
  have hL':Fc (Lj a1 0 (Ed a0) (nI (Ed a0).length) 0) a1 0 (Ed a0) (nI (Ed a0).length) 0=_:=hL
  show (Fc (Lj a1 0 (Ed a0) (nI (Ed a0).length) 0) a1 0 (Ed a0) (nI (Ed a0).length) 0).bind _=_
  rw [hL',Am5,List.drop_zero,Bd0,Int.zero_add]
  rfl
def Akn {R:Type} (k:Kt R):=(L7 (Rf 6) (.exit 0) 2 k)
def Ayt {R:Type}:Lt R Rf:=(Fp (pat:=Rf) 6 (fun d k=>(A4r d).bind (Akn k)) Ik)
theorem Atp:A5 Tryz.prog Ato:=Bb ⟨D4,Uv,Ael,Aov,trivial⟩
theorem A4s {R:Type}:Ba Tryz.prog R 26 0 Rf Ayt Akm:=
 Cn (cfg:=⟨Ato,0,26,Rf⟩) 6 [] (fun NX X d=>(u4 (Ac Ah)) (Ql  NX X) d) (fun m d=>(u4 (Ac Ah)) (Fc m) d) (fun d=>(u4 (Ac Ah)) Lj d) Akn Atp trivial (fun f NX d=>by simp only [u4,Ac,Ah]; unfold Ql; simp only [nb])
theorem Agu:B8 Tryz.prog 102 b4:=
 A7 (pat:=Rf) [Akm] Ayt Atp ⟨A4s,trivial⟩ Tryz.func102 (de:=fun x=>Agt x.1 x.2.1) (fun x r h=>(Bbq x.1 x.2.1).trans h) fun _=>by kernel_rfl
def Ip (r:Rt):Bool:=I6 r
def Atq:Hh:=⟨[.rd yRt],[some 4],[.rd .bool],[none]⟩
def P2:SD:=⟨Atq,fun x=>some (((Ip x.1),()),(()))⟩
def Ux (a0:Rt):Option ((((Bool)×Unit)×(Unit))):=
 bif A9 a0.2.1 0 1 then some ((A9 a0.2.2.1 1 999999000,()),()) else some ((false,()),())
theorem Atr (a0:Rt):Ux a0=some (((Ip a0),()),(())):=by
 unfold Ux Ip I6
 show (bif Bq a0.2.1 0 1 then _ else _)=_
 cases Bq a0.2.1 0 1<;>rfl
theorem Uy:B8 Tryz.prog 175 P2:=
 A7 (pat:=Ei) [] Ik (Bb (l:=[(95,Do)]) ⟨D4,trivial⟩) trivial Tryz.func175 (de:=fun x=>Ux x.1) (fun x r h=>(Atr x.1).trans h) fun _=>by kernel_rfl
def Hq (s:Ez):Bool:=As s
def Aq8:Hh:=⟨[.rd Yg],[some 10],[.rd .bool],[none]⟩
def Lk:SD:=⟨Aq8,fun x=>some (((Hq x.1),()),(()))⟩
def S3 (a0:Ez):Option ((((Bool)×Unit)×(Unit))):=
 bif decide (Bu a0.2.1 > 0) then bif A9 a0.1 1 8 then bif A9 a0.2.2.1 1 60000 then bif A9 a0.2.2.2.1.1 0 1000000000 then bif Ip a0.2.2.2.1 then bif A9 a0.2.2.2.1.2.2.2.1 0 60000 then bif A9 a0.2.2.2.2.1 0 (Bu a0.2.1) then bif A9 a0.2.2.2.2.2.1 0 a0.2.2.2.2.1 then bif Gd a0.2.2.2.2.2.2.1 then some ((decide (Oo a0.2.2.2.2.2.2.1 a0.1≤IntKind.i64.wrap (Bu a0.2.1 - 1)),()),()) else some ((false,()),()) else some ((false,()),()) else some ((false,()),()) else some ((false,()),()) else some ((false,()),()) else some ((false,()),()) else some ((false,()),()) else some ((false,()),()) else some ((false,()),())
theorem Aq9 (a0:Ez):S3 a0=some (((Hq a0),()),(())):=by
 unfold S3 Hq As
 simp only [Bu,A9,Ip,Gd,Oo,gt_iff_lt,Tm,Bpb]
theorem O2:B8 Tryz.prog 117 Lk:=
 A7 (pat:=Ei) [] Ik (Bb (l:=[(95,Do),(96,Ny),(102,b4),(150,Io),(175,P2)]) ⟨D4,Qk,Agu,Oz,Uy,trivial⟩) trivial Tryz.func117 (de:=fun x=>S3 x.1) (fun x r h=>(Aq9 x.1).trans h) fun _=>by kernel_rfl
def Rg (p:Pg) (w:Int):Bool:=Ee p w
def Ats:Hh:=⟨[.rd yPg,.rd tI],[some 4,none],[.rd .bool],[none]⟩
def Abl:SD:=⟨Ats,fun x=>some (((Rg x.1 x.2.1),()),(()))⟩
def Uz (a0:Pg) (a1:Int):Option ((((Bool)×Unit)×(Unit))):=
 bif A9 a1 1 8 then bif A9 a0.1 1 4 then bif A9 a0.2.1 1 60000 then bif A9 a0.2.2.1 1 1000000000 then bif decide (nI (ByteArray.size a0.2.2.2.1)≤IntKind.i64.wrap (IntKind.i64.wrap (64 - a1) - 8)) then bif a0.1 != 3 then some ((true,()),()) else some ((ByteArray.toList a0.2.2.2.1==(Ad).toList,()),()) else some ((false,()),()) else some ((false,()),()) else some ((false,()),()) else some ((false,()),()) else some ((false,()),())
theorem Att (a0:Pg) (a1:Int):Uz a0 a1=some (((Rg a0 a1),()),(())):=by
 unfold Uz Rg Ee
 have tl:ByteArray.toList (Ad)=[]:=by decide +kernel
 rw [tl]
 show (bif Bq a1 1 8 then (bif Bq a0.1 1 4 then (bif Bq a0.2.1 1 60000 then (bif Bq a0.2.2.1 1 1000000000 then _ else _) else _) else _) else _)=_
 cases hw:Bq a1 1 8 with
 | false=>rfl
 | true=>
  have k1:=G8 (B2 hw).1
  have k2:=G8 (B2 hw).2
  rw [Aj (n:=64 - a1) (by omega) (by omega),Aj (by omega) (by omega),show 64 - a1 - 8=56 - a1 by omega]
  cases Bq a0.1 1 4<;>cases Bq a0.2.1 1 60000<;>cases Bq a0.2.2.1 1 1000000000<;>try rfl
  show (bif decide ((ByteArray.size a0.2.2.2.1:Int)≤56 - a1) then _ else _)=_
  cases decide ((ByteArray.size a0.2.2.2.1:Int)≤56 - a1)<;>cases (a0.1 != 3)<;>rfl
theorem Atu:B8 Tryz.prog 181 Abl:=
 A7 (pat:=Ei) [] Ik (Bb (l:=[(95,Do),(147,Uw)]) ⟨D4,a8,trivial⟩) trivial Tryz.func181 (de:=fun x=>Uz x.1 x.2.1) (fun x r h=>(Att x.1 x.2.1).trans h) fun _=>by kernel_rfl
def Atv:Hh:=⟨[.rd .str,.rd (.int .i64)],[none,none],[.rd .str],[none]⟩
def P3:SD:=⟨Atv,fun x=>(Acz x.1 x.2.1).bind fun r=>some ((r,()),())⟩
theorem Abm:O9 Tryz.prog 183∧Ajc Tryz.prog 183 P3.sg P3.den:=⟨⟨_,Tryz.func183,by kernel_rfl,by kernel_rfl⟩,Bm2⟩
def Wo (s:Aa) (w:Int):Option Aa:=if s.size < 4611686018427387904 then some (Asv s w) else none
def Rz (v0:Aa) (v1 v5 v6:Int):Nat:=(nI v0.size - v6).toNat + 1
def Bew:Hh:=⟨[.rd .str,.rd tI],[none,none],[.rd .str],[none]⟩
def Ayu:SD:=⟨Bew,fun x=>(Wo x.1 x.2.1).bind fun r=>some ((r,()),(()))⟩
def Ayv:Tb:=tb [(95,Do),(182,Wk)]
def Tp:Nat→Dq×(Nat→Dq):=Hk [(6,⟨[],[(0,.lf (.d .str)),(1,.lf (.d tI)),(5,.lf (.d (.int .u64))),(6,.lf (.d tI))],[]⟩,[(2,⟨[],[(1,.lf (.d tI)),(5,.lf (.d (.int .u64)))],[]⟩)])]
def Aow:Code:=(Ax (Bm Tryz.f184)).getD 0 .skip
def R0 {R:Type}  (NX:((Aa)×(Int)×(Int)×(Int)×Unit)→Option R) (X2:((Int)×(Int)×Unit)→Option R) (v0:Aa) (v1:Int) (v5:Int) (v6:Int):Option R:=
 bif decide (v6 < nI v0.size) then bif decide (0≤v6) then bif decide (v6 < nI v0.size) then NX (v0,v1,IntKind.u64.wrap (IntKind.u64.wrap (nI (BitVec.ofInt 64 v5 ^^^ BitVec.ofInt 64 (IntKind.u64.wrap (Aq v0 v6))).toNat) * 1099511628211),IntKind.i64.wrap (v6 + 1),()) else none else none else X2 (v1,v5,())
def Iz:Nat→(Aa)→(Int)→(Int)→(Int) →  Option ((Int)×(Int)×Unit)
 | 0,_,_,_,_=>none
 | m + 1,v0,v1,v5,v6=>R0  (fun d=>Iz m d.1 d.2.1 d.2.2.1 d.2.2.2.1) (fun d=>some (d)) v0 v1 v5 v6
def A68 (d:(Aa)×(Int)×(Int)×(Int)×Unit):Option ((Int)×(Int)×Unit):=(u4 Ah) (Iz ((u4 Ah) Rz d)) d
def Ako (a0:Aa) (a1:Int):Option ((((Aa)×Unit)×(Unit))):=
 bif !A9 a1 1 8 then some ((Ad,()),()) else ((fun d=>Iz (Rz d.1 d.2.1 d.2.2.1 d.2.2.2.1) d.1 d.2.1 d.2.2.1 d.2.2.2.1) (a0,a1,14695981039346656037,0,())).bind fun val=>bif decide (0≤IntKind.i64.wrap (8 - val.1)) then bif decide (IntKind.i64.wrap (8 - val.1)≤nI (Dm (IntKind.i64.wrap val.2.1) (Int.toNat 8)).size) then some ((Ag (Dm (IntKind.i64.wrap val.2.1) (Int.toNat 8)) (IntKind.i64.wrap (8 - val.1)) (nI (Dm (IntKind.i64.wrap val.2.1) (Int.toNat 8)).size),()),()) else none else none
theorem Bex (a0:Aa) (a1:Int) r (h:Wo a0 a1=some r):Ako a0 a1=some ((r,()),(())):=by
 unfold Wo at h
 split at h
 rotate_left
 ·cases h
 rename_i hsz
 cases h
 unfold Ako Asv
 generalize hC:(14695981039346656037:Int)=C
 have h0:U64 C:=by rw [← hC]; exact ⟨by decide,by decide⟩
 show (bif !Bq a1 1 8 then _ else _)=_
 cases hw:Bq a1 1 8 with
 | false=>rfl
 | true=>
  have k1:=G8 (B2 hw).1
  have k2:=G8 (B2 hw).2
  ·simp only [Bool.not_true,cond_false,cond_true]
   have hL:=Am2 a0.size (fun _ _=>True) (fun i h=>Ajv h (Aq a0 i)) (g:=fun m i h=>Iz m a0 a1 h i) (ok:=fun h=>(a1,h,())) (fun m i h hi _=>by
    show Iz (m + 1) a0 a1 h i=_
    simp only [Iz,R0]
    have c1:(i:Int) < nI a0.size:=by simp only [nI]; omega
    rw [Af c1,J1,wI (show i < 4611686018427387904 by omega)]
    rfl) (fun m h _=>by
    show Iz (m + 1) a0 a1 h a0.size=_
    simp only [Iz,R0]
    rw [Bd (show ¬ ((a0.size:Int) < nI a0.size) by simp only [nI]; omega)]
    rfl) (fun _ _ _ _=>trivial) a0.size (Rz a0 a1 C 0) 0 C (by omega) (by simp only [Rz,nI]; omega) trivial
   rw [show ((0:Nat):Int)=0 from rfl] at hL
   refine bi_ hL ?_
   have e1:IntKind.i64.wrap (8 - a1)=8 - a1:=Aj (by omega) (by omega)
   have hh:=Biq a0 a0.size 0 h0
   have eH:iter (fun i h=>Ajv h (Aq a0 i)) a0.size 0 C=Av4 a0 a0.size 0 C:=rfl
   rw [eH]
   generalize Av4 a0 a0.size 0 C=H at hh ⊢
   show (bif decide (0≤IntKind.i64.wrap (8 - a1)) then (bif decide (IntKind.i64.wrap (8 - a1)≤nI (ByteArray.size (Dm (IntKind.i64.wrap H) (Int.toNat 8)))) then some ((Ag (Dm (IntKind.i64.wrap H) (Int.toNat 8)) (IntKind.i64.wrap (8 - a1)) (nI (ByteArray.size (Dm (IntKind.i64.wrap H) (Int.toNat 8)))),()),()) else none) else none)=some ((Dm H a1.toNat,()),())
   rw [e1,Bo7 hh k1 k2,Af (show 0≤8 - a1 by omega),Af (show 8 - a1≤nI (ByteArray.size (Dm (IntKind.i64.wrap H) (Int.toNat 8))) by rw [K9]; simp [nI]; omega)]
   rfl
def Aox {R:Type} (k:Kt R):=(L7 (Tp 6) (.exit 0) 2 k)
def A4t {R:Type}:Lt R Tp:=(Fp (pat:=Tp) 6 (fun d k=>(A68 d).bind (Aox k)) Ik)
theorem Ayw:A5 Tryz.prog Ayv:=Bb ⟨D4,Ags,trivial⟩
theorem A69 {R:Type}:Ba Tryz.prog R 29 0 Tp A4t Aow:=
 Cn (cfg:=⟨Ayv,0,29,Tp⟩) 6 [] (fun NX X d=>(u4 Ah) (R0  NX X) d) (fun m d=>(u4 Ah) (Iz m) d) (fun d=>(u4 Ah) Rz d) Aox Ayw trivial (fun f NX d=>by simp only [u4,Ac,Ah]; unfold R0; simp only [nb])
theorem Bey:B8 Tryz.prog 184 Ayu:=
 A7 (pat:=Tp) [Aow] A4t Ayw ⟨A69,trivial⟩ Tryz.func184 (de:=fun x=>Ako x.1 x.2.1) (fun x r h=>Hf (Bex x.1 x.2.1) h) fun _=>by kernel_rfl
def Dw (p:Pg) (w:Int):Aa:=Ca p w
def Awt:Hh:=⟨[.rd yPg,.rd tI],[some 4,none],[.rd .str],[none]⟩
def Kw:SD:=⟨Awt,fun x=>some (((Dw x.1 x.2.1),()),(()))⟩
def Wp (a0:Pg) (a1:Int):Option ((((Aa)×Unit)×(Unit))):=
 bif !Rg a0 a1 then some ((Ad,()),()) else bif decide ((Dm a0.1 (Int.toNat 1)++Dm a0.2.1 (Int.toNat 2)++Dm a0.2.2.1 (Int.toNat 4)++Dm (nI (ByteArray.size a0.2.2.2.1)) (Int.toNat 1)).size + ByteArray.size a0.2.2.2.1≤9223372036854775807) then ((Acz (ByteArray.mk #[0]) (IntKind.i64.wrap (IntKind.i64.wrap (64 - a1) - nI (Dm a0.1 (Int.toNat 1)++Dm a0.2.1 (Int.toNat 2)++Dm a0.2.2.1 (Int.toNat 4)++Dm (nI (ByteArray.size a0.2.2.2.1)) (Int.toNat 1)++a0.2.2.2.1).size))).bind fun val=>some ((val,()),())).bind fun val=>bif decide ((Dm a0.1 (Int.toNat 1)++Dm a0.2.1 (Int.toNat 2)++Dm a0.2.2.1 (Int.toNat 4)++Dm (nI (ByteArray.size a0.2.2.2.1)) (Int.toNat 1)++a0.2.2.2.1).size + ByteArray.size val.1.1≤9223372036854775807) then ((Wo (Dm a0.1 (Int.toNat 1)++Dm a0.2.1 (Int.toNat 2)++Dm a0.2.2.1 (Int.toNat 4)++Dm (nI (ByteArray.size a0.2.2.2.1)) (Int.toNat 1)++a0.2.2.2.1++val.1.1) a1).bind fun val=>some ((val,()),())).bind fun val_1=>bif decide (ByteArray.size val_1.1.1 + (Dm a0.1 (Int.toNat 1)++Dm a0.2.1 (Int.toNat 2)++Dm a0.2.2.1 (Int.toNat 4)++Dm (nI (ByteArray.size a0.2.2.2.1)) (Int.toNat 1)++a0.2.2.2.1++val.1.1).size≤9223372036854775807) then some ((val_1.1.1++(Dm a0.1 (Int.toNat 1)++Dm a0.2.1 (Int.toNat 2)++Dm a0.2.2.1 (Int.toNat 4)++Dm (nI (ByteArray.size a0.2.2.2.1)) (Int.toNat 1)++a0.2.2.2.1++val.1.1),()),()) else none else none else none
theorem Awu (a0:Pg) (a1:Int):Wp a0 a1=some (((Dw a0 a1),()),(())):=by
 unfold Wp Dw Ca
 show (bif !Ee a0 a1 then _ else _)=_
 cases hp:Ee a0 a1 with
 | false=>rfl
 | true=>
  obtain ⟨hw,k1,k2,kp⟩:=g8 hp
  simp only [Bool.not_true,cond_false,cond_true]
  have hb:Jm a0 a1=Dm a0.1 1++Dm a0.2.1 2++Dm a0.2.2.1 4++Dm (nI a0.2.2.2.1.size) 1++a0.2.2.2.1++strOfNums (List.replicate (56 - a1 - a0.2.2.2.1.size).toNat 0):=rfl
  have hs4:(Dm a0.1 1++Dm a0.2.1 2++Dm a0.2.2.1 4++Dm (nI a0.2.2.2.1.size) 1).size=8:=by simp only [ByteArray.size_append,K9]
  have hs5:(Dm a0.1 1++Dm a0.2.1 2++Dm a0.2.2.1 4++Dm (nI a0.2.2.2.1.size) 1++a0.2.2.2.1).size=8 + a0.2.2.2.1.size:=by rw [ByteArray.size_append,hs4]
  show (bif decide ((Dm a0.1 1++Dm a0.2.1 2++Dm a0.2.2.1 4++Dm (nI a0.2.2.2.1.size) 1).size + a0.2.2.2.1.size≤9223372036854775807) then Option.bind (Option.bind (Acz (ByteArray.mk #[0]) (IntKind.i64.wrap (IntKind.i64.wrap (64 - a1) - nI (Dm a0.1 1++Dm a0.2.1 2++Dm a0.2.2.1 4++Dm (nI a0.2.2.2.1.size) 1++a0.2.2.2.1).size))) _) _ else none)=_
  generalize hB:Dm a0.1 1++Dm a0.2.1 2++Dm a0.2.2.1 4++Dm (nI a0.2.2.2.1.size) 1++a0.2.2.2.1=B at *
  rw [hs4,Af (by omega),Aj (n:=64 - a1) (by omega) (by omega),hs5,Aj (by simp only [nI]; omega) (by simp only [nI]; omega)]
  have hr:Acz (ByteArray.mk #[0]) (64 - a1 - nI (8 + a0.2.2.2.1.size))=some (strOfNums (List.replicate (56 - a1 - a0.2.2.2.1.size).toNat 0)):=by
   have:=Bs7 (56 - a1 - a0.2.2.2.1.size).toNat (by omega)
   rw [show ((56 - a1 - a0.2.2.2.1.size).toNat:Int)=64 - a1 - nI (8 + a0.2.2.2.1.size) by simp only [nI]; omega] at this
   exact this
  have hz:(strOfNums (List.replicate (56 - a1 - a0.2.2.2.1.size).toNat 0)).size=(56 - a1 - a0.2.2.2.1.size).toNat:=by rw [D3,List.length_replicate]
  generalize strOfNums (List.replicate (56 - a1 - a0.2.2.2.1.size).toNat 0)=Z at *
  refine bi_ (bi_ hr rfl) ?_
  have hbs:(Jm a0 a1).size≤64:=by rw [hb,ByteArray.size_append,hs5,hz]; omega
  dsimp only
  have hB':Dm a0.1 (Int.toNat 1)++Dm a0.2.1 (Int.toNat 2)++Dm a0.2.2.1 (Int.toNat 4)++Dm (nI a0.2.2.2.1.size) (Int.toNat 1)++a0.2.2.2.1=B:=hB
  rw [hB']
  show (bif decide (ByteArray.size B + ByteArray.size Z≤9223372036854775807) then Option.bind (Option.bind (Wo (B++Z) a1) _) _ else none)=_
  have hm:Wo (B++Z) a1=some (Asv (Jm a0 a1) a1):=by
   rw [← hb]
   exact if_pos (by omega)
  rw [hs5,hz,Af (by omega)]
  refine bi_ (bi_ hm rfl) ?_
  show (bif decide (ByteArray.size (Asv (Jm a0 a1) a1) + ByteArray.size (B++Z)≤9223372036854775807) then some ((Asv (Jm a0 a1) a1++(B++Z),()),()) else none)=_
  rw [← hb,Ady hw,Af (by omega)]
  rfl
theorem N0:B8 Tryz.prog 103 Kw:=
 A7 (pat:=Ei) [] Ik (Bb (l:=[(181,Abl),(182,Wk),(183,P3),(184,Ayu)]) ⟨Atu,Ags,Abm,Bey,trivial⟩) trivial Tryz.func103 (de:=fun x=>Wp x.1 x.2.1) (fun x r h=>(Awu x.1 x.2.1).trans h) fun _=>by kernel_rfl
def S4 (e:Aa) (life first w:Int):Option (List Aa):=if e.size≤1048576 then some (Xm e life first w) else none
def Po (v0:Aa) (v1 v2 v3 v9 v11:Int) (r0:List Aa):Nat:=(v9 - v11).toNat + 1
def Bez:Hh:=⟨[.rd .str,.rd tI,.rd tI,.rd tI],[none,none,none,none],[.own 9 .str],[none]⟩
def Akp:SD:=⟨Bez,fun x=>(S4 x.1 x.2.1 x.2.2.1 x.2.2.2.1).bind fun r=>some ((r,()),(()))⟩
def Ayx:Tb:=tb [(95,Do),(103,Kw),(147,Uw),(180,Ac6)]
def Tq:Nat→Dq×(Nat→Dq):=Hk [(7,⟨[.row 10 0 9 .str],[(0,.lf (.d .str)),(1,.lf (.d tI)),(2,.lf (.d tI)),(3,.lf (.d tI)),(9,.lf (.d tI)),(10,.lf (.row 0)),(11,.lf (.d tI))],[.row 9 .str]⟩,[(2,⟨[.row 10 0 9 .str],[(10,.lf (.row 0))],[.row 9 .str]⟩)])]
def Aoy:Code:=(Ax (Bm Tryz.f119)).getD 0 .skip
def R1 {R:Type}  (NX:((Aa)×(Int)×(Int)×(Int)×(Int)×(Int)×(List Aa)×Unit)→Option R) (X2:((List Aa)×Unit)→Option R) (v0:Aa) (v1:Int) (v2:Int) (v3:Int) (v9:Int) (v11:Int) (r0:List Aa):Option R:=
 bif decide (v11 < v9) then bif v11==IntKind.i64.wrap (v9 - 1) then bif decide ((r0.length + [Dw (2,v1,IntKind.i64.wrap (v2 + v11),v0,()) v3].length) * 16≤140737488355328) then NX (v0,v1,v2,v3,v9,IntKind.i64.wrap (v11 + 1),r0++[Dw (2,v1,IntKind.i64.wrap (v2 + v11),v0,()) v3],()) else none else bif decide (0≤IntKind.i64.wrap (IntKind.i64.wrap (64 - v3) - 8)) then bif decide (IntKind.i64.wrap (IntKind.i64.wrap (64 - v3) - 8)≤nI v0.size) then bif decide (0≤IntKind.i64.wrap (IntKind.i64.wrap (64 - v3) - 8)) then bif decide (IntKind.i64.wrap (IntKind.i64.wrap (64 - v3) - 8)≤nI v0.size) then bif decide ((r0.length + [Dw (1,v1,IntKind.i64.wrap (v2 + v11),Ag v0 0 (IntKind.i64.wrap (IntKind.i64.wrap (64 - v3) - 8)),()) v3].length) * 16≤140737488355328) then NX (Ag v0 (IntKind.i64.wrap (IntKind.i64.wrap (64 - v3) - 8)) (nI v0.size),v1,v2,v3,v9,IntKind.i64.wrap (v11 + 1),r0++[Dw (1,v1,IntKind.i64.wrap (v2 + v11),Ag v0 0 (IntKind.i64.wrap (IntKind.i64.wrap (64 - v3) - 8)),()) v3],()) else none else none else none else none else none else X2 (r0,())
def I0:Nat→(Aa)→(Int)→(Int)→(Int)→(Int)→(Int)→(List Aa) →  Option ((List Aa)×Unit)
 | 0,_,_,_,_,_,_,_=>none
 | m + 1,v0,v1,v2,v3,v9,v11,r0=>R1  (fun d=>I0 m d.1 d.2.1 d.2.2.1 d.2.2.2.1 d.2.2.2.2.1 d.2.2.2.2.2.1 d.2.2.2.2.2.2.1) (fun d=>some (d)) v0 v1 v2 v3 v9 v11 r0
def A7a (d:(Aa)×(Int)×(Int)×(Int)×(Int)×(Int)×(List Aa)×Unit):Option ((List Aa)×Unit):=(u4 (Ac (Ac (Ac Ah)))) (I0 ((u4 (Ac (Ac (Ac Ah)))) Po d)) d
def Akq (a0:Aa) (a1 a2 a3:Int):Option ((((List Aa)×Unit)×(Unit))):=
 ((O1 a0 a3).bind fun val=>some ((val,()),())).bind fun val=>bif val.1.1==0 then some (([],()),()) else bif !A9 a1 1 60000 then some (([],()),()) else bif decide (a2 < 1) then some (([],()),()) else bif decide (a2 > IntKind.i64.wrap (IntKind.i64.wrap (1000000000 - val.1.1) + 1)) then some (([],()),()) else ((fun d=>I0 (Po d.1 d.2.1 d.2.2.1 d.2.2.2.1 d.2.2.2.2.1 d.2.2.2.2.2.1 d.2.2.2.2.2.2.1) d.1 d.2.1 d.2.2.1 d.2.2.2.1 d.2.2.2.2.1 d.2.2.2.2.2.1 d.2.2.2.2.2.2.1) (a0,a1,a2,a3,val.1.1,0,[],())).bind fun val=>some (val,())
theorem Bny (life first w:Int) (n N:Nat) (hn:56 - w=(n:Int)) (hw1:1≤w) (hw8:w≤8) (hf1:1≤first) (hf2:first≤1000000000) (hN:N≤2000000):∀ (f m i:Nat) (s:Aa) (r:List Aa),s.size≤f→i + (E2 n f s).length=N→(E2 n f s).length < m→r.length=i→
  I0 m s life first w N i r=some (r++Ig life w (first + (i:Int)) (E2 n f s),()):=by
 have one:∀ (m i:Nat) (s:Aa) (r:List Aa),i + 1=N→1 < m→r.length=i→I0 m s life first w N i r=some (r++Ig life w (first + (i:Int)) [s],()):=by
  intro m i s r hi hm hr
  obtain ⟨m,rfl⟩:∃ k,m=k + 2:=⟨m - 2,by omega⟩
  simp only [I0,R1]
  rw [Af (show (i:Int) < (N:Int) by omega),Aj (n:=(N:Int) - 1) (by omega) (by omega),show (N:Int) - 1=(i:Int) by omega,beq_self_eq_true,Aj (n:=first + (i:Int)) (by omega) (by omega),Aj (n:=(i:Int) + 1) (by omega) (by omega),En,Af (show (r.length + 1) * 16≤140737488355328 by omega),Bd (show ¬ ((i:Int) + 1 < (N:Int)) by omega)]
  rfl
 intro f
 induction f with
 | zero=>
  intro m i s r hs hi hm hr
  exact one m i s r hi hm hr
 | succ f ih=>
  intro m i s r hs hi hm hr
  by_cases q:s.size > n
  ·simp only [E2,if_pos q,List.length_cons] at hi hm ⊢
   have hc:(Ag s n (nI s.size)).size=s.size - n:=by rw [Da (by omega) (by simp only [nI]; omega) (by simp [nI])]; simp only [nI]; omega
   obtain ⟨m,rfl⟩:∃ k,m=k + 1:=⟨m - 1,by omega⟩
   have hL:1≤(E2 n f (Ag s n (nI s.size))).length:=by
    cases f with
    | zero=>simp [E2]
    | succ f=>unfold E2; split<;>simp
   have ih:=ih m (i + 1) (Ag s n (nI s.size)) (r++[Ca (1,life,first + (i:Int),Ag s 0 n,()) w]) (by omega) (by omega) (by omega) (by rw [Dn,En,hr])
   simp only [I0,R1]
   rw [Af (show (i:Int) < (N:Int) by omega),Aj (n:=(N:Int) - 1) (by omega) (by omega),beq_eq_false_iff_ne.2 (show (i:Int)≠(N:Int) - 1 by omega),Aj (n:=first + (i:Int)) (by omega) (by omega),wI (show i < 4611686018427387904 by omega),Aj (n:=64 - w) (by omega) (by omega),Aj (n:=64 - w - 8) (by omega) (by omega),show 64 - w - 8=(n:Int) by omega,Af (show (0:Int)≤(n:Int) by omega),Af (show (n:Int)≤nI s.size by simp only [nI]; omega),En,En,Af (show (r.length + 1) * 16≤140737488355328 by omega)]
   refine Eq.trans ih ?_
   rw [List.append_assoc,show first + ((i + 1:Nat):Int)=first + (i:Int) + 1 by omega]
   generalize E2 n f (Ag s n (nI s.size))=L at *
   cases L with
   | nil=>simp at hL
   | cons a b=>rfl
  ·simp only [E2,if_neg q,En] at hi hm ⊢
   exact one m i s r hi hm hr
theorem Be0 (a0:Aa) (a1 a2 a3:Int) r (h:S4 a0 a1 a2 a3=some r):Akq a0 a1 a2 a3=some ((r,()),(())):=by
 unfold S4 at h
 split at h
 rotate_left
 ·cases h
 rename_i hc
 cases h
 have n1:O1 a0 a3=some (E5 a0.size a3):=if_pos (by omega)
 unfold Akq Xm
 refine bi_ (bi_ n1 rfl) ?_
 show (bif E5 a0.size a3==0 then _ else (bif !Bq a1 1 60000 then _ else _))=_
 cases hw:Bq a3 1 8 with
 | false=>
  have:E5 a0.size a3=0:=by unfold E5; rw [hw]; rfl
  rw [this]
  rfl
 | true=>
  obtain ⟨k1,k2⟩:=Cw hw
  have hp:=i8 (s:=a0) hw
  have hP:E5 a0.size a3=((Ao a0 a3).length:Int):=by unfold E5; rw [hw]; exact hp.symm
  have hlen:(Ao a0 a3).length≤a0.size + 1:=Ajz _ _ _
  have h1:1≤(Ao a0 a3).length:=by
   have:(1:Int)≤((Ao a0 a3).length:Int):=by rw [hp]; split<;>omega
   omega
  rw [hP,beq_eq_false_iff_ne.2 (show ((Ao a0 a3).length:Int)≠0 by omega)]
  cases hl:Bq a1 1 60000 with
  | false=>rfl
  | true=>
   show (bif decide (a2 < 1) then _ else (bif decide (a2 > IntKind.i64.wrap (IntKind.i64.wrap (1000000000 - ((Ao a0 a3).length:Int)) + 1)) then _ else (Option.bind (I0 (Po a0 a1 a2 a3 ((Ao a0 a3).length:Int) 0 []) a0 a1 a2 a3 ((Ao a0 a3).length:Int) 0 []) _)))=_
   rw [Aj (n:=1000000000 - ((Ao a0 a3).length:Int)) (by omega) (by omega),Aj (n:=1000000000 - ((Ao a0 a3).length:Int) + 1) (by omega) (by omega)]
   by_cases q1:a2 < 1
   ·rw [Af q1,Bd (show ¬ 1≤a2 by omega)]; rfl
   ·rw [Bd q1,Af (show 1≤a2 by omega)]
    by_cases q2:a2 > 1000000000 - ((Ao a0 a3).length:Int) + 1
    ·rw [Af q2,Bd (show ¬ a2≤1000000000 - ((Ao a0 a3).length:Int) + 1 by omega)]; rfl
    ·rw [Bd q2,Af (show a2≤1000000000 - ((Ao a0 a3).length:Int) + 1 by omega)]
     obtain ⟨n,hn⟩:∃ n:Nat,56 - a3=(n:Int):=⟨(56 - a3).toNat,by omega⟩
     have hS:Ao a0 a3=E2 n a0.size a0:=by unfold Ao; rw [hn,Fz]
     have hL:=Bny a1 a2 a3 n (Ao a0 a3).length hn k1 k2 (by omega) (by omega) (by omega) a0.size (Po a0 a1 a2 a3 ((Ao a0 a3).length:Int) 0 []) 0 a0 [] (Nat.le_refl _) (by rw [← hS]; omega) (by rw [← hS]; simp only [Po]; omega) rfl
     rw [← hS,List.nil_append,show a2 + ((0:Nat):Int)=a2 by omega] at hL
     exact bi_ hL rfl
def Aoz {R:Type} (k:Kt R):=(L7 (Tq 7) (.exit 0) 2 k)
def A4u {R:Type}:Lt R Tq:=(Fp (pat:=Tq) 7 (fun d k=>(A7a d).bind (Aoz k)) Ik)
theorem Ayy:A5 Tryz.prog Ayx:=Bb ⟨D4,N0,a8,Aov,trivial⟩
theorem A7b {R:Type}:Ba Tryz.prog R 67 0 Tq A4u Aoy:=
 Cn (cfg:=⟨Ayx,0,67,Tq⟩) 7 [] (fun NX X d=>(u4 (Ac (Ac (Ac Ah)))) (R1  NX X) d) (fun m d=>(u4 (Ac (Ac (Ac Ah)))) (I0 m) d) (fun d=>(u4 (Ac (Ac (Ac Ah)))) Po d) Aoz Ayy trivial (fun f NX d=>by simp only [u4,Ac,Ah]; unfold R1; simp only [nb])
theorem Ayz:B8 Tryz.prog 119 Akp:=
 A7 (pat:=Tq) [Aoy] A4u Ayy ⟨A7b,trivial⟩ Tryz.func119 (de:=fun x=>Akq x.1 x.2.1 x.2.2.1 x.2.2.2.1) (fun x r h=>Hf (Be0 x.1 x.2.1 x.2.2.1 x.2.2.2.1) h) fun _=>by kernel_rfl
def A8 (s:Ez) (b:List Bc):Pl:=Bs s b
def Akr:Hh:=⟨[.rd Yg,.rd (.sl Dr)],[some 10,none],[.rd tI,.rd tI,.rd tI,.rd tI,.rd tI,.rd tI,.rd tI,.rd tI,.rd tI,.rd tI,.own 157 A1,.own 142 E4],[some 12]⟩
def Aks:SD:=⟨Akr,fun x=>some (((A8 x.1 x.2.1).1,(A8 x.1 x.2.1).2.1.1,(A8 x.1 x.2.1).2.1.2.1,(A8 x.1 x.2.1).2.1.2.2.1,(A8 x.1 x.2.1).2.1.2.2.2.1.1,(A8 x.1 x.2.1).2.1.2.2.2.1.2.1,(A8 x.1 x.2.1).2.1.2.2.2.1.2.2.1,(A8 x.1 x.2.1).2.1.2.2.2.1.2.2.2.1,(A8 x.1 x.2.1).2.1.2.2.2.2.1,(A8 x.1 x.2.1).2.1.2.2.2.2.2.1,(A8 x.1 x.2.1).2.1.2.2.2.2.2.2.1.1,(A8 x.1 x.2.1).2.2.1,()),(()))⟩
def Akt:Tb:=tb [(96,Ny),(99,Xg),(101,Ac4),(102,b4),(117,Lk),(118,Gw),(119,Akp),(120,P1)]
def N1:Nat→Dq×(Nat→Dq):=Hk [(16,⟨[.sl 8 0 .str,.sl 69 0 .str,.boxSl 2 9 A1,.boxRow 4 10 157 A1,.boxRow 4 11 142 E4,.boxRow 9 10 157 A1,.boxRow 9 11 142 E4],[(2,.lf (.ptr 0 0)),(4,.lf (.ptr 1 0)),(8,.lf (.d (.sl .str))),(9,.lf (.ptr 2 0)),(69,.lf (.d (.sl .str))),(70,.lf (.d tI)),(71,.lf (.d tI))],[.box 33 [.d tI,.d tI,.d tI,.d tI,.d tI,.d tI,.d tI,.d tI,.d tI,.d (.sl A1)],.box 68 [.d tI,.d tI,.d tI,.d tI,.d tI,.d tI,.d tI,.d tI,.d tI,.d tI,.row 3,.row 4],.box 68 [.d tI,.d tI,.d tI,.d tI,.d tI,.d tI,.d tI,.d tI,.d tI,.d tI,.row 5,.row 6],.row 157 A1,.row 142 E4,.row 157 A1,.row 142 E4]⟩,[(2,⟨[.sl 8 0 .str,.boxRow 4 10 157 A1,.boxRow 4 11 142 E4,.boxRow 9 10 157 A1,.boxRow 9 11 142 E4],[(4,.lf (.ptr 0 0)),(8,.lf (.d (.sl .str))),(9,.lf (.ptr 1 0))],[.box 68 [.d tI,.d tI,.d tI,.d tI,.d tI,.d tI,.d tI,.d tI,.d tI,.d tI,.row 2,.row 3],.box 68 [.d tI,.d tI,.d tI,.d tI,.d tI,.d tI,.d tI,.d tI,.d tI,.d tI,.row 4,.row 5],.row 157 A1,.row 142 E4,.row 157 A1,.row 142 E4]⟩)])]
def Abn:Code:=(Ax (Bm Tryz.f33)).getD 0 .skip
def Jt (v8 v69:List Aa) (v70 v71:Int) (b0_0 b0_1:Int) (b0_2 b0_3:Int) (b0_4 b0_5:Int) (b0_6 b0_7 b0_8:Int) (b0_9:List A2) (b1_0 b1_1:Int) (b1_2 b1_3:Int) (b1_4 b1_5:Int) (b1_6 b1_7:Int) (b1_8 b1_9:Int) (b2_0 b2_1:Int) (b2_2 b2_3:Int) (b2_4 b2_5:Int) (b2_6 b2_7:Int) (b2_8 b2_9:Int) (r3:List A2) (r4:List Dc) (r5:List A2) (r6:List Dc):Nat:=(v70 - v71).toNat + 1
def Mx {R:Type}  (NX:((List Aa)×(List Aa)×(Int)×(Int)×(Int)×(Int)×(Int)×(Int)×(Int)×(Int)×(Int)×(Int)×(Int)×(List A2)×(Int)×(Int)×(Int)×(Int)×(Int)×(Int)×(Int)×(Int)×(Int)×(Int)×(Int)×(Int)×(Int)×(Int)×(Int)×(Int)×(Int)×(Int)×(Int)×(Int)×(List A2)×(List Dc)×(List A2)×(List Dc)×Unit)→Option R) (X2:((List Aa)×(Int)×(Int)×(Int)×(Int)×(Int)×(Int)×(Int)×(Int)×(Int)×(Int)×(Int)×(Int)×(Int)×(Int)×(Int)×(Int)×(Int)×(Int)×(Int)×(Int)×(List A2)×(List Dc)×(List A2)×(List Dc)×Unit)→Option R) (v8:List Aa) (v69:List Aa) (v70:Int) (v71:Int) (b0_0:Int) (b0_1:Int) (b0_2:Int) (b0_3:Int) (b0_4:Int) (b0_5:Int) (b0_6:Int) (b0_7:Int) (b0_8:Int) (b0_9:List A2) (b1_0:Int) (b1_1:Int) (b1_2:Int) (b1_3:Int) (b1_4:Int) (b1_5:Int) (b1_6:Int) (b1_7:Int) (b1_8:Int) (b1_9:Int) (b2_0:Int) (b2_1:Int) (b2_2:Int) (b2_3:Int) (b2_4:Int) (b2_5:Int) (b2_6:Int) (b2_7:Int) (b2_8:Int) (b2_9:Int) (r3:List A2) (r4:List Dc) (r5:List A2) (r6:List Dc):Option R:=
 bif decide (v71 < v70) then bif decide (0≤v71) then bif decide (v71 < nI v69.length) then bif decide ((r6.length + [(false,IntKind.i64.wrap (IntKind.i64.wrap (Df b0_4 b0_1 + b0_7) + v71),v69.getD v71.toNat (Ad),())].length) * 32≤140737488355328) then NX (v8,v69,v70,IntKind.i64.wrap (v71 + 1),b0_0,b0_1,b0_2,b0_3,b0_4,b0_5,b0_6,b0_7,b0_8,b0_9,b1_0,b1_1,b1_2,b1_3,b1_4,b1_5,b1_6,b1_7,b1_8,b1_9,b2_0,b2_1,b2_2,b2_3,b2_4,b2_5,b2_6,b2_7,b2_8,b2_9,r3,r4,r5,r6++[(false,IntKind.i64.wrap (IntKind.i64.wrap (Df b0_4 b0_1 + b0_7) + v71),v69.getD v71.toNat (Ad),())],()) else none else none else none else X2 (v8,b1_0,b1_1,b1_2,b1_3,b1_4,b1_5,b1_6,b1_7,b1_8,b1_9,b2_0,b2_1,b2_2,b2_3,b2_4,b2_5,b2_6,b2_7,b2_8,b2_9,r3,r4,r5,r6,())
def D8:Nat→(List Aa)→(List Aa)→(Int)→(Int)→(Int)→(Int)→(Int)→(Int)→(Int)→(Int)→(Int)→(Int)→(Int)→(List A2)→(Int)→(Int)→(Int)→(Int)→(Int)→(Int)→(Int)→(Int)→(Int)→(Int)→(Int)→(Int)→(Int)→(Int)→(Int)→(Int)→(Int)→(Int)→(Int)→(Int)→(List A2)→(List Dc)→(List A2)→(List Dc) →  Option ((List Aa)×(Int)×(Int)×(Int)×(Int)×(Int)×(Int)×(Int)×(Int)×(Int)×(Int)×(Int)×(Int)×(Int)×(Int)×(Int)×(Int)×(Int)×(Int)×(Int)×(Int)×(List A2)×(List Dc)×(List A2)×(List Dc)×Unit)
 | 0,_,_,_,_,_,_,_,_,_,_,_,_,_,_,_,_,_,_,_,_,_,_,_,_,_,_,_,_,_,_,_,_,_,_,_,_,_,_=>none
 | m + 1,v8,v69,v70,v71,b0_0,b0_1,b0_2,b0_3,b0_4,b0_5,b0_6,b0_7,b0_8,b0_9,b1_0,b1_1,b1_2,b1_3,b1_4,b1_5,b1_6,b1_7,b1_8,b1_9,b2_0,b2_1,b2_2,b2_3,b2_4,b2_5,b2_6,b2_7,b2_8,b2_9,r3,r4,r5,r6=>Mx  (fun d=>D8 m d.1 d.2.1 d.2.2.1 d.2.2.2.1 d.2.2.2.2.1 d.2.2.2.2.2.1 d.2.2.2.2.2.2.1 d.2.2.2.2.2.2.2.1 d.2.2.2.2.2.2.2.2.1 d.2.2.2.2.2.2.2.2.2.1 d.2.2.2.2.2.2.2.2.2.2.1 d.2.2.2.2.2.2.2.2.2.2.2.1 d.2.2.2.2.2.2.2.2.2.2.2.2.1 d.2.2.2.2.2.2.2.2.2.2.2.2.2.1 d.2.2.2.2.2.2.2.2.2.2.2.2.2.2.1 d.2.2.2.2.2.2.2.2.2.2.2.2.2.2.2.1 d.2.2.2.2.2.2.2.2.2.2.2.2.2.2.2.2.1 d.2.2.2.2.2.2.2.2.2.2.2.2.2.2.2.2.2.1 d.2.2.2.2.2.2.2.2.2.2.2.2.2.2.2.2.2.2.1 d.2.2.2.2.2.2.2.2.2.2.2.2.2.2.2.2.2.2.2.1 d.2.2.2.2.2.2.2.2.2.2.2.2.2.2.2.2.2.2.2.2.1 d.2.2.2.2.2.2.2.2.2.2.2.2.2.2.2.2.2.2.2.2.2.1 d.2.2.2.2.2.2.2.2.2.2.2.2.2.2.2.2.2.2.2.2.2.2.1 d.2.2.2.2.2.2.2.2.2.2.2.2.2.2.2.2.2.2.2.2.2.2.2.1 d.2.2.2.2.2.2.2.2.2.2.2.2.2.2.2.2.2.2.2.2.2.2.2.2.1 d.2.2.2.2.2.2.2.2.2.2.2.2.2.2.2.2.2.2.2.2.2.2.2.2.2.1 d.2.2.2.2.2.2.2.2.2.2.2.2.2.2.2.2.2.2.2.2.2.2.2.2.2.2.1 d.2.2.2.2.2.2.2.2.2.2.2.2.2.2.2.2.2.2.2.2.2.2.2.2.2.2.2.1 d.2.2.2.2.2.2.2.2.2.2.2.2.2.2.2.2.2.2.2.2.2.2.2.2.2.2.2.2.1 d.2.2.2.2.2.2.2.2.2.2.2.2.2.2.2.2.2.2.2.2.2.2.2.2.2.2.2.2.2.1 d.2.2.2.2.2.2.2.2.2.2.2.2.2.2.2.2.2.2.2.2.2.2.2.2.2.2.2.2.2.2.1 d.2.2.2.2.2.2.2.2.2.2.2.2.2.2.2.2.2.2.2.2.2.2.2.2.2.2.2.2.2.2.2.1 d.2.2.2.2.2.2.2.2.2.2.2.2.2.2.2.2.2.2.2.2.2.2.2.2.2.2.2.2.2.2.2.2.1 d.2.2.2.2.2.2.2.2.2.2.2.2.2.2.2.2.2.2.2.2.2.2.2.2.2.2.2.2.2.2.2.2.2.1 d.2.2.2.2.2.2.2.2.2.2.2.2.2.2.2.2.2.2.2.2.2.2.2.2.2.2.2.2.2.2.2.2.2.2.1 d.2.2.2.2.2.2.2.2.2.2.2.2.2.2.2.2.2.2.2.2.2.2.2.2.2.2.2.2.2.2.2.2.2.2.2.1 d.2.2.2.2.2.2.2.2.2.2.2.2.2.2.2.2.2.2.2.2.2.2.2.2.2.2.2.2.2.2.2.2.2.2.2.2.1 d.2.2.2.2.2.2.2.2.2.2.2.2.2.2.2.2.2.2.2.2.2.2.2.2.2.2.2.2.2.2.2.2.2.2.2.2.2.1) (fun d=>some (d)) v8 v69 v70 v71 b0_0 b0_1 b0_2 b0_3 b0_4 b0_5 b0_6 b0_7 b0_8 b0_9 b1_0 b1_1 b1_2 b1_3 b1_4 b1_5 b1_6 b1_7 b1_8 b1_9 b2_0 b2_1 b2_2 b2_3 b2_4 b2_5 b2_6 b2_7 b2_8 b2_9 r3 r4 r5 r6
def Atw (d:(List Aa)×(List Aa)×(Int)×(Int)×(Int)×(Int)×(Int)×(Int)×(Int)×(Int)×(Int)×(Int)×(Int)×(List A2)×(Int)×(Int)×(Int)×(Int)×(Int)×(Int)×(Int)×(Int)×(Int)×(Int)×(Int)×(Int)×(Int)×(Int)×(Int)×(Int)×(Int)×(Int)×(Int)×(Int)×(List A2)×(List Dc)×(List A2)×(List Dc)×Unit):Option ((List Aa)×(Int)×(Int)×(Int)×(Int)×(Int)×(Int)×(Int)×(Int)×(Int)×(Int)×(Int)×(Int)×(Int)×(Int)×(Int)×(Int)×(Int)×(Int)×(Int)×(Int)×(List A2)×(List Dc)×(List A2)×(List Dc)×Unit):=(u4 (u4 (u4 (u4 (u4 (u4 (u4 (u4 (u4 (Ac (Ac Ah))))))))))) (D8 ((u4 (u4 (u4 (u4 (u4 (u4 (u4 (u4 (u4 (Ac (Ac Ah))))))))))) Jt d)) d
def n5 (a0:Ez) (a1:List Bc):Option ((((Int)×(Int)×(Int)×(Int)×(Int)×(Int)×(Int)×(Int)×(Int)×(Int)×(List A2)×(List Dc)×Unit)×(Unit))):=
 bif !Hq a0 then some ((1,0,0,0,0,0,0,0,0,0,[],[],()),()) else bif !Hp a1 then some ((1,0,0,0,0,0,0,0,0,0,[],[],()),()) else bif (Gq a0.2.2.2.2.2.2.1 a1).2 != 0 then some (((Gq a0.2.2.2.2.2.2.1 a1).2,0,0,0,0,0,0,0,0,0,[],[],()),()) else bif decide (Oo (Gq a0.2.2.2.2.2.2.1 a1).1 a0.1 > IntKind.i64.wrap (Bu a0.2.1 - 1)) then some ((3,0,0,0,0,0,0,0,0,0,[],[],()),()) else ((S4 (Fu a1) a0.2.2.1 (IntKind.i64.wrap (a0.2.2.2.1.2.2.1 + a0.2.2.2.2.1)) a0.1).bind fun val=>some ((val,()),())).bind fun val=>bif decide (nI (List.length val.1.1) > IntKind.i64.wrap (Bu a0.2.1 - a0.2.2.2.2.1)) then some ((4,0,0,0,0,0,0,0,0,0,[],[],()),()) else ((fun d=>D8 (Jt d.1 d.2.1 d.2.2.1 d.2.2.2.1 d.2.2.2.2.1 d.2.2.2.2.2.1 d.2.2.2.2.2.2.1 d.2.2.2.2.2.2.2.1 d.2.2.2.2.2.2.2.2.1 d.2.2.2.2.2.2.2.2.2.1 d.2.2.2.2.2.2.2.2.2.2.1 d.2.2.2.2.2.2.2.2.2.2.2.1 d.2.2.2.2.2.2.2.2.2.2.2.2.1 d.2.2.2.2.2.2.2.2.2.2.2.2.2.1 d.2.2.2.2.2.2.2.2.2.2.2.2.2.2.1 d.2.2.2.2.2.2.2.2.2.2.2.2.2.2.2.1 d.2.2.2.2.2.2.2.2.2.2.2.2.2.2.2.2.1 d.2.2.2.2.2.2.2.2.2.2.2.2.2.2.2.2.2.1 d.2.2.2.2.2.2.2.2.2.2.2.2.2.2.2.2.2.2.1 d.2.2.2.2.2.2.2.2.2.2.2.2.2.2.2.2.2.2.2.1 d.2.2.2.2.2.2.2.2.2.2.2.2.2.2.2.2.2.2.2.2.1 d.2.2.2.2.2.2.2.2.2.2.2.2.2.2.2.2.2.2.2.2.2.1 d.2.2.2.2.2.2.2.2.2.2.2.2.2.2.2.2.2.2.2.2.2.2.1 d.2.2.2.2.2.2.2.2.2.2.2.2.2.2.2.2.2.2.2.2.2.2.2.1 d.2.2.2.2.2.2.2.2.2.2.2.2.2.2.2.2.2.2.2.2.2.2.2.2.1 d.2.2.2.2.2.2.2.2.2.2.2.2.2.2.2.2.2.2.2.2.2.2.2.2.2.1 d.2.2.2.2.2.2.2.2.2.2.2.2.2.2.2.2.2.2.2.2.2.2.2.2.2.2.1 d.2.2.2.2.2.2.2.2.2.2.2.2.2.2.2.2.2.2.2.2.2.2.2.2.2.2.2.1 d.2.2.2.2.2.2.2.2.2.2.2.2.2.2.2.2.2.2.2.2.2.2.2.2.2.2.2.2.1 d.2.2.2.2.2.2.2.2.2.2.2.2.2.2.2.2.2.2.2.2.2.2.2.2.2.2.2.2.2.1 d.2.2.2.2.2.2.2.2.2.2.2.2.2.2.2.2.2.2.2.2.2.2.2.2.2.2.2.2.2.2.1 d.2.2.2.2.2.2.2.2.2.2.2.2.2.2.2.2.2.2.2.2.2.2.2.2.2.2.2.2.2.2.2.1 d.2.2.2.2.2.2.2.2.2.2.2.2.2.2.2.2.2.2.2.2.2.2.2.2.2.2.2.2.2.2.2.2.1 d.2.2.2.2.2.2.2.2.2.2.2.2.2.2.2.2.2.2.2.2.2.2.2.2.2.2.2.2.2.2.2.2.2.1 d.2.2.2.2.2.2.2.2.2.2.2.2.2.2.2.2.2.2.2.2.2.2.2.2.2.2.2.2.2.2.2.2.2.2.1 d.2.2.2.2.2.2.2.2.2.2.2.2.2.2.2.2.2.2.2.2.2.2.2.2.2.2.2.2.2.2.2.2.2.2.2.1 d.2.2.2.2.2.2.2.2.2.2.2.2.2.2.2.2.2.2.2.2.2.2.2.2.2.2.2.2.2.2.2.2.2.2.2.2.1 d.2.2.2.2.2.2.2.2.2.2.2.2.2.2.2.2.2.2.2.2.2.2.2.2.2.2.2.2.2.2.2.2.2.2.2.2.2.1) d.1 d.2.1 d.2.2.1 d.2.2.2.1 d.2.2.2.2.1 d.2.2.2.2.2.1 d.2.2.2.2.2.2.1 d.2.2.2.2.2.2.2.1 d.2.2.2.2.2.2.2.2.1 d.2.2.2.2.2.2.2.2.2.1 d.2.2.2.2.2.2.2.2.2.2.1 d.2.2.2.2.2.2.2.2.2.2.2.1 d.2.2.2.2.2.2.2.2.2.2.2.2.1 d.2.2.2.2.2.2.2.2.2.2.2.2.2.1 d.2.2.2.2.2.2.2.2.2.2.2.2.2.2.1 d.2.2.2.2.2.2.2.2.2.2.2.2.2.2.2.1 d.2.2.2.2.2.2.2.2.2.2.2.2.2.2.2.2.1 d.2.2.2.2.2.2.2.2.2.2.2.2.2.2.2.2.2.1 d.2.2.2.2.2.2.2.2.2.2.2.2.2.2.2.2.2.2.1 d.2.2.2.2.2.2.2.2.2.2.2.2.2.2.2.2.2.2.2.1 d.2.2.2.2.2.2.2.2.2.2.2.2.2.2.2.2.2.2.2.2.1 d.2.2.2.2.2.2.2.2.2.2.2.2.2.2.2.2.2.2.2.2.2.1 d.2.2.2.2.2.2.2.2.2.2.2.2.2.2.2.2.2.2.2.2.2.2.1 d.2.2.2.2.2.2.2.2.2.2.2.2.2.2.2.2.2.2.2.2.2.2.2.1 d.2.2.2.2.2.2.2.2.2.2.2.2.2.2.2.2.2.2.2.2.2.2.2.2.1 d.2.2.2.2.2.2.2.2.2.2.2.2.2.2.2.2.2.2.2.2.2.2.2.2.2.1 d.2.2.2.2.2.2.2.2.2.2.2.2.2.2.2.2.2.2.2.2.2.2.2.2.2.2.1 d.2.2.2.2.2.2.2.2.2.2.2.2.2.2.2.2.2.2.2.2.2.2.2.2.2.2.2.1 d.2.2.2.2.2.2.2.2.2.2.2.2.2.2.2.2.2.2.2.2.2.2.2.2.2.2.2.2.1 d.2.2.2.2.2.2.2.2.2.2.2.2.2.2.2.2.2.2.2.2.2.2.2.2.2.2.2.2.2.1 d.2.2.2.2.2.2.2.2.2.2.2.2.2.2.2.2.2.2.2.2.2.2.2.2.2.2.2.2.2.2.1 d.2.2.2.2.2.2.2.2.2.2.2.2.2.2.2.2.2.2.2.2.2.2.2.2.2.2.2.2.2.2.2.1 d.2.2.2.2.2.2.2.2.2.2.2.2.2.2.2.2.2.2.2.2.2.2.2.2.2.2.2.2.2.2.2.2.1 d.2.2.2.2.2.2.2.2.2.2.2.2.2.2.2.2.2.2.2.2.2.2.2.2.2.2.2.2.2.2.2.2.2.1 d.2.2.2.2.2.2.2.2.2.2.2.2.2.2.2.2.2.2.2.2.2.2.2.2.2.2.2.2.2.2.2.2.2.2.1 d.2.2.2.2.2.2.2.2.2.2.2.2.2.2.2.2.2.2.2.2.2.2.2.2.2.2.2.2.2.2.2.2.2.2.2.1 d.2.2.2.2.2.2.2.2.2.2.2.2.2.2.2.2.2.2.2.2.2.2.2.2.2.2.2.2.2.2.2.2.2.2.2.2.1 d.2.2.2.2.2.2.2.2.2.2.2.2.2.2.2.2.2.2.2.2.2.2.2.2.2.2.2.2.2.2.2.2.2.2.2.2.2.1) (val.1.1,val.1.1,nI (List.length val.1.1),0,a0.1,a0.2.1,a0.2.2.1,a0.2.2.2.1.1,a0.2.2.2.1.2.1,a0.2.2.2.1.2.2.1,a0.2.2.2.1.2.2.2.1,a0.2.2.2.2.1,a0.2.2.2.2.2.1,a0.2.2.2.2.2.2.1.1,0,0,0,0,0,0,0,0,0,0,0,a0.1,a0.2.1,a0.2.2.1,a0.2.2.2.1.1,a0.2.2.2.1.2.1,a0.2.2.2.1.2.2.1,a0.2.2.2.1.2.2.2.1,a0.2.2.2.2.1,a0.2.2.2.2.2.1,[],[],(Gq a0.2.2.2.2.2.2.1 a1).1.1,[],())).bind fun val=>some ((val.2.2.2.2.2.2.2.2.2.2.2.1,val.2.2.2.2.2.2.2.2.2.2.2.2.1,val.2.2.2.2.2.2.2.2.2.2.2.2.2.1,val.2.2.2.2.2.2.2.2.2.2.2.2.2.2.1,val.2.2.2.2.2.2.2.2.2.2.2.2.2.2.2.1,val.2.2.2.2.2.2.2.2.2.2.2.2.2.2.2.2.1,val.2.2.2.2.2.2.2.2.2.2.2.2.2.2.2.2.2.1,val.2.2.2.2.2.2.2.2.2.2.2.2.2.2.2.2.2.2.1,IntKind.i64.wrap (val.2.2.2.2.2.2.2.2.2.2.2.2.2.2.2.2.2.2.2.1 + nI (List.length val.1)),IntKind.i64.wrap (val.2.2.2.2.2.2.2.2.2.2.2.2.2.2.2.2.2.2.2.2.1 + nI (List.length val.1)),val.2.2.2.2.2.2.2.2.2.2.2.2.2.2.2.2.2.2.2.2.2.2.2),())
theorem A7c (p0 p1 p2 p3 p4 p5 p6 p7 p8 q0 q1 q2 q3 q4 q5 q6 q7 q8 q9:Int) (p9 r5:List A2) (L:List Aa) (hL:L.length≤4001) (hH:0≤p4∧p4≤1) (hU:0≤p7∧p7≤99):
  D8 (Jt L L (nI L.length) 0 p0 p1 p2 p3 p4 p5 p6 p7 p8 p9 0 0 0 0 0 0 0 0 0 0 q0 q1 q2 q3 q4 q5 q6 q7 q8 q9 [] [] r5 []) L L (nI L.length) 0 p0 p1 p2 p3 p4 p5 p6 p7 p8 p9 0 0 0 0 0 0 0 0 0 0 q0 q1 q2 q3 q4 q5 q6 q7 q8 q9 [] [] r5 []=some (L,0,0,0,0,0,0,0,0,0,0,q0,q1,q2,q3,q4,q5,q6,q7,q8,q9,[],[],r5,(C9 (Bk p4 p1 + p7) L),()):=by
 have hm:=Am9 (n:=p1) hH
 have e0:Df p4 p1=Bk p4 p1:=by
  show IntKind.i64.wrap (2 + IntKind.i64.wrap (p4 * Al p1))=2 + p4 * Al p1
  rw [Aj (n:=p4 * Al p1) (by omega) (by omega),Aj (by omega) (by omega)]
 have hB:0≤Bk p4 p1∧Bk p4 p1≤101:=by unfold Bk; omega
 have hL:=E6 (xs:=L) z0 (fun i (r:List Dc)=>i≤4001∧r.length=i) (fun (i:Nat) x r=>r++[Lb (Bk p4 p1 + p7 + (i:Int)) x]) (g:=fun m i r=>D8 m L L (nI L.length) i p0 p1 p2 p3 p4 p5 p6 p7 p8 p9 0 0 0 0 0 0 0 0 0 0 q0 q1 q2 q3 q4 q5 q6 q7 q8 q9 [] [] r5 r) (ok:=fun r=>(L,0,0,0,0,0,0,0,0,0,0,q0,q1,q2,q3,q4,q5,q6,q7,q8,q9,[],[],r5,r,())) (fun m i r hi hI=>by
   show D8 (m + 1) L L (nI L.length) i p0 p1 p2 p3 p4 p5 p6 p7 p8 p9 0 0 0 0 0 0 0 0 0 0 q0 q1 q2 q3 q4 q5 q6 q7 q8 q9 [] [] r5 r=_
   simp only [D8,Mx]
   obtain ⟨h1,h2⟩:=hI
   rw [cLt hi,J1,wI (show i < 4611686018427387904 by omega),Fz,e0,Aj (n:=Bk p4 p1 + p7) (by omega) (by omega),Aj (n:=Bk p4 p1 + p7 + (i:Int)) (by omega) (by omega),En,Af (show (r.length + 1) * 32≤140737488355328 by omega)]
   rfl) (fun i r hi hI=>⟨by omega,by rw [Dn,En,hI.2]⟩) (fun m r hI=>by
   show D8 (m + 1) L L (nI L.length) (L.length:Int) p0 p1 p2 p3 p4 p5 p6 p7 p8 p9 0 0 0 0 0 0 0 0 0 0 q0 q1 q2 q3 q4 q5 q6 q7 q8 q9 [] [] r5 r=_
   simp only [D8,Mx]
   rw [Qd]
   rfl) (Jt L L (nI L.length) 0 p0 p1 p2 p3 p4 p5 p6 p7 p8 p9 0 0 0 0 0 0 0 0 0 0 q0 q1 q2 q3 q4 q5 q6 q7 q8 q9 [] [] r5 []) 0 [] (by omega) (by simp [Jt,nI]) ⟨by omega,rfl⟩
 rw [Am7,List.drop_zero,List.nil_append,show Bk p4 p1 + p7 + ((0:Nat):Int)=Bk p4 p1 + p7 by omega] at hL
 exact hL
theorem A4v (a0:Ez) (a1:List Bc):n5 a0 a1=some (((A8 a0 a1).1,(A8 a0 a1).2.1.1,(A8 a0 a1).2.1.2.1,(A8 a0 a1).2.1.2.2.1,(A8 a0 a1).2.1.2.2.2.1.1,(A8 a0 a1).2.1.2.2.2.1.2.1,(A8 a0 a1).2.1.2.2.2.1.2.2.1,(A8 a0 a1).2.1.2.2.2.1.2.2.2.1,(A8 a0 a1).2.1.2.2.2.2.1,(A8 a0 a1).2.1.2.2.2.2.2.1,(A8 a0 a1).2.1.2.2.2.2.2.2.1.1,(A8 a0 a1).2.2.1,()),(())):=by
 unfold n5 A8 Bs
 simp only [Bu,Fu,Gq,Oo]
 show (bif !As a0 then _ else bif !Az a1 then _ else _)=_
 cases hv:As a0 with
 | false=>rfl
 | true=>
  cases hb:Az a1 with
  | false=>rfl
  | true=>
   simp only [Bool.not_true,cond_false]
   obtain ⟨_,_,h3,_,_,h6,_,h8,h9,_⟩:=Xf hv
   obtain ⟨r1,r2⟩:=B2 h6
   have r1:=Cw r1
   have r2:=Cw r2
   have hh:=Pm a0.2.1
   show (bif (Bx a0.2.2.2.2.2.2.1 a1).2 != 0 then _ else _)=_
   rcases A31 h3 hb with hc | hc
   ·rw [hc]
    show (bif decide (C5 (Bx a0.2.2.2.2.2.2.1 a1).1 a0.1 > IntKind.i64.wrap (Al a0.2.1 - 1)) then _ else _)=(_:Option _)
    rw [Tm]
    show _=some (((bif decide (C5 (Bx a0.2.2.2.2.2.2.1 a1).1 a0.1 > Al a0.2.1 - 1) then Aap 3 else _:Pl).1,_),_)
    cases hr:decide (C5 (Bx a0.2.2.2.2.2.2.1 a1).1 a0.1 > Al a0.2.1 - 1) with
    | true=>simp only [cond_true,bne_self_eq_false,cond_false]; rfl
    | false=>
     simp only [cond_false,bne_self_eq_false]
     have hl:=Am8 a1 a0.2.2.1 (a0.2.2.2.1.2.2.1 + a0.2.2.2.2.1) a0.1
     have e1:S4 (Be a1) a0.2.2.1 (a0.2.2.2.1.2.2.1 + a0.2.2.2.2.1) a0.1=some (Em a0 a1):=if_pos (Nat.le_trans (La _) (by decide))
     rw [Aj (n:=a0.2.2.2.1.2.2.1 + a0.2.2.2.2.1) (by omega) (by omega),e1]
     simp only [Option.bind_some]
     have hw:IntKind.i64.wrap (Al a0.2.1 - a0.2.2.2.2.1)=Al a0.2.1 - a0.2.2.2.2.1:=Aj (by omega) (by omega)
     simp only [hw]
     cases hq:decide (nI (Em a0 a1).length > Al a0.2.1 - a0.2.2.2.2.1) with
     | true=>rfl
     | false=>
      simp only [cond_false]
      have hl:(Em a0 a1).length≤4001:=hl
      refine Yi (A7c a0.1 a0.2.1 a0.2.2.1 a0.2.2.2.1.1 a0.2.2.2.1.2.1 a0.2.2.2.1.2.2.1 a0.2.2.2.1.2.2.2.1 a0.2.2.2.2.1 a0.2.2.2.2.2.1 0 a0.1 a0.2.1 a0.2.2.1 a0.2.2.2.1.1 a0.2.2.2.1.2.1 a0.2.2.2.1.2.2.1 a0.2.2.2.1.2.2.2.1 a0.2.2.2.2.1 a0.2.2.2.2.2.1 a0.2.2.2.2.2.2.1.1 (Bx a0.2.2.2.2.2.2.1 a1).1.1 (Em a0 a1) hl r1 ⟨by omega,by omega⟩) ?_
      dsimp only
      rw [Aj (n:=a0.2.2.2.2.1 + nI (Em a0 a1).length) (by simp only [nI]; omega) (by simp only [nI]; omega),Aj (n:=a0.2.2.2.2.2.1 + nI (Em a0 a1).length) (by simp only [nI]; omega) (by simp only [nI]; omega)]
   ·rw [hc]
    rfl
def Abo {R:Type} (k:Kt R):=(L7 (N1 16) (.exit 0) 2 k)
def Ao0 {R:Type}:Lt R N1:=(Fp (pat:=N1) 16 (fun d k=>(Atw d).bind (Abo k)) Ik)
theorem Aku:A5 Tryz.prog Akt:=Bb ⟨Qk,Ac3,Aou,Agu,O2,Oy,Ayz,Uv,trivial⟩
theorem Atx {R:Type}:Ba Tryz.prog R 112 0 N1 Ao0 Abn:=
 Cn (cfg:=⟨Akt,0,112,N1⟩) 16 [] (fun NX X d=>(u4 (u4 (u4 (u4 (u4 (u4 (u4 (u4 (u4 (Ac (Ac Ah))))))))))) (Mx  NX X) d) (fun m d=>(u4 (u4 (u4 (u4 (u4 (u4 (u4 (u4 (u4 (Ac (Ac Ah))))))))))) (D8 m) d) (fun d=>(u4 (u4 (u4 (u4 (u4 (u4 (u4 (u4 (u4 (Ac (Ac Ah))))))))))) Jt d) Abo Aku trivial (fun f NX d=>by simp only [u4,Ac,Ah]; unfold Mx; simp only [nb])
theorem n7:B8 Tryz.prog 33 Aks:=
 A7 (pat:=N1) [Abn] Ao0 Aku ⟨Atx,trivial⟩ Tryz.func33 (de:=fun x=>n5 x.1 x.2.1) (fun x r h=>(A4v x.1 x.2.1).trans h) fun _=>by kernel_rfl
def By (n h:Int):Int:=IntKind.i64.wrap (2 + IntKind.i64.wrap (h * A3 n))
def A4w:Hh:=⟨[.rd tI,.rd tI],[none,none],[.rd tI],[none]⟩
def U0:SD:=⟨A4w,fun x=>some (((By x.1 x.2.1),()),(()))⟩
def Akv (a0 a1:Int):Option ((((Int)×Unit)×(Unit))):=
 some ((IntKind.i64.wrap (2 + IntKind.i64.wrap (a1 * A3 a0)),()),())
theorem A4x (a0 a1:Int):Akv a0 a1=some (((By a0 a1),()),(())):=rfl
theorem n9:B8 Tryz.prog 109 U0:=
 A7 (pat:=Ei) [] Ik (Bb (l:=[(40,Nw)]) ⟨Qh,trivial⟩) trivial Tryz.func109 (de:=fun x=>Akv x.1 x.2.1) (fun x r h=>(A4x x.1 x.2.1).trans h) fun _=>by kernel_rfl
def Aty (a:Int) (d:Aa):Dc:=(false,a,d,())
def A7d:Hh:=⟨[.rd tI,.rd .str],[none,none],[.rd E4],[some 3]⟩
def Xj:SD:=⟨A7d,fun x=>some (((Aty x.1 x.2.1),()),(()))⟩
def Ao1 (a0:Int) (a1:Aa):Option (((Dc×Unit)×(Unit))):=
 some (((false,a0,a1,()),()),())
theorem A7e (a0:Int) (a1:Aa):Ao1 a0 a1=some (((Aty a0 a1),()),(())):=rfl
theorem Ac8:B8 Tryz.prog 112 Xj:=
 A7 (pat:=Ei) [] Ik (Bb (l:=[]) trivial) trivial Tryz.func112 (de:=fun x=>Ao1 x.1 x.2.1) (fun x r h=>(A7e x.1 x.2.1).trans h) fun _=>by kernel_rfl
def Et (s:Cv):Option Cv:=if s.1.length≤1000000 then some (s.1,()) else none
def A4y:Hh:=⟨[.rd F0],[some 1],[.own 157 A1],[some 1]⟩
def Qm:SD:=⟨A4y,fun x=>(Et x.1).bind fun r=>some ((r.1,()),(()))⟩
def o5 (a0:Cv):Option ((Cv×(Unit))):=
 bif decide ((0 + List.length a0.1) * 32≤140737488355328) then some (([]++a0.1,()),()) else none
theorem A4z (a0:Cv) r (h:Et a0=some r):o5 a0=some ((r.1,()),(())):=by
 unfold Et at h
 split at h
 ·rename_i hc
  cases h
  unfold o5
  rw [Af (show (0 + a0.1.length) * 32≤140737488355328 by omega)]
  rfl
 ·cases h
theorem U1:B8 Tryz.prog 77 Qm:=
 A7 (pat:=Ei) [] Ik (Bb (l:=[]) trivial) trivial Tryz.func77 (de:=fun x=>o5 x.1) (fun x r h=>Hf (A4z x.1) h) fun _=>by kernel_rfl
def Pd (s:Cv) (c:Bc):Option Cv:=if s.1.length≤1000000 then some (Ann c s.1,()) else none
def Awv:Hh:=⟨[.rd F0,.rd Dr],[some 1,some 3],[.own 157 A1],[some 1]⟩
def Aem:SD:=⟨Awv,fun x=>(Pd x.1 x.2.1).bind fun r=>some ((r.1,()),(()))⟩
def Aen:Tb:=tb []
def Kx:Nat→Dq×(Nat→Dq):=Hk [(5,⟨[.boxSl 2 0 A1,.boxRow 4 0 157 A1,.boxRow 5 0 157 A1],[(2,.lf (.ptr 0 0)),(3,.lf (.ptr 1 0)),(4,.lf (.ptr 2 0)),(5,.lf (.ptr 3 0)),(6,.lf (.d .bool)),(7,.lf (.d tI))],[.box 31 [.d (.sl A1)],.box 99 [.d .str,.d .str,.d .bool],.box 31 [.row 4],.box 31 [.row 5],.row 157 A1,.row 157 A1]⟩,[(2,⟨[.boxRow 4 0 157 A1,.boxRow 5 0 157 A1],[(3,.lf (.ptr 0 0)),(4,.lf (.ptr 1 0)),(5,.lf (.ptr 2 0)),(6,.lf (.d .bool))],[.box 99 [.d .str,.d .str,.d .bool],.box 31 [.row 3],.box 31 [.row 4],.row 157 A1,.row 157 A1]⟩)])]
def o6:Code:=(Ax (Bm Tryz.f199)).getD 0 .skip
def Ll (v6:Bool) (v7:Int) (b0_0:List A2) (b1_0 b1_1:Aa) (b1_2:Bool) (r4 r5:List A2):Nat:=((b0_0.length:Int) - v7).toNat + 1
def Lm {R:Type}  (NX:((Bool)×(Int)×(List A2)×(Aa)×(Aa)×(Bool)×(List A2)×(List A2)×Unit)→Option R) (X2:((Bool)×(Aa)×(Aa)×(Bool)×(List A2)×(List A2)×Unit)→Option R) (v6:Bool) (v7:Int) (b0_0:List A2) (b1_0:Aa) (b1_1:Aa) (b1_2:Bool) (r4:List A2) (r5:List A2):Option R:=
 bif decide (v7 < nI b0_0.length) then bif !v6 then bif decide (0≤v7) then bif decide (v7 < nI b0_0.length) then bif !(Op.bytesLess (ByteArray.toList (b0_0.getD v7.toNat (Ad,Ad,())).1) b1_0.toList || ByteArray.toList (b0_0.getD v7.toNat (Ad,Ad,())).1==b1_0.toList) then bif decide ((r5.length + [(b1_0,b1_1,())].length) * 32≤140737488355328) then bif decide (0≤v7) then bif decide (v7 < nI b0_0.length) then bif !ByteArray.toList (b0_0.getD v7.toNat (Ad,Ad,())).1==b1_0.toList then bif decide (0≤v7) then bif decide (v7 < nI b0_0.length) then bif decide (((r5++[(b1_0,b1_1,())]).length + [b0_0.getD v7.toNat (Ad,Ad,())].length) * 32≤140737488355328) then NX (true,IntKind.i64.wrap (v7 + 1),b0_0,b1_0,b1_1,b1_2,r4,r5++[(b1_0,b1_1,())]++[b0_0.getD v7.toNat (Ad,Ad,())],()) else none else none else none else NX (true,IntKind.i64.wrap (v7 + 1),b0_0,b1_0,b1_1,b1_2,r4,r5++[(b1_0,b1_1,())],()) else none else none else none else bif decide (0≤v7) then bif decide (v7 < nI b0_0.length) then bif !ByteArray.toList (b0_0.getD v7.toNat (Ad,Ad,())).1==b1_0.toList then bif decide (0≤v7) then bif decide (v7 < nI b0_0.length) then bif decide ((r5.length + [b0_0.getD v7.toNat (Ad,Ad,())].length) * 32≤140737488355328) then NX (v6,IntKind.i64.wrap (v7 + 1),b0_0,b1_0,b1_1,b1_2,r4,r5++[b0_0.getD v7.toNat (Ad,Ad,())],()) else none else none else none else NX (v6,IntKind.i64.wrap (v7 + 1),b0_0,b1_0,b1_1,b1_2,r4,r5,()) else none else none else none else none else bif decide (0≤v7) then bif decide (v7 < nI b0_0.length) then bif !ByteArray.toList (b0_0.getD v7.toNat (Ad,Ad,())).1==b1_0.toList then bif decide (0≤v7) then bif decide (v7 < nI b0_0.length) then bif decide ((r5.length + [b0_0.getD v7.toNat (Ad,Ad,())].length) * 32≤140737488355328) then NX (v6,IntKind.i64.wrap (v7 + 1),b0_0,b1_0,b1_1,b1_2,r4,r5++[b0_0.getD v7.toNat (Ad,Ad,())],()) else none else none else none else NX (v6,IntKind.i64.wrap (v7 + 1),b0_0,b1_0,b1_1,b1_2,r4,r5,()) else none else none else X2 (v6,b1_0,b1_1,b1_2,r4,r5,())
def Ef:Nat→(Bool)→(Int)→(List A2)→(Aa)→(Aa)→(Bool)→(List A2)→(List A2) →  Option ((Bool)×(Aa)×(Aa)×(Bool)×(List A2)×(List A2)×Unit)
 | 0,_,_,_,_,_,_,_,_=>none
 | m + 1,v6,v7,b0_0,b1_0,b1_1,b1_2,r4,r5=>Lm  (fun d=>Ef m d.1 d.2.1 d.2.2.1 d.2.2.2.1 d.2.2.2.2.1 d.2.2.2.2.2.1 d.2.2.2.2.2.2.1 d.2.2.2.2.2.2.2.1) (fun d=>some (d)) v6 v7 b0_0 b1_0 b1_1 b1_2 r4 r5
def Ara (d:(Bool)×(Int)×(List A2)×(Aa)×(Aa)×(Bool)×(List A2)×(List A2)×Unit):Option ((Bool)×(Aa)×(Aa)×(Bool)×(List A2)×(List A2)×Unit):=(u4 (u4 Ah)) (Ef ((u4 (u4 Ah)) Ll d)) d
def Wq (a0:Cv) (a1:Bc):Option ((Cv×(Unit))):=
 ((fun d=>Ef (Ll d.1 d.2.1 d.2.2.1 d.2.2.2.1 d.2.2.2.2.1 d.2.2.2.2.2.1 d.2.2.2.2.2.2.1 d.2.2.2.2.2.2.2.1) d.1 d.2.1 d.2.2.1 d.2.2.2.1 d.2.2.2.2.1 d.2.2.2.2.2.1 d.2.2.2.2.2.2.1 d.2.2.2.2.2.2.2.1) (a1.2.2.1,0,a0.1,a1.1,a1.2.1,a1.2.2.1,[],[],())).bind fun val=>bif !val.1 then bif decide ((val.2.2.2.2.2.1.length + [(val.2.1,val.2.2.1,())].length) * 32≤140737488355328) then some ((val.2.2.2.2.2.1++[(val.2.1,val.2.2.1,())],()),()) else none else some (val.2.2.2.2.2,())
theorem Aww (a0:Cv) (a1:Bc) r (h:Pd a0 a1=some r):Wq a0 a1=some ((r.1,()),(())):=by
 unfold Pd at h
 split at h
 rotate_left
 ·cases h
 rename_i hlen
 cases h
 unfold Wq
 have hL:=E6 (xs:=a0.1) zP (fun i (s:Bool×List A2)=>i≤1000000∧s.2.length≤2 * i) (fun _ p s=>j6 a1.1 a1.2.1 p s) (g:=fun m i s=>Ef m s.1 i a0.1 a1.1 a1.2.1 a1.2.2.1 [] s.2) (ok:=fun s=>(s.1,a1.1,a1.2.1,a1.2.2.1,[],s.2,())) (fun m i s hi hI=>by
   show Ef (m + 1) s.1 i a0.1 a1.1 a1.2.1 a1.2.2.1 [] s.2=_
   obtain ⟨d,out⟩:=s
   obtain ⟨h1,h2⟩:=hI
   simp only at h2 ⊢
   simp only [Ef,Lm]
   have e1:decide ((out.length + 1) * 32≤140737488355328)=true:=Af (by omega)
   have e2:decide ((out.length + 1 + 1) * 32≤140737488355328)=true:=Af (by omega)
   rw [cLt hi,J1,wI (show i < 4611686018427387904 by omega),Fz]
   simp only [cond_true,En,Dn,e1,e2]
   unfold j6 gtS bl
   show (bif !d then (bif !(Op.bytesLess (List.getD a0.1 i zP).1.toList a1.1.toList || (List.getD a0.1 i zP).1.toList==a1.1.toList) then _ else _) else _)=_
   cases d with
   | true=>
    simp only [Bool.not_true,Bool.false_and,cond_false]
    show (bif !((List.getD a0.1 i zP).1.toList==a1.1.toList) then _ else _)=_
    cases ((List.getD a0.1 i zP).1.toList==a1.1.toList)<;>rfl
   | false=>
    simp only [Bool.not_false,Bool.true_and,cond_true]
    cases hq:!(Op.bytesLess (List.getD a0.1 i zP).1.toList a1.1.toList || (List.getD a0.1 i zP).1.toList==a1.1.toList) with
    | true=>
     simp only [cond_true]
     show (bif !((List.getD a0.1 i zP).1.toList==a1.1.toList) then _ else _)=_
     cases ((List.getD a0.1 i zP).1.toList==a1.1.toList)<;>rfl
    | false=>
     simp only [cond_false]
     show (bif !((List.getD a0.1 i zP).1.toList==a1.1.toList) then _ else _)=_
     cases ((List.getD a0.1 i zP).1.toList==a1.1.toList)<;>rfl) (fun i s hi hI=>⟨by omega,by have:=A30 a1.1 a1.2.1 (a0.1.getD i zP) s; omega⟩) (fun m s hI=>by
   show Ef (m + 1) s.1 (a0.1.length:Int) a0.1 a1.1 a1.2.1 a1.2.2.1 [] s.2=_
   simp only [Ef,Lm]
   rw [Qd]
   rfl) (Ll a1.2.2.1 0 a0.1 a1.1 a1.2.1 a1.2.2.1 [] []) 0 (a1.2.2.1,[]) (by omega) (by simp [Ll,nI]) ⟨by omega,Nat.le_refl _⟩
 have hE:=Biw a1.1 a1.2.1 a0.1 0 (a1.2.2.1,[])
 have hB:(Ds (fun _ p s=>j6 a1.1 a1.2.1 p s) 0 a0.1 (a1.2.2.1,[])).2.length≤2 * a0.1.length:=by
  have:=b9 zP (fun i (s:Bool×List A2)=>s.2.length≤2 * i) (fun _ p s=>j6 a1.1 a1.2.1 p s) (xs:=a0.1) (fun i s hi hI=>by have:=A30 a1.1 a1.2.1 (a0.1.getD i zP) s; omega) a0.1.length 0 (a1.2.2.1,[]) (by omega) (Nat.le_refl _)
  exact this
 rw [List.drop_zero] at hL
 refine Yi hL ?_
 dsimp only
 generalize Ds (fun _ p s=>j6 a1.1 a1.2.1 p s) 0 a0.1 (a1.2.2.1,[])=q at hE hB
 obtain ⟨d,out⟩:=q
 simp only at hB
 simp only [List.nil_append] at hE
 show _=some ((Tn a1.1 a1.2.1 a1.2.2.1 a0.1,()),())
 rw [← hE]
 unfold Bd4
 have e1:decide ((out.length + 1) * 32≤140737488355328)=true:=Af (by omega)
 cases d with
 | true=>rfl
 | false=>
  simp only [Bool.not_false,cond_true,cond_false,En,e1]
def o7 {R:Type} (k:Kt R):=(L7 (Kx 5) (.exit 0) 2 k)
def Ahn {R:Type}:Lt R Kx:=(Fp (pat:=Kx) 5 (fun d k=>(Ara d).bind (o7 k)) Ik)
theorem Aeo:A5 Tryz.prog Aen:=Bb trivial
theorem Arb {R:Type}:Ba Tryz.prog R 73 0 Kx Ahn o6:=
 Cn (cfg:=⟨Aen,0,73,Kx⟩) 5 [] (fun NX X (d:(Bool)×(Int)×(List A2)×(Aa)×(Aa)×(Bool)×(List A2)×(List A2)×Unit)=>(u4 (u4 Ah)) (Lm  NX X) d) (fun m d=>(u4 (u4 Ah)) (Ef m) d) (fun d=>(u4 (u4 Ah)) Ll d) o7 Aeo trivial (fun f NX (d:(Bool)×(Int)×(List A2)×(Aa)×(Aa)×(Bool)×(List A2)×(List A2)×Unit)=>by simp only [u4,Ac,Ah]; unfold Lm; simp only [nb])
theorem Awx:B8 Tryz.prog 199 Aem:=
 A7 (pat:=Kx) [o6] Ahn Aeo ⟨Arb,trivial⟩ Tryz.func199 (de:=fun x=>Wq x.1 x.2.1) (fun x r h=>Hf (Aww x.1 x.2.1) h) fun _=>by kernel_rfl
def Gr (s:Cv) (b:List Bc):Cv×Int:=Bx s b
def A7f:Hh:=⟨[.rd F0,.rd (.sl Dr)],[some 1,none],[.own 157 A1,.rd tI],[some 1,none]⟩
def Ac9:SD:=⟨A7f,fun x=>some (((Gr x.1 x.2.1).1.1,(Gr x.1 x.2.1).2,()),(()))⟩
def Ao2:Tb:=tb [(69,Lc),(77,Qm),(122,Ov),(199,Aem)]
def Pp:Nat→Dq×(Nat→Dq):=Hk [(6,⟨[.sl 1 0 Dr,.boxRow 4 0 157 A1,.boxRow 6 0 157 A1],[(1,.lf (.d (.sl Dr))),(4,.lf (.ptr 0 0)),(6,.lf (.ptr 1 0)),(7,.lf (.d tI))],[.box 31 [.row 2],.box 31 [.row 3],.row 157 A1,.row 157 A1]⟩,[(2,⟨[.boxRow 4 0 157 A1,.boxRow 6 0 157 A1],[(4,.lf (.ptr 0 0)),(6,.lf (.ptr 1 0))],[.box 31 [.row 2],.box 31 [.row 3],.row 157 A1,.row 157 A1]⟩)])]
def Aho:Code:=(Ax (Bm Tryz.f123)).getD 0 .skip
def Mh (v1:List Bc) (v7:Int) (r2 r3:List A2):Nat:=((v1.length:Int) - v7).toNat + 1
def Pf {R:Type}  (NX:((List Bc)×(Int)×(List A2)×(List A2)×Unit)→Option R) (X2:((List A2)×(List A2)×Unit)→Option R) (v1:List Bc) (v7:Int) (r2:List A2) (r3:List A2):Option R:=
 bif decide (v7 < nI v1.length) then bif decide (0≤v7) then bif decide (v7 < nI v1.length) then ((Pd (r3,()) (v1.getD v7.toNat (Ad,Ad,false,()))).bind fun val=>some (val,())).bind fun val=>NX (v1,IntKind.i64.wrap (v7 + 1),r2,val.1) else none else none else X2 (r2,r3,())
def Fj:Nat→(List Bc)→(Int)→(List A2)→(List A2) →  Option ((List A2)×(List A2)×Unit)
 | 0,_,_,_,_=>none
 | m + 1,v1,v7,r2,r3=>Pf  (fun d=>Fj m d.1 d.2.1 d.2.2.1 d.2.2.2.1) (fun d=>some (d)) v1 v7 r2 r3
def Azx (d:(List Bc)×(Int)×(List A2)×(List A2)×Unit):Option ((List A2)×(List A2)×Unit):=(u4 Ah) (Fj ((u4 Ah) Mh d)) d
def Ada (a0:Cv) (a1:List Bc):Option ((((List A2)×(Int)×Unit)×(Unit))):=
 bif !Gb a0 then some (([],1,()),()) else bif !Jo a1 then some (([],1,()),()) else ((Et a0).bind fun val=>some (val,())).bind fun val=>((fun d=>Fj (Mh d.1 d.2.1 d.2.2.1 d.2.2.2.1) d.1 d.2.1 d.2.2.1 d.2.2.2.1) (a1,0,[],val.1)).bind fun val=>bif decide (nI val.2.1.length > 100) then some (([],2,()),()) else some ((val.2.1,0,()),())
theorem Bbr (b:List Bc) (xs:List A2) (hb:b.length≤20) (hx:xs.length≤100):Fj (Mh b 0 [] xs) b 0 [] xs=some ([],Pz xs b,()):=by
 have hL:=E6 (xs:=b) zC (fun i (l:List A2)=>i≤20∧l.length≤100 + i) (fun _ c l=>Ann c l) (g:=fun m i l=>Fj m b i [] l) (ok:=fun l=>([],l,())) (fun m i l hi hI=>by
   show Fj (m + 1) b i [] l=_
   simp only [Fj,Pf]
   rw [cLt hi,J1,wI (show i < 4611686018427387904 by omega),Fz]
   simp only [cond_true]
   have e1:Pd (l,()) ((List.getD b i zC).1,(List.getD b i zC).2.1,(List.getD b i zC).2.2.1,())=some (Ann (List.getD b i zC) l,()):=if_pos (by show l.length≤1000000; omega)
   refine (congrArg (fun y=>Option.bind (Option.bind y _) _) e1).trans ?_
   rfl) (fun i l hi hI=>⟨by omega,by have:=Bpd (b.getD i zC) l; omega⟩) (fun m l hI=>by
   show Fj (m + 1) b (b.length:Int) [] l=_
   simp only [Fj,Pf]
   rw [Qd]
   rfl) (Mh b 0 [] xs) 0 xs (by omega) (by simp [Mh,nI]) ⟨by omega,by omega⟩
 rw [List.drop_zero] at hL
 exact hL
theorem A7g (a0:Cv) (a1:List Bc):Ada a0 a1=some (((Gr a0 a1).1.1,(Gr a0 a1).2,()),(())):=by
 unfold Ada Gr Bx
 show (bif !Ak a0 then _ else bif !Az a1 then _ else _)=_
 cases hv:Ak a0 with
 | false=>rfl
 | true=>
  cases hb:Az a1 with
  | false=>rfl
  | true=>
   simp only [Bool.not_true,cond_false]
   have hl:=Cb hv
   have hb2:=Cw (B2 hb).1
   have e1:Et (a0.1,())=some (a0.1,()):=if_pos (Nat.le_trans hl (by decide))
   rw [e1]
   simp only [Option.bind_some]
   refine Yi (Bbr a1 a0.1 (by omega) hl) ?_
   dsimp only
   by_cases q:(Pz a0.1 a1).length > 100
   ·rw [Af (show nI (Pz a0.1 a1).length > 100 by simp only [nI]; omega),Af q]
    rfl
   ·rw [Bd (show ¬ nI (Pz a0.1 a1).length > 100 by simp only [nI]; omega),Bd q]
    rfl
def Ahp {R:Type} (k:Kt R):=(L7 (Pp 6) (.exit 0) 2 k)
def Atz {R:Type}:Lt R Pp:=(Fp (pat:=Pp) 6 (fun d k=>(Azx d).bind (Ahp k)) Ik)
theorem Ao3:A5 Tryz.prog Ao2:=Bb ⟨Ow,U1,Sv,Awx,trivial⟩
theorem Azy {R:Type}:Ba Tryz.prog R 37 0 Pp Atz Aho:=
 Cn (cfg:=⟨Ao2,0,37,Pp⟩) 6 [] (fun NX X d=>(u4 Ah) (Pf  NX X) d) (fun m d=>(u4 Ah) (Fj m) d) (fun d=>(u4 Ah) Mh d) Ahp Ao3 trivial (fun f NX d=>by simp only [u4,Ac,Ah]; unfold Pf; simp only [nb])
theorem Ao4:B8 Tryz.prog 123 Ac9:=
 A7 (pat:=Pp) [Aho] Atz Ao3 ⟨Azy,trivial⟩ Tryz.func123 (de:=fun x=>Ada x.1 x.2.1) (fun x r h=>(A7g x.1 x.2.1).trans h) fun _=>by kernel_rfl
def Abp (p:Pg) (w:Int):Bool:=Ee p w
def Bbs:Hh:=⟨[.rd yPg,.rd tI],[some 4,none],[.rd .bool],[none]⟩
def At0:SD:=⟨Bbs,fun x=>some (((Abp x.1 x.2.1),()),(()))⟩
def Agv (a0:Pg) (a1:Int):Option ((((Bool)×Unit)×(Unit))):=
 (Co a1).bind fun val=>bif !val.1.1 then some ((false,()),()) else bif decide (a0.1 < 1) then some ((false,()),()) else bif decide (a0.1 > 4) then some ((false,()),()) else bif decide (a0.2.1 < 1) then some ((false,()),()) else bif decide (a0.2.1 > 60000) then some ((false,()),()) else bif decide (a0.2.2.1 < 1) then some ((false,()),()) else bif decide (a0.2.2.1 > 1000000000) then some ((false,()),()) else bif decide (nI (ByteArray.size a0.2.2.2.1)≤IntKind.i64.wrap (IntKind.i64.wrap (64 - a1) - 8)) then bif a0.1 != 3 then some ((true,()),()) else some ((ByteArray.toList a0.2.2.2.1==(Ad).toList,()),()) else some ((false,()),())
theorem Bbt (a0:Pg) (a1:Int):Agv a0 a1=some (((Abp a0 a1),()),(())):=by
 unfold Agv Abp Ee
 have tl:ByteArray.toList (Ad)=[]:=by decide +kernel
 rw [tl]
 refine bi_ (wid a1) ?_
 show (bif !Bq a1 1 8 then _ else _)=_
 cases hw:Bq a1 1 8 with
 | false=>rfl
 | true=>
  have k1:=G8 (B2 hw).1
  have k2:=G8 (B2 hw).2
  rw [Aj (n:=64 - a1) (by omega) (by omega),Aj (by omega) (by omega),show 64 - a1 - 8=56 - a1 by omega]
  have e:∀ (x lo hi:Int) {ρ:Type} (f t:ρ),(bif decide (x < lo) then f else bif decide (x > hi) then f else t)=bif Bq x lo hi then t else f:=by
   intro x lo hi ρ f t
   unfold Bq
   by_cases h1:x < lo
   ·rw [Af h1,Bd (show ¬ lo≤x by omega)]; rfl
   ·rw [Bd h1,Af (show lo≤x by omega)]
    by_cases h2:x > hi
    ·rw [Af h2,Bd (show ¬ x≤hi by omega)]; rfl
    ·rw [Bd h2,Af (show x≤hi by omega)]; rfl
  rw [e a0.1,e a0.2.1,e a0.2.2.1]
  cases Bq a0.1 1 4<;>cases Bq a0.2.1 1 60000<;>cases Bq a0.2.2.1 1 1000000000<;>try rfl
  show (bif decide ((ByteArray.size a0.2.2.2.1:Int)≤56 - a1) then _ else _)=_
  cases decide ((ByteArray.size a0.2.2.2.1:Int)≤56 - a1)<;>cases (a0.1 != 3)<;>rfl
theorem Bbu:B8 Tryz.prog 159 At0:=
 A7 (pat:=Ei) [] Ik (Bb (l:=[(65,Dv),(70,Uh)]) ⟨Ej,l7,trivial⟩) trivial Tryz.func159 (de:=fun x=>Agv x.1 x.2.1) (fun x r h=>(Bbt x.1 x.2.1).trans h) fun _=>by kernel_rfl
theorem Aep:∃ f:Int→Int→Option Aa,f=fun v n=>if 0≤v∧v < 9223372036854775808∧0≤n∧n≤1000 then some (Dm v n.toNat) else none:=⟨_,rfl⟩
def Ch (v n:Int):Option Aa:=Classical.choose Aep v n
theorem Ir (v n:Int):Ch v n=if 0≤v∧v < 9223372036854775808∧0≤n∧n≤1000 then some (Dm v n.toNat) else none:=by
 unfold Ch
 rw [Classical.choose_spec Aep]
def Ln (v0 v1:Int) (v5:Aa) (v6:Int):Nat:=(v1 - v6).toNat + 1
def Awy:Hh:=⟨[.rd tI,.rd tI],[none,none],[.rd .str],[none]⟩
def Ws:SD:=⟨Awy,fun x=>(Ch x.1 x.2.1).bind fun r=>some ((r,()),(()))⟩
def Aeq:Tb:=tb []
def Ky:Nat→Dq×(Nat→Dq):=Hk [(4,⟨[],[(0,.lf (.d tI)),(1,.lf (.d tI)),(5,.lf (.d .str)),(6,.lf (.d tI))],[]⟩,[(2,⟨[],[(5,.lf (.d .str))],[]⟩)])]
def o8:Code:=(Ax (Bm Tryz.f160)).getD 0 .skip
def Lo {R:Type}  (NX:((Int)×(Int)×(Aa)×(Int)×Unit)→Option R) (X2:((Aa)×Unit)→Option R) (v0:Int) (v1:Int) (v5:Aa) (v6:Int):Option R:=
 bif decide (v6 < v1) then bif decide ((strOfNums [IntKind.u8.wrap (v0.tmod 256)]).size + v5.size≤9223372036854775807) then NX (IntKind.i64.wrap (v0.tdiv 256),v1,strOfNums [IntKind.u8.wrap (v0.tmod 256)]++v5,IntKind.i64.wrap (v6 + 1),()) else none else X2 (v5,())
def G1:Nat→(Int)→(Int)→(Aa)→(Int) →  Option ((Aa)×Unit)
 | 0,_,_,_,_=>none
 | m + 1,v0,v1,v5,v6=>Lo  (fun d=>G1 m d.1 d.2.1 d.2.2.1 d.2.2.2.1) (fun d=>some (d)) v0 v1 v5 v6
def Arc (d:(Int)×(Int)×(Aa)×(Int)×Unit):Option ((Aa)×Unit):=(u4 Ah) (G1 ((u4 Ah) Ln d)) d
def Wt (a0 a1:Int):Option ((((Aa)×Unit)×(Unit))):=
 ((fun d=>G1 (Ln d.1 d.2.1 d.2.2.1 d.2.2.2.1) d.1 d.2.1 d.2.2.1 d.2.2.2.1) (a0,a1,Ad,0,())).bind fun val=>some (val,())
theorem Ao5:∀ (k m i:Nat) (v:Int) (out:Aa),i + k≤1000→k < m→out.size=i→0≤v→v < 9223372036854775808→G1 m v ((i + k:Nat):Int) out i=some (Dm v k++out,())
 | 0,m + 1,i,v,out,hi,hm,ho,h0,h1=>by
  simp only [G1,Lo]
  rw [Bd (by omega),Bdq]
  rfl
 | k + 1,m + 1,i,v,out,hi,hm,ho,h0,h1=>by
  simp only [G1,Lo]
  have e1:IntKind.wrap IntKind.u8 (Int.tmod v 256)=v % 256:=by
   rw [Int.tmod_eq_emod_of_nonneg h0]
   show v % 256 % 256=v % 256
   omega
  have e2:IntKind.i64.wrap (Int.tdiv v 256)=v / 256:=by
   rw [Int.tdiv_eq_ediv_of_nonneg h0]
   exact Aj (by omega) (by omega)
  rw [Af (show (i:Int) < ((i + (k + 1):Nat):Int) by omega),e1,e2,Af (show ByteArray.size (strOfNums [v % 256]) + ByteArray.size out≤9223372036854775807 by rw [ho,D3]; simp; omega),wI (show i < 4611686018427387904 by omega)]
  have hL:=Ao5 k m (i + 1) (v / 256) (strOfNums [v % 256]++out) (by omega) (by omega) (by rw [ByteArray.size_append,ho,D3]; simp; omega) (by omega) (by omega)
  rw [show i + 1 + k=i + (k + 1) by omega] at hL
  refine hL.trans ?_
  rw [← ByteArray.append_assoc,← Bdr]
theorem Awz (a0 a1:Int) r (h:Ch a0 a1=some r):Wt a0 a1=some ((r,()),(())):=by
 rw [Ir] at h
 split at h
 ·rename_i hc
  cases h
  obtain ⟨n,rfl⟩:∃ n:Nat,a1=(n:Int):=⟨a1.toNat,by omega⟩
  unfold Wt
  have hL:=Ao5 n (Ln a0 n (Ad) 0) 0 a0 (Ad) (by omega) (by simp only [Ln]; omega) rfl hc.1 hc.2.1
  rw [Nat.zero_add] at hL
  rw [Bmw] at hL
  exact bi_ hL rfl
 ·cases h
def o9 {R:Type} (k:Kt R):=(L7 (Ky 4) (.exit 0) 2 k)
def Ahq {R:Type}:Lt R Ky:=(Fp (pat:=Ky) 4 (fun d k=>(Arc d).bind (o9 k)) Ik)
theorem Aer:A5 Tryz.prog Aeq:=Bb trivial
theorem Ard {R:Type}:Ba Tryz.prog R 22 0 Ky Ahq o8:=
 Cn (cfg:=⟨Aeq,0,22,Ky⟩) 4 [] (fun NX X d=>(u4 Ah) (Lo  NX X) d) (fun m d=>(u4 Ah) (G1 m) d) (fun d=>(u4 Ah) Ln d) o9 Aer trivial (fun f NX d=>by simp only [u4,Ac,Ah]; unfold Lo; simp only [nb])
theorem Aes:B8 Tryz.prog 160 Ws:=
 A7 (pat:=Ky) [o8] Ahq Aer ⟨Ard,trivial⟩ Tryz.func160 (de:=fun x=>Wt x.1 x.2.1) (fun x r h=>Hf (Awz x.1 x.2.1) h) fun _=>by kernel_rfl
def s4 (s:Aa) (w:Int):Option Aa:=if s.size < 4611686018427387904 then some (Asv s w) else none
def R2 (v0:Aa) (v1 v5 v6:Int):Nat:=(nI v0.size - v6).toNat + 1
def Qn (v1 v5:Int) (v7:Aa) (v8:Int):Nat:=(v1 - v8).toNat + 1
def Be1:Hh:=⟨[.rd .str,.rd tI],[none,none],[.rd .str],[none]⟩
def Ay0:SD:=⟨Be1,fun x=>(s4 x.1 x.2.1).bind fun r=>some ((r,()),(()))⟩
def Akw:Tb:=tb [(65,Dv)]
def Km:Nat→Dq×(Nat→Dq):=Hk [(6,⟨[],[(0,.lf (.d .str)),(1,.lf (.d tI)),(5,.lf (.d (.int .u64))),(6,.lf (.d tI))],[]⟩,[(2,⟨[],[(1,.lf (.d tI)),(5,.lf (.d (.int .u64)))],[]⟩)]),(11,⟨[],[(1,.lf (.d tI)),(5,.lf (.d (.int .u64))),(7,.lf (.d .str)),(8,.lf (.d tI))],[]⟩,[(4,⟨[],[(7,.lf (.d .str))],[]⟩)])]
def Ao6:Code:=(Ax (Bm Tryz.f161)).getD 0 .skip
def Akx:Code:=(Ax (Bm Tryz.f161)).getD 1 .skip
def Qo {R:Type}  (NX:((Int)×(Int)×(Aa)×(Int)×Unit)→Option R) (X4:((Aa)×Unit)→Option R) (v1:Int) (v5:Int) (v7:Aa) (v8:Int):Option R:=
 bif decide (v8 < v1) then bif decide ((strOfNums [IntKind.u8.wrap (v5.tmod 256)]).size + v7.size≤9223372036854775807) then NX (v1,IntKind.u64.wrap (v5.tdiv 256),strOfNums [IntKind.u8.wrap (v5.tmod 256)]++v7,IntKind.i64.wrap (v8 + 1),()) else none else X4 (v7,())
def Lp:Nat→(Int)→(Int)→(Aa)→(Int) →  Option ((Aa)×Unit)
 | 0,_,_,_,_=>none
 | m + 1,v1,v5,v7,v8=>Qo  (fun d=>Lp m d.1 d.2.1 d.2.2.1 d.2.2.2.1) (fun d=>some (d)) v1 v5 v7 v8
def A40 (d:(Int)×(Int)×(Aa)×(Int)×Unit):Option ((Aa)×Unit):=(u4 Ah) (Lp ((u4 Ah) Qn d)) d
def R3 {R:Type}  (NX:((Aa)×(Int)×(Int)×(Int)×Unit)→Option R) (X2:((Int)×(Int)×Unit)→Option R) (v0:Aa) (v1:Int) (v5:Int) (v6:Int):Option R:=
 bif decide (v6 < nI v0.size) then bif decide (0≤v6) then bif decide (v6 < nI v0.size) then NX (v0,v1,IntKind.u64.wrap (IntKind.u64.wrap (nI (BitVec.ofInt 64 v5 ^^^ BitVec.ofInt 64 (IntKind.u64.wrap (Aq v0 v6))).toNat) * 1099511628211),IntKind.i64.wrap (v6 + 1),()) else none else none else X2 (v1,v5,())
def I1:Nat→(Aa)→(Int)→(Int)→(Int) →  Option ((Int)×(Int)×Unit)
 | 0,_,_,_,_=>none
 | m + 1,v0,v1,v5,v6=>R3  (fun d=>I1 m d.1 d.2.1 d.2.2.1 d.2.2.2.1) (fun d=>some (d)) v0 v1 v5 v6
def A7h (d:(Aa)×(Int)×(Int)×(Int)×Unit):Option ((Int)×(Int)×Unit):=(u4 Ah) (I1 ((u4 Ah) R2 d)) d
def Aky (a0:Aa) (a1:Int):Option ((((Aa)×Unit)×(Unit))):=
 (Co a1).bind fun val=>bif !val.1.1 then some ((Ad,()),()) else ((fun d=>I1 (R2 d.1 d.2.1 d.2.2.1 d.2.2.2.1) d.1 d.2.1 d.2.2.1 d.2.2.2.1) (a0,a1,14695981039346656037,0,())).bind fun val=>((fun d=>Lp (Qn d.1 d.2.1 d.2.2.1 d.2.2.2.1) d.1 d.2.1 d.2.2.1 d.2.2.2.1) (val.1,val.2.1,Ad,0,())).bind fun val=>some (val,())
theorem A41:∀ (k m i:Nat) (v:Int) (out:Aa),i + k≤1000→k < m→out.size=i→U64 v→Lp m ((i + k:Nat):Int) v out i=some (Dm v k++out,())
 | 0,m + 1,i,v,out,hi,hm,ho,hv=>by
  simp only [Lp,Qo]
  rw [Bd (by omega),Bdq]
  rfl
 | k + 1,m + 1,i,v,out,hi,hm,ho,hv=>by
  have h0:=hv.1
  have h1:=hv.2
  simp only [Lp,Qo]
  have e1:IntKind.wrap IntKind.u8 (Int.tmod v 256)=v % 256:=by
   rw [Int.tmod_eq_emod_of_nonneg h0]
   show v % 256 % 256=v % 256
   omega
  have e2:IntKind.wrap IntKind.u64 (Int.tdiv v 256)=v / 256:=by
   rw [Int.tdiv_eq_ediv_of_nonneg h0,Bqs]
   omega
  rw [Af (show (i:Int) < ((i + (k + 1):Nat):Int) by omega),e1,e2,Af (show ByteArray.size (strOfNums [v % 256]) + ByteArray.size out≤9223372036854775807 by rw [ho,D3]; simp; omega),wI (show i < 4611686018427387904 by omega)]
  have hL:=A41 k m (i + 1) (v / 256) (strOfNums [v % 256]++out) (by omega) (by omega) (by rw [ByteArray.size_append,ho,D3]; simp; omega) ⟨by omega,by omega⟩
  rw [show i + 1 + k=i + (k + 1) by omega] at hL
  refine hL.trans ?_
  rw [← ByteArray.append_assoc,← Bdr]
theorem Be2 (a0:Aa) (a1:Int) r (h:s4 a0 a1=some r):Aky a0 a1=some ((r,()),(())):=by
 unfold s4 at h
 split at h
 rotate_left
 ·cases h
 rename_i hsz
 cases h
 unfold Aky Asv
 generalize hC:(14695981039346656037:Int)=C
 have h0:U64 C:=by rw [← hC]; exact ⟨by decide,by decide⟩
 refine bi_ (wid a1) ?_
 show (bif !Bq a1 1 8 then _ else _)=_
 cases hw:Bq a1 1 8 with
 | false=>rfl
 | true=>
  have k1:=G8 (B2 hw).1
  have k2:=G8 (B2 hw).2
  ·simp only [Bool.not_true,cond_false,cond_true]
   have hL:=Am2 a0.size (fun _ _=>True) (fun i h=>Ajv h (Aq a0 i)) (g:=fun m i h=>I1 m a0 a1 h i) (ok:=fun h=>(a1,h,())) (fun m i h hi _=>by
    show I1 (m + 1) a0 a1 h i=_
    simp only [I1,R3]
    have c1:(i:Int) < nI a0.size:=by simp only [nI]; omega
    rw [Af c1,J1,wI (show i < 4611686018427387904 by omega)]
    rfl) (fun m h _=>by
    show I1 (m + 1) a0 a1 h a0.size=_
    simp only [I1,R3]
    rw [Bd (show ¬ ((a0.size:Int) < nI a0.size) by simp only [nI]; omega)]
    rfl) (fun _ _ _ _=>trivial) a0.size (R2 a0 a1 C 0) 0 C (by omega) (by simp only [R2,nI]; omega) trivial
   rw [show ((0:Nat):Int)=0 from rfl] at hL
   refine bi_ hL ?_
   obtain ⟨n,rfl⟩:∃ n:Nat,a1=(n:Int):=⟨a1.toNat,by omega⟩
   have hM:=A41 n (Qn n (Av4 a0 a0.size 0 C) (Ad) 0) 0 (Av4 a0 a0.size 0 C) (Ad) (by omega) (by simp only [Qn]; omega) rfl (Biq a0 _ _ h0)
   rw [Nat.zero_add,Bmw] at hM
   exact bi_ hM rfl
def Ao7 {R:Type} (k:Kt R):=(L7 (Km 6) (.exit 0) 2 k)
def Akz {R:Type} (k:Kt R):=(L7 (Km 11) (.exit 2) 4 k)
def Are {R:Type}:Lt R Km:=(Fp (pat:=Km) 6 (fun d k=>(A7h d).bind (Ao7 k)) (Fp (pat:=Km) 11 (fun d k=>(A40 d).bind (Akz k)) Ik))
theorem Ak0:A5 Tryz.prog Akw:=Bb ⟨Ej,trivial⟩
theorem A42 {R:Type}:Ba Tryz.prog R 40 0 Km Are Akx:=
 Cn (cfg:=⟨Akw,0,40,Km⟩) 11 [] (fun NX X d=>(u4 Ah) (Qo  NX X) d) (fun m d=>(u4 Ah) (Lp m) d) (fun d=>(u4 Ah) Qn d) Akz Ak0 trivial (fun f NX d=>by simp only [u4,Ac,Ah]; unfold Qo; simp only [nb])
theorem A7i {R:Type}:Ba Tryz.prog R 40 0 Km Are Ao6:=
 Cn (cfg:=⟨Akw,0,40,Km⟩) 6 [] (fun NX X d=>(u4 Ah) (R3  NX X) d) (fun m d=>(u4 Ah) (I1 m) d) (fun d=>(u4 Ah) R2 d) Ao7 Ak0 trivial (fun f NX d=>by simp only [u4,Ac,Ah]; unfold R3; simp only [nb])
theorem Be3:B8 Tryz.prog 161 Ay0:=
 A7 (pat:=Km) [Ao6,Akx] Are Ak0 ⟨A7i,A42,trivial⟩ Tryz.func161 (de:=fun x=>Aky x.1 x.2.1) (fun x r h=>Hf (Be2 x.1 x.2.1) h) fun _=>by kernel_rfl
def Dx (p:Pg) (w:Int):Aa:=Ca p w
def Lq (v1:Int) (v5:Aa):Nat:=(64 - v1 - nI v5.size).toNat + 1
def Aw0:Hh:=⟨[.rd yPg,.rd tI],[some 4,none],[.rd .str],[none]⟩
def Kz:SD:=⟨Aw0,fun x=>some (((Dx x.1 x.2.1),()),(()))⟩
def Aet:Tb:=tb [(159,At0),(160,Ws),(161,Ay0)]
def K0:Nat→Dq×(Nat→Dq):=Hk [(5,⟨[],[(1,.lf (.d tI)),(5,.lf (.d .str))],[]⟩,[(2,⟨[],[(1,.lf (.d tI)),(5,.lf (.d .str))],[]⟩)])]
def s5:Code:=(Ax (Bm Tryz.f72)).getD 0 .skip
def Lr {R:Type}  (NX:((Int)×(Aa)×Unit)→Option R) (X2:((Int)×(Aa)×Unit)→Option R) (v1:Int) (v5:Aa):Option R:=
 bif decide (IntKind.i64.wrap (nI v5.size + v1) < 64) then bif decide (v5.size + (ByteArray.mk #[0]).size≤9223372036854775807) then NX (v1,v5++ByteArray.mk #[0],()) else none else X2 (v1,v5,())
def G2:Nat→(Int)→(Aa) →  Option ((Int)×(Aa)×Unit)
 | 0,_,_=>none
 | m + 1,v1,v5=>Lr  (fun d=>G2 m d.1 d.2.1) (fun d=>some (d)) v1 v5
def Arf (d:(Int)×(Aa)×Unit):Option ((Int)×(Aa)×Unit):=(Ac (Ac Ah)) (G2 ((Ac (Ac Ah)) Lq d)) d
def Wu (a0:Pg) (a1:Int):Option ((((Aa)×Unit)×(Unit))):=
 bif !Abp a0 a1 then some ((Ad,()),()) else ((Ch a0.1 1).bind fun val=>some ((val,()),())).bind fun val=>((Ch a0.2.1 2).bind fun val=>some ((val,()),())).bind fun val_1=>bif decide (ByteArray.size val.1.1 + ByteArray.size val_1.1.1≤9223372036854775807) then ((Ch a0.2.2.1 4).bind fun val=>some ((val,()),())).bind fun val_2=>bif decide ((val.1.1++val_1.1.1).size + ByteArray.size val_2.1.1≤9223372036854775807) then ((Ch (nI (ByteArray.size a0.2.2.2.1)) 1).bind fun val=>some ((val,()),())).bind fun val_3=>bif decide ((val.1.1++val_1.1.1++val_2.1.1).size + ByteArray.size val_3.1.1≤9223372036854775807) then bif decide ((val.1.1++val_1.1.1++val_2.1.1++val_3.1.1).size + ByteArray.size a0.2.2.2.1≤9223372036854775807) then ((fun d=>G2 (Lq d.1 d.2.1) d.1 d.2.1) (a1,val.1.1++val_1.1.1++val_2.1.1++val_3.1.1++a0.2.2.2.1,())).bind fun val=>((s4 val.2.1 val.1).bind fun val=>some ((val,()),())).bind fun val_4=>bif decide (ByteArray.size val_4.1.1 + ByteArray.size val.2.1≤9223372036854775807) then some ((val_4.1.1++val.2.1,()),()) else none else none else none else none else none
theorem Be4 (w:Int):∀ (k m:Nat) (b:Aa),(b.size:Int) + w + k=64→0≤w→k < m→G2 m w b=some (w,b++strOfNums (List.replicate k 0),())
 | 0,m + 1,b,h,h0,hm=>by
  simp only [G2,Lr]
  rw [Aj (by simp only [nI]; omega) (by simp only [nI]; omega),Bd (show ¬ (nI b.size + w < 64) by simp only [nI]; omega),show strOfNums (List.replicate 0 0)=Ad from rfl,Bmw]
  rfl
 | k + 1,m + 1,b,h,h0,hm=>by
  simp only [G2,Lr]
  have hz:(ByteArray.mk #[0]).size=1:=rfl
  rw [Aj (by simp only [nI]; omega) (by simp only [nI]; omega),Af (show nI b.size + w < 64 by simp only [nI]; omega),hz,Af (show b.size + 1≤9223372036854775807 by omega)]
  have:=Be4 w k m (b++ByteArray.mk #[0]) (by rw [ByteArray.size_append,hz]; omega) h0 (by omega)
  refine this.trans ?_
  rw [ByteArray.append_assoc,show ByteArray.mk #[0]=strOfNums [0] from rfl,← Aoq]
  rfl
theorem Aw1 (a0:Pg) (a1:Int):Wu a0 a1=some (((Dx a0 a1),()),(())):=by
 unfold Wu Dx Ca
 show (bif !Ee a0 a1 then _ else _)=_
 cases hp:Ee a0 a1 with
 | false=>rfl
 | true=>
  obtain ⟨hw,k1,k2,kp⟩:=g8 hp
  obtain ⟨r1,r2,r3⟩:=Ajy hp
  have n1:Ch a0.1 1=some (Dm a0.1 1):=(Ir _ _).trans (if_pos (by omega))
  have n2:Ch a0.2.1 2=some (Dm a0.2.1 2):=(Ir _ _).trans (if_pos (by omega))
  have n3:Ch a0.2.2.1 4=some (Dm a0.2.2.1 4):=(Ir _ _).trans (if_pos (by omega))
  have n4:Ch (nI a0.2.2.2.1.size) 1=some (Dm (nI a0.2.2.2.1.size) 1):=(Ir _ _).trans (if_pos (by simp only [nI]; omega))
  simp only [Bool.not_true,cond_false,cond_true,n1,n2,n3,n4,Option.bind_some]
  have hb:Jm a0 a1=Dm a0.1 1++Dm a0.2.1 2++Dm a0.2.2.1 4++Dm (nI a0.2.2.2.1.size) 1++a0.2.2.2.1++strOfNums (List.replicate (56 - a1 - a0.2.2.2.1.size).toNat 0):=rfl
  have hs4:(Dm a0.1 1++Dm a0.2.1 2++Dm a0.2.2.1 4++Dm (nI a0.2.2.2.1.size) 1).size=8:=by simp only [ByteArray.size_append,K9]
  have hs3:(Dm a0.1 1++Dm a0.2.1 2++Dm a0.2.2.1 4).size=7:=by simp only [ByteArray.size_append,K9]
  have hs2:(Dm a0.1 1++Dm a0.2.1 2).size=3:=by simp only [ByteArray.size_append,K9]
  have hs5:(Dm a0.1 1++Dm a0.2.1 2++Dm a0.2.2.1 4++Dm (nI a0.2.2.2.1.size) 1++a0.2.2.2.1).size=8 + a0.2.2.2.1.size:=by rw [ByteArray.size_append,hs4]
  rw [hs4,hs3,hs2,K9,K9,K9,K9,Af (show 1 + 2≤9223372036854775807 by decide),Af (show 3 + 4≤9223372036854775807 by decide),Af (show 7 + 1≤9223372036854775807 by decide),Af (show 8 + a0.2.2.2.1.size≤9223372036854775807 by omega)]
  simp only [cond_true]
  generalize hB:Dm a0.1 1++Dm a0.2.1 2++Dm a0.2.2.1 4++Dm (nI a0.2.2.2.1.size) 1++a0.2.2.2.1=B at *
  have hL:=Be4 a1 (56 - a1 - a0.2.2.2.1.size).toNat (Lq a1 B) B (by rw [hs5]; omega) (by omega) (by simp only [Lq,nI,hs5]; omega)
  have hz:(strOfNums (List.replicate (56 - a1 - a0.2.2.2.1.size).toNat 0)).size=(56 - a1 - a0.2.2.2.1.size).toNat:=by rw [D3,List.length_replicate]
  rw [← hb] at hL
  have hbs:(Jm a0 a1).size≤64:=by rw [hb,ByteArray.size_append,hs5,hz]; omega
  have hm:s4 (Jm a0 a1) a1=some (Asv (Jm a0 a1) a1):=if_pos (by omega)
  refine bi_ hL (bi_ (bi_ hm rfl) ?_)
  show (bif decide (ByteArray.size (Asv (Jm a0 a1) a1) + ByteArray.size (Jm a0 a1)≤9223372036854775807) then some ((Asv (Jm a0 a1) a1++Jm a0 a1,()),()) else none)=_
  rw [Ady hw,Af (by omega)]
  rfl
def s6 {R:Type} (k:Kt R):=(L7 (K0 5) (.exit 0) 2 k)
def Ahr {R:Type}:Lt R K0:=(Fp (pat:=K0) 5 (fun d k=>(Arf d).bind (s6 k)) Ik)
theorem Aeu:A5 Tryz.prog Aet:=Bb ⟨Bbu,Aes,Be3,trivial⟩
theorem Arg {R:Type}:Ba Tryz.prog R 41 0 K0 Ahr s5:=
 Cn (cfg:=⟨Aet,0,41,K0⟩) 5 [] (fun NX X d=>(Ac (Ac Ah)) (Lr  NX X) d) (fun m d=>(Ac (Ac Ah)) (G2 m) d) (fun d=>(Ac (Ac Ah)) Lq d) s6 Aeu trivial (fun f NX d=>by simp only [u4,Ac,Ah]; unfold Lr; simp only [nb])
theorem N2:B8 Tryz.prog 72 Kz:=
 A7 (pat:=K0) [s5] Ahr Aeu ⟨Arg,trivial⟩ Tryz.func72 (de:=fun x=>Wu x.1 x.2.1) (fun x r h=>(Aw1 x.1 x.2.1).trans h) fun _=>by kernel_rfl
def S5 (e:Aa) (life first w:Int):Option (List Aa):=if e.size≤1048576 then some (Xm e life first w) else none
def Pq (v1 v2 v3:Int) (v10:List Aa) (v11:Int) (r0:List Aa):Nat:=(nI v10.length - v11).toNat + 1
def Be5:Hh:=⟨[.rd .str,.rd tI,.rd tI,.rd tI],[none,none,none,none],[.own 9 .str],[none]⟩
def Ak1:SD:=⟨Be5,fun x=>(S5 x.1 x.2.1 x.2.2.1 x.2.2.2.1).bind fun r=>some ((r,()),(()))⟩
def Ay1:Tb:=tb [(65,Dv),(72,Kz),(200,Ym)]
def Tr:Nat→Dq×(Nat→Dq):=Hk [(9,⟨[.row 9 0 9 .str,.sl 10 0 .str],[(1,.lf (.d tI)),(2,.lf (.d tI)),(3,.lf (.d tI)),(9,.lf (.row 0)),(10,.lf (.d (.sl .str))),(11,.lf (.d tI))],[.row 9 .str]⟩,[(2,⟨[.row 9 0 9 .str],[(9,.lf (.row 0))],[.row 9 .str]⟩)])]
def Ao8:Code:=(Ax (Bm Tryz.f124)).getD 0 .skip
def R4 {R:Type}  (NX:((Int)×(Int)×(Int)×(List Aa)×(Int)×(List Aa)×Unit)→Option R) (X2:((List Aa)×Unit)→Option R) (v1:Int) (v2:Int) (v3:Int) (v10:List Aa) (v11:Int) (r0:List Aa):Option R:=
 bif decide (v11 < nI v10.length) then bif v11==IntKind.i64.wrap (nI v10.length - 1) then bif decide (0≤v11) then bif decide (v11 < nI v10.length) then bif decide ((r0.length + [Dx (2,v1,IntKind.i64.wrap (v2 + v11),v10.getD v11.toNat (Ad),()) v3].length) * 16≤140737488355328) then NX (v1,v2,v3,v10,IntKind.i64.wrap (v11 + 1),r0++[Dx (2,v1,IntKind.i64.wrap (v2 + v11),v10.getD v11.toNat (Ad),()) v3],()) else none else none else none else bif decide (0≤v11) then bif decide (v11 < nI v10.length) then bif decide ((r0.length + [Dx (1,v1,IntKind.i64.wrap (v2 + v11),v10.getD v11.toNat (Ad),()) v3].length) * 16≤140737488355328) then NX (v1,v2,v3,v10,IntKind.i64.wrap (v11 + 1),r0++[Dx (1,v1,IntKind.i64.wrap (v2 + v11),v10.getD v11.toNat (Ad),()) v3],()) else none else none else none else X2 (r0,())
def Hi:Nat→(Int)→(Int)→(Int)→(List Aa)→(Int)→(List Aa) →  Option ((List Aa)×Unit)
 | 0,_,_,_,_,_,_=>none
 | m + 1,v1,v2,v3,v10,v11,r0=>R4  (fun d=>Hi m d.1 d.2.1 d.2.2.1 d.2.2.2.1 d.2.2.2.2.1 d.2.2.2.2.2.1) (fun d=>some (d)) v1 v2 v3 v10 v11 r0
def A7j (d:(Int)×(Int)×(Int)×(List Aa)×(Int)×(List Aa)×Unit):Option ((List Aa)×Unit):=(u4 (Ac (Ac Ah))) (Hi ((u4 (Ac (Ac Ah))) Pq d)) d
def Ak2 (a0:Aa) (a1 a2 a3:Int):Option ((((List Aa)×Unit)×(Unit))):=
 (Co a3).bind fun val=>bif !val.1.1 then some (([],()),()) else bif decide (a1 < 1) then some (([],()),()) else bif decide (a1 > 60000) then some (([],()),()) else bif decide (a2 < 1) then some (([],()),()) else bif decide (a2 > 1000000000) then some (([],()),()) else ((Le a0 a3).bind fun val=>some ((val,()),())).bind fun val=>bif decide (nI (List.length val.1.1) > IntKind.i64.wrap (IntKind.i64.wrap (1000000000 - a2) + 1)) then some (([],()),()) else ((fun d=>Hi (Pq d.1 d.2.1 d.2.2.1 d.2.2.2.1 d.2.2.2.2.1 d.2.2.2.2.2.1) d.1 d.2.1 d.2.2.1 d.2.2.2.1 d.2.2.2.2.1 d.2.2.2.2.2.1) (a1,a2,a3,val.1.1,0,[],())).bind fun val=>some (val,())
theorem Be6 (a0:Aa) (a1 a2 a3:Int) r (h:S5 a0 a1 a2 a3=some r):Ak2 a0 a1 a2 a3=some ((r,()),(())):=by
 unfold S5 at h
 split at h
 rotate_left
 ·cases h
 rename_i hc
 cases h
 unfold Ak2 Xm
 refine bi_ (wid a3) ?_
 rw [A3g a1]
 show (bif !Bq a3 1 8 then _ else (bif Bq a1 1 60000 then _ else _))=_
 cases hw:Bq a3 1 8 with
 | false=>rfl
 | true=>
  obtain ⟨k1,k2⟩:=Cw hw
  have hp:=i8 (s:=a0) hw
  have hP:E5 a0.size a3=((Ao a0 a3).length:Int):=by unfold E5; rw [hw]; exact hp.symm
  have hlen:(Ao a0 a3).length≤a0.size + 1:=Ajz _ _ _
  have h1:1≤(Ao a0 a3).length:=by
   have:(1:Int)≤((Ao a0 a3).length:Int):=by rw [hp]; split<;>omega
   omega
  have n1:Le a0 a3=some (Ao a0 a3):=if_pos ⟨by omega,k1,k2⟩
  rw [hP]
  cases hl:Bq a1 1 60000 with
  | false=>rfl
  | true=>
   by_cases q1:a2 < 1
   ·rw [Af q1,Bd (show ¬ 1≤a2 by omega)]; rfl
   ·rw [Bd q1,Af (show 1≤a2 by omega)]
    by_cases q0:a2 > 1000000000
    ·rw [Af q0,Bd (show ¬ a2≤1000000000 - ((Ao a0 a3).length:Int) + 1 by omega)]; rfl
    ·rw [Bd q0]
     refine bi_ (bi_ n1 rfl) ?_
     show (bif decide (nI (Ao a0 a3).length > IntKind.i64.wrap (IntKind.i64.wrap (1000000000 - a2) + 1)) then _ else (Option.bind (Hi (Pq a1 a2 a3 (Ao a0 a3) 0 []) a1 a2 a3 (Ao a0 a3) 0 []) _))=_
     rw [Aj (n:=1000000000 - a2) (by omega) (by omega),Aj (n:=1000000000 - a2 + 1) (by omega) (by omega)]
     simp only [nI]
     by_cases q2:a2 > 1000000000 - ((Ao a0 a3).length:Int) + 1
     ·rw [Af (show ((Ao a0 a3).length:Int) > 1000000000 - a2 + 1 by omega),Bd (show ¬ a2≤1000000000 - ((Ao a0 a3).length:Int) + 1 by omega)]; rfl
     ·rw [Bd (show ¬ ((Ao a0 a3).length:Int) > 1000000000 - a2 + 1 by omega),Af (show a2≤1000000000 - ((Ao a0 a3).length:Int) + 1 by omega)]
      generalize Ao a0 a3=P at *
      have hL:=Am2 P.length (fun i r=>r.length=i) (fun i r=>r++[Ca ((if i + 1=P.length then 2 else 1),a1,a2 + (i:Int),P.getD i z0,()) a3]) (g:=fun m i r=>Hi m a1 a2 a3 P i r) (ok:=fun r=>(r,())) (fun m i r hi hr=>by
       show Hi (m + 1) a1 a2 a3 P i r=_
       simp only [Hi,R4]
       rw [cLt hi,J1,wI (show i < 4611686018427387904 by omega),Fz,Aj (n:=a2 + (i:Int)) (by omega) (by omega),Aj (n:=nI P.length - 1) (by simp only [nI]; omega) (by simp only [nI]; omega),En,En,Af (show (r.length + 1) * 16≤140737488355328 by omega)]
       by_cases e:i + 1=P.length
       ·rw [show ((i:Int)==nI P.length - 1)=true from beq_iff_eq.2 (by simp only [nI]; omega),if_pos e]; rfl
       ·rw [show ((i:Int)==nI P.length - 1)=false from beq_eq_false_iff_ne.2 (by simp only [nI]; omega),if_neg e]; rfl) (fun m r _=>by
       show Hi (m + 1) a1 a2 a3 P (P.length:Int) r=_
       simp only [Hi,R4]
       rw [Qd]
       rfl) (fun i r hi hr=>by rw [Dn,En,hr]) P.length (Pq a1 a2 a3 P 0 []) 0 [] (by omega) (by simp only [Pq,nI]; omega) rfl
      rw [A88 (fun i=>Ca ((if i + 1=P.length then 2 else 1),a1,a2 + (i:Int),P.getD i z0,()) a3),List.nil_append,← Xo] at hL
      exact bi_ hL rfl
def Ao9 {R:Type} (k:Kt R):=(L7 (Tr 9) (.exit 0) 2 k)
def A43 {R:Type}:Lt R Tr:=(Fp (pat:=Tr) 9 (fun d k=>(A7j d).bind (Ao9 k)) Ik)
theorem Ay2:A5 Tryz.prog Ay1:=Bb ⟨Ej,N2,Ahh,trivial⟩
theorem A7k {R:Type}:Ba Tryz.prog R 71 0 Tr A43 Ao8:=
 Cn (cfg:=⟨Ay1,0,71,Tr⟩) 9 [] (fun NX X d=>(u4 (Ac (Ac Ah))) (R4  NX X) d) (fun m d=>(u4 (Ac (Ac Ah))) (Hi m) d) (fun d=>(u4 (Ac (Ac Ah))) Pq d) Ao9 Ay2 trivial (fun f NX d=>by simp only [u4,Ac,Ah]; unfold R4; simp only [nb])
theorem Ay3:B8 Tryz.prog 124 Ak1:=
 A7 (pat:=Tr) [Ao8] A43 Ay2 ⟨A7k,trivial⟩ Tryz.func124 (de:=fun x=>Ak2 x.1 x.2.1 x.2.2.1 x.2.2.2.1) (fun x r h=>Hf (Be6 x.1 x.2.1 x.2.2.1 x.2.2.2.1) h) fun _=>by kernel_rfl
def A0 (s:Ez) (b:List Bc):Pl:=Bs s b
def A44:Hh:=⟨[.rd Yg,.rd (.sl Dr)],[some 10,none],[.rd tI,.rd tI,.rd tI,.rd tI,.rd tI,.rd tI,.rd tI,.rd tI,.rd tI,.rd tI,.own 157 A1,.own 142 E4],[some 12]⟩
def U2:SD:=⟨A44,fun x=>some (((A0 x.1 x.2.1).1,(A0 x.1 x.2.1).2.1.1,(A0 x.1 x.2.1).2.1.2.1,(A0 x.1 x.2.1).2.1.2.2.1,(A0 x.1 x.2.1).2.1.2.2.2.1.1,(A0 x.1 x.2.1).2.1.2.2.2.1.2.1,(A0 x.1 x.2.1).2.1.2.2.2.1.2.2.1,(A0 x.1 x.2.1).2.1.2.2.2.1.2.2.2.1,(A0 x.1 x.2.1).2.1.2.2.2.2.1,(A0 x.1 x.2.1).2.1.2.2.2.2.2.1,(A0 x.1 x.2.1).2.1.2.2.2.2.2.2.1.1,(A0 x.1 x.2.1).2.2.1,()),(()))⟩
def Ak3:Tb:=tb [(30,Lh),(40,Nw),(41,Z9),(109,U0),(112,Xj),(122,Ov),(123,Ac9),(124,Ak1),(125,Mu)]
def N3:Nat→Dq×(Nat→Dq):=Hk [(17,⟨[.sl 8 0 .str,.row 10 0 142 E4,.boxSl 2 9 A1,.boxRow 4 10 157 A1,.boxRow 4 11 142 E4,.boxRow 9 9 157 A1],[(2,.lf (.ptr 0 0)),(4,.lf (.ptr 1 0)),(8,.lf (.d (.sl .str))),(9,.lf (.ptr 2 0)),(10,.lf (.row 3)),(11,.lf (.d tI))],[.box 33 [.d tI,.d tI,.d tI,.d tI,.d tI,.d tI,.d tI,.d tI,.d tI,.d (.sl A1)],.box 68 [.d tI,.d tI,.d tI,.d tI,.d tI,.d tI,.d tI,.d tI,.d tI,.d tI,.row 4,.row 5],.box 33 [.d tI,.d tI,.d tI,.d tI,.d tI,.d tI,.d tI,.d tI,.d tI,.row 6],.row 142 E4,.row 157 A1,.row 142 E4,.row 157 A1]⟩,[(2,⟨[.row 10 0 142 E4,.boxRow 4 10 157 A1,.boxRow 4 11 142 E4,.boxRow 9 9 157 A1],[(4,.lf (.ptr 0 0)),(9,.lf (.ptr 1 0)),(10,.lf (.row 2))],[.box 68 [.d tI,.d tI,.d tI,.d tI,.d tI,.d tI,.d tI,.d tI,.d tI,.d tI,.row 3,.row 4],.box 33 [.d tI,.d tI,.d tI,.d tI,.d tI,.d tI,.d tI,.d tI,.d tI,.row 5],.row 142 E4,.row 157 A1,.row 142 E4,.row 157 A1]⟩)])]
def Abq:Code:=(Ax (Bm Tryz.f36)).getD 0 .skip
def Ju (v8:List Aa) (v11 b0_0:Int) (b0_1 b0_2:Int) (b0_3 b0_4:Int) (b0_5 b0_6:Int) (b0_7 b0_8:Int) (b0_9:List A2) (b1_0 b1_1:Int) (b1_2 b1_3:Int) (b1_4 b1_5:Int) (b1_6 b1_7:Int) (b1_8 b1_9:Int) (b2_0 b2_1:Int) (b2_2 b2_3:Int) (b2_4 b2_5:Int) (b2_6 b2_7 b2_8:Int) (r3:List Dc) (r4:List A2) (r5:List Dc) (r6:List A2):Nat:=((v8.length:Int) - v11).toNat + 1
def My {R:Type}  (NX:((List Aa)×(Int)×(Int)×(Int)×(Int)×(Int)×(Int)×(Int)×(Int)×(Int)×(Int)×(List A2)×(Int)×(Int)×(Int)×(Int)×(Int)×(Int)×(Int)×(Int)×(Int)×(Int)×(Int)×(Int)×(Int)×(Int)×(Int)×(Int)×(Int)×(Int)×(Int)×(List Dc)×(List A2)×(List Dc)×(List A2)×Unit)→Option R) (X2:((Int)×(Int)×(Int)×(Int)×(Int)×(Int)×(Int)×(Int)×(Int)×(Int)×(Int)×(Int)×(Int)×(Int)×(Int)×(Int)×(Int)×(Int)×(Int)×(List Dc)×(List A2)×(List Dc)×(List A2)×Unit)→Option R) (v8:List Aa) (v11:Int) (b0_0:Int) (b0_1:Int) (b0_2:Int) (b0_3:Int) (b0_4:Int) (b0_5:Int) (b0_6:Int) (b0_7:Int) (b0_8:Int) (b0_9:List A2) (b1_0:Int) (b1_1:Int) (b1_2:Int) (b1_3:Int) (b1_4:Int) (b1_5:Int) (b1_6:Int) (b1_7:Int) (b1_8:Int) (b1_9:Int) (b2_0:Int) (b2_1:Int) (b2_2:Int) (b2_3:Int) (b2_4:Int) (b2_5:Int) (b2_6:Int) (b2_7:Int) (b2_8:Int) (r3:List Dc) (r4:List A2) (r5:List Dc) (r6:List A2):Option R:=
 bif decide (v11 < nI v8.length) then bif decide (0≤v11) then bif decide (v11 < nI v8.length) then bif decide ((r3.length + [(false,IntKind.i64.wrap (By b0_1 b0_4 + b2_7),v8.getD v11.toNat (Ad),())].length) * 32≤140737488355328) then NX (v8,IntKind.i64.wrap (v11 + 1),b0_0,b0_1,b0_2,b0_3,b0_4,b0_5,b0_6,b0_7,b0_8,b0_9,b1_0,b1_1,b1_2,b1_3,b1_4,b1_5,b1_6,b1_7,b1_8,b1_9,b2_0,b2_1,b2_2,b2_3,b2_4,b2_5,b2_6,IntKind.i64.wrap (b2_7 + 1),IntKind.i64.wrap (b2_8 + 1),r3++[(false,IntKind.i64.wrap (By b0_1 b0_4 + b2_7),v8.getD v11.toNat (Ad),())],r4,r5,r6,()) else none else none else none else X2 (b1_0,b1_1,b1_2,b1_3,b1_4,b1_5,b1_6,b1_7,b1_8,b1_9,b2_0,b2_1,b2_2,b2_3,b2_4,b2_5,b2_6,b2_7,b2_8,r3,r4,r5,r6,())
def Dh:Nat→(List Aa)→(Int)→(Int)→(Int)→(Int)→(Int)→(Int)→(Int)→(Int)→(Int)→(Int)→(List A2)→(Int)→(Int)→(Int)→(Int)→(Int)→(Int)→(Int)→(Int)→(Int)→(Int)→(Int)→(Int)→(Int)→(Int)→(Int)→(Int)→(Int)→(Int)→(Int)→(List Dc)→(List A2)→(List Dc)→(List A2) →  Option ((Int)×(Int)×(Int)×(Int)×(Int)×(Int)×(Int)×(Int)×(Int)×(Int)×(Int)×(Int)×(Int)×(Int)×(Int)×(Int)×(Int)×(Int)×(Int)×(List Dc)×(List A2)×(List Dc)×(List A2)×Unit)
 | 0,_,_,_,_,_,_,_,_,_,_,_,_,_,_,_,_,_,_,_,_,_,_,_,_,_,_,_,_,_,_,_,_,_,_,_=>none
 | m + 1,v8,v11,b0_0,b0_1,b0_2,b0_3,b0_4,b0_5,b0_6,b0_7,b0_8,b0_9,b1_0,b1_1,b1_2,b1_3,b1_4,b1_5,b1_6,b1_7,b1_8,b1_9,b2_0,b2_1,b2_2,b2_3,b2_4,b2_5,b2_6,b2_7,b2_8,r3,r4,r5,r6=>My  (fun d=>Dh m d.1 d.2.1 d.2.2.1 d.2.2.2.1 d.2.2.2.2.1 d.2.2.2.2.2.1 d.2.2.2.2.2.2.1 d.2.2.2.2.2.2.2.1 d.2.2.2.2.2.2.2.2.1 d.2.2.2.2.2.2.2.2.2.1 d.2.2.2.2.2.2.2.2.2.2.1 d.2.2.2.2.2.2.2.2.2.2.2.1 d.2.2.2.2.2.2.2.2.2.2.2.2.1 d.2.2.2.2.2.2.2.2.2.2.2.2.2.1 d.2.2.2.2.2.2.2.2.2.2.2.2.2.2.1 d.2.2.2.2.2.2.2.2.2.2.2.2.2.2.2.1 d.2.2.2.2.2.2.2.2.2.2.2.2.2.2.2.2.1 d.2.2.2.2.2.2.2.2.2.2.2.2.2.2.2.2.2.1 d.2.2.2.2.2.2.2.2.2.2.2.2.2.2.2.2.2.2.1 d.2.2.2.2.2.2.2.2.2.2.2.2.2.2.2.2.2.2.2.1 d.2.2.2.2.2.2.2.2.2.2.2.2.2.2.2.2.2.2.2.2.1 d.2.2.2.2.2.2.2.2.2.2.2.2.2.2.2.2.2.2.2.2.2.1 d.2.2.2.2.2.2.2.2.2.2.2.2.2.2.2.2.2.2.2.2.2.2.1 d.2.2.2.2.2.2.2.2.2.2.2.2.2.2.2.2.2.2.2.2.2.2.2.1 d.2.2.2.2.2.2.2.2.2.2.2.2.2.2.2.2.2.2.2.2.2.2.2.2.1 d.2.2.2.2.2.2.2.2.2.2.2.2.2.2.2.2.2.2.2.2.2.2.2.2.2.1 d.2.2.2.2.2.2.2.2.2.2.2.2.2.2.2.2.2.2.2.2.2.2.2.2.2.2.1 d.2.2.2.2.2.2.2.2.2.2.2.2.2.2.2.2.2.2.2.2.2.2.2.2.2.2.2.1 d.2.2.2.2.2.2.2.2.2.2.2.2.2.2.2.2.2.2.2.2.2.2.2.2.2.2.2.2.1 d.2.2.2.2.2.2.2.2.2.2.2.2.2.2.2.2.2.2.2.2.2.2.2.2.2.2.2.2.2.1 d.2.2.2.2.2.2.2.2.2.2.2.2.2.2.2.2.2.2.2.2.2.2.2.2.2.2.2.2.2.2.1 d.2.2.2.2.2.2.2.2.2.2.2.2.2.2.2.2.2.2.2.2.2.2.2.2.2.2.2.2.2.2.2.1 d.2.2.2.2.2.2.2.2.2.2.2.2.2.2.2.2.2.2.2.2.2.2.2.2.2.2.2.2.2.2.2.2.1 d.2.2.2.2.2.2.2.2.2.2.2.2.2.2.2.2.2.2.2.2.2.2.2.2.2.2.2.2.2.2.2.2.2.1 d.2.2.2.2.2.2.2.2.2.2.2.2.2.2.2.2.2.2.2.2.2.2.2.2.2.2.2.2.2.2.2.2.2.2.1) (fun d=>some (d)) v8 v11 b0_0 b0_1 b0_2 b0_3 b0_4 b0_5 b0_6 b0_7 b0_8 b0_9 b1_0 b1_1 b1_2 b1_3 b1_4 b1_5 b1_6 b1_7 b1_8 b1_9 b2_0 b2_1 b2_2 b2_3 b2_4 b2_5 b2_6 b2_7 b2_8 r3 r4 r5 r6
def At1 (d:(List Aa)×(Int)×(Int)×(Int)×(Int)×(Int)×(Int)×(Int)×(Int)×(Int)×(Int)×(List A2)×(Int)×(Int)×(Int)×(Int)×(Int)×(Int)×(Int)×(Int)×(Int)×(Int)×(Int)×(Int)×(Int)×(Int)×(Int)×(Int)×(Int)×(Int)×(Int)×(List Dc)×(List A2)×(List Dc)×(List A2)×Unit):Option ((Int)×(Int)×(Int)×(Int)×(Int)×(Int)×(Int)×(Int)×(Int)×(Int)×(Int)×(Int)×(Int)×(Int)×(Int)×(Int)×(Int)×(Int)×(Int)×(List Dc)×(List A2)×(List Dc)×(List A2)×Unit):=(u4 (u4 (u4 (u4 (u4 (u4 (u4 (u4 (Ac (Ac (Ac Ah))))))))))) (Dh ((u4 (u4 (u4 (u4 (u4 (u4 (u4 (u4 (Ac (Ac (Ac Ah))))))))))) Ju d)) d
def s7 (a0:Ez) (a1:List Bc):Option ((((Int)×(Int)×(Int)×(Int)×(Int)×(Int)×(Int)×(Int)×(Int)×(Int)×(List A2)×(List Dc)×Unit)×(Unit))):=
 bif !Hn a0 then some ((1,0,0,0,0,0,0,0,0,0,[],[],()),()) else bif !Jo a1 then some ((1,0,0,0,0,0,0,0,0,0,[],[],()),()) else bif (Gr a0.2.2.2.2.2.2.1 a1).2 != 0 then some ((2,0,0,0,0,0,0,0,0,0,[],[],()),()) else bif decide (On (Gr a0.2.2.2.2.2.2.1 a1).1 a0.1 > IntKind.i64.wrap (A3 a0.2.1 - 1)) then some ((3,0,0,0,0,0,0,0,0,0,[],[],()),()) else ((S5 (Er a1) a0.2.2.1 (IntKind.i64.wrap (a0.2.2.2.1.2.2.1 + a0.2.2.2.2.1)) a0.1).bind fun val=>some ((val,()),())).bind fun val=>bif decide (nI (List.length val.1.1) > IntKind.i64.wrap (A3 a0.2.1 - a0.2.2.2.2.1)) then some ((4,0,0,0,0,0,0,0,0,0,[],[],()),()) else ((fun d=>Dh (Ju d.1 d.2.1 d.2.2.1 d.2.2.2.1 d.2.2.2.2.1 d.2.2.2.2.2.1 d.2.2.2.2.2.2.1 d.2.2.2.2.2.2.2.1 d.2.2.2.2.2.2.2.2.1 d.2.2.2.2.2.2.2.2.2.1 d.2.2.2.2.2.2.2.2.2.2.1 d.2.2.2.2.2.2.2.2.2.2.2.1 d.2.2.2.2.2.2.2.2.2.2.2.2.1 d.2.2.2.2.2.2.2.2.2.2.2.2.2.1 d.2.2.2.2.2.2.2.2.2.2.2.2.2.2.1 d.2.2.2.2.2.2.2.2.2.2.2.2.2.2.2.1 d.2.2.2.2.2.2.2.2.2.2.2.2.2.2.2.2.1 d.2.2.2.2.2.2.2.2.2.2.2.2.2.2.2.2.2.1 d.2.2.2.2.2.2.2.2.2.2.2.2.2.2.2.2.2.2.1 d.2.2.2.2.2.2.2.2.2.2.2.2.2.2.2.2.2.2.2.1 d.2.2.2.2.2.2.2.2.2.2.2.2.2.2.2.2.2.2.2.2.1 d.2.2.2.2.2.2.2.2.2.2.2.2.2.2.2.2.2.2.2.2.2.1 d.2.2.2.2.2.2.2.2.2.2.2.2.2.2.2.2.2.2.2.2.2.2.1 d.2.2.2.2.2.2.2.2.2.2.2.2.2.2.2.2.2.2.2.2.2.2.2.1 d.2.2.2.2.2.2.2.2.2.2.2.2.2.2.2.2.2.2.2.2.2.2.2.2.1 d.2.2.2.2.2.2.2.2.2.2.2.2.2.2.2.2.2.2.2.2.2.2.2.2.2.1 d.2.2.2.2.2.2.2.2.2.2.2.2.2.2.2.2.2.2.2.2.2.2.2.2.2.2.1 d.2.2.2.2.2.2.2.2.2.2.2.2.2.2.2.2.2.2.2.2.2.2.2.2.2.2.2.1 d.2.2.2.2.2.2.2.2.2.2.2.2.2.2.2.2.2.2.2.2.2.2.2.2.2.2.2.2.1 d.2.2.2.2.2.2.2.2.2.2.2.2.2.2.2.2.2.2.2.2.2.2.2.2.2.2.2.2.2.1 d.2.2.2.2.2.2.2.2.2.2.2.2.2.2.2.2.2.2.2.2.2.2.2.2.2.2.2.2.2.2.1 d.2.2.2.2.2.2.2.2.2.2.2.2.2.2.2.2.2.2.2.2.2.2.2.2.2.2.2.2.2.2.2.1 d.2.2.2.2.2.2.2.2.2.2.2.2.2.2.2.2.2.2.2.2.2.2.2.2.2.2.2.2.2.2.2.2.1 d.2.2.2.2.2.2.2.2.2.2.2.2.2.2.2.2.2.2.2.2.2.2.2.2.2.2.2.2.2.2.2.2.2.1 d.2.2.2.2.2.2.2.2.2.2.2.2.2.2.2.2.2.2.2.2.2.2.2.2.2.2.2.2.2.2.2.2.2.2.1) d.1 d.2.1 d.2.2.1 d.2.2.2.1 d.2.2.2.2.1 d.2.2.2.2.2.1 d.2.2.2.2.2.2.1 d.2.2.2.2.2.2.2.1 d.2.2.2.2.2.2.2.2.1 d.2.2.2.2.2.2.2.2.2.1 d.2.2.2.2.2.2.2.2.2.2.1 d.2.2.2.2.2.2.2.2.2.2.2.1 d.2.2.2.2.2.2.2.2.2.2.2.2.1 d.2.2.2.2.2.2.2.2.2.2.2.2.2.1 d.2.2.2.2.2.2.2.2.2.2.2.2.2.2.1 d.2.2.2.2.2.2.2.2.2.2.2.2.2.2.2.1 d.2.2.2.2.2.2.2.2.2.2.2.2.2.2.2.2.1 d.2.2.2.2.2.2.2.2.2.2.2.2.2.2.2.2.2.1 d.2.2.2.2.2.2.2.2.2.2.2.2.2.2.2.2.2.2.1 d.2.2.2.2.2.2.2.2.2.2.2.2.2.2.2.2.2.2.2.1 d.2.2.2.2.2.2.2.2.2.2.2.2.2.2.2.2.2.2.2.2.1 d.2.2.2.2.2.2.2.2.2.2.2.2.2.2.2.2.2.2.2.2.2.1 d.2.2.2.2.2.2.2.2.2.2.2.2.2.2.2.2.2.2.2.2.2.2.1 d.2.2.2.2.2.2.2.2.2.2.2.2.2.2.2.2.2.2.2.2.2.2.2.1 d.2.2.2.2.2.2.2.2.2.2.2.2.2.2.2.2.2.2.2.2.2.2.2.2.1 d.2.2.2.2.2.2.2.2.2.2.2.2.2.2.2.2.2.2.2.2.2.2.2.2.2.1 d.2.2.2.2.2.2.2.2.2.2.2.2.2.2.2.2.2.2.2.2.2.2.2.2.2.2.1 d.2.2.2.2.2.2.2.2.2.2.2.2.2.2.2.2.2.2.2.2.2.2.2.2.2.2.2.1 d.2.2.2.2.2.2.2.2.2.2.2.2.2.2.2.2.2.2.2.2.2.2.2.2.2.2.2.2.1 d.2.2.2.2.2.2.2.2.2.2.2.2.2.2.2.2.2.2.2.2.2.2.2.2.2.2.2.2.2.1 d.2.2.2.2.2.2.2.2.2.2.2.2.2.2.2.2.2.2.2.2.2.2.2.2.2.2.2.2.2.2.1 d.2.2.2.2.2.2.2.2.2.2.2.2.2.2.2.2.2.2.2.2.2.2.2.2.2.2.2.2.2.2.2.1 d.2.2.2.2.2.2.2.2.2.2.2.2.2.2.2.2.2.2.2.2.2.2.2.2.2.2.2.2.2.2.2.2.1 d.2.2.2.2.2.2.2.2.2.2.2.2.2.2.2.2.2.2.2.2.2.2.2.2.2.2.2.2.2.2.2.2.2.1 d.2.2.2.2.2.2.2.2.2.2.2.2.2.2.2.2.2.2.2.2.2.2.2.2.2.2.2.2.2.2.2.2.2.2.1) (val.1.1,0,a0.1,a0.2.1,a0.2.2.1,a0.2.2.2.1.1,a0.2.2.2.1.2.1,a0.2.2.2.1.2.2.1,a0.2.2.2.1.2.2.2.1,a0.2.2.2.2.1,a0.2.2.2.2.2.1,a0.2.2.2.2.2.2.1.1,0,0,0,0,0,0,0,0,0,0,a0.1,a0.2.1,a0.2.2.1,a0.2.2.2.1.1,a0.2.2.2.1.2.1,a0.2.2.2.1.2.2.1,a0.2.2.2.1.2.2.2.1,a0.2.2.2.2.1,a0.2.2.2.2.2.1,[],[],[],(Gr a0.2.2.2.2.2.2.1 a1).1)).bind fun val=>some ((0,val.2.2.2.2.2.2.2.2.2.2.1,val.2.2.2.2.2.2.2.2.2.2.2.1,val.2.2.2.2.2.2.2.2.2.2.2.2.1,val.2.2.2.2.2.2.2.2.2.2.2.2.2.1,val.2.2.2.2.2.2.2.2.2.2.2.2.2.2.1,val.2.2.2.2.2.2.2.2.2.2.2.2.2.2.2.1,val.2.2.2.2.2.2.2.2.2.2.2.2.2.2.2.2.1,val.2.2.2.2.2.2.2.2.2.2.2.2.2.2.2.2.2.1,val.2.2.2.2.2.2.2.2.2.2.2.2.2.2.2.2.2.2.1,val.2.2.2.2.2.2.2.2.2.2.2.2.2.2.2.2.2.2.2.2.2.2.1,val.2.2.2.2.2.2.2.2.2.2.2.2.2.2.2.2.2.2.2.1,()),())
theorem A7l (p0 p1 p2 p3 p4 p5 p6 p7 p8 q0 q1 q2 q3 q4 q5 q6 q7 q8:Int) (p9 r6:List A2) (L:List Aa) (hL:L.length≤4001) (hH:0≤p4∧p4≤1) (hU:0≤q7∧q7≤99) (hV:0≤q8∧q8≤99):
  Dh (Ju L 0 p0 p1 p2 p3 p4 p5 p6 p7 p8 p9 0 0 0 0 0 0 0 0 0 0 q0 q1 q2 q3 q4 q5 q6 q7 q8 [] [] [] r6) L 0 p0 p1 p2 p3 p4 p5 p6 p7 p8 p9 0 0 0 0 0 0 0 0 0 0 q0 q1 q2 q3 q4 q5 q6 q7 q8 [] [] [] r6=some (0,0,0,0,0,0,0,0,0,0,q0,q1,q2,q3,q4,q5,q6,q7 + nI L.length,q8 + nI L.length,(C9 (Bk p4 p1 + q7) L),[],[],r6,()):=by
 have hm:=Am9 (n:=p1) hH
 have e0:By p1 p4=Bk p4 p1:=by
  show IntKind.i64.wrap (2 + IntKind.i64.wrap (p4 * Al p1))=2 + p4 * Al p1
  rw [Aj (n:=p4 * Al p1) (by omega) (by omega),Aj (by omega) (by omega)]
 have hB:0≤Bk p4 p1∧Bk p4 p1≤101:=by unfold Bk; omega
 have hL:=E6 (xs:=L) z0 (fun i (r:List Dc)=>i≤4001∧r.length=i) (fun (i:Nat) x r=>r++[Lb (Bk p4 p1 + q7 + (i:Int)) x]) (g:=fun m (i:Int) r=>Dh m L i p0 p1 p2 p3 p4 p5 p6 p7 p8 p9 0 0 0 0 0 0 0 0 0 0 q0 q1 q2 q3 q4 q5 q6 (q7 + i) (q8 + i) r [] [] r6) (ok:=fun r=>(0,0,0,0,0,0,0,0,0,0,q0,q1,q2,q3,q4,q5,q6,q7 + nI L.length,q8 + nI L.length,r,[],[],r6,())) (fun m i r hi hI=>by
   show Dh (m + 1) L i p0 p1 p2 p3 p4 p5 p6 p7 p8 p9 0 0 0 0 0 0 0 0 0 0 q0 q1 q2 q3 q4 q5 q6 (q7 + (i:Int)) (q8 + (i:Int)) r [] [] r6=Dh m L ((i + 1:Nat):Int) p0 p1 p2 p3 p4 p5 p6 p7 p8 p9 0 0 0 0 0 0 0 0 0 0 q0 q1 q2 q3 q4 q5 q6 (q7 + ((i + 1:Nat):Int)) (q8 + ((i + 1:Nat):Int)) _ [] [] r6
   simp only [Dh,My]
   obtain ⟨h1,h2⟩:=hI
   rw [cLt hi,J1,wI (show i < 4611686018427387904 by omega),Fz,e0,Aj (n:=Bk p4 p1 + (q7 + (i:Int))) (by omega) (by omega),Aj (n:=q7 + (i:Int) + 1) (by omega) (by omega),Aj (n:=q8 + (i:Int) + 1) (by omega) (by omega),En,Af (show (r.length + 1) * 32≤140737488355328 by omega),
    show q7 + (i:Int) + 1=q7 + ((i + 1:Nat):Int) by omega,show q8 + (i:Int) + 1=q8 + ((i + 1:Nat):Int) by omega,show Bk p4 p1 + (q7 + (i:Int))=Bk p4 p1 + q7 + (i:Int) by omega]
   rfl) (fun i r hi hI=>⟨by omega,by rw [Dn,En,hI.2]⟩) (fun m r hI=>by
   show Dh (m + 1) L (L.length:Int) p0 p1 p2 p3 p4 p5 p6 p7 p8 p9 0 0 0 0 0 0 0 0 0 0 q0 q1 q2 q3 q4 q5 q6 (q7 + (L.length:Int)) (q8 + (L.length:Int)) r [] [] r6=_
   simp only [Dh,My]
   rw [Qd]
   rfl) (Ju L 0 p0 p1 p2 p3 p4 p5 p6 p7 p8 p9 0 0 0 0 0 0 0 0 0 0 q0 q1 q2 q3 q4 q5 q6 q7 q8 [] [] [] r6) 0 [] (by omega) (by simp [Ju,nI]) ⟨by omega,rfl⟩
 rw [Am7,List.drop_zero,List.nil_append,show Bk p4 p1 + q7 + ((0:Nat):Int)=Bk p4 p1 + q7 by omega] at hL
 simp only [show q7 + ((0:Nat):Int)=q7 by omega,show q8 + ((0:Nat):Int)=q8 by omega] at hL
 exact hL
theorem A45 (a0:Ez) (a1:List Bc):s7 a0 a1=some (((A0 a0 a1).1,(A0 a0 a1).2.1.1,(A0 a0 a1).2.1.2.1,(A0 a0 a1).2.1.2.2.1,(A0 a0 a1).2.1.2.2.2.1.1,(A0 a0 a1).2.1.2.2.2.1.2.1,(A0 a0 a1).2.1.2.2.2.1.2.2.1,(A0 a0 a1).2.1.2.2.2.1.2.2.2.1,(A0 a0 a1).2.1.2.2.2.2.1,(A0 a0 a1).2.1.2.2.2.2.2.1,(A0 a0 a1).2.1.2.2.2.2.2.2.1.1,(A0 a0 a1).2.2.1,()),(())):=by
 unfold s7 A0 Bs
 simp only [A3,Er,Gr,On]
 show (bif !As a0 then _ else bif !Az a1 then _ else _)=_
 cases hv:As a0 with
 | false=>rfl
 | true=>
  cases hb:Az a1 with
  | false=>rfl
  | true=>
   simp only [Bool.not_true,cond_false]
   obtain ⟨_,_,h3,_,_,h6,_,h8,h9,_⟩:=Xf hv
   obtain ⟨r1,r2⟩:=B2 h6
   have r1:=Cw r1
   have r2:=Cw r2
   have hh:=Pm a0.2.1
   show (bif (Bx a0.2.2.2.2.2.2.1 a1).2 != 0 then _ else _)=_
   rcases A31 h3 hb with hc | hc
   ·rw [hc]
    show (bif decide (C5 (Bx a0.2.2.2.2.2.2.1 a1).1 a0.1 > IntKind.i64.wrap (Al a0.2.1 - 1)) then _ else _)=(_:Option _)
    rw [Tm]
    show _=some (((bif decide (C5 (Bx a0.2.2.2.2.2.2.1 a1).1 a0.1 > Al a0.2.1 - 1) then Aap 3 else _:Pl).1,_),_)
    cases hr:decide (C5 (Bx a0.2.2.2.2.2.2.1 a1).1 a0.1 > Al a0.2.1 - 1) with
    | true=>simp only [cond_true,bne_self_eq_false,cond_false]; rfl
    | false=>
     simp only [cond_false,bne_self_eq_false]
     have hl:=Am8 a1 a0.2.2.1 (a0.2.2.2.1.2.2.1 + a0.2.2.2.2.1) a0.1
     have e1:S5 (Be a1) a0.2.2.1 (a0.2.2.2.1.2.2.1 + a0.2.2.2.2.1) a0.1=some (Em a0 a1):=if_pos (Nat.le_trans (La _) (by decide))
     rw [Aj (n:=a0.2.2.2.1.2.2.1 + a0.2.2.2.2.1) (by omega) (by omega),e1]
     simp only [Option.bind_some]
     have hw:IntKind.i64.wrap (Al a0.2.1 - a0.2.2.2.2.1)=Al a0.2.1 - a0.2.2.2.2.1:=Aj (by omega) (by omega)
     simp only [hw]
     cases hq:decide (nI (Em a0 a1).length > Al a0.2.1 - a0.2.2.2.2.1) with
     | true=>rfl
     | false=>
      simp only [cond_false]
      have hl:(Em a0 a1).length≤4001:=hl
      refine Yi (A7l a0.1 a0.2.1 a0.2.2.1 a0.2.2.2.1.1 a0.2.2.2.1.2.1 a0.2.2.2.1.2.2.1 a0.2.2.2.1.2.2.2.1 a0.2.2.2.2.1 a0.2.2.2.2.2.1 a0.1 a0.2.1 a0.2.2.1 a0.2.2.2.1.1 a0.2.2.2.1.2.1 a0.2.2.2.1.2.2.1 a0.2.2.2.1.2.2.2.1 a0.2.2.2.2.1 a0.2.2.2.2.2.1 a0.2.2.2.2.2.2.1.1 (Bx a0.2.2.2.2.2.2.1 a1).1.1 (Em a0 a1) hl r1 ⟨by omega,by omega⟩ ⟨by omega,by omega⟩) ?_
      rfl
   ·rw [hc]
    rfl
def Abr {R:Type} (k:Kt R):=(L7 (N3 17) (.exit 0) 2 k)
def Apa {R:Type}:Lt R N3:=(Fp (pat:=N3) 17 (fun d k=>(At1 d).bind (Abr k)) Ik)
theorem Ak4:A5 Tryz.prog Ak3:=Bb ⟨Ox,Qh,Agp,n9,Ac8,Sv,Ao4,Ay3,P0,trivial⟩
theorem At2 {R:Type}:Ba Tryz.prog R 101 0 N3 Apa Abq:=
 Cn (cfg:=⟨Ak3,0,101,N3⟩) 17 [] (fun NX X d=>(u4 (u4 (u4 (u4 (u4 (u4 (u4 (u4 (Ac (Ac (Ac Ah))))))))))) (My  NX X) d) (fun m d=>(u4 (u4 (u4 (u4 (u4 (u4 (u4 (u4 (Ac (Ac (Ac Ah))))))))))) (Dh m) d) (fun d=>(u4 (u4 (u4 (u4 (u4 (u4 (u4 (u4 (Ac (Ac (Ac Ah))))))))))) Ju d) Abr Ak4 trivial (fun f NX d=>by simp only [u4,Ac,Ah]; unfold My; simp only [nb])
theorem s8:B8 Tryz.prog 36 U2:=
 A7 (pat:=N3) [Abq] Apa Ak4 ⟨At2,trivial⟩ Tryz.func36 (de:=fun x=>s7 x.1 x.2.1) (fun x r h=>(A45 x.1 x.2.1).trans h) fun _=>by kernel_rfl
def Fv (d:Dk):Bool:=Ap d
def At3:Hh:=⟨[.rd yDk],[some 2],[.rd .bool],[none]⟩
def Hr:SD:=⟨At3,fun x=>some (((Fv x.1),()),(()))⟩
def U3:Tb:=tb [(95,Do)]
def C1:Nat→Dq×(Nat→Dq):=Hk [(5,⟨[.sl 19 0 .str,.boxSl 1 0 .str,.boxSl 1 1 Ew],[(1,.lf (.ptr 0 0)),(19,.lf (.d (.sl .str))),(20,.lf (.d tI)),(21,.lf (.d tI))],[.box 26 [.d (.sl .str),.d (.sl Ew)]]⟩,[(2,⟨[.boxSl 1 0 .str,.boxSl 1 1 Ew],[(1,.lf (.ptr 0 0))],[.box 26 [.d (.sl .str),.d (.sl Ew)]]⟩),(1,⟨[],[(2,.lf (.d .bool))],[]⟩)]),(11,⟨[.sl 30 0 Ew,.boxSl 1 0 .str,.boxSl 1 1 Ew],[(1,.lf (.ptr 0 0)),(30,.lf (.d (.sl Ew))),(31,.lf (.d tI)),(32,.lf (.d tI))],[.box 26 [.d (.sl .str),.d (.sl Ew)]]⟩,[(4,p0),(1,⟨[],[(2,.lf (.d .bool))],[]⟩)])]
def Y8:Code:=(Ax (Bm Tryz.f94)).getD 0 .skip
def X8:Code:=(Ax (Bm Tryz.f94)).getD 1 .skip
def Fe (v30:List Wr) (v31 v32:Int) (b0_0:List Aa) (b0_1:List Wr):Nat:=(v31 - v32).toNat + 1
def Jh {R:Type}  (NX:((List Wr)×(Int)×(Int)×(List Aa)×(List Wr)×Unit)→Option R) (X4:(Unit)→Option R) (X1:((Bool)×Unit)→Option R) (v30:List Wr) (v31:Int) (v32:Int) (b0_0:List Aa) (b0_1:List Wr):Option R:=
 bif decide (v32 < v31) then bif decide (0≤v32) then bif decide (v32 < nI v30.length) then bif !A9 (v30.getD v32.toNat (0,Ad,())).1 0 (IntKind.i64.wrap (nI b0_0.length - 1)) then X1 (false,()) else bif nI (ByteArray.size (v30.getD v32.toNat (0,Ad,())).2.1) != 64 then X1 (false,()) else NX (v30,v31,IntKind.i64.wrap (v32 + 1),b0_0,b0_1,()) else none else none else X4 PUnit.unit
def Cm:Nat→(List Wr)→(Int)→(Int)→(List Aa)→(List Wr) →  Option ((Unit) ⊕ ((Bool)×Unit))
 | 0,_,_,_,_,_=>none
 | m + 1,v30,v31,v32,b0_0,b0_1=>Jh  (fun d=>Cm m d.1 d.2.1 d.2.2.1 d.2.2.2.1 d.2.2.2.2.1) (fun d=>some (.inl (d))) (fun d=>some (.inr (d))) v30 v31 v32 b0_0 b0_1
def Ak5 (d:(List Wr)×(Int)×(Int)×(List Aa)×(List Wr)×Unit):Option ((Unit) ⊕ ((Bool)×Unit)):=(u4 (Ac Ah)) (Cm ((u4 (Ac Ah)) Fe d)) d
def F4 (v19:List Aa) (v20 v21:Int) (b0_0:List Aa) (b0_1:List Wr):Nat:=(v20 - v21).toNat + 1
def Kb {R:Type}  (NX:((List Aa)×(Int)×(Int)×(List Aa)×(List Wr)×Unit)→Option R) (X2:Dk→Option R) (X1:((Bool)×Unit)→Option R) (v19:List Aa) (v20:Int) (v21:Int) (b0_0:List Aa) (b0_1:List Wr):Option R:=
 bif decide (v21 < v20) then bif decide (0≤v21) then bif decide (v21 < nI v19.length) then bif nI (ByteArray.size (v19.getD v21.toNat (Ad))) != 64 then X1 (false,()) else NX (v19,v20,IntKind.i64.wrap (v21 + 1),b0_0,b0_1,()) else none else none else X2 (b0_0,b0_1,())
def Cs:Nat→(List Aa)→(Int)→(Int)→(List Aa)→(List Wr) →  Option (Dk ⊕ ((Bool)×Unit))
 | 0,_,_,_,_,_=>none
 | m + 1,v19,v20,v21,b0_0,b0_1=>Kb  (fun d=>Cs m d.1 d.2.1 d.2.2.1 d.2.2.2.1 d.2.2.2.2.1) (fun d=>some (.inl (d))) (fun d=>some (.inr (d))) v19 v20 v21 b0_0 b0_1
def Anv (d:(List Aa)×(Int)×(Int)×(List Aa)×(List Wr)×Unit):Option (Dk ⊕ ((Bool)×Unit)):=(u4 (Ac Ah)) (Cs ((u4 (Ac Ah)) F4 d)) d
def U4 (a0:Dk):Option ((((Bool)×Unit)×(Unit))):=
 bif !A9 (nI (List.length a0.1)) 8 200 then some ((false,()),()) else bif decide (nI (List.length a0.2.1) > 300) then some ((false,()),()) else ((fun d=>Cs (F4 d.1 d.2.1 d.2.2.1 d.2.2.2.1 d.2.2.2.2.1) d.1 d.2.1 d.2.2.1 d.2.2.2.1 d.2.2.2.2.1) (a0.1,nI (List.length a0.1),0,a0)).bind fun val=>Cy (fun d=>((fun d=>Cm (Fe d.1 d.2.1 d.2.2.1 d.2.2.2.1 d.2.2.2.2.1) d.1 d.2.1 d.2.2.1 d.2.2.2.1 d.2.2.2.2.1) (d.2.1,nI (List.length d.2.1),0,d)).bind fun val=>Cy (fun d=>some ((true,()),())) (fun d=>some (d,())) val) (fun d=>some (d,())) val
theorem At4 (a0:Dk):U4 a0=some ((Fv a0,()),()):=by
 unfold U4 Fv Ap
 have c1:decide (nI a0.2.1.length > 300)=!decide (a0.2.1.length≤300):=Ajw _ 300
 rw [c1]
 show (bif !Bq (a0.1.length:Int) 8 200 then _ else _)=_
 cases hin:Bq (a0.1.length:Int) 8 200 with
 | false=>rfl
 | true=>
  have hlen:a0.1.length≤200:=by have:=G8 (B2 hin).2; omega
  by_cases hp:a0.2.1.length≤300
  ·rw [Af hp]
   have hL:=Ns (n:=a0.1.length) (fun i=>decide ((a0.1.getD i z0).size=64)) (g:=fun m i=>Cs m a0.1 (nI a0.1.length) i a0.1 a0.2.1) (ok:=.inl (a0.1,a0.2.1,())) (bad:=.inr (false,())) (fun m i hi=>by
    show Cs (m + 1) a0.1 (nI a0.1.length) i a0.1 a0.2.1=_
    simp only [Cs,Kb]
    have g1:(nI (ByteArray.size (List.getD a0.1 i (Ad))) != 64)=!decide ((a0.1.getD i z0).size=64):=Bkh _ 64
    rw [cLt hi,J1,wI (show i < 4611686018427387904 by omega),Fz,g1]
    cases decide ((a0.1.getD i z0).size=64)<;>rfl) (fun m=>by
    show Cs (m + 1) a0.1 (nI a0.1.length) (a0.1.length:Int) a0.1 a0.2.1=_
    simp only [Cs,Kb]
    rw [Qd]
    rfl) (F4 a0.1 (nI a0.1.length) 0 a0.1 a0.2.1) 0 (by omega) (by simp [F4,nI])
   have hL':Cs (F4 a0.1 (nI a0.1.length) 0 a0.1 a0.2.1) a0.1 (nI a0.1.length) 0 a0.1 a0.2.1=_:=hL
   have hM:=Ns (n:=a0.2.1.length) (fun i=>Aiy a0.1.length (a0.2.1.getD i zW)) (g:=fun m i=>Cm m a0.2.1 (nI a0.2.1.length) i a0.1 a0.2.1) (ok:=.inl ()) (bad:=.inr (false,())) (fun m i hi=>by
    show Cm (m + 1) a0.2.1 (nI a0.2.1.length) i a0.1 a0.2.1=_
    simp only [Cm,Jh]
    have g1:(nI (ByteArray.size (List.getD a0.2.1 i (0,Ad,())).2.1) != 64)=!decide ((a0.2.1.getD i zW).2.1.size=64):=Bkh _ 64
    have hw:IntKind.i64.wrap (nI a0.1.length - 1)=(a0.1.length:Int) - 1:=Aj (by simp only [nI]; omega) (by simp only [nI]; omega)
    rw [cLt hi,J1,wI (show i < 4611686018427387904 by omega),Fz,g1,hw]
    have g2:A9 (List.getD a0.2.1 i (0,Ad,())).1 0 ((a0.1.length:Int) - 1)=(decide (0≤(a0.2.1.getD i zW).1)&&decide ((a0.2.1.getD i zW).1 < (a0.1.length:Int))):=by
     show (decide (0≤(a0.2.1.getD i zW).1)&&decide ((a0.2.1.getD i zW).1≤(a0.1.length:Int) - 1))=_
     congr 1
     exact decide_eq_decide.2 (by omega)
    rw [g2]
    unfold Aiy
    cases decide (0≤(a0.2.1.getD i zW).1)<;>cases decide ((a0.2.1.getD i zW).1 < (a0.1.length:Int))<;>cases decide ((a0.2.1.getD i zW).2.1.size=64)<;>rfl) (fun m=>by
    show Cm (m + 1) a0.2.1 (nI a0.2.1.length) (a0.2.1.length:Int) a0.1 a0.2.1=_
    simp only [Cm,Jh]
    rw [Qd]
    rfl) (Fe a0.2.1 (nI a0.2.1.length) 0 a0.1 a0.2.1) 0 (by omega) (by simp [Fe,nI])
   have hM':Cm (Fe a0.2.1 (nI a0.2.1.length) 0 a0.1 a0.2.1) a0.2.1 (nI a0.2.1.length) 0 a0.1 a0.2.1=_:=hM
   show (Cs (F4 a0.1 (nI a0.1.length) 0 a0.1 a0.2.1) a0.1 (nI a0.1.length) 0 a0.1 a0.2.1).bind _=_
   rw [hL']
   rw [Nat.sub_zero] at hM' ⊢
   cases (List.range' 0 a0.1.length).all (fun i=>decide ((a0.1.getD i z0).size=64)) with
   | false=>rfl
   | true=>
    show (Cm (Fe a0.2.1 (nI a0.2.1.length) 0 a0.1 a0.2.1) a0.2.1 (nI a0.2.1.length) 0 a0.1 a0.2.1).bind _=_
    rw [hM']
    cases (List.range' 0 a0.2.1.length).all (fun i=>Aiy a0.1.length (a0.2.1.getD i zW))<;>rfl
  ·rw [Bd hp]
   rfl
def Y9 {R:Type} (k:Kt R):=(Cy (L7 (C1 5) (.exit 0) 2 k) (L7 (C1 5) .ret 1 k))
def X9 {R:Type} (k:Kt R):=(Cy (L7 (C1 11) (.exit 2) 4 k) (L7 (C1 11) .ret 1 k))
def Wv {R:Type}:Lt R C1:=(Fp (pat:=C1) 5 (fun d k=>(Anv d).bind (Y9 k)) (Fp (pat:=C1) 11 (fun d k=>(Ak5 d).bind (X9 k)) Ik))
theorem U5:A5 Tryz.prog U3:=Bb ⟨D4,trivial⟩
theorem Ak6 {R:Type}:Ba Tryz.prog R 51 0 C1 Wv X8:=
 Cn (cfg:=⟨U3,0,51,C1⟩) 11 [] (fun NX X d=>(u4 (Ac Ah)) (Jh  NX (fun e=>X (.inl (e))) (fun e=>X (.inr (e)))) d) (fun m d=>(u4 (Ac Ah)) (Cm m) d) (fun d=>(u4 (Ac Ah)) Fe d) X9 U5 trivial (fun f NX d=>by simp only [u4,Ac,Ah]; unfold Jh; simp only [nb])
theorem Anw {R:Type}:Ba Tryz.prog R 51 0 C1 Wv Y8:=
 Cn (cfg:=⟨U3,0,51,C1⟩) 5 [] (fun NX X d=>(u4 (Ac Ah)) (Kb  NX (fun e=>X (.inl (e))) (fun e=>X (.inr (e)))) d) (fun m d=>(u4 (Ac Ah)) (Cs m) d) (fun d=>(u4 (Ac Ah)) F4 d) Y9 U5 trivial (fun f NX d=>by simp only [u4,Ac,Ah]; unfold Kb; simp only [nb])
theorem Jv:B8 Tryz.prog 94 Hr:=
 A7 (pat:=C1) [Y8,X8] Wv U5 ⟨Anw,Ak6,trivial⟩ Tryz.func94 (de:=fun x=>U4 x.1) (fun x r h=>(At4 x.1).trans h) fun _=>by kernel_rfl
def O3 (s:Aa):Option Int:=if s.size≤7 then some (Aju s) else none
def R5 (v0:Aa) (v3 v4:Int):Nat:=(nI v0.size - v4).toNat + 1
def Be7:Hh:=⟨[.rd .str],[none],[.rd tI],[none]⟩
def Ak7:SD:=⟨Be7,fun x=>(O3 x.1).bind fun r=>some ((r,()),(()))⟩
def Ay4:Tb:=tb []
def Tt:Nat→Dq×(Nat→Dq):=Hk [(4,⟨[],[(0,.lf (.d .str)),(3,.lf (.d tI)),(4,.lf (.d tI))],[]⟩,[(2,⟨[],[(3,.lf (.d tI))],[]⟩)])]
def Apb:Code:=(Ax (Bm Tryz.f148)).getD 0 .skip
def R6 {R:Type}  (NX:((Aa)×(Int)×(Int)×Unit)→Option R) (X2:((Int)×Unit)→Option R) (v0:Aa) (v3:Int) (v4:Int):Option R:=
 bif decide (v4 < nI v0.size) then bif decide (0≤v4) then bif decide (v4 < nI v0.size) then NX (v0,IntKind.i64.wrap (nI (BitVec.ofInt 64 (IntKind.i64.wrap (v3 * 2 ^ min (Int.toNat 8) 64)) ||| BitVec.ofInt 64 (IntKind.i64.wrap (Aq v0 v4))).toNat),IntKind.i64.wrap (v4 + 1),()) else none else none else X2 (v3,())
def Nc:Nat→(Aa)→(Int)→(Int) →  Option ((Int)×Unit)
 | 0,_,_,_=>none
 | m + 1,v0,v3,v4=>R6  (fun d=>Nc m d.1 d.2.1 d.2.2.1) (fun d=>some (d)) v0 v3 v4
def A7m (d:(Aa)×(Int)×(Int)×Unit):Option ((Int)×Unit):=(Ac (Ac (Ac Ah))) (Nc ((Ac (Ac (Ac Ah))) R5 d)) d
def Ak8 (a0:Aa):Option ((((Int)×Unit)×(Unit))):=
 ((fun d=>Nc (R5 d.1 d.2.1 d.2.2.1) d.1 d.2.1 d.2.2.1) (a0,0,0,())).bind fun val=>some (val,())
theorem Be8 (s:Aa) (hs:s.size≤7):∀ (k m i:Nat) (v:Int),i + k=s.size→k < m→0≤v→v < 256 ^ i→Nc m s v i=some (Bdo s k i v,())
 | 0,m + 1,i,v,hi,hm,h0,h1=>by
  simp only [Nc,R6]
  rw [Bd (show ¬ ((i:Int) < nI s.size) by simp only [nI]; omega)]
  rfl
 | k + 1,m + 1,i,v,hi,hm,h0,h1=>by
  obtain ⟨hb,hs',e⟩:=Bo6 s i hi (by omega) h0 h1
  simp only [Nc,R6]
  have c1:(i:Int) < nI s.size:=by simp only [nI]; omega
  rw [Af c1,Af (show (0:Int)≤(i:Int) by omega),wI (show i < 4611686018427387904 by omega),e]
  exact Be8 s hs k m (i + 1) _ (by omega) (by omega) hb hs'
theorem Be9 (a0:Aa) r (h:O3 a0=some r):Ak8 a0=some ((r,()),(())):=by
 unfold O3 at h
 split at h
 ·rename_i hc
  cases h
  unfold Ak8
  have hL:=Be8 a0 hc a0.size (R5 a0 0 0) 0 0 (by omega) (by simp only [R5,nI]; omega) (by omega) (by decide)
  exact bi_ hL rfl
 ·cases h
def Apc {R:Type} (k:Kt R):=(L7 (Tt 4) (.exit 0) 2 k)
def A46 {R:Type}:Lt R Tt:=(Fp (pat:=Tt) 4 (fun d k=>(A7m d).bind (Apc k)) Ik)
theorem Ay5:A5 Tryz.prog Ay4:=Bb trivial
theorem A7n {R:Type}:Ba Tryz.prog R 19 0 Tt A46 Apb:=
 Cn (cfg:=⟨Ay4,0,19,Tt⟩) 4 [] (fun NX X d=>(Ac (Ac (Ac Ah))) (R6  NX X) d) (fun m d=>(Ac (Ac (Ac Ah))) (Nc m) d) (fun d=>(Ac (Ac (Ac Ah))) R5 d) Apc Ay5 trivial (fun f NX d=>by simp only [u4,Ac,Ah]; unfold R6; simp only [nb])
theorem Ay6:B8 Tryz.prog 148 Ak7:=
 A7 (pat:=Tt) [Apb] A46 Ay5 ⟨A7n,trivial⟩ Tryz.func148 (de:=fun x=>Ak8 x.1) (fun x r h=>Hf (Be9 x.1) h) fun _=>by kernel_rfl
def Ai (s:Aa) (w:Int):Pg×Bool:=Ay s w
def Aw2:Hh:=⟨[.rd .str,.rd tI],[none,none],[.rd yPg,.rd .bool],[some 4,none]⟩
def Ww:SD:=⟨Aw2,fun x=>some (((Ai x.1 x.2.1).1,(Ai x.1 x.2.1).2,()),(()))⟩
def Wx (a0:Aa) (a1:Int):Option (((Pg×(Bool)×Unit)×(Unit))):=
 bif nI a0.size != 64 then some (((0,0,0,Ad,()),false,()),()) else bif !A9 a1 1 8 then some (((0,0,0,Ad,()),false,()),()) else bif decide (0≤a1) then bif decide (a1≤nI a0.size) then bif decide (7 < nI (Ag a0 a1 (nI a0.size)).size) then bif decide (IntKind.i64.wrap (Aq (Ag a0 a1 (nI a0.size)) 7) > IntKind.i64.wrap (IntKind.i64.wrap (64 - a1) - 8)) then some (((0,0,0,Ad,()),false,()),()) else bif decide (0 < nI (Ag a0 a1 (nI a0.size)).size) then bif decide (3≤nI (Ag a0 a1 (nI a0.size)).size) then ((O3 (Ag (Ag a0 a1 (nI a0.size)) 1 3)).bind fun val=>some ((val,()),())).bind fun val=>bif decide (7≤nI (Ag a0 a1 (nI a0.size)).size) then ((O3 (Ag (Ag a0 a1 (nI a0.size)) 3 7)).bind fun val=>some ((val,()),())).bind fun val_1=>bif decide (8≤IntKind.i64.wrap (8 + IntKind.i64.wrap (Aq (Ag a0 a1 (nI a0.size)) 7))) then bif decide (IntKind.i64.wrap (8 + IntKind.i64.wrap (Aq (Ag a0 a1 (nI a0.size)) 7))≤nI (Ag a0 a1 (nI a0.size)).size) then bif !(Dw (IntKind.i64.wrap (Aq (Ag a0 a1 (nI a0.size)) 0),val.1.1,val_1.1.1,Ag (Ag a0 a1 (nI a0.size)) 8 (IntKind.i64.wrap (8 + IntKind.i64.wrap (Aq (Ag a0 a1 (nI a0.size)) 7))),()) a1).toList==a0.toList then some (((0,0,0,Ad,()),false,()),()) else some (((IntKind.i64.wrap (Aq (Ag a0 a1 (nI a0.size)) 0),val.1.1,val_1.1.1,Ag (Ag a0 a1 (nI a0.size)) 8 (IntKind.i64.wrap (8 + IntKind.i64.wrap (Aq (Ag a0 a1 (nI a0.size)) 7))),()),true,()),()) else none else none else none else none else none else none else none else none
theorem Aw3 (a0:Aa) (a1:Int):Wx a0 a1=some (((Ai a0 a1).1,(Ai a0 a1).2,()),(())):=by
 unfold Wx Ai Ay
 show (bif nI a0.size != 64 then _ else (bif !Bq a1 1 8 then _ else _))=_
 cases hz:nI a0.size != 64 with
 | true=>rfl
 | false=>
   cases hw:Bq a1 1 8 with
   | false=>rfl
   | true=>
    have k1:=(Cw hw).1
    have k2:=(Cw hw).2
    have hs:a0.size=64:=by
     by_cases q:nI a0.size=64
     ·simp only [nI] at q; omega
     ·rw [(bne_iff_ne).2 q] at hz; cases hz
    have hb:(Ag a0 a1 (nI a0.size)).size=(64 - a1).toNat:=by rw [Da (by omega) (by simp only [nI]; omega) (by simp [nI])]; simp only [nI,hs]; omega
    simp only [Bool.not_true,cond_false,cond_true]
    rw [Af (show (0:Int)≤a1 by omega),Af (show a1≤nI a0.size by simp only [nI]; omega)]
    unfold Bgn
    generalize Ag a0 a1 (nI a0.size)=b at *
    obtain ⟨b0,b1⟩:=Jn b 7
    obtain ⟨c0,c1⟩:=Jn b 0
    have hB:nI b.size=64 - a1:=by simp only [nI]; omega
    rw [hB,Af (show (7:Int) < 64 - a1 by omega),Af (show (0:Int) < 64 - a1 by omega),Af (show (3:Int)≤64 - a1 by omega),Af (show (7:Int)≤64 - a1 by omega),Aj (n:=Aq b 7) (by omega) (by omega),Aj (n:=Aq b 0) (by omega) (by omega),Aj (n:=64 - a1) (by omega) (by omega),Aj (n:=64 - a1 - 8) (by omega) (by omega),Aj (n:=8 + Aq b 7) (by omega) (by omega),show 64 - a1 - 8=56 - a1 by omega]
    by_cases q:Aq b 7 > 56 - a1
    ·rw [Af q]; rfl
    ·rw [Bd q]
     have n1:O3 (Ag b 1 3)=some (Aju (Ag b 1 3)):=if_pos (by rw [Da (by omega) (by omega) (by omega)]; decide)
     have n2:O3 (Ag b 3 7)=some (Aju (Ag b 3 7)):=if_pos (by rw [Da (by omega) (by omega) (by omega)]; decide)
     simp only [n1,n2,Option.bind_some,cond_true,cond_false]
     rw [Af (show 8≤8 + Aq b 7 by omega),Af (show 8 + Aq b 7≤64 - a1 by omega)]
     show (bif !(ByteArray.toList (Ca (Bgm b) a1)==ByteArray.toList a0) then _ else _)=_
     cases (ByteArray.toList (Ca (Bgm b) a1)==ByteArray.toList a0)<;>rfl
theorem Aev:B8 Tryz.prog 53 Ww:=
 A7 (pat:=Ei) [] Ik (Bb (l:=[(95,Do),(103,Kw),(147,Uw),(148,Ak7)]) ⟨D4,N0,a8,Ay6,trivial⟩) trivial Tryz.func53 (de:=fun x=>Wx x.1 x.2.1) (fun x r h=>(Aw3 x.1 x.2.1).trans h) fun _=>by kernel_rfl
def S6 (d:Dk) (a:Int):Option Aa:=if d.2.1.length≤1099511627776∧0≤a∧a < (d.1.length:Int) then some (V8 d a) else none
def Nd (v1 v5:Int) (b0_0:List Aa) (b0_1:List Wr):Nat:=(v5 + 1).toNat + 1
def Bfa:Hh:=⟨[.rd yDk,.rd tI],[some 2,none],[.rd .str],[none]⟩
def Ak9:SD:=⟨Bfa,fun x=>(S6 x.1 x.2.1).bind fun r=>some ((r,()),(()))⟩
def Ay7:Tb:=tb []
def Qp:Nat→Dq×(Nat→Dq):=Hk [(3,⟨[.boxSl 2 0 .str,.boxSl 2 1 Ew],[(1,.lf (.d tI)),(2,.lf (.ptr 0 0)),(5,.lf (.d tI))],[.box 26 [.d (.sl .str),.d (.sl Ew)]]⟩,[(2,⟨[.boxSl 2 0 .str,.boxSl 2 1 Ew],[(1,.lf (.d tI)),(2,.lf (.ptr 0 0))],[.box 26 [.d (.sl .str),.d (.sl Ew)]]⟩),(1,⟨[],[(4,.lf (.d .str))],[]⟩)])]
def Apd:Code:=(Ax (Bm Tryz.f174)).getD 0 .skip
def R7 {R:Type}  (NX:((Int)×(Int)×(List Aa)×(List Wr)×Unit)→Option R) (X2:((Int)×(List Aa)×(List Wr)×Unit)→Option R) (X1:((Aa)×Unit)→Option R) (v1:Int) (v5:Int) (b0_0:List Aa) (b0_1:List Wr):Option R:=
 bif decide (v5≥0) then bif decide (0≤v5) then bif decide (v5 < nI b0_1.length) then bif (b0_1.getD v5.toNat (0,Ad,())).1==v1 then bif decide (0≤v5) then bif decide (v5 < nI b0_1.length) then X1 (b0_1.getD v5.toNat (0,Ad,())).2 else none else none else NX (v1,IntKind.i64.wrap (v5 - 1),b0_0,b0_1,()) else none else none else X2 (v1,b0_0,b0_1,())
def Gl:Nat→(Int)→(Int)→(List Aa)→(List Wr) →  Option (((Int)×(List Aa)×(List Wr)×Unit) ⊕ ((Aa)×Unit))
 | 0,_,_,_,_=>none
 | m + 1,v1,v5,b0_0,b0_1=>R7  (fun d=>Gl m d.1 d.2.1 d.2.2.1 d.2.2.2.1) (fun d=>some (.inl (d))) (fun d=>some (.inr (d))) v1 v5 b0_0 b0_1
def A7o (d:(Int)×(Int)×(List Aa)×(List Wr)×Unit):Option (((Int)×(List Aa)×(List Wr)×Unit) ⊕ ((Aa)×Unit)):=(u4 Ah) (Gl ((u4 Ah) Nd d)) d
def Ala (a0:Dk) (a1:Int):Option ((((Aa)×Unit)×(Unit))):=
 ((fun d=>Gl (Nd d.1 d.2.1 d.2.2.1 d.2.2.2.1) d.1 d.2.1 d.2.2.1 d.2.2.2.1) (a1,IntKind.i64.wrap (nI (List.length a0.2.1) - 1),a0)).bind fun val=>Cy (fun d=>bif decide (0≤d.1) then bif decide (d.1 < nI (List.length d.2.1)) then some ((List.getD d.2.1 (Int.toNat d.1) (Ad),()),()) else none else none) (fun d=>some (d,())) val
theorem Bfb (a0:Dk) (a1:Int) r (h:S6 a0 a1=some r):Ala a0 a1=some ((r,()),(())):=by
 unfold S6 at h
 split at h
 ·rename_i hc
  obtain ⟨hp,h0,h1⟩:=hc
  cases h
  have hw:IntKind.i64.wrap (nI a0.2.1.length - 1)=(a0.2.1.length:Int) - 1:=Aj (by simp only [nI]; omega) (by simp only [nI]; omega)
  have hL:=A3d (xs:=a0.2.1) zW (fun w=>w.1==a1) (fun w=>.inr (w.2.1,())) (g:=fun m i=>Gl m a1 i a0.1 a0.2.1) (ok:=.inl (a1,a0.1,a0.2.1,())) (fun m i hi=>by
   show Gl (m + 1) a1 i a0.1 a0.2.1=_
   simp only [Gl,R7]
   have hi0:(i:Int)≥0:=by omega
   have hw:IntKind.i64.wrap ((i:Int) - 1)=(i:Int) - 1:=Aj (by omega) (by omega)
   rw [Af hi0,cLt hi,Fz,hw]
   rfl) (fun m=>by
   show Gl (m + 1) a1 (-1) a0.1 a0.2.1=_
   simp only [Gl,R7]
   rfl) (Nd a1 ((a0.2.1.length:Int) - 1) a0.1 a0.2.1) a0.2.1.length (by omega) (by simp [Nd])
  have hL':Gl (Nd a1 ((a0.2.1.length:Int) - 1) a0.1 a0.2.1) a1 ((a0.2.1.length:Int) - 1) a0.1 a0.2.1=_:=hL
  unfold Ala
  rw [hw]
  show (Gl (Nd a1 ((a0.2.1.length:Int) - 1) a0.1 a0.2.1) a1 ((a0.2.1.length:Int) - 1) a0.1 a0.2.1).bind _=_
  rw [hL',List.take_length]
  show Cy _ _ _=_
  have hc1:decide (0≤a1)=true:=Af h0
  have hc2:decide (a1 < nI a0.1.length)=true:=Af h1
  unfold V8
  rw [Aqh (Cy _ _),Aqh (fun r:Aa=>some ((r,()),()))]
  simp only [Cy,hc1,hc2,cond_true]
  rfl
 ·cases h
def Ape {R:Type} (k:Kt R):=(Cy (L7 (Qp 3) (.exit 0) 2 k) (L7 (Qp 3) .ret 1 k))
def A47 {R:Type}:Lt R Qp:=(Fp (pat:=Qp) 3 (fun d k=>(A7o d).bind (Ape k)) Ik)
theorem Ay8:A5 Tryz.prog Ay7:=Bb trivial
theorem A7p {R:Type}:Ba Tryz.prog R 33 0 Qp A47 Apd:=
 Cn (cfg:=⟨Ay7,0,33,Qp⟩) 3 [] (fun NX X d=>(u4 Ah) (R7  NX (fun e=>X (.inl (e))) (fun e=>X (.inr (e)))) d) (fun m d=>(u4 Ah) (Gl m) d) (fun d=>(u4 Ah) Nd d) Ape Ay8 trivial (fun f NX d=>by simp only [u4,Ac,Ah]; unfold R7; simp only [nb])
theorem Ay9:B8 Tryz.prog 174 Ak9:=
 A7 (pat:=Qp) [Apd] A47 Ay8 ⟨A7p,trivial⟩ Tryz.func174 (de:=fun x=>Ala x.1 x.2.1) (fun x r h=>Hf (Bfb x.1 x.2.1) h) fun _=>by kernel_rfl
def A4 (d:Dk) (w:Int):Rt:=At d w
def S7 (v1 v6:Int) (b0_0:List Aa) (b0_1:List Wr) (b1_0 b1_1 b1_2 b1_3 b2_0 b2_1 b2_2 b2_3:Int):Nat:=3
def Aw4:Hh:=⟨[.rd yDk,.rd tI],[some 2,none],[.rd yRt],[some 4]⟩
def Aew:SD:=⟨Aw4,fun x=>some (((A4 x.1 x.2.1),()),(()))⟩
def Aex:Tb:=tb [(53,Ww),(94,Hr),(95,Do),(148,Ak7),(174,Ak9),(175,P2)]
def K1:Nat→Dq×(Nat→Dq):=Hk [(6,⟨[.boxSl 2 0 .str,.boxSl 2 1 Ew],[(1,.lf (.d tI)),(2,.lf (.ptr 0 0)),(4,.lf (.ptr 1 0)),(5,.lf (.ptr 2 0)),(6,.lf (.d tI))],[.box 26 [.d (.sl .str),.d (.sl Ew)],.box 28 [.d tI,.d tI,.d tI,.d tI],.box 28 [.d tI,.d tI,.d tI,.d tI]]⟩,[(2,⟨[],[(4,.lf (.ptr 0 0)),(5,.lf (.ptr 1 0))],[.box 28 [.d tI,.d tI,.d tI,.d tI],.box 28 [.d tI,.d tI,.d tI,.d tI]]⟩)])]
def s9:Code:=(Ax (Bm Tryz.f97)).getD 0 .skip
def O4 {R:Type}  (NX:((Int)×(Int)×(List Aa)×(List Wr)×(Int)×(Int)×(Int)×(Int)×(Int)×(Int)×(Int)×(Int)×Unit)→Option R) (X2:((Int)×(Int)×(Int)×(Int)×(Int)×(Int)×(Int)×(Int)×Unit)→Option R) (v1:Int) (v6:Int) (b0_0:List Aa) (b0_1:List Wr) (b1_0:Int) (b1_1:Int) (b1_2:Int) (b1_3:Int) (b2_0:Int) (b2_1:Int) (b2_2:Int) (b2_3:Int):Option R:=
 bif decide (v6 < 2) then ((S6 (b0_0,b0_1,()) v6).bind fun val=>some ((val,()),())).bind fun val=>bif !(Ai val.1.1 v1).2 then NX (v1,IntKind.i64.wrap (v6 + 1),b0_0,b0_1,b1_0,b1_1,b1_2,b1_3,b2_0,b2_1,b2_2,b2_3,()) else bif (Ai val.1.1 v1).1.1 != 4 then NX (v1,IntKind.i64.wrap (v6 + 1),b0_0,b0_1,b1_0,b1_1,b1_2,b1_3,b2_0,b2_1,b2_2,b2_3,()) else bif nI (ByteArray.size (Ai val.1.1 v1).1.2.2.2.1) != 5 then NX (v1,IntKind.i64.wrap (v6 + 1),b0_0,b0_1,b1_0,b1_1,b1_2,b1_3,b2_0,b2_1,b2_2,b2_3,()) else bif Int.tmod (Ai val.1.1 v1).1.2.2.1 2 != v6 then NX (v1,IntKind.i64.wrap (v6 + 1),b0_0,b0_1,b1_0,b1_1,b1_2,b1_3,b2_0,b2_1,b2_2,b2_3,()) else bif decide (0 < nI (ByteArray.size (Ai val.1.1 v1).1.2.2.2.1)) then bif decide (1≤nI (ByteArray.size (Ai val.1.1 v1).1.2.2.2.1)) then ((O3 (Ag (Ai val.1.1 v1).1.2.2.2.1 1 (nI (ByteArray.size (Ai val.1.1 v1).1.2.2.2.1)))).bind fun val=>some ((val,()),())).bind fun val_1=>bif Ip ((Ai val.1.1 v1).1.2.2.1,IntKind.i64.wrap (Aq (Ai val.1.1 v1).1.2.2.2.1 0),val_1.1.1,(Ai val.1.1 v1).1.2.1,()) then bif decide ((Ai val.1.1 v1).1.2.2.1 > b2_0) then NX (v1,IntKind.i64.wrap (v6 + 1),b0_0,b0_1,b1_0,b1_1,b1_2,b1_3,(Ai val.1.1 v1).1.2.2.1,IntKind.i64.wrap (Aq (Ai val.1.1 v1).1.2.2.2.1 0),val_1.1.1,(Ai val.1.1 v1).1.2.1,()) else NX (v1,IntKind.i64.wrap (v6 + 1),b0_0,b0_1,b1_0,b1_1,b1_2,b1_3,b2_0,b2_1,b2_2,b2_3,()) else NX (v1,IntKind.i64.wrap (v6 + 1),b0_0,b0_1,b1_0,b1_1,b1_2,b1_3,b2_0,b2_1,b2_2,b2_3,()) else none else none else X2 (b1_0,b1_1,b1_2,b1_3,b2_0,b2_1,b2_2,b2_3,())
def G3:Nat→(Int)→(Int)→(List Aa)→(List Wr)→(Int)→(Int)→(Int)→(Int)→(Int)→(Int)→(Int)→(Int) →  Option ((Int)×(Int)×(Int)×(Int)×(Int)×(Int)×(Int)×(Int)×Unit)
 | 0,_,_,_,_,_,_,_,_,_,_,_,_=>none
 | m + 1,v1,v6,b0_0,b0_1,b1_0,b1_1,b1_2,b1_3,b2_0,b2_1,b2_2,b2_3=>O4  (fun d=>G3 m d.1 d.2.1 d.2.2.1 d.2.2.2.1 d.2.2.2.2.1 d.2.2.2.2.2.1 d.2.2.2.2.2.2.1 d.2.2.2.2.2.2.2.1 d.2.2.2.2.2.2.2.2.1 d.2.2.2.2.2.2.2.2.2.1 d.2.2.2.2.2.2.2.2.2.2.1 d.2.2.2.2.2.2.2.2.2.2.2.1) (fun d=>some (d)) v1 v6 b0_0 b0_1 b1_0 b1_1 b1_2 b1_3 b2_0 b2_1 b2_2 b2_3
def Arh (d:(Int)×(Int)×(List Aa)×(List Wr)×(Int)×(Int)×(Int)×(Int)×(Int)×(Int)×(Int)×(Int)×Unit):Option ((Int)×(Int)×(Int)×(Int)×(Int)×(Int)×(Int)×(Int)×Unit):=(u4 (u4 (u4 Ah))) (G3 ((u4 (u4 (u4 Ah))) S7 d)) d
def Wy (a0:Dk) (a1:Int):Option (((Rt×Unit)×(Unit))):=
 bif !Fv a0 then some (((0,0,0,0,()),()),()) else bif !A9 a1 1 8 then some (((0,0,0,0,()),()),()) else ((fun d=>G3 (S7 d.1 d.2.1 d.2.2.1 d.2.2.2.1 d.2.2.2.2.1 d.2.2.2.2.2.1 d.2.2.2.2.2.2.1 d.2.2.2.2.2.2.2.1 d.2.2.2.2.2.2.2.2.1 d.2.2.2.2.2.2.2.2.2.1 d.2.2.2.2.2.2.2.2.2.2.1 d.2.2.2.2.2.2.2.2.2.2.2.1) d.1 d.2.1 d.2.2.1 d.2.2.2.1 d.2.2.2.2.1 d.2.2.2.2.2.1 d.2.2.2.2.2.2.1 d.2.2.2.2.2.2.2.1 d.2.2.2.2.2.2.2.2.1 d.2.2.2.2.2.2.2.2.2.1 d.2.2.2.2.2.2.2.2.2.2.1 d.2.2.2.2.2.2.2.2.2.2.2.1) (a1,0,a0.1,a0.2.1,0,0,0,0,0,0,1,0,())).bind fun val=>some ((val.2.2.2.2,()),())
theorem Bfc (d:Dk) (hd:If d) (w:Int) (i:Nat) (hi:i < 2) (m:Nat) (x1 x2 x3 x4:Int) (b:Rt):
  G3 (m + 1) w i d.1 d.2.1 x1 x2 x3 x4 b.1 b.2.1 b.2.2.1 b.2.2.2.1=G3 m w ((i + 1:Nat):Int) d.1 d.2.1 x1 x2 x3 x4 (Hl (V8 d i) w i b).1 (Hl (V8 d i) w i b).2.1 (Hl (V8 d i) w i b).2.2.1 (Hl (V8 d i) w i b).2.2.2.1:=by
 have n8:=hd.n8
 have p3:=hd.p300
 have hs:S6 (d.1,d.2.1,()) (i:Int)=some (V8 d i):=if_pos ⟨by show d.2.1.length≤_; omega,by omega,by show (i:Int) < (d.1.length:Int); omega⟩
 simp only [G3,O4]
 rw [Af (show (i:Int) < 2 by omega),hs,wI (show i < 4611686018427387904 by omega)]
 simp only [Option.bind_some,cond_true]
 have e:Ai (V8 d i) w=Ay (V8 d i) w:=rfl
 rw [e]
 unfold Hl
 have hf:=@Sp (V8 d i) w
 generalize Ay (V8 d i) w=p at *
 obtain ⟨g,o⟩:=p
 cases o
 ·rfl
 ·obtain ⟨_,_,_,hp⟩:=hf rfl
  obtain ⟨_,_,r3,_⟩:=Ajy hp
  simp only [Bool.not_true,cond_false,Bool.true_and]
  by_cases h4:g.1=4
  ·rw [bne_eq_false_iff_eq.2 h4,show (g.1==4)=true from beq_iff_eq.2 h4]
   by_cases h5:g.2.2.2.1.size=5
   ·have n1:O3 (Ag g.2.2.2.1 1 (nI g.2.2.2.1.size))=some (Aju (Ag g.2.2.2.1 1 (nI g.2.2.2.1.size))):=if_pos (by rw [Da (by omega) (by simp only [nI]; omega) (by simp [nI])]; simp only [nI]; omega)
    obtain ⟨b0,b1⟩:=Jn g.2.2.2.1 0
    rw [bne_eq_false_iff_eq.2 (show nI g.2.2.2.1.size=5 by simp only [nI]; omega),Af h5,Int.tmod_eq_emod_of_nonneg (by omega)]
    simp only [n1,Option.bind_some,cond_false,Bool.true_and]
    rw [Af (show 0 < nI g.2.2.2.1.size by simp only [nI]; omega),Af (show 1≤nI g.2.2.2.1.size by simp only [nI]; omega),Aj (n:=Aq g.2.2.2.1 0) (by omega) (by omega)]
    by_cases h6:g.2.2.1 % 2=(i:Int)
    ·rw [bne_eq_false_iff_eq.2 h6,show (g.2.2.1 % 2==(i:Int))=true from beq_iff_eq.2 h6]
     show (bif I6 (Fr g) then _ else _)=_
     cases I6 (Fr g)
     ·rfl
     ·by_cases h7:g.2.2.1 > b.1
      ·rw [Af h7]; rfl
      ·rw [Bd h7]; rfl
    ·rw [bne_iff_ne.2 h6,show (g.2.2.1 % 2==(i:Int))=false from beq_eq_false_iff_ne.2 h6]
     rfl
   ·rw [bne_iff_ne.2 (show nI g.2.2.2.1.size≠5 by simp only [nI]; omega),Bd h5]
    rfl
  ·rw [bne_iff_ne.2 h4,show (g.1==4)=false from beq_eq_false_iff_ne.2 h4]
   rfl
theorem Aw5 (a0:Dk) (a1:Int):Wy a0 a1=some (((A4 a0 a1),()),(())):=by
 unfold Wy A4 At
 show (bif !Ap a0 then _ else (bif !Bq a1 1 8 then _ else _))=_
 cases hv:Ap a0 with
 | false=>rfl
 | true=>
  cases hw:Bq a1 1 8 with
  | false=>rfl
  | true=>
   have hd:=Ki hv
   have h1:=Bfc a0 hd a1 0 (by omega) 2 0 0 0 0 (0,0,1,0,())
   have h2:=Bfc a0 hd a1 1 (by omega) 1 0 0 0 0 (Hl (V8 a0 (0:Nat)) a1 (0:Nat) (0,0,1,0,()))
   have h3:=h1.trans h2
   refine bi_ h3 ?_
   rfl
def u6 {R:Type} (k:Kt R):=(L7 (K1 6) (.exit 0) 2 k)
def Ahs {R:Type}:Lt R K1:=(Fp (pat:=K1) 6 (fun d k=>(Arh d).bind (u6 k)) Ik)
theorem Aey:A5 Tryz.prog Aex:=Bb ⟨Aev,Jv,D4,Ay6,Ay9,Uy,trivial⟩
theorem Ari {R:Type}:Ba Tryz.prog R 76 0 K1 Ahs s9:=
 Cn (cfg:=⟨Aex,0,76,K1⟩) 6 [] (fun NX X d=>(u4 (u4 (u4 Ah))) (O4  NX X) d) (fun m d=>(u4 (u4 (u4 Ah))) (G3 m) d) (fun d=>(u4 (u4 (u4 Ah))) S7 d) u6 Aey trivial (fun f NX d=>by simp only [u4,Ac,Ah]; unfold O4; simp only [nb])
theorem Aw6:B8 Tryz.prog 97 Aew:=
 A7 (pat:=K1) [s9] Ahs Aey ⟨Ari,trivial⟩ Tryz.func97 (de:=fun x=>Wy x.1 x.2.1) (fun x r h=>(Aw5 x.1 x.2.1).trans h) fun _=>by kernel_rfl
def Hc (d:Dk) (from_ size first life w:Int):Scd:=Ua d from_ size first life w
def Bbv:Hh:=⟨[.rd yDk,.rd tI,.rd tI,.rd tI,.rd tI,.rd tI],[some 2,none,none,none,none,none],[.own 9 .str,.rd tI,.rd tI],[some 3]⟩
def At5:SD:=⟨Bbv,fun x=>some (((Hc x.1 x.2.1 x.2.2.1 x.2.2.2.1 x.2.2.2.2.1 x.2.2.2.2.2.1).1,(Hc x.1 x.2.1 x.2.2.1 x.2.2.2.1 x.2.2.2.2.1 x.2.2.2.2.2.1).2.1,(Hc x.1 x.2.1 x.2.2.1 x.2.2.2.1 x.2.2.2.2.1 x.2.2.2.2.2.1).2.2.1,()),(()))⟩
def At6:Tb:=tb [(53,Ww),(94,Hr),(95,Do),(174,Ak9)]
def Rh:Nat→Dq×(Nat→Dq):=Hk [(9,⟨[.boxSl 6 0 .str,.boxSl 6 1 Ew,.boxRow 12 0 9 .str,.boxRow 13 0 9 .str],[(1,.lf (.d tI)),(2,.lf (.d tI)),(3,.lf (.d tI)),(5,.lf (.d tI)),(6,.lf (.ptr 0 0)),(12,.lf (.ptr 1 0)),(13,.lf (.ptr 2 0)),(14,.lf (.d .bool)),(15,.lf (.d .str)),(16,.lf (.d tI)),(17,.lf (.d tI))],[.box 26 [.d (.sl .str),.d (.sl Ew)],.box 135 [.row 3,.d tI,.d tI],.box 135 [.row 4,.d tI,.d tI],.row 9 .str,.row 9 .str]⟩,[(2,⟨[.boxRow 12 0 9 .str,.boxRow 13 0 9 .str],[(12,.lf (.ptr 0 0)),(13,.lf (.ptr 1 0))],[.box 135 [.row 2,.d tI,.d tI],.box 135 [.row 3,.d tI,.d tI],.row 9 .str,.row 9 .str]⟩)])]
def Alb:Code:=(Ax (Bm Tryz.f98)).getD 0 .skip
def Ji (v1 v2:Int) (v3 v5:Int) (v14:Bool) (v15:Aa) (v16 v17:Int) (b0_0:List Aa) (b0_1:List Wr) (b1_1 b1_2:Int) (b2_1 b2_2:Int) (r3 r4:List Aa):Nat:=(v2 - v17).toNat + 1
def Qq {R:Type}  (NX:((Int)×(Int)×(Int)×(Int)×(Bool)×(Aa)×(Int)×(Int)×(List Aa)×(List Wr)×(Int)×(Int)×(Int)×(Int)×(List Aa)×(List Aa)×Unit)→Option R) (X2:((Int)×(Int)×(Int)×(Int)×(List Aa)×(List Aa)×Unit)→Option R) (v1:Int) (v2:Int) (v3:Int) (v5:Int) (v14:Bool) (v15:Aa) (v16:Int) (v17:Int) (b0_0:List Aa) (b0_1:List Wr) (b1_1:Int) (b1_2:Int) (b2_1:Int) (b2_2:Int) (r3:List Aa) (r4:List Aa):Option R:=
 bif decide (v17 < v2) then ((S6 (b0_0,b0_1,()) (IntKind.i64.wrap (v1 + v17))).bind fun val=>some ((val,()),())).bind fun val=>bif !(Ai val.1.1 v5).2 then X2 (b1_1,b1_2,b2_1,b2_2,r3,r4,()) else bif IntKind.i64.wrap ((Ai val.1.1 v5).1.2.2.1 - v17) != v3 then X2 (b1_1,b1_2,b2_1,b2_2,r3,r4,()) else bif decide ((Ai val.1.1 v5).1.2.1 < v16) then X2 (b1_1,b1_2,b2_1,b2_2,r3,r4,()) else bif v14 then bif (Ai val.1.1 v5).1.2.1 != v16 then X2 (b1_1,b1_2,b2_1,b2_2,r3,r4,()) else bif (Ai val.1.1 v5).1.1==3 then X2 (b1_1,b1_2,b2_1,b2_2,r3,r4,()) else bif (Ai val.1.1 v5).1.1==4 then X2 (b1_1,b1_2,b2_1,b2_2,r3,r4,()) else bif (Ai val.1.1 v5).1.1==1 then bif decide (v15.size + ByteArray.size (Ai val.1.1 v5).1.2.2.2.1≤9223372036854775807) then NX (v1,v2,v3,v5,true,v15++(Ai val.1.1 v5).1.2.2.2.1,(Ai val.1.1 v5).1.2.1,IntKind.i64.wrap (v17 + 1),b0_0,b0_1,b1_1,b1_2,b2_1,b2_2,r3,r4,()) else none else bif (Ai val.1.1 v5).1.1==2 then bif decide (v15.size + ByteArray.size (Ai val.1.1 v5).1.2.2.2.1≤9223372036854775807) then bif decide ((r4.length + [v15++(Ai val.1.1 v5).1.2.2.2.1].length) * 16≤140737488355328) then NX (v1,v2,v3,v5,false,Ad,(Ai val.1.1 v5).1.2.1,IntKind.i64.wrap (v17 + 1),b0_0,b0_1,b1_1,b1_2,IntKind.i64.wrap (v17 + 1),(Ai val.1.1 v5).1.2.1,r3,r4++[v15++(Ai val.1.1 v5).1.2.2.2.1],()) else none else none else bif (Ai val.1.1 v5).1.1==3 then NX (v1,v2,v3,v5,v14,v15,(Ai val.1.1 v5).1.2.1,IntKind.i64.wrap (v17 + 1),b0_0,b0_1,b1_1,b1_2,IntKind.i64.wrap (v17 + 1),(Ai val.1.1 v5).1.2.1,r3,r4,()) else NX (v1,v2,v3,v5,v14,v15,(Ai val.1.1 v5).1.2.1,IntKind.i64.wrap (v17 + 1),b0_0,b0_1,b1_1,b1_2,b2_1,b2_2,r3,r4,()) else bif (Ai val.1.1 v5).1.1==4 then X2 (b1_1,b1_2,b2_1,b2_2,r3,r4,()) else bif (Ai val.1.1 v5).1.1==1 then bif decide (v15.size + ByteArray.size (Ai val.1.1 v5).1.2.2.2.1≤9223372036854775807) then NX (v1,v2,v3,v5,true,v15++(Ai val.1.1 v5).1.2.2.2.1,(Ai val.1.1 v5).1.2.1,IntKind.i64.wrap (v17 + 1),b0_0,b0_1,b1_1,b1_2,b2_1,b2_2,r3,r4,()) else none else bif (Ai val.1.1 v5).1.1==2 then bif decide (v15.size + ByteArray.size (Ai val.1.1 v5).1.2.2.2.1≤9223372036854775807) then bif decide ((r4.length + [v15++(Ai val.1.1 v5).1.2.2.2.1].length) * 16≤140737488355328) then NX (v1,v2,v3,v5,false,Ad,(Ai val.1.1 v5).1.2.1,IntKind.i64.wrap (v17 + 1),b0_0,b0_1,b1_1,b1_2,IntKind.i64.wrap (v17 + 1),(Ai val.1.1 v5).1.2.1,r3,r4++[v15++(Ai val.1.1 v5).1.2.2.2.1],()) else none else none else bif (Ai val.1.1 v5).1.1==3 then NX (v1,v2,v3,v5,v14,v15,(Ai val.1.1 v5).1.2.1,IntKind.i64.wrap (v17 + 1),b0_0,b0_1,b1_1,b1_2,IntKind.i64.wrap (v17 + 1),(Ai val.1.1 v5).1.2.1,r3,r4,()) else NX (v1,v2,v3,v5,v14,v15,(Ai val.1.1 v5).1.2.1,IntKind.i64.wrap (v17 + 1),b0_0,b0_1,b1_1,b1_2,b2_1,b2_2,r3,r4,()) else X2 (b1_1,b1_2,b2_1,b2_2,r3,r4,())
def Hs:Nat→(Int)→(Int)→(Int)→(Int)→(Bool)→(Aa)→(Int)→(Int)→(List Aa)→(List Wr)→(Int)→(Int)→(Int)→(Int)→(List Aa)→(List Aa) →  Option ((Int)×(Int)×(Int)×(Int)×(List Aa)×(List Aa)×Unit)
 | 0,_,_,_,_,_,_,_,_,_,_,_,_,_,_,_,_=>none
 | m + 1,v1,v2,v3,v5,v14,v15,v16,v17,b0_0,b0_1,b1_1,b1_2,b2_1,b2_2,r3,r4=>Qq  (fun d=>Hs m d.1 d.2.1 d.2.2.1 d.2.2.2.1 d.2.2.2.2.1 d.2.2.2.2.2.1 d.2.2.2.2.2.2.1 d.2.2.2.2.2.2.2.1 d.2.2.2.2.2.2.2.2.1 d.2.2.2.2.2.2.2.2.2.1 d.2.2.2.2.2.2.2.2.2.2.1 d.2.2.2.2.2.2.2.2.2.2.2.1 d.2.2.2.2.2.2.2.2.2.2.2.2.1 d.2.2.2.2.2.2.2.2.2.2.2.2.2.1 d.2.2.2.2.2.2.2.2.2.2.2.2.2.2.1 d.2.2.2.2.2.2.2.2.2.2.2.2.2.2.2.1) (fun d=>some (d)) v1 v2 v3 v5 v14 v15 v16 v17 b0_0 b0_1 b1_1 b1_2 b2_1 b2_2 r3 r4
def A48 (d:(Int)×(Int)×(Int)×(Int)×(Bool)×(Aa)×(Int)×(Int)×(List Aa)×(List Wr)×(Int)×(Int)×(Int)×(Int)×(List Aa)×(List Aa)×Unit):Option ((Int)×(Int)×(Int)×(Int)×(List Aa)×(List Aa)×Unit):=(u4 (u4 (u4 (u4 Ah)))) (Hs ((u4 (u4 (u4 (u4 Ah)))) Ji d)) d
def Agw (a0:Dk) (a1 a2:Int) (a3 a4 a5:Int):Option ((((List Aa)×(Int)×(Int)×Unit)×(Unit))):=
 bif !Fv a0 then some (([],0,0,()),()) else bif !A9 a5 1 8 then some (([],0,0,()),()) else bif decide (a1 < 0) then some (([],0,0,()),()) else bif decide (a2 < 0) then some (([],0,0,()),()) else bif decide (a1 > nI (List.length a0.1)) then some (([],0,0,()),()) else bif decide (a2 > IntKind.i64.wrap (nI (List.length a0.1) - a1)) then some (([],0,0,()),()) else ((fun d=>Hs (Ji d.1 d.2.1 d.2.2.1 d.2.2.2.1 d.2.2.2.2.1 d.2.2.2.2.2.1 d.2.2.2.2.2.2.1 d.2.2.2.2.2.2.2.1 d.2.2.2.2.2.2.2.2.1 d.2.2.2.2.2.2.2.2.2.1 d.2.2.2.2.2.2.2.2.2.2.1 d.2.2.2.2.2.2.2.2.2.2.2.1 d.2.2.2.2.2.2.2.2.2.2.2.2.1 d.2.2.2.2.2.2.2.2.2.2.2.2.2.1 d.2.2.2.2.2.2.2.2.2.2.2.2.2.2.1 d.2.2.2.2.2.2.2.2.2.2.2.2.2.2.2.1) d.1 d.2.1 d.2.2.1 d.2.2.2.1 d.2.2.2.2.1 d.2.2.2.2.2.1 d.2.2.2.2.2.2.1 d.2.2.2.2.2.2.2.1 d.2.2.2.2.2.2.2.2.1 d.2.2.2.2.2.2.2.2.2.1 d.2.2.2.2.2.2.2.2.2.2.1 d.2.2.2.2.2.2.2.2.2.2.2.1 d.2.2.2.2.2.2.2.2.2.2.2.2.1 d.2.2.2.2.2.2.2.2.2.2.2.2.2.1 d.2.2.2.2.2.2.2.2.2.2.2.2.2.2.1 d.2.2.2.2.2.2.2.2.2.2.2.2.2.2.2.1) (a1,a2,a3,a5,false,Ad,a4,0,a0.1,a0.2.1,0,0,0,a4,[],[],())).bind fun val=>some ((val.2.2.2.2.2.1,val.2.2.1,val.2.2.2.1,()),())
def Bfd (v:Int×Int×Int×Int×List Aa×List Aa×Unit):Scd:=(v.2.2.2.2.2.1,v.2.2.1,v.2.2.2.1,())
theorem A49 {d:Dk} (hd:If d) (f n:Nat) (hfn:f + n≤d.1.length) (first w b1 b2:Int) (r3:List Aa):∀ (k m i:Nat) (st:Wd),i + k=n→k < m→Ahc i st→(st.1≠1→st.2.2.1=z0)→
  ∃ y,Hs m f n first w (st.1==1) st.2.2.1 st.2.1 i d.1 d.2.1 b1 b2 st.2.2.2.2.1 st.2.2.2.2.2 r3 st.2.2.2.1=some y∧Bfd y=Cx w first (seen d f i k) i st
 | 0,m + 1,i,st,hi,_,_,_=>by
  simp only [Hs,Qq]
  rw [Bd (show ¬ (i:Int) < (n:Int) by omega)]
  exact ⟨_,rfl,rfl⟩
 | k + 1,m + 1,i,st,hi,hm,hI,hz=>by
  have h200:=hd.n200
  have e1:IntKind.i64.wrap ((f:Int) + (i:Int))=(f:Int) + (i:Int):=Aj (by omega) (by omega)
  have e2:S6 (d.1,d.2.1,()) ((f:Int) + (i:Int))=some (V8 d ((f:Int) + (i:Int))):=if_pos ⟨Nat.le_trans hd.p300 (by decide),by omega,by show _ < (d.1.length:Int); omega⟩
  have e4:IntKind.i64.wrap ((i:Int) + 1)=((i + 1:Nat):Int):=wI (by omega)
  have es:seen d f i (k + 1)=V8 d ((f:Int) + (i:Int))::seen d f (i + 1) k:=rfl
  simp only [Hs,Qq]
  rw [es,Af (show (i:Int) < (n:Int) by omega)]
  simp only [e1,e2,e4,cond_true,Option.bind_some,Ai]
  unfold Cx Gk
  generalize hx:V8 d ((f:Int) + (i:Int))=x
  obtain ⟨p,ok,hR⟩:∃ p ok,Ay x w=(p,ok):=⟨_,_,rfl⟩
  simp only [hR]
  cases ok with
  | false=>exact ⟨_,rfl,rfl⟩
  | true=>
   obtain ⟨q1,q2,q3⟩:=A1n hR
   have e5:IntKind.i64.wrap (p.2.2.1 - (i:Int))=p.2.2.1 - (i:Int):=Aj (by omega) (by omega)
   simp only [e5,Bool.not_true,cond_false,Bool.true_and,bne]
   cases hn:(p.2.2.1 - (i:Int)==first) with
   | false=>exact ⟨_,rfl,rfl⟩
   | true=>
    simp only [Bool.not_true,cond_false,Bool.true_and]
    have hN:=hI.next (p:=p) (by omega) q3
    have e6:decide (ByteArray.size st.2.2.1 + ByteArray.size p.2.2.2.1≤9223372036854775807)=true:=Af (by have:=hI.2.1; omega)
    have e7:decide ((List.length st.2.2.2.1 + 1) * 16≤140737488355328)=true:=Af (by have:=hI.2.2; omega)
    simp only [e6,cond_true,En,e7]
    have ei:(i:Int) + 1=((i + 1:Nat):Int):=by omega
    have ih:=fun hz=>A49 hd f n hfn first w b1 b2 r3 k m (i + 1) (C6 i p st) (by omega) (by omega) hN hz
    unfold C6 at ih ⊢
    unfold Xp
    rw [ei]
    rw [ei] at ih
    have hk:p.1=1∨p.1=2∨p.1=3∨p.1=4:=by omega
    cases hlt:decide (p.2.1 < st.2.1) with
    | true=>exact ⟨_,rfl,rfl⟩
    | false=>
     simp only [cond_false]
     have eqc:(p.2.1==st.2.1)=(st.2.1==p.2.1):=by
      by_cases q:p.2.1=st.2.1
      ·rw [q]
      ·rw [beq_eq_false_iff_ne.2 q,beq_eq_false_iff_ne.2 (Ne.symm q)]
     rw [eqc]
     rcases hk with hp | hp | hp | hp
     ·rw [hp] at ih ⊢
      have ih:=ih (fun q=>absurd rfl q)
      cases ho:(st.1==1) with
      | false=>
       have hb:(st.1 != 1)=true:=by simp only [bne,ho,Bool.not_false]
       rw [hb]
       exact ih
      | true=>
       have hb:(st.1 != 1)=false:=by simp only [bne,ho,Bool.not_true]
       rw [hb]
       cases (st.2.1==p.2.1) with
       | false=>exact ⟨_,rfl,rfl⟩
       | true=>exact ih
     ·rw [hp] at ih ⊢
      have ih:=ih (fun _=>rfl)
      cases ho:(st.1==1) with
      | false=>
       have hb:(st.1 != 1)=true:=by simp only [bne,ho,Bool.not_false]
       rw [hb]
       exact ih
      | true=>
       have hb:(st.1 != 1)=false:=by simp only [bne,ho,Bool.not_true]
       rw [hb]
       cases (st.2.1==p.2.1) with
       | false=>exact ⟨_,rfl,rfl⟩
       | true=>exact ih
     ·rw [hp] at ih ⊢
      have ih:=ih (fun _=>rfl)
      cases ho:(st.1==1) with
      | false=>
       have hb:(st.1 != 1)=true:=by simp only [bne,ho,Bool.not_false]
       have hs:=hz (fun q=>by rw [q] at ho; cases ho)
       rw [hb,hs]
       exact ih
      | true=>
       have hb:(st.1 != 1)=false:=by simp only [bne,ho,Bool.not_true]
       rw [hb]
       cases (st.2.1==p.2.1)<;>exact ⟨_,rfl,rfl⟩
     ·rw [hp]
      cases ho:(st.1==1) with
      | false=>exact ⟨_,rfl,rfl⟩
      | true=>
       cases (st.2.1==p.2.1)<;>exact ⟨_,rfl,rfl⟩
theorem Bbw (a0:Dk) (a1 a2:Int) (a3 a4 a5:Int):Agw a0 a1 a2 a3 a4 a5=some (((Hc a0 a1 a2 a3 a4 a5).1,(Hc a0 a1 a2 a3 a4 a5).2.1,(Hc a0 a1 a2 a3 a4 a5).2.2.1,()),(())):=by
 unfold Agw Hc Ua
 show (bif !Ap a0 then _ else bif !Bq a5 1 8 then _ else _)=_
 cases hv:Ap a0 with
 | false=>rfl
 | true=>
  have hd:=Ki hv
  cases hw:Bq a5 1 8 with
  | false=>rfl
  | true=>
   simp only [Bool.not_true,cond_false]
   have h200:=hd.n200
   by_cases h1:a1 < 0
   ·rw [Af h1,Bd (show ¬ 0≤a1 by omega)]; rfl
   ·rw [Bd h1,Af (show 0≤a1 by omega)]
    by_cases h2:a2 < 0
    ·rw [Af h2,Bd (show ¬ 0≤a2 by omega)]; rfl
    ·rw [Bd h2,Af (show 0≤a2 by omega)]
     by_cases h3:a1 > nI a0.1.length
     ·rw [Af h3,Bd (show ¬ a1≤(a0.1.length:Int) by simp only [nI] at h3; omega)]; rfl
     ·have h3':a1≤(a0.1.length:Int):=by simp only [nI] at h3; omega
      rw [Bd h3,Af h3']
      rw [Aj (n:=nI a0.1.length - a1) (by simp only [nI]; omega) (by simp only [nI]; omega)]
      by_cases h4:a2 > nI a0.1.length - a1
      ·rw [Af h4,Bd (show ¬ a2≤(a0.1.length:Int) - a1 by simp only [nI] at h4; omega)]; rfl
      ·have h4':a2≤(a0.1.length:Int) - a1:=by simp only [nI] at h4; omega
       rw [Bd h4,Af h4']
       simp only [cond_false,cond_true,Bool.true_and,Bool.and_self]
       obtain ⟨f,rfl⟩:∃ f:Nat,a1=(f:Int):=⟨a1.toNat,by omega⟩
       obtain ⟨n,rfl⟩:∃ n:Nat,a2=(n:Int):=⟨a2.toNat,by omega⟩
       have hfu:n < Ji f n a3 a5 false (Ad) a4 0 a0.1 a0.2.1 0 0 0 a4 [] []:=by simp only [Ji]; omega
       obtain ⟨y,hy1,hy2⟩:=A49 hd f n (by omega) a3 a5 0 0 [] n (Ji f n a3 a5 false (Ad) a4 0 a0.1 a0.2.1 0 0 0 a4 [] []) 0 (0,a4,z0,[],0,a4) (Nat.zero_add _) hfu (Ahc.zero _ _ _ _) (fun _=>rfl)
       show (Hs (Ji f n a3 a5 false (Ad) a4 0 a0.1 a0.2.1 0 0 0 a4 [] []) f n a3 a5 false (Ad) a4 0 a0.1 a0.2.1 0 0 0 a4 [] []).bind _=_
       have hy1':Hs (Ji f n a3 a5 false (Ad) a4 0 a0.1 a0.2.1 0 0 0 a4 [] []) f n a3 a5 false (Ad) a4 0 a0.1 a0.2.1 0 0 0 a4 [] []=some y:=hy1
       rw [hy1',Fz]
       simp only [Option.bind_some]
       have hy3:Bfd y=Cx a5 a3 (seen a0 (f:Int) 0 n) 0 (0,a4,z0,[],0,a4):=hy2
       rw [← hy3]
       rfl
def Alc {R:Type} (k:Kt R):=(L7 (Rh 9) (.exit 0) 2 k)
def Aza {R:Type}:Lt R Rh:=(Fp (pat:=Rh) 9 (fun d k=>(A48 d).bind (Alc k)) Ik)
theorem At7:A5 Tryz.prog At6:=Bb ⟨Aev,Jv,D4,Ay9,trivial⟩
theorem A5a {R:Type}:Ba Tryz.prog R 140 0 Rh Aza Alb:=
 Cn (cfg:=⟨At6,0,140,Rh⟩) 9 [] (fun NX X (d:(Int)×(Int)×(Int)×(Int)×(Bool)×(Aa)×(Int)×(Int)×(List Aa)×(List Wr)×(Int)×(Int)×(Int)×(Int)×(List Aa)×(List Aa)×Unit)=>(u4 (u4 (u4 (u4 Ah)))) (Qq  NX X) d) (fun m d=>(u4 (u4 (u4 (u4 Ah)))) (Hs m) d) (fun d=>(u4 (u4 (u4 (u4 Ah)))) Ji d) Alc At7 trivial (fun f NX (d:(Int)×(Int)×(Int)×(Int)×(Bool)×(Aa)×(Int)×(Int)×(List Aa)×(List Wr)×(Int)×(Int)×(Int)×(Int)×(List Aa)×(List Aa)×Unit)=>by simp only [u4,Ac,Ah]; unfold Qq; simp only [nb])
theorem Bbx:B8 Tryz.prog 98 At5:=
 A7 (pat:=Rh) [Alb] Aza At7 ⟨A5a,trivial⟩ Tryz.func98 (de:=fun x=>Agw x.1 x.2.1 x.2.2.1 x.2.2.2.1 x.2.2.2.2.1 x.2.2.2.2.2.1) (fun x r h=>(Bbw x.1 x.2.1 x.2.2.1 x.2.2.2.1 x.2.2.2.2.1 x.2.2.2.2.2.1).trans h) fun _=>by kernel_rfl
def G4 (s:Aa):(Aa×Bool)×Aa:=(((Bj s).1,(Bj s).2.2),(Bj s).2.1)
def Anx:Hh:=⟨[.bx 9 .str],[none],[.rd .str,.rd .bool],[none,none]⟩
def Za:SD:=⟨Anx,fun x=>some (((G4 x.1).1.1,(G4 x.1).1.2,()),((G4 x.1).2,()))⟩
def Rr (a0:Aa):Option ((((Aa)×(Bool)×Unit)×((Aa)×Unit))):=
 bif decide (nI a0.size < 1) then some ((Ad,false,()),a0,()) else bif decide (0 < nI a0.size) then bif decide (nI a0.size < IntKind.i64.wrap (1 + IntKind.i64.wrap (Aq a0 0))) then some ((Ad,false,()),a0,()) else bif decide (0 < nI a0.size) then bif decide (1≤IntKind.i64.wrap (1 + IntKind.i64.wrap (Aq a0 0))) then bif decide (IntKind.i64.wrap (1 + IntKind.i64.wrap (Aq a0 0))≤nI a0.size) then bif decide (0 < nI a0.size) then bif decide (0≤IntKind.i64.wrap (1 + IntKind.i64.wrap (Aq a0 0))) then bif decide (IntKind.i64.wrap (1 + IntKind.i64.wrap (Aq a0 0))≤nI a0.size) then some ((Ag a0 1 (IntKind.i64.wrap (1 + IntKind.i64.wrap (Aq a0 0))),true,()),Ag a0 (IntKind.i64.wrap (1 + IntKind.i64.wrap (Aq a0 0))) (nI a0.size),()) else none else none else none else none else none else none else none
theorem Anz (a0:Aa):Rr a0=some (((G4 a0).1.1,(G4 a0).1.2,()),((G4 a0).2,())):=by
 unfold Rr G4 Bj
 obtain ⟨b0,b1⟩:=Jn a0 0
 have hw:IntKind.i64.wrap (1 + IntKind.i64.wrap (Aq a0 0))=1 + Aq a0 0:=by
  rw [Aj (n:=Aq a0 0) (by omega) (by omega),Aj (by omega) (by omega)]
 rw [hw]
 by_cases h0:(a0.size:Int) < 1
 ·rw [if_pos (Or.inl h0),Af (show nI a0.size < 1 from h0)]
  rfl
 ·rw [Bd (show ¬ nI a0.size < 1 from h0),Af (show 0 < nI a0.size by simp only [nI]; omega)]
  by_cases h1:(a0.size:Int) < 1 + Aq a0 0
  ·rw [if_pos (Or.inr h1),Af (show nI a0.size < 1 + Aq a0 0 from h1)]
   rfl
  ·rw [if_neg (by omega),Bd (show ¬ nI a0.size < 1 + Aq a0 0 from h1),Af (show 1≤1 + Aq a0 0 by omega),Af (show 0≤1 + Aq a0 0 by omega),Af (show 1 + Aq a0 0≤nI a0.size by simp only [nI]; omega)]
   rfl
theorem An0:B8 Tryz.prog 176 Za:=
 A7 (pat:=Ei) [] Ik (Bb (l:=[]) trivial) trivial Tryz.func176 (de:=fun x=>Rr x.1) (fun x r h=>(Anz x.1).trans h) fun _=>by kernel_rfl
def Hd (s:Aa):List Bc×Bool:=Hg s
def Rs (r0:List Bc) (b1:Aa):Nat:=22
def At8:Hh:=⟨[.rd .str],[none],[.own 99 Dr,.rd .bool],[none,none]⟩
def Abs:SD:=⟨At8,fun x=>some (((Hd x.1).1,(Hd x.1).2,()),(()))⟩
def Abt:Tb:=tb [(118,Gw),(176,Za)]
def Ht:Nat→Dq×(Nat→Dq):=Hk [(5,⟨[.row 4 0 99 Dr],[(4,.lf (.row 0)),(5,.lf (.ptr 1 0)),(6,.fn 176 [.ptr 1 0])],[.row 99 Dr,.box 9 [.d .str]]⟩,[(2,⟨[.row 4 0 99 Dr],[(4,.lf (.row 0)),(5,.lf (.ptr 1 0))],[.row 99 Dr,.box 9 [.d .str]]⟩),(1,⟨[.row 2 0 99 Dr],[(2,.lf (.row 0)),(3,.lf (.d .bool))],[.row 99 Dr]⟩)])]
def Zb:Code:=(Ax (Bm Tryz.f100)).getD 0 .skip
def Nj {R:Type}  (NX:((List Bc)×(Aa)×Unit)→Option R) (X2:((List Bc)×(Aa)×Unit)→Option R) (X1:((Bool)×(List Bc)×Unit)→Option R) (r0:List Bc) (b1:Aa):Option R:=
 bif decide (nI b1.size > 0) then bif decide (nI r0.length≤20) then bif decide (0 < nI b1.size) then bif decide (1≤nI b1.size) then bif decide (Aq b1 0 > 1) then X1 (false,[],()) else bif !(Bj (Ag b1 1 (nI b1.size))).2.2 then X1 (false,[],()) else bif Aq b1 0==0 then bif !(Bj (Bj (Ag b1 1 (nI b1.size))).2.1).2.2 then X1 (false,[],()) else bif decide ((r0.length + [((Bj (Ag b1 1 (nI b1.size))).1,(Bj (Bj (Ag b1 1 (nI b1.size))).2.1).1,Aq b1 0==1,())].length) * 40≤140737488355328) then NX (r0++[((Bj (Ag b1 1 (nI b1.size))).1,(Bj (Bj (Ag b1 1 (nI b1.size))).2.1).1,Aq b1 0==1,())],(Bj (Bj (Ag b1 1 (nI b1.size))).2.1).2.1,()) else none else bif decide ((r0.length + [((Bj (Ag b1 1 (nI b1.size))).1,Ad,Aq b1 0==1,())].length) * 40≤140737488355328) then NX (r0++[((Bj (Ag b1 1 (nI b1.size))).1,Ad,Aq b1 0==1,())],(Bj (Ag b1 1 (nI b1.size))).2.1,()) else none else none else none else X2 (r0,b1,()) else X2 (r0,b1,())
def H6:Nat→(List Bc)→(Aa) →  Option (((List Bc)×(Aa)×Unit) ⊕ ((Bool)×(List Bc)×Unit))
 | 0,_,_=>none
 | m + 1,r0,b1=>Nj  (fun d=>H6 m d.1 d.2.1) (fun d=>some (.inl (d))) (fun d=>some (.inr (d))) r0 b1
def An1 (d:(List Bc)×(Aa)×Unit):Option (((List Bc)×(Aa)×Unit) ⊕ ((Bool)×(List Bc)×Unit)):=(Ac (Ac Ah)) (H6 ((Ac (Ac Ah)) Rs d)) d
def U6 (a0:Aa):Option ((((List Bc)×(Bool)×Unit)×(Unit))):=
 ((fun d=>H6 (Rs d.1 d.2.1) d.1 d.2.1) ([],a0,())).bind fun val=>Cy (fun d=>bif decide (nI (ByteArray.size d.2.1) > 0) then some (([],false,()),()) else bif !Hp d.1 then some (([],false,()),()) else some ((d.1,true,()),())) (fun d=>some ((d.2.1,d.1,()),())) val
def Btc (o:Option (List Bc×Aa)):(List Bc×Aa×Unit) ⊕ (Bool×List Bc×Unit):=match o with
 | some (b,t)=>.inl (b,t,())
 | none=>.inr (false,[],())
theorem A5b:∀ (f m:Nat) (r:List Bc) (s:Aa),r.length + f=22→f≤m→1≤f→H6 m r s=some (Btc (So true f r s))
 | 0,_,_,_,_,_,h=>by omega
 | f + 1,0,_,_,_,h,_=>by omega
 | f + 1,m + 1,r,s,hf,hm,_=>by
  simp only [H6,Nj,So]
  by_cases hs:s.size > 0
  ·rw [Af (show nI s.size > 0 by simp only [nI]; omega),Af hs]
   by_cases hr:r.length≤20
   ·rw [Af (show nI r.length≤20 by simp only [nI]; omega),Af hr,Af (show 1≤nI s.size by simp only [nI]; omega)]
    unfold Aye
    obtain ⟨b0,b1⟩:=Jn s 0
    generalize Bj (Ag s 1 (nI s.size))=p
    simp only [En,Bool.true_and,cond_true,Bool.and_self]
    rw [Af (show (r.length + 1) * 40≤140737488355328 by omega)]
    by_cases h1:Aq s 0 > 1
    ·rw [Af h1]; rfl
    ·rw [Bd h1]
     obtain ⟨k,t,o⟩:=p
     cases o
     ·rfl
     ·by_cases h2:Aq s 0=0
      ·rw [h2]
       simp only [Bool.not_true,cond_false,cond_true]
       generalize Bj t=q
       obtain ⟨v,u,o⟩:=q
       cases o
       ·rfl
       ·exact A5b f m (r++[(k,v,false,())]) u (by rw [Dn,En]; omega) (by omega) (by omega)
      ·have h3:Aq s 0=1:=by omega
       rw [h3]
       exact A5b f m (r++[(k,Ad,true,())]) t (by rw [Dn,En]; omega) (by omega) (by omega)
   ·rw [Bd (show ¬ nI r.length≤20 by simp only [nI]; omega),Bd hr]
    rfl
  ·rw [Bd (show ¬ nI s.size > 0 by simp only [nI]; omega),Bd hs]
   rfl
theorem At9 (a0:Aa):U6 a0=some (((Hd a0).1,(Hd a0).2,()),(())):=by
 unfold U6 Hd Hg
 have hL:=A5b 22 22 [] a0 rfl (Nat.le_refl _) (by omega)
 refine bi_ hL ?_
 cases So true 22 [] a0 with
 | none=>rfl
 | some bt=>
  obtain ⟨b,t⟩:=bt
  show (bif decide (nI t.size > 0) then _ else (bif !Az b then _ else _))=_
  have e:decide (nI t.size > 0)=decide (t.size > 0):=decide_eq_decide.2 (by simp only [nI]; omega)
  rw [e]
  simp only
  cases decide (t.size > 0)<;>cases Az b<;>rfl
def Zc {R:Type} (k:Kt R):=(Cy (L7 (Ht 5) (.exit 0) 2 k) (L7 (Ht 5) .ret 1 k))
def Aez {R:Type}:Lt R Ht:=(Fp (pat:=Ht) 5 (fun d k=>(An1 d).bind (Zc k)) Ik)
theorem Abu:A5 Tryz.prog Abt:=Bb ⟨Oy,An0,trivial⟩
theorem An2 {R:Type}:Ba Tryz.prog R 63 0 Ht Aez Zb:=
 Cn (cfg:=⟨Abt,0,63,Ht⟩) 5 [] (fun NX X d=>(Ac (Ac Ah)) (Nj  NX (fun e=>X (.inl (e))) (fun e=>X (.inr (e)))) d) (fun m d=>(Ac (Ac Ah)) (H6 m) d) (fun d=>(Ac (Ac Ah)) Rs d) Zc Abu trivial (fun f NX d=>by simp only [u4,Ac,Ah]; unfold Nj; simp only [nb])
theorem Aua:B8 Tryz.prog 100 Abs:=
 A7 (pat:=Ht) [Zb] Aez Abu ⟨An2,trivial⟩ Tryz.func100 (de:=fun x=>U6 x.1) (fun x r h=>(At9 x.1).trans h) fun _=>by kernel_rfl
def Br (s:Cv):Option Cv:=if s.1.length≤1000000 then some (s.1,()) else none
def Aub:Hh:=⟨[.rd F0],[some 1],[.own 157 A1],[some 1]⟩
def Mz:SD:=⟨Aub,fun x=>(Br x.1).bind fun r=>some ((r.1,()),(()))⟩
def U7 (a0:Cv):Option ((Cv×(Unit))):=
 bif decide ((0 + List.length a0.1) * 32≤140737488355328) then some (([]++a0.1,()),()) else none
theorem Auc (a0:Cv) r (h:Br a0=some r):U7 a0=some ((r.1,()),(())):=by
 unfold Br at h
 split at h
 ·rename_i hc
  cases h
  unfold U7
  rw [Af (show (0 + a0.1.length) * 32≤140737488355328 by omega)]
  rfl
 ·cases h
theorem P4:B8 Tryz.prog 121 Mz:=
 A7 (pat:=Ei) [] Ik (Bb (l:=[]) trivial) trivial Tryz.func121 (de:=fun x=>U7 x.1) (fun x r h=>Hf (Auc x.1) h) fun _=>by kernel_rfl
def Mi (r:Rt) (w:Int):Aa:=B5 r w
def Aw7:Hh:=⟨[.rd yRt,.rd tI],[some 4,none],[.rd .str],[none]⟩
def Ae0:SD:=⟨Aw7,fun x=>some (((Mi x.1 x.2.1),()),(()))⟩
def Wz (a0:Rt) (a1:Int):Option ((((Aa)×Unit)×(Unit))):=
 bif !Ip a0 then some ((Ad,()),()) else some ((Dw (4,a0.2.2.2.1,a0.1,Dm a0.2.1 (Int.toNat 1)++Dm a0.2.2.1 (Int.toNat 4),()) a1,()),())
theorem Aw8 (a0:Rt) (a1:Int):Wz a0 a1=some (((Mi a0 a1),()),(())):=by
 unfold Wz Mi B5
 show (bif !I6 a0 then _ else _)=_
 cases I6 a0<;>rfl
theorem Aw9:B8 Tryz.prog 185 Ae0:=
 A7 (pat:=Ei) [] Ik (Bb (l:=[(103,Kw),(175,P2),(182,Wk)]) ⟨N0,Uy,Ags,trivial⟩) trivial Tryz.func185 (de:=fun x=>Wz x.1 x.2.1) (fun x r h=>(Aw8 x.1 x.2.1).trans h) fun _=>by kernel_rfl
end Go.Proofs.YtfkefgbihlfjmaaGreat.V
end
