/- What the functions that FnExactFound reaches come to: part 2. No condition. -/
import Derived.Test.YtjokieaajjmoeaaGreatVFnExactFounda
import Derived.KernelRfl
noncomputable section
set_option linter.unusedVariables false
set_option linter.unusedSimpArgs false
namespace Go.Proofs.YtjokieaajjmoeaaGreat.V
open Go Go.Proofs.YtjokieaajjmoeaaGreat.R Go.Proofs
set_option maxRecDepth 100000
def Ih (b:List Bq):Bool:=Br b
def Anf:E5:=⟨[.rd (.sl Ff)],[none],[.rd .bool],[none]⟩
def Hd:SD:=⟨Anf,fun x=>some (((Ih x.1),()),(()))⟩
def Zr:Tb:=tb [(56,D4),(138,V7)]
def Ft:Nat→Da×(Nat→Da):=Gs [(5,⟨[.sl 9 0 Ff],[(9,.lf (.d (.sl Ff))),(10,.lf (.d tI)),(11,.lf (.d tI))],[]⟩,[(2,p0),(1,⟨[],[(2,.lf (.d .bool))],[]⟩)])]
def Vb:Code:=(At (Bc Tryz.f112)).getD 0 .skip
def H3 (v9:List Bq) (v10 v11:Int):Nat:=(v10 - v11).toNat + 1
def H4 {R:Type}  (NX:((List Bq)×(Int)×(Int)×Unit)→Option R) (X2:(Unit)→Option R) (X1:((Bool)×Unit)→Option R) (v9:List Bq) (v10:Int) (v11:Int):Option R:=
 bif decide (v11 < v10) then bif decide (0≤v11) then bif decide (v11 < nI v9.length) then bif !Sa (v9.getD v11.toNat (Ac,Ac,false,())).1 then X1 (false,()) else bif decide (nI (ByteArray.size (v9.getD v11.toNat (Ac,Ac,false,())).2.1) > 100) then X1 (false,()) else bif (v9.getD v11.toNat (Ac,Ac,false,())).2.2.1 then bif !ByteArray.toList (v9.getD v11.toNat (Ac,Ac,false,())).2.1==(Ac).toList then X1 (false,()) else NX (v9,v10,IntKind.i64.wrap (v11 + 1),()) else NX (v9,v10,IntKind.i64.wrap (v11 + 1),()) else none else none else X2 PUnit.unit
def C2:Nat→(List Bq)→(Int)→(Int) →  Option ((Unit) ⊕ ((Bool)×Unit))
 | 0,_,_,_=>none
 | m + 1,v9,v10,v11=>H4  (fun d=>C2 m d.1 d.2.1 d.2.2.1) (fun d=>some (.inl (d))) (fun d=>some (.inr (d))) v9 v10 v11
def Aii (d:(List Bq)×(Int)×(Int)×Unit):Option ((Unit) ⊕ ((Bool)×Unit)):=(Ab (Ab (Ab Ae))) (C2 ((Ab (Ab (Ab Ae))) H3 d)) d
def Qi (a0:List Bq):Option ((((Bool)×Unit)×(Unit))):=
 bif !Bs (nI a0.length) 1 20 then some ((false,()),()) else ((fun d=>C2 (H3 d.1 d.2.1 d.2.2.1) d.1 d.2.1 d.2.2.1) (a0,nI a0.length,0,())).bind fun val=>Bw (fun d=>some ((true,()),())) (fun d=>some (d,())) val
theorem Ang (a0:List Bq):Qi a0=some (((Ih a0),()),(())):=by
 unfold Qi Ih Br
 have tl:ByteArray.toList (Ac)=[]:=by decide +kernel
 show (bif !Fg (a0.length:Int) 1 20 then _ else _)=_
 cases hin:Fg (a0.length:Int) 1 20 with
 | false=>rfl
 | true=>
  have hlen:a0.length≤20:=by have:=(Iu hin).2; omega
  have hL:=L2 (n:=a0.length) (fun i=>Rh (a0.getD i zC)) (g:=fun m i=>C2 m a0 (nI a0.length) i) (ok:=.inl ()) (bad:=.inr (false,())) (fun m i hi=>by
   show C2 (m + 1) a0 (nI a0.length) i=_
   simp only [C2,H4]
   rw [tl,Qv hi,Gt,wI (show i < 4611686018427387904 by omega),Eo]
   have g1:decide (nI (ByteArray.size (List.getD a0 i (Ac,Ac,false,())).2.1) > 100)=!decide ((a0.getD i zC).2.1.size≤100):=Agx _ 100
   rw [g1]
   show (bif !Qu (a0.getD i zC).1 then _ else (bif _ then _ else (bif (a0.getD i zC).2.2.1 then (bif !((a0.getD i zC).2.1.toList==[]) then _ else _) else _)))=_
   unfold Rh
   cases Qu (a0.getD i zC).1<;>cases decide ((a0.getD i zC).2.1.size≤100)<;>cases (a0.getD i zC).2.2.1<;>cases ((a0.getD i zC).2.1.toList==[])<;>rfl) (fun m=>by
   show C2 (m + 1) a0 (nI a0.length) (a0.length:Int)=_
   simp only [C2,H4]
   rw [Jx]
   rfl) (H3 a0 (nI a0.length) 0) 0 (by omega) (by simp [H3,nI])
  refine d6 hL ?_
  rw [Nat.sub_zero]
  cases (List.range' 0 a0.length).all (fun i=>Rh (a0.getD i zC))<;>rfl
def Vc {R:Type} (k:Kt R):=(Bw (Ko (Ft 5) (.exit 0) 2 k) (Ko (Ft 5) .ret 1 k))
def o9 {R:Type}:Lt R Ft:=(E3 (pat:=Ft) 5 (fun d k=>(Aii d).bind (Vc k)) F8)
theorem Zs:Ax Tryz.prog Zr:=Ay ⟨Et,Afg,trivial⟩
theorem Aij {R:Type}:A4 Tryz.prog R 35 0 Ft o9 Vb:=
 Cj (cfg:=⟨Zr,0,35,Ft⟩) 5 [] (fun NX X d=>(Ab (Ab (Ab Ae))) (H4  NX (fun e=>X (.inl (e))) (fun e=>X (.inr (e)))) d) (fun m d=>(Ab (Ab (Ab Ae))) (C2 m) d) (fun d=>(Ab (Ab (Ab Ae))) H3 d) Vc Zs trivial (fun f NX d=>by simp only [u4,Ab,Ae]; unfold H4; simp only [nb])
theorem Qj:Bm Tryz.prog 112 Hd:=
 Aw (pat:=Ft) [Vb] o9 Zs ⟨Aij,trivial⟩ Tryz.func112 (de:=fun x=>Qi x.1) (fun x r h=>(Ang x.1).trans h) fun _=>by kernel_rfl
def Atq (v n:Int):Option Aa:=if 0≤n∧n≤1000 then some (Dy v n.toNat) else none
def Sc (v0 v6:Int) (r0:List Int):Nat:=v6.toNat + 2
def Bcp:E5:=⟨[.rd tI,.rd tI],[none,none],[.rd .str],[none]⟩
def T7:SD:=⟨Bcp,fun x=>(Atq x.1 x.2.1).bind fun r=>some ((r,()),(()))⟩
def A2d:Tb:=tb []
def T8:Nat→Da×(Nat→Da):=Gs [(4,⟨[.row 5 0 5 (.int .u8)],[(0,.lf (.d tI)),(5,.lf (.row 0)),(6,.lf (.d tI))],[.row 5 (.int .u8)]⟩,[(2,⟨[.row 5 0 5 (.int .u8)],[(5,.lf (.row 0))],[.row 5 (.int .u8)]⟩)])]
def Aqg:Code:=(At (Bc Tryz.f148)).getD 0 .skip
def Sd {R:Type}  (NX:((Int)×(Int)×(List Int)×Unit)→Option R) (X2:((List Int)×Unit)→Option R) (v0:Int) (v6:Int) (r0:List Int):Option R:=
 bif decide (v6≥0) then bif decide (0≤v6) then bif decide (v6 < nI r0.length) then bif decide (v6.toNat < r0.length) then NX (v0.fdiv (2 ^ min (Int.toNat 8) 64),IntKind.i64.wrap (v6 - 1),r0.set v6.toNat (IntKind.u8.wrap v0),()) else none else none else none else X2 (r0,())
def Mw:Nat→(Int)→(Int)→(List Int) →  Option ((List Int)×Unit)
 | 0,_,_,_=>none
 | m + 1,v0,v6,r0=>Sd  (fun d=>Mw m d.1 d.2.1 d.2.2.1) (fun d=>some (d)) v0 v6 r0
def A7n (d:(Int)×(Int)×(List Int)×Unit):Option ((List Int)×Unit):=(Ab (Ab (Ab Ae))) (Mw ((Ab (Ab (Ab Ae))) Sc d)) d
def Anh (a0 a1:Int):Option ((((Aa)×Unit)×(Unit))):=
 bif decide (a1=a1) then bif decide (0≤a1) then bif decide (a1.toNat * 1≤140737488355328) then ((fun d=>Mw (Sc d.1 d.2.1 d.2.2.1) d.1 d.2.1 d.2.2.1) (a0,IntKind.i64.wrap (a1 - 1),List.replicate a1.toNat 0,())).bind fun val=>some ((strOfNums val.1,()),()) else none else none else none
theorem Beb:∀ (k m:Nat) (v:Int) (l t:List Int),l.length=k→k≤1000→k < m→Mw m v ((k:Int) - 1) (l++t)=some (Q6 v k++t,())
 | 0,m + 1,v,l,t,hl,hk,hm=>by
  obtain rfl:l=[]:=List.length_eq_zero_iff.1 hl
  simp only [Mw,Sd]
  rw [Bd (by omega)]
  rfl
 | k + 1,m + 1,v,l,t,hl,hk,hm=>by
  have e:(((k + 1:Nat):Int) - 1)=(k:Int):=by omega
  rw [e]
  simp only [Mw,Sd]
  have hlen:(l++t).length=k + 1 + t.length:=by rw [Lw,hl]
  rw [Ap (show (k:Int)≥0 by omega),Ap (show (k:Int) < nI (l++t).length by simp only [nI,hlen]; omega),Ap (show Int.toNat (k:Int) < (l++t).length by rw [hlen]; omega),Aj (by omega) (by omega)]
  simp only [cond_true,Eo]
  obtain ⟨l',x,rfl⟩:∃ l' x,l=l'++[x]:=⟨l.dropLast,l.getLast (by intro h; subst h; simp at hl),(List.dropLast_concat_getLast _).symm⟩
  have hl':l'.length=k:=by simpa using hl
  have hs:((l'++[x])++t).set k (IntKind.wrap IntKind.u8 v)=l'++(v % 256::t):=by
   rw [List.append_assoc,List.set_append_right _ _ (by omega),hl']
   simp only [Nat.sub_self,List.singleton_append,List.set_cons_zero]
   rfl
  rw [hs]
  have:=Beb k m (v / 256) l' (v % 256::t) hl' (by omega) (by omega)
  have e2:Int.fdiv v (2 ^ min (Int.toNat 8) 64)=v / 256:=by
   show Int.fdiv v 256=v / 256
   exact Int.fdiv_eq_ediv_of_nonneg _ (by omega)
  rw [e2,this]
  simp only [Q6,List.append_assoc,List.singleton_append]
theorem Bcq (a0 a1:Int) r (h:Atq a0 a1=some r):Anh a0 a1=some ((r,()),(())):=by
 unfold Atq at h
 split at h
 ·rename_i hc
  cases h
  obtain ⟨n,rfl⟩:∃ n:Nat,a1=(n:Int):=⟨a1.toNat,by omega⟩
  unfold Anh
  rw [Ap rfl,Ap hc.1,Ap (show Int.toNat (n:Int) * 1≤140737488355328 by omega),Aj (by omega) (by omega)]
  have hL:=Beb n (Sc a0 ((n:Int) - 1) (List.replicate n 0)) a0 (List.replicate n 0) [] (by simp) (by omega) (by simp only [Sc]; omega)
  rw [List.append_nil,List.append_nil] at hL
  exact d6 hL rfl
 ·cases h
def Aqh {R:Type} (k:Kt R):=(Ko (T8 4) (.exit 0) 2 k)
def A5w {R:Type}:Lt R T8:=(E3 (pat:=T8) 4 (fun d k=>(A7n d).bind (Aqh k)) F8)
theorem A2e:Ax Tryz.prog A2d:=Ay trivial
theorem A7o {R:Type}:A4 Tryz.prog R 24 0 T8 A5w Aqg:=
 Cj (cfg:=⟨A2d,0,24,T8⟩) 4 [] (fun NX X d=>(Ab (Ab (Ab Ae))) (Sd  NX X) d) (fun m d=>(Ab (Ab (Ab Ae))) (Mw m) d) (fun d=>(Ab (Ab (Ab Ae))) Sc d) Aqh A2e trivial (fun f NX d=>by simp only [u4,Ab,Ae]; unfold Sd; simp only [nb])
theorem Ad3:Bm Tryz.prog 148 T7:=
 Aw (pat:=T8) [Aqg] A5w A2e ⟨A7o,trivial⟩ Tryz.func148 (de:=fun x=>Anh x.1 x.2.1) (fun x r h=>A2 (Bcq x.1 x.2.1) h) fun _=>by kernel_rfl
def He (b:List Bq):Aa:=Hu b
def Aqi:E5:=⟨[.rd (.sl Ff)],[none],[.rd .str],[none]⟩
def Se:SD:=⟨Aqi,fun x=>some (((He x.1),()),(()))⟩
def Sf:Tb:=⟨tbF [(112,Hd),(148,T7)],fun f=>if f=158 then some Tryz.f158 else none,some (177,187),some (159,187,5),none,.off⟩
def Ii:Nat→Da×(Nat→Da):=Gs [(6,⟨[.sl 9 0 Ff,.self 3 0,.boxRow 3 1 5 (.int .u8)],[(3,.lf (.ptr 0 0)),(9,.lf (.d (.sl Ff))),(10,.lf (.d tI)),(11,.lf (.d tI))],[.box 187 [.sp 0,.row 1],.row 5 (.int .u8)]⟩,[(2,⟨[.self 3 0,.boxRow 3 1 5 (.int .u8)],[(3,.lf (.ptr 0 0))],[.box 187 [.sp 0,.row 1],.row 5 (.int .u8)]⟩)])]
def Ws:Code:=(At (Bc Tryz.f114)).getD 0 .skip
def I1 (v9:List Bq) (v10 v11:Int) (r1:List Int):Nat:=(v10 - v11).toNat + 1
def I2 {R:Type}  (NX:((List Bq)×(Int)×(Int)×(List Int)×Unit)→Option R) (X2:((List Int)×Unit)→Option R) (v9:List Bq) (v10:Int) (v11:Int) (r1:List Int):Option R:=
 bif decide (v11 < v10) then bif decide (0≤v11) then bif decide (v11 < nI v9.length) then bif (v9.getD v11.toNat (Ac,Ac,false,())).2.2.1 then bif decide ((ByteArray.mk #[1]++Dy (nI (ByteArray.size (v9.getD v11.toNat (Ac,Ac,false,())).1)) (Int.toNat 1)).size + ByteArray.size (v9.getD v11.toNat (Ac,Ac,false,())).1≤9223372036854775807) then bif decide (r1.length + (ByteArray.mk #[1]++Dy (nI (ByteArray.size (v9.getD v11.toNat (Ac,Ac,false,())).1)) (Int.toNat 1)++(v9.getD v11.toNat (Ac,Ac,false,())).1).size≤140737488355328) then NX (v9,v10,IntKind.i64.wrap (v11 + 1),r1++Ad (ByteArray.mk #[1]++Dy (nI (ByteArray.size (v9.getD v11.toNat (Ac,Ac,false,())).1)) (Int.toNat 1)++(v9.getD v11.toNat (Ac,Ac,false,())).1),()) else none else none else bif decide ((ByteArray.mk #[0]++Dy (nI (ByteArray.size (v9.getD v11.toNat (Ac,Ac,false,())).1)) (Int.toNat 1)).size + ByteArray.size (v9.getD v11.toNat (Ac,Ac,false,())).1≤9223372036854775807) then bif decide ((ByteArray.mk #[0]++Dy (nI (ByteArray.size (v9.getD v11.toNat (Ac,Ac,false,())).1)) (Int.toNat 1)++(v9.getD v11.toNat (Ac,Ac,false,())).1).size + (Dy (nI (ByteArray.size (v9.getD v11.toNat (Ac,Ac,false,())).2.1)) (Int.toNat 1)).size≤9223372036854775807) then bif decide ((ByteArray.mk #[0]++Dy (nI (ByteArray.size (v9.getD v11.toNat (Ac,Ac,false,())).1)) (Int.toNat 1)++(v9.getD v11.toNat (Ac,Ac,false,())).1++Dy (nI (ByteArray.size (v9.getD v11.toNat (Ac,Ac,false,())).2.1)) (Int.toNat 1)).size + ByteArray.size (v9.getD v11.toNat (Ac,Ac,false,())).2.1≤9223372036854775807) then bif decide (r1.length + (ByteArray.mk #[0]++Dy (nI (ByteArray.size (v9.getD v11.toNat (Ac,Ac,false,())).1)) (Int.toNat 1)++(v9.getD v11.toNat (Ac,Ac,false,())).1++Dy (nI (ByteArray.size (v9.getD v11.toNat (Ac,Ac,false,())).2.1)) (Int.toNat 1)++(v9.getD v11.toNat (Ac,Ac,false,())).2.1).size≤140737488355328) then NX (v9,v10,IntKind.i64.wrap (v11 + 1),r1++Ad (ByteArray.mk #[0]++Dy (nI (ByteArray.size (v9.getD v11.toNat (Ac,Ac,false,())).1)) (Int.toNat 1)++(v9.getD v11.toNat (Ac,Ac,false,())).1++Dy (nI (ByteArray.size (v9.getD v11.toNat (Ac,Ac,false,())).2.1)) (Int.toNat 1)++(v9.getD v11.toNat (Ac,Ac,false,())).2.1),()) else none else none else none else none else none else none else X2 (r1,())
def By:Nat→(List Bq)→(Int)→(Int)→(List Int) →  Option ((List Int)×Unit)
 | 0,_,_,_,_=>none
 | m + 1,v9,v10,v11,r1=>I2  (fun d=>By m d.1 d.2.1 d.2.2.1 d.2.2.2.1) (fun d=>some (d)) v9 v10 v11 r1
def Akb (d:(List Bq)×(Int)×(Int)×(List Int)×Unit):Option ((List Int)×Unit):=(u4 Ae) (By ((u4 Ae) I1 d)) d
def Sg (a0:List Bq):Option ((((Aa)×Unit)×(Unit))):=
 bif !Ih a0 then some ((Ac,()),()) else ((fun d=>By (I1 d.1 d.2.1 d.2.2.1 d.2.2.2.1) d.1 d.2.1 d.2.2.1 d.2.2.2.1) (a0,nI a0.length,0,[],())).bind fun val=>bif F2 val.1 then some ((strOfNums val.1,()),()) else none
theorem Aqj (a0:List Bq):Sg a0=some ((He a0,()),(())):=by
 unfold Sg He Hu
 show (bif !Br a0 then _ else _)=_
 cases hv:Br a0 with
 | false=>rfl
 | true=>
  obtain ⟨hlen,hok⟩:=Uo hv
  have hL:=Ajs a0.length A0k (fun i r=>r++Xh (a0.getD i zC)) (g:=fun m i r=>By m a0 (nI a0.length) i r) (ok:=fun r=>(r,())) (fun m i r hi hr=>by
   show By (m + 1) a0 (nI a0.length) i r=_
   simp only [By,I2]
   have hc:=hok i hi
   obtain ⟨k1,k2,k3⟩:=Ajt hc
   rw [Qv hi,Gt,wI (show i < 4611686018427387904 by omega),Eo]
   show (bif (a0.getD i zC).2.2.1 then (bif decide (ByteArray.size (ByteArray.mk #[1]++Dy (nI (ByteArray.size (a0.getD i zC).1)) 1) + ByteArray.size (a0.getD i zC).1≤9223372036854775807) then (bif decide (List.length r + ByteArray.size (ByteArray.mk #[1]++Dy (nI (ByteArray.size (a0.getD i zC).1)) 1++(a0.getD i zC).1)≤140737488355328) then By m a0 (nI a0.length) ((i + 1:Nat):Int) (r++Ad (ByteArray.mk #[1]++Dy (nI (ByteArray.size (a0.getD i zC).1)) 1++(a0.getD i zC).1)) else none) else none) else (bif decide (ByteArray.size (ByteArray.mk #[0]++Dy (nI (ByteArray.size (a0.getD i zC).1)) 1) + ByteArray.size (a0.getD i zC).1≤9223372036854775807) then (bif decide (ByteArray.size (ByteArray.mk #[0]++Dy (nI (ByteArray.size (a0.getD i zC).1)) 1++(a0.getD i zC).1) + ByteArray.size (Dy (nI (ByteArray.size (a0.getD i zC).2.1)) 1)≤9223372036854775807) then (bif decide (ByteArray.size (ByteArray.mk #[0]++Dy (nI (ByteArray.size (a0.getD i zC).1)) 1++(a0.getD i zC).1++Dy (nI (ByteArray.size (a0.getD i zC).2.1)) 1) + ByteArray.size (a0.getD i zC).2.1≤9223372036854775807) then (bif decide (List.length r + ByteArray.size (ByteArray.mk #[0]++Dy (nI (ByteArray.size (a0.getD i zC).1)) 1++(a0.getD i zC).1++Dy (nI (ByteArray.size (a0.getD i zC).2.1)) 1++(a0.getD i zC).2.1)≤140737488355328) then By m a0 (nI a0.length) ((i + 1:Nat):Int) (r++Ad (ByteArray.mk #[0]++Dy (nI (ByteArray.size (a0.getD i zC).1)) 1++(a0.getD i zC).1++Dy (nI (ByteArray.size (a0.getD i zC).2.1)) 1++(a0.getD i zC).2.1)) else none) else none) else none) else none))=By m a0 (nI a0.length) ((i + 1:Nat):Int) (r++Xh (a0.getD i zC))
   have hr1:=hr.1
   generalize a0.getD i zC=c at *
   have o1:Ad (ByteArray.mk #[1])=[1]:=rfl
   have o0:Ad (ByteArray.mk #[0])=[0]:=rfl
   have s1:ByteArray.size (ByteArray.mk #[1])=1:=rfl
   have s0:ByteArray.size (ByteArray.mk #[0])=1:=rfl
   simp only [Qw,A9o _ (show c.1.size < 256 by omega),A9o _ (show c.2.1.size < 256 by omega),o1,o0,ByteArray.size_append,L3,s1,s0]
   rw [Ap (show 1 + 1 + c.1.size≤9223372036854775807 by omega),Ap (show r.length + (1 + 1 + c.1.size)≤140737488355328 by omega),Ap (show 1 + 1 + c.1.size + 1≤9223372036854775807 by omega),Ap (show 1 + 1 + c.1.size + 1 + c.2.1.size≤9223372036854775807 by omega),Ap (show r.length + (1 + 1 + c.1.size + 1 + c.2.1.size)≤140737488355328 by omega)]
   unfold Xh
   cases c.2.2.1<;>rfl) (fun m r _=>by
   show By (m + 1) a0 (nI a0.length) (a0.length:Int) r=_
   simp only [By,I2]
   rw [Jx]
   rfl) (fun i r hi hr=>hr.step (hok i hi)) a0.length (I1 a0 (nI a0.length) 0 []) 0 [] (by omega) (by simp [I1,nI]) ⟨by simp,rfl⟩
  have hB:=A9p hok a0.length 0 [] (by omega) ⟨by simp,rfl⟩
  rw [A0j Xh zC a0 a0.length 0 [] (by omega),List.nil_append,List.drop_zero] at hL hB
  refine d6 hL ?_
  show (bif F2 (Im a0) then some ((strOfNums (Im a0),()),()) else none)=_
  have:F2 (Im a0)=true:=hB.2
  rw [this]
  rfl
def Wt {R:Type} (k:Kt R):=(Ko (Ii 6) (.exit 0) 2 k)
def Acf {R:Type}:Lt R Ii:=(E3 (pat:=Ii) 6 (fun d k=>(Akb d).bind (Wt k)) F8)
theorem p7:Ax Tryz.prog Sf where
 sd:=Az9 (l:=[(112,Hd),(148,T7)]) ⟨Qj,Ad3,trivial⟩
 inl:=fun f fn h=>by
  simp only [Sf] at h
  split at h
  ·rename_i e; subst e; cases h; exact ⟨Tryz.func158,by kernel_rfl,by kernel_rfl⟩
  cases h
 cc:=fun f BT h=>by cases h; exact ⟨⟨_,Tryz.func177,by kernel_rfl,by kernel_rfl⟩,Bjb⟩
 st:=fun f BT e h=>by cases h; exact ⟨⟨_,Tryz.func159,by kernel_rfl,by kernel_rfl⟩,Bjc⟩
 srt:=fun fs fc BT U e h=>by cases h
theorem Akc {R:Type}:A4 Tryz.prog R 45 0 Ii Acf Ws:=
 Cj (cfg:=⟨Sf,0,45,Ii⟩) 6 [] (fun NX X d=>(u4 Ae) (I2  NX X) d) (fun m d=>(u4 Ae) (By m) d) (fun d=>(u4 Ae) I1 d) Wt p7 trivial (fun f NX d=>by simp only [u4,Ab,Ae]; unfold I2; simp only [nb])
theorem p8:Bm Tryz.prog 114 Se:=
 Aw (pat:=Ii) [Ws] Acf p7 ⟨Akc,trivial⟩ Tryz.func114 (de:=fun x=>Sg x.1) (fun x r h=>(Aqj x.1).trans h) fun _=>by kernel_rfl
def Gw (s:Dh):List (List Bq):=Eh s
def Atr:E5:=⟨[.rd B6],[some 1],[.nst ⟨63,148,false⟩ Ff],[none]⟩
def T9:SD:=⟨Atr,fun x=>some (((Gw x.1),()),(()))⟩
def Acg:Tb:=tb [(90,Hc)]
def Jn:Nat→Da×(Nat→Da):=Gs [(6,⟨[.last 3 148 Ff,.sl 10 0 Aq],[(3,.lf (.row 0)),(10,.lf (.d (.sl Aq))),(11,.lf (.d tI)),(12,.lf (.d tI))],[.last ⟨63,148,false⟩ Ff 1,.row 148 Ff]⟩,[(2,⟨[.last 3 148 Ff],[(3,.lf (.row 0))],[.last ⟨63,148,false⟩ Ff 1,.row 148 Ff]⟩)])]
def Zt:Code:=(At (Bc Tryz.f145)).getD 0 .skip
def Fu (v10:List Ar) (v11 v12:Int) (r0:List (List Bq)) (c0:Bool) (r1:List Bq):Nat:=(v11 - v12).toNat + 1
def Ki {R:Type}  (NX:((List Ar)×(Int)×(Int)×(List (List Bq))×(Bool)×(List Bq)×Unit)→Option R) (X2:((List (List Bq))×(Bool)×(List Bq)×Unit)→Option R) (v10:List Ar) (v11:Int) (v12:Int) (r0:List (List Bq)) (c0:Bool) (r1:List Bq):Option R:=
 bif decide (v12 < v11) then bif decide (0≤v12) then bif decide (v12 < nI v10.length) then bif v12.tmod 20==0 then bif decide ((r0.length + c0.toNat + 1) * 24≤140737488355328) then bif decide (0≤IntKind.i64.wrap (nI ((bif c0 then r0++[r1] else r0).length + true.toNat) - 1)) then bif decide (IntKind.i64.wrap (nI ((bif c0 then r0++[r1] else r0).length + true.toNat) - 1) < nI ((bif c0 then r0++[r1] else r0).length + true.toNat)) then bif decide ((IntKind.i64.wrap (nI ((bif c0 then r0++[r1] else r0).length + true.toNat) - 1)).toNat=(bif c0 then r0++[r1] else r0).length) then bif decide (0≤IntKind.i64.wrap (nI ((bif c0 then r0++[r1] else r0).length + true.toNat) - 1)) then bif decide (IntKind.i64.wrap (nI ((bif c0 then r0++[r1] else r0).length + true.toNat) - 1) < nI ((bif c0 then r0++[r1] else r0).length + true.toNat)) then bif decide ((IntKind.i64.wrap (nI ((bif c0 then r0++[r1] else r0).length + true.toNat) - 1)).toNat=(bif c0 then r0++[r1] else r0).length) then NX (v10,v11,IntKind.i64.wrap (v12 + 1),bif c0 then r0++[r1] else r0,true,[]++[((v10.getD v12.toNat (Ac,Ac,())).1,(v10.getD v12.toNat (Ac,Ac,())).2.1,false,())],()) else none else none else none else none else none else none else none else bif decide (0≤IntKind.i64.wrap (nI (r0.length + c0.toNat) - 1)) then bif decide (IntKind.i64.wrap (nI (r0.length + c0.toNat) - 1) < nI (r0.length + c0.toNat)) then bif c0 then bif decide ((IntKind.i64.wrap (nI (r0.length + c0.toNat) - 1)).toNat=r0.length) then bif decide ((r1.length + [((v10.getD v12.toNat (Ac,Ac,())).1,(v10.getD v12.toNat (Ac,Ac,())).2.1,false,())].length) * 40≤140737488355328) then bif decide (0≤IntKind.i64.wrap (nI (r0.length + c0.toNat) - 1)) then bif decide (IntKind.i64.wrap (nI (r0.length + c0.toNat) - 1) < nI (r0.length + c0.toNat)) then bif c0 then bif decide ((IntKind.i64.wrap (nI (r0.length + c0.toNat) - 1)).toNat=r0.length) then NX (v10,v11,IntKind.i64.wrap (v12 + 1),r0,c0,r1++[((v10.getD v12.toNat (Ac,Ac,())).1,(v10.getD v12.toNat (Ac,Ac,())).2.1,false,())],()) else none else none else none else none else none else none else none else none else none else none else none else X2 (r0,c0,r1,())
def Ct:Nat→(List Ar)→(Int)→(Int)→(List (List Bq))→(Bool)→(List Bq) →  Option ((List (List Bq))×(Bool)×(List Bq)×Unit)
 | 0,_,_,_,_,_,_=>none
 | m + 1,v10,v11,v12,r0,c0,r1=>Ki  (fun d=>Ct m d.1 d.2.1 d.2.2.1 d.2.2.2.1 d.2.2.2.2.1 d.2.2.2.2.2.1) (fun d=>some (d)) v10 v11 v12 r0 c0 r1
def Ani (d:(List Ar)×(Int)×(Int)×(List (List Bq))×(Bool)×(List Bq)×Unit):Option ((List (List Bq))×(Bool)×(List Bq)×Unit):=(u4 (Ab (Ab Ae))) (Ct ((u4 (Ab (Ab Ae))) Fu d)) d
def Ua (a0:Dh):Option ((((List (List Bq))×Unit)×(Unit))):=
 bif !E2 a0 then some (([],()),()) else ((fun d=>Ct (Fu d.1 d.2.1 d.2.2.1 d.2.2.2.1 d.2.2.2.2.1 d.2.2.2.2.2.1) d.1 d.2.1 d.2.2.1 d.2.2.2.1 d.2.2.2.2.1 d.2.2.2.2.2.1) (a0.1,nI (List.length a0.1),0,[],false,[],())).bind fun val=>some ((bif val.2.1 then val.1++[val.2.2.1] else val.1,()),())
theorem Ats (a0:Dh):Ua a0=some (((Gw a0),()),(())):=by
 unfold Ua Gw Eh
 show (bif !Av a0 then _ else _)=_
 cases hv:Av a0 with
 | false=>rfl
 | true=>
  have hl:=Gc hv
  have hL:=G4 (xs:=a0.1) zP A5n Ux (g:=fun m i s=>Ct m a0.1 (nI a0.1.length) i s.1 s.2.1 s.2.2) (ok:=fun s=>(s.1,s.2.1,s.2.2,())) (fun m i s hi hI=>by
   show Ct (m + 1) a0.1 (nI a0.1.length) i s.1 s.2.1 s.2.2=_
   obtain ⟨r0,c0,r1⟩:=s
   obtain ⟨h1,h2,h3,h4⟩:=hI
   simp only at h2 h3 h4 ⊢
   simp only [Ct,Ki]
   rw [Qv hi,Gt,wI (show i < 4611686018427387904 by omega),Eo,Bht]
   unfold Ux
   cases hc:(i % 20==0)
   ·have hp:0 < i:=Nat.pos_of_ne_zero fun q=>by subst q; cases hc
    have hc0:=h3 hp
    subst hc0
    have e1:=A60 r0.length (by omega)
    have e2:decide ((r0.length:Int) < nI (r0.length + 1))=true:=Qv (Nat.lt_succ_self _)
    have e3:decide ((r1.length + 1) * 40≤140737488355328)=true:=Ap (by omega)
    simp only [Bool.toNat_true,Nz,cond_true,cond_false,e1,e2,e3,Gt,Eo,decide_true]
    rfl
   ·have hL:List.length (bif c0 then r0++[r1] else r0)≤i + 1:=by cases c0<;>simp<;>omega
    have e1:=A60 (List.length (bif c0 then r0++[r1] else r0)) (by omega)
    have e2:decide (((List.length (bif c0 then r0++[r1] else r0):Nat):Int) < nI (List.length (bif c0 then r0++[r1] else r0) + 1))=true:=Qv (Nat.lt_succ_self _)
    have e3:decide ((r0.length + Bool.toNat c0 + 1) * 24≤140737488355328)=true:=Ap (by cases c0<;>simp<;>omega)
    simp only [Bool.toNat_true,cond_true,e1,e2,e3,Gt,Eo,decide_true]
    rfl) (fun i s hi hI=>hI.step (by omega) _) (fun m s hI=>by
   show Ct (m + 1) a0.1 (nI a0.1.length) (a0.1.length:Int) s.1 s.2.1 s.2.2=_
   simp only [Ct,Ki]
   rw [Jx]
   rfl) (Fu a0.1 (nI a0.1.length) 0 [] false []) 0 ([],false,[]) (by omega) (by simp [Fu,nI]) ⟨by omega,by simp,fun q=>by omega,by simp⟩
  have hL':Ct (Fu a0.1 (nI a0.1.length) 0 [] false []) a0.1 (nI a0.1.length) 0 [] false []=_:=hL
  show (Ct (Fu a0.1 (nI a0.1.length) 0 [] false []) a0.1 (nI a0.1.length) 0 [] false []).bind _=_
  rw [hL']
  rfl
def Zu {R:Type} (k:Kt R):=(Ko (Jn 6) (.exit 0) 2 k)
def Afh {R:Type}:Lt R Jn:=(E3 (pat:=Jn) 6 (fun d k=>(Ani d).bind (Zu k)) F8)
theorem Ach:Ax Tryz.prog Acg:=Ay ⟨Mv,trivial⟩
theorem Anj {R:Type}:A4 Tryz.prog R 43 0 Jn Afh Zt:=
 Cj (cfg:=⟨Acg,0,43,Jn⟩) 6 [] (fun NX X (d:(List Ar)×(Int)×(Int)×(List (List Bq))×(Bool)×(List Bq)×Unit)=>(u4 (Ab (Ab Ae))) (Ki  NX X) d) (fun m d=>(u4 (Ab (Ab Ae))) (Ct m) d) (fun d=>(u4 (Ab (Ab Ae))) Fu d) Zu Ach trivial (fun f NX (d:(List Ar)×(Int)×(Int)×(List (List Bq))×(Bool)×(List Bq)×Unit)=>by simp only [u4,Ab,Ae]; unfold Ki; simp only [nb])
theorem Aci:Bm Tryz.prog 145 T9:=
 Aw (pat:=Jn) [Zt] Afh Ach ⟨Anj,trivial⟩ Tryz.func145 (de:=fun x=>Ua x.1) (fun x r h=>(Ats x.1).trans h) fun _=>by kernel_rfl
def A7p:E5:=⟨[.rd tI],[none],[.rd tI],[none]⟩
def Aqk (a0:Int):Option ((((Int)×Unit)×(Unit))):=
 some ((IntKind.i64.wrap (IntKind.i64.wrap (64 - a0) - 8),()),())
def Sh:SD:=⟨A7p,fun x=>Aqk x.1⟩
theorem Xl:Bm Tryz.prog 157 Sh:=
 Aw (pat:=Co) [] F8 (Ay (l:=[]) trivial) trivial Tryz.func157 (de:=fun x=>Aqk x.1) (fun x r h=>h) fun _=>by kernel_rfl
def Mx (s:Aa) (w:Int):Option Int:=if s.size≤1099511627776 then some (Gy s.size w) else none
def A3y:E5:=⟨[.rd .str,.rd tI],[none,none],[.rd tI],[none]⟩
def Aak:SD:=⟨A3y,fun x=>(Mx x.1 x.2.1).bind fun r=>some ((r,()),(()))⟩
def Aal (a0:Aa) (a1:Int):Option ((((Int)×Unit)×(Unit))):=
 bif !Bs a1 1 8 then some ((0,()),()) else bif !decide (IntKind.i64.wrap (IntKind.i64.wrap (64 - a1) - 8)=0) then some ((if IntKind.i64.wrap ((IntKind.i64.wrap (IntKind.i64.wrap (nI a0.size + IntKind.i64.wrap (IntKind.i64.wrap (64 - a1) - 8)) - 1)).tdiv (IntKind.i64.wrap (IntKind.i64.wrap (64 - a1) - 8))) > 1 then IntKind.i64.wrap ((IntKind.i64.wrap (IntKind.i64.wrap (nI a0.size + IntKind.i64.wrap (IntKind.i64.wrap (64 - a1) - 8)) - 1)).tdiv (IntKind.i64.wrap (IntKind.i64.wrap (64 - a1) - 8))) else 1,()),()) else none
theorem A3z (a0:Aa) (a1:Int) r (h:Mx a0 a1=some r):Aal a0 a1=some ((r,()),(())):=by
 unfold Mx at h
 split at h
 ·rename_i hc
  cases h
  unfold Aal Gy
  show (bif !Fg a1 1 8 then _ else _)=_
  cases hw:Fg a1 1 8 with
  | false=>rfl
  | true=>
   have k1:=(Iu hw).1
   have k2:=(Iu hw).2
   have hq:0≤((a0.size:Int) + (56 - a1) - 1) / (56 - a1):=Int.ediv_nonneg (by omega) (by omega)
   have hq2:((a0.size:Int) + (56 - a1) - 1) / (56 - a1)≤(a0.size:Int) + (56 - a1) - 1:=Int.ediv_le_self _ (by omega)
   rw [Aj (n:=64 - a1) (by omega) (by omega),Aj (n:=64 - a1 - 8) (by omega) (by omega),show 64 - a1 - 8=56 - a1 by omega]
   simp only [nI]
   rw [Aj (n:=(a0.size:Int) + (56 - a1)) (by omega) (by omega),Aj (n:=(a0.size:Int) + (56 - a1) - 1) (by omega) (by omega),Int.tdiv_eq_ediv_of_nonneg (by omega),Aj (n:=((a0.size:Int) + (56 - a1) - 1) / (56 - a1)) (by omega) (by omega),Bd (show ¬ (56 - a1=0) by omega)]
   rfl
 ·cases h
theorem Ale:Bm Tryz.prog 146 Aak:=
 Aw (pat:=Co) [] F8 (Ay (l:=[(56,D4),(157,Sh)]) ⟨Et,Xl,trivial⟩) trivial Tryz.func146 (de:=fun x=>Aal x.1 x.2.1) (fun x r h=>A2 (A3z x.1 x.2.1) h) fun _=>by kernel_rfl
def Q1 (s:Dh) (w:Int):Int:=Yb s w
def A7q:E5:=⟨[.rd B6,.rd tI],[some 1,none],[.rd tI],[none]⟩
def Ad4:SD:=⟨A7q,fun x=>some (((Q1 x.1 x.2.1),()),(()))⟩
def Aql:Tb:=tb [(56,D4),(114,Se),(145,T9),(146,Aak)]
def Ou:Nat→Da×(Nat→Da):=Gs [(6,⟨[.sl 12 0 (.sl Ff)],[(1,.lf (.d tI)),(5,.lf (.d tI)),(12,.lf (.d (.sl (.sl Ff)))),(13,.lf (.d tI)),(14,.lf (.d tI))],[]⟩,[(2,⟨[],[(5,.lf (.d tI))],[]⟩)])]
def Aik:Code:=(At (Bc Tryz.f97)).getD 0 .skip
def Kj (v1 v5:Int) (v12:List (List Bq)) (v13 v14:Int):Nat:=(v13 - v14).toNat + 1
def Oe {R:Type}  (NX:((Int)×(Int)×(List (List Bq))×(Int)×(Int)×Unit)→Option R) (X2:((Int)×Unit)→Option R) (v1:Int) (v5:Int) (v12:List (List Bq)) (v13:Int) (v14:Int):Option R:=
 bif decide (v14 < v13) then bif decide (0≤v14) then bif decide (v14 < nI v12.length) then ((Mx (He (v12.getD v14.toNat [])) v1).bind fun val=>some ((val,()),())).bind fun val=>NX (v1,IntKind.i64.wrap (v5 + val.1.1),v12,v13,IntKind.i64.wrap (v14 + 1),()) else none else none else X2 (v5,())
def D7:Nat→(Int)→(Int)→(List (List Bq))→(Int)→(Int) →  Option ((Int)×Unit)
 | 0,_,_,_,_,_=>none
 | m + 1,v1,v5,v12,v13,v14=>Oe  (fun d=>D7 m d.1 d.2.1 d.2.2.1 d.2.2.2.1 d.2.2.2.2.1) (fun d=>some (d)) v1 v5 v12 v13 v14
def A2f (d:(Int)×(Int)×(List (List Bq))×(Int)×(Int)×Unit):Option ((Int)×Unit):=(u4 (Ab Ae)) (D7 ((u4 (Ab Ae)) Kj d)) d
def Ad5 (a0:Dh) (a1:Int):Option ((((Int)×Unit)×(Unit))):=
 bif !Bs a1 1 8 then some ((0,()),()) else ((fun d=>D7 (Kj d.1 d.2.1 d.2.2.1 d.2.2.2.1 d.2.2.2.2.1) d.1 d.2.1 d.2.2.1 d.2.2.2.1 d.2.2.2.2.1) (a1,0,Gw a0,nI ((Gw a0).length + false.toNat),0,())).bind fun val=>some (val,())
theorem A7r (a0:Dh) (a1:Int):Ad5 a0 a1=some (((Q1 a0 a1),()),(())):=by
 unfold Ad5 Q1
 show (bif !Fg a1 1 8 then _ else _)=_
 cases hw:Fg a1 1 8 with
 | false=>unfold Yb; rw [hw]; rfl
 | true=>
  have hl:=Xs a0
  have hL:=G4 (xs:=Eh a0) [] Bfh (fun _ b a=>a + Gy (Hu b).size a1) (g:=fun m i a=>D7 m a1 a (Eh a0) (nI (Eh a0).length) i) (ok:=fun a=>(a,())) (fun m i a hi hI=>by
   show D7 (m + 1) a1 a (Eh a0) (nI (Eh a0).length) i=_
   simp only [D7,Oe]
   rw [Qv hi,Gt,wI (show i < 4611686018427387904 by omega),Eo]
   have e1:Mx (He (List.getD (Eh a0) i [])) a1=some (Gy (Hu (List.getD (Eh a0) i [])).size a1):=if_pos (Nat.le_trans (P7 _) (by decide))
   rw [e1]
   simp only [cond_true,Option.bind_some]
   rw [A0l hI]) (fun i a hi hI=>hI.step (by omega) _ _) (fun m a hI=>by
   show D7 (m + 1) a1 a (Eh a0) (nI (Eh a0).length) ((Eh a0).length:Int)=_
   simp only [D7,Oe]
   rw [Jx]
   rfl) (Kj a1 0 (Eh a0) (nI (Eh a0).length) 0) 0 0 (by omega) (by simp [Kj,nI]) ⟨by omega,by omega,by omega⟩
  have hL':D7 (Kj a1 0 (Eh a0) (nI (Eh a0).length) 0) a1 0 (Eh a0) (nI (Eh a0).length) 0=_:=hL
  show (D7 (Kj a1 0 (Eh a0) (nI (Eh a0).length) 0) a1 0 (Eh a0) (nI (Eh a0).length) 0).bind _=_
  rw [hL',Asm,List.drop_zero,A9x,Int.zero_add]
  rfl
def Ail {R:Type} (k:Kt R):=(Ko (Ou 6) (.exit 0) 2 k)
def Avi {R:Type}:Lt R Ou:=(E3 (pat:=Ou) 6 (fun d k=>(A2f d).bind (Ail k)) F8)
theorem Aqm:Ax Tryz.prog Aql:=Ay ⟨Et,p8,Aci,Ale,trivial⟩
theorem A2g {R:Type}:A4 Tryz.prog R 26 0 Ou Avi Aik:=
 Cj (cfg:=⟨Aql,0,26,Ou⟩) 6 [] (fun NX X d=>(u4 (Ab Ae)) (Oe  NX X) d) (fun m d=>(u4 (Ab Ae)) (D7 m) d) (fun d=>(u4 (Ab Ae)) Kj d) Ail Aqm trivial (fun f NX d=>by simp only [u4,Ab,Ae]; unfold Oe; simp only [nb])
theorem Aqn:Bm Tryz.prog 97 Ad4:=
 Aw (pat:=Ou) [Aik] Avi Aqm ⟨A2g,trivial⟩ Tryz.func97 (de:=fun x=>Ad5 x.1 x.2.1) (fun x r h=>(A7r x.1 x.2.1).trans h) fun _=>by kernel_rfl
def Hf (r:Rt):Bool:=P3 r
def Aqo:E5:=⟨[.rd yRt],[some 4],[.rd .bool],[none]⟩
def Nu:SD:=⟨Aqo,fun x=>some (((Hf x.1),()),(()))⟩
def Si (a0:Rt):Option ((((Bool)×Unit)×(Unit))):=
 bif Bs a0.2.1 0 1 then some ((Bs a0.2.2.1 1 999999000,()),()) else some ((false,()),())
theorem Aqp (a0:Rt):Si a0=some (((Hf a0),()),(())):=by
 unfold Si Hf P3
 show (bif Fg a0.2.1 0 1 then _ else _)=_
 cases Fg a0.2.1 0 1<;>rfl
theorem Sj:Bm Tryz.prog 137 Nu:=
 Aw (pat:=Co) [] F8 (Ay (l:=[(56,D4)]) ⟨Et,trivial⟩) trivial Tryz.func137 (de:=fun x=>Si x.1) (fun x r h=>(Aqp x.1).trans h) fun _=>by kernel_rfl
def Nv (s:Ls):Bool:=Mr s
def Ank:E5:=⟨[.rd Il],[some 10],[.rd .bool],[none]⟩
def Zv:SD:=⟨Ank,fun x=>some (((Nv x.1),()),(()))⟩
def Qk (a0:Ls):Option ((((Bool)×Unit)×(Unit))):=
 bif decide (Bt a0.2.1 > 0) then bif Bs a0.1 1 8 then bif Bs a0.2.2.1 1 60000 then bif Bs a0.2.2.2.1.1 0 1000000000 then bif Hf a0.2.2.2.1 then bif Bs a0.2.2.2.1.2.2.2.1 0 60000 then bif Bs a0.2.2.2.2.1 0 (Bt a0.2.1) then bif Bs a0.2.2.2.2.2.1 0 a0.2.2.2.2.1 then bif E2 a0.2.2.2.2.2.2.1 then some ((decide (Q1 a0.2.2.2.2.2.2.1 a0.1≤IntKind.i64.wrap (Bt a0.2.1 - 1)),()),()) else some ((false,()),()) else some ((false,()),()) else some ((false,()),()) else some ((false,()),()) else some ((false,()),()) else some ((false,()),()) else some ((false,()),()) else some ((false,()),()) else some ((false,()),())
theorem Anl (a0:Ls):Qk a0=some (((Nv a0),()),(())):=by
 unfold Qk Nv Mr
 simp only [Bt,Bs,Hf,E2,Q1,gt_iff_lt,i6,Bjd]
theorem Anm:Bm Tryz.prog 88 Zv:=
 Aw (pat:=Co) [] F8 (Ay (l:=[(56,D4),(90,Hc),(91,Od),(97,Ad4),(137,Nu)]) ⟨Et,Mv,Sb,Aqn,Sj,trivial⟩) trivial Tryz.func88 (de:=fun x=>Qk x.1) (fun x r h=>(Anl x.1).trans h) fun _=>by kernel_rfl
def Of (s:Ls):Bool:=Xj s
def Axe:E5:=⟨[.rd Il],[some 10],[.rd .bool],[none]⟩
def Afi:SD:=⟨Axe,fun x=>some (((Of x.1),()),(()))⟩
def V8 (a0:Ls):Option ((((Bool)×Unit)×(Unit))):=
 bif a0.1==0 then bif a0.2.1==0 then bif a0.2.2.1==0 then bif a0.2.2.2.1.1==0&&(a0.2.2.2.1.2.1==0&&(a0.2.2.2.1.2.2.1==0&&(a0.2.2.2.1.2.2.2.1==0&&true))) then bif a0.2.2.2.2.1==0 then bif a0.2.2.2.2.2.1==0 then some ((nI (List.length a0.2.2.2.2.2.2.1.1)==0,()),()) else some ((false,()),()) else some ((false,()),()) else some ((false,()),()) else some ((false,()),()) else some ((false,()),()) else some ((false,()),())
theorem Axf (a0:Ls):V8 a0=some (((Of a0),()),(())):=by
 unfold V8 Of Xj
 simp only [Bjd,Bool.and_true]
theorem Axg:Bm Tryz.prog 89 Afi:=
 Aw (pat:=Co) [] F8 (Ay (l:=[]) trivial) trivial Tryz.func89 (de:=fun x=>V8 x.1) (fun x r h=>(Axf x.1).trans h) fun _=>by kernel_rfl
def Nw (w:S4):Bool:=In w
def Ann:E5:=⟨[.rd Xf],[some 16],[.rd .bool],[none]⟩
def Zw:SD:=⟨Ann,fun x=>some (((Nw x.1),()),(()))⟩
def Ql:Tb:=tb [(56,D4),(87,Li),(88,Zv),(89,Afi),(90,Hc)]
def B9:Nat→Da×(Nat→Da):=Gs [(7,⟨[.sl 68 0 B6,.boxSl 1 1 .str,.boxSl 1 2 Fb,.boxSl 1 13 Aq,.boxSl 1 14 B6,.boxSl 1 15 .str],[(1,.lf (.ptr 0 0)),(68,.lf (.d (.sl B6))),(69,.lf (.d tI)),(70,.lf (.d tI))],[.box 50 [.d Xf]]⟩,[(2,⟨[.boxSl 1 1 .str,.boxSl 1 2 Fb,.boxSl 1 13 Aq,.boxSl 1 14 B6,.boxSl 1 15 .str],[(1,.lf (.ptr 0 0))],[.box 50 [.d Xf]]⟩),(1,⟨[],[(2,.lf (.d .bool))],[]⟩)]),(13,⟨[.sl 79 0 .str],[(79,.lf (.d (.sl .str))),(80,.lf (.d tI)),(81,.lf (.d tI))],[]⟩,[(4,p0),(1,⟨[],[(2,.lf (.d .bool))],[]⟩)])]
def Vd:Code:=(At (Bc Tryz.f32)).getD 0 .skip
def Ta:Code:=(At (Bc Tryz.f32)).getD 1 .skip
def Bv (v79:List Aa) (v80 v81:Int):Nat:=(v80 - v81).toNat + 1
def G1 {R:Type}  (NX:((List Aa)×(Int)×(Int)×Unit)→Option R) (X4:(Unit)→Option R) (X1:((Bool)×Unit)→Option R) (v79:List Aa) (v80:Int) (v81:Int):Option R:=
 bif decide (v81 < v80) then bif decide (0≤v81) then bif decide (v81 < nI v79.length) then bif nI (ByteArray.size (v79.getD v81.toNat (Ac))) != 64 then X1 (false,()) else NX (v79,v80,IntKind.i64.wrap (v81 + 1),()) else none else none else X4 PUnit.unit
def A9:Nat→(List Aa)→(Int)→(Int) →  Option ((Unit) ⊕ ((Bool)×Unit))
 | 0,_,_,_=>none
 | m + 1,v79,v80,v81=>G1  (fun d=>A9 m d.1 d.2.1 d.2.2.1) (fun d=>some (.inl (d))) (fun d=>some (.inr (d))) v79 v80 v81
def Af1 (d:(List Aa)×(Int)×(Int)×Unit):Option ((Unit) ⊕ ((Bool)×Unit)):=(Ab (Ab (Ab Ae))) (A9 ((Ab (Ab (Ab Ae))) Bv d)) d
def C3 (v68:List Dh) (v69 v70:Int) (b0:S4):Nat:=(v69 - v70).toNat + 1
def H5 {R:Type}  (NX:((List Dh)×(Int)×(Int)×S4×Unit)→Option R) (X2:(S4×Unit)→Option R) (X1:((Bool)×Unit)→Option R) (v68:List Dh) (v69:Int) (v70:Int) (b0:S4):Option R:=
 bif decide (v70 < v69) then bif decide (0≤v70) then bif decide (v70 < nI v68.length) then bif !E2 (v68.getD v70.toNat ([],())) then X1 (false,()) else NX (v68,v69,IntKind.i64.wrap (v70 + 1),b0,()) else none else none else X2 (b0,())
def Bj:Nat→(List Dh)→(Int)→(Int)→S4 →  Option ((S4×Unit) ⊕ ((Bool)×Unit))
 | 0,_,_,_,_=>none
 | m + 1,v68,v69,v70,b0=>H5  (fun d=>Bj m d.1 d.2.1 d.2.2.1 d.2.2.2.1) (fun d=>some (.inl (d))) (fun d=>some (.inr (d))) v68 v69 v70 b0
def Aim (d:(List Dh)×(Int)×(Int)×S4×Unit):Option ((S4×Unit) ⊕ ((Bool)×Unit)):=(u4 Ae) (Bj ((u4 Ae) C3 d)) d
def Qm (a0:S4):Option ((((Bool)×Unit)×(Unit))):=
 bif !Bs a0.1 1 8 then some ((false,()),()) else bif !Hb a0.2.1 then some ((false,()),()) else bif !Bs (nI (List.length a0.2.2.2.2.1)) 1 200 then some ((false,()),()) else bif decide (nI (List.length a0.2.2.2.2.2.1) > 2000) then some ((false,()),()) else bif a0.2.2.1 then bif !Nv a0.2.2.2.1 then some ((false,()),()) else bif a0.2.2.2.1.1 != a0.1 then some ((false,()),()) else bif a0.2.2.2.1.2.1 != nI (List.length a0.2.1.1) then some ((false,()),()) else bif !a0.2.2.1 then bif !Of a0.2.2.2.1 then some ((false,()),()) else ((fun d=>Bj (C3 d.1 d.2.1 d.2.2.1 d.2.2.2.1) d.1 d.2.1 d.2.2.1 d.2.2.2.1) (a0.2.2.2.2.1,nI (List.length a0.2.2.2.2.1),0,a0,())).bind fun val=>Bw (fun d=>((fun d=>A9 (Bv d.1 d.2.1 d.2.2.1) d.1 d.2.1 d.2.2.1) (d.1.2.2.2.2.2.1,nI (List.length d.1.2.2.2.2.2.1),0,())).bind fun val=>Bw (fun d=>some ((true,()),())) (fun d=>some (d,())) val) (fun d=>some (d,())) val else ((fun d=>Bj (C3 d.1 d.2.1 d.2.2.1 d.2.2.2.1) d.1 d.2.1 d.2.2.1 d.2.2.2.1) (a0.2.2.2.2.1,nI (List.length a0.2.2.2.2.1),0,a0,())).bind fun val=>Bw (fun d=>((fun d=>A9 (Bv d.1 d.2.1 d.2.2.1) d.1 d.2.1 d.2.2.1) (d.1.2.2.2.2.2.1,nI (List.length d.1.2.2.2.2.2.1),0,())).bind fun val=>Bw (fun d=>some ((true,()),())) (fun d=>some (d,())) val) (fun d=>some (d,())) val else bif !a0.2.2.1 then bif !Of a0.2.2.2.1 then some ((false,()),()) else ((fun d=>Bj (C3 d.1 d.2.1 d.2.2.1 d.2.2.2.1) d.1 d.2.1 d.2.2.1 d.2.2.2.1) (a0.2.2.2.2.1,nI (List.length a0.2.2.2.2.1),0,a0,())).bind fun val=>Bw (fun d=>((fun d=>A9 (Bv d.1 d.2.1 d.2.2.1) d.1 d.2.1 d.2.2.1) (d.1.2.2.2.2.2.1,nI (List.length d.1.2.2.2.2.2.1),0,())).bind fun val=>Bw (fun d=>some ((true,()),())) (fun d=>some (d,())) val) (fun d=>some (d,())) val else ((fun d=>Bj (C3 d.1 d.2.1 d.2.2.1 d.2.2.2.1) d.1 d.2.1 d.2.2.1 d.2.2.2.1) (a0.2.2.2.2.1,nI (List.length a0.2.2.2.2.1),0,a0,())).bind fun val=>Bw (fun d=>((fun d=>A9 (Bv d.1 d.2.1 d.2.2.1) d.1 d.2.1 d.2.2.1) (d.1.2.2.2.2.2.1,nI (List.length d.1.2.2.2.2.2.1),0,())).bind fun val=>Bw (fun d=>some ((true,()),())) (fun d=>some (d,())) val) (fun d=>some (d,())) val
theorem Bcr (xs:List Dh) (h:xs.length≤200) (b0:S4):
  Bj (C3 xs (nI xs.length) 0 b0) xs (nI xs.length) 0 b0=
  some (bif (List.range' 0 xs.length).all (fun i=>Av (xs.getD i zSs)) then .inl (b0,()) else .inr (false,())):=by
 have hL:=L2 (n:=xs.length) (fun i=>Av (xs.getD i zSs)) (g:=fun m i=>Bj m xs (nI xs.length) i b0) (ok:=.inl (b0,())) (bad:=.inr (false,())) (fun m i hi=>by
  show Bj (m + 1) xs (nI xs.length) i b0=_
  simp only [Bj,H5]
  rw [Qv hi,Gt,wI (show i < 4611686018427387904 by omega),Eo]
  show (bif !Av (xs.getD i zSs) then _ else _)=_
  cases Av (xs.getD i zSs)<;>rfl) (fun m=>by
  show Bj (m + 1) xs (nI xs.length) (xs.length:Int) b0=_
  simp only [Bj,H5]
  rw [Jx]
  rfl) (C3 xs (nI xs.length) 0 b0) 0 (by omega) (by simp [C3,nI])
 exact hL
theorem A2h (xs:List Aa) (h:xs.length≤2000):A9 (Bv xs (nI xs.length) 0) xs (nI xs.length) 0=
  some (bif (List.range' 0 xs.length).all (fun i=>decide ((xs.getD i z0).size=64)) then .inl () else .inr (false,())):=by
 have hL:=L2 (n:=xs.length) (fun i=>decide ((xs.getD i z0).size=64)) (g:=fun m i=>A9 m xs (nI xs.length) i) (ok:=.inl ()) (bad:=.inr (false,())) (fun m i hi=>by
  show A9 (m + 1) xs (nI xs.length) i=_
  simp only [A9,G1]
  have e:(nI (ByteArray.size (List.getD xs i (Ac))) != 64)=!decide ((xs.getD i z0).size=64):=Be7 (xs.getD i z0).size 64
  rw [Qv hi,Gt,wI (show i < 4611686018427387904 by omega),Eo,e]
  cases decide ((xs.getD i z0).size=64)<;>rfl) (fun m=>by
  show A9 (m + 1) xs (nI xs.length) (xs.length:Int)=_
  simp only [A9,G1]
  rw [Jx]
  rfl) (Bv xs (nI xs.length) 0) 0 (by omega) (by simp [Bv,nI])
 exact hL
theorem Ano (a0:S4):Qm a0=some (((Nw a0),()),(())):=by
 unfold Qm Nw In
 show (bif !Fg a0.1 1 8 then _ else bif !B1 a0.2.1 then _ else bif !Fg (nI a0.2.2.2.2.1.length) 1 200 then _ else _)=_
 cases Fg a0.1 1 8 with
 | false=>rfl
 | true=>
  cases B1 a0.2.1 with
  | false=>rfl
  | true=>
   cases hp:Fg (nI a0.2.2.2.2.1.length) 1 200 with
   | false=>rfl
   | true=>
    have hpl:a0.2.2.2.2.1.length≤200:=by have:=(Iu hp).2; simp only [nI] at this; omega
    have e1:decide (nI a0.2.2.2.2.2.1.length > 2000)=!decide (a0.2.2.2.2.2.1.length≤2000):=Agx _ 2000
    rw [e1]
    cases hw:decide (a0.2.2.2.2.2.1.length≤2000) with
    | false=>rfl
    | true=>
     have hwl:=F0 hw
     simp only [Bool.not_true,Bool.true_and,cond_false]
     have key:∀ b:Bool,(bif b then (bif Yc a0 then (bif L4 a0 then some ((true,()),()) else some ((false,()),())) else some ((false,()),())) else some ((false,()),()))=(some ((b&&(Yc a0&&L4 a0),()),()):Option ((Bool×Unit)×Unit)):=fun b=>by
      cases b<;>cases Yc a0<;>cases L4 a0<;>rfl
     rw [← key]
     simp only [Bcr _ hpl,Option.bind_some]
     show _=(bif Aa8 a0 then (bif Yc a0 then (bif L4 a0 then _ else _) else _) else _)
     unfold Aa8
     have hP:Yc a0=(List.range' 0 a0.2.2.2.2.1.length).all (fun i=>Av (a0.2.2.2.2.1.getD i zSs)):=rfl
     have hW:L4 a0=(List.range' 0 a0.2.2.2.2.2.1.length).all (fun i=>decide ((a0.2.2.2.2.2.1.getD i z0).size=64)):=rfl
     rw [hP,hW]
     cases hu:a0.2.2.1 with
     | true=>
      simp only [cond_true,Bool.not_true,cond_false]
      show (bif !Mr a0.2.2.2.1 then _ else _)=_
      have w1:(a0.2.2.2.1.1 != a0.1)=!(a0.2.2.2.1.1==a0.1):=rfl
      have w2:(a0.2.2.2.1.2.1 != nI a0.2.1.1.length)=!(a0.2.2.2.1.2.1==nI a0.2.1.1.length):=rfl
      rw [w1,w2]
      cases Mr a0.2.2.2.1 with
      | false=>rfl
      | true=>
       cases (a0.2.2.2.1.1==a0.1) with
       | false=>rfl
       | true=>
        cases (a0.2.2.2.1.2.1==nI a0.2.1.1.length) with
        | false=>rfl
        | true=>
         cases (List.range' 0 a0.2.2.2.2.1.length).all (fun i=>Av (a0.2.2.2.2.1.getD i zSs)) with
         | false=>rfl
         | true=>
          show (A9 (Bv a0.2.2.2.2.2.1 (nI a0.2.2.2.2.2.1.length) 0) a0.2.2.2.2.2.1 (nI a0.2.2.2.2.2.1.length) 0).bind _=_
          rw [A2h _ hwl]
          cases (List.range' 0 a0.2.2.2.2.2.1.length).all (fun i=>decide ((a0.2.2.2.2.2.1.getD i z0).size=64))<;>rfl
     | false=>
      simp only [cond_true,Bool.not_false,cond_false]
      show (bif !Xj a0.2.2.2.1 then _ else _)=_
      cases Xj a0.2.2.2.1 with
      | false=>rfl
      | true=>
       cases (List.range' 0 a0.2.2.2.2.1.length).all (fun i=>Av (a0.2.2.2.2.1.getD i zSs)) with
       | false=>rfl
       | true=>
        show (A9 (Bv a0.2.2.2.2.2.1 (nI a0.2.2.2.2.2.1.length) 0) a0.2.2.2.2.2.1 (nI a0.2.2.2.2.2.1.length) 0).bind _=_
        rw [A2h _ hwl]
        cases (List.range' 0 a0.2.2.2.2.2.1.length).all (fun i=>decide ((a0.2.2.2.2.2.1.getD i z0).size=64))<;>rfl
def Ve {R:Type} (k:Kt R):=(Bw (Ko (B9 7) (.exit 0) 2 k) (Ko (B9 7) .ret 1 k))
def Tc {R:Type} (k:Kt R):=(Bw (Ko (B9 13) (.exit 2) 4 k) (Ko (B9 13) .ret 1 k))
def Sk {R:Type}:Lt R B9:=(E3 (pat:=B9) 7 (fun d k=>(Aim d).bind (Ve k)) (E3 (pat:=B9) 13 (fun d k=>(Af1 d).bind (Tc k)) F8))
theorem Qn:Ax Tryz.prog Ql:=Ay ⟨Et,Nt,Anm,Axg,Mv,trivial⟩
theorem Af2 {R:Type}:A4 Tryz.prog R 89 0 B9 Sk Ta:=
 Cj (cfg:=⟨Ql,0,89,B9⟩) 13 [] (fun NX X d=>(Ab (Ab (Ab Ae))) (G1  NX (fun e=>X (.inl (e))) (fun e=>X (.inr (e)))) d) (fun m d=>(Ab (Ab (Ab Ae))) (A9 m) d) (fun d=>(Ab (Ab (Ab Ae))) Bv d) Tc Qn trivial (fun f NX d=>by simp only [u4,Ab,Ae]; unfold G1; simp only [nb])
theorem Ain {R:Type}:A4 Tryz.prog R 89 0 B9 Sk Vd:=
 Cj (cfg:=⟨Ql,0,89,B9⟩) 7 [] (fun NX X d=>(u4 Ae) (H5  NX (fun e=>X (.inl (e))) (fun e=>X (.inr (e)))) d) (fun m d=>(u4 Ae) (Bj m) d) (fun d=>(u4 Ae) C3 d) Ve Qn trivial (fun f NX d=>by simp only [u4,Ab,Ae]; unfold H5; simp only [nb])
theorem Anp:Bm Tryz.prog 32 Zw:=
 Aw (pat:=B9) [Vd,Ta] Sk Qn ⟨Ain,Af2,trivial⟩ Tryz.func32 (de:=fun x=>Qm x.1) (fun x r h=>(Ano x.1).trans h) fun _=>by kernel_rfl
def Ov (p:Pg) (w:Int):Bool:=Mq p w
def Aqq:E5:=⟨[.rd yPg,.rd tI],[some 4,none],[.rd .bool],[none]⟩
def p9:SD:=⟨Aqq,fun x=>some (((Ov x.1 x.2.1),()),(()))⟩
def Sm (a0:Pg) (a1:Int):Option ((((Bool)×Unit)×(Unit))):=
 bif Bs a1 1 8 then bif Bs a0.1 1 4 then bif Bs a0.2.1 1 60000 then bif Bs a0.2.2.1 1 1000000000 then bif decide (nI (ByteArray.size a0.2.2.2.1)≤IntKind.i64.wrap (IntKind.i64.wrap (64 - a1) - 8)) then bif a0.1 != 3 then some ((true,()),()) else some ((ByteArray.toList a0.2.2.2.1==(Ac).toList,()),()) else some ((false,()),()) else some ((false,()),()) else some ((false,()),()) else some ((false,()),()) else some ((false,()),())
theorem Aqr (a0:Pg) (a1:Int):Sm a0 a1=some (((Ov a0 a1),()),(())):=by
 unfold Sm Ov Mq
 have tl:ByteArray.toList (Ac)=[]:=by decide +kernel
 rw [tl]
 show (bif Fg a1 1 8 then (bif Fg a0.1 1 4 then (bif Fg a0.2.1 1 60000 then (bif Fg a0.2.2.1 1 1000000000 then _ else _) else _) else _) else _)=_
 cases hw:Fg a1 1 8 with
 | false=>rfl
 | true=>
  have k1:=F0 (C6 hw).1
  have k2:=F0 (C6 hw).2
  rw [Aj (n:=64 - a1) (by omega) (by omega),Aj (by omega) (by omega),show 64 - a1 - 8=56 - a1 by omega]
  cases Fg a0.1 1 4<;>cases Fg a0.2.1 1 60000<;>cases Fg a0.2.2.1 1 1000000000<;>try rfl
  show (bif decide ((ByteArray.size a0.2.2.2.1:Int)≤56 - a1) then _ else _)=_
  cases decide ((ByteArray.size a0.2.2.2.1:Int)≤56 - a1)<;>cases (a0.1 != 3)<;>rfl
theorem Aqs:Bm Tryz.prog 147 p9:=
 Aw (pat:=Co) [] F8 (Ay (l:=[(56,D4),(157,Sh)]) ⟨Et,Xl,trivial⟩) trivial Tryz.func147 (de:=fun x=>Sm x.1 x.2.1) (fun x r h=>(Aqr x.1 x.2.1).trans h) fun _=>by kernel_rfl
def Aqt:E5:=⟨[.rd .str,.rd (.int .i64)],[none,none],[.rd .str],[none]⟩
def Sn:SD:=⟨Aqt,fun x=>(Amc x.1 x.2.1).bind fun r=>some ((r,()),())⟩
theorem Aqu:M3 Tryz.prog 149∧Af9 Tryz.prog 149 Sn.sg Sn.den:=⟨⟨_,Tryz.func149,by kernel_rfl,by kernel_rfl⟩,Bhs⟩
def Ub (s:Aa) (w:Int):Option Aa:=if s.size < 4611686018427387904 then some (Ao2 s w) else none
def Pk (v0:Aa) (v1 v5 v6:Int):Nat:=(nI v0.size - v6).toNat + 1
def Bal:E5:=⟨[.rd .str,.rd tI],[none,none],[.rd .str],[none]⟩
def Avj:SD:=⟨Bal,fun x=>(Ub x.1 x.2.1).bind fun r=>some ((r,()),(()))⟩
def Avk:Tb:=tb [(56,D4),(148,T7)]
def Q2:Nat→Da×(Nat→Da):=Gs [(6,⟨[],[(0,.lf (.d .str)),(1,.lf (.d tI)),(5,.lf (.d (.int .u64))),(6,.lf (.d tI))],[]⟩,[(2,⟨[],[(1,.lf (.d tI)),(5,.lf (.d (.int .u64)))],[]⟩)])]
def Alf:Code:=(At (Bc Tryz.f150)).getD 0 .skip
def Pl {R:Type}  (NX:((Aa)×(Int)×(Int)×(Int)×Unit)→Option R) (X2:((Int)×(Int)×Unit)→Option R) (v0:Aa) (v1:Int) (v5:Int) (v6:Int):Option R:=
 bif decide (v6 < nI v0.size) then bif decide (0≤v6) then bif decide (v6 < nI v0.size) then NX (v0,v1,IntKind.u64.wrap (IntKind.u64.wrap (nI (BitVec.ofInt 64 v5 ^^^ BitVec.ofInt 64 (IntKind.u64.wrap (Am v0 v6))).toNat) * 1099511628211),IntKind.i64.wrap (v6 + 1),()) else none else none else X2 (v1,v5,())
def Ho:Nat→(Aa)→(Int)→(Int)→(Int) →  Option ((Int)×(Int)×Unit)
 | 0,_,_,_,_=>none
 | m + 1,v0,v1,v5,v6=>Pl  (fun d=>Ho m d.1 d.2.1 d.2.2.1 d.2.2.2.1) (fun d=>some (d)) v0 v1 v5 v6
def A30 (d:(Aa)×(Int)×(Int)×(Int)×Unit):Option ((Int)×(Int)×Unit):=(u4 Ae) (Ho ((u4 Ae) Pk d)) d
def Aio (a0:Aa) (a1:Int):Option ((((Aa)×Unit)×(Unit))):=
 bif !Bs a1 1 8 then some ((Ac,()),()) else ((fun d=>Ho (Pk d.1 d.2.1 d.2.2.1 d.2.2.2.1) d.1 d.2.1 d.2.2.1 d.2.2.2.1) (a0,a1,14695981039346656037,0,())).bind fun val=>bif decide (0≤IntKind.i64.wrap (8 - val.1)) then bif decide (IntKind.i64.wrap (8 - val.1)≤nI (Dy (IntKind.i64.wrap val.2.1) (Int.toNat 8)).size) then some ((Ao (Dy (IntKind.i64.wrap val.2.1) (Int.toNat 8)) (IntKind.i64.wrap (8 - val.1)) (nI (Dy (IntKind.i64.wrap val.2.1) (Int.toNat 8)).size),()),()) else none else none
theorem Bam (a0:Aa) (a1:Int) r (h:Ub a0 a1=some r):Aio a0 a1=some ((r,()),(())):=by
 unfold Ub at h
 split at h
 rotate_left
 ·cases h
 rename_i hsz
 cases h
 unfold Aio Ao2
 generalize hC:(14695981039346656037:Int)=C
 have h0:U64 C:=by rw [← hC]; exact ⟨by decide,by decide⟩
 show (bif !Fg a1 1 8 then _ else _)=_
 cases hw:Fg a1 1 8 with
 | false=>rfl
 | true=>
  have k1:=F0 (C6 hw).1
  have k2:=F0 (C6 hw).2
  ·simp only [Bool.not_true,cond_false,cond_true]
   have hL:=Ajs a0.size (fun _ _=>True) (fun i h=>Agw h (Am a0 i)) (g:=fun m i h=>Ho m a0 a1 h i) (ok:=fun h=>(a1,h,())) (fun m i h hi _=>by
    show Ho (m + 1) a0 a1 h i=_
    simp only [Ho,Pl]
    have c1:(i:Int) < nI a0.size:=by simp only [nI]; omega
    rw [Ap c1,Gt,wI (show i < 4611686018427387904 by omega)]
    rfl) (fun m h _=>by
    show Ho (m + 1) a0 a1 h a0.size=_
    simp only [Ho,Pl]
    rw [Bd (show ¬ ((a0.size:Int) < nI a0.size) by simp only [nI]; omega)]
    rfl) (fun _ _ _ _=>trivial) a0.size (Pk a0 a1 C 0) 0 C (by omega) (by simp only [Pk,nI]; omega) trivial
   rw [show ((0:Nat):Int)=0 from rfl] at hL
   refine d6 hL ?_
   have e1:IntKind.i64.wrap (8 - a1)=8 - a1:=Aj (by omega) (by omega)
   have hh:=Bdu a0 a0.size 0 h0
   have eH:iter (fun i h=>Agw h (Am a0 i)) a0.size 0 C=Ash a0 a0.size 0 C:=rfl
   rw [eH]
   generalize Ash a0 a0.size 0 C=H at hh ⊢
   show (bif decide (0≤IntKind.i64.wrap (8 - a1)) then (bif decide (IntKind.i64.wrap (8 - a1)≤nI (ByteArray.size (Dy (IntKind.i64.wrap H) (Int.toNat 8)))) then some ((Ao (Dy (IntKind.i64.wrap H) (Int.toNat 8)) (IntKind.i64.wrap (8 - a1)) (nI (ByteArray.size (Dy (IntKind.i64.wrap H) (Int.toNat 8)))),()),()) else none) else none)=some ((Dy H a1.toNat,()),())
   rw [e1,Bi9 hh k1 k2,Ap (show 0≤8 - a1 by omega),Ap (show 8 - a1≤nI (ByteArray.size (Dy (IntKind.i64.wrap H) (Int.toNat 8))) by rw [L3]; simp [nI]; omega)]
   rfl
def Alg {R:Type} (k:Kt R):=(Ko (Q2 6) (.exit 0) 2 k)
def A2i {R:Type}:Lt R Q2:=(E3 (pat:=Q2) 6 (fun d k=>(A30 d).bind (Alg k)) F8)
theorem Avl:Ax Tryz.prog Avk:=Ay ⟨Et,Ad3,trivial⟩
theorem A31 {R:Type}:A4 Tryz.prog R 29 0 Q2 A2i Alf:=
 Cj (cfg:=⟨Avk,0,29,Q2⟩) 6 [] (fun NX X d=>(u4 Ae) (Pl  NX X) d) (fun m d=>(u4 Ae) (Ho m) d) (fun d=>(u4 Ae) Pk d) Alg Avl trivial (fun f NX d=>by simp only [u4,Ab,Ae]; unfold Pl; simp only [nb])
theorem Ban:Bm Tryz.prog 150 Avj:=
 Aw (pat:=Q2) [Alf] A2i Avl ⟨A31,trivial⟩ Tryz.func150 (de:=fun x=>Aio x.1 x.2.1) (fun x r h=>A2 (Bam x.1 x.2.1) h) fun _=>by kernel_rfl
def Dd (p:Pg) (w:Int):Aa:=E7 p w
def Att:E5:=⟨[.rd yPg,.rd tI],[some 4,none],[.rd .str],[none]⟩
def Jo:SD:=⟨Att,fun x=>some (((Dd x.1 x.2.1),()),(()))⟩
def Uc (a0:Pg) (a1:Int):Option ((((Aa)×Unit)×(Unit))):=
 bif !Ov a0 a1 then some ((Ac,()),()) else bif decide ((Dy a0.1 (Int.toNat 1)++Dy a0.2.1 (Int.toNat 2)++Dy a0.2.2.1 (Int.toNat 4)++Dy (nI (ByteArray.size a0.2.2.2.1)) (Int.toNat 1)).size + ByteArray.size a0.2.2.2.1≤9223372036854775807) then ((Amc (ByteArray.mk #[0]) (IntKind.i64.wrap (IntKind.i64.wrap (64 - a1) - nI (Dy a0.1 (Int.toNat 1)++Dy a0.2.1 (Int.toNat 2)++Dy a0.2.2.1 (Int.toNat 4)++Dy (nI (ByteArray.size a0.2.2.2.1)) (Int.toNat 1)++a0.2.2.2.1).size))).bind fun val=>some ((val,()),())).bind fun val=>bif decide ((Dy a0.1 (Int.toNat 1)++Dy a0.2.1 (Int.toNat 2)++Dy a0.2.2.1 (Int.toNat 4)++Dy (nI (ByteArray.size a0.2.2.2.1)) (Int.toNat 1)++a0.2.2.2.1).size + ByteArray.size val.1.1≤9223372036854775807) then ((Ub (Dy a0.1 (Int.toNat 1)++Dy a0.2.1 (Int.toNat 2)++Dy a0.2.2.1 (Int.toNat 4)++Dy (nI (ByteArray.size a0.2.2.2.1)) (Int.toNat 1)++a0.2.2.2.1++val.1.1) a1).bind fun val=>some ((val,()),())).bind fun val_1=>bif decide (ByteArray.size val_1.1.1 + (Dy a0.1 (Int.toNat 1)++Dy a0.2.1 (Int.toNat 2)++Dy a0.2.2.1 (Int.toNat 4)++Dy (nI (ByteArray.size a0.2.2.2.1)) (Int.toNat 1)++a0.2.2.2.1++val.1.1).size≤9223372036854775807) then some ((val_1.1.1++(Dy a0.1 (Int.toNat 1)++Dy a0.2.1 (Int.toNat 2)++Dy a0.2.2.1 (Int.toNat 4)++Dy (nI (ByteArray.size a0.2.2.2.1)) (Int.toNat 1)++a0.2.2.2.1++val.1.1),()),()) else none else none else none
theorem Atu (a0:Pg) (a1:Int):Uc a0 a1=some (((Dd a0 a1),()),(())):=by
 unfold Uc Dd E7
 show (bif !Mq a0 a1 then _ else _)=_
 cases hp:Mq a0 a1 with
 | false=>rfl
 | true=>
  obtain ⟨hw,k1,k2,kp⟩:=X7 hp
  simp only [Bool.not_true,cond_false,cond_true]
  have hb:Ia a0 a1=Dy a0.1 1++Dy a0.2.1 2++Dy a0.2.2.1 4++Dy (nI a0.2.2.2.1.size) 1++a0.2.2.2.1++strOfNums (List.replicate (56 - a1 - a0.2.2.2.1.size).toNat 0):=rfl
  have hs4:(Dy a0.1 1++Dy a0.2.1 2++Dy a0.2.2.1 4++Dy (nI a0.2.2.2.1.size) 1).size=8:=by simp only [ByteArray.size_append,L3]
  have hs5:(Dy a0.1 1++Dy a0.2.1 2++Dy a0.2.2.1 4++Dy (nI a0.2.2.2.1.size) 1++a0.2.2.2.1).size=8 + a0.2.2.2.1.size:=by rw [ByteArray.size_append,hs4]
  show (bif decide ((Dy a0.1 1++Dy a0.2.1 2++Dy a0.2.2.1 4++Dy (nI a0.2.2.2.1.size) 1).size + a0.2.2.2.1.size≤9223372036854775807) then Option.bind (Option.bind (Amc (ByteArray.mk #[0]) (IntKind.i64.wrap (IntKind.i64.wrap (64 - a1) - nI (Dy a0.1 1++Dy a0.2.1 2++Dy a0.2.2.1 4++Dy (nI a0.2.2.2.1.size) 1++a0.2.2.2.1).size))) _) _ else none)=_
  generalize hB:Dy a0.1 1++Dy a0.2.1 2++Dy a0.2.2.1 4++Dy (nI a0.2.2.2.1.size) 1++a0.2.2.2.1=B at *
  rw [hs4,Ap (by omega),Aj (n:=64 - a1) (by omega) (by omega),hs5,Aj (by simp only [nI]; omega) (by simp only [nI]; omega)]
  have hr:Amc (ByteArray.mk #[0]) (64 - a1 - nI (8 + a0.2.2.2.1.size))=some (strOfNums (List.replicate (56 - a1 - a0.2.2.2.1.size).toNat 0)):=by
   have:=Blw (56 - a1 - a0.2.2.2.1.size).toNat (by omega)
   rw [show ((56 - a1 - a0.2.2.2.1.size).toNat:Int)=64 - a1 - nI (8 + a0.2.2.2.1.size) by simp only [nI]; omega] at this
   exact this
  have hz:(strOfNums (List.replicate (56 - a1 - a0.2.2.2.1.size).toNat 0)).size=(56 - a1 - a0.2.2.2.1.size).toNat:=by rw [Gb,List.length_replicate]
  generalize strOfNums (List.replicate (56 - a1 - a0.2.2.2.1.size).toNat 0)=Z at *
  refine d6 (d6 hr rfl) ?_
  have hbs:(Ia a0 a1).size≤64:=by rw [hb,ByteArray.size_append,hs5,hz]; omega
  dsimp only
  have hB':Dy a0.1 (Int.toNat 1)++Dy a0.2.1 (Int.toNat 2)++Dy a0.2.2.1 (Int.toNat 4)++Dy (nI a0.2.2.2.1.size) (Int.toNat 1)++a0.2.2.2.1=B:=hB
  rw [hB']
  show (bif decide (ByteArray.size B + ByteArray.size Z≤9223372036854775807) then Option.bind (Option.bind (Ub (B++Z) a1) _) _ else none)=_
  have hm:Ub (B++Z) a1=some (Ao2 (Ia a0 a1) a1):=by
   rw [← hb]
   exact if_pos (by omega)
  rw [hs5,hz,Ap (by omega)]
  refine d6 (d6 hm rfl) ?_
  show (bif decide (ByteArray.size (Ao2 (Ia a0 a1) a1) + ByteArray.size (B++Z)≤9223372036854775807) then some ((Ao2 (Ia a0 a1) a1++(B++Z),()),()) else none)=_
  rw [← hb,Aa7 hw,Ap (by omega)]
  rfl
theorem Mg:Bm Tryz.prog 98 Jo:=
 Aw (pat:=Co) [] F8 (Ay (l:=[(147,p9),(148,T7),(149,Sn),(150,Avj)]) ⟨Aqs,Ad3,Aqu,Ban,trivial⟩) trivial Tryz.func98 (de:=fun x=>Uc x.1 x.2.1) (fun x r h=>(Atu x.1 x.2.1).trans h) fun _=>by kernel_rfl
def My (s:Aa):Option Int:=if s.size≤7 then some (Agv s) else none
def Pm (v0:Aa) (v3 v4:Int):Nat:=(nI v0.size - v4).toNat + 1
def Bao:E5:=⟨[.rd .str],[none],[.rd tI],[none]⟩
def Aip:SD:=⟨Bao,fun x=>(My x.1).bind fun r=>some ((r,()),(()))⟩
def Avm:Tb:=tb []
def Q3:Nat→Da×(Nat→Da):=Gs [(4,⟨[],[(0,.lf (.d .str)),(3,.lf (.d tI)),(4,.lf (.d tI))],[]⟩,[(2,⟨[],[(3,.lf (.d tI))],[]⟩)])]
def Alh:Code:=(At (Bc Tryz.f141)).getD 0 .skip
def Pn {R:Type}  (NX:((Aa)×(Int)×(Int)×Unit)→Option R) (X2:((Int)×Unit)→Option R) (v0:Aa) (v3:Int) (v4:Int):Option R:=
 bif decide (v4 < nI v0.size) then bif decide (0≤v4) then bif decide (v4 < nI v0.size) then NX (v0,IntKind.i64.wrap (nI (BitVec.ofInt 64 (IntKind.i64.wrap (v3 * 2 ^ min (Int.toNat 8) 64)) ||| BitVec.ofInt 64 (IntKind.i64.wrap (Am v0 v4))).toNat),IntKind.i64.wrap (v4 + 1),()) else none else none else X2 (v3,())
def Lo:Nat→(Aa)→(Int)→(Int) →  Option ((Int)×Unit)
 | 0,_,_,_=>none
 | m + 1,v0,v3,v4=>Pn  (fun d=>Lo m d.1 d.2.1 d.2.2.1) (fun d=>some (d)) v0 v3 v4
def A32 (d:(Aa)×(Int)×(Int)×Unit):Option ((Int)×Unit):=(Ab (Ab (Ab Ae))) (Lo ((Ab (Ab (Ab Ae))) Pm d)) d
def Aiq (a0:Aa):Option ((((Int)×Unit)×(Unit))):=
 ((fun d=>Lo (Pm d.1 d.2.1 d.2.2.1) d.1 d.2.1 d.2.2.1) (a0,0,0,())).bind fun val=>some (val,())
theorem Bap (s:Aa) (hs:s.size≤7):∀ (k m i:Nat) (v:Int),i + k=s.size→k < m→0≤v→v < 256 ^ i→Lo m s v i=some (A9c s k i v,())
 | 0,m + 1,i,v,hi,hm,h0,h1=>by
  simp only [Lo,Pn]
  rw [Bd (show ¬ ((i:Int) < nI s.size) by simp only [nI]; omega)]
  rfl
 | k + 1,m + 1,i,v,hi,hm,h0,h1=>by
  obtain ⟨hb,hs',e⟩:=Bi7 s i hi (by omega) h0 h1
  simp only [Lo,Pn]
  have c1:(i:Int) < nI s.size:=by simp only [nI]; omega
  rw [Ap c1,Ap (show (0:Int)≤(i:Int) by omega),wI (show i < 4611686018427387904 by omega),e]
  exact Bap s hs k m (i + 1) _ (by omega) (by omega) hb hs'
theorem Baq (a0:Aa) r (h:My a0=some r):Aiq a0=some ((r,()),(())):=by
 unfold My at h
 split at h
 ·rename_i hc
  cases h
  unfold Aiq
  have hL:=Bap a0 hc a0.size (Pm a0 0 0) 0 0 (by omega) (by simp only [Pm,nI]; omega) (by omega) (by decide)
  exact d6 hL rfl
 ·cases h
def Ali {R:Type} (k:Kt R):=(Ko (Q3 4) (.exit 0) 2 k)
def A2j {R:Type}:Lt R Q3:=(E3 (pat:=Q3) 4 (fun d k=>(A32 d).bind (Ali k)) F8)
theorem Avn:Ax Tryz.prog Avm:=Ay trivial
theorem A33 {R:Type}:A4 Tryz.prog R 19 0 Q3 A2j Alh:=
 Cj (cfg:=⟨Avm,0,19,Q3⟩) 4 [] (fun NX X d=>(Ab (Ab (Ab Ae))) (Pn  NX X) d) (fun m d=>(Ab (Ab (Ab Ae))) (Lo m) d) (fun d=>(Ab (Ab (Ab Ae))) Pm d) Ali Avn trivial (fun f NX d=>by simp only [u4,Ab,Ae]; unfold Pn; simp only [nb])
theorem Avo:Bm Tryz.prog 141 Aip:=
 Aw (pat:=Q3) [Alh] A2j Avn ⟨A33,trivial⟩ Tryz.func141 (de:=fun x=>Aiq x.1) (fun x r h=>A2 (Baq x.1) h) fun _=>by kernel_rfl
def Af (s:Aa) (w:Int):Pg×Bool:=Dq s w
def Atv:E5:=⟨[.rd .str,.rd tI],[none,none],[.rd yPg,.rd .bool],[some 4,none]⟩
def Ud:SD:=⟨Atv,fun x=>some (((Af x.1 x.2.1).1,(Af x.1 x.2.1).2,()),(()))⟩
def Ue (a0:Aa) (a1:Int):Option (((Pg×(Bool)×Unit)×(Unit))):=
 bif nI a0.size != 64 then some (((0,0,0,Ac,()),false,()),()) else bif !Bs a1 1 8 then some (((0,0,0,Ac,()),false,()),()) else bif decide (0≤a1) then bif decide (a1≤nI a0.size) then bif decide (7 < nI (Ao a0 a1 (nI a0.size)).size) then bif decide (IntKind.i64.wrap (Am (Ao a0 a1 (nI a0.size)) 7) > IntKind.i64.wrap (IntKind.i64.wrap (64 - a1) - 8)) then some (((0,0,0,Ac,()),false,()),()) else bif decide (0 < nI (Ao a0 a1 (nI a0.size)).size) then bif decide (3≤nI (Ao a0 a1 (nI a0.size)).size) then ((My (Ao (Ao a0 a1 (nI a0.size)) 1 3)).bind fun val=>some ((val,()),())).bind fun val=>bif decide (7≤nI (Ao a0 a1 (nI a0.size)).size) then ((My (Ao (Ao a0 a1 (nI a0.size)) 3 7)).bind fun val=>some ((val,()),())).bind fun val_1=>bif decide (8≤IntKind.i64.wrap (8 + IntKind.i64.wrap (Am (Ao a0 a1 (nI a0.size)) 7))) then bif decide (IntKind.i64.wrap (8 + IntKind.i64.wrap (Am (Ao a0 a1 (nI a0.size)) 7))≤nI (Ao a0 a1 (nI a0.size)).size) then bif !(Dd (IntKind.i64.wrap (Am (Ao a0 a1 (nI a0.size)) 0),val.1.1,val_1.1.1,Ao (Ao a0 a1 (nI a0.size)) 8 (IntKind.i64.wrap (8 + IntKind.i64.wrap (Am (Ao a0 a1 (nI a0.size)) 7))),()) a1).toList==a0.toList then some (((0,0,0,Ac,()),false,()),()) else some (((IntKind.i64.wrap (Am (Ao a0 a1 (nI a0.size)) 0),val.1.1,val_1.1.1,Ao (Ao a0 a1 (nI a0.size)) 8 (IntKind.i64.wrap (8 + IntKind.i64.wrap (Am (Ao a0 a1 (nI a0.size)) 7))),()),true,()),()) else none else none else none else none else none else none else none else none
theorem Atw (a0:Aa) (a1:Int):Ue a0 a1=some (((Af a0 a1).1,(Af a0 a1).2,()),(())):=by
 unfold Ue Af Dq
 show (bif nI a0.size != 64 then _ else (bif !Fg a1 1 8 then _ else _))=_
 cases hz:nI a0.size != 64 with
 | true=>rfl
 | false=>
   cases hw:Fg a1 1 8 with
   | false=>rfl
   | true=>
    have k1:=(Iu hw).1
    have k2:=(Iu hw).2
    have hs:a0.size=64:=by
     by_cases q:nI a0.size=64
     ·simp only [nI] at q; omega
     ·rw [(bne_iff_ne).2 q] at hz; cases hz
    have hb:(Ao a0 a1 (nI a0.size)).size=(64 - a1).toNat:=by rw [G3 (by omega) (by simp only [nI]; omega) (by simp [nI])]; simp only [nI,hs]; omega
    simp only [Bool.not_true,cond_false,cond_true]
    rw [Ap (show (0:Int)≤a1 by omega),Ap (show a1≤nI a0.size by simp only [nI]; omega)]
    unfold Bcc
    generalize Ao a0 a1 (nI a0.size)=b at *
    obtain ⟨b0,b1⟩:=Ib b 7
    obtain ⟨c0,c1⟩:=Ib b 0
    have hB:nI b.size=64 - a1:=by simp only [nI]; omega
    rw [hB,Ap (show (7:Int) < 64 - a1 by omega),Ap (show (0:Int) < 64 - a1 by omega),Ap (show (3:Int)≤64 - a1 by omega),Ap (show (7:Int)≤64 - a1 by omega),Aj (n:=Am b 7) (by omega) (by omega),Aj (n:=Am b 0) (by omega) (by omega),Aj (n:=64 - a1) (by omega) (by omega),Aj (n:=64 - a1 - 8) (by omega) (by omega),Aj (n:=8 + Am b 7) (by omega) (by omega),show 64 - a1 - 8=56 - a1 by omega]
    by_cases q:Am b 7 > 56 - a1
    ·rw [Ap q]; rfl
    ·rw [Bd q]
     have n1:My (Ao b 1 3)=some (Agv (Ao b 1 3)):=if_pos (by rw [G3 (by omega) (by omega) (by omega)]; decide)
     have n2:My (Ao b 3 7)=some (Agv (Ao b 3 7)):=if_pos (by rw [G3 (by omega) (by omega) (by omega)]; decide)
     simp only [n1,n2,Option.bind_some,cond_true,cond_false]
     rw [Ap (show 8≤8 + Am b 7 by omega),Ap (show 8 + Am b 7≤64 - a1 by omega)]
     show (bif !(ByteArray.toList (E7 (Bcb b) a1)==ByteArray.toList a0) then _ else _)=_
     cases (ByteArray.toList (E7 (Bcb b) a1)==ByteArray.toList a0)<;>rfl
theorem Acj:Bm Tryz.prog 139 Ud:=
 Aw (pat:=Co) [] F8 (Ay (l:=[(56,D4),(98,Jo),(141,Aip),(157,Sh)]) ⟨Et,Mg,Avo,Xl,trivial⟩) trivial Tryz.func139 (de:=fun x=>Ue x.1 x.2.1) (fun x r h=>(Atw x.1 x.2.1).trans h) fun _=>by kernel_rfl
def Qo (d:Dk) (a:Int):Option Aa:=if d.2.1.length≤1099511627776∧0≤a∧a < (d.1.length:Int) then some (Xg d a) else none
def Lp (v1 v5:Int) (b0_0:List Aa) (b0_1:List Wr):Nat:=(v5 + 1).toNat + 1
def Bar:E5:=⟨[.rd Uw,.rd tI],[some 2,none],[.rd .str],[none]⟩
def Air:SD:=⟨Bar,fun x=>(Qo x.1 x.2.1).bind fun r=>some ((r,()),(()))⟩
def Avp:Tb:=tb []
def Og:Nat→Da×(Nat→Da):=Gs [(3,⟨[.boxSl 2 0 .str,.boxSl 2 1 Fb],[(1,.lf (.d tI)),(2,.lf (.ptr 0 0)),(5,.lf (.d tI))],[.box 44 [.d (.sl .str),.d (.sl Fb)]]⟩,[(2,⟨[.boxSl 2 0 .str,.boxSl 2 1 Fb],[(1,.lf (.d tI)),(2,.lf (.ptr 0 0))],[.box 44 [.d (.sl .str),.d (.sl Fb)]]⟩),(1,⟨[],[(4,.lf (.d .str))],[]⟩)])]
def Alj:Code:=(At (Bc Tryz.f140)).getD 0 .skip
def Po {R:Type}  (NX:((Int)×(Int)×(List Aa)×(List Wr)×Unit)→Option R) (X2:((Int)×(List Aa)×(List Wr)×Unit)→Option R) (X1:((Aa)×Unit)→Option R) (v1:Int) (v5:Int) (b0_0:List Aa) (b0_1:List Wr):Option R:=
 bif decide (v5≥0) then bif decide (0≤v5) then bif decide (v5 < nI b0_1.length) then bif (b0_1.getD v5.toNat (0,Ac,())).1==v1 then bif decide (0≤v5) then bif decide (v5 < nI b0_1.length) then X1 (b0_1.getD v5.toNat (0,Ac,())).2 else none else none else NX (v1,IntKind.i64.wrap (v5 - 1),b0_0,b0_1,()) else none else none else X2 (v1,b0_0,b0_1,())
def E9:Nat→(Int)→(Int)→(List Aa)→(List Wr) →  Option (((Int)×(List Aa)×(List Wr)×Unit) ⊕ ((Aa)×Unit))
 | 0,_,_,_,_=>none
 | m + 1,v1,v5,b0_0,b0_1=>Po  (fun d=>E9 m d.1 d.2.1 d.2.2.1 d.2.2.2.1) (fun d=>some (.inl (d))) (fun d=>some (.inr (d))) v1 v5 b0_0 b0_1
def A34 (d:(Int)×(Int)×(List Aa)×(List Wr)×Unit):Option (((Int)×(List Aa)×(List Wr)×Unit) ⊕ ((Aa)×Unit)):=(u4 Ae) (E9 ((u4 Ae) Lp d)) d
def Ais (a0:Dk) (a1:Int):Option ((((Aa)×Unit)×(Unit))):=
 ((fun d=>E9 (Lp d.1 d.2.1 d.2.2.1 d.2.2.2.1) d.1 d.2.1 d.2.2.1 d.2.2.2.1) (a1,IntKind.i64.wrap (nI (List.length a0.2.1) - 1),a0)).bind fun val=>Bw (fun d=>bif decide (0≤d.1) then bif decide (d.1 < nI (List.length d.2.1)) then some ((List.getD d.2.1 (Int.toNat d.1) (Ac),()),()) else none else none) (fun d=>some (d,())) val
theorem Bas (a0:Dk) (a1:Int) r (h:Qo a0 a1=some r):Ais a0 a1=some ((r,()),(())):=by
 unfold Qo at h
 split at h
 ·rename_i hc
  obtain ⟨hp,h0,h1⟩:=hc
  cases h
  have hw:IntKind.i64.wrap (nI a0.2.1.length - 1)=(a0.2.1.length:Int) - 1:=Aj (by simp only [nI]; omega) (by simp only [nI]; omega)
  have hL:=A0f (xs:=a0.2.1) zW (fun w=>w.1==a1) (fun w=>.inr (w.2.1,())) (g:=fun m i=>E9 m a1 i a0.1 a0.2.1) (ok:=.inl (a1,a0.1,a0.2.1,())) (fun m i hi=>by
   show E9 (m + 1) a1 i a0.1 a0.2.1=_
   simp only [E9,Po]
   have hi0:(i:Int)≥0:=by omega
   have hw:IntKind.i64.wrap ((i:Int) - 1)=(i:Int) - 1:=Aj (by omega) (by omega)
   rw [Ap hi0,Qv hi,Eo,hw]
   rfl) (fun m=>by
   show E9 (m + 1) a1 (-1) a0.1 a0.2.1=_
   simp only [E9,Po]
   rfl) (Lp a1 ((a0.2.1.length:Int) - 1) a0.1 a0.2.1) a0.2.1.length (by omega) (by simp [Lp])
  have hL':E9 (Lp a1 ((a0.2.1.length:Int) - 1) a0.1 a0.2.1) a1 ((a0.2.1.length:Int) - 1) a0.1 a0.2.1=_:=hL
  unfold Ais
  rw [hw]
  show (E9 (Lp a1 ((a0.2.1.length:Int) - 1) a0.1 a0.2.1) a1 ((a0.2.1.length:Int) - 1) a0.1 a0.2.1).bind _=_
  rw [hL',List.take_length]
  show Bw _ _ _=_
  have hc1:decide (0≤a1)=true:=Ap h0
  have hc2:decide (a1 < nI a0.1.length)=true:=Ap h1
  unfold Xg
  rw [Ame (Bw _ _),Ame (fun r:Aa=>some ((r,()),()))]
  simp only [Bw,hc1,hc2,cond_true]
  rfl
 ·cases h
def Alk {R:Type} (k:Kt R):=(Bw (Ko (Og 3) (.exit 0) 2 k) (Ko (Og 3) .ret 1 k))
def A2k {R:Type}:Lt R Og:=(E3 (pat:=Og) 3 (fun d k=>(A34 d).bind (Alk k)) F8)
theorem Avq:Ax Tryz.prog Avp:=Ay trivial
theorem A35 {R:Type}:A4 Tryz.prog R 33 0 Og A2k Alj:=
 Cj (cfg:=⟨Avp,0,33,Og⟩) 3 [] (fun NX X d=>(u4 Ae) (Po  NX (fun e=>X (.inl (e))) (fun e=>X (.inr (e)))) d) (fun m d=>(u4 Ae) (E9 m) d) (fun d=>(u4 Ae) Lp d) Alk Avq trivial (fun f NX d=>by simp only [u4,Ab,Ae]; unfold Po; simp only [nb])
theorem Avr:Bm Tryz.prog 140 Air:=
 Aw (pat:=Og) [Alj] A2k Avq ⟨A35,trivial⟩ Tryz.func140 (de:=fun x=>Ais x.1 x.2.1) (fun x r h=>A2 (Bas x.1 x.2.1) h) fun _=>by kernel_rfl
def A0 (d:Dk) (w:Int):Rt:=Bg d w
def Qp (v1 v6:Int) (b0_0:List Aa) (b0_1:List Wr) (b1_0 b1_1 b1_2 b1_3 b2_0 b2_1 b2_2 b2_3:Int):Nat:=3
def Atx:E5:=⟨[.rd Uw,.rd tI],[some 2,none],[.rd yRt],[some 4]⟩
def Ack:SD:=⟨Atx,fun x=>some (((A0 x.1 x.2.1),()),(()))⟩
def Acl:Tb:=tb [(56,D4),(87,Li),(137,Nu),(139,Ud),(140,Air),(141,Aip)]
def Jp:Nat→Da×(Nat→Da):=Gs [(6,⟨[.boxSl 2 0 .str,.boxSl 2 1 Fb],[(1,.lf (.d tI)),(2,.lf (.ptr 0 0)),(4,.lf (.ptr 1 0)),(5,.lf (.ptr 2 0)),(6,.lf (.d tI))],[.box 44 [.d (.sl .str),.d (.sl Fb)],.box 45 [.d tI,.d tI,.d tI,.d tI],.box 45 [.d tI,.d tI,.d tI,.d tI]]⟩,[(2,⟨[],[(4,.lf (.ptr 0 0)),(5,.lf (.ptr 1 0))],[.box 45 [.d tI,.d tI,.d tI,.d tI],.box 45 [.d tI,.d tI,.d tI,.d tI]]⟩)])]
def Zx:Code:=(At (Bc Tryz.f92)).getD 0 .skip
def Mz {R:Type}  (NX:((Int)×(Int)×(List Aa)×(List Wr)×(Int)×(Int)×(Int)×(Int)×(Int)×(Int)×(Int)×(Int)×Unit)→Option R) (X2:((Int)×(Int)×(Int)×(Int)×(Int)×(Int)×(Int)×(Int)×Unit)→Option R) (v1:Int) (v6:Int) (b0_0:List Aa) (b0_1:List Wr) (b1_0:Int) (b1_1:Int) (b1_2:Int) (b1_3:Int) (b2_0:Int) (b2_1:Int) (b2_2:Int) (b2_3:Int):Option R:=
 bif decide (v6 < 2) then ((Qo (b0_0,b0_1,()) v6).bind fun val=>some ((val,()),())).bind fun val=>bif !(Af val.1.1 v1).2 then NX (v1,IntKind.i64.wrap (v6 + 1),b0_0,b0_1,b1_0,b1_1,b1_2,b1_3,b2_0,b2_1,b2_2,b2_3,()) else bif (Af val.1.1 v1).1.1 != 4 then NX (v1,IntKind.i64.wrap (v6 + 1),b0_0,b0_1,b1_0,b1_1,b1_2,b1_3,b2_0,b2_1,b2_2,b2_3,()) else bif nI (ByteArray.size (Af val.1.1 v1).1.2.2.2.1) != 5 then NX (v1,IntKind.i64.wrap (v6 + 1),b0_0,b0_1,b1_0,b1_1,b1_2,b1_3,b2_0,b2_1,b2_2,b2_3,()) else bif Int.tmod (Af val.1.1 v1).1.2.2.1 2 != v6 then NX (v1,IntKind.i64.wrap (v6 + 1),b0_0,b0_1,b1_0,b1_1,b1_2,b1_3,b2_0,b2_1,b2_2,b2_3,()) else bif decide (0 < nI (ByteArray.size (Af val.1.1 v1).1.2.2.2.1)) then bif decide (1≤nI (ByteArray.size (Af val.1.1 v1).1.2.2.2.1)) then ((My (Ao (Af val.1.1 v1).1.2.2.2.1 1 (nI (ByteArray.size (Af val.1.1 v1).1.2.2.2.1)))).bind fun val=>some ((val,()),())).bind fun val_1=>bif Hf ((Af val.1.1 v1).1.2.2.1,IntKind.i64.wrap (Am (Af val.1.1 v1).1.2.2.2.1 0),val_1.1.1,(Af val.1.1 v1).1.2.1,()) then bif decide ((Af val.1.1 v1).1.2.2.1 > b2_0) then NX (v1,IntKind.i64.wrap (v6 + 1),b0_0,b0_1,b1_0,b1_1,b1_2,b1_3,(Af val.1.1 v1).1.2.2.1,IntKind.i64.wrap (Am (Af val.1.1 v1).1.2.2.2.1 0),val_1.1.1,(Af val.1.1 v1).1.2.1,()) else NX (v1,IntKind.i64.wrap (v6 + 1),b0_0,b0_1,b1_0,b1_1,b1_2,b1_3,b2_0,b2_1,b2_2,b2_3,()) else NX (v1,IntKind.i64.wrap (v6 + 1),b0_0,b0_1,b1_0,b1_1,b1_2,b1_3,b2_0,b2_1,b2_2,b2_3,()) else none else none else X2 (b1_0,b1_1,b1_2,b1_3,b2_0,b2_1,b2_2,b2_3,())
def Fv:Nat→(Int)→(Int)→(List Aa)→(List Wr)→(Int)→(Int)→(Int)→(Int)→(Int)→(Int)→(Int)→(Int) →  Option ((Int)×(Int)×(Int)×(Int)×(Int)×(Int)×(Int)×(Int)×Unit)
 | 0,_,_,_,_,_,_,_,_,_,_,_,_=>none
 | m + 1,v1,v6,b0_0,b0_1,b1_0,b1_1,b1_2,b1_3,b2_0,b2_1,b2_2,b2_3=>Mz  (fun d=>Fv m d.1 d.2.1 d.2.2.1 d.2.2.2.1 d.2.2.2.2.1 d.2.2.2.2.2.1 d.2.2.2.2.2.2.1 d.2.2.2.2.2.2.2.1 d.2.2.2.2.2.2.2.2.1 d.2.2.2.2.2.2.2.2.2.1 d.2.2.2.2.2.2.2.2.2.2.1 d.2.2.2.2.2.2.2.2.2.2.2.1) (fun d=>some (d)) v1 v6 b0_0 b0_1 b1_0 b1_1 b1_2 b1_3 b2_0 b2_1 b2_2 b2_3
def Anq (d:(Int)×(Int)×(List Aa)×(List Wr)×(Int)×(Int)×(Int)×(Int)×(Int)×(Int)×(Int)×(Int)×Unit):Option ((Int)×(Int)×(Int)×(Int)×(Int)×(Int)×(Int)×(Int)×Unit):=(u4 (u4 (u4 Ae))) (Fv ((u4 (u4 (u4 Ae))) Qp d)) d
def Uf (a0:Dk) (a1:Int):Option (((Rt×Unit)×(Unit))):=
 bif !Hb a0 then some (((0,0,0,0,()),()),()) else bif !Bs a1 1 8 then some (((0,0,0,0,()),()),()) else ((fun d=>Fv (Qp d.1 d.2.1 d.2.2.1 d.2.2.2.1 d.2.2.2.2.1 d.2.2.2.2.2.1 d.2.2.2.2.2.2.1 d.2.2.2.2.2.2.2.1 d.2.2.2.2.2.2.2.2.1 d.2.2.2.2.2.2.2.2.2.1 d.2.2.2.2.2.2.2.2.2.2.1 d.2.2.2.2.2.2.2.2.2.2.2.1) d.1 d.2.1 d.2.2.1 d.2.2.2.1 d.2.2.2.2.1 d.2.2.2.2.2.1 d.2.2.2.2.2.2.1 d.2.2.2.2.2.2.2.1 d.2.2.2.2.2.2.2.2.1 d.2.2.2.2.2.2.2.2.2.1 d.2.2.2.2.2.2.2.2.2.2.1 d.2.2.2.2.2.2.2.2.2.2.2.1) (a1,0,a0.1,a0.2.1,0,0,0,0,0,0,1,0,())).bind fun val=>some ((val.2.2.2.2,()),())
theorem Bat (d:Dk) (hd:P5 d) (w:Int) (i:Nat) (hi:i < 2) (m:Nat) (x1 x2 x3 x4:Int) (b:Rt):
  Fv (m + 1) w i d.1 d.2.1 x1 x2 x3 x4 b.1 b.2.1 b.2.2.1 b.2.2.2.1=Fv m w ((i + 1:Nat):Int) d.1 d.2.1 x1 x2 x3 x4 (Hv (Xg d i) w i b).1 (Hv (Xg d i) w i b).2.1 (Hv (Xg d i) w i b).2.2.1 (Hv (Xg d i) w i b).2.2.2.1:=by
 have n8:=hd.n8
 have p3:=hd.p300
 have hs:Qo (d.1,d.2.1,()) (i:Int)=some (Xg d i):=if_pos ⟨by show d.2.1.length≤_; omega,by omega,by show (i:Int) < (d.1.length:Int); omega⟩
 simp only [Fv,Mz]
 rw [Ap (show (i:Int) < 2 by omega),hs,wI (show i < 4611686018427387904 by omega)]
 simp only [Option.bind_some,cond_true]
 have e:Af (Xg d i) w=Dq (Xg d i) w:=rfl
 rw [e]
 unfold Hv
 have hf:=@Ya (Xg d i) w
 generalize Dq (Xg d i) w=p at *
 obtain ⟨g,o⟩:=p
 cases o
 ·rfl
 ·obtain ⟨_,_,_,hp⟩:=hf rfl
  obtain ⟨_,_,r3,_⟩:=Ag0 hp
  simp only [Bool.not_true,cond_false,Bool.true_and]
  by_cases h4:g.1=4
  ·rw [bne_eq_false_iff_eq.2 h4,show (g.1==4)=true from beq_iff_eq.2 h4]
   by_cases h5:g.2.2.2.1.size=5
   ·have n1:My (Ao g.2.2.2.1 1 (nI g.2.2.2.1.size))=some (Agv (Ao g.2.2.2.1 1 (nI g.2.2.2.1.size))):=if_pos (by rw [G3 (by omega) (by simp only [nI]; omega) (by simp [nI])]; simp only [nI]; omega)
    obtain ⟨b0,b1⟩:=Ib g.2.2.2.1 0
    rw [bne_eq_false_iff_eq.2 (show nI g.2.2.2.1.size=5 by simp only [nI]; omega),Ap h5,Int.tmod_eq_emod_of_nonneg (by omega)]
    simp only [n1,Option.bind_some,cond_false,Bool.true_and]
    rw [Ap (show 0 < nI g.2.2.2.1.size by simp only [nI]; omega),Ap (show 1≤nI g.2.2.2.1.size by simp only [nI]; omega),Aj (n:=Am g.2.2.2.1 0) (by omega) (by omega)]
    by_cases h6:g.2.2.1 % 2=(i:Int)
    ·rw [bne_eq_false_iff_eq.2 h6,show (g.2.2.1 % 2==(i:Int))=true from beq_iff_eq.2 h6]
     show (bif P3 (Nk g) then _ else _)=_
     cases P3 (Nk g)
     ·rfl
     ·by_cases h7:g.2.2.1 > b.1
      ·rw [Ap h7]; rfl
      ·rw [Bd h7]; rfl
    ·rw [bne_iff_ne.2 h6,show (g.2.2.1 % 2==(i:Int))=false from beq_eq_false_iff_ne.2 h6]
     rfl
   ·rw [bne_iff_ne.2 (show nI g.2.2.2.1.size≠5 by simp only [nI]; omega),Bd h5]
    rfl
  ·rw [bne_iff_ne.2 h4,show (g.1==4)=false from beq_eq_false_iff_ne.2 h4]
   rfl
theorem Aty (a0:Dk) (a1:Int):Uf a0 a1=some (((A0 a0 a1),()),(())):=by
 unfold Uf A0 Bg
 show (bif !B1 a0 then _ else (bif !Fg a1 1 8 then _ else _))=_
 cases hv:B1 a0 with
 | false=>rfl
 | true=>
  cases hw:Fg a1 1 8 with
  | false=>rfl
  | true=>
   have hd:=Ajq hv
   have h1:=Bat a0 hd a1 0 (by omega) 2 0 0 0 0 (0,0,1,0,())
   have h2:=Bat a0 hd a1 1 (by omega) 1 0 0 0 0 (Hv (Xg a0 (0:Nat)) a1 (0:Nat) (0,0,1,0,()))
   have h3:=h1.trans h2
   refine d6 h3 ?_
   rfl
def Zy {R:Type} (k:Kt R):=(Ko (Jp 6) (.exit 0) 2 k)
def Afj {R:Type}:Lt R Jp:=(E3 (pat:=Jp) 6 (fun d k=>(Anq d).bind (Zy k)) F8)
theorem Acm:Ax Tryz.prog Acl:=Ay ⟨Et,Nt,Sj,Acj,Avr,Avo,trivial⟩
theorem Anr {R:Type}:A4 Tryz.prog R 76 0 Jp Afj Zx:=
 Cj (cfg:=⟨Acl,0,76,Jp⟩) 6 [] (fun NX X d=>(u4 (u4 (u4 Ae))) (Mz  NX X) d) (fun m d=>(u4 (u4 (u4 Ae))) (Fv m) d) (fun d=>(u4 (u4 (u4 Ae))) Qp d) Zy Acm trivial (fun f NX d=>by simp only [u4,Ab,Ae]; unfold Mz; simp only [nb])
theorem Atz:Bm Tryz.prog 92 Ack:=
 Aw (pat:=Jp) [Zx] Afj Acm ⟨Anr,trivial⟩ Tryz.func92 (de:=fun x=>Uf x.1 x.2.1) (fun x r h=>(Aty x.1 x.2.1).trans h) fun _=>by kernel_rfl
def F5 (d:Dk) (from_ size first life w:Int):Scd:=i7 d from_ size first life w
def A7s:E5:=⟨[.rd Uw,.rd tI,.rd tI,.rd tI,.rd tI,.rd tI],[some 2,none,none,none,none,none],[.own 9 .str,.rd tI,.rd tI],[some 3]⟩
def Aqv:SD:=⟨A7s,fun x=>some (((F5 x.1 x.2.1 x.2.2.1 x.2.2.2.1 x.2.2.2.2.1 x.2.2.2.2.2.1).1,(F5 x.1 x.2.1 x.2.2.1 x.2.2.2.1 x.2.2.2.2.1 x.2.2.2.2.2.1).2.1,(F5 x.1 x.2.1 x.2.2.1 x.2.2.2.1 x.2.2.2.2.1 x.2.2.2.2.2.1).2.2.1,()),(()))⟩
def Aqw:Tb:=tb [(56,D4),(87,Li),(139,Ud),(140,Air)]
def Ow:Nat→Da×(Nat→Da):=Gs [(9,⟨[.boxSl 6 0 .str,.boxSl 6 1 Fb,.boxRow 12 0 9 .str,.boxRow 13 0 9 .str],[(1,.lf (.d tI)),(2,.lf (.d tI)),(3,.lf (.d tI)),(5,.lf (.d tI)),(6,.lf (.ptr 0 0)),(12,.lf (.ptr 1 0)),(13,.lf (.ptr 2 0)),(14,.lf (.d .bool)),(15,.lf (.d .str)),(16,.lf (.d tI)),(17,.lf (.d tI))],[.box 44 [.d (.sl .str),.d (.sl Fb)],.box 117 [.row 3,.d tI,.d tI],.box 117 [.row 4,.d tI,.d tI],.row 9 .str,.row 9 .str]⟩,[(2,⟨[.boxRow 12 0 9 .str,.boxRow 13 0 9 .str],[(12,.lf (.ptr 0 0)),(13,.lf (.ptr 1 0))],[.box 117 [.row 2,.d tI,.d tI],.box 117 [.row 3,.d tI,.d tI],.row 9 .str,.row 9 .str]⟩)])]
def Ait:Code:=(At (Bc Tryz.f93)).getD 0 .skip
def H6 (v1 v2:Int) (v3 v5:Int) (v14:Bool) (v15:Aa) (v16 v17:Int) (b0_0:List Aa) (b0_1:List Wr) (b1_1 b1_2:Int) (b2_1 b2_2:Int) (r3 r4:List Aa):Nat:=(v2 - v17).toNat + 1
def Oh {R:Type}  (NX:((Int)×(Int)×(Int)×(Int)×(Bool)×(Aa)×(Int)×(Int)×(List Aa)×(List Wr)×(Int)×(Int)×(Int)×(Int)×(List Aa)×(List Aa)×Unit)→Option R) (X2:((Int)×(Int)×(Int)×(Int)×(List Aa)×(List Aa)×Unit)→Option R) (v1:Int) (v2:Int) (v3:Int) (v5:Int) (v14:Bool) (v15:Aa) (v16:Int) (v17:Int) (b0_0:List Aa) (b0_1:List Wr) (b1_1:Int) (b1_2:Int) (b2_1:Int) (b2_2:Int) (r3:List Aa) (r4:List Aa):Option R:=
 bif decide (v17 < v2) then ((Qo (b0_0,b0_1,()) (IntKind.i64.wrap (v1 + v17))).bind fun val=>some ((val,()),())).bind fun val=>bif !(Af val.1.1 v5).2 then X2 (b1_1,b1_2,b2_1,b2_2,r3,r4,()) else bif IntKind.i64.wrap ((Af val.1.1 v5).1.2.2.1 - v17) != v3 then X2 (b1_1,b1_2,b2_1,b2_2,r3,r4,()) else bif decide ((Af val.1.1 v5).1.2.1 < v16) then X2 (b1_1,b1_2,b2_1,b2_2,r3,r4,()) else bif v14 then bif (Af val.1.1 v5).1.2.1 != v16 then X2 (b1_1,b1_2,b2_1,b2_2,r3,r4,()) else bif (Af val.1.1 v5).1.1==3 then X2 (b1_1,b1_2,b2_1,b2_2,r3,r4,()) else bif (Af val.1.1 v5).1.1==4 then X2 (b1_1,b1_2,b2_1,b2_2,r3,r4,()) else bif (Af val.1.1 v5).1.1==1 then bif decide (v15.size + ByteArray.size (Af val.1.1 v5).1.2.2.2.1≤9223372036854775807) then NX (v1,v2,v3,v5,true,v15++(Af val.1.1 v5).1.2.2.2.1,(Af val.1.1 v5).1.2.1,IntKind.i64.wrap (v17 + 1),b0_0,b0_1,b1_1,b1_2,b2_1,b2_2,r3,r4,()) else none else bif (Af val.1.1 v5).1.1==2 then bif decide (v15.size + ByteArray.size (Af val.1.1 v5).1.2.2.2.1≤9223372036854775807) then bif decide ((r4.length + [v15++(Af val.1.1 v5).1.2.2.2.1].length) * 16≤140737488355328) then NX (v1,v2,v3,v5,false,Ac,(Af val.1.1 v5).1.2.1,IntKind.i64.wrap (v17 + 1),b0_0,b0_1,b1_1,b1_2,IntKind.i64.wrap (v17 + 1),(Af val.1.1 v5).1.2.1,r3,r4++[v15++(Af val.1.1 v5).1.2.2.2.1],()) else none else none else bif (Af val.1.1 v5).1.1==3 then NX (v1,v2,v3,v5,v14,v15,(Af val.1.1 v5).1.2.1,IntKind.i64.wrap (v17 + 1),b0_0,b0_1,b1_1,b1_2,IntKind.i64.wrap (v17 + 1),(Af val.1.1 v5).1.2.1,r3,r4,()) else NX (v1,v2,v3,v5,v14,v15,(Af val.1.1 v5).1.2.1,IntKind.i64.wrap (v17 + 1),b0_0,b0_1,b1_1,b1_2,b2_1,b2_2,r3,r4,()) else bif (Af val.1.1 v5).1.1==4 then X2 (b1_1,b1_2,b2_1,b2_2,r3,r4,()) else bif (Af val.1.1 v5).1.1==1 then bif decide (v15.size + ByteArray.size (Af val.1.1 v5).1.2.2.2.1≤9223372036854775807) then NX (v1,v2,v3,v5,true,v15++(Af val.1.1 v5).1.2.2.2.1,(Af val.1.1 v5).1.2.1,IntKind.i64.wrap (v17 + 1),b0_0,b0_1,b1_1,b1_2,b2_1,b2_2,r3,r4,()) else none else bif (Af val.1.1 v5).1.1==2 then bif decide (v15.size + ByteArray.size (Af val.1.1 v5).1.2.2.2.1≤9223372036854775807) then bif decide ((r4.length + [v15++(Af val.1.1 v5).1.2.2.2.1].length) * 16≤140737488355328) then NX (v1,v2,v3,v5,false,Ac,(Af val.1.1 v5).1.2.1,IntKind.i64.wrap (v17 + 1),b0_0,b0_1,b1_1,b1_2,IntKind.i64.wrap (v17 + 1),(Af val.1.1 v5).1.2.1,r3,r4++[v15++(Af val.1.1 v5).1.2.2.2.1],()) else none else none else bif (Af val.1.1 v5).1.1==3 then NX (v1,v2,v3,v5,v14,v15,(Af val.1.1 v5).1.2.1,IntKind.i64.wrap (v17 + 1),b0_0,b0_1,b1_1,b1_2,IntKind.i64.wrap (v17 + 1),(Af val.1.1 v5).1.2.1,r3,r4,()) else NX (v1,v2,v3,v5,v14,v15,(Af val.1.1 v5).1.2.1,IntKind.i64.wrap (v17 + 1),b0_0,b0_1,b1_1,b1_2,b2_1,b2_2,r3,r4,()) else X2 (b1_1,b1_2,b2_1,b2_2,r3,r4,())
def Gj:Nat→(Int)→(Int)→(Int)→(Int)→(Bool)→(Aa)→(Int)→(Int)→(List Aa)→(List Wr)→(Int)→(Int)→(Int)→(Int)→(List Aa)→(List Aa) →  Option ((Int)×(Int)×(Int)×(Int)×(List Aa)×(List Aa)×Unit)
 | 0,_,_,_,_,_,_,_,_,_,_,_,_,_,_,_,_=>none
 | m + 1,v1,v2,v3,v5,v14,v15,v16,v17,b0_0,b0_1,b1_1,b1_2,b2_1,b2_2,r3,r4=>Oh  (fun d=>Gj m d.1 d.2.1 d.2.2.1 d.2.2.2.1 d.2.2.2.2.1 d.2.2.2.2.2.1 d.2.2.2.2.2.2.1 d.2.2.2.2.2.2.2.1 d.2.2.2.2.2.2.2.2.1 d.2.2.2.2.2.2.2.2.2.1 d.2.2.2.2.2.2.2.2.2.2.1 d.2.2.2.2.2.2.2.2.2.2.2.1 d.2.2.2.2.2.2.2.2.2.2.2.2.1 d.2.2.2.2.2.2.2.2.2.2.2.2.2.1 d.2.2.2.2.2.2.2.2.2.2.2.2.2.2.1 d.2.2.2.2.2.2.2.2.2.2.2.2.2.2.2.1) (fun d=>some (d)) v1 v2 v3 v5 v14 v15 v16 v17 b0_0 b0_1 b1_1 b1_2 b2_1 b2_2 r3 r4
def A2l (d:(Int)×(Int)×(Int)×(Int)×(Bool)×(Aa)×(Int)×(Int)×(List Aa)×(List Wr)×(Int)×(Int)×(Int)×(Int)×(List Aa)×(List Aa)×Unit):Option ((Int)×(Int)×(Int)×(Int)×(List Aa)×(List Aa)×Unit):=(u4 (u4 (u4 (u4 Ae)))) (Gj ((u4 (u4 (u4 (u4 Ae)))) H6 d)) d
def Ad6 (a0:Dk) (a1 a2:Int) (a3 a4 a5:Int):Option ((((List Aa)×(Int)×(Int)×Unit)×(Unit))):=
 bif !Hb a0 then some (([],0,0,()),()) else bif !Bs a5 1 8 then some (([],0,0,()),()) else bif decide (a1 < 0) then some (([],0,0,()),()) else bif decide (a2 < 0) then some (([],0,0,()),()) else bif decide (a1 > nI (List.length a0.1)) then some (([],0,0,()),()) else bif decide (a2 > IntKind.i64.wrap (nI (List.length a0.1) - a1)) then some (([],0,0,()),()) else ((fun d=>Gj (H6 d.1 d.2.1 d.2.2.1 d.2.2.2.1 d.2.2.2.2.1 d.2.2.2.2.2.1 d.2.2.2.2.2.2.1 d.2.2.2.2.2.2.2.1 d.2.2.2.2.2.2.2.2.1 d.2.2.2.2.2.2.2.2.2.1 d.2.2.2.2.2.2.2.2.2.2.1 d.2.2.2.2.2.2.2.2.2.2.2.1 d.2.2.2.2.2.2.2.2.2.2.2.2.1 d.2.2.2.2.2.2.2.2.2.2.2.2.2.1 d.2.2.2.2.2.2.2.2.2.2.2.2.2.2.1 d.2.2.2.2.2.2.2.2.2.2.2.2.2.2.2.1) d.1 d.2.1 d.2.2.1 d.2.2.2.1 d.2.2.2.2.1 d.2.2.2.2.2.1 d.2.2.2.2.2.2.1 d.2.2.2.2.2.2.2.1 d.2.2.2.2.2.2.2.2.1 d.2.2.2.2.2.2.2.2.2.1 d.2.2.2.2.2.2.2.2.2.2.1 d.2.2.2.2.2.2.2.2.2.2.2.1 d.2.2.2.2.2.2.2.2.2.2.2.2.1 d.2.2.2.2.2.2.2.2.2.2.2.2.2.1 d.2.2.2.2.2.2.2.2.2.2.2.2.2.2.1 d.2.2.2.2.2.2.2.2.2.2.2.2.2.2.2.1) (a1,a2,a3,a5,false,Ac,a4,0,a0.1,a0.2.1,0,0,0,a4,[],[],())).bind fun val=>some ((val.2.2.2.2.2.1,val.2.2.1,val.2.2.2.1,()),())
def Bau (v:Int×Int×Int×Int×List Aa×List Aa×Unit):Scd:=(v.2.2.2.2.2.1,v.2.2.1,v.2.2.2.1,())
theorem A2m {d:Dk} (hd:P5 d) (f n:Nat) (hfn:f + n≤d.1.length) (first w b1 b2:Int) (r3:List Aa):∀ (k m i:Nat) (st:ScT),i + k=n→k < m→Aej i st→(st.1≠1→st.2.2.1=z0)→
  ∃ y,Gj m f n first w (st.1==1) st.2.2.1 st.2.1 i d.1 d.2.1 b1 b2 st.2.2.2.2.1 st.2.2.2.2.2 r3 st.2.2.2.1=some y∧Bau y=P8 w first (seen d f i k) i st
 | 0,m + 1,i,st,hi,_,_,_=>by
  simp only [Gj,Oh]
  rw [Bd (show ¬ (i:Int) < (n:Int) by omega)]
  exact ⟨_,rfl,rfl⟩
 | k + 1,m + 1,i,st,hi,hm,hI,hz=>by
  have h200:=hd.n200
  have e1:IntKind.i64.wrap ((f:Int) + (i:Int))=(f:Int) + (i:Int):=Aj (by omega) (by omega)
  have e2:Qo (d.1,d.2.1,()) ((f:Int) + (i:Int))=some (Xg d ((f:Int) + (i:Int))):=if_pos ⟨Nat.le_trans hd.p300 (by decide),by omega,by show _ < (d.1.length:Int); omega⟩
  have e4:IntKind.i64.wrap ((i:Int) + 1)=((i + 1:Nat):Int):=wI (by omega)
  have es:seen d f i (k + 1)=Xg d ((f:Int) + (i:Int))::seen d f (i + 1) k:=rfl
  simp only [Gj,Oh]
  rw [es,Ap (show (i:Int) < (n:Int) by omega)]
  simp only [e1,e2,e4,cond_true,Option.bind_some,Af]
  unfold P8 Aso
  generalize hx:Xg d ((f:Int) + (i:Int))=x
  obtain ⟨p,ok,hR⟩:∃ p ok,Dq x w=(p,ok):=⟨_,_,rfl⟩
  simp only [hR]
  cases ok with
  | false=>exact ⟨_,rfl,rfl⟩
  | true=>
   obtain ⟨q1,q2,q3⟩:=Ayq hR
   have e5:IntKind.i64.wrap (p.2.2.1 - (i:Int))=p.2.2.1 - (i:Int):=Aj (by omega) (by omega)
   simp only [e5,Bool.not_true,cond_false,Bool.true_and,bne]
   cases hn:(p.2.2.1 - (i:Int)==first) with
   | false=>exact ⟨_,rfl,rfl⟩
   | true=>
    simp only [Bool.not_true,cond_false,Bool.true_and]
    have hN:=hI.next (p:=p) (by omega) q3
    have e6:decide (ByteArray.size st.2.2.1 + ByteArray.size p.2.2.2.1≤9223372036854775807)=true:=Ap (by have:=hI.2.1; omega)
    have e7:decide ((List.length st.2.2.2.1 + 1) * 16≤140737488355328)=true:=Ap (by have:=hI.2.2; omega)
    simp only [e6,cond_true,Nz,e7]
    have ei:(i:Int) + 1=((i + 1:Nat):Int):=by omega
    have ih:=fun hz=>A2m hd f n hfn first w b1 b2 r3 k m (i + 1) (N4 i p st) (by omega) (by omega) hN hz
    unfold N4 at ih ⊢
    unfold A0m
    rw [ei]
    rw [ei] at ih
    have hk:p.1=1∨p.1=2∨p.1=3∨p.1=4:=by omega
    cases hlt:decide (p.2.1 < st.2.1) with
    | true=>exact ⟨_,rfl,rfl⟩
    | false=>
     simp only [cond_false]
     have eqc:(p.2.1==st.2.1)=(st.2.1==p.2.1):=by
      by_cases q:p.2.1=st.2.1
      ·rw [q]
      ·rw [beq_eq_false_iff_ne.2 q,beq_eq_false_iff_ne.2 (Ne.symm q)]
     rw [eqc]
     rcases hk with hp | hp | hp | hp
     ·rw [hp] at ih ⊢
      have ih:=ih (fun q=>absurd rfl q)
      cases ho:(st.1==1) with
      | false=>
       have hb:(st.1 != 1)=true:=by simp only [bne,ho,Bool.not_false]
       rw [hb]
       exact ih
      | true=>
       have hb:(st.1 != 1)=false:=by simp only [bne,ho,Bool.not_true]
       rw [hb]
       cases (st.2.1==p.2.1) with
       | false=>exact ⟨_,rfl,rfl⟩
       | true=>exact ih
     ·rw [hp] at ih ⊢
      have ih:=ih (fun _=>rfl)
      cases ho:(st.1==1) with
      | false=>
       have hb:(st.1 != 1)=true:=by simp only [bne,ho,Bool.not_false]
       rw [hb]
       exact ih
      | true=>
       have hb:(st.1 != 1)=false:=by simp only [bne,ho,Bool.not_true]
       rw [hb]
       cases (st.2.1==p.2.1) with
       | false=>exact ⟨_,rfl,rfl⟩
       | true=>exact ih
     ·rw [hp] at ih ⊢
      have ih:=ih (fun _=>rfl)
      cases ho:(st.1==1) with
      | false=>
       have hb:(st.1 != 1)=true:=by simp only [bne,ho,Bool.not_false]
       have hs:=hz (fun q=>by rw [q] at ho; cases ho)
       rw [hb,hs]
       exact ih
      | true=>
       have hb:(st.1 != 1)=false:=by simp only [bne,ho,Bool.not_true]
       rw [hb]
       cases (st.2.1==p.2.1)<;>exact ⟨_,rfl,rfl⟩
     ·rw [hp]
      cases ho:(st.1==1) with
      | false=>exact ⟨_,rfl,rfl⟩
      | true=>
       cases (st.2.1==p.2.1)<;>exact ⟨_,rfl,rfl⟩
theorem A7t (a0:Dk) (a1 a2:Int) (a3 a4 a5:Int):Ad6 a0 a1 a2 a3 a4 a5=some (((F5 a0 a1 a2 a3 a4 a5).1,(F5 a0 a1 a2 a3 a4 a5).2.1,(F5 a0 a1 a2 a3 a4 a5).2.2.1,()),(())):=by
 unfold Ad6 F5 i7
 show (bif !B1 a0 then _ else bif !Fg a5 1 8 then _ else _)=_
 cases hv:B1 a0 with
 | false=>rfl
 | true=>
  have hd:=Ajq hv
  cases hw:Fg a5 1 8 with
  | false=>rfl
  | true=>
   simp only [Bool.not_true,cond_false]
   have h200:=hd.n200
   by_cases h1:a1 < 0
   ·rw [Ap h1,Bd (show ¬ 0≤a1 by omega)]; rfl
   ·rw [Bd h1,Ap (show 0≤a1 by omega)]
    by_cases h2:a2 < 0
    ·rw [Ap h2,Bd (show ¬ 0≤a2 by omega)]; rfl
    ·rw [Bd h2,Ap (show 0≤a2 by omega)]
     by_cases h3:a1 > nI a0.1.length
     ·rw [Ap h3,Bd (show ¬ a1≤(a0.1.length:Int) by simp only [nI] at h3; omega)]; rfl
     ·have h3':a1≤(a0.1.length:Int):=by simp only [nI] at h3; omega
      rw [Bd h3,Ap h3']
      rw [Aj (n:=nI a0.1.length - a1) (by simp only [nI]; omega) (by simp only [nI]; omega)]
      by_cases h4:a2 > nI a0.1.length - a1
      ·rw [Ap h4,Bd (show ¬ a2≤(a0.1.length:Int) - a1 by simp only [nI] at h4; omega)]; rfl
      ·have h4':a2≤(a0.1.length:Int) - a1:=by simp only [nI] at h4; omega
       rw [Bd h4,Ap h4']
       simp only [cond_false,cond_true,Bool.true_and,Bool.and_self]
       obtain ⟨f,rfl⟩:∃ f:Nat,a1=(f:Int):=⟨a1.toNat,by omega⟩
       obtain ⟨n,rfl⟩:∃ n:Nat,a2=(n:Int):=⟨a2.toNat,by omega⟩
       have hfu:n < H6 f n a3 a5 false (Ac) a4 0 a0.1 a0.2.1 0 0 0 a4 [] []:=by simp only [H6]; omega
       obtain ⟨y,hy1,hy2⟩:=A2m hd f n (by omega) a3 a5 0 0 [] n (H6 f n a3 a5 false (Ac) a4 0 a0.1 a0.2.1 0 0 0 a4 [] []) 0 (0,a4,z0,[],0,a4) (Nat.zero_add _) hfu (Aej.zero _ _ _ _) (fun _=>rfl)
       show (Gj (H6 f n a3 a5 false (Ac) a4 0 a0.1 a0.2.1 0 0 0 a4 [] []) f n a3 a5 false (Ac) a4 0 a0.1 a0.2.1 0 0 0 a4 [] []).bind _=_
       have hy1':Gj (H6 f n a3 a5 false (Ac) a4 0 a0.1 a0.2.1 0 0 0 a4 [] []) f n a3 a5 false (Ac) a4 0 a0.1 a0.2.1 0 0 0 a4 [] []=some y:=hy1
       rw [hy1',Eo]
       simp only [Option.bind_some]
       have hy3:Bau y=P8 a5 a3 (seen a0 (f:Int) 0 n) 0 (0,a4,z0,[],0,a4):=hy2
       rw [← hy3]
       rfl
def Aiu {R:Type} (k:Kt R):=(Ko (Ow 9) (.exit 0) 2 k)
def Avs {R:Type}:Lt R Ow:=(E3 (pat:=Ow) 9 (fun d k=>(A2l d).bind (Aiu k)) F8)
theorem Aqx:Ax Tryz.prog Aqw:=Ay ⟨Et,Nt,Acj,Avr,trivial⟩
theorem A2n {R:Type}:A4 Tryz.prog R 140 0 Ow Avs Ait:=
 Cj (cfg:=⟨Aqw,0,140,Ow⟩) 9 [] (fun NX X (d:(Int)×(Int)×(Int)×(Int)×(Bool)×(Aa)×(Int)×(Int)×(List Aa)×(List Wr)×(Int)×(Int)×(Int)×(Int)×(List Aa)×(List Aa)×Unit)=>(u4 (u4 (u4 (u4 Ae)))) (Oh  NX X) d) (fun m d=>(u4 (u4 (u4 (u4 Ae)))) (Gj m) d) (fun d=>(u4 (u4 (u4 (u4 Ae)))) H6 d) Aiu Aqx trivial (fun f NX (d:(Int)×(Int)×(Int)×(Int)×(Bool)×(Aa)×(Int)×(Int)×(List Aa)×(List Wr)×(Int)×(Int)×(Int)×(Int)×(List Aa)×(List Aa)×Unit)=>by simp only [u4,Ab,Ae]; unfold Oh; simp only [nb])
theorem A7u:Bm Tryz.prog 93 Aqv:=
 Aw (pat:=Ow) [Ait] Avs Aqx ⟨A2n,trivial⟩ Tryz.func93 (de:=fun x=>Ad6 x.1 x.2.1 x.2.2.1 x.2.2.2.1 x.2.2.2.2.1 x.2.2.2.2.2.1) (fun x r h=>(A7t x.1 x.2.1 x.2.2.1 x.2.2.2.1 x.2.2.2.2.1 x.2.2.2.2.2.1).trans h) fun _=>by kernel_rfl
def D0 (h n:Int):Int:=IntKind.i64.wrap (2 + IntKind.i64.wrap (h * Bt n))
def A36:E5:=⟨[.rd tI,.rd tI],[none,none],[.rd tI],[none]⟩
def Aam:SD:=⟨A36,fun x=>some (((D0 x.1 x.2.1),()),(()))⟩
def All (a0 a1:Int):Option ((((Int)×Unit)×(Unit))):=
 some ((IntKind.i64.wrap (2 + IntKind.i64.wrap (a0 * Bt a1)),()),())
theorem A37 (a0 a1:Int):All a0 a1=some (((D0 a0 a1),()),(())):=rfl
theorem Alm:Bm Tryz.prog 94 Aam:=
 Aw (pat:=Co) [] F8 (Ay (l:=[(91,Od)]) ⟨Sb,trivial⟩) trivial Tryz.func94 (de:=fun x=>All x.1 x.2.1) (fun x r h=>(A37 x.1 x.2.1).trans h) fun _=>by kernel_rfl
def Fw (s:Aa):(Aa×Bool)×Aa:=(((Ba s).1,(Ba s).2.2),(Ba s).2.1)
def Akd:E5:=⟨[.bx 9 .str],[none],[.rd .str,.rd .bool],[none,none]⟩
def Wu:SD:=⟨Akd,fun x=>some (((Fw x.1).1.1,(Fw x.1).1.2,()),((Fw x.1).2,()))⟩
def O4 (a0:Aa):Option ((((Aa)×(Bool)×Unit)×((Aa)×Unit))):=
 bif decide (nI a0.size < 1) then some ((Ac,false,()),a0,()) else bif decide (0 < nI a0.size) then bif decide (nI a0.size < IntKind.i64.wrap (1 + IntKind.i64.wrap (Am a0 0))) then some ((Ac,false,()),a0,()) else bif decide (0 < nI a0.size) then bif decide (1≤IntKind.i64.wrap (1 + IntKind.i64.wrap (Am a0 0))) then bif decide (IntKind.i64.wrap (1 + IntKind.i64.wrap (Am a0 0))≤nI a0.size) then bif decide (0 < nI a0.size) then bif decide (0≤IntKind.i64.wrap (1 + IntKind.i64.wrap (Am a0 0))) then bif decide (IntKind.i64.wrap (1 + IntKind.i64.wrap (Am a0 0))≤nI a0.size) then some ((Ao a0 1 (IntKind.i64.wrap (1 + IntKind.i64.wrap (Am a0 0))),true,()),Ao a0 (IntKind.i64.wrap (1 + IntKind.i64.wrap (Am a0 0))) (nI a0.size),()) else none else none else none else none else none else none else none
theorem Ake (a0:Aa):O4 a0=some (((Fw a0).1.1,(Fw a0).1.2,()),((Fw a0).2,())):=by
 unfold O4 Fw Ba
 obtain ⟨b0,b1⟩:=Ib a0 0
 have hw:IntKind.i64.wrap (1 + IntKind.i64.wrap (Am a0 0))=1 + Am a0 0:=by
  rw [Aj (n:=Am a0 0) (by omega) (by omega),Aj (by omega) (by omega)]
 rw [hw]
 by_cases h0:(a0.size:Int) < 1
 ·rw [if_pos (Or.inl h0),Ap (show nI a0.size < 1 from h0)]
  rfl
 ·rw [Bd (show ¬ nI a0.size < 1 from h0),Ap (show 0 < nI a0.size by simp only [nI]; omega)]
  by_cases h1:(a0.size:Int) < 1 + Am a0 0
  ·rw [if_pos (Or.inr h1),Ap (show nI a0.size < 1 + Am a0 0 from h1)]
   rfl
  ·rw [if_neg (by omega),Bd (show ¬ nI a0.size < 1 + Am a0 0 from h1),Ap (show 1≤1 + Am a0 0 by omega),Ap (show 0≤1 + Am a0 0 by omega),Ap (show 1 + Am a0 0≤nI a0.size by simp only [nI]; omega)]
   rfl
theorem Akf:Bm Tryz.prog 142 Wu:=
 Aw (pat:=Co) [] F8 (Ay (l:=[]) trivial) trivial Tryz.func142 (de:=fun x=>O4 x.1) (fun x r h=>(Ake x.1).trans h) fun _=>by kernel_rfl
def F6 (s:Aa):List Bq×Bool:=Nn s
def O5 (r0:List Bq) (b1:Aa):Nat:=22
def Aqy:E5:=⟨[.rd .str],[none],[.own 148 Ff,.rd .bool],[none,none]⟩
def q9:SD:=⟨Aqy,fun x=>some (((F6 x.1).1,(F6 x.1).2,()),(()))⟩
def s7:Tb:=tb [(112,Hd),(142,Wu)]
def Gk:Nat→Da×(Nat→Da):=Gs [(5,⟨[.row 4 0 148 Ff],[(4,.lf (.row 0)),(5,.lf (.ptr 1 0)),(6,.fn 142 [.ptr 1 0])],[.row 148 Ff,.box 9 [.d .str]]⟩,[(2,⟨[.row 4 0 148 Ff],[(4,.lf (.row 0)),(5,.lf (.ptr 1 0))],[.row 148 Ff,.box 9 [.d .str]]⟩),(1,⟨[.row 2 0 148 Ff],[(2,.lf (.row 0)),(3,.lf (.d .bool))],[.row 148 Ff]⟩)])]
def Wv:Code:=(At (Bc Tryz.f95)).getD 0 .skip
def Lv {R:Type}  (NX:((List Bq)×(Aa)×Unit)→Option R) (X2:((List Bq)×(Aa)×Unit)→Option R) (X1:((Bool)×(List Bq)×Unit)→Option R) (r0:List Bq) (b1:Aa):Option R:=
 bif decide (nI b1.size > 0) then bif decide (nI r0.length≤20) then bif decide (0 < nI b1.size) then bif decide (1≤nI b1.size) then bif decide (Am b1 0 > 1) then X1 (false,[],()) else bif !(Ba (Ao b1 1 (nI b1.size))).2.2 then X1 (false,[],()) else bif Am b1 0==0 then bif !(Ba (Ba (Ao b1 1 (nI b1.size))).2.1).2.2 then X1 (false,[],()) else bif decide ((r0.length + [((Ba (Ao b1 1 (nI b1.size))).1,(Ba (Ba (Ao b1 1 (nI b1.size))).2.1).1,Am b1 0==1,())].length) * 40≤140737488355328) then NX (r0++[((Ba (Ao b1 1 (nI b1.size))).1,(Ba (Ba (Ao b1 1 (nI b1.size))).2.1).1,Am b1 0==1,())],(Ba (Ba (Ao b1 1 (nI b1.size))).2.1).2.1,()) else none else bif decide ((r0.length + [((Ba (Ao b1 1 (nI b1.size))).1,Ac,Am b1 0==1,())].length) * 40≤140737488355328) then NX (r0++[((Ba (Ao b1 1 (nI b1.size))).1,Ac,Am b1 0==1,())],(Ba (Ao b1 1 (nI b1.size))).2.1,()) else none else none else none else X2 (r0,b1,()) else X2 (r0,b1,())
def Gq:Nat→(List Bq)→(Aa) →  Option (((List Bq)×(Aa)×Unit) ⊕ ((Bool)×(List Bq)×Unit))
 | 0,_,_=>none
 | m + 1,r0,b1=>Lv  (fun d=>Gq m d.1 d.2.1) (fun d=>some (.inl (d))) (fun d=>some (.inr (d))) r0 b1
def Akg (d:(List Bq)×(Aa)×Unit):Option (((List Bq)×(Aa)×Unit) ⊕ ((Bool)×(List Bq)×Unit)):=(Ab (Ab Ae)) (Gq ((Ab (Ab Ae)) O5 d)) d
def So (a0:Aa):Option ((((List Bq)×(Bool)×Unit)×(Unit))):=
 ((fun d=>Gq (O5 d.1 d.2.1) d.1 d.2.1) ([],a0,())).bind fun val=>Bw (fun d=>bif decide (nI (ByteArray.size d.2.1) > 0) then some (([],false,()),()) else bif !Ih d.1 then some (([],false,()),()) else some ((d.1,true,()),())) (fun d=>some ((d.2.1,d.1,()),())) val
def Bl0 (o:Option (List Bq×Aa)):(List Bq×Aa×Unit) ⊕ (Bool×List Bq×Unit):=match o with
 | some (b,t)=>.inl (b,t,())
 | none=>.inr (false,[],())
theorem A2o:∀ (f m:Nat) (r:List Bq) (s:Aa),r.length + f=22→f≤m→1≤f→Gq m r s=some (Bl0 (P4 true f r s))
 | 0,_,_,_,_,_,h=>by omega
 | f + 1,0,_,_,_,h,_=>by omega
 | f + 1,m + 1,r,s,hf,hm,_=>by
  simp only [Gq,Lv,P4]
  by_cases hs:s.size > 0
  ·rw [Ap (show nI s.size > 0 by simp only [nI]; omega),Ap hs]
   by_cases hr:r.length≤20
   ·rw [Ap (show nI r.length≤20 by simp only [nI]; omega),Ap hr,Ap (show 1≤nI s.size by simp only [nI]; omega)]
    unfold Auz
    obtain ⟨b0,b1⟩:=Ib s 0
    generalize Ba (Ao s 1 (nI s.size))=p
    simp only [Nz,Bool.true_and,cond_true,Bool.and_self]
    rw [Ap (show (r.length + 1) * 40≤140737488355328 by omega)]
    by_cases h1:Am s 0 > 1
    ·rw [Ap h1]; rfl
    ·rw [Bd h1]
     obtain ⟨k,t,o⟩:=p
     cases o
     ·rfl
     ·by_cases h2:Am s 0=0
      ·rw [h2]
       simp only [Bool.not_true,cond_false,cond_true]
       generalize Ba t=q
       obtain ⟨v,u,o⟩:=q
       cases o
       ·rfl
       ·exact A2o f m (r++[(k,v,false,())]) u (by rw [Lw,Nz]; omega) (by omega) (by omega)
      ·have h3:Am s 0=1:=by omega
       rw [h3]
       exact A2o f m (r++[(k,Ac,true,())]) t (by rw [Lw,Nz]; omega) (by omega) (by omega)
   ·rw [Bd (show ¬ nI r.length≤20 by simp only [nI]; omega),Bd hr]
    rfl
  ·rw [Bd (show ¬ nI s.size > 0 by simp only [nI]; omega),Bd hs]
   rfl
theorem Aqz (a0:Aa):So a0=some (((F6 a0).1,(F6 a0).2,()),(())):=by
 unfold So F6 Nn
 have hL:=A2o 22 22 [] a0 rfl (Nat.le_refl _) (by omega)
 refine d6 hL ?_
 cases P4 true 22 [] a0 with
 | none=>rfl
 | some bt=>
  obtain ⟨b,t⟩:=bt
  show (bif decide (nI t.size > 0) then _ else (bif !Br b then _ else _))=_
  have e:decide (nI t.size > 0)=decide (t.size > 0):=decide_eq_decide.2 (by simp only [nI]; omega)
  rw [e]
  simp only
  cases decide (t.size > 0)<;>cases Br b<;>rfl
def Ww {R:Type} (k:Kt R):=(Bw (Ko (Gk 5) (.exit 0) 2 k) (Ko (Gk 5) .ret 1 k))
def Acn {R:Type}:Lt R Gk:=(E3 (pat:=Gk) 5 (fun d k=>(Akg d).bind (Ww k)) F8)
theorem s8:Ax Tryz.prog s7:=Ay ⟨Qj,Akf,trivial⟩
theorem Akh {R:Type}:A4 Tryz.prog R 63 0 Gk Acn Wv:=
 Cj (cfg:=⟨s7,0,63,Gk⟩) 5 [] (fun NX X d=>(Ab (Ab Ae)) (Lv  NX (fun e=>X (.inl (e))) (fun e=>X (.inr (e)))) d) (fun m d=>(Ab (Ab Ae)) (Gq m) d) (fun d=>(Ab (Ab Ae)) O5 d) Ww s8 trivial (fun f NX d=>by simp only [u4,Ab,Ae]; unfold Lv; simp only [nb])
theorem Aq0:Bm Tryz.prog 95 q9:=
 Aw (pat:=Gk) [Wv] Acn s8 ⟨Akh,trivial⟩ Tryz.func95 (de:=fun x=>So x.1) (fun x r h=>(Aqz x.1).trans h) fun _=>by kernel_rfl
def M0 (s:Dh) (b:List Bq):Dh×Int:=Rj s b
def A38:E5:=⟨[.rd B6,.rd (.sl Ff)],[some 1,none],[.own 136 Aq,.rd tI],[some 1,none]⟩
def Aln:SD:=⟨A38,fun x=>some (((M0 x.1 x.2.1).1.1,(M0 x.1 x.2.1).2,()),(()))⟩
def Ur:Tb:=⟨tbF [(90,Hc),(112,Hd)],fun _=>none,none,none,some (143,144,39,37,136),.off⟩
def Dj:Nat→Da×(Nat→Da):=Gs [(6,⟨[.sl 1 0 Ff,.sl 25 0 Aq,.boxRow 4 0 136 Aq],[(1,.lf (.d (.sl Ff))),(4,.lf (.ptr 0 0)),(6,.lf (.row 1)),(25,.lf (.d (.sl Aq))),(26,.lf (.d tI)),(27,.lf (.d tI))],[.box 39 [.row 2],.map .str,.row 136 Aq]⟩,[(2,⟨[.sl 1 0 Ff,.boxRow 4 0 136 Aq],[(1,.lf (.d (.sl Ff))),(4,.lf (.ptr 0 0)),(6,.lf (.row 1))],[.box 39 [.row 2],.map .str,.row 136 Aq]⟩)]),(11,⟨[.sl 37 0 Ff,.boxRow 4 0 136 Aq],[(4,.lf (.ptr 0 0)),(6,.lf (.row 1)),(37,.lf (.d (.sl Ff))),(38,.lf (.d tI)),(39,.lf (.d tI))],[.box 39 [.row 2],.map .str,.row 136 Aq]⟩,[(4,⟨[.boxRow 4 0 136 Aq],[(4,.lf (.ptr 0 0)),(6,.lf (.row 1))],[.box 39 [.row 2],.map .str,.row 136 Aq]⟩)]),(21,⟨[.boxRow 4 0 136 Aq,.boxRow 11 0 136 Aq],[(4,.lf (.ptr 0 0)),(11,.lf (.ptr 1 0)),(59,.lf (.row 2))],[.box 39 [.row 3],.box 39 [.row 4],.iter .str,.row 136 Aq,.row 136 Aq]⟩,[(6,⟨[.boxRow 4 0 136 Aq,.boxRow 11 0 136 Aq],[(4,.lf (.ptr 0 0)),(11,.lf (.ptr 1 0))],[.box 39 [.row 2],.box 39 [.row 3],.row 136 Aq,.row 136 Aq]⟩)])]
def Afk:Code:=(At (Bc Tryz.f96)).getD 0 .skip
def Aco:Code:=(At (Bc Tryz.f96)).getD 1 .skip
def Acp:Code:=(At (Bc Tryz.f96)).getD 2 .skip
def Ox (i2 l2:List (Aa×Aa)) (c2:Option (Aa×Aa)) (r3 r4:List Ar) (e0 e1:Aa) (e2:List (Aa×Aa)):Option ((List (Aa×Aa))×(List (Aa×Aa))×(Option (Aa×Aa))×(List Ar)×(List Ar)×Unit):=
 bif decide ((r4.length + [(e0,e1,())].length) * 32≤140737488355328) then some (i2,e2,some (e0,e1),r3,r4++[(e0,e1,())],()) else none
def Acq (i2 l2:List (Aa×Aa)) (c2:Option (Aa×Aa)) (r3 r4:List Ar):Option ((List Ar)×(List Ar)×Unit):=
 some (r3,r4,())
def Ug {R:Type} (i2 l2:List (Aa×Aa)) (c2:Option (Aa×Aa)) (r3 r4:List Ar) (kk:((List Ar)×(List Ar)×Unit)→Option R):Option R:=Be0 (fun d:((List (Aa×Aa))×(List (Aa×Aa))×(Option (Aa×Aa))×(List Ar)×(List Ar)×Unit)=>d.2.1) (fun d e l=>Ox d.1 d.2.1 d.2.2.1 d.2.2.2.1 d.2.2.2.2.1 e.1 e.2 l) (fun d=>(Acq d.1 d.2.1 d.2.2.1 d.2.2.2.1 d.2.2.2.2.1).bind kk) (i2,l2,c2,r3,r4,())
def Jq (v37:List Bq) (v38 v39:Int) (m1:List (Aa×Aa)) (r2:List Ar):Nat:=(v38 - v39).toNat + 1
def Mh {R:Type}  (NX:((List Bq)×(Int)×(Int)×(List (Aa×Aa))×(List Ar)×Unit)→Option R) (X4:((List (Aa×Aa))×(List Ar)×Unit)→Option R) (v37:List Bq) (v38:Int) (v39:Int) (m1:List (Aa×Aa)) (r2:List Ar):Option R:=
 bif decide (v39 < v38) then bif decide (0≤v39) then bif decide (v39 < nI v37.length) then bif (v37.getD v39.toNat (Ac,Ac,false,())).2.2.1 then NX (v37,v38,IntKind.i64.wrap (v39 + 1),Age (v37.getD v39.toNat (Ac,Ac,false,())).1 m1,r2,()) else NX (v37,v38,IntKind.i64.wrap (v39 + 1),Xz (v37.getD v39.toNat (Ac,Ac,false,())).1 (v37.getD v39.toNat (Ac,Ac,false,())).2.1 m1,r2,()) else none else none else X4 (m1,r2,())
def Dt:Nat→(List Bq)→(Int)→(Int)→(List (Aa×Aa))→(List Ar) →  Option ((List (Aa×Aa))×(List Ar)×Unit)
 | 0,_,_,_,_,_=>none
 | m + 1,v37,v38,v39,m1,r2=>Mh  (fun d=>Dt m d.1 d.2.1 d.2.2.1 d.2.2.2.1 d.2.2.2.2.1) (fun d=>some (d)) v37 v38 v39 m1 r2
def At0 (d:(List Bq)×(Int)×(Int)×(List (Aa×Aa))×(List Ar)×Unit):Option ((List (Aa×Aa))×(List Ar)×Unit):=(u4 (Ab Ae)) (Dt ((u4 (Ab Ae)) Jq d)) d
def Ky (v1:List Bq) (v25:List Ar) (v26 v27:Int) (m1:List (Aa×Aa)) (r2:List Ar):Nat:=(v26 - v27).toNat + 1
def Nb {R:Type}  (NX:((List Bq)×(List Ar)×(Int)×(Int)×(List (Aa×Aa))×(List Ar)×Unit)→Option R) (X2:((List Bq)×(List (Aa×Aa))×(List Ar)×Unit)→Option R) (v1:List Bq) (v25:List Ar) (v26:Int) (v27:Int) (m1:List (Aa×Aa)) (r2:List Ar):Option R:=
 bif decide (v27 < v26) then bif decide (0≤v27) then bif decide (v27 < nI v25.length) then NX (v1,v25,v26,IntKind.i64.wrap (v27 + 1),Xz (v25.getD v27.toNat (Ac,Ac,())).1 (v25.getD v27.toNat (Ac,Ac,())).2.1 m1,r2,()) else none else none else X2 (v1,m1,r2,())
def Ed:Nat→(List Bq)→(List Ar)→(Int)→(Int)→(List (Aa×Aa))→(List Ar) →  Option ((List Bq)×(List (Aa×Aa))×(List Ar)×Unit)
 | 0,_,_,_,_,_,_=>none
 | m + 1,v1,v25,v26,v27,m1,r2=>Nb  (fun d=>Ed m d.1 d.2.1 d.2.2.1 d.2.2.2.1 d.2.2.2.2.1 d.2.2.2.2.2.1) (fun d=>some (d)) v1 v25 v26 v27 m1 r2
def Axh (d:(List Bq)×(List Ar)×(Int)×(Int)×(List (Aa×Aa))×(List Ar)×Unit):Option ((List Bq)×(List (Aa×Aa))×(List Ar)×Unit):=(u4 (Ab (Ab Ae))) (Ed ((u4 (Ab (Ab Ae))) Ky d)) d
def Aan (a0:Dh) (a1:List Bq):Option ((((List Ar)×(Int)×Unit)×(Unit))):=
 bif !E2 a0 then some (([],1,()),()) else bif !Ih a1 then some (([],1,()),()) else ((fun d=>Ed (Ky d.1 d.2.1 d.2.2.1 d.2.2.2.1 d.2.2.2.2.1 d.2.2.2.2.2.1) d.1 d.2.1 d.2.2.1 d.2.2.2.1 d.2.2.2.2.1 d.2.2.2.2.2.1) (a1,a0.1,nI (List.length a0.1),0,[],[],())).bind fun val=>((fun d=>Dt (Jq d.1 d.2.1 d.2.2.1 d.2.2.2.1 d.2.2.2.2.1) d.1 d.2.1 d.2.2.1 d.2.2.2.1 d.2.2.2.2.1) (val.1,nI (List.length val.1),0,val.2)).bind fun val=>bif decide (nI val.1.length > 100) then some (([],2,()),()) else (fun d kk=>Ug d.1 d.2.1 d.2.2.1 d.2.2.2.1 d.2.2.2.2.1 kk) (val.1,val.1,none,val.2.1,[],()) fun d=>bif E6 d.2.1 then bif decide (d.2.1.length≤1000) then some ((List.foldr Av1 [] d.2.1,0,()),()) else none else none
theorem Bav (v1:List Bq) (xs:List Ar) (hx:xs.length≤100):Ed (Ky v1 xs (nI xs.length) 0 [] []) v1 xs (nI xs.length) 0 [] []=some (v1,A0v xs,[],()):=by
 have hL:=G4 (xs:=xs) zP (fun _ _=>True) (fun _ p m=>Xz p.1 p.2.1 m) (g:=fun m i M=>Ed m v1 xs (nI xs.length) i M []) (ok:=fun M=>(v1,M,[],())) (fun m i M hi _=>by
   show Ed (m + 1) v1 xs (nI xs.length) i M []=_
   simp only [Ed,Nb]
   rw [Qv hi,Gt,wI (show i < 4611686018427387904 by omega),Eo]
   rfl) (fun _ _ _ _=>trivial) (fun m M _=>by
   show Ed (m + 1) v1 xs (nI xs.length) (xs.length:Int) M []=_
   simp only [Ed,Nb]
   rw [Jx]
   rfl) (Ky v1 xs (nI xs.length) 0 [] []) 0 [] (by omega) (by simp [Ky,nI]) trivial
 rw [List.drop_zero] at hL
 exact hL
theorem A7v (b:List Bq) (m0:Mp) (hb:b.length≤20):Dt (Jq b (nI b.length) 0 m0 []) b (nI b.length) 0 m0 []=some (Gu (fun _ c m=>Au7 c m) 0 b m0,[],()):=by
 have hL:=G4 (xs:=b) zC (fun _ _=>True) (fun _ c m=>Au7 c m) (g:=fun m i M=>Dt m b (nI b.length) i M []) (ok:=fun M=>(M,[],())) (fun m i M hi _=>by
   show Dt (m + 1) b (nI b.length) i M []=_
   simp only [Dt,Mh]
   rw [Qv hi,Gt,wI (show i < 4611686018427387904 by omega),Eo]
   simp only [cond_true]
   unfold Au7
   show (bif (List.getD b i zC).2.2.1 then _ else _)=_
   cases (List.getD b i zC).2.2.1<;>rfl) (fun _ _ _ _=>trivial) (fun m M _=>by
   show Dt (m + 1) b (nI b.length) (b.length:Int) M []=_
   simp only [Dt,Mh]
   rw [Jx]
   rfl) (Jq b (nI b.length) 0 m0 []) 0 m0 (by omega) (by simp [Jq,nI]) trivial
 rw [List.drop_zero] at hL
 exact hL
theorem A39 (a0:Dh) (a1:List Bq):Aan a0 a1=some (((M0 a0 a1).1.1,(M0 a0 a1).2,()),(())):=by
 unfold Aan M0 Rj
 show (bif !Av a0 then _ else bif !Br a1 then _ else _)=_
 cases hv:Av a0 with
 | false=>rfl
 | true=>
  cases hb:Br a1 with
  | false=>rfl
  | true=>
   simp only [Bool.not_true,cond_false]
   have hl:=Gc hv
   have hb2:=Iu (C6 hb).1
   refine Aae (Bav a1 a0.1 hl) ?_
   dsimp only
   refine Aae (A7v a1 (A0v a0.1) (by omega)) ?_
   dsimp only
   have hM:Ajy (Gu (fun _ c m=>Au7 c m) 0 a1 (A0v a0.1)) (Ri a0.1 a1):=(Ajy.init (A5r hv)).fold
   have hlen:=hM.len
   generalize Gu (fun _ c m=>Au7 c m) 0 a1 (A0v a0.1)=M at hM hlen
   by_cases q:M.length > 100
   ·rw [Ap (show nI M.length > 100 by simp only [nI]; omega),Ap (show (Ri a0.1 a1).length > 100 by omega)]
    rfl
   ·rw [Bd (show ¬ nI M.length > 100 by simp only [nI]; omega),Bd (show ¬ (Ri a0.1 a1).length > 100 by omega)]
    simp only [cond_false]
    unfold Ug
    refine Biz (m:=M.length + 1) ?_
    refine Bhy M (Ri a0.1 a1) hM (by omega) (fun l c r=>(M,l,c,[],r,())) (fun _ _ _=>rfl) (fun l c r e l' hr=>?_) (fun c r h1 h2 h3=>?_) M.length M none [] rfl (List.Perm.refl _)
    ·show Ox M l c [] r e.1 e.2 l'=_
     unfold Ox
     rw [Nz,Ap (show (r.length + 1) * 32≤140737488355328 by omega)]
     rfl
    ·show (bif E6 r then bif decide (r.length≤1000) then some ((Rd r,0,()),()) else none else none)=_
     rw [h1,Ap h2,h3]
     rfl
def Afl {R:Type} (k:Kt R):=(Ko (Dj 6) (.exit 0) 2 k)
def Acr {R:Type} (k:Kt R):=(Ko (Dj 11) (.exit 2) 4 k)
def At1 {R:Type} (k:Kt R):=(Ko (Dj 21) (.exit 4) 6 k)
def Xm {R:Type}:Lt R Dj:=(E3 (pat:=Dj) 6 (fun d k=>(Axh d).bind (Afl k)) (E3 (pat:=Dj) 11 (fun d k=>(At0 d).bind (Acr k)) (E3 (pat:=Dj) 21 (fun d k=>Ug d.1 d.2.1 d.2.2.1 d.2.2.2.1 d.2.2.2.2.1 (At1 k)) F8)))
theorem Us:Ax Tryz.prog Ur where
 sd:=Az9 (l:=[(90,Hc),(112,Hd)]) ⟨Mv,Qj,trivial⟩
 inl:=fun f fn h=>by cases h
 cc:=fun f BT h=>by cases h
 st:=fun f BT e h=>by cases h
 srt:=fun fs fc BT U e h=>by cases h; exact ⟨⟨_,Tryz.func143,by kernel_rfl,by kernel_rfl⟩,Bfl⟩
theorem At2 {R:Type}:A4 Tryz.prog R 79 0 Dj Xm Acp:=
 Bhb (cfg:=⟨Ur,0,79,Dj⟩) (key:=21) (it:=.tmp 59) (sl:=60) (ii:=2) (xid:=4) (t:=.str) (by kernel_rfl) (by kernel_rfl) Us rfl rfl rfl (by kernel_rfl) (by kernel_rfl) (xs:=fun d=>d.1) (left:=fun d=>d.2.1) (cur:=fun d=>d.2.2.1) (fun d=>rfl) (fun d=>rfl)
  (stp:=fun d e l=>Ox d.1 d.2.1 d.2.2.1 d.2.2.2.1 d.2.2.2.2.1 e.1 e.2 l) (fin:=fun d=>Acq d.1 d.2.1 d.2.2.1 d.2.2.2.1 d.2.2.2.2.1) (fun d e l=>by obtain ⟨i2,l2,c2,r3,r4,⟨⟩⟩:=d; obtain ⟨e0,e1⟩:=e; kernel_rfl) (fun d=>by obtain ⟨i2,l2,c2,r3,r4,⟨⟩⟩:=d; kernel_rfl) (fun d k=>rfl)
theorem At3 {R:Type}:A4 Tryz.prog R 79 0 Dj Xm Aco:=
 Cj (cfg:=⟨Ur,0,79,Dj⟩) 11 [] (fun NX X d=>(u4 (Ab Ae)) (Mh  NX X) d) (fun m d=>(u4 (Ab Ae)) (Dt m) d) (fun d=>(u4 (Ab Ae)) Jq d) Acr Us trivial (fun f NX d=>by simp only [u4,Ab,Ae]; unfold Mh; simp only [nb])
theorem Axi {R:Type}:A4 Tryz.prog R 79 0 Dj Xm Afk:=
 Cj (cfg:=⟨Ur,0,79,Dj⟩) 6 [] (fun NX X d=>(u4 (Ab (Ab Ae))) (Nb  NX X) d) (fun m d=>(u4 (Ab (Ab Ae))) (Ed m) d) (fun d=>(u4 (Ab (Ab Ae))) Ky d) Afl Us trivial (fun f NX d=>by simp only [u4,Ab,Ae]; unfold Nb; simp only [nb])
theorem A4a:Bm Tryz.prog 96 Aln:=
 Aw (pat:=Dj) [Afk,Aco,Acp] Xm Us ⟨Axi,At3,At2,trivial⟩ Tryz.func96 (de:=fun x=>Aan x.1 x.2.1) (fun x r h=>(A39 x.1 x.2.1).trans h) fun _=>by kernel_rfl
def Mi (s:Dh):Option Dh:=if s.1.length≤1000000 then some (s.1,()) else none
def Aq1:E5:=⟨[.rd B6],[some 1],[.own 136 Aq],[some 1]⟩
def s9:SD:=⟨Aq1,fun x=>(Mi x.1).bind fun r=>some ((r.1,()),(()))⟩
def Sp (a0:Dh):Option ((Dh×(Unit))):=
 bif decide ((0 + List.length a0.1) * 32≤140737488355328) then some (([]++a0.1,()),()) else none
theorem Aq2 (a0:Dh) r (h:Mi a0=some r):Sp a0=some ((r.1,()),(())):=by
 unfold Mi at h
 split at h
 ·rename_i hc
  cases h
  unfold Sp
  rw [Ap (show (0 + a0.1.length) * 32≤140737488355328 by omega)]
  rfl
 ·cases h
theorem Aq3:Bm Tryz.prog 57 s9:=
 Aw (pat:=Co) [] F8 (Ay (l:=[]) trivial) trivial Tryz.func57 (de:=fun x=>Sp x.1) (fun x r h=>A2 (Aq2 x.1) h) fun _=>by kernel_rfl
def Zz (e:Aa) (life first w:Int):Option (List Aa):=if e.size≤1048576 then some (A0c e life first w) else none
def Nj (v0:Aa) (v1 v2 v3 v9 v11:Int) (r0:List Aa):Nat:=(v9 - v11).toNat + 1
def Baw:E5:=⟨[.rd .str,.rd tI,.rd tI,.rd tI],[none,none,none,none],[.own 9 .str],[none]⟩
def Avt:SD:=⟨Baw,fun x=>(Zz x.1 x.2.1 x.2.2.1 x.2.2.2.1).bind fun r=>some ((r,()),(()))⟩
def Avu:Tb:=tb [(56,D4),(98,Jo),(146,Aak),(157,Sh)]
def Q4:Nat→Da×(Nat→Da):=Gs [(7,⟨[.row 10 0 9 .str],[(0,.lf (.d .str)),(1,.lf (.d tI)),(2,.lf (.d tI)),(3,.lf (.d tI)),(9,.lf (.d tI)),(10,.lf (.row 0)),(11,.lf (.d tI))],[.row 9 .str]⟩,[(2,⟨[.row 10 0 9 .str],[(10,.lf (.row 0))],[.row 9 .str]⟩)])]
def Alo:Code:=(At (Bc Tryz.f113)).getD 0 .skip
def Pp {R:Type}  (NX:((Aa)×(Int)×(Int)×(Int)×(Int)×(Int)×(List Aa)×Unit)→Option R) (X2:((List Aa)×Unit)→Option R) (v0:Aa) (v1:Int) (v2:Int) (v3:Int) (v9:Int) (v11:Int) (r0:List Aa):Option R:=
 bif decide (v11 < v9) then bif v11==IntKind.i64.wrap (v9 - 1) then bif decide ((r0.length + [Dd (2,v1,IntKind.i64.wrap (v2 + v11),v0,()) v3].length) * 16≤140737488355328) then NX (v0,v1,v2,v3,v9,IntKind.i64.wrap (v11 + 1),r0++[Dd (2,v1,IntKind.i64.wrap (v2 + v11),v0,()) v3],()) else none else bif decide (0≤IntKind.i64.wrap (IntKind.i64.wrap (64 - v3) - 8)) then bif decide (IntKind.i64.wrap (IntKind.i64.wrap (64 - v3) - 8)≤nI v0.size) then bif decide (0≤IntKind.i64.wrap (IntKind.i64.wrap (64 - v3) - 8)) then bif decide (IntKind.i64.wrap (IntKind.i64.wrap (64 - v3) - 8)≤nI v0.size) then bif decide ((r0.length + [Dd (1,v1,IntKind.i64.wrap (v2 + v11),Ao v0 0 (IntKind.i64.wrap (IntKind.i64.wrap (64 - v3) - 8)),()) v3].length) * 16≤140737488355328) then NX (Ao v0 (IntKind.i64.wrap (IntKind.i64.wrap (64 - v3) - 8)) (nI v0.size),v1,v2,v3,v9,IntKind.i64.wrap (v11 + 1),r0++[Dd (1,v1,IntKind.i64.wrap (v2 + v11),Ao v0 0 (IntKind.i64.wrap (IntKind.i64.wrap (64 - v3) - 8)),()) v3],()) else none else none else none else none else none else X2 (r0,())
def Hp:Nat→(Aa)→(Int)→(Int)→(Int)→(Int)→(Int)→(List Aa) →  Option ((List Aa)×Unit)
 | 0,_,_,_,_,_,_,_=>none
 | m + 1,v0,v1,v2,v3,v9,v11,r0=>Pp  (fun d=>Hp m d.1 d.2.1 d.2.2.1 d.2.2.2.1 d.2.2.2.2.1 d.2.2.2.2.2.1 d.2.2.2.2.2.2.1) (fun d=>some (d)) v0 v1 v2 v3 v9 v11 r0
def A4b (d:(Aa)×(Int)×(Int)×(Int)×(Int)×(Int)×(List Aa)×Unit):Option ((List Aa)×Unit):=(u4 (Ab (Ab (Ab Ae)))) (Hp ((u4 (Ab (Ab (Ab Ae)))) Nj d)) d
def Aiv (a0:Aa) (a1 a2 a3:Int):Option ((((List Aa)×Unit)×(Unit))):=
 ((Mx a0 a3).bind fun val=>some ((val,()),())).bind fun val=>bif val.1.1==0 then some (([],()),()) else bif !Bs a1 1 60000 then some (([],()),()) else bif decide (a2 < 1) then some (([],()),()) else bif decide (a2 > IntKind.i64.wrap (IntKind.i64.wrap (1000000000 - val.1.1) + 1)) then some (([],()),()) else ((fun d=>Hp (Nj d.1 d.2.1 d.2.2.1 d.2.2.2.1 d.2.2.2.2.1 d.2.2.2.2.2.1 d.2.2.2.2.2.2.1) d.1 d.2.1 d.2.2.1 d.2.2.2.1 d.2.2.2.2.1 d.2.2.2.2.2.1 d.2.2.2.2.2.2.1) (a0,a1,a2,a3,val.1.1,0,[],())).bind fun val=>some (val,())
theorem Bh4 (life first w:Int) (n N:Nat) (hn:56 - w=(n:Int)) (hw1:1≤w) (hw8:w≤8) (hf1:1≤first) (hf2:first≤1000000000) (hN:N≤2000000):∀ (f m i:Nat) (s:Aa) (r:List Aa),s.size≤f→i + (Gz n f s).length=N→(Gz n f s).length < m→r.length=i→
  Hp m s life first w N i r=some (r++A5f life w (first + (i:Int)) (Gz n f s),()):=by
 have one:∀ (m i:Nat) (s:Aa) (r:List Aa),i + 1=N→1 < m→r.length=i→Hp m s life first w N i r=some (r++A5f life w (first + (i:Int)) [s],()):=by
  intro m i s r hi hm hr
  obtain ⟨m,rfl⟩:∃ k,m=k + 2:=⟨m - 2,by omega⟩
  simp only [Hp,Pp]
  rw [Ap (show (i:Int) < (N:Int) by omega),Aj (n:=(N:Int) - 1) (by omega) (by omega),show (N:Int) - 1=(i:Int) by omega,beq_self_eq_true,Aj (n:=first + (i:Int)) (by omega) (by omega),Aj (n:=(i:Int) + 1) (by omega) (by omega),Nz,Ap (show (r.length + 1) * 16≤140737488355328 by omega),Bd (show ¬ ((i:Int) + 1 < (N:Int)) by omega)]
  rfl
 intro f
 induction f with
 | zero=>
  intro m i s r hs hi hm hr
  exact one m i s r hi hm hr
 | succ f ih=>
  intro m i s r hs hi hm hr
  by_cases q:s.size > n
  ·simp only [Gz,if_pos q,List.length_cons] at hi hm ⊢
   have hc:(Ao s n (nI s.size)).size=s.size - n:=by rw [G3 (by omega) (by simp only [nI]; omega) (by simp [nI])]; simp only [nI]; omega
   obtain ⟨m,rfl⟩:∃ k,m=k + 1:=⟨m - 1,by omega⟩
   have hL:1≤(Gz n f (Ao s n (nI s.size))).length:=by
    cases f with
    | zero=>simp [Gz]
    | succ f=>unfold Gz; split<;>simp
   have ih:=ih m (i + 1) (Ao s n (nI s.size)) (r++[E7 (1,life,first + (i:Int),Ao s 0 n,()) w]) (by omega) (by omega) (by omega) (by rw [Lw,Nz,hr])
   simp only [Hp,Pp]
   rw [Ap (show (i:Int) < (N:Int) by omega),Aj (n:=(N:Int) - 1) (by omega) (by omega),beq_eq_false_iff_ne.2 (show (i:Int)≠(N:Int) - 1 by omega),Aj (n:=first + (i:Int)) (by omega) (by omega),wI (show i < 4611686018427387904 by omega),Aj (n:=64 - w) (by omega) (by omega),Aj (n:=64 - w - 8) (by omega) (by omega),show 64 - w - 8=(n:Int) by omega,Ap (show (0:Int)≤(n:Int) by omega),Ap (show (n:Int)≤nI s.size by simp only [nI]; omega),Nz,Nz,Ap (show (r.length + 1) * 16≤140737488355328 by omega)]
   refine Eq.trans ih ?_
   rw [List.append_assoc,show first + ((i + 1:Nat):Int)=first + (i:Int) + 1 by omega]
   generalize Gz n f (Ao s n (nI s.size))=L at *
   cases L with
   | nil=>simp at hL
   | cons a b=>rfl
  ·simp only [Gz,if_neg q,Nz] at hi hm ⊢
   exact one m i s r hi hm hr
theorem Bax (a0:Aa) (a1 a2 a3:Int) r (h:Zz a0 a1 a2 a3=some r):Aiv a0 a1 a2 a3=some ((r,()),(())):=by
 unfold Zz at h
 split at h
 rotate_left
 ·cases h
 rename_i hc
 cases h
 have n1:Mx a0 a3=some (Gy a0.size a3):=if_pos (by omega)
 unfold Aiv A0c
 refine d6 (d6 n1 rfl) ?_
 show (bif Gy a0.size a3==0 then _ else (bif !Fg a1 1 60000 then _ else _))=_
 cases hw:Fg a3 1 8 with
 | false=>
  have:Gy a0.size a3=0:=by unfold Gy; rw [hw]; rfl
  rw [this]
  rfl
 | true=>
  obtain ⟨k1,k2⟩:=Iu hw
  have hp:=Amg (s:=a0) hw
  have hP:Gy a0.size a3=((Dl a0 a3).length:Int):=by unfold Gy; rw [hw]; exact hp.symm
  have hlen:(Dl a0 a3).length≤a0.size + 1:=Ag2 _ _ _
  have h1:1≤(Dl a0 a3).length:=by
   have:(1:Int)≤((Dl a0 a3).length:Int):=by rw [hp]; split<;>omega
   omega
  rw [hP,beq_eq_false_iff_ne.2 (show ((Dl a0 a3).length:Int)≠0 by omega)]
  cases hl:Fg a1 1 60000 with
  | false=>rfl
  | true=>
   show (bif decide (a2 < 1) then _ else (bif decide (a2 > IntKind.i64.wrap (IntKind.i64.wrap (1000000000 - ((Dl a0 a3).length:Int)) + 1)) then _ else (Option.bind (Hp (Nj a0 a1 a2 a3 ((Dl a0 a3).length:Int) 0 []) a0 a1 a2 a3 ((Dl a0 a3).length:Int) 0 []) _)))=_
   rw [Aj (n:=1000000000 - ((Dl a0 a3).length:Int)) (by omega) (by omega),Aj (n:=1000000000 - ((Dl a0 a3).length:Int) + 1) (by omega) (by omega)]
   by_cases q1:a2 < 1
   ·rw [Ap q1,Bd (show ¬ 1≤a2 by omega)]; rfl
   ·rw [Bd q1,Ap (show 1≤a2 by omega)]
    by_cases q2:a2 > 1000000000 - ((Dl a0 a3).length:Int) + 1
    ·rw [Ap q2,Bd (show ¬ a2≤1000000000 - ((Dl a0 a3).length:Int) + 1 by omega)]; rfl
    ·rw [Bd q2,Ap (show a2≤1000000000 - ((Dl a0 a3).length:Int) + 1 by omega)]
     obtain ⟨n,hn⟩:∃ n:Nat,56 - a3=(n:Int):=⟨(56 - a3).toNat,by omega⟩
     have hS:Dl a0 a3=Gz n a0.size a0:=by unfold Dl; rw [hn,Eo]
     have hL:=Bh4 a1 a2 a3 n (Dl a0 a3).length hn k1 k2 (by omega) (by omega) (by omega) a0.size (Nj a0 a1 a2 a3 ((Dl a0 a3).length:Int) 0 []) 0 a0 [] (Nat.le_refl _) (by rw [← hS]; omega) (by rw [← hS]; simp only [Nj]; omega) rfl
     rw [← hS,List.nil_append,show a2 + ((0:Nat):Int)=a2 by omega] at hL
     exact d6 hL rfl
def Alp {R:Type} (k:Kt R):=(Ko (Q4 7) (.exit 0) 2 k)
def A2p {R:Type}:Lt R Q4:=(E3 (pat:=Q4) 7 (fun d k=>(A4b d).bind (Alp k)) F8)
theorem Avv:Ax Tryz.prog Avu:=Ay ⟨Et,Mg,Ale,Xl,trivial⟩
theorem A4c {R:Type}:A4 Tryz.prog R 67 0 Q4 A2p Alo:=
 Cj (cfg:=⟨Avu,0,67,Q4⟩) 7 [] (fun NX X d=>(u4 (Ab (Ab (Ab Ae)))) (Pp  NX X) d) (fun m d=>(u4 (Ab (Ab (Ab Ae)))) (Hp m) d) (fun d=>(u4 (Ab (Ab (Ab Ae)))) Nj d) Alp Avv trivial (fun f NX d=>by simp only [u4,Ab,Ae]; unfold Pp; simp only [nb])
theorem Bay:Bm Tryz.prog 113 Avt:=
 Aw (pat:=Q4) [Alo] A2p Avv ⟨A4c,trivial⟩ Tryz.func113 (de:=fun x=>Aiv x.1 x.2.1 x.2.2.1 x.2.2.2.1) (fun x r h=>A2 (Bax x.1 x.2.1 x.2.2.1 x.2.2.2.1) h) fun _=>by kernel_rfl
def Kz (r:Rt) (w:Int):Aa:=Aa4 r w
def At4:E5:=⟨[.rd yRt,.rd tI],[some 4,none],[.rd .str],[none]⟩
def Acs:SD:=⟨At4,fun x=>some (((Kz x.1 x.2.1),()),(()))⟩
def Uh (a0:Rt) (a1:Int):Option ((((Aa)×Unit)×(Unit))):=
 bif !Hf a0 then some ((Ac,()),()) else some ((Dd (4,a0.2.2.2.1,a0.1,Dy a0.2.1 (Int.toNat 1)++Dy a0.2.2.1 (Int.toNat 4),()) a1,()),())
theorem At5 (a0:Rt) (a1:Int):Uh a0 a1=some (((Kz a0 a1),()),(())):=by
 unfold Uh Kz Aa4
 show (bif !P3 a0 then _ else _)=_
 cases P3 a0<;>rfl
theorem At6:Bm Tryz.prog 151 Acs:=
 Aw (pat:=Co) [] F8 (Ay (l:=[(98,Jo),(137,Nu),(148,T7)]) ⟨Mg,Sj,Ad3,trivial⟩) trivial Tryz.func151 (de:=fun x=>Uh x.1 x.2.1) (fun x r h=>(At5 x.1 x.2.1).trans h) fun _=>by kernel_rfl
def Vf (s:Ls) (life:Int):Option (Ls×List Ny×Bool):=if A61 s then some (Apa s life) else none
def A7w:E5:=⟨[.rd Il,.rd tI],[some 10,none],[.rd tI,.rd tI,.rd tI,.rd tI,.rd tI,.rd tI,.rd tI,.rd tI,.rd tI,.own 136 Aq,.own 103 P2,.rd .bool],[some 10,none,none]⟩
def Aq4:SD:=⟨A7w,fun x=>(Vf x.1 x.2.1).bind fun r=>some ((r.1.1,r.1.2.1,r.1.2.2.1,r.1.2.2.2.1.1,r.1.2.2.2.1.2.1,r.1.2.2.2.1.2.2.1,r.1.2.2.2.1.2.2.2.1,r.1.2.2.2.2.1,r.1.2.2.2.2.2.1,r.1.2.2.2.2.2.2.1.1,r.2.1,r.2.2,()),(()))⟩
def Ad7:Tb:=tb [(57,s9),(91,Od),(94,Aam),(98,Jo),(113,Avt),(114,Se),(145,T9),(151,Acs)]
def Hq:Nat→Da×(Nat→Da):=Gs [(8,⟨[.row 9 0 9 .str,.sl 52 0 (.sl Ff),.boxSl 2 9 Aq,.boxRow 4 9 136 Aq],[(1,.lf (.d tI)),(2,.lf (.ptr 0 0)),(4,.lf (.ptr 1 0)),(8,.lf (.ptr 2 0)),(9,.lf (.row 3)),(52,.lf (.d (.sl (.sl Ff)))),(53,.lf (.d tI)),(54,.lf (.d tI))],[.box 47 [.d Il],.box 47 [.d tI,.d tI,.d tI,.d tI,.d tI,.d tI,.d tI,.d tI,.d tI,.row 4],.box 45 [.d yRt],.row 9 .str,.row 136 Aq]⟩,[(2,⟨[.row 9 0 9 .str,.boxSl 2 9 Aq,.boxRow 4 9 136 Aq],[(1,.lf (.d tI)),(2,.lf (.ptr 0 0)),(4,.lf (.ptr 1 0)),(8,.lf (.ptr 2 0)),(9,.lf (.row 3))],[.box 47 [.d Il],.box 47 [.d tI,.d tI,.d tI,.d tI,.d tI,.d tI,.d tI,.d tI,.d tI,.row 4],.box 45 [.d yRt],.row 9 .str,.row 136 Aq]⟩)]),(14,⟨[.sl 9 0 .str,.row 12 0 103 P2,.sl 72 0 .str,.boxSl 2 9 Aq,.boxRow 4 9 136 Aq],[(1,.lf (.d tI)),(2,.lf (.ptr 0 0)),(4,.lf (.ptr 1 0)),(8,.lf (.ptr 2 0)),(9,.lf (.d (.sl .str))),(12,.lf (.row 3)),(72,.lf (.d (.sl .str))),(73,.lf (.d tI)),(74,.lf (.d tI))],[.box 47 [.d Il],.box 47 [.d tI,.d tI,.d tI,.d tI,.d tI,.d tI,.d tI,.d tI,.d tI,.row 4],.box 45 [.d yRt],.row 103 P2,.row 136 Aq]⟩,[(4,⟨[.sl 9 0 .str,.row 12 0 103 P2,.boxSl 2 9 Aq,.boxRow 4 9 136 Aq],[(1,.lf (.d tI)),(2,.lf (.ptr 0 0)),(4,.lf (.ptr 1 0)),(8,.lf (.ptr 2 0)),(9,.lf (.d (.sl .str))),(12,.lf (.row 3))],[.box 47 [.d Il],.box 47 [.d tI,.d tI,.d tI,.d tI,.d tI,.d tI,.d tI,.d tI,.d tI,.row 4],.box 45 [.d yRt],.row 103 P2,.row 136 Aq]⟩)])]
def Aiw:Code:=(At (Bc Tryz.f99)).getD 0 .skip
def Afm:Code:=(At (Bc Tryz.f99)).getD 1 .skip
def K0 (v1:Int) (v9 v72:List Aa) (v73 v74:Int) (b0:Ls) (b1_0 b1_1:Int) (b1_2 b1_3:Int) (b1_4 b1_5:Int) (b1_6 b1_7 b1_8:Int) (b2:Rt) (r3:List Ny) (r4:List Ar):Nat:=(v73 - v74).toNat + 1
def Nc {R:Type}  (NX:((Int)×(List Aa)×(List Aa)×(Int)×(Int)×Ls×(Int)×(Int)×(Int)×(Int)×(Int)×(Int)×(Int)×(Int)×(Int)×Rt×(List Ny)×(List Ar)×Unit)→Option R) (X4:((Int)×(List Aa)×Ls×(Int)×(Int)×(Int)×(Int)×(Int)×(Int)×(Int)×(Int)×(Int)×Rt×(List Ny)×(List Ar)×Unit)→Option R) (v1:Int) (v9:List Aa) (v72:List Aa) (v73:Int) (v74:Int) (b0:Ls) (b1_0:Int) (b1_1:Int) (b1_2:Int) (b1_3:Int) (b1_4:Int) (b1_5:Int) (b1_6:Int) (b1_7:Int) (b1_8:Int) (b2:Rt) (r3:List Ny) (r4:List Ar):Option R:=
 bif decide (v74 < v73) then bif decide (0≤v74) then bif decide (v74 < nI v72.length) then bif decide ((r3.length + [(false,IntKind.i64.wrap (D0 b2.2.1 b0.2.1 + v74),v72.getD v74.toNat (Ac),())].length) * 32≤140737488355328) then NX (v1,v9,v72,v73,IntKind.i64.wrap (v74 + 1),b0,b1_0,b1_1,b1_2,b1_3,b1_4,b1_5,b1_6,b1_7,b1_8,b2,r3++[(false,IntKind.i64.wrap (D0 b2.2.1 b0.2.1 + v74),v72.getD v74.toNat (Ac),())],r4,()) else none else none else none else X4 (v1,v9,b0,b1_0,b1_1,b1_2,b1_3,b1_4,b1_5,b1_6,b1_7,b1_8,b2,r3,r4,())
def Ee:Nat→(Int)→(List Aa)→(List Aa)→(Int)→(Int)→Ls→(Int)→(Int)→(Int)→(Int)→(Int)→(Int)→(Int)→(Int)→(Int)→Rt→(List Ny)→(List Ar) →  Option ((Int)×(List Aa)×Ls×(Int)×(Int)×(Int)×(Int)×(Int)×(Int)×(Int)×(Int)×(Int)×Rt×(List Ny)×(List Ar)×Unit)
 | 0,_,_,_,_,_,_,_,_,_,_,_,_,_,_,_,_,_,_=>none
 | m + 1,v1,v9,v72,v73,v74,b0,b1_0,b1_1,b1_2,b1_3,b1_4,b1_5,b1_6,b1_7,b1_8,b2,r3,r4=>Nc  (fun d=>Ee m d.1 d.2.1 d.2.2.1 d.2.2.2.1 d.2.2.2.2.1 d.2.2.2.2.2.1 d.2.2.2.2.2.2.1 d.2.2.2.2.2.2.2.1 d.2.2.2.2.2.2.2.2.1 d.2.2.2.2.2.2.2.2.2.1 d.2.2.2.2.2.2.2.2.2.2.1 d.2.2.2.2.2.2.2.2.2.2.2.1 d.2.2.2.2.2.2.2.2.2.2.2.2.1 d.2.2.2.2.2.2.2.2.2.2.2.2.2.1 d.2.2.2.2.2.2.2.2.2.2.2.2.2.2.1 d.2.2.2.2.2.2.2.2.2.2.2.2.2.2.2.1 d.2.2.2.2.2.2.2.2.2.2.2.2.2.2.2.2.1 d.2.2.2.2.2.2.2.2.2.2.2.2.2.2.2.2.2.1) (fun d=>some (d)) v1 v9 v72 v73 v74 b0 b1_0 b1_1 b1_2 b1_3 b1_4 b1_5 b1_6 b1_7 b1_8 b2 r3 r4
def Axj (d:(Int)×(List Aa)×(List Aa)×(Int)×(Int)×Ls×(Int)×(Int)×(Int)×(Int)×(Int)×(Int)×(Int)×(Int)×(Int)×Rt×(List Ny)×(List Ar)×Unit):Option ((Int)×(List Aa)×Ls×(Int)×(Int)×(Int)×(Int)×(Int)×(Int)×(Int)×(Int)×(Int)×Rt×(List Ny)×(List Ar)×Unit):=(u4 (u4 (u4 (u4 (Ab (Ab Ae)))))) (Ee ((u4 (u4 (u4 (u4 (Ab (Ab Ae)))))) K0 d)) d
def Mj (v1:Int) (v52:List (List Bq)) (v53 v54:Int) (b0:Ls) (b1_0 b1_1:Int) (b1_2 b1_3:Int) (b1_4 b1_5:Int) (b1_6 b1_7 b1_8:Int) (b2:Rt) (r3:List Aa) (r4:List Ar):Nat:=(v53 - v54).toNat + 1
def Oi {R:Type}  (NX:((Int)×(List (List Bq))×(Int)×(Int)×Ls×(Int)×(Int)×(Int)×(Int)×(Int)×(Int)×(Int)×(Int)×(Int)×Rt×(List Aa)×(List Ar)×Unit)→Option R) (X2:((Int)×Ls×(Int)×(Int)×(Int)×(Int)×(Int)×(Int)×(Int)×(Int)×(Int)×Rt×(List Aa)×(List Ar)×Unit)→Option R) (v1:Int) (v52:List (List Bq)) (v53:Int) (v54:Int) (b0:Ls) (b1_0:Int) (b1_1:Int) (b1_2:Int) (b1_3:Int) (b1_4:Int) (b1_5:Int) (b1_6:Int) (b1_7:Int) (b1_8:Int) (b2:Rt) (r3:List Aa) (r4:List Ar):Option R:=
 bif decide (v54 < v53) then bif decide (0≤v54) then bif decide (v54 < nI v52.length) then ((Zz (He (v52.getD v54.toNat [])) v1 (IntKind.i64.wrap (b2.2.2.1 + nI r3.length)) b0.1).bind fun val=>some ((val,()),())).bind fun val=>bif decide ((r3.length + List.length val.1.1) * 16≤140737488355328) then NX (v1,v52,v53,IntKind.i64.wrap (v54 + 1),b0,b1_0,b1_1,b1_2,b1_3,b1_4,b1_5,b1_6,b1_7,b1_8,b2,r3++val.1.1,r4,()) else none else none else none else X2 (v1,b0,b1_0,b1_1,b1_2,b1_3,b1_4,b1_5,b1_6,b1_7,b1_8,b2,r3,r4,())
def Fa:Nat→(Int)→(List (List Bq))→(Int)→(Int)→Ls→(Int)→(Int)→(Int)→(Int)→(Int)→(Int)→(Int)→(Int)→(Int)→Rt→(List Aa)→(List Ar) →  Option ((Int)×Ls×(Int)×(Int)×(Int)×(Int)×(Int)×(Int)×(Int)×(Int)×(Int)×Rt×(List Aa)×(List Ar)×Unit)
 | 0,_,_,_,_,_,_,_,_,_,_,_,_,_,_,_,_,_=>none
 | m + 1,v1,v52,v53,v54,b0,b1_0,b1_1,b1_2,b1_3,b1_4,b1_5,b1_6,b1_7,b1_8,b2,r3,r4=>Oi  (fun d=>Fa m d.1 d.2.1 d.2.2.1 d.2.2.2.1 d.2.2.2.2.1 d.2.2.2.2.2.1 d.2.2.2.2.2.2.1 d.2.2.2.2.2.2.2.1 d.2.2.2.2.2.2.2.2.1 d.2.2.2.2.2.2.2.2.2.1 d.2.2.2.2.2.2.2.2.2.2.1 d.2.2.2.2.2.2.2.2.2.2.2.1 d.2.2.2.2.2.2.2.2.2.2.2.2.1 d.2.2.2.2.2.2.2.2.2.2.2.2.2.1 d.2.2.2.2.2.2.2.2.2.2.2.2.2.2.1 d.2.2.2.2.2.2.2.2.2.2.2.2.2.2.2.1 d.2.2.2.2.2.2.2.2.2.2.2.2.2.2.2.2.1) (fun d=>some (d)) v1 v52 v53 v54 b0 b1_0 b1_1 b1_2 b1_3 b1_4 b1_5 b1_6 b1_7 b1_8 b2 r3 r4
def A2q (d:(Int)×(List (List Bq))×(Int)×(Int)×Ls×(Int)×(Int)×(Int)×(Int)×(Int)×(Int)×(Int)×(Int)×(Int)×Rt×(List Aa)×(List Ar)×Unit):Option ((Int)×Ls×(Int)×(Int)×(Int)×(Int)×(Int)×(Int)×(Int)×(Int)×(Int)×Rt×(List Aa)×(List Ar)×Unit):=(u4 (u4 (u4 (u4 (Ab Ae))))) (Fa ((u4 (u4 (u4 (u4 (Ab Ae))))) Mj d)) d
def Ad8 (a0:Ls) (a1:Int):Option ((((Int)×(Int)×(Int)×(Int)×(Int)×(Int)×(Int)×(Int)×(Int)×(List Ar)×(List Ny)×(Bool)×Unit)×(Unit))):=
 bif decide (IntKind.i64.wrap (a0.2.2.2.1.1 + 1) > 1000000000) then some ((0,0,0,0,0,0,0,0,0,[],[],false,()),()) else bif decide (IntKind.i64.wrap (a0.2.2.2.1.2.2.1 + Bt a0.2.1) > 999999000) then some ((0,0,0,0,0,0,0,0,0,[],[],false,()),()) else ((fun d=>Fa (Mj d.1 d.2.1 d.2.2.1 d.2.2.2.1 d.2.2.2.2.1 d.2.2.2.2.2.1 d.2.2.2.2.2.2.1 d.2.2.2.2.2.2.2.1 d.2.2.2.2.2.2.2.2.1 d.2.2.2.2.2.2.2.2.2.1 d.2.2.2.2.2.2.2.2.2.2.1 d.2.2.2.2.2.2.2.2.2.2.2.1 d.2.2.2.2.2.2.2.2.2.2.2.2.1 d.2.2.2.2.2.2.2.2.2.2.2.2.2.1 d.2.2.2.2.2.2.2.2.2.2.2.2.2.2.1 d.2.2.2.2.2.2.2.2.2.2.2.2.2.2.2.1 d.2.2.2.2.2.2.2.2.2.2.2.2.2.2.2.2.1) d.1 d.2.1 d.2.2.1 d.2.2.2.1 d.2.2.2.2.1 d.2.2.2.2.2.1 d.2.2.2.2.2.2.1 d.2.2.2.2.2.2.2.1 d.2.2.2.2.2.2.2.2.1 d.2.2.2.2.2.2.2.2.2.1 d.2.2.2.2.2.2.2.2.2.2.1 d.2.2.2.2.2.2.2.2.2.2.2.1 d.2.2.2.2.2.2.2.2.2.2.2.2.1 d.2.2.2.2.2.2.2.2.2.2.2.2.2.1 d.2.2.2.2.2.2.2.2.2.2.2.2.2.2.1 d.2.2.2.2.2.2.2.2.2.2.2.2.2.2.2.1 d.2.2.2.2.2.2.2.2.2.2.2.2.2.2.2.2.1) (a1,Gw a0.2.2.2.2.2.2.1,nI ((Gw a0.2.2.2.2.2.2.1).length + false.toNat),0,a0,0,0,0,0,0,0,0,0,0,(IntKind.i64.wrap (a0.2.2.2.1.1 + 1),IntKind.i64.wrap (1 - a0.2.2.2.1.2.1),IntKind.i64.wrap (a0.2.2.2.1.2.2.1 + Bt a0.2.1),a1,()),[Dd (3,a1,IntKind.i64.wrap (a0.2.2.2.1.2.2.1 + Bt a0.2.1),Ac,()) a0.1],[],())).bind fun val=>((fun d=>Ee (K0 d.1 d.2.1 d.2.2.1 d.2.2.2.1 d.2.2.2.2.1 d.2.2.2.2.2.1 d.2.2.2.2.2.2.1 d.2.2.2.2.2.2.2.1 d.2.2.2.2.2.2.2.2.1 d.2.2.2.2.2.2.2.2.2.1 d.2.2.2.2.2.2.2.2.2.2.1 d.2.2.2.2.2.2.2.2.2.2.2.1 d.2.2.2.2.2.2.2.2.2.2.2.2.1 d.2.2.2.2.2.2.2.2.2.2.2.2.2.1 d.2.2.2.2.2.2.2.2.2.2.2.2.2.2.1 d.2.2.2.2.2.2.2.2.2.2.2.2.2.2.2.1 d.2.2.2.2.2.2.2.2.2.2.2.2.2.2.2.2.1 d.2.2.2.2.2.2.2.2.2.2.2.2.2.2.2.2.2.1) d.1 d.2.1 d.2.2.1 d.2.2.2.1 d.2.2.2.2.1 d.2.2.2.2.2.1 d.2.2.2.2.2.2.1 d.2.2.2.2.2.2.2.1 d.2.2.2.2.2.2.2.2.1 d.2.2.2.2.2.2.2.2.2.1 d.2.2.2.2.2.2.2.2.2.2.1 d.2.2.2.2.2.2.2.2.2.2.2.1 d.2.2.2.2.2.2.2.2.2.2.2.2.1 d.2.2.2.2.2.2.2.2.2.2.2.2.2.1 d.2.2.2.2.2.2.2.2.2.2.2.2.2.2.1 d.2.2.2.2.2.2.2.2.2.2.2.2.2.2.2.1 d.2.2.2.2.2.2.2.2.2.2.2.2.2.2.2.2.1 d.2.2.2.2.2.2.2.2.2.2.2.2.2.2.2.2.2.1) (val.1,val.2.2.2.2.2.2.2.2.2.2.2.2.1,val.2.2.2.2.2.2.2.2.2.2.2.2.1,nI val.2.2.2.2.2.2.2.2.2.2.2.2.1.length,0,val.2.1,val.2.2.1,val.2.2.2.1,val.2.2.2.2.1,val.2.2.2.2.2.1,val.2.2.2.2.2.2.1,val.2.2.2.2.2.2.2.1,val.2.2.2.2.2.2.2.2.1,val.2.2.2.2.2.2.2.2.2.1,val.2.2.2.2.2.2.2.2.2.2.1,val.2.2.2.2.2.2.2.2.2.2.2.1,[],val.2.2.2.2.2.2.2.2.2.2.2.2.2)).bind fun val=>bif decide ((val.2.2.2.2.2.2.2.2.2.2.2.2.2.1.length + [(true,0,Ac,()),(false,Int.tmod val.2.2.2.2.2.2.2.2.2.2.2.2.1.1 2,Kz val.2.2.2.2.2.2.2.2.2.2.2.2.1 val.2.2.1.1,()),(true,0,Ac,())].length) * 32≤140737488355328) then ((Mi val.2.2.1.2.2.2.2.2.2.1).bind fun val=>some (val,())).bind fun val_1=>some ((val.2.2.1.1,val.2.2.1.2.1,val.1,val.2.2.2.2.2.2.2.2.2.2.2.2.1.1,val.2.2.2.2.2.2.2.2.2.2.2.2.1.2.1,val.2.2.2.2.2.2.2.2.2.2.2.2.1.2.2.1,val.2.2.2.2.2.2.2.2.2.2.2.2.1.2.2.2.1,nI (List.length val.2.1),0,val_1.1.1,val.2.2.2.2.2.2.2.2.2.2.2.2.2.1++[(true,0,Ac,()),(false,Int.tmod val.2.2.2.2.2.2.2.2.2.2.2.2.1.1 2,Kz val.2.2.2.2.2.2.2.2.2.2.2.2.1 val.2.2.1.1,()),(true,0,Ac,())],true,()),()) else none
theorem Bcs (v1:Int) (s:Ls) (R:Rt) (S:List (List Bq)) (L:List Aa) (hS:S.length≤101) (hF:0≤R.2.2.1∧R.2.2.1≤1000000099) (hL:L.length≤1):
  Fa (Mj v1 S (nI S.length) 0 s 0 0 0 0 0 0 0 0 0 R L []) v1 S (nI S.length) 0 s 0 0 0 0 0 0 0 0 0 R L []=
  some (v1,s,0,0,0,0,0,0,0,0,0,R,Gu (fun _ b L=>Adt s.1 v1 R.2.2.1 b L) 0 S L,[],()):=by
 have hL:=G4 (xs:=S) [] MvI (fun _ b L=>Adt s.1 v1 R.2.2.1 b L) (g:=fun m i L=>Fa m v1 S (nI S.length) i s 0 0 0 0 0 0 0 0 0 R L []) (ok:=fun L=>(v1,s,0,0,0,0,0,0,0,0,0,R,L,[],())) (fun m i L hi hI=>by
   show Fa (m + 1) v1 S (nI S.length) i s 0 0 0 0 0 0 0 0 0 R L []=_
   simp only [Fa,Oi]
   obtain ⟨h1,h2⟩:=hI
   rw [Qv hi,Gt,wI (show i < 4611686018427387904 by omega),Eo]
   have e0:IntKind.i64.wrap (R.2.2.1 + nI L.length)=R.2.2.1 + (L.length:Int):=by simp only [nI]; exact Aj (by omega) (by omega)
   have e1:Zz (He (List.getD S i [])) v1 (R.2.2.1 + (L.length:Int)) s.1=some (A0c (Hu (List.getD S i [])) v1 (R.2.2.1 + (L.length:Int)) s.1):=if_pos (Nat.le_trans (P7 _) (by decide))
   rw [e0,e1]
   simp only [cond_true,Option.bind_some]
   have e2:=A62 (List.getD S i []) v1 (R.2.2.1 + (L.length:Int)) s.1
   rw [Ap (show (L.length + (A0c (Hu (List.getD S i [])) v1 (R.2.2.1 + (L.length:Int)) s.1).length) * 16≤140737488355328 by omega)]
   rfl) (fun i L hi hI=>hI.step (by omega) _ _ _ _) (fun m L hI=>by
   show Fa (m + 1) v1 S (nI S.length) (S.length:Int) s 0 0 0 0 0 0 0 0 0 R L []=_
   simp only [Fa,Oi]
   rw [Jx]
   rfl) (Mj v1 S (nI S.length) 0 s 0 0 0 0 0 0 0 0 0 R L []) 0 L (by omega) (by simp [Mj,nI]) ⟨by omega,by omega⟩
 exact hL
theorem Baz (v1:Int) (s:Ls) (R:Rt) (L:List Aa) (hL:L.length≤500000) (hH:0≤R.2.1∧R.2.1≤1):
  Ee (K0 v1 L L (nI L.length) 0 s 0 0 0 0 0 0 0 0 0 R [] []) v1 L L (nI L.length) 0 s 0 0 0 0 0 0 0 0 0 R [] []=
  some (v1,L,s,0,0,0,0,0,0,0,0,0,R,Lq (Ck R.2.1 s.2.1) L,[],()):=by
 have hh:=Qx s.2.1
 have hm:0≤R.2.1 * Au s.2.1∧R.2.1 * Au s.2.1≤99:=by
  have:R.2.1=0∨R.2.1=1:=by omega
  rcases this with e | e<;>rw [e]<;>omega
 have e0:D0 R.2.1 s.2.1=Ck R.2.1 s.2.1:=by
  show IntKind.i64.wrap (2 + IntKind.i64.wrap (R.2.1 * Au s.2.1))=2 + R.2.1 * Au s.2.1
  rw [Aj (n:=R.2.1 * Au s.2.1) (by omega) (by omega),Aj (by omega) (by omega)]
 have hB:0≤Ck R.2.1 s.2.1∧Ck R.2.1 s.2.1≤101:=by unfold Ck; omega
 have hL:=G4 (xs:=L) z0 (fun i (r:List Ny)=>i≤500000∧r.length=i) (fun (i:Nat) x r=>r++[Asn (Ck R.2.1 s.2.1 + (i:Int)) x]) (g:=fun m i r=>Ee m v1 L L (nI L.length) i s 0 0 0 0 0 0 0 0 0 R r []) (ok:=fun r=>(v1,L,s,0,0,0,0,0,0,0,0,0,R,r,[],())) (fun m i r hi hI=>by
   show Ee (m + 1) v1 L L (nI L.length) i s 0 0 0 0 0 0 0 0 0 R r []=_
   simp only [Ee,Nc]
   obtain ⟨h1,h2⟩:=hI
   rw [Qv hi,Gt,wI (show i < 4611686018427387904 by omega),Eo,e0,Aj (n:=Ck R.2.1 s.2.1 + (i:Int)) (by omega) (by omega),Nz,Ap (show (r.length + 1) * 32≤140737488355328 by omega)]
   rfl) (fun i r hi hI=>⟨by omega,by rw [Lw,Nz,hI.2]⟩) (fun m r hI=>by
   show Ee (m + 1) v1 L L (nI L.length) (L.length:Int) s 0 0 0 0 0 0 0 0 0 R r []=_
   simp only [Ee,Nc]
   rw [Jx]
   rfl) (K0 v1 L L (nI L.length) 0 s 0 0 0 0 0 0 0 0 0 R [] []) 0 [] (by omega) (by simp [K0,nI]) ⟨by omega,rfl⟩
 rw [A5p,List.drop_zero,List.nil_append,show Ck R.2.1 s.2.1 + ((0:Nat):Int)=Ck R.2.1 s.2.1 by omega] at hL
 exact hL
theorem A7x (a0:Ls) (a1:Int) r (h:Vf a0 a1=some r):Ad8 a0 a1=some ((r.1.1,r.1.2.1,r.1.2.2.1,r.1.2.2.2.1.1,r.1.2.2.2.1.2.1,r.1.2.2.2.1.2.2.1,r.1.2.2.2.1.2.2.2.1,r.1.2.2.2.2.1,r.1.2.2.2.2.2.1,r.1.2.2.2.2.2.2.1.1,r.2.1,r.2.2,()),(())):=by
 unfold Vf at h
 split at h
 rotate_left
 ·cases h
 rename_i hk
 cases h
 obtain ⟨⟨t0,t1⟩,⟨h0,h1⟩,⟨f0,f1⟩,hp⟩:=hk
 have hh:=Qx a0.2.1
 unfold Ad8 Apa
 simp only [Bt,Gw,Dd,Kz]
 show (bif decide (IntKind.i64.wrap (a0.2.2.2.1.1 + 1) > 1000000000) then _ else bif decide (IntKind.i64.wrap (a0.2.2.2.1.2.2.1 + Au a0.2.1) > 999999000) then _ else _)=_
 rw [Aj (n:=a0.2.2.2.1.1 + 1) (by omega) (by omega),Aj (n:=a0.2.2.2.1.2.2.1 + Au a0.2.1) (by omega) (by omega),Aj (n:=1 - a0.2.2.2.1.2.1) (by omega) (by omega)]
 cases hc1:decide (a0.2.2.2.1.1 + 1 > 1000000000) with
 | true=>rfl
 | false=>
  cases hc2:decide (a0.2.2.2.1.2.2.1 + Au a0.2.1 > 999999000) with
  | true=>rfl
  | false=>
   simp only [cond_false]
   have hL1:=Bcs a1 a0 ((a0.2.2.2.1.1 + 1),(1 - a0.2.2.2.1.2.1),(a0.2.2.2.1.2.2.1 + Au a0.2.1),a1,()) (Eh a0.2.2.2.2.2.2.1) [E7 (3,a1,a0.2.2.2.1.2.2.1 + Au a0.2.1,z0,()) a0.1] (Xs _) ⟨by dsimp only; omega,by dsimp only; omega⟩ (Nat.le_refl 1)
   have hL2:=Baz a1 a0 ((a0.2.2.2.1.1 + 1),(1 - a0.2.2.2.1.2.1),(a0.2.2.2.1.2.2.1 + Au a0.2.1),a1,()) (mvL a0 a1) (A63 a0 a1) ⟨by dsimp only; omega,by dsimp only; omega⟩
   have hl:=A63 a0 a1
   have e1:Mi (a0.2.2.2.2.2.2.1.1,())=some (a0.2.2.2.2.2.2.1.1,()):=if_pos hp
   have e2:decide (((Lq (Ck (1 - a0.2.2.2.1.2.1) a0.2.1) (mvL a0 a1)).length + 3) * 32≤140737488355328)=true:=Ap (by rw [Ajv]; omega)
   refine Aae hL1 ?_
   dsimp only
   refine Aae hL2 ?_
   dsimp only
   simp only [List.length_cons,List.length_nil,Nat.zero_add,Nat.reduceAdd]
   rw [e2,e1]
   rfl
def Aix {R:Type} (k:Kt R):=(Ko (Hq 8) (.exit 0) 2 k)
def Afn {R:Type} (k:Kt R):=(Ko (Hq 14) (.exit 2) 4 k)
def Aiy {R:Type}:Lt R Hq:=(E3 (pat:=Hq) 8 (fun d k=>(A2q d).bind (Aix k)) (E3 (pat:=Hq) 14 (fun d k=>(Axj d).bind (Afn k)) F8))
theorem Ad9:Ax Tryz.prog Ad7:=Ay ⟨Aq3,Sb,Alm,Mg,Bay,p8,Aci,At6,trivial⟩
theorem Axk {R:Type}:A4 Tryz.prog R 119 0 Hq Aiy Afm:=
 Cj (cfg:=⟨Ad7,0,119,Hq⟩) 14 [] (fun NX X d=>(u4 (u4 (u4 (u4 (Ab (Ab Ae)))))) (Nc  NX X) d) (fun m d=>(u4 (u4 (u4 (u4 (Ab (Ab Ae)))))) (Ee m) d) (fun d=>(u4 (u4 (u4 (u4 (Ab (Ab Ae)))))) K0 d) Afn Ad9 trivial (fun f NX d=>by simp only [u4,Ab,Ae]; unfold Nc; simp only [nb])
theorem A2r {R:Type}:A4 Tryz.prog R 119 0 Hq Aiy Aiw:=
 Cj (cfg:=⟨Ad7,0,119,Hq⟩) 8 [] (fun NX X d=>(u4 (u4 (u4 (u4 (Ab Ae))))) (Oi  NX X) d) (fun m d=>(u4 (u4 (u4 (u4 (Ab Ae))))) (Fa m) d) (fun d=>(u4 (u4 (u4 (u4 (Ab Ae))))) Mj d) Aix Ad9 trivial (fun f NX d=>by simp only [u4,Ab,Ae]; unfold Oi; simp only [nb])
theorem A7y:Bm Tryz.prog 99 Aq4:=
 Aw (pat:=Hq) [Aiw,Afm] Aiy Ad9 ⟨A2r,Axk,trivial⟩ Tryz.func99 (de:=fun x=>Ad8 x.1 x.2.1) (fun x r h=>A2 (A7x x.1 x.2.1) h) fun _=>by kernel_rfl
def Bk (d:Dk) (w:Int):Don:=Apb d w
def A7z:E5:=⟨[.rd Uw,.rd tI],[some 2,none],[.rd tI,.rd tI,.rd tI,.rd tI,.rd tI,.rd tI,.rd tI,.rd tI,.rd tI,.rd tI,.own 136 Aq,.own 103 P2],[some 12]⟩
def Aq5:SD:=⟨A7z,fun x=>some (((Bk x.1 x.2.1).1,(Bk x.1 x.2.1).2.1.1,(Bk x.1 x.2.1).2.1.2.1,(Bk x.1 x.2.1).2.1.2.2.1,(Bk x.1 x.2.1).2.1.2.2.2.1.1,(Bk x.1 x.2.1).2.1.2.2.2.1.2.1,(Bk x.1 x.2.1).2.1.2.2.2.1.2.2.1,(Bk x.1 x.2.1).2.1.2.2.2.1.2.2.2.1,(Bk x.1 x.2.1).2.1.2.2.2.2.1,(Bk x.1 x.2.1).2.1.2.2.2.2.2.1,(Bk x.1 x.2.1).2.1.2.2.2.2.2.2.1.1,(Bk x.1 x.2.1).2.2.1,()),(()))⟩
def Aq6:Tb:=tb [(56,D4),(87,Li),(91,Od),(92,Ack),(93,Aqv),(94,Aam),(95,q9),(96,Aln),(97,Ad4),(98,Jo),(99,Aq4)]
def M1:Nat→Da×(Nat→Da):=Gs [(10,⟨[.sl 50 0 .str,.boxRow 4 10 136 Aq,.boxRow 4 11 103 P2,.boxSl 8 0 .str,.boxRow 9 0 136 Aq],[(1,.lf (.d tI)),(4,.lf (.ptr 0 0)),(5,.lf (.d tI)),(6,.lf (.d tI)),(7,.lf (.ptr 1 0)),(8,.lf (.ptr 2 0)),(9,.lf (.ptr 3 0)),(50,.lf (.d (.sl .str))),(51,.lf (.d tI)),(52,.lf (.d tI))],[.box 77 [.d tI,.d tI,.d tI,.d tI,.d tI,.d tI,.d tI,.d tI,.d tI,.d tI,.row 4,.row 5],.box 45 [.d tI,.d tI,.d tI,.d tI],.box 117 [.d (.sl .str),.d tI,.d tI],.box 39 [.row 6],.row 136 Aq,.row 103 P2,.row 136 Aq]⟩,[(2,⟨[.boxRow 4 10 136 Aq,.boxRow 4 11 103 P2,.boxSl 8 0 .str,.boxRow 9 0 136 Aq],[(1,.lf (.d tI)),(4,.lf (.ptr 0 0)),(5,.lf (.d tI)),(6,.lf (.d tI)),(7,.lf (.ptr 1 0)),(8,.lf (.ptr 2 0)),(9,.lf (.ptr 3 0))],[.box 77 [.d tI,.d tI,.d tI,.d tI,.d tI,.d tI,.d tI,.d tI,.d tI,.d tI,.row 4,.row 5],.box 45 [.d tI,.d tI,.d tI,.d tI],.box 117 [.d (.sl .str),.d tI,.d tI],.box 39 [.row 6],.row 136 Aq,.row 103 P2,.row 136 Aq]⟩),(1,⟨[.boxRow 4 10 136 Aq,.boxRow 4 11 103 P2],[(4,.lf (.ptr 0 0))],[.box 77 [.d tI,.d tI,.d tI,.d tI,.d tI,.d tI,.d tI,.d tI,.d tI,.d tI,.row 1,.row 2],.row 136 Aq,.row 103 P2]⟩)])]
def Afo:Code:=(At (Bc Tryz.f33)).getD 0 .skip
def K1 (v1 v5 v6:Int) (v50:List Aa) (v51 v52:Int) (b0_0 b0_1:Int) (b0_2 b0_3:Int) (b0_4 b0_5:Int) (b0_6 b0_7:Int) (b0_8 b0_9:Int) (b1_0 b1_1:Int) (b1_2 b1_3:Int) (b2_0:List Aa) (b2_1 b2_2:Int) (r4:List Ar) (r5:List Ny) (r6:List Ar):Nat:=(v51 - v52).toNat + 1
def Nd {R:Type}  (NX:((Int)×(Int)×(Int)×(List Aa)×(Int)×(Int)×(Int)×(Int)×(Int)×(Int)×(Int)×(Int)×(Int)×(Int)×(Int)×(Int)×(Int)×(Int)×(Int)×(Int)×(List Aa)×(Int)×(Int)×(List Ar)×(List Ny)×(List Ar)×Unit)→Option R) (X2:((Int)×(Int)×(Int)×(Int)×(Int)×(Int)×(Int)×(Int)×(Int)×(Int)×(Int)×(Int)×(Int)×(Int)×(Int)×(Int)×(Int)×(List Aa)×(Int)×(Int)×(List Ar)×(List Ny)×(List Ar)×Unit)→Option R) (X1:((Int)×(Int)×(Int)×(Int)×(Int)×(Int)×(Int)×(Int)×(Int)×(Int)×(List Ar)×(List Ny)×Unit)→Option R) (v1:Int) (v5:Int) (v6:Int) (v50:List Aa) (v51:Int) (v52:Int) (b0_0:Int) (b0_1:Int) (b0_2:Int) (b0_3:Int) (b0_4:Int) (b0_5:Int) (b0_6:Int) (b0_7:Int) (b0_8:Int) (b0_9:Int) (b1_0:Int) (b1_1:Int) (b1_2:Int) (b1_3:Int) (b2_0:List Aa) (b2_1:Int) (b2_2:Int) (r4:List Ar) (r5:List Ny) (r6:List Ar):Option R:=
 bif decide (v52 < v51) then bif decide (0≤v52) then bif decide (v52 < nI v50.length) then bif !(F6 (v50.getD v52.toNat (Ac))).2 then X1 (2,0,0,0,0,0,0,0,0,0,[],[],()) else bif (M0 (r6,()) (F6 (v50.getD v52.toNat (Ac))).1).2 != 0 then X1 (2,0,0,0,0,0,0,0,0,0,[],[],()) else NX (v1,v5,v6,v50,v51,IntKind.i64.wrap (v52 + 1),b0_0,b0_1,b0_2,b0_3,b0_4,b0_5,b0_6,b0_7,b0_8,b0_9,b1_0,b1_1,b1_2,b1_3,b2_0,b2_1,b2_2,r4,r5,(M0 (r6,()) (F6 (v50.getD v52.toNat (Ac))).1).1) else none else none else X2 (v1,v5,v6,b0_0,b0_1,b0_2,b0_3,b0_4,b0_5,b0_6,b0_7,b0_8,b0_9,b1_0,b1_1,b1_2,b1_3,b2_0,b2_1,b2_2,r4,r5,r6,())
def Ef:Nat→(Int)→(Int)→(Int)→(List Aa)→(Int)→(Int)→(Int)→(Int)→(Int)→(Int)→(Int)→(Int)→(Int)→(Int)→(Int)→(Int)→(Int)→(Int)→(Int)→(Int)→(List Aa)→(Int)→(Int)→(List Ar)→(List Ny)→(List Ar) →  Option (((Int)×(Int)×(Int)×(Int)×(Int)×(Int)×(Int)×(Int)×(Int)×(Int)×(Int)×(Int)×(Int)×(Int)×(Int)×(Int)×(Int)×(List Aa)×(Int)×(Int)×(List Ar)×(List Ny)×(List Ar)×Unit) ⊕ ((Int)×(Int)×(Int)×(Int)×(Int)×(Int)×(Int)×(Int)×(Int)×(Int)×(List Ar)×(List Ny)×Unit))
 | 0,_,_,_,_,_,_,_,_,_,_,_,_,_,_,_,_,_,_,_,_,_,_,_,_,_,_=>none
 | m + 1,v1,v5,v6,v50,v51,v52,b0_0,b0_1,b0_2,b0_3,b0_4,b0_5,b0_6,b0_7,b0_8,b0_9,b1_0,b1_1,b1_2,b1_3,b2_0,b2_1,b2_2,r4,r5,r6=>Nd  (fun d=>Ef m d.1 d.2.1 d.2.2.1 d.2.2.2.1 d.2.2.2.2.1 d.2.2.2.2.2.1 d.2.2.2.2.2.2.1 d.2.2.2.2.2.2.2.1 d.2.2.2.2.2.2.2.2.1 d.2.2.2.2.2.2.2.2.2.1 d.2.2.2.2.2.2.2.2.2.2.1 d.2.2.2.2.2.2.2.2.2.2.2.1 d.2.2.2.2.2.2.2.2.2.2.2.2.1 d.2.2.2.2.2.2.2.2.2.2.2.2.2.1 d.2.2.2.2.2.2.2.2.2.2.2.2.2.2.1 d.2.2.2.2.2.2.2.2.2.2.2.2.2.2.2.1 d.2.2.2.2.2.2.2.2.2.2.2.2.2.2.2.2.1 d.2.2.2.2.2.2.2.2.2.2.2.2.2.2.2.2.2.1 d.2.2.2.2.2.2.2.2.2.2.2.2.2.2.2.2.2.2.1 d.2.2.2.2.2.2.2.2.2.2.2.2.2.2.2.2.2.2.2.1 d.2.2.2.2.2.2.2.2.2.2.2.2.2.2.2.2.2.2.2.2.1 d.2.2.2.2.2.2.2.2.2.2.2.2.2.2.2.2.2.2.2.2.2.1 d.2.2.2.2.2.2.2.2.2.2.2.2.2.2.2.2.2.2.2.2.2.2.1 d.2.2.2.2.2.2.2.2.2.2.2.2.2.2.2.2.2.2.2.2.2.2.2.1 d.2.2.2.2.2.2.2.2.2.2.2.2.2.2.2.2.2.2.2.2.2.2.2.2.1 d.2.2.2.2.2.2.2.2.2.2.2.2.2.2.2.2.2.2.2.2.2.2.2.2.2.1) (fun d=>some (.inl (d))) (fun d=>some (.inr (d))) v1 v5 v6 v50 v51 v52 b0_0 b0_1 b0_2 b0_3 b0_4 b0_5 b0_6 b0_7 b0_8 b0_9 b1_0 b1_1 b1_2 b1_3 b2_0 b2_1 b2_2 r4 r5 r6
def Axl (d:(Int)×(Int)×(Int)×(List Aa)×(Int)×(Int)×(Int)×(Int)×(Int)×(Int)×(Int)×(Int)×(Int)×(Int)×(Int)×(Int)×(Int)×(Int)×(Int)×(Int)×(List Aa)×(Int)×(Int)×(List Ar)×(List Ny)×(List Ar)×Unit):Option (((Int)×(Int)×(Int)×(Int)×(Int)×(Int)×(Int)×(Int)×(Int)×(Int)×(Int)×(Int)×(Int)×(Int)×(Int)×(Int)×(Int)×(List Aa)×(Int)×(Int)×(List Ar)×(List Ny)×(List Ar)×Unit) ⊕ ((Int)×(Int)×(Int)×(Int)×(Int)×(Int)×(Int)×(Int)×(Int)×(Int)×(List Ar)×(List Ny)×Unit)):=(u4 (u4 (u4 (u4 (u4 (u4 (Ab (Ab Ae)))))))) (Ef ((u4 (u4 (u4 (u4 (u4 (u4 (Ab (Ab Ae)))))))) K1 d)) d
def Aea (a0:Dk) (a1:Int):Option ((((Int)×(Int)×(Int)×(Int)×(Int)×(Int)×(Int)×(Int)×(Int)×(Int)×(List Ar)×(List Ny)×Unit)×(Unit))):=
 bif !Hb a0 then some ((1,0,0,0,0,0,0,0,0,0,[],[],()),()) else bif !Bs a1 1 8 then some ((1,0,0,0,0,0,0,0,0,0,[],[],()),()) else ((fun d=>Ef (K1 d.1 d.2.1 d.2.2.1 d.2.2.2.1 d.2.2.2.2.1 d.2.2.2.2.2.1 d.2.2.2.2.2.2.1 d.2.2.2.2.2.2.2.1 d.2.2.2.2.2.2.2.2.1 d.2.2.2.2.2.2.2.2.2.1 d.2.2.2.2.2.2.2.2.2.2.1 d.2.2.2.2.2.2.2.2.2.2.2.1 d.2.2.2.2.2.2.2.2.2.2.2.2.1 d.2.2.2.2.2.2.2.2.2.2.2.2.2.1 d.2.2.2.2.2.2.2.2.2.2.2.2.2.2.1 d.2.2.2.2.2.2.2.2.2.2.2.2.2.2.2.1 d.2.2.2.2.2.2.2.2.2.2.2.2.2.2.2.2.1 d.2.2.2.2.2.2.2.2.2.2.2.2.2.2.2.2.2.1 d.2.2.2.2.2.2.2.2.2.2.2.2.2.2.2.2.2.2.1 d.2.2.2.2.2.2.2.2.2.2.2.2.2.2.2.2.2.2.2.1 d.2.2.2.2.2.2.2.2.2.2.2.2.2.2.2.2.2.2.2.2.1 d.2.2.2.2.2.2.2.2.2.2.2.2.2.2.2.2.2.2.2.2.2.1 d.2.2.2.2.2.2.2.2.2.2.2.2.2.2.2.2.2.2.2.2.2.2.1 d.2.2.2.2.2.2.2.2.2.2.2.2.2.2.2.2.2.2.2.2.2.2.2.1 d.2.2.2.2.2.2.2.2.2.2.2.2.2.2.2.2.2.2.2.2.2.2.2.2.1 d.2.2.2.2.2.2.2.2.2.2.2.2.2.2.2.2.2.2.2.2.2.2.2.2.2.1) d.1 d.2.1 d.2.2.1 d.2.2.2.1 d.2.2.2.2.1 d.2.2.2.2.2.1 d.2.2.2.2.2.2.1 d.2.2.2.2.2.2.2.1 d.2.2.2.2.2.2.2.2.1 d.2.2.2.2.2.2.2.2.2.1 d.2.2.2.2.2.2.2.2.2.2.1 d.2.2.2.2.2.2.2.2.2.2.2.1 d.2.2.2.2.2.2.2.2.2.2.2.2.1 d.2.2.2.2.2.2.2.2.2.2.2.2.2.1 d.2.2.2.2.2.2.2.2.2.2.2.2.2.2.1 d.2.2.2.2.2.2.2.2.2.2.2.2.2.2.2.1 d.2.2.2.2.2.2.2.2.2.2.2.2.2.2.2.2.1 d.2.2.2.2.2.2.2.2.2.2.2.2.2.2.2.2.2.1 d.2.2.2.2.2.2.2.2.2.2.2.2.2.2.2.2.2.2.1 d.2.2.2.2.2.2.2.2.2.2.2.2.2.2.2.2.2.2.2.1 d.2.2.2.2.2.2.2.2.2.2.2.2.2.2.2.2.2.2.2.2.1 d.2.2.2.2.2.2.2.2.2.2.2.2.2.2.2.2.2.2.2.2.2.1 d.2.2.2.2.2.2.2.2.2.2.2.2.2.2.2.2.2.2.2.2.2.2.1 d.2.2.2.2.2.2.2.2.2.2.2.2.2.2.2.2.2.2.2.2.2.2.2.1 d.2.2.2.2.2.2.2.2.2.2.2.2.2.2.2.2.2.2.2.2.2.2.2.2.1 d.2.2.2.2.2.2.2.2.2.2.2.2.2.2.2.2.2.2.2.2.2.2.2.2.2.1) (a1,nI (List.length a0.1),Bt (nI (List.length a0.1)),(F5 a0 (D0 (A0 a0 a1).2.1 (nI (List.length a0.1))) (Bt (nI (List.length a0.1))) (A0 a0 a1).2.2.1 (A0 a0 a1).2.2.2.1 a1).1,nI (F5 a0 (D0 (A0 a0 a1).2.1 (nI (List.length a0.1))) (Bt (nI (List.length a0.1))) (A0 a0 a1).2.2.1 (A0 a0 a1).2.2.2.1 a1).1.length,0,0,0,0,0,0,0,0,0,0,0,(A0 a0 a1).1,(A0 a0 a1).2.1,(A0 a0 a1).2.2.1,(A0 a0 a1).2.2.2.1,(F5 a0 (D0 (A0 a0 a1).2.1 (nI (List.length a0.1))) (Bt (nI (List.length a0.1))) (A0 a0 a1).2.2.1 (A0 a0 a1).2.2.2.1 a1).1,(F5 a0 (D0 (A0 a0 a1).2.1 (nI (List.length a0.1))) (Bt (nI (List.length a0.1))) (A0 a0 a1).2.2.1 (A0 a0 a1).2.2.2.1 a1).2.1,(F5 a0 (D0 (A0 a0 a1).2.1 (nI (List.length a0.1))) (Bt (nI (List.length a0.1))) (A0 a0 a1).2.2.1 (A0 a0 a1).2.2.2.1 a1).2.2.1,[],[],[],())).bind fun val=>Bw (fun d=>bif decide (IntKind.i64.wrap (d.2.2.2.2.2.2.2.2.2.2.2.2.2.2.2.2.2.2.2.1 + 1) > 60000) then some ((3,0,0,0,0,0,0,0,0,0,[],[],()),()) else bif decide (Q1 d.2.2.2.2.2.2.2.2.2.2.2.2.2.2.2.2.2.2.2.2.2.2 d.1 > IntKind.i64.wrap (d.2.2.1 - 1)) then some ((4,0,0,0,0,0,0,0,0,0,[],[],()),()) else bif decide (d.2.2.2.2.2.2.2.2.2.2.2.2.2.2.2.2.2.2.1 < d.2.2.1) then some ((0,d.1,d.2.1,IntKind.i64.wrap (d.2.2.2.2.2.2.2.2.2.2.2.2.2.2.2.2.2.2.2.1 + 1),d.2.2.2.2.2.2.2.2.2.2.2.2.2.1,d.2.2.2.2.2.2.2.2.2.2.2.2.2.2.1,d.2.2.2.2.2.2.2.2.2.2.2.2.2.2.2.1,d.2.2.2.2.2.2.2.2.2.2.2.2.2.2.2.2.1,IntKind.i64.wrap (d.2.2.2.2.2.2.2.2.2.2.2.2.2.2.2.2.2.2.1 + 1),0,d.2.2.2.2.2.2.2.2.2.2.2.2.2.2.2.2.2.2.2.2.2.2.1,[(false,IntKind.i64.wrap (D0 d.2.2.2.2.2.2.2.2.2.2.2.2.2.2.1 d.2.1 + d.2.2.2.2.2.2.2.2.2.2.2.2.2.2.2.2.2.2.1),Dd (3,IntKind.i64.wrap (d.2.2.2.2.2.2.2.2.2.2.2.2.2.2.2.2.2.2.2.1 + 1),IntKind.i64.wrap (d.2.2.2.2.2.2.2.2.2.2.2.2.2.2.2.1 + d.2.2.2.2.2.2.2.2.2.2.2.2.2.2.2.2.2.2.1),Ac,()) d.1,()),(true,0,Ac,())],()),()) else ((Vf (d.1,d.2.1,IntKind.i64.wrap (d.2.2.2.2.2.2.2.2.2.2.2.2.2.2.2.2.2.2.2.1 + 1),(d.2.2.2.2.2.2.2.2.2.2.2.2.2.1,d.2.2.2.2.2.2.2.2.2.2.2.2.2.2.1,d.2.2.2.2.2.2.2.2.2.2.2.2.2.2.2.1,d.2.2.2.2.2.2.2.2.2.2.2.2.2.2.2.2.1,()),d.2.2.2.2.2.2.2.2.2.2.2.2.2.2.2.2.2.2.1,0,d.2.2.2.2.2.2.2.2.2.2.2.2.2.2.2.2.2.2.2.2.2.2,()) (IntKind.i64.wrap (d.2.2.2.2.2.2.2.2.2.2.2.2.2.2.2.2.2.2.2.1 + 1))).bind fun val=>some ((val.1.1,val.1.2.1,val.1.2.2.1,val.1.2.2.2.1.1,val.1.2.2.2.1.2.1,val.1.2.2.2.1.2.2.1,val.1.2.2.2.1.2.2.2.1,val.1.2.2.2.2.1,val.1.2.2.2.2.2.1,val.1.2.2.2.2.2.2.1.1,val.2.1,val.2.2,()),())).bind fun val=>bif !val.1.2.2.2.2.2.2.2.2.2.2.2.1 then some ((4,0,0,0,0,0,0,0,0,0,[],[],()),()) else some ((0,val.1.1,val.1.2.1,val.1.2.2.1,val.1.2.2.2.1,val.1.2.2.2.2.1,val.1.2.2.2.2.2.1,val.1.2.2.2.2.2.2.1,val.1.2.2.2.2.2.2.2.1,val.1.2.2.2.2.2.2.2.2.1,val.1.2.2.2.2.2.2.2.2.2.1,val.1.2.2.2.2.2.2.2.2.2.2.1,()),())) (fun d=>some (d,())) val
theorem Ba0 (w n h:Int) (r:Rt) (x:Scd) (hx:x.1.length≤1073741824):
  Ef (K1 w n h x.1 (nI x.1.length) 0 0 0 0 0 0 0 0 0 0 0 r.1 r.2.1 r.2.2.1 r.2.2.2.1 x.1 x.2.1 x.2.2.1 [] [] []) w n h x.1 (nI x.1.length) 0 0 0 0 0 0 0 0 0 0 0 r.1 r.2.1 r.2.2.1 r.2.2.2.1 x.1 x.2.1 x.2.2.1 [] [] []=some (match Tl x.1 zSs with
   | some st=>.inl (w,n,h,0,0,0,0,0,0,0,0,0,0,r.1,r.2.1,r.2.2.1,r.2.2.2.1,x.1,x.2.1,x.2.2.1,[],[],st.1,())
   | none=>.inr (2,0,0,0,0,0,0,0,0,0,[],[],())):=by
 have hL:=Asr (xs:=x.1) (g:=fun m i q=>Ef m w n h x.1 (nI x.1.length) i 0 0 0 0 0 0 0 0 0 0 r.1 r.2.1 r.2.2.1 r.2.2.2.1 x.1 x.2.1 x.2.2.1 [] [] q) (ok:=fun q=>.inl (w,n,h,0,0,0,0,0,0,0,0,0,0,r.1,r.2.1,r.2.2.1,r.2.2.2.1,x.1,x.2.1,x.2.2.1,[],[],q,())) (bad:=.inr (2,0,0,0,0,0,0,0,0,0,[],[],())) (fun m i q hi=>by
   show Ef (m + 1) w n h x.1 (nI x.1.length) i 0 0 0 0 0 0 0 0 0 0 r.1 r.2.1 r.2.2.1 r.2.2.2.1 x.1 x.2.1 x.2.2.1 [] [] q=_
   simp only [Ef,Nd]
   rw [Qv hi,Gt,wI (show i < 4611686018427387904 by omega),Eo]
   rfl) (fun m q=>by
   show Ef (m + 1) w n h x.1 (nI x.1.length) (x.1.length:Int) 0 0 0 0 0 0 0 0 0 0 r.1 r.2.1 r.2.2.1 r.2.2.2.1 x.1 x.2.1 x.2.2.1 [] [] q=_
   simp only [Ef,Nd]
   rw [Jx]
   rfl) (K1 w n h x.1 (nI x.1.length) 0 0 0 0 0 0 0 0 0 0 0 r.1 r.2.1 r.2.2.1 r.2.2.2.1 x.1 x.2.1 x.2.2.1 [] [] []) 0 [] (by omega) (by simp [K1,nI])
 rw [List.drop_zero] at hL
 exact hL
theorem A70 (a0:Dk) (a1:Int):Aea a0 a1=some (((Bk a0 a1).1,(Bk a0 a1).2.1.1,(Bk a0 a1).2.1.2.1,(Bk a0 a1).2.1.2.2.1,(Bk a0 a1).2.1.2.2.2.1.1,(Bk a0 a1).2.1.2.2.2.1.2.1,(Bk a0 a1).2.1.2.2.2.1.2.2.1,(Bk a0 a1).2.1.2.2.2.1.2.2.2.1,(Bk a0 a1).2.1.2.2.2.2.1,(Bk a0 a1).2.1.2.2.2.2.2.1,(Bk a0 a1).2.1.2.2.2.2.2.2.1.1,(Bk a0 a1).2.2.1,()),(())):=by
 unfold Aea Bk Apb
 show (bif !B1 a0 then _ else bif !Fg a1 1 8 then _ else _)=_
 cases hv:B1 a0 with
 | false=>rfl
 | true=>
  cases hw:Fg a1 1 8 with
  | false=>rfl
  | true=>
   simp only [Bool.not_true,cond_false]
   have hr:=Ava hv hw
   have hm:=Ayr (n:=nI a0.1.length) hr.2.1
   have hh:=Qx (nI a0.1.length)
   have eb:D0 (Bg a0 a1).2.1 (nI a0.1.length)=Ck (Bg a0 a1).2.1 (nI a0.1.length):=by
    show IntKind.i64.wrap (2 + IntKind.i64.wrap ((Bg a0 a1).2.1 * Au (nI a0.1.length)))=2 + (Bg a0 a1).2.1 * Au (nI a0.1.length)
    rw [Aj (n:=(Bg a0 a1).2.1 * Au (nI a0.1.length)) (by omega) (by omega),Aj (by omega) (by omega)]
   have ex:F5 a0 (D0 (A0 a0 a1).2.1 (nI a0.1.length)) (Bt (nI a0.1.length)) (A0 a0 a1).2.2.1 (A0 a0 a1).2.2.2.1 a1=Kr a0 a1:=by
    show i7 a0 (D0 (Bg a0 a1).2.1 (nI a0.1.length)) (Au (nI a0.1.length)) (Bg a0 a1).2.2.1 (Bg a0 a1).2.2.2.1 a1=_
    rw [eb]
    rfl
   simp only [ex]
   have hx:(Kr a0 a1).1.length≤1073741824:=F0 (C6 (C6 (A0o a0 (Ck (Bg a0 a1).2.1 (nI a0.1.length)) (Au (nI a0.1.length)) (Bg a0 a1).2.2.1 (Bg a0 a1).2.2.2.1 a1)).1).1
   have hs:=A97 a0 (Ck (Bg a0 a1).2.1 (nI a0.1.length)) (Au (nI a0.1.length)) (Bg a0 a1).2.2.1 (Bg a0 a1).2.2.2.1 a1 hh.1 hr.2.2.2
   refine Aae (Ba0 a1 (nI a0.1.length) (Au (nI a0.1.length)) (Bg a0 a1) (Kr a0 a1) hx) ?_
   cases ho:Tl (Kr a0 a1).1 zSs with
   | none=>rfl
   | some st=>
    have hst:=Xk rfl ho
    replace hs:(0≤(Kr a0 a1).2.1∧(Kr a0 a1).2.1≤Au (nI a0.1.length))∧(0≤(Kr a0 a1).2.2.1∧(Kr a0 a1).2.2.1≤60000):=hs
    clear ho hx ex
    generalize Kr a0 a1=x at *
    generalize Bg a0 a1=r at *
    show (bif decide (IntKind.i64.wrap (x.2.2.1 + 1) > 60000) then _ else bif decide (Yb st a1 > IntKind.i64.wrap (Au (nI a0.1.length) - 1)) then _ else bif decide (x.2.1 < Au (nI a0.1.length)) then _ else _)=_
    dsimp only
    rw [Aj (n:=x.2.2.1 + 1) (by omega) (by omega),i6]
    by_cases h1:x.2.2.1 + 1 > 60000
    ·rw [Ap h1,Bd5 h1]; rfl
    by_cases h2:Yb st a1 > Au (nI a0.1.length) - 1
    ·rw [Bd h1,Ap h2,Bd6 h1 h2]; rfl
    by_cases h3:x.2.1 < Au (nI a0.1.length)
    ·rw [Bd h1,Bd h2,Ap h3,Bd7 h1 h2 h3]
     simp only [cond_true,cond_false]
     obtain ⟨_,hr1,hr2,hr3⟩:=hr
     have hB:0≤Ck r.2.1 (nI a0.1.length)∧Ck r.2.1 (nI a0.1.length)≤101:=by unfold Ck; omega
     rw [eb,Aj (n:=x.2.1 + 1) (by omega) (by omega),Aj (n:=Ck r.2.1 (nI a0.1.length) + x.2.1) (by omega) (by omega),Aj (n:=r.2.2.1 + x.2.1) (by omega) (by omega)]
     rfl
    ·rw [Bd h1,Bd h2,Bd h3,Bd8 h1 h2 h3]
     simp only [cond_true,cond_false]
     have e1:Vf (a1,nI a0.1.length,x.2.2.1 + 1,r,x.2.1,0,st,()) (x.2.2.1 + 1)=some (Apa (a1,nI a0.1.length,x.2.2.1 + 1,r,x.2.1,0,st,()) (x.2.2.1 + 1)):=if_pos ⟨hr.1,hr.2.1,⟨Int.le_trans (by decide) hr.2.2.1.1,Int.le_trans hr.2.2.1.2 (by decide)⟩,Nat.le_trans (Gc hst) (by decide)⟩
     refine (congrArg (fun q=>Option.bind (Option.bind q _) _) e1).trans ?_
     unfold Au6
     generalize Apa (a1,nI a0.1.length,x.2.2.1 + 1,r,x.2.1,0,st,()) (x.2.2.1 + 1)=q
     obtain ⟨s,ops,b⟩:=q
     cases b<;>rfl
def Afp {R:Type} (k:Kt R):=(Bw (Ko (M1 10) (.exit 0) 2 k) (Ko (M1 10) .ret 1 k))
def Avw {R:Type}:Lt R M1:=(E3 (pat:=M1) 10 (fun d k=>(Axl d).bind (Afp k)) F8)
theorem Aq7:Ax Tryz.prog Aq6:=Ay ⟨Et,Nt,Sb,Atz,A7u,Alm,Aq0,A4a,Aqn,Mg,A7y,trivial⟩
theorem Axm {R:Type}:A4 Tryz.prog R 137 0 M1 Avw Afo:=
 Cj (cfg:=⟨Aq6,0,137,M1⟩) 10 [] (fun NX X d=>(u4 (u4 (u4 (u4 (u4 (u4 (Ab (Ab Ae)))))))) (Nd  NX (fun e=>X (.inl (e))) (fun e=>X (.inr (e)))) d) (fun m d=>(u4 (u4 (u4 (u4 (u4 (u4 (Ab (Ab Ae)))))))) (Ef m) d) (fun d=>(u4 (u4 (u4 (u4 (u4 (u4 (Ab (Ab Ae)))))))) K1 d) Afp Aq7 trivial (fun f NX d=>by simp only [u4,Ab,Ae]; unfold Nd; simp only [nb])
theorem A71:Bm Tryz.prog 33 Aq5:=
 Aw (pat:=M1) [Afo] Avw Aq7 ⟨Axm,trivial⟩ Tryz.func33 (de:=fun x=>Aea x.1 x.2.1) (fun x r h=>(A70 x.1 x.2.1).trans h) fun _=>by kernel_rfl
def Do (w:S4):Dh×Int:=Asq w
def A4d:E5:=⟨[.rd Xf],[some 16],[.own 136 Aq,.rd tI],[some 1,none]⟩
def Alq:SD:=⟨A4d,fun x=>some (((Do x.1).1.1,(Do x.1).2,()),(()))⟩
def Aao (a0:S4):Option ((((List Ar)×(Int)×Unit)×(Unit))):=
 bif !Nw a0 then some (([],1,()),()) else bif decide ((0 + List.length a0.2.1.1) * 16≤140737488355328) then some (((Bk ([]++a0.2.1.1,[],()) a0.1).2.1.2.2.2.2.2.2.1.1,(Bk ([]++a0.2.1.1,[],()) a0.1).1,()),()) else none
theorem A4e (a0:S4):Aao a0=some (((Do a0).1.1,(Do a0).2,()),(())):=by
 unfold Aao Do Asq
 show (bif !In a0 then _ else _)=_
 cases hv:In a0 with
 | false=>rfl
 | true=>
  simp only [Bool.not_true,cond_false]
  have hd:=(Ajq (Bje hv).1).n200
  rw [Ap (show (0 + List.length a0.2.1.1) * 16≤140737488355328 by omega)]
  rfl
theorem A4f:Bm Tryz.prog 8 Alq:=
 Aw (pat:=Co) [] F8 (Ay (l:=[(32,Zw),(33,Aq5)]) ⟨Anp,A71,trivial⟩) trivial Tryz.func8 (de:=fun x=>Aao x.1) (fun x r h=>(A4e x.1).trans h) fun _=>by kernel_rfl
def Ut (a b:Ar):Option Bool:=eqM Aq a b
def A2s:E5:=⟨[.rd Aq,.rd Aq],[some 2,some 2],[.rd .bool],[none]⟩
def Aiz:SD:=⟨A2s,fun x=>(Ut x.1 x.2.1).bind fun r=>some ((r,()),(()))⟩
def Z0 (a0 a1:Ar):Option ((((Bool)×Unit)×(Unit))):=
 bif !ByteArray.toList a0.1==ByteArray.toList a1.1 then some ((false,()),()) else bif !ByteArray.toList a0.2.1==ByteArray.toList a1.2.1 then some ((false,()),()) else some ((true,()),())
theorem A2t (a0 a1:Ar) r (h:Ut a0 a1=some r):Z0 a0 a1=some ((r,()),(())):=by
 obtain ⟨hc,hd,rfl⟩:=N3 (t:=Aq) h
 obtain ⟨hc0,hc1,_⟩:A5 .str a0.1=true∧A5 .str a0.2.1=true∧True:=by
  have s:=hc
  obtain ⟨h0,s⟩:=An s
  obtain ⟨h1,s⟩:=An s
  exact ⟨h0,h1,trivial⟩
 obtain ⟨hd0,hd1,_⟩:A5 .str a1.1=true∧A5 .str a1.2.1=true∧True:=by
  have s:=hd
  obtain ⟨h0,s⟩:=An s
  obtain ⟨h1,s⟩:=An s
  exact ⟨h0,h1,trivial⟩
 unfold Z0
 have e0:(!(ByteArray.toList a0.1==ByteArray.toList a1.1))=!eqS a0.1 a1.1:=rfl
 have e1:(!(ByteArray.toList a0.2.1==ByteArray.toList a1.2.1))=!eqS a0.2.1 a1.2.1:=rfl
 simp only [e0,e1,Option.bind_some]
 show _=some (((eqS a0.1 a1.1&&(eqS a0.2.1 a1.2.1&&true)),()),())
 generalize eqS a0.1 a1.1=p0
 generalize eqS a0.2.1 a1.2.1=p1
 cases p0<;>cases p1<;>rfl
theorem A2u:Bm Tryz.prog 100 Aiz:=
 Aw (pat:=Co) [] F8 (Ay (l:=[]) trivial) trivial Tryz.func100 (de:=fun x=>Z0 x.1 x.2.1) (fun x r h=>A2 (A2t x.1 x.2.1) h) fun _=>by kernel_rfl
def Sq (a b:List Ar):Option Bool:=eqM (.sl Aq) a b
def Axn:E5:=⟨[.rd (.sl Aq),.rd (.sl Aq)],[none,none],[.rd .bool],[none]⟩
def Afq:SD:=⟨Axn,fun x=>(Sq x.1 x.2.1).bind fun r=>some ((r,()),(()))⟩
def Afr:Tb:=tb [(100,Aiz)]
def Ir:Nat→Da×(Nat→Da):=Gs [(5,⟨[.sl 0 0 Aq,.sl 1 0 Aq],[(0,.lf (.d (.sl Aq))),(1,.lf (.d (.sl Aq))),(5,.lf (.d tI))],[]⟩,[(2,p0),(1,⟨[],[(4,.lf (.d .bool))],[]⟩)])]
def u1:Code:=(At (Bc Tryz.f34)).getD 0 .skip
def Gl (v0 v1:List Ar) (v5:Int):Nat:=((v0.length:Int) - v5).toNat + 1
def Lj {R:Type}  (NX:((List Ar)×(List Ar)×(Int)×Unit)→Option R) (X2:(Unit)→Option R) (X1:((Bool)×Unit)→Option R) (v0:List Ar) (v1:List Ar) (v5:Int):Option R:=
 bif decide (v5 < nI v0.length) then bif decide (0≤v5) then bif decide (v5 < nI v0.length) then bif decide (0≤v5) then bif decide (v5 < nI v1.length) then ((Ut (v0.getD v5.toNat (Ac,Ac,())) (v1.getD v5.toNat (Ac,Ac,()))).bind fun val=>some ((val,()),())).bind fun val=>bif !val.1.1 then X1 (false,()) else NX (v0,v1,IntKind.i64.wrap (v5 + 1),()) else none else none else none else none else X2 PUnit.unit
def C4:Nat→(List Ar)→(List Ar)→(Int) →  Option ((Unit) ⊕ ((Bool)×Unit))
 | 0,_,_,_=>none
 | m + 1,v0,v1,v5=>Lj  (fun d=>C4 m d.1 d.2.1 d.2.2.1) (fun d=>some (.inl (d))) (fun d=>some (.inr (d))) v0 v1 v5
def Aq8 (d:(List Ar)×(List Ar)×(Int)×Unit):Option ((Unit) ⊕ ((Bool)×Unit)):=(Ab (Ab (Ab Ae))) (C4 ((Ab (Ab (Ab Ae))) Gl d)) d
def V9 (a0 a1:List Ar):Option ((((Bool)×Unit)×(Unit))):=
 bif nI a0.length != nI a1.length then some ((false,()),()) else ((fun d=>C4 (Gl d.1 d.2.1 d.2.2.1) d.1 d.2.1 d.2.2.1) (a0,a1,0,())).bind fun val=>Bw (fun d=>some ((true,()),())) (fun d=>some (d,())) val
theorem Axo (a0 a1:List Ar) r (h:Sq a0 a1=some r):V9 a0 a1=some ((r,()),(())):=by
 obtain ⟨hc,hd,rfl⟩:=N3 (t:=.sl Aq) h
 obtain ⟨hlx0,hx⟩:=M5 hc
 obtain ⟨hly0,hy⟩:=M5 hd
 have hlx:a0.length < 1152921504606846976:=hlx0
 have hly:a1.length < 1152921504606846976:=hly0
 clear hlx0 hly0 hc hd h
 ·unfold V9
  by_cases hl:a1.length=a0.length
  ·have c1:(nI a0.length != nI a1.length)=false:=by simp [nI,hl]
   have hL:=Ao6 (xs:=a0) (ys:=a1) ((Ac),(Ac),()) (fun x y:Ar=>Pt Aq x y) (g:=fun m i=>C4 m a0 a1 i) (ok:=.inl ()) (bad:=.inr (false,())) hl (fun m i hi=>by
    show C4 (m + 1) a0 a1 i=_
    simp only [C4,Lj]
    rw [Qv hi,Gt,Qv (show i < a1.length by omega),wI (by omega)]
    simp only [cond_true,Eo]
    have f1:A5 Aq (List.getD (α:=Ar) a0 i ((Ac),(Ac),()))=true:=hx _ (N2 ((Ac),(Ac),()) hi)
    have f2:A5 Aq (List.getD (α:=Ar) a1 i ((Ac),(Ac),()))=true:=hy _ (N2 ((Ac),(Ac),()) (by omega))
    have hE:Ut (List.getD (α:=Ar) a0 i ((Ac),(Ac),())) (List.getD (α:=Ar) a1 i ((Ac),(Ac),()))=some (Pt Aq (List.getD (α:=Ar) a0 i ((Ac),(Ac),())) (List.getD (α:=Ar) a1 i ((Ac),(Ac),()))):=by
     exact Vq (t:=Aq) (x:=(List.getD (α:=Ar) a0 i ((Ac),(Ac),()))) (y:=(List.getD (α:=Ar) a1 i ((Ac),(Ac),()))) f1 f2
    rw [hE]
    cases q:Pt Aq (List.getD (α:=Ar) a0 i ((Ac),(Ac),())) (List.getD (α:=Ar) a1 i ((Ac),(Ac),()))<;>simp only [Option.bind_some,q]<;>rfl) (fun m=>by
    show C4 (m + 1) a0 a1 a0.length=_
    simp only [C4,Lj]
    rw [Jx]
    rfl) (Gl a0 a1 0) 0 (by omega) (by simp [Gl])
   rw [c1]
   have hL':C4 (Gl a0 a1 0) a0 a1 0=_:=hL
   show (C4 (Gl a0 a1 0) a0 a1 0).bind _=some ((eqL (α:=Ar) (fun x y:Ar=>Pt Aq x y) a0 a1,()),())
   rw [hL',List.drop_zero,List.drop_zero]
   cases eqL (α:=Ar) (fun x y:Ar=>Pt Aq x y) a0 a1<;>rfl
  ·have c1:(nI a0.length != nI a1.length)=true:=by simp [nI]; omega
   rw [c1]
   show _=some ((eqL (α:=Ar) (fun x y:Ar=>Pt Aq x y) a0 a1,()),())
   rw [Ao5 (fun q=>hl q.symm)]
   rfl
def u6 {R:Type} (k:Kt R):=(Bw (Ko (Ir 5) (.exit 0) 2 k) (Ko (Ir 5) .ret 1 k))
def Ai0 {R:Type}:Lt R Ir:=(E3 (pat:=Ir) 5 (fun d k=>(Aq8 d).bind (u6 k)) F8)
theorem Afs:Ax Tryz.prog Afr:=Ay ⟨A2u,trivial⟩
theorem Aq9 {R:Type}:A4 Tryz.prog R 27 0 Ir Ai0 u1:=
 Cj (cfg:=⟨Afr,0,27,Ir⟩) 5 [] (fun NX X d=>(Ab (Ab (Ab Ae))) (Lj  NX (fun e=>X (.inl (e))) (fun e=>X (.inr (e)))) d) (fun m d=>(Ab (Ab (Ab Ae))) (C4 m) d) (fun d=>(Ab (Ab (Ab Ae))) Gl d) u6 Afs trivial (fun f NX d=>by simp only [u4,Ab,Ae]; unfold Lj; simp only [nb])
theorem Axp:Bm Tryz.prog 34 Afq:=
 Aw (pat:=Ir) [u1] Ai0 Afs ⟨Aq9,trivial⟩ Tryz.func34 (de:=fun x=>V9 x.1 x.2.1) (fun x r h=>A2 (Axo x.1 x.2.1) h) fun _=>by kernel_rfl
def D8 (a b:Dh):Option Bool:=eqM B6 a b
def Axq:E5:=⟨[.rd B6,.rd B6],[some 1,some 1],[.rd .bool],[none]⟩
def Pw:SD:=⟨Axq,fun x=>(D8 x.1 x.2.1).bind fun r=>some ((r,()),(()))⟩
def Wa (a0 a1:Dh):Option ((((Bool)×Unit)×(Unit))):=
 ((Sq a0.1 a1.1).bind fun val=>some ((val,()),())).bind fun val=>bif !val.1.1 then some ((false,()),()) else some ((true,()),())
theorem Axr (a0 a1:Dh) r (h:D8 a0 a1=some r):Wa a0 a1=some ((r,()),(())):=by
 obtain ⟨hc,hd,rfl⟩:=N3 (t:=B6) h
 obtain ⟨hc0,_⟩:A5 (.sl Aq) a0.1=true∧True:=by
  have s:=hc
  obtain ⟨h0,s⟩:=An s
  exact ⟨h0,trivial⟩
 obtain ⟨hd0,_⟩:A5 (.sl Aq) a1.1=true∧True:=by
  have s:=hd
  obtain ⟨h0,s⟩:=An s
  exact ⟨h0,trivial⟩
 unfold Wa
 have e0:Sq a0.1 a1.1=some (Pt (.sl Aq) a0.1 a1.1):=Vq (t:=(.sl Aq)) hc0 hd0
 simp only [e0,Option.bind_some]
 show _=some (((Pt (.sl Aq) a0.1 a1.1&&true),()),())
 generalize Pt (.sl Aq) a0.1 a1.1=p0
 cases p0<;>rfl
theorem Wb:Bm Tryz.prog 9 Pw:=
 Aw (pat:=Co) [] F8 (Ay (l:=[(34,Afq)]) ⟨Axp,trivial⟩) trivial Tryz.func9 (de:=fun x=>Wa x.1 x.2.1) (fun x r h=>A2 (Axr x.1 x.2.1) h) fun _=>by kernel_rfl
def Jr (a b:List Aa):Option Bool:=eqM (.sl .str) a b
def Ara:E5:=⟨[.rd (.sl .str),.rd (.sl .str)],[none,none],[.rd .bool],[none]⟩
def Sr:SD:=⟨Ara,fun x=>(Jr x.1 x.2.1).bind fun r=>some ((r,()),(()))⟩
def u7:Tb:=tb []
def Gm:Nat→Da×(Nat→Da):=Gs [(5,⟨[.sl 0 0 .str,.sl 1 0 .str],[(0,.lf (.d (.sl .str))),(1,.lf (.d (.sl .str))),(5,.lf (.d tI))],[]⟩,[(2,p0),(1,⟨[],[(4,.lf (.d .bool))],[]⟩)])]
def Wx:Code:=(At (Bc Tryz.f38)).getD 0 .skip
def Ev (v0 v1:List Aa) (v5:Int):Nat:=((v0.length:Int) - v5).toNat + 1
def I3 {R:Type}  (NX:((List Aa)×(List Aa)×(Int)×Unit)→Option R) (X2:(Unit)→Option R) (X1:((Bool)×Unit)→Option R) (v0:List Aa) (v1:List Aa) (v5:Int):Option R:=
 bif decide (v5 < nI v0.length) then bif decide (0≤v5) then bif decide (v5 < nI v0.length) then bif decide (0≤v5) then bif decide (v5 < nI v1.length) then bif !ByteArray.toList (v0.getD v5.toNat (Ac))==ByteArray.toList (v1.getD v5.toNat (Ac)) then X1 (false,()) else NX (v0,v1,IntKind.i64.wrap (v5 + 1),()) else none else none else none else none else X2 PUnit.unit
def Ch:Nat→(List Aa)→(List Aa)→(Int) →  Option ((Unit) ⊕ ((Bool)×Unit))
 | 0,_,_,_=>none
 | m + 1,v0,v1,v5=>I3  (fun d=>Ch m d.1 d.2.1 d.2.2.1) (fun d=>some (.inl (d))) (fun d=>some (.inr (d))) v0 v1 v5
def Aki (d:(List Aa)×(List Aa)×(Int)×Unit):Option ((Unit) ⊕ ((Bool)×Unit)):=(Ab (Ab (Ab Ae))) (Ch ((Ab (Ab (Ab Ae))) Ev d)) d
def Ss (a0 a1:List Aa):Option ((((Bool)×Unit)×(Unit))):=
 bif nI a0.length != nI a1.length then some ((false,()),()) else ((fun d=>Ch (Ev d.1 d.2.1 d.2.2.1) d.1 d.2.1 d.2.2.1) (a0,a1,0,())).bind fun val=>Bw (fun d=>some ((true,()),())) (fun d=>some (d,())) val
theorem Arb (a0 a1:List Aa) r (h:Jr a0 a1=some r):Ss a0 a1=some ((r,()),(())):=by
 obtain ⟨hc,hd,rfl⟩:=N3 (t:=.sl .str) h
 obtain ⟨hlx0,hx⟩:=M5 hc
 obtain ⟨hly0,hy⟩:=M5 hd
 have hlx:a0.length < 1152921504606846976:=hlx0
 have hly:a1.length < 1152921504606846976:=hly0
 clear hlx0 hly0 hc hd h
 ·unfold Ss
  by_cases hl:a1.length=a0.length
  ·have c1:(nI a0.length != nI a1.length)=false:=by simp [nI,hl]
   have hL:=Ao6 (xs:=a0) (ys:=a1) (Ac) eqS (g:=fun m i=>Ch m a0 a1 i) (ok:=.inl ()) (bad:=.inr (false,())) hl (fun m i hi=>by
    show Ch (m + 1) a0 a1 i=_
    simp only [Ch,I3]
    rw [Qv hi,Gt,Qv (show i < a1.length by omega),wI (by omega)]
    simp only [cond_true,Eo]
    show (bif !(ByteArray.toList (List.getD (α:=Aa) a0 i (Ac))==ByteArray.toList (List.getD (α:=Aa) a1 i (Ac))) then _ else _)=bif (ByteArray.toList (List.getD (α:=Aa) a0 i (Ac))==ByteArray.toList (List.getD (α:=Aa) a1 i (Ac))) then _ else _
    cases (ByteArray.toList (List.getD (α:=Aa) a0 i (Ac))==ByteArray.toList (List.getD (α:=Aa) a1 i (Ac)))<;>rfl) (fun m=>by
    show Ch (m + 1) a0 a1 a0.length=_
    simp only [Ch,I3]
    rw [Jx]
    rfl) (Ev a0 a1 0) 0 (by omega) (by simp [Ev])
   rw [c1]
   have hL':Ch (Ev a0 a1 0) a0 a1 0=_:=hL
   show (Ch (Ev a0 a1 0) a0 a1 0).bind _=some ((eqL (α:=Aa) eqS a0 a1,()),())
   rw [hL',List.drop_zero,List.drop_zero]
   cases eqL (α:=Aa) eqS a0 a1<;>rfl
  ·have c1:(nI a0.length != nI a1.length)=true:=by simp [nI]; omega
   rw [c1]
   show _=some ((eqL (α:=Aa) eqS a0 a1,()),())
   rw [Ao5 (fun q=>hl q.symm)]
   rfl
def Wy {R:Type} (k:Kt R):=(Bw (Ko (Gm 5) (.exit 0) 2 k) (Ko (Gm 5) .ret 1 k))
def Acu {R:Type}:Lt R Gm:=(E3 (pat:=Gm) 5 (fun d k=>(Aki d).bind (Wy k)) F8)
theorem w5:Ax Tryz.prog u7:=Ay trivial
theorem Akj {R:Type}:A4 Tryz.prog R 26 0 Gm Acu Wx:=
 Cj (cfg:=⟨u7,0,26,Gm⟩) 5 [] (fun NX X d=>(Ab (Ab (Ab Ae))) (I3  NX (fun e=>X (.inl (e))) (fun e=>X (.inr (e)))) d) (fun m d=>(Ab (Ab (Ab Ae))) (Ch m) d) (fun d=>(Ab (Ab (Ab Ae))) Ev d) Wy w5 trivial (fun f NX d=>by simp only [u4,Ab,Ae]; unfold I3; simp only [nb])
theorem w6:Bm Tryz.prog 38 Sr:=
 Aw (pat:=Gm) [Wx] Acu w5 ⟨Akj,trivial⟩ Tryz.func38 (de:=fun x=>Ss x.1 x.2.1) (fun x r h=>A2 (Arb x.1 x.2.1) h) fun _=>by kernel_rfl
def Su (a b:Wr):Option Bool:=eqM Fb a b
def Axs:E5:=⟨[.rd Fb,.rd Fb],[some 2,some 2],[.rd .bool],[none]⟩
def Aft:SD:=⟨Axs,fun x=>(Su x.1 x.2.1).bind fun r=>some ((r,()),(()))⟩
def Wc (a0 a1:Wr):Option ((((Bool)×Unit)×(Unit))):=
 bif a0.1 != a1.1 then some ((false,()),()) else bif !ByteArray.toList a0.2.1==ByteArray.toList a1.2.1 then some ((false,()),()) else some ((true,()),())
theorem Axt (a0 a1:Wr) r (h:Su a0 a1=some r):Wc a0 a1=some ((r,()),(())):=by
 obtain ⟨hc,hd,rfl⟩:=N3 (t:=Fb) h
 obtain ⟨hc0,hc1,_⟩:A5 tI a0.1=true∧A5 .str a0.2.1=true∧True:=by
  have s:=hc
  obtain ⟨h0,s⟩:=An s
  obtain ⟨h1,s⟩:=An s
  exact ⟨h0,h1,trivial⟩
 obtain ⟨hd0,hd1,_⟩:A5 tI a1.1=true∧A5 .str a1.2.1=true∧True:=by
  have s:=hd
  obtain ⟨h0,s⟩:=An s
  obtain ⟨h1,s⟩:=An s
  exact ⟨h0,h1,trivial⟩
 unfold Wc
 have e0:(a0.1 != a1.1)=!eqI a0.1 a1.1:=Av7 _ _
 have e1:(!(ByteArray.toList a0.2.1==ByteArray.toList a1.2.1))=!eqS a0.2.1 a1.2.1:=rfl
 simp only [e0,e1,Option.bind_some]
 show _=some (((eqI a0.1 a1.1&&(eqS a0.2.1 a1.2.1&&true)),()),())
 generalize eqI a0.1 a1.1=p0
 generalize eqS a0.2.1 a1.2.1=p1
 cases p0<;>cases p1<;>rfl
theorem Axu:Bm Tryz.prog 152 Aft:=
 Aw (pat:=Co) [] F8 (Ay (l:=[]) trivial) trivial Tryz.func152 (de:=fun x=>Wc x.1 x.2.1) (fun x r h=>A2 (Axt x.1 x.2.1) h) fun _=>by kernel_rfl
def Px (a b:List Wr):Option Bool:=eqM (.sl Fb) a b
def At7:E5:=⟨[.rd (.sl Fb),.rd (.sl Fb)],[none,none],[.rd .bool],[none]⟩
def Acv:SD:=⟨At7,fun x=>(Px x.1 x.2.1).bind fun r=>some ((r,()),(()))⟩
def Acw:Tb:=tb [(152,Aft)]
def Hg:Nat→Da×(Nat→Da):=Gs [(5,⟨[.sl 0 0 Fb,.sl 1 0 Fb],[(0,.lf (.d (.sl Fb))),(1,.lf (.d (.sl Fb))),(5,.lf (.d tI))],[]⟩,[(2,p0),(1,⟨[],[(4,.lf (.d .bool))],[]⟩)])]
def Z1:Code:=(At (Bc Tryz.f101)).getD 0 .skip
def Fy (v0 v1:List Wr) (v5:Int):Nat:=((v0.length:Int) - v5).toNat + 1
def Kk {R:Type}  (NX:((List Wr)×(List Wr)×(Int)×Unit)→Option R) (X2:(Unit)→Option R) (X1:((Bool)×Unit)→Option R) (v0:List Wr) (v1:List Wr) (v5:Int):Option R:=
 bif decide (v5 < nI v0.length) then bif decide (0≤v5) then bif decide (v5 < nI v0.length) then bif decide (0≤v5) then bif decide (v5 < nI v1.length) then ((Su (v0.getD v5.toNat (0,Ac,())) (v1.getD v5.toNat (0,Ac,()))).bind fun val=>some ((val,()),())).bind fun val=>bif !val.1.1 then X1 (false,()) else NX (v0,v1,IntKind.i64.wrap (v5 + 1),()) else none else none else none else none else X2 PUnit.unit
def Cu:Nat→(List Wr)→(List Wr)→(Int) →  Option ((Unit) ⊕ ((Bool)×Unit))
 | 0,_,_,_=>none
 | m + 1,v0,v1,v5=>Kk  (fun d=>Cu m d.1 d.2.1 d.2.2.1) (fun d=>some (.inl (d))) (fun d=>some (.inr (d))) v0 v1 v5
def Ans (d:(List Wr)×(List Wr)×(Int)×Unit):Option ((Unit) ⊕ ((Bool)×Unit)):=(Ab (Ab (Ab Ae))) (Cu ((Ab (Ab (Ab Ae))) Fy d)) d
def Ui (a0 a1:List Wr):Option ((((Bool)×Unit)×(Unit))):=
 bif nI a0.length != nI a1.length then some ((false,()),()) else ((fun d=>Cu (Fy d.1 d.2.1 d.2.2.1) d.1 d.2.1 d.2.2.1) (a0,a1,0,())).bind fun val=>Bw (fun d=>some ((true,()),())) (fun d=>some (d,())) val
theorem At8 (a0 a1:List Wr) r (h:Px a0 a1=some r):Ui a0 a1=some ((r,()),(())):=by
 obtain ⟨hc,hd,rfl⟩:=N3 (t:=.sl Fb) h
 obtain ⟨hlx0,hx⟩:=M5 hc
 obtain ⟨hly0,hy⟩:=M5 hd
 have hlx:a0.length < 1152921504606846976:=hlx0
 have hly:a1.length < 1152921504606846976:=hly0
 clear hlx0 hly0 hc hd h
 ·unfold Ui
  by_cases hl:a1.length=a0.length
  ·have c1:(nI a0.length != nI a1.length)=false:=by simp [nI,hl]
   have hL:=Ao6 (xs:=a0) (ys:=a1) (0,(Ac),()) (fun x y:Wr=>Pt Fb x y) (g:=fun m i=>Cu m a0 a1 i) (ok:=.inl ()) (bad:=.inr (false,())) hl (fun m i hi=>by
    show Cu (m + 1) a0 a1 i=_
    simp only [Cu,Kk]
    rw [Qv hi,Gt,Qv (show i < a1.length by omega),wI (by omega)]
    simp only [cond_true,Eo]
    have f1:A5 Fb (List.getD (α:=Wr) a0 i (0,(Ac),()))=true:=hx _ (N2 (0,(Ac),()) hi)
    have f2:A5 Fb (List.getD (α:=Wr) a1 i (0,(Ac),()))=true:=hy _ (N2 (0,(Ac),()) (by omega))
    have hE:Su (List.getD (α:=Wr) a0 i (0,(Ac),())) (List.getD (α:=Wr) a1 i (0,(Ac),()))=some (Pt Fb (List.getD (α:=Wr) a0 i (0,(Ac),())) (List.getD (α:=Wr) a1 i (0,(Ac),()))):=by
     exact Vq (t:=Fb) (x:=(List.getD (α:=Wr) a0 i (0,(Ac),()))) (y:=(List.getD (α:=Wr) a1 i (0,(Ac),()))) f1 f2
    rw [hE]
    cases q:Pt Fb (List.getD (α:=Wr) a0 i (0,(Ac),())) (List.getD (α:=Wr) a1 i (0,(Ac),()))<;>simp only [Option.bind_some,q]<;>rfl) (fun m=>by
    show Cu (m + 1) a0 a1 a0.length=_
    simp only [Cu,Kk]
    rw [Jx]
    rfl) (Fy a0 a1 0) 0 (by omega) (by simp [Fy])
   rw [c1]
   have hL':Cu (Fy a0 a1 0) a0 a1 0=_:=hL
   show (Cu (Fy a0 a1 0) a0 a1 0).bind _=some ((eqL (α:=Wr) (fun x y:Wr=>Pt Fb x y) a0 a1,()),())
   rw [hL',List.drop_zero,List.drop_zero]
   cases eqL (α:=Wr) (fun x y:Wr=>Pt Fb x y) a0 a1<;>rfl
  ·have c1:(nI a0.length != nI a1.length)=true:=by simp [nI]; omega
   rw [c1]
   show _=some ((eqL (α:=Wr) (fun x y:Wr=>Pt Fb x y) a0 a1,()),())
   rw [Ao5 (fun q=>hl q.symm)]
   rfl
def Z2 {R:Type} (k:Kt R):=(Bw (Ko (Hg 5) (.exit 0) 2 k) (Ko (Hg 5) .ret 1 k))
def Afu {R:Type}:Lt R Hg:=(E3 (pat:=Hg) 5 (fun d k=>(Ans d).bind (Z2 k)) F8)
theorem Acx:Ax Tryz.prog Acw:=Ay ⟨Axu,trivial⟩
theorem Ant {R:Type}:A4 Tryz.prog R 27 0 Hg Afu Z1:=
 Cj (cfg:=⟨Acw,0,27,Hg⟩) 5 [] (fun NX X d=>(Ab (Ab (Ab Ae))) (Kk  NX (fun e=>X (.inl (e))) (fun e=>X (.inr (e)))) d) (fun m d=>(Ab (Ab (Ab Ae))) (Cu m) d) (fun d=>(Ab (Ab (Ab Ae))) Fy d) Z2 Acx trivial (fun f NX d=>by simp only [u4,Ab,Ae]; unfold Kk; simp only [nb])
theorem At9:Bm Tryz.prog 101 Acv:=
 Aw (pat:=Hg) [Z1] Afu Acx ⟨Ant,trivial⟩ Tryz.func101 (de:=fun x=>Ui x.1 x.2.1) (fun x r h=>A2 (At8 x.1 x.2.1) h) fun _=>by kernel_rfl
def Pq (a b:Dk):Option Bool:=eqM Uw a b
def A2v:E5:=⟨[.rd Uw,.rd Uw],[some 2,some 2],[.rd .bool],[none]⟩
def Ai1:SD:=⟨A2v,fun x=>(Pq x.1 x.2.1).bind fun r=>some ((r,()),(()))⟩
def Z3 (a0 a1:Dk):Option ((((Bool)×Unit)×(Unit))):=
 ((Jr a0.1 a1.1).bind fun val=>some ((val,()),())).bind fun val=>bif !val.1.1 then some ((false,()),()) else ((Px a0.2.1 a1.2.1).bind fun val=>some ((val,()),())).bind fun val=>bif !val.1.1 then some ((false,()),()) else some ((true,()),())
theorem A2w (a0 a1:Dk) r (h:Pq a0 a1=some r):Z3 a0 a1=some ((r,()),(())):=by
 obtain ⟨hc,hd,rfl⟩:=N3 (t:=Uw) h
 obtain ⟨hc0,hc1,_⟩:A5 (.sl .str) a0.1=true∧A5 (.sl Fb) a0.2.1=true∧True:=by
  have s:=hc
  obtain ⟨h0,s⟩:=An s
  obtain ⟨h1,s⟩:=An s
  exact ⟨h0,h1,trivial⟩
 obtain ⟨hd0,hd1,_⟩:A5 (.sl .str) a1.1=true∧A5 (.sl Fb) a1.2.1=true∧True:=by
  have s:=hd
  obtain ⟨h0,s⟩:=An s
  obtain ⟨h1,s⟩:=An s
  exact ⟨h0,h1,trivial⟩
 unfold Z3
 have e0:Jr a0.1 a1.1=some (Pt (.sl .str) a0.1 a1.1):=Vq (t:=(.sl .str)) hc0 hd0
 have e1:Px a0.2.1 a1.2.1=some (Pt (.sl Fb) a0.2.1 a1.2.1):=Vq (t:=(.sl Fb)) hc1 hd1
 simp only [e0,e1,Option.bind_some]
 show _=some (((Pt (.sl .str) a0.1 a1.1&&(Pt (.sl Fb) a0.2.1 a1.2.1&&true)),()),())
 generalize Pt (.sl .str) a0.1 a1.1=p0
 generalize Pt (.sl Fb) a0.2.1 a1.2.1=p1
 cases p0<;>cases p1<;>rfl
theorem A2x:Bm Tryz.prog 35 Ai1:=
 Aw (pat:=Co) [] F8 (Ay (l:=[(38,Sr),(101,Acv)]) ⟨w6,At9,trivial⟩) trivial Tryz.func35 (de:=fun x=>Z3 x.1 x.2.1) (fun x r h=>A2 (A2w x.1 x.2.1) h) fun _=>by kernel_rfl
def Alr (a b:Rt):Option Bool:=eqM yRt a b
def A2y:E5:=⟨[.rd yRt,.rd yRt],[some 4,some 4],[.rd .bool],[none]⟩
def Ai2:SD:=⟨A2y,fun x=>(Alr x.1 x.2.1).bind fun r=>some ((r,()),(()))⟩
def Z4 (a0 a1:Rt):Option ((((Bool)×Unit)×(Unit))):=
 bif a0.1 != a1.1 then some ((false,()),()) else bif a0.2.1 != a1.2.1 then some ((false,()),()) else bif a0.2.2.1 != a1.2.2.1 then some ((false,()),()) else bif a0.2.2.2.1 != a1.2.2.2.1 then some ((false,()),()) else some ((true,()),())
theorem A2z (a0 a1:Rt) r (h:Alr a0 a1=some r):Z4 a0 a1=some ((r,()),(())):=by
 obtain ⟨hc,hd,rfl⟩:=N3 (t:=yRt) h
 obtain ⟨hc0,hc1,hc2,hc3,_⟩:A5 tI a0.1=true∧A5 tI a0.2.1=true∧A5 tI a0.2.2.1=true∧A5 tI a0.2.2.2.1=true∧True:=by
  have s:=hc
  obtain ⟨h0,s⟩:=An s
  obtain ⟨h1,s⟩:=An s
  obtain ⟨h2,s⟩:=An s
  obtain ⟨h3,s⟩:=An s
  exact ⟨h0,h1,h2,h3,trivial⟩
 obtain ⟨hd0,hd1,hd2,hd3,_⟩:A5 tI a1.1=true∧A5 tI a1.2.1=true∧A5 tI a1.2.2.1=true∧A5 tI a1.2.2.2.1=true∧True:=by
  have s:=hd
  obtain ⟨h0,s⟩:=An s
  obtain ⟨h1,s⟩:=An s
  obtain ⟨h2,s⟩:=An s
  obtain ⟨h3,s⟩:=An s
  exact ⟨h0,h1,h2,h3,trivial⟩
 unfold Z4
 have e0:(a0.1 != a1.1)=!eqI a0.1 a1.1:=Av7 _ _
 have e1:(a0.2.1 != a1.2.1)=!eqI a0.2.1 a1.2.1:=Av7 _ _
 have e2:(a0.2.2.1 != a1.2.2.1)=!eqI a0.2.2.1 a1.2.2.1:=Av7 _ _
 have e3:(a0.2.2.2.1 != a1.2.2.2.1)=!eqI a0.2.2.2.1 a1.2.2.2.1:=Av7 _ _
 simp only [e0,e1,e2,e3,Option.bind_some]
 show _=some (((eqI a0.1 a1.1&&(eqI a0.2.1 a1.2.1&&(eqI a0.2.2.1 a1.2.2.1&&(eqI a0.2.2.2.1 a1.2.2.2.1&&true)))),()),())
 generalize eqI a0.1 a1.1=p0
 generalize eqI a0.2.1 a1.2.1=p1
 generalize eqI a0.2.2.1 a1.2.2.1=p2
 generalize eqI a0.2.2.2.1 a1.2.2.2.1=p3
 cases p0<;>cases p1<;>cases p2<;>cases p3<;>rfl
theorem A20:Bm Tryz.prog 102 Ai2:=
 Aw (pat:=Co) [] F8 (Ay (l:=[]) trivial) trivial Tryz.func102 (de:=fun x=>Z4 x.1 x.2.1) (fun x r h=>A2 (A2z x.1 x.2.1) h) fun _=>by kernel_rfl
def Oj (a b:Ls):Option Bool:=eqM Il a b
def Axv:E5:=⟨[.rd Il,.rd Il],[some 10,some 10],[.rd .bool],[none]⟩
def Afv:SD:=⟨Axv,fun x=>(Oj x.1 x.2.1).bind fun r=>some ((r,()),(()))⟩
def Wd (a0 a1:Ls):Option ((((Bool)×Unit)×(Unit))):=
 bif a0.1 != a1.1 then some ((false,()),()) else bif a0.2.1 != a1.2.1 then some ((false,()),()) else bif a0.2.2.1 != a1.2.2.1 then some ((false,()),()) else bif !(decide (a0.2.2.2.1.1=a1.2.2.2.1.1)&&(decide (a0.2.2.2.1.2.1=a1.2.2.2.1.2.1)&&(decide (a0.2.2.2.1.2.2.1=a1.2.2.2.1.2.2.1)&&(decide (a0.2.2.2.1.2.2.2.1=a1.2.2.2.1.2.2.2.1)&&true)))) then some ((false,()),()) else bif a0.2.2.2.2.1 != a1.2.2.2.2.1 then some ((false,()),()) else bif a0.2.2.2.2.2.1 != a1.2.2.2.2.2.1 then some ((false,()),()) else ((D8 a0.2.2.2.2.2.2.1 a1.2.2.2.2.2.2.1).bind fun val=>some ((val,()),())).bind fun val=>bif !val.1.1 then some ((false,()),()) else some ((true,()),())
theorem Axw (a0 a1:Ls) r (h:Oj a0 a1=some r):Wd a0 a1=some ((r,()),(())):=by
 obtain ⟨hc,hd,rfl⟩:=N3 (t:=Il) h
 obtain ⟨hc0,hc1,hc2,hc3,hc4,hc5,hc6,_⟩:A5 tI a0.1=true∧A5 tI a0.2.1=true∧A5 tI a0.2.2.1=true∧A5 yRt a0.2.2.2.1=true∧A5 tI a0.2.2.2.2.1=true∧A5 tI a0.2.2.2.2.2.1=true∧A5 B6 a0.2.2.2.2.2.2.1=true∧True:=by
  have s:=hc
  obtain ⟨h0,s⟩:=An s
  obtain ⟨h1,s⟩:=An s
  obtain ⟨h2,s⟩:=An s
  obtain ⟨h3,s⟩:=An s
  obtain ⟨h4,s⟩:=An s
  obtain ⟨h5,s⟩:=An s
  obtain ⟨h6,s⟩:=An s
  exact ⟨h0,h1,h2,h3,h4,h5,h6,trivial⟩
 obtain ⟨hd0,hd1,hd2,hd3,hd4,hd5,hd6,_⟩:A5 tI a1.1=true∧A5 tI a1.2.1=true∧A5 tI a1.2.2.1=true∧A5 yRt a1.2.2.2.1=true∧A5 tI a1.2.2.2.2.1=true∧A5 tI a1.2.2.2.2.2.1=true∧A5 B6 a1.2.2.2.2.2.2.1=true∧True:=by
  have s:=hd
  obtain ⟨h0,s⟩:=An s
  obtain ⟨h1,s⟩:=An s
  obtain ⟨h2,s⟩:=An s
  obtain ⟨h3,s⟩:=An s
  obtain ⟨h4,s⟩:=An s
  obtain ⟨h5,s⟩:=An s
  obtain ⟨h6,s⟩:=An s
  exact ⟨h0,h1,h2,h3,h4,h5,h6,trivial⟩
 unfold Wd
 have e0:(a0.1 != a1.1)=!eqI a0.1 a1.1:=Av7 _ _
 have e1:(a0.2.1 != a1.2.1)=!eqI a0.2.1 a1.2.1:=Av7 _ _
 have e2:(a0.2.2.1 != a1.2.2.1)=!eqI a0.2.2.1 a1.2.2.1:=Av7 _ _
 have e4:(a0.2.2.2.2.1 != a1.2.2.2.2.1)=!eqI a0.2.2.2.2.1 a1.2.2.2.2.1:=Av7 _ _
 have e5:(a0.2.2.2.2.2.1 != a1.2.2.2.2.2.1)=!eqI a0.2.2.2.2.2.1 a1.2.2.2.2.2.1:=Av7 _ _
 have e6:D8 a0.2.2.2.2.2.2.1 a1.2.2.2.2.2.2.1=some (Pt B6 a0.2.2.2.2.2.2.1 a1.2.2.2.2.2.2.1):=Vq (t:=B6) hc6 hd6
 have e6:D8 a0.2.2.2.2.2.2.1 a1.2.2.2.2.2.2.1=some (Pt B6 a0.2.2.2.2.2.2.1 a1.2.2.2.2.2.2.1):=e6
 simp only [e0,e1,e2,e4,e5,e6,Option.bind_some]
 show _=some (((eqI a0.1 a1.1&&(eqI a0.2.1 a1.2.1&&(eqI a0.2.2.1 a1.2.2.1&&((decide (a0.2.2.2.1.1=a1.2.2.2.1.1)&&(decide (a0.2.2.2.1.2.1=a1.2.2.2.1.2.1)&&(decide (a0.2.2.2.1.2.2.1=a1.2.2.2.1.2.2.1)&&(decide (a0.2.2.2.1.2.2.2.1=a1.2.2.2.1.2.2.2.1)&&true))))&&(eqI a0.2.2.2.2.1 a1.2.2.2.2.1&&(eqI a0.2.2.2.2.2.1 a1.2.2.2.2.2.1&&(Pt B6 a0.2.2.2.2.2.2.1 a1.2.2.2.2.2.2.1&&true))))))),()),())
 generalize eqI a0.1 a1.1=p0
 generalize eqI a0.2.1 a1.2.1=p1
 generalize eqI a0.2.2.1 a1.2.2.1=p2
 generalize (decide (a0.2.2.2.1.1=a1.2.2.2.1.1)&&(decide (a0.2.2.2.1.2.1=a1.2.2.2.1.2.1)&&(decide (a0.2.2.2.1.2.2.1=a1.2.2.2.1.2.2.1)&&(decide (a0.2.2.2.1.2.2.2.1=a1.2.2.2.1.2.2.2.1)&&true))))=p3
 generalize eqI a0.2.2.2.2.1 a1.2.2.2.2.1=p4
 generalize eqI a0.2.2.2.2.2.1 a1.2.2.2.2.2.1=p5
 generalize Pt B6 a0.2.2.2.2.2.2.1 a1.2.2.2.2.2.2.1=p6
 cases p0<;>cases p1<;>cases p2<;>cases p3<;>cases p4<;>cases p5<;>cases p6<;>rfl
theorem Axx:Bm Tryz.prog 36 Afv:=
 Aw (pat:=Co) [] F8 (Ay (l:=[(9,Pw),(102,Ai2)]) ⟨Wb,A20,trivial⟩) trivial Tryz.func36 (de:=fun x=>Wd x.1 x.2.1) (fun x r h=>A2 (Axw x.1 x.2.1) h) fun _=>by kernel_rfl
def Py (a b:List Dh):Option Bool:=eqM (.sl B6) a b
def Aua:E5:=⟨[.rd (.sl B6),.rd (.sl B6)],[none,none],[.rd .bool],[none]⟩
def Acy:SD:=⟨Aua,fun x=>(Py x.1 x.2.1).bind fun r=>some ((r,()),(()))⟩
def Acz:Tb:=tb [(9,Pw)]
def Hh:Nat→Da×(Nat→Da):=Gs [(5,⟨[.sl 0 0 B6,.sl 1 0 B6],[(0,.lf (.d (.sl B6))),(1,.lf (.d (.sl B6))),(5,.lf (.d tI))],[]⟩,[(2,p0),(1,⟨[],[(4,.lf (.d .bool))],[]⟩)])]
def Z5:Code:=(At (Bc Tryz.f37)).getD 0 .skip
def Fz (v0 v1:List Dh) (v5:Int):Nat:=((v0.length:Int) - v5).toNat + 1
def Kl {R:Type}  (NX:((List Dh)×(List Dh)×(Int)×Unit)→Option R) (X2:(Unit)→Option R) (X1:((Bool)×Unit)→Option R) (v0:List Dh) (v1:List Dh) (v5:Int):Option R:=
 bif decide (v5 < nI v0.length) then bif decide (0≤v5) then bif decide (v5 < nI v0.length) then bif decide (0≤v5) then bif decide (v5 < nI v1.length) then ((D8 (v0.getD v5.toNat ([],())) (v1.getD v5.toNat ([],()))).bind fun val=>some ((val,()),())).bind fun val=>bif !val.1.1 then X1 (false,()) else NX (v0,v1,IntKind.i64.wrap (v5 + 1),()) else none else none else none else none else X2 PUnit.unit
def Cv:Nat→(List Dh)→(List Dh)→(Int) →  Option ((Unit) ⊕ ((Bool)×Unit))
 | 0,_,_,_=>none
 | m + 1,v0,v1,v5=>Kl  (fun d=>Cv m d.1 d.2.1 d.2.2.1) (fun d=>some (.inl (d))) (fun d=>some (.inr (d))) v0 v1 v5
def Anu (d:(List Dh)×(List Dh)×(Int)×Unit):Option ((Unit) ⊕ ((Bool)×Unit)):=(Ab (Ab (Ab Ae))) (Cv ((Ab (Ab (Ab Ae))) Fz d)) d
def Uj (a0 a1:List Dh):Option ((((Bool)×Unit)×(Unit))):=
 bif nI a0.length != nI a1.length then some ((false,()),()) else ((fun d=>Cv (Fz d.1 d.2.1 d.2.2.1) d.1 d.2.1 d.2.2.1) (a0,a1,0,())).bind fun val=>Bw (fun d=>some ((true,()),())) (fun d=>some (d,())) val
theorem Aub (a0 a1:List Dh) r (h:Py a0 a1=some r):Uj a0 a1=some ((r,()),(())):=by
 obtain ⟨hc,hd,rfl⟩:=N3 (t:=.sl B6) h
 obtain ⟨hlx0,hx⟩:=M5 hc
 obtain ⟨hly0,hy⟩:=M5 hd
 have hlx:a0.length < 1152921504606846976:=hlx0
 have hly:a1.length < 1152921504606846976:=hly0
 clear hlx0 hly0 hc hd h
 ·unfold Uj
  by_cases hl:a1.length=a0.length
  ·have c1:(nI a0.length != nI a1.length)=false:=by simp [nI,hl]
   have hL:=Ao6 (xs:=a0) (ys:=a1) ([],()) (fun x y:Dh=>Pt B6 x y) (g:=fun m i=>Cv m a0 a1 i) (ok:=.inl ()) (bad:=.inr (false,())) hl (fun m i hi=>by
    show Cv (m + 1) a0 a1 i=_
    simp only [Cv,Kl]
    rw [Qv hi,Gt,Qv (show i < a1.length by omega),wI (by omega)]
    simp only [cond_true,Eo]
    have f1:A5 B6 (List.getD (α:=Dh) a0 i ([],()))=true:=hx _ (N2 ([],()) hi)
    have f2:A5 B6 (List.getD (α:=Dh) a1 i ([],()))=true:=hy _ (N2 ([],()) (by omega))
    have hE:D8 (List.getD (α:=Dh) a0 i ([],())) (List.getD (α:=Dh) a1 i ([],()))=some (Pt B6 (List.getD (α:=Dh) a0 i ([],())) (List.getD (α:=Dh) a1 i ([],()))):=by
     exact Vq (t:=B6) (x:=(List.getD (α:=Dh) a0 i ([],()))) (y:=(List.getD (α:=Dh) a1 i ([],()))) f1 f2
    rw [hE]
    cases q:Pt B6 (List.getD (α:=Dh) a0 i ([],())) (List.getD (α:=Dh) a1 i ([],()))<;>simp only [Option.bind_some,q]<;>rfl) (fun m=>by
    show Cv (m + 1) a0 a1 a0.length=_
    simp only [Cv,Kl]
    rw [Jx]
    rfl) (Fz a0 a1 0) 0 (by omega) (by simp [Fz])
   rw [c1]
   have hL':Cv (Fz a0 a1 0) a0 a1 0=_:=hL
   show (Cv (Fz a0 a1 0) a0 a1 0).bind _=some ((eqL (α:=Dh) (fun x y:Dh=>Pt B6 x y) a0 a1,()),())
   rw [hL',List.drop_zero,List.drop_zero]
   cases eqL (α:=Dh) (fun x y:Dh=>Pt B6 x y) a0 a1<;>rfl
  ·have c1:(nI a0.length != nI a1.length)=true:=by simp [nI]; omega
   rw [c1]
   show _=some ((eqL (α:=Dh) (fun x y:Dh=>Pt B6 x y) a0 a1,()),())
   rw [Ao5 (fun q=>hl q.symm)]
   rfl
def Z6 {R:Type} (k:Kt R):=(Bw (Ko (Hh 5) (.exit 0) 2 k) (Ko (Hh 5) .ret 1 k))
def Afw {R:Type}:Lt R Hh:=(E3 (pat:=Hh) 5 (fun d k=>(Anu d).bind (Z6 k)) F8)
theorem Ac0:Ax Tryz.prog Acz:=Ay ⟨Wb,trivial⟩
theorem Anv {R:Type}:A4 Tryz.prog R 27 0 Hh Afw Z5:=
 Cj (cfg:=⟨Acz,0,27,Hh⟩) 5 [] (fun NX X d=>(Ab (Ab (Ab Ae))) (Kl  NX (fun e=>X (.inl (e))) (fun e=>X (.inr (e)))) d) (fun m d=>(Ab (Ab (Ab Ae))) (Cv m) d) (fun d=>(Ab (Ab (Ab Ae))) Fz d) Z6 Ac0 trivial (fun f NX d=>by simp only [u4,Ab,Ae]; unfold Kl; simp only [nb])
theorem Auc:Bm Tryz.prog 37 Acy:=
 Aw (pat:=Hh) [Z5] Afw Ac0 ⟨Anv,trivial⟩ Tryz.func37 (de:=fun x=>Uj x.1 x.2.1) (fun x r h=>A2 (Aub x.1 x.2.1) h) fun _=>by kernel_rfl
def Sv (a b:S4):Option Bool:=eqM Xf a b
def Axy:E5:=⟨[.rd Xf,.rd Xf],[some 16,some 16],[.rd .bool],[none]⟩
def Afx:SD:=⟨Axy,fun x=>(Sv x.1 x.2.1).bind fun r=>some ((r,()),(()))⟩
def We (a0 a1:S4):Option ((((Bool)×Unit)×(Unit))):=
 bif a0.1 != a1.1 then some ((false,()),()) else ((Pq a0.2.1 a1.2.1).bind fun val=>some ((val,()),())).bind fun val=>bif !val.1.1 then some ((false,()),()) else bif !a0.2.2.1==a1.2.2.1 then some ((false,()),()) else ((Oj a0.2.2.2.1 a1.2.2.2.1).bind fun val=>some ((val,()),())).bind fun val=>bif !val.1.1 then some ((false,()),()) else ((Py a0.2.2.2.2.1 a1.2.2.2.2.1).bind fun val=>some ((val,()),())).bind fun val=>bif !val.1.1 then some ((false,()),()) else ((Jr a0.2.2.2.2.2.1 a1.2.2.2.2.2.1).bind fun val=>some ((val,()),())).bind fun val=>bif !val.1.1 then some ((false,()),()) else some ((true,()),())
theorem Axz (a0 a1:S4) r (h:Sv a0 a1=some r):We a0 a1=some ((r,()),(())):=by
 obtain ⟨hc,hd,rfl⟩:=N3 (t:=Xf) h
 obtain ⟨hc0,hc1,hc2,hc3,hc4,hc5,_⟩:A5 tI a0.1=true∧A5 Uw a0.2.1=true∧A5 .bool a0.2.2.1=true∧A5 Il a0.2.2.2.1=true∧A5 (.sl B6) a0.2.2.2.2.1=true∧A5 (.sl .str) a0.2.2.2.2.2.1=true∧True:=by
  have s:=hc
  obtain ⟨h0,s⟩:=An s
  obtain ⟨h1,s⟩:=An s
  obtain ⟨h2,s⟩:=An s
  obtain ⟨h3,s⟩:=An s
  obtain ⟨h4,s⟩:=An s
  obtain ⟨h5,s⟩:=An s
  exact ⟨h0,h1,h2,h3,h4,h5,trivial⟩
 obtain ⟨hd0,hd1,hd2,hd3,hd4,hd5,_⟩:A5 tI a1.1=true∧A5 Uw a1.2.1=true∧A5 .bool a1.2.2.1=true∧A5 Il a1.2.2.2.1=true∧A5 (.sl B6) a1.2.2.2.2.1=true∧A5 (.sl .str) a1.2.2.2.2.2.1=true∧True:=by
  have s:=hd
  obtain ⟨h0,s⟩:=An s
  obtain ⟨h1,s⟩:=An s
  obtain ⟨h2,s⟩:=An s
  obtain ⟨h3,s⟩:=An s
  obtain ⟨h4,s⟩:=An s
  obtain ⟨h5,s⟩:=An s
  exact ⟨h0,h1,h2,h3,h4,h5,trivial⟩
 unfold We
 have e0:(a0.1 != a1.1)=!eqI a0.1 a1.1:=Av7 _ _
 have e1:Pq a0.2.1 a1.2.1=some (Pt Uw a0.2.1 a1.2.1):=Vq (t:=Uw) hc1 hd1
 have e1:Pq a0.2.1 a1.2.1=some (Pt Uw a0.2.1 a1.2.1):=e1
 have e2:(!(a0.2.2.1==a1.2.2.1))=!eqO a0.2.2.1 a1.2.2.1:=rfl
 have e3:Oj a0.2.2.2.1 a1.2.2.2.1=some (Pt Il a0.2.2.2.1 a1.2.2.2.1):=Vq (t:=Il) hc3 hd3
 have e3:Oj a0.2.2.2.1 a1.2.2.2.1=some (Pt Il a0.2.2.2.1 a1.2.2.2.1):=e3
 have e4:Py a0.2.2.2.2.1 a1.2.2.2.2.1=some (Pt (.sl B6) a0.2.2.2.2.1 a1.2.2.2.2.1):=Vq (t:=(.sl B6)) hc4 hd4
 have e5:Jr a0.2.2.2.2.2.1 a1.2.2.2.2.2.1=some (Pt (.sl .str) a0.2.2.2.2.2.1 a1.2.2.2.2.2.1):=Vq (t:=(.sl .str)) hc5 hd5
 simp only [e0,e1,e2,e3,e4,e5,Option.bind_some]
 show _=some (((eqI a0.1 a1.1&&(Pt Uw a0.2.1 a1.2.1&&(eqO a0.2.2.1 a1.2.2.1&&(Pt Il a0.2.2.2.1 a1.2.2.2.1&&(Pt (.sl B6) a0.2.2.2.2.1 a1.2.2.2.2.1&&(Pt (.sl .str) a0.2.2.2.2.2.1 a1.2.2.2.2.2.1&&true)))))),()),())
 generalize eqI a0.1 a1.1=p0
 generalize Pt Uw a0.2.1 a1.2.1=p1
 generalize eqO a0.2.2.1 a1.2.2.1=p2
 generalize Pt Il a0.2.2.2.1 a1.2.2.2.1=p3
 generalize Pt (.sl B6) a0.2.2.2.2.1 a1.2.2.2.2.1=p4
 generalize Pt (.sl .str) a0.2.2.2.2.2.1 a1.2.2.2.2.2.1=p5
 cases p0<;>cases p1<;>cases p2<;>cases p3<;>cases p4<;>cases p5<;>rfl
theorem Ax0:Bm Tryz.prog 10 Afx:=
 Aw (pat:=Co) [] F8 (Ay (l:=[(35,Ai1),(36,Afv),(37,Acy),(38,Sr)]) ⟨A2x,Axx,Auc,w6,trivial⟩) trivial Tryz.func10 (de:=fun x=>We x.1 x.2.1) (fun x r h=>A2 (Axz x.1 x.2.1) h) fun _=>by kernel_rfl
def Ca (k:Int):Option Aa:=if k≤36028797018963968 then some (S5 k) else none
def Km (v0:Int) (v3:Aa):Nat:=21
def Aud:E5:=⟨[.rd tI],[none],[.rd .str],[none]⟩
def Mk:SD:=⟨Aud,fun x=>(Ca x.1).bind fun r=>some ((r,()),(()))⟩
def Ac1:Tb:=tb []
def Js:Nat→Da×(Nat→Da):=Gs [(5,⟨[],[(0,.lf (.d tI)),(3,.lf (.d .str))],[]⟩,[(2,⟨[],[(3,.lf (.d .str))],[]⟩)])]
def Z7:Code:=(At (Bc Tryz.f104)).getD 0 .skip
def Kn {R:Type}  (NX:((Int)×(Aa)×Unit)→Option R) (X2:((Aa)×Unit)→Option R) (v0:Int) (v3:Aa):Option R:=
 bif decide (v0 > 0) then bif decide ((strOfNums [IntKind.u8.wrap (IntKind.i64.wrap (48 + v0.tmod 10))]).size + v3.size≤9223372036854775807) then NX (IntKind.i64.wrap (v0.tdiv 10),strOfNums [IntKind.u8.wrap (IntKind.i64.wrap (48 + v0.tmod 10))]++v3,()) else none else X2 (v3,())
def Dp:Nat→(Int)→(Aa) →  Option ((Aa)×Unit)
 | 0,_,_=>none
 | m + 1,v0,v3=>Kn  (fun d=>Dp m d.1 d.2.1) (fun d=>some (d)) v0 v3
def Anw (d:(Int)×(Aa)×Unit):Option ((Aa)×Unit):=(Ab (Ab Ae)) (Dp ((Ab (Ab Ae)) Km d)) d
def Uk (a0:Int):Option ((((Aa)×Unit)×(Unit))):=
 bif decide (a0≤0) then some ((ByteArray.mk #[109,48],()),()) else ((fun d=>Dp (Km d.1 d.2.1) d.1 d.2.1) (a0,Ac,())).bind fun val=>bif decide ((ByteArray.mk #[109]).size + ByteArray.size val.1≤9223372036854775807) then some ((ByteArray.mk #[109]++val.1,()),()) else none
theorem Bct {k:Int} (h:0≤k):IntKind.wrap .u8 (IntKind.wrap .i64 (48 + Int.tmod k 10))=48 + k % 10:=by
 rw [Int.tmod_eq_emod_of_nonneg h]
 have h1:0≤k % 10:=Int.emod_nonneg _ (by omega)
 have h2:k % 10 < 10:=Int.emod_lt_of_pos _ (by omega)
 have e1:IntKind.wrap .i64 (48 + k % 10)=48 + k % 10:=Aj (by omega) (by omega)
 rw [e1]
 simp [IntKind.wrap,IntKind.bits,IntKind.signed]
 omega
theorem Ac2:∀ (m:Nat) (k:Int) (out:Aa),0≤k→k≤36028797018963968→k < 10 ^ m→out.size + m≤100→Dp (m + 1) k out=some (Agt m k out,())
 | 0,k,out,h0,hb,h1,_=>by
  simp only [Dp,Kn]
  have:¬ k > 0:=by simp at h1; omega
  rw [Bd this]
  rfl
 | m + 1,k,out,h0,hb,h1,h2=>by
  rw [Dp]
  simp only [Kn,Agt]
  by_cases h:k > 0
  ·have e:IntKind.wrap .i64 (Int.tdiv k 10)=k / 10:=by
    rw [Int.tdiv_eq_ediv_of_nonneg h0]
    exact Aj (by omega) (by omega)
   have hs:ByteArray.size (strOfNums [48 + k % 10])=1:=strOfNums_size _
   have h3:k / 10 < 10 ^ m:=Int.ediv_lt_of_lt_mul (by omega) (by rw [Int.pow_succ] at h1; exact h1)
   have c:ByteArray.size (strOfNums [48 + k % 10]) + ByteArray.size out≤9223372036854775807:=by rw [hs]; omega
   have ih:=Ac2 m (k / 10) (strOfNums [48 + k % 10]++out) (by omega) (by omega) h3 (by rw [ByteArray.size_append,hs]; omega)
   rw [Bct h0,Ap h,if_pos h,e,Ap c]
   exact ih
  ·rw [Bd h,if_neg h]
   rfl
theorem Avx:∀ (m:Nat) (k:Int) (out:Aa),(Agt m k out).size≤out.size + m
 | 0,k,out=>Nat.le_refl _
 | m + 1,k,out=>by
  simp only [Agt]
  split
  ·have:=Avx m (k / 10) (strOfNums [48 + k % 10]++out)
   rw [ByteArray.size_append,strOfNums_size] at this
   simp at this
   omega
  ·omega
theorem Aue (a0:Int) r (h:Ca a0=some r):Uk a0=some ((r,()),(())):=by
 unfold Ca at h
 split at h
 ·rename_i hc
  cases h
  unfold Uk S5
  by_cases q:a0≤0
  ·rw [Ap q,if_pos q]; rfl
  ·rw [Bd q,if_neg q]
   have hL:=Ac2 20 a0 ⟨#[]⟩ (by omega) hc (by omega) (by decide)
   have hL':Dp (Km a0 ⟨#[]⟩) a0 ⟨#[]⟩=_:=hL
   show (Dp (Km a0 ⟨#[]⟩) a0 ⟨#[]⟩).bind _=_
   rw [hL']
   have:=Avx 20 a0 ⟨#[]⟩
   have h0:ByteArray.size ⟨#[]⟩=0:=rfl
   have h1:ByteArray.size ⟨#[109]⟩=1:=rfl
   have c:ByteArray.size ⟨#[109]⟩ + ByteArray.size (Agt 20 a0 ⟨#[]⟩)≤9223372036854775807:=by omega
   show (bif decide (ByteArray.size ⟨#[109]⟩ + ByteArray.size (Agt 20 a0 ⟨#[]⟩)≤9223372036854775807) then _ else _)=_
   rw [Ap c]
   rfl
 ·cases h
def Z8 {R:Type} (k:Kt R):=(Ko (Js 5) (.exit 0) 2 k)
def Afy {R:Type}:Lt R Js:=(E3 (pat:=Js) 5 (fun d k=>(Anw d).bind (Z8 k)) F8)
theorem Ac3:Ax Tryz.prog Ac1:=Ay trivial
theorem Anx {R:Type}:A4 Tryz.prog R 20 0 Js Afy Z7:=
 Cj (cfg:=⟨Ac1,0,20,Js⟩) 5 [] (fun NX X d=>(Ab (Ab Ae)) (Kn  NX X) d) (fun m d=>(Ab (Ab Ae)) (Dp m) d) (fun d=>(Ab (Ab Ae)) Km d) Z8 Ac3 trivial (fun f NX d=>by simp only [u4,Ab,Ae]; unfold Kn; simp only [nb])
theorem Oy:Bm Tryz.prog 104 Mk:=
 Aw (pat:=Js) [Z7] Afy Ac3 ⟨Anx,trivial⟩ Tryz.func104 (de:=fun x=>Uk x.1) (fun x r h=>A2 (Aue x.1) h) fun _=>by kernel_rfl
def Hi (a:List Aa) (k:Int):Option (Int×(List Aa)):=It .str a k
def Akk:E5:=⟨[.mu 9 .str,.rd tI],[none,none],[.rd tI],[none]⟩
def O6:SD:=⟨Akk,fun x=>(Hi x.1 x.2.1).bind fun r=>some ((r.1,()),(r.2,()))⟩
def Wz:Tb:=tb [(104,Mk)]
def Gr:Nat→Da×(Nat→Da):=Gs [(3,⟨[],[(0,.lf (.row 0)),(1,.lf (.d tI)),(5,.lf (.d tI))],[.row 9 .str]⟩,[(2,⟨[],[(1,.lf (.d tI))],[.row 9 .str]⟩)])]
def Td:Code:=(At (Bc Tryz.f42)).getD 0 .skip
def Dx (v1 v5:Int) (r0:List Aa):Nat:=((r0.length:Int) - v5).toNat + 1
def G2 {R:Type}  (NX:((Int)×(Int)×(List Aa)×Unit)→Option R) (X2:((Int)×(List Aa)×Unit)→Option R) (v1:Int) (v5:Int) (r0:List Aa):Option R:=
 bif decide (v5 < nI r0.length) then ((Ca v1).bind fun val=>some ((val,()),())).bind fun val=>bif decide (0≤v5) then bif decide (v5 < nI r0.length) then bif decide (v5.toNat < r0.length) then NX (IntKind.i64.wrap (v1 + 1),IntKind.i64.wrap (v5 + 1),r0.set v5.toNat val.1.1,()) else none else none else none else X2 (v1,r0,())
def Be:Nat→(Int)→(Int)→(List Aa) →  Option ((Int)×(List Aa)×Unit)
 | 0,_,_,_=>none
 | m + 1,v1,v5,r0=>G2  (fun d=>Be m d.1 d.2.1 d.2.2.1) (fun d=>some (d)) v1 v5 r0
def Af3 (d:(Int)×(Int)×(List Aa)×Unit):Option ((Int)×(List Aa)×Unit):=(Ab (Ab (Ab Ae))) (Be ((Ab (Ab (Ab Ae))) Dx d)) d
def O7 (a0:List Aa) (a1:Int):Option ((((Int)×Unit)×((List Aa)×Unit))):=
 ((fun d=>Be (Dx d.1 d.2.1 d.2.2.1) d.1 d.2.1 d.2.2.1) (a1,0,a0,())).bind fun val=>some ((val.1,()),val.2)
theorem Akl (a0:List Aa) (a1:Int) r (h:Hi a0 a1=some r):O7 a0 a1=some ((r.1,()),(r.2,())):=by
 obtain ⟨g0,g1,hl0,rfl⟩:=Amd (t:=.str) h
 have hl:a0.length≤1125899906842624:=hl0
 have hEE:(fun k:Int=>(show Aa from (mkE .str k).1))=(fun k:Int=>S5 (k)):=funext fun k=>by
  show S5 (k)=S5 (k)
  try simp only [Int.add_assoc,Int.add_zero]
  try rfl
 show _=some ((a1 + (a0.length:Int) * 1,()),(gL (fun k:Int=>(show Aa from (mkE .str k).1)) 1 a0.length a1,()))
 rw [hEE]
 unfold O7
 have hL:=Ajp (fun k:Int=>S5 (k)) 1 (n:=a0.length) (K:=36028797018963000) (g:=fun m k i r=>Be m k i r) (ok:=fun k r=>(k,r,())) (fun m i k r hi hr h1 hK=>by
  show Be (m + 1) k i r=_
  have hK1:k + 1≤36028797018963000:=by
   have:(1:Int)≤(a0.length - i:Nat):=by omega
   omega
  rw [show Be (m + 1) k i r=Be (m + 1) (k + 0) i r from by rw [Int.add_zero]]
  have k0:k=k + 0:=(Int.add_zero k).symm
  have t0:Ca (k + 0)=some (S5 (k + 0)):=if_pos (by omega)
  have w0:IntKind.i64.wrap (k + 0 + 1)=k + 1:=by rw [Aj (by omega) (by omega)]; omega
  have hir:i < r.length:=by omega
  simp only [Be,G2]
  simp only [t0,  Option.bind_some,w0,  List.length_set,List.set_set,Qv hir,Gt,A9d hir,wI (show i < 4611686018427387904 by omega),cond_true,Eo,Lz hir]
  first | rfl | (rw [Int.add_zero]; rfl) | (simp only [Int.add_zero]; rfl)) (fun m k r hr=>by
  show Be (m + 1) k a0.length r=_
  simp only [Be,G2,hr]
  rw [Jx]
  rfl) (Dx a1 0 a0) 0 a1 a0 (by omega) (by simp [Dx]) rfl g0 (by omega)
 have hL':Be (Dx a1 0 a0) a1 0 a0=_:=hL
 show (Be (Dx a1 0 a0) a1 0 a0).bind _=_
 rw [hL']
 rfl
def Te {R:Type} (k:Kt R):=(Ko (Gr 3) (.exit 0) 2 k)
def Z9 {R:Type}:Lt R Gr:=(E3 (pat:=Gr) 3 (fun d k=>(Af3 d).bind (Te k)) F8)
theorem W0:Ax Tryz.prog Wz:=Ay ⟨Oy,trivial⟩
theorem Af4 {R:Type}:A4 Tryz.prog R 20 1 Gr Z9 Td:=
 Cj (cfg:=⟨Wz,1,20,Gr⟩) 3 [] (fun NX X d=>(Ab (Ab (Ab Ae))) (G2  NX X) d) (fun m d=>(Ab (Ab (Ab Ae))) (Be m) d) (fun d=>(Ab (Ab (Ab Ae))) Dx d) Te W0 trivial (fun f NX d=>by simp only [u4,Ab,Ae]; unfold G2; simp only [nb])
theorem W1:Bm Tryz.prog 42 O6:=
 Aw (pat:=Gr) [Td] Z9 W0 ⟨Af4,trivial⟩ Tryz.func42 (de:=fun x=>O7 x.1 x.2.1) (fun x r h=>A2 (Akl x.1 x.2.1) h) fun _=>by kernel_rfl
def Nx (a:List Wr) (k:Int):Option (Int×(List Wr)):=It Fb a k
def Anz:E5:=⟨[.mu 151 Fb,.rd tI],[none,none],[.rd tI],[none]⟩
def b4:SD:=⟨Anz,fun x=>(Nx x.1 x.2.1).bind fun r=>some ((r.1,()),(r.2,()))⟩
def b5:Tb:=tb [(104,Mk)]
def Hj:Nat→Da×(Nat→Da):=Gs [(3,⟨[],[(0,.lf (.row 0)),(1,.lf (.d tI)),(5,.lf (.d tI))],[.row 151 Fb]⟩,[(2,⟨[],[(1,.lf (.d tI))],[.row 151 Fb]⟩)])]
def Vg:Code:=(At (Bc Tryz.f103)).getD 0 .skip
def D9 (v1 v5:Int) (r0:List Wr):Nat:=((r0.length:Int) - v5).toNat + 1
def H7 {R:Type}  (NX:((Int)×(Int)×(List Wr)×Unit)→Option R) (X2:((Int)×(List Wr)×Unit)→Option R) (v1:Int) (v5:Int) (r0:List Wr):Option R:=
 bif decide (v5 < nI r0.length) then bif decide (0≤v5) then bif decide (v5 < nI r0.length) then bif decide (v5.toNat < r0.length) then ((Ca (IntKind.i64.wrap (v1 + 1))).bind fun val=>some ((val,()),())).bind fun val=>bif decide (0≤v5) then bif decide (v5 < nI (r0.set v5.toNat (v1,(r0.getD v5.toNat (0,Ac,())).2)).length) then bif decide (v5.toNat < (r0.set v5.toNat (v1,(r0.getD v5.toNat (0,Ac,())).2)).length) then NX (IntKind.i64.wrap (IntKind.i64.wrap (v1 + 1) + 1),IntKind.i64.wrap (v5 + 1),(r0.set v5.toNat (v1,(r0.getD v5.toNat (0,Ac,())).2)).set v5.toNat (((r0.set v5.toNat (v1,(r0.getD v5.toNat (0,Ac,())).2)).getD v5.toNat (0,Ac,())).1,val.1),()) else none else none else none else none else none else none else X2 (v1,r0,())
def Bl:Nat→(Int)→(Int)→(List Wr) →  Option ((Int)×(List Wr)×Unit)
 | 0,_,_,_=>none
 | m + 1,v1,v5,r0=>H7  (fun d=>Bl m d.1 d.2.1 d.2.2.1) (fun d=>some (d)) v1 v5 r0
def Ai3 (d:(Int)×(Int)×(List Wr)×Unit):Option ((Int)×(List Wr)×Unit):=(Ab (Ab (Ab Ae))) (Bl ((Ab (Ab (Ab Ae))) D9 d)) d
def Qq (a0:List Wr) (a1:Int):Option ((((Int)×Unit)×((List Wr)×Unit))):=
 ((fun d=>Bl (D9 d.1 d.2.1 d.2.2.1) d.1 d.2.1 d.2.2.1) (a1,0,a0,())).bind fun val=>some ((val.1,()),val.2)
theorem An0 (a0:List Wr) (a1:Int) r (h:Nx a0 a1=some r):Qq a0 a1=some ((r.1,()),(r.2,())):=by
 obtain ⟨g0,g1,hl0,rfl⟩:=Amd (t:=Fb) h
 have hl:a0.length≤1125899906842624:=hl0
 have hEE:(fun k:Int=>(show Wr from (mkE Fb k).1))=(fun k:Int=>(k,S5 (k + 1),())):=funext fun k=>by
  show (k,S5 (k + 1),())=(k,S5 (k + 1),())
  try simp only [Int.add_assoc,Int.add_zero]
  try rfl
 show _=some ((a1 + (a0.length:Int) * 2,()),(gL (fun k:Int=>(show Wr from (mkE Fb k).1)) 2 a0.length a1,()))
 rw [hEE]
 unfold Qq
 have hL:=Ajp (fun k:Int=>(k,S5 (k + 1),())) 2 (n:=a0.length) (K:=36028797018963000) (g:=fun m k i r=>Bl m k i r) (ok:=fun k r=>(k,r,())) (fun m i k r hi hr h1 hK=>by
  show Bl (m + 1) k i r=_
  have hK1:k + 2≤36028797018963000:=by
   have:(1:Int)≤(a0.length - i:Nat):=by omega
   omega
  rw [show Bl (m + 1) k i r=Bl (m + 1) (k + 0) i r from by rw [Int.add_zero]]
  have k0:k=k + 0:=(Int.add_zero k).symm
  have t1:Ca (k + 1)=some (S5 (k + 1)):=if_pos (by omega)
  have w0:IntKind.i64.wrap (k + 0 + 1)=k + 1:=by rw [Aj (by omega) (by omega)]; omega
  have w1:IntKind.i64.wrap (k + 1 + 1)=k + 2:=by rw [Aj (by omega) (by omega)]; omega
  have hir:i < r.length:=by omega
  simp only [Bl,H7]
  simp only [t1,  Option.bind_some,w0,w1,  List.length_set,List.set_set,Qv hir,Gt,A9d hir,wI (show i < 4611686018427387904 by omega),cond_true,Eo,Lz hir]
  first | rfl | (rw [Int.add_zero]; rfl) | (simp only [Int.add_zero]; rfl)) (fun m k r hr=>by
  show Bl (m + 1) k a0.length r=_
  simp only [Bl,H7,hr]
  rw [Jx]
  rfl) (D9 a1 0 a0) 0 a1 a0 (by omega) (by simp [D9]) rfl g0 (by omega)
 have hL':Bl (D9 a1 0 a0) a1 0 a0=_:=hL
 show (Bl (D9 a1 0 a0) a1 0 a0).bind _=_
 rw [hL']
 rfl
def Vh {R:Type} (k:Kt R):=(Ko (Hj 3) (.exit 0) 2 k)
def w7 {R:Type}:Lt R Hj:=(E3 (pat:=Hj) 3 (fun d k=>(Ai3 d).bind (Vh k)) F8)
theorem b6:Ax Tryz.prog b5:=Ay ⟨Oy,trivial⟩
theorem Ai4 {R:Type}:A4 Tryz.prog R 28 1 Hj w7 Vg:=
 Cj (cfg:=⟨b5,1,28,Hj⟩) 3 [] (fun NX X d=>(Ab (Ab (Ab Ae))) (H7  NX X) d) (fun m d=>(Ab (Ab (Ab Ae))) (Bl m) d) (fun d=>(Ab (Ab (Ab Ae))) D9 d) Vh b6 trivial (fun f NX d=>by simp only [u4,Ab,Ae]; unfold H7; simp only [nb])
theorem An1:Bm Tryz.prog 103 b4:=
 Aw (pat:=Hj) [Vg] w7 b6 ⟨Ai4,trivial⟩ Tryz.func103 (de:=fun x=>Qq x.1 x.2.1) (fun x r h=>A2 (An0 x.1 x.2.1) h) fun _=>by kernel_rfl
def K2 (a:Dk) (k:Int):Option (Int×(List Aa)×(List Wr)):=(It .str a.1 k).bind fun r0=>(It Fb a.2.1 r0.1).bind fun r1 =>  some (r1.1,r0.2,r1.2)
def Auf:E5:=⟨[.mu 9 .str,.mu 151 Fb,.rd tI],[some 2,none],[.rd tI],[none]⟩
def Ac4:SD:=⟨Auf,fun x=>(K2 (x.1,x.2.1,()) x.2.2.1).bind fun r=>some ((r.1,()),(r.2.1,r.2.2,()))⟩
def Ul (a0:List Aa) (a1:List Wr) (a2:Int):Option ((((Int)×Unit)×Dk)):=
 ((Hi a0 a2).bind fun val=>some ((val.1,()),val.2,())).bind fun val=>((Nx a1 val.1.1).bind fun val=>some ((val.1,()),val.2,())).bind fun val_1=>some (val_1.1,val.2.1,val_1.2)
theorem Aug (a0:List Aa) (a1:List Wr) (a2:Int) r (h:K2 (a0,a1,()) a2=some r):Ul a0 a1 a2=some ((r.1,()),(r.2.1,r.2.2,())):=by
 unfold K2 at h
 obtain ⟨⟨k0,x0⟩,e0,h⟩:=A6 h
 have e0:It .str a0 a2=some (k0,x0):=e0
 obtain ⟨⟨k1,x1⟩,e1,h⟩:=A6 h
 have e1:It Fb a1 k0=some (k1,x1):=e1
 cases h
 unfold Ul
 have c0:Hi a0 a2=(some (k0,x0):Option (Int×(List Aa))):=e0
 rw [c0]
 simp only [Option.bind_some]
 have c1:Nx a1 k0=(some (k1,x1):Option (Int×(List Wr))):=e1
 rw [c1]
 simp only [Option.bind_some]
 try rfl
theorem Auh:Bm Tryz.prog 39 Ac4:=
 Aw (pat:=Co) [] F8 (Ay (l:=[(42,O6),(103,b4)]) ⟨W1,An1,trivial⟩) trivial Tryz.func39 (de:=fun x=>Ul x.1 x.2.1 x.2.2.1) (fun x r h=>A2 (Aug x.1 x.2.1 x.2.2.1) h) fun _=>by kernel_rfl
def Jt (a:List Ar) (k:Int):Option (Int×(List Ar)):=It Aq a k
def Arc:E5:=⟨[.mu 136 Aq,.rd tI],[none,none],[.rd tI],[none]⟩
def Sw:SD:=⟨Arc,fun x=>(Jt x.1 x.2.1).bind fun r=>some ((r.1,()),(r.2,()))⟩
def w8:Tb:=tb [(104,Mk)]
def Ij:Nat→Da×(Nat→Da):=Gs [(3,⟨[],[(0,.lf (.row 0)),(1,.lf (.d tI)),(5,.lf (.d tI))],[.row 136 Aq]⟩,[(2,⟨[],[(1,.lf (.d tI))],[.row 136 Aq]⟩)])]
def W2:Code:=(At (Bc Tryz.f43)).getD 0 .skip
def Ew (v1 v5:Int) (r0:List Ar):Nat:=((r0.length:Int) - v5).toNat + 1
def I4 {R:Type}  (NX:((Int)×(Int)×(List Ar)×Unit)→Option R) (X2:((Int)×(List Ar)×Unit)→Option R) (v1:Int) (v5:Int) (r0:List Ar):Option R:=
 bif decide (v5 < nI r0.length) then ((Ca v1).bind fun val=>some ((val,()),())).bind fun val=>bif decide (0≤v5) then bif decide (v5 < nI r0.length) then bif decide (v5.toNat < r0.length) then ((Ca (IntKind.i64.wrap (v1 + 1))).bind fun val=>some ((val,()),())).bind fun val_1=>bif decide (0≤v5) then bif decide (v5 < nI (r0.set v5.toNat (val.1.1,(r0.getD v5.toNat (Ac,Ac,())).2)).length) then bif decide (v5.toNat < (r0.set v5.toNat (val.1.1,(r0.getD v5.toNat (Ac,Ac,())).2)).length) then NX (IntKind.i64.wrap (IntKind.i64.wrap (v1 + 1) + 1),IntKind.i64.wrap (v5 + 1),(r0.set v5.toNat (val.1.1,(r0.getD v5.toNat (Ac,Ac,())).2)).set v5.toNat (((r0.set v5.toNat (val.1.1,(r0.getD v5.toNat (Ac,Ac,())).2)).getD v5.toNat (Ac,Ac,())).1,val_1.1),()) else none else none else none else none else none else none else X2 (v1,r0,())
def Bn:Nat→(Int)→(Int)→(List Ar) →  Option ((Int)×(List Ar)×Unit)
 | 0,_,_,_=>none
 | m + 1,v1,v5,r0=>I4  (fun d=>Bn m d.1 d.2.1 d.2.2.1) (fun d=>some (d)) v1 v5 r0
def Akm (d:(Int)×(Int)×(List Ar)×Unit):Option ((Int)×(List Ar)×Unit):=(Ab (Ab (Ab Ae))) (Bn ((Ab (Ab (Ab Ae))) Ew d)) d
def Sx (a0:List Ar) (a1:Int):Option ((((Int)×Unit)×Dh)):=
 ((fun d=>Bn (Ew d.1 d.2.1 d.2.2.1) d.1 d.2.1 d.2.2.1) (a1,0,a0,())).bind fun val=>some ((val.1,()),val.2)
theorem Ard (a0:List Ar) (a1:Int) r (h:Jt a0 a1=some r):Sx a0 a1=some ((r.1,()),(r.2,())):=by
 obtain ⟨g0,g1,hl0,rfl⟩:=Amd (t:=Aq) h
 have hl:a0.length≤1125899906842624:=hl0
 have hEE:(fun k:Int=>(show Ar from (mkE Aq k).1))=(fun k:Int=>(S5 (k),S5 (k + 1),())):=funext fun k=>by
  show (S5 (k),S5 (k + 1),())=(S5 (k),S5 (k + 1),())
  try simp only [Int.add_assoc,Int.add_zero]
  try rfl
 show _=some ((a1 + (a0.length:Int) * 2,()),(gL (fun k:Int=>(show Ar from (mkE Aq k).1)) 2 a0.length a1,()))
 rw [hEE]
 unfold Sx
 have hL:=Ajp (fun k:Int=>(S5 (k),S5 (k + 1),())) 2 (n:=a0.length) (K:=36028797018963000) (g:=fun m k i r=>Bn m k i r) (ok:=fun k r=>(k,r,())) (fun m i k r hi hr h1 hK=>by
  show Bn (m + 1) k i r=_
  have hK1:k + 2≤36028797018963000:=by
   have:(1:Int)≤(a0.length - i:Nat):=by omega
   omega
  rw [show Bn (m + 1) k i r=Bn (m + 1) (k + 0) i r from by rw [Int.add_zero]]
  have k0:k=k + 0:=(Int.add_zero k).symm
  have t0:Ca (k + 0)=some (S5 (k + 0)):=if_pos (by omega)
  have t1:Ca (k + 1)=some (S5 (k + 1)):=if_pos (by omega)
  have w0:IntKind.i64.wrap (k + 0 + 1)=k + 1:=by rw [Aj (by omega) (by omega)]; omega
  have w1:IntKind.i64.wrap (k + 1 + 1)=k + 2:=by rw [Aj (by omega) (by omega)]; omega
  have hir:i < r.length:=by omega
  simp only [Bn,I4]
  simp only [t0,t1,  Option.bind_some,w0,w1,  List.length_set,List.set_set,Qv hir,Gt,A9d hir,wI (show i < 4611686018427387904 by omega),cond_true,Eo,Lz hir]
  first | rfl | (rw [Int.add_zero]; rfl) | (simp only [Int.add_zero]; rfl)) (fun m k r hr=>by
  show Bn (m + 1) k a0.length r=_
  simp only [Bn,I4,hr]
  rw [Jx]
  rfl) (Ew a1 0 a0) 0 a1 a0 (by omega) (by simp [Ew]) rfl g0 (by omega)
 have hL':Bn (Ew a1 0 a0) a1 0 a0=_:=hL
 show (Bn (Ew a1 0 a0) a1 0 a0).bind _=_
 rw [hL']
 rfl
def W3 {R:Type} (k:Kt R):=(Ko (Ij 3) (.exit 0) 2 k)
def Ac5 {R:Type}:Lt R Ij:=(E3 (pat:=Ij) 3 (fun d k=>(Akm d).bind (W3 k)) F8)
theorem w9:Ax Tryz.prog w8:=Ay ⟨Oy,trivial⟩
theorem Akn {R:Type}:A4 Tryz.prog R 29 1 Ij Ac5 W2:=
 Cj (cfg:=⟨w8,1,29,Ij⟩) 3 [] (fun NX X d=>(Ab (Ab (Ab Ae))) (I4  NX X) d) (fun m d=>(Ab (Ab (Ab Ae))) (Bn m) d) (fun d=>(Ab (Ab (Ab Ae))) Ew d) W3 w9 trivial (fun f NX d=>by simp only [u4,Ab,Ae]; unfold I4; simp only [nb])
theorem x5:Bm Tryz.prog 43 Sw:=
 Aw (pat:=Ij) [W2] Ac5 w9 ⟨Akn,trivial⟩ Tryz.func43 (de:=fun x=>Sx x.1 x.2.1) (fun x r h=>A2 (Ard x.1 x.2.1) h) fun _=>by kernel_rfl
def F7 (a:Dh) (k:Int):Option (Int×(List Ar)):=(It Aq a.1 k).bind fun r0 =>  some (r0.1,r0.2)
def Are:E5:=⟨[.mu 136 Aq,.rd tI],[some 1,none],[.rd tI],[none]⟩
def Sy:SD:=⟨Are,fun x=>(F7 (x.1,()) x.2.1).bind fun r=>some ((r.1,()),(r.2,()))⟩
def Sz (a0:List Ar) (a1:Int):Option ((((Int)×Unit)×Dh)):=
 ((Jt a0 a1).bind fun val=>some ((val.1,()),val.2,())).bind fun val=>some val
theorem Arf (a0:List Ar) (a1:Int) r (h:F7 (a0,()) a1=some r):Sz a0 a1=some ((r.1,()),(r.2,())):=by
 unfold F7 at h
 obtain ⟨⟨k0,x0⟩,e0,h⟩:=A6 h
 have e0:It Aq a0 a1=some (k0,x0):=e0
 cases h
 unfold Sz
 have c0:Jt a0 a1=(some (k0,x0):Option (Int×(List Ar))):=e0
 rw [c0]
 simp only [Option.bind_some]
 try rfl
theorem x6:Bm Tryz.prog 12 Sy:=
 Aw (pat:=Co) [] F8 (Ay (l:=[(43,Sw)]) ⟨x5,trivial⟩) trivial Tryz.func12 (de:=fun x=>Sz x.1 x.2.1) (fun x r h=>A2 (Arf x.1 x.2.1) h) fun _=>by kernel_rfl
def Ju (a:Ls) (k:Int):Option (Int×(List Ar)):=(It Aq a.2.2.2.2.2.2.1.1 k).bind fun r0 =>  some (r0.1,r0.2)
def Arg:E5:=⟨[.rd tI,.rd tI,.rd tI,.rd tI,.rd tI,.rd tI,.rd tI,.rd tI,.rd tI,.mu 136 Aq,.rd tI],[some 10,none],[.rd tI],[none]⟩
def x7:SD:=⟨Arg,fun x=>(Ju (x.1,x.2.1,x.2.2.1,(x.2.2.2.1,x.2.2.2.2.1,x.2.2.2.2.2.1,x.2.2.2.2.2.2.1,()),x.2.2.2.2.2.2.2.1,x.2.2.2.2.2.2.2.2.1,(x.2.2.2.2.2.2.2.2.2.1,()),()) x.2.2.2.2.2.2.2.2.2.2.1).bind fun r=>some ((r.1,()),(r.2,()))⟩
def S0 (a0 a1:Int) (a2 a3:Int) (a4 a5:Int) (a6 a7 a8:Int) (a9:List Ar) (a10:Int):Option ((((Int)×Unit)×Dh)):=
 ((F7 (a9,()) a10).bind fun val=>some ((val.1,()),val.2,())).bind fun val=>some val
theorem Arh (a0 a1:Int) (a2 a3:Int) (a4 a5:Int) (a6 a7 a8:Int) (a9:List Ar) (a10:Int) r (h:Ju (a0,a1,a2,(a3,a4,a5,a6,()),a7,a8,(a9,()),()) a10=some r):S0 a0 a1 a2 a3 a4 a5 a6 a7 a8 a9 a10=some ((r.1,()),(r.2,())):=by
 unfold Ju at h
 obtain ⟨⟨k0,x0⟩,e0,h⟩:=A6 h
 have e0:It Aq a9 a10=some (k0,x0):=e0
 cases h
 unfold S0
 have c0:F7 (a9,()) a10=(some (k0,x0):Option (Int×(List Ar))):=by
  unfold F7
  show (It Aq a9 a10).bind _=_
  rw [e0]
  rfl
 rw [c0]
 simp only [Option.bind_some]
 try rfl
theorem Ari:Bm Tryz.prog 40 x7:=
 Aw (pat:=Co) [] F8 (Ay (l:=[(12,Sy)]) ⟨x6,trivial⟩) trivial Tryz.func40 (de:=fun x=>S0 x.1 x.2.1 x.2.2.1 x.2.2.2.1 x.2.2.2.2.1 x.2.2.2.2.2.1 x.2.2.2.2.2.2.1 x.2.2.2.2.2.2.2.1 x.2.2.2.2.2.2.2.2.1 x.2.2.2.2.2.2.2.2.2.1 x.2.2.2.2.2.2.2.2.2.2.1) (fun x r h=>A2 (Arh x.1 x.2.1 x.2.2.1 x.2.2.2.1 x.2.2.2.2.1 x.2.2.2.2.2.1 x.2.2.2.2.2.2.1 x.2.2.2.2.2.2.2.1 x.2.2.2.2.2.2.2.2.1 x.2.2.2.2.2.2.2.2.2.1 x.2.2.2.2.2.2.2.2.2.2.1) h) fun _=>by kernel_rfl
def Lk (a:List (List Ar)) (k:Int):Option (Int×List (List Ar)):=Agu Aq a k
def An2:E5:=⟨[.nst ⟨39,136,true⟩ Aq,.rd tI],[none,none],[.rd tI],[none]⟩
def b8:SD:=⟨An2,fun x=>(Lk x.1 x.2.1).bind fun r=>some ((r.1,()),(r.2,()))⟩
def b9:Tb:=tbN [(43,Sw)]
def Hk:Nat→Da×(Nat→Da):=Gs [(3,⟨[.back 0],[(0,.lf (.row 0)),(1,.lf (.d tI)),(5,.lf (.d tI))],[.last ⟨39,136,true⟩ Aq 0]⟩,[(2,⟨[],[(1,.lf (.d tI))],[.last ⟨39,136,true⟩ Aq 0]⟩)])]
def Vi:Code:=(At (Bc Tryz.f41)).getD 0 .skip
def Ea (v1 v5:Int) (r0:List (List Ar)) (c0:Bool):Nat:=(((r0.length + c0.toNat:Nat):Int) - v5).toNat + 1
def H8 {R:Type}  (NX:((Int)×(Int)×(List (List Ar))×(Bool)×Unit)→Option R) (X2:((Int)×(List (List Ar))×(Bool)×Unit)→Option R) (v1:Int) (v5:Int) (r0:List (List Ar)) (c0:Bool):Option R:=
 bif decide (v5 < nI (r0.length + c0.toNat)) then bif decide (0≤v5) then bif decide (v5 < nI (r0.length + c0.toNat)) then bif !c0 then bif decide (v5.toNat < r0.length) then ((Jt (r0.getD v5.toNat []) v1).bind fun val=>some ((val.1,()),val.2,())).bind fun val=>NX (val.1.1,IntKind.i64.wrap (v5 + 1),r0.set v5.toNat val.2.1,false,()) else none else none else none else none else X2 (v1,r0,c0,())
def Bo:Nat→(Int)→(Int)→(List (List Ar))→(Bool) →  Option ((Int)×(List (List Ar))×(Bool)×Unit)
 | 0,_,_,_,_=>none
 | m + 1,v1,v5,r0,c0=>H8  (fun d=>Bo m d.1 d.2.1 d.2.2.1 d.2.2.2.1) (fun d=>some (d)) v1 v5 r0 c0
def Ai5 (d:(Int)×(Int)×(List (List Ar))×(Bool)×Unit):Option ((Int)×(List (List Ar))×(Bool)×Unit):=(u4 Ae) (Bo ((u4 Ae) Ea d)) d
def Qr (a0:List (List Ar)) (a1:Int):Option ((((Int)×Unit)×((List (List Ar))×Unit))):=
 ((fun d=>Bo (Ea d.1 d.2.1 d.2.2.1 d.2.2.2.1) d.1 d.2.1 d.2.2.1 d.2.2.2.1) (a1,0,a0,false,())).bind fun val=>Option.bind (bif val.2.2.1 then none else some (val.2.1,())) fun val_1=>some ((val.1,()),val_1)
theorem An3 (a0:List (List Ar)) (a1:Int) r (h:Lk a0 a1=some r):Qr a0 a1=some ((r.1,()),(r.2,())):=by
 obtain ⟨g0,g1,g2,g3,rfl⟩:=A9i (t:=Aq) h
 have g2:List.length (α:=List Ar) a0≤1099511627776:=g2
 have g3:O8 (α:=Ar) a0 * 2≤281474976710656:=g3
 unfold Qr
 have hL:=Au1 (α:=Ar) (c:=2) (mk:=fun n k=>mkL Aq n k) (g:=fun m k i r=>Bo m k i r false) (ok:=fun k r=>(k,r,false,())) (fun m i k r x hi hr hx h1 h2 h3=>by
  show Bo (m + 1) k i r false=Bo m _ _ _ false
  have hm:Jt x k=some (k + (x.length:Int) * ((2:Nat):Int),mkL Aq x.length k):=A9e (t:=Aq) (xs:=x) h1 (by have:(0:Int)≤(x.length:Int) * ((2:Nat):Int):=Int.mul_nonneg (by omega) (by omega); omega) h3
  simp only [Bo,H8,Bool.toNat_false,Nat.add_zero,Bool.not_false,cond_true,Qv hi,Gt,Eo,A9d hi,hx,hm,Option.bind_some]
  rw [wI (by omega)]
  rfl) (fun m k r=>by
  show Bo (m + 1) k r.length r false=_
  simp only [Bo,H8,Bool.toNat_false,Nat.add_zero,Jx,cond_false]) (by decide) a0 [] (Ea a1 0 a0 false) a1 (by simp [Ea]) (by simp; omega) g0 (by omega)
 have hL':Bo (Ea a1 0 a0 false) a1 0 a0 false=_:=hL
 show (Bo (Ea a1 0 a0 false) a1 0 a0 false).bind _=_
 rw [hL']
 rfl
def Vj {R:Type} (k:Kt R):=(Ko (Hk 3) (.exit 0) 2 k)
def x8 {R:Type}:Lt R Hk:=(E3 (pat:=Hk) 3 (fun d k=>(Ai5 d).bind (Vj k)) F8)
theorem c7:Ax Tryz.prog b9:=A0a ⟨x5,trivial⟩
theorem Ai6 {R:Type}:A4 Tryz.prog R 20 1 Hk x8 Vi:=
 Cj (cfg:=⟨b9,1,20,Hk⟩) 3 [] (fun NX X (d:(Int)×(Int)×(List (List Ar))×(Bool)×Unit)=>(u4 Ae) (H8  NX X) d) (fun m d=>(u4 Ae) (Bo m) d) (fun d=>(u4 Ae) Ea d) Vj c7 trivial (fun f NX (d:(Int)×(Int)×(List (List Ar))×(Bool)×Unit)=>by simp only [u4,Ab,Ae]; unfold H8; simp only [nb])
theorem An4:Bm Tryz.prog 41 b8:=
 Aw (pat:=Hk) [Vi] x8 c7 ⟨Ai6,trivial⟩ Tryz.func41 (de:=fun x=>Qr x.1 x.2.1) (fun x r h=>A2 (An3 x.1 x.2.1) h) fun _=>by kernel_rfl
def Ml (a:S4) (k:Int):Option (Int×List Aa×List Wr×List Ar×List (List Ar)×List Aa):=
 (It .str a.2.1.1 k).bind fun r0=>(It Fb a.2.1.2.1 r0.1).bind fun r1=>(It Aq a.2.2.2.1.2.2.2.2.2.2.1.1 r1.1).bind fun r2=>(Agu Aq (a.2.2.2.2.1.map Prod.fst) r2.1).bind fun r3=>(It .str a.2.2.2.2.2.1 r3.1).bind fun r4=>some (r4.1,r0.2,r1.2,r2.2,r3.2,r4.2)
def Arj:E5:=⟨[.rd tI,.mu 9 .str,.mu 151 Fb,.rd .bool,.rd tI,.rd tI,.rd tI,.rd tI,.rd tI,.rd tI,.rd tI,.rd tI,.rd tI,.mu 136 Aq,.nst ⟨39,136,true⟩ Aq,.mu 9 .str,.rd tI],[some 16,none],[.rd tI],[none]⟩
def x9:SD:=⟨Arj,fun x=>(Ml (x.1,(x.2.1,x.2.2.1,()),x.2.2.2.1,(x.2.2.2.2.1,x.2.2.2.2.2.1,x.2.2.2.2.2.2.1,(x.2.2.2.2.2.2.2.1,x.2.2.2.2.2.2.2.2.1,x.2.2.2.2.2.2.2.2.2.1,x.2.2.2.2.2.2.2.2.2.2.1,()),x.2.2.2.2.2.2.2.2.2.2.2.1,x.2.2.2.2.2.2.2.2.2.2.2.2.1,(x.2.2.2.2.2.2.2.2.2.2.2.2.2.1,()),()),(List.map (fun x=>(x,())) x.2.2.2.2.2.2.2.2.2.2.2.2.2.2.1),x.2.2.2.2.2.2.2.2.2.2.2.2.2.2.2.1,()) x.2.2.2.2.2.2.2.2.2.2.2.2.2.2.2.2.1).bind fun r=>some ((r.1,()),(r.2.1,r.2.2.1,r.2.2.2.1,r.2.2.2.2.1,r.2.2.2.2.2,()))⟩
def S1 (a0:Int) (a1:List Aa) (a2:List Wr) (a3:Bool) (a4 a5:Int) (a6 a7:Int) (a8 a9:Int) (a10 a11 a12:Int) (a13:List Ar) (a14:List (List Ar)) (a15:List Aa) (a16:Int):Option ((((Int)×Unit)×((List Aa)×(List Wr)×(List Ar)×(List (List Ar))×(List Aa)×Unit))):=
 ((K2 (a1,a2,()) a16).bind fun val=>some ((val.1,()),val.2.1,val.2.2,())).bind fun val=>((Ju (a4,a5,a6,(a7,a8,a9,a10,()),a11,a12,(a13,()),()) val.1.1).bind fun val=>some ((val.1,()),val.2,())).bind fun val_1=>((Lk a14 val_1.1.1).bind fun val=>some ((val.1,()),val.2,())).bind fun val_2=>((Hi a15 val_2.1.1).bind fun val=>some ((val.1,()),val.2,())).bind fun val_3=>some (val_3.1,val.2.1,val.2.2.1,val_1.2.1,val_2.2.1,val_3.2)
theorem Ark (a0:Int) (a1:List Aa) (a2:List Wr) (a3:Bool) (a4 a5:Int) (a6 a7:Int) (a8 a9:Int) (a10 a11 a12:Int) (a13:List Ar) (a14:List (List Ar)) (a15:List Aa) (a16:Int) r (h:Ml (a0,(a1,a2,()),a3,(a4,a5,a6,(a7,a8,a9,a10,()),a11,a12,(a13,()),()),(List.map (fun x=>(x,())) a14),a15,()) a16=some r):S1 a0 a1 a2 a3 a4 a5 a6 a7 a8 a9 a10 a11 a12 a13 a14 a15 a16=some ((r.1,()),(r.2.1,r.2.2.1,r.2.2.2.1,r.2.2.2.2.1,r.2.2.2.2.2,())):=by
 unfold Ml at h
 obtain ⟨⟨k0,x0⟩,e0,h⟩:=A6 h
 have e0:It .str a1 a16=some (k0,x0):=e0
 obtain ⟨⟨k1,x1⟩,e1,h⟩:=A6 h
 have e1:It Fb a2 k0=some (k1,x1):=e1
 obtain ⟨⟨k2,x2⟩,e2,h⟩:=A6 h
 have e2:It Aq a13 k1=some (k2,x2):=e2
 obtain ⟨⟨k3,x3⟩,e3,h⟩:=A6 h
 have hid:List.map Prod.fst (List.map (fun x=>(x,())) a14)=a14:=by
  rw [List.map_map]
  exact List.map_id' a14
 have e3:Lk (List.map Prod.fst (List.map (fun x=>(x,())) a14)) k2=some (k3,x3):=e3
 rw [hid] at e3
 obtain ⟨⟨k4,x4⟩,e4,h⟩:=A6 h
 have e4:It .str a15 k3=some (k4,x4):=e4
 cases h
 unfold S1
 have c0:K2 (a1,a2,()) a16=(some (k1,x0,x1):Option (Int×(List Aa)×(List Wr))):=by
  unfold K2
  show (It .str a1 a16).bind _=_
  rw [e0]
  show (It Fb a2 k0).bind _=_
  rw [e1]
  rfl
 have c1:Ju (a4,a5,a6,(a7,a8,a9,a10,()),a11,a12,(a13,()),()) k1=(some (k2,x2):Option (Int×(List Ar))):=by
  unfold Ju
  show (It Aq a13 k1).bind _=_
  rw [e2]
  rfl
 have c2:Lk a14 k2=(some (k3,x3):Option (Int×List (List Ar))):=e3
 have c3:Hi a15 k3=(some (k4,x4):Option (Int×List Aa)):=e4
 simp only [c0,c1,c2,c3,Option.bind_some]
theorem Arl:Bm Tryz.prog 11 x9:=
 Aw (pat:=Co) [] F8 (A0a (l:=[(39,Ac4),(40,x7),(41,b8),(42,O6)]) ⟨Auh,Ari,An4,W1,trivial⟩) trivial Tryz.func11 (de:=fun x=>S1 x.1 x.2.1 x.2.2.1 x.2.2.2.1 x.2.2.2.2.1 x.2.2.2.2.2.1 x.2.2.2.2.2.2.1 x.2.2.2.2.2.2.2.1 x.2.2.2.2.2.2.2.2.1 x.2.2.2.2.2.2.2.2.2.1 x.2.2.2.2.2.2.2.2.2.2.1 x.2.2.2.2.2.2.2.2.2.2.2.1 x.2.2.2.2.2.2.2.2.2.2.2.2.1 x.2.2.2.2.2.2.2.2.2.2.2.2.2.1 x.2.2.2.2.2.2.2.2.2.2.2.2.2.2.1 x.2.2.2.2.2.2.2.2.2.2.2.2.2.2.2.1 x.2.2.2.2.2.2.2.2.2.2.2.2.2.2.2.2.1) (fun x r h=>A2 (Ark x.1 x.2.1 x.2.2.1 x.2.2.2.1 x.2.2.2.2.1 x.2.2.2.2.2.1 x.2.2.2.2.2.2.1 x.2.2.2.2.2.2.2.1 x.2.2.2.2.2.2.2.2.1 x.2.2.2.2.2.2.2.2.2.1 x.2.2.2.2.2.2.2.2.2.2.1 x.2.2.2.2.2.2.2.2.2.2.2.1 x.2.2.2.2.2.2.2.2.2.2.2.2.1 x.2.2.2.2.2.2.2.2.2.2.2.2.2.1 x.2.2.2.2.2.2.2.2.2.2.2.2.2.2.1 x.2.2.2.2.2.2.2.2.2.2.2.2.2.2.2.1 x.2.2.2.2.2.2.2.2.2.2.2.2.2.2.2.2.1) h) fun _=>by kernel_rfl
def Oz (a:List Ar) (k:Int):Option Int:=Aa3 Aq a k
def Arm:E5:=⟨[.rd (.sl Aq),.rd tI],[none,none],[.rd tI],[none]⟩
def y5:SD:=⟨Arm,fun x=>(Oz x.1 x.2.1).bind fun r=>some ((r,()),(()))⟩
def y6:Tb:=tb [(104,Mk)]
def Gn:Nat→Da×(Nat→Da):=Gs [(3,⟨[.sl 0 0 Aq],[(0,.lf (.d (.sl Aq))),(1,.lf (.d tI)),(5,.lf (.d tI))],[]⟩,[(2,⟨[],[(1,.lf (.d tI))],[]⟩),(1,⟨[],[(4,.lf (.d tI))],[]⟩)])]
def W4:Code:=(At (Bc Tryz.f44)).getD 0 .skip
def Ey (v0:List Ar) (v1 v5:Int):Nat:=((v0.length:Int) - v5).toNat + 1
def I5 {R:Type}  (NX:((List Ar)×(Int)×(Int)×Unit)→Option R) (X2:((Int)×Unit)→Option R) (X1:((Int)×Unit)→Option R) (v0:List Ar) (v1:Int) (v5:Int):Option R:=
 bif decide (v5 < nI v0.length) then bif decide (0≤v5) then bif decide (v5 < nI v0.length) then ((Ca v1).bind fun val=>some ((val,()),())).bind fun val=>bif !ByteArray.toList (v0.getD v5.toNat (Ac,Ac,())).1==ByteArray.toList val.1.1 then X1 (-1,()) else bif decide (0≤v5) then bif decide (v5 < nI v0.length) then ((Ca (IntKind.i64.wrap (v1 + 1))).bind fun val=>some ((val,()),())).bind fun val=>bif !ByteArray.toList (v0.getD v5.toNat (Ac,Ac,())).2.1==ByteArray.toList val.1.1 then X1 (-1,()) else NX (v0,IntKind.i64.wrap (IntKind.i64.wrap (v1 + 1) + 1),IntKind.i64.wrap (v5 + 1),()) else none else none else none else none else X2 (v1,())
def Bh:Nat→(List Ar)→(Int)→(Int) →  Option (((Int)×Unit) ⊕ ((Int)×Unit))
 | 0,_,_,_=>none
 | m + 1,v0,v1,v5=>I5  (fun d=>Bh m d.1 d.2.1 d.2.2.1) (fun d=>some (.inl (d))) (fun d=>some (.inr (d))) v0 v1 v5
def Ako (d:(List Ar)×(Int)×(Int)×Unit):Option (((Int)×Unit) ⊕ ((Int)×Unit)):=(Ab (Ab (Ab Ae))) (Bh ((Ab (Ab (Ab Ae))) Ey d)) d
def S2 (a0:List Ar) (a1:Int):Option ((((Int)×Unit)×(Unit))):=
 ((fun d=>Bh (Ey d.1 d.2.1 d.2.2.1) d.1 d.2.1 d.2.2.1) (a0,a1,0,())).bind fun val=>Bw (fun d=>some (d,())) (fun d=>some (d,())) val
theorem Arn (a0:List Ar) (a1:Int) r (h:Oz a0 a1=some r):S2 a0 a1=some ((r,()),(())):=by
 obtain ⟨g0,g1,hl0,rfl⟩:=Bce (t:=Aq) h
 have hl:a0.length≤1125899906842624:=hl0
 have hEE:(fun k:Int=>(show Ar from (mkE Aq k).1))=(fun k:Int=>(S5 (k),S5 (k + 1),())):=funext fun k=>by
  show (S5 (k),S5 (k + 1),())=(S5 (k),S5 (k + 1),())
  try simp only [Int.add_assoc,Int.add_zero]
  try rfl
 show _=some ((if eqL (α:=Ar) (fun x y:Ar=>Pt Aq x y) a0 (gL (fun k:Int=>(show Ar from (mkE Aq k).1)) 2 a0.length a1)=true then a1 + (a0.length:Int) * 2 else -1,()),())
 rw [hEE]
 unfold S2
 have hL:=A5g (xs:=a0) ((Ac),(Ac),()) (fun x y:Ar=>Pt Aq x y) (fun k:Int=>(S5 (k),S5 (k + 1),())) 2 (K:=36028797018963000) (g:=fun m k i=>Bh m a0 k i) (ok:=fun k=>.inl (k,())) (bad:=.inr (-1,())) (fun m i k hi h1 hK=>by
  show Bh (m + 1) a0 k i=bif (fun x y:Ar=>Pt Aq x y) (List.getD (α:=Ar) a0 i ((Ac),(Ac),())) ((fun k:Int=>(S5 (k),S5 (k + 1),())) k) then Bh m a0 (k + 2) ((i + 1:Nat):Int) else _
  have hK1:k + 2≤36028797018963000:=by
   have:(1:Int)≤(a0.length - i:Nat):=by omega
   omega
  have hE:(fun x y:Ar=>Pt Aq x y) (List.getD (α:=Ar) a0 i ((Ac),(Ac),())) ((fun k:Int=>(S5 (k),S5 (k + 1),())) k)=(eqS (List.getD (α:=Ar) a0 i ((Ac),(Ac),())).1 (S5 (k + 0))&&(eqS (List.getD (α:=Ar) a0 i ((Ac),(Ac),())).2.1 (S5 (k + 1))&&true)):=by
   try simp only [Int.add_zero]
   try rfl
  rw [hE,show Bh (m + 1) a0 k i=Bh (m + 1) a0 (k + 0) i from by rw [Int.add_zero]]
  have k0:k=k + 0:=(Int.add_zero k).symm
  have t0:Ca (k + 0)=some (S5 (k + 0)):=if_pos (by omega)
  have t1:Ca (k + 1)=some (S5 (k + 1)):=if_pos (by omega)
  have w0:IntKind.i64.wrap (k + 0 + 1)=k + 1:=by rw [Aj (by omega) (by omega)]; omega
  have w1:IntKind.i64.wrap (k + 1 + 1)=k + 2:=by rw [Aj (by omega) (by omega)]; omega
  have v0:(!(ByteArray.toList (List.getD (α:=Ar) a0 i ((Ac),(Ac),())).1==ByteArray.toList (S5 (k + 0))))=!eqS (List.getD (α:=Ar) a0 i ((Ac),(Ac),())).1 (S5 (k + 0)):=rfl
  have v1:(!(ByteArray.toList (List.getD (α:=Ar) a0 i ((Ac),(Ac),())).2.1==ByteArray.toList (S5 (k + 1))))=!eqS (List.getD (α:=Ar) a0 i ((Ac),(Ac),())).2.1 (S5 (k + 1)):=rfl
  simp only [Bh,I5]
  simp only [t0,t1,  Option.bind_some,w0,w1,  Qv hi,Gt,wI (show i < 4611686018427387904 by omega),cond_true,Eo,v0,v1]
  generalize eqS (List.getD (α:=Ar) a0 i ((Ac),(Ac),())).1 (S5 (k + 0))=p0
  generalize eqS (List.getD (α:=Ar) a0 i ((Ac),(Ac),())).2.1 (S5 (k + 1))=p1
  cases p0<;>cases p1<;>rfl) (fun m k=>by
  show Bh (m + 1) a0 k a0.length=_
  simp only [Bh,I5]
  rw [Jx]
  rfl) (Ey a0 a1 0) 0 a1 (by omega) (by simp [Ey]) g0 (by omega)
 have hL':Bh (Ey a0 a1 0) a0 a1 0=_:=hL
 show (Bh (Ey a0 a1 0) a0 a1 0).bind _=some ((if eqL (α:=Ar) (fun x y:Ar=>Pt Aq x y) a0 (gL (fun k:Int=>(S5 (k),S5 (k + 1),())) 2 a0.length a1)=true then a1 + (a0.length:Int) * 2 else -1,()),())
 rw [hL',List.drop_zero]
 cases eqL (α:=Ar) (fun x y:Ar=>Pt Aq x y) a0 (gL (fun k:Int=>(S5 (k),S5 (k + 1),())) 2 a0.length a1)<;>rfl
def W5 {R:Type} (k:Kt R):=(Bw (Ko (Gn 3) (.exit 0) 2 k) (Ko (Gn 3) .ret 1 k))
def Ac6 {R:Type}:Lt R Gn:=(E3 (pat:=Gn) 3 (fun d k=>(Ako d).bind (W5 k)) F8)
theorem y7:Ax Tryz.prog y6:=Ay ⟨Oy,trivial⟩
theorem Akp {R:Type}:A4 Tryz.prog R 33 0 Gn Ac6 W4:=
 Cj (cfg:=⟨y6,0,33,Gn⟩) 3 [] (fun NX X d=>(Ab (Ab (Ab Ae))) (I5  NX (fun e=>X (.inl (e))) (fun e=>X (.inr (e)))) d) (fun m d=>(Ab (Ab (Ab Ae))) (Bh m) d) (fun d=>(Ab (Ab (Ab Ae))) Ey d) W5 y7 trivial (fun f NX d=>by simp only [u4,Ab,Ae]; unfold I5; simp only [nb])
theorem Aro:Bm Tryz.prog 44 y5:=
 Aw (pat:=Gn) [W4] Ac6 y7 ⟨Akp,trivial⟩ Tryz.func44 (de:=fun x=>S2 x.1 x.2.1) (fun x r h=>A2 (Arn x.1 x.2.1) h) fun _=>by kernel_rfl
def Jv (a:Dh) (k:Int):Option Int:=(Aa3 Aq a.1 k).bind fun r0 =>  some (if r0 < 0 then -1 else r0)
def Arp:E5:=⟨[.rd B6,.rd tI],[some 1,none],[.rd tI],[none]⟩
def y8:SD:=⟨Arp,fun x=>(Jv x.1 x.2.1).bind fun r=>some ((r,()),(()))⟩
def S3 (a0:Dh) (a1:Int):Option ((((Int)×Unit)×(Unit))):=
 ((Oz a0.1 a1).bind fun val=>some ((val,()),())).bind fun val=>bif decide (val.1.1 < 0) then some ((-1,()),()) else some val
theorem Arq (a0:Dh) (a1:Int) r (h:Jv a0 a1=some r):S3 a0 a1=some ((r,()),(())):=by
 unfold Jv at h
 unfold S3
 obtain ⟨r0,e0,h⟩:=A6 h
 have e0:Aa3 Aq a0.1 a1=some r0:=e0
 simp only [Oz]
 simp only [e0,Option.bind_some]
 by_cases q0:r0 < 0
 ·simp only [if_pos q0] at h; cases h; simp only [if_pos q0,Ap q0,cond_true,show decide ((-1:Int) < 0)=true from rfl]
 ·simp only [if_neg q0] at h; cases h; simp only [if_neg q0,Bd q0,cond_false]
theorem Arr:Bm Tryz.prog 13 y8:=
 Aw (pat:=Co) [] F8 (Ay (l:=[(44,y5)]) ⟨Aro,trivial⟩) trivial Tryz.func13 (de:=fun x=>S3 x.1 x.2.1) (fun x r h=>A2 (Arq x.1 x.2.1) h) fun _=>by kernel_rfl
def Ai7:E5:=⟨[.rd Xf],[some 16],[.rd .bool],[none]⟩
def Ll (a0:S4):Option ((((Bool)×Unit)×(Unit))):=
 ((Rn a0 1048576).bind fun val=>some ((val,()),())).bind fun val=>bif decide (val.1.1 < 0) then some ((true,()),()) else ((Kh a0).bind fun val=>some ((val.1,val.2.1.1,val.2.1.2.1,val.2.2.1,val.2.2.2.1.1,val.2.2.2.1.2.1,val.2.2.2.1.2.2.1,val.2.2.2.1.2.2.2.1.1,val.2.2.2.1.2.2.2.1.2.1,val.2.2.2.1.2.2.2.1.2.2.1,val.2.2.2.1.2.2.2.1.2.2.2.1,val.2.2.2.1.2.2.2.2.1,val.2.2.2.1.2.2.2.2.2.1,val.2.2.2.1.2.2.2.2.2.2.1.1,List.map (fun self=>self.1) val.2.2.2.2.1,val.2.2.2.2.2),())).bind fun val=>((Kh a0).bind fun val=>some ((val.1,val.2.1.1,val.2.1.2.1,val.2.2.1,val.2.2.2.1.1,val.2.2.2.1.2.1,val.2.2.2.1.2.2.1,val.2.2.2.1.2.2.2.1.1,val.2.2.2.1.2.2.2.1.2.1,val.2.2.2.1.2.2.2.1.2.2.1,val.2.2.2.1.2.2.2.1.2.2.2.1,val.2.2.2.1.2.2.2.2.1,val.2.2.2.1.2.2.2.2.2.1,val.2.2.2.1.2.2.2.2.2.2.1.1,List.map (fun self=>self.1) val.2.2.2.2.1,val.2.2.2.2.2),())).bind fun val_1=>((D8 (Do (val_1.1.1,(val_1.1.2.1,val_1.1.2.2.1,()),val_1.1.2.2.2.1,(val_1.1.2.2.2.2.1,val_1.1.2.2.2.2.2.1,val_1.1.2.2.2.2.2.2.1,(val_1.1.2.2.2.2.2.2.2.1,val_1.1.2.2.2.2.2.2.2.2.1,val_1.1.2.2.2.2.2.2.2.2.2.1,val_1.1.2.2.2.2.2.2.2.2.2.2.1,()),val_1.1.2.2.2.2.2.2.2.2.2.2.2.1,val_1.1.2.2.2.2.2.2.2.2.2.2.2.2.1,(val_1.1.2.2.2.2.2.2.2.2.2.2.2.2.2.1,()),()),List.map (fun x=>(x,())) val_1.1.2.2.2.2.2.2.2.2.2.2.2.2.2.2.1,val_1.1.2.2.2.2.2.2.2.2.2.2.2.2.2.2.2)).1 (Fe (val.1.1,(val.1.2.1,val.1.2.2.1,()),val.1.2.2.2.1,(val.1.2.2.2.2.1,val.1.2.2.2.2.2.1,val.1.2.2.2.2.2.2.1,(val.1.2.2.2.2.2.2.2.1,val.1.2.2.2.2.2.2.2.2.1,val.1.2.2.2.2.2.2.2.2.2.1,val.1.2.2.2.2.2.2.2.2.2.2.1,()),val.1.2.2.2.2.2.2.2.2.2.2.2.1,val.1.2.2.2.2.2.2.2.2.2.2.2.2.1,(val.1.2.2.2.2.2.2.2.2.2.2.2.2.2.1,()),()),List.map (fun x=>(x,())) val.1.2.2.2.2.2.2.2.2.2.2.2.2.2.2.1,val.1.2.2.2.2.2.2.2.2.2.2.2.2.2.2.2)).1).bind fun val=>some ((val,()),())).bind fun val_2=>bif !val_2.1.1 then some ((false,()),()) else bif (Do (val_1.1.1,(val_1.1.2.1,val_1.1.2.2.1,()),val_1.1.2.2.2.1,(val_1.1.2.2.2.2.1,val_1.1.2.2.2.2.2.1,val_1.1.2.2.2.2.2.2.1,(val_1.1.2.2.2.2.2.2.2.1,val_1.1.2.2.2.2.2.2.2.2.1,val_1.1.2.2.2.2.2.2.2.2.2.1,val_1.1.2.2.2.2.2.2.2.2.2.2.1,()),val_1.1.2.2.2.2.2.2.2.2.2.2.2.1,val_1.1.2.2.2.2.2.2.2.2.2.2.2.2.1,(val_1.1.2.2.2.2.2.2.2.2.2.2.2.2.2.1,()),()),List.map (fun x=>(x,())) val_1.1.2.2.2.2.2.2.2.2.2.2.2.2.2.2.1,val_1.1.2.2.2.2.2.2.2.2.2.2.2.2.2.2.2)).2 != (Fe (val.1.1,(val.1.2.1,val.1.2.2.1,()),val.1.2.2.2.1,(val.1.2.2.2.2.1,val.1.2.2.2.2.2.1,val.1.2.2.2.2.2.2.1,(val.1.2.2.2.2.2.2.2.1,val.1.2.2.2.2.2.2.2.2.1,val.1.2.2.2.2.2.2.2.2.2.1,val.1.2.2.2.2.2.2.2.2.2.2.1,()),val.1.2.2.2.2.2.2.2.2.2.2.2.1,val.1.2.2.2.2.2.2.2.2.2.2.2.2.1,(val.1.2.2.2.2.2.2.2.2.2.2.2.2.2.1,()),()),List.map (fun x=>(x,())) val.1.2.2.2.2.2.2.2.2.2.2.2.2.2.2.1,val.1.2.2.2.2.2.2.2.2.2.2.2.2.2.2.2)).2 then some ((false,()),()) else ((Kh a0).bind fun val=>some ((val.1,val.2.1.1,val.2.1.2.1,val.2.2.1,val.2.2.2.1.1,val.2.2.2.1.2.1,val.2.2.2.1.2.2.1,val.2.2.2.1.2.2.2.1.1,val.2.2.2.1.2.2.2.1.2.1,val.2.2.2.1.2.2.2.1.2.2.1,val.2.2.2.1.2.2.2.1.2.2.2.1,val.2.2.2.1.2.2.2.2.1,val.2.2.2.1.2.2.2.2.2.1,val.2.2.2.1.2.2.2.2.2.2.1.1,List.map (fun self=>self.1) val.2.2.2.2.1,val.2.2.2.2.2),())).bind fun val_3=>((Sv (val_1.1.1,(val_1.1.2.1,val_1.1.2.2.1,()),val_1.1.2.2.2.1,(val_1.1.2.2.2.2.1,val_1.1.2.2.2.2.2.1,val_1.1.2.2.2.2.2.2.1,(val_1.1.2.2.2.2.2.2.2.1,val_1.1.2.2.2.2.2.2.2.2.1,val_1.1.2.2.2.2.2.2.2.2.2.1,val_1.1.2.2.2.2.2.2.2.2.2.2.1,()),val_1.1.2.2.2.2.2.2.2.2.2.2.2.1,val_1.1.2.2.2.2.2.2.2.2.2.2.2.2.1,(val_1.1.2.2.2.2.2.2.2.2.2.2.2.2.2.1,()),()),List.map (fun x=>(x,())) val_1.1.2.2.2.2.2.2.2.2.2.2.2.2.2.2.1,val_1.1.2.2.2.2.2.2.2.2.2.2.2.2.2.2.2) (val_3.1.1,(val_3.1.2.1,val_3.1.2.2.1,()),val_3.1.2.2.2.1,(val_3.1.2.2.2.2.1,val_3.1.2.2.2.2.2.1,val_3.1.2.2.2.2.2.2.1,(val_3.1.2.2.2.2.2.2.2.1,val_3.1.2.2.2.2.2.2.2.2.1,val_3.1.2.2.2.2.2.2.2.2.2.1,val_3.1.2.2.2.2.2.2.2.2.2.2.1,()),val_3.1.2.2.2.2.2.2.2.2.2.2.2.1,val_3.1.2.2.2.2.2.2.2.2.2.2.2.2.1,(val_3.1.2.2.2.2.2.2.2.2.2.2.2.2.2.1,()),()),List.map (fun x=>(x,())) val_3.1.2.2.2.2.2.2.2.2.2.2.2.2.2.2.1,val_3.1.2.2.2.2.2.2.2.2.2.2.2.2.2.2.2)).bind fun val=>some ((val,()),())).bind fun val_4=>bif !val_4.1.1 then some ((false,()),()) else ((Ml (val_1.1.1,(val_1.1.2.1,val_1.1.2.2.1,()),val_1.1.2.2.2.1,(val_1.1.2.2.2.2.1,val_1.1.2.2.2.2.2.1,val_1.1.2.2.2.2.2.2.1,(val_1.1.2.2.2.2.2.2.2.1,val_1.1.2.2.2.2.2.2.2.2.1,val_1.1.2.2.2.2.2.2.2.2.2.1,val_1.1.2.2.2.2.2.2.2.2.2.2.1,()),val_1.1.2.2.2.2.2.2.2.2.2.2.2.1,val_1.1.2.2.2.2.2.2.2.2.2.2.2.2.1,(val_1.1.2.2.2.2.2.2.2.2.2.2.2.2.2.1,()),()),List.map (fun x=>(x,())) val_1.1.2.2.2.2.2.2.2.2.2.2.2.2.2.2.1,val_1.1.2.2.2.2.2.2.2.2.2.2.2.2.2.2.2) 1).bind fun val=>some ((val.1,()),val.2.1,val.2.2.1,val.2.2.2.1,val.2.2.2.2.1,val.2.2.2.2.2,())).bind fun val_5=>bif decide (val_5.1.1 < 0) then some ((false,()),()) else ((D8 (Do (val_1.1.1,(val_1.1.2.1,val_1.1.2.2.1,()),val_1.1.2.2.2.1,(val_1.1.2.2.2.2.1,val_1.1.2.2.2.2.2.1,val_1.1.2.2.2.2.2.2.1,(val_1.1.2.2.2.2.2.2.2.1,val_1.1.2.2.2.2.2.2.2.2.1,val_1.1.2.2.2.2.2.2.2.2.2.1,val_1.1.2.2.2.2.2.2.2.2.2.2.1,()),val_1.1.2.2.2.2.2.2.2.2.2.2.2.1,val_1.1.2.2.2.2.2.2.2.2.2.2.2.2.1,(val_1.1.2.2.2.2.2.2.2.2.2.2.2.2.2.1,()),()),List.map (fun x=>(x,())) val_1.1.2.2.2.2.2.2.2.2.2.2.2.2.2.2.1,val_1.1.2.2.2.2.2.2.2.2.2.2.2.2.2.2.2)).1 (Fe (val.1.1,(val.1.2.1,val.1.2.2.1,()),val.1.2.2.2.1,(val.1.2.2.2.2.1,val.1.2.2.2.2.2.1,val.1.2.2.2.2.2.2.1,(val.1.2.2.2.2.2.2.2.1,val.1.2.2.2.2.2.2.2.2.1,val.1.2.2.2.2.2.2.2.2.2.1,val.1.2.2.2.2.2.2.2.2.2.2.1,()),val.1.2.2.2.2.2.2.2.2.2.2.2.1,val.1.2.2.2.2.2.2.2.2.2.2.2.2.1,(val.1.2.2.2.2.2.2.2.2.2.2.2.2.2.1,()),()),List.map (fun x=>(x,())) val.1.2.2.2.2.2.2.2.2.2.2.2.2.2.2.1,val.1.2.2.2.2.2.2.2.2.2.2.2.2.2.2.2)).1).bind fun val=>some ((val,()),())).bind fun val_6=>bif !val_6.1.1 then some ((false,()),()) else bif (Do (val_1.1.1,(val_1.1.2.1,val_1.1.2.2.1,()),val_1.1.2.2.2.1,(val_1.1.2.2.2.2.1,val_1.1.2.2.2.2.2.1,val_1.1.2.2.2.2.2.2.1,(val_1.1.2.2.2.2.2.2.2.1,val_1.1.2.2.2.2.2.2.2.2.1,val_1.1.2.2.2.2.2.2.2.2.2.1,val_1.1.2.2.2.2.2.2.2.2.2.2.1,()),val_1.1.2.2.2.2.2.2.2.2.2.2.2.1,val_1.1.2.2.2.2.2.2.2.2.2.2.2.2.1,(val_1.1.2.2.2.2.2.2.2.2.2.2.2.2.2.1,()),()),List.map (fun x=>(x,())) val_1.1.2.2.2.2.2.2.2.2.2.2.2.2.2.2.1,val_1.1.2.2.2.2.2.2.2.2.2.2.2.2.2.2.2)).2 != (Fe (val.1.1,(val.1.2.1,val.1.2.2.1,()),val.1.2.2.2.1,(val.1.2.2.2.2.1,val.1.2.2.2.2.2.1,val.1.2.2.2.2.2.2.1,(val.1.2.2.2.2.2.2.2.1,val.1.2.2.2.2.2.2.2.2.1,val.1.2.2.2.2.2.2.2.2.2.1,val.1.2.2.2.2.2.2.2.2.2.2.1,()),val.1.2.2.2.2.2.2.2.2.2.2.2.1,val.1.2.2.2.2.2.2.2.2.2.2.2.2.1,(val.1.2.2.2.2.2.2.2.2.2.2.2.2.2.1,()),()),List.map (fun x=>(x,())) val.1.2.2.2.2.2.2.2.2.2.2.2.2.2.2.1,val.1.2.2.2.2.2.2.2.2.2.2.2.2.2.2.2)).2 then some ((false,()),()) else ((F7 (Do (val_1.1.1,(val_1.1.2.1,val_1.1.2.2.1,()),val_1.1.2.2.2.1,(val_1.1.2.2.2.2.1,val_1.1.2.2.2.2.2.1,val_1.1.2.2.2.2.2.2.1,(val_1.1.2.2.2.2.2.2.2.1,val_1.1.2.2.2.2.2.2.2.2.1,val_1.1.2.2.2.2.2.2.2.2.2.1,val_1.1.2.2.2.2.2.2.2.2.2.2.1,()),val_1.1.2.2.2.2.2.2.2.2.2.2.2.1,val_1.1.2.2.2.2.2.2.2.2.2.2.2.2.1,(val_1.1.2.2.2.2.2.2.2.2.2.2.2.2.2.1,()),()),List.map (fun x=>(x,())) val_1.1.2.2.2.2.2.2.2.2.2.2.2.2.2.2.1,val_1.1.2.2.2.2.2.2.2.2.2.2.2.2.2.2.2)).1 1).bind fun val=>some ((val.1,()),val.2,())).bind fun val_7=>((Jv val_7.2 1).bind fun val=>some ((val,()),())).bind fun val_8=>bif decide (val_8.1.1 < 0) then some ((false,()),()) else bif val_8.1.1 != val_7.1.1 then some ((false,()),()) else ((Kh a0).bind fun val=>some ((val.1,val.2.1.1,val.2.1.2.1,val.2.2.1,val.2.2.2.1.1,val.2.2.2.1.2.1,val.2.2.2.1.2.2.1,val.2.2.2.1.2.2.2.1.1,val.2.2.2.1.2.2.2.1.2.1,val.2.2.2.1.2.2.2.1.2.2.1,val.2.2.2.1.2.2.2.1.2.2.2.1,val.2.2.2.1.2.2.2.2.1,val.2.2.2.1.2.2.2.2.2.1,val.2.2.2.1.2.2.2.2.2.2.1.1,List.map (fun self=>self.1) val.2.2.2.2.1,val.2.2.2.2.2),())).bind fun val_9=>((D8 (Do (val_9.1.1,(val_9.1.2.1,val_9.1.2.2.1,()),val_9.1.2.2.2.1,(val_9.1.2.2.2.2.1,val_9.1.2.2.2.2.2.1,val_9.1.2.2.2.2.2.2.1,(val_9.1.2.2.2.2.2.2.2.1,val_9.1.2.2.2.2.2.2.2.2.1,val_9.1.2.2.2.2.2.2.2.2.2.1,val_9.1.2.2.2.2.2.2.2.2.2.2.1,()),val_9.1.2.2.2.2.2.2.2.2.2.2.2.1,val_9.1.2.2.2.2.2.2.2.2.2.2.2.2.1,(val_9.1.2.2.2.2.2.2.2.2.2.2.2.2.2.1,()),()),List.map (fun x=>(x,())) val_9.1.2.2.2.2.2.2.2.2.2.2.2.2.2.2.1,val_9.1.2.2.2.2.2.2.2.2.2.2.2.2.2.2.2)).1 (Fe (val.1.1,(val.1.2.1,val.1.2.2.1,()),val.1.2.2.2.1,(val.1.2.2.2.2.1,val.1.2.2.2.2.2.1,val.1.2.2.2.2.2.2.1,(val.1.2.2.2.2.2.2.2.1,val.1.2.2.2.2.2.2.2.2.1,val.1.2.2.2.2.2.2.2.2.2.1,val.1.2.2.2.2.2.2.2.2.2.2.1,()),val.1.2.2.2.2.2.2.2.2.2.2.2.1,val.1.2.2.2.2.2.2.2.2.2.2.2.2.1,(val.1.2.2.2.2.2.2.2.2.2.2.2.2.2.1,()),()),List.map (fun x=>(x,())) val.1.2.2.2.2.2.2.2.2.2.2.2.2.2.2.1,val.1.2.2.2.2.2.2.2.2.2.2.2.2.2.2.2)).1).bind fun val=>some ((val,()),())).bind fun val_10=>bif !val_10.1.1 then some ((false,()),()) else bif (Do (val_9.1.1,(val_9.1.2.1,val_9.1.2.2.1,()),val_9.1.2.2.2.1,(val_9.1.2.2.2.2.1,val_9.1.2.2.2.2.2.1,val_9.1.2.2.2.2.2.2.1,(val_9.1.2.2.2.2.2.2.2.1,val_9.1.2.2.2.2.2.2.2.2.1,val_9.1.2.2.2.2.2.2.2.2.2.1,val_9.1.2.2.2.2.2.2.2.2.2.2.1,()),val_9.1.2.2.2.2.2.2.2.2.2.2.2.1,val_9.1.2.2.2.2.2.2.2.2.2.2.2.2.1,(val_9.1.2.2.2.2.2.2.2.2.2.2.2.2.2.1,()),()),List.map (fun x=>(x,())) val_9.1.2.2.2.2.2.2.2.2.2.2.2.2.2.2.1,val_9.1.2.2.2.2.2.2.2.2.2.2.2.2.2.2.2)).2 != (Fe (val.1.1,(val.1.2.1,val.1.2.2.1,()),val.1.2.2.2.1,(val.1.2.2.2.2.1,val.1.2.2.2.2.2.1,val.1.2.2.2.2.2.2.1,(val.1.2.2.2.2.2.2.2.1,val.1.2.2.2.2.2.2.2.2.1,val.1.2.2.2.2.2.2.2.2.2.1,val.1.2.2.2.2.2.2.2.2.2.2.1,()),val.1.2.2.2.2.2.2.2.2.2.2.2.1,val.1.2.2.2.2.2.2.2.2.2.2.2.2.1,(val.1.2.2.2.2.2.2.2.2.2.2.2.2.2.1,()),()),List.map (fun x=>(x,())) val.1.2.2.2.2.2.2.2.2.2.2.2.2.2.2.1,val.1.2.2.2.2.2.2.2.2.2.2.2.2.2.2.2)).2 then some ((false,()),()) else ((Jv val_7.2 1).bind fun val=>some ((val,()),())).bind fun val=>bif decide (val.1.1 < 0) then some ((false,()),()) else bif val.1.1 != val_7.1.1 then some ((false,()),()) else some ((true,()),())
def Vk:SD:=⟨Ai7,fun x=>Ll x.1⟩
theorem Aui (a0:S4) (h0:Ao0 Xf a0):Ll a0=some ((true,()),()):=by
 have hf0:=Ayo h0
 unfold Ll
 rcases Bhk (l0:=1048576) hf0 (by first | decide | assumption) (by first | decide | assumption) (m:=Rn a0 1048576) rfl with e0 | ⟨l0,e0,g0,k0,s0,q0⟩
 ·simp only [e0,Option.bind_some,Blc,cond_true,cond_false]
 ·skip
  have t0:Kh a0=some a0:=Adr (t:=Xf) (x:=a0) s0
  have u0:Sv a0 a0=some true:=A9f (t:=Xf) (x:=a0) hf0
  have hp:List.map (fun x=>(x,())) (List.map (fun s=>s.1) a0.2.2.2.2.1)=a0.2.2.2.2.1:=Bkn _
  have hW:(a0.1,(a0.2.1.1,a0.2.1.2.1,()),a0.2.2.1,(a0.2.2.2.1.1,a0.2.2.2.1.2.1,a0.2.2.2.1.2.2.1,(a0.2.2.2.1.2.2.2.1.1,a0.2.2.2.1.2.2.2.1.2.1,a0.2.2.2.1.2.2.2.1.2.2.1,a0.2.2.2.1.2.2.2.1.2.2.2.1,()),a0.2.2.2.1.2.2.2.2.1,a0.2.2.2.1.2.2.2.2.2.1,(a0.2.2.2.1.2.2.2.2.2.2.1.1,()),()),a0.2.2.2.2.1,a0.2.2.2.2.2)=a0:=rfl
  have gw:Fe a0=Do a0:=rfl
  have gg0:Uy B6 ((Do a0).1)=true:=Bcj (Baa _)
  simp only [e0,q0,t0,Option.bind_some,cond_false]
  simp only [hp,hW,u0,Option.bind_some,Bool.not_true,cond_false,gw]
  generalize Do a0=g at *
  have v0:D8 g.1 g.1=some true:=A9f (t:=B6) (x:=g.1) (Ajr gg0)
  have Lx0:=s0
  simp only [Dw,Uy,Bool.and_eq_true,decide_eq_true_eq,and_true,true_and] at Lx0
  obtain ⟨kx0_0,yx0_0,mx0_0,bx0_0,cx0_0,dx0_0⟩:∃ (k2:Int) (ys:List (Aa)),It .str a0.2.1.1 1=(some (k2,ys):Option (Int×List (Aa)))∧1≤k2∧k2≤1 + 1073741824 * ((1:Nat):Int)∧Aa3 .str ys 1=some k2:=A9j (t:=.str) (xs:=a0.2.1.1) (k:=1) 1 rfl (by omega) (by omega) (by omega)
  obtain ⟨kx0_1,yx0_1,mx0_1,bx0_1,cx0_1,dx0_1⟩:∃ (k2:Int) (ys:List Wr),It Fb a0.2.1.2.1 kx0_0=(some (k2,ys):Option (Int×List Wr))∧kx0_0≤k2∧k2≤kx0_0 + 1073741824 * ((2:Nat):Int)∧Aa3 Fb ys kx0_0=some k2:=A9j (t:=Fb) (xs:=a0.2.1.2.1) (k:=kx0_0) 2 rfl (by omega) (by omega) (by omega)
  obtain ⟨kx0_2,yx0_2,mx0_2,bx0_2,cx0_2,dx0_2⟩:∃ (k2:Int) (ys:List Ar),It Aq a0.2.2.2.1.2.2.2.2.2.2.1.1 kx0_1=(some (k2,ys):Option (Int×List Ar))∧kx0_1≤k2∧k2≤kx0_1 + 1073741824 * ((2:Nat):Int)∧Aa3 Aq ys kx0_1=some k2:=A9j (t:=Aq) (xs:=a0.2.2.2.1.2.2.2.2.2.2.1.1) (k:=kx0_1) 2 rfl (by omega) (by omega) (by omega)
  obtain ⟨hl14,ht14⟩:(a0.2.2.2.2.1.map Prod.fst).length≤1048576∧O8 (a0.2.2.2.2.1.map Prod.fst)≤1099511627776:=Bfa (Cb (Cb (Cb (Cb (Cb s0).2).2).2).2).1
  obtain ⟨kx0_3,yx0_3,mx0_3,bx0_3,cx0_3,dx0_3⟩:∃ (k2:Int) (ys:List (List Ar)),Agu Aq (a0.2.2.2.2.1.map Prod.fst) kx0_2=(some (k2,ys):Option (Int×List (List Ar)))∧kx0_2≤k2∧k2≤kx0_2 + 2199023255552 * ((2:Nat):Int)∧A6z Aq ys kx0_2=some k2:=Bi5 (t:=Aq) (xs:=a0.2.2.2.2.1.map Prod.fst) (k:=kx0_2) 2 rfl (by omega) (by omega) (Nat.le_trans hl14 (by decide)) (Nat.le_trans ht14 (by decide)) (by decide)
  obtain ⟨kx0_4,yx0_4,mx0_4,bx0_4,cx0_4,dx0_4⟩:∃ (k2:Int) (ys:List (Aa)),It .str a0.2.2.2.2.2.1 kx0_3=(some (k2,ys):Option (Int×List (Aa)))∧kx0_3≤k2∧k2≤kx0_3 + 1073741824 * ((1:Nat):Int)∧Aa3 .str ys kx0_3=some k2:=A9j (t:=.str) (xs:=a0.2.2.2.2.2.1) (k:=kx0_3) 1 rfl (by omega) (by omega) (by omega)
  have mkx0:Ml a0 1=some (kx0_4,yx0_0,yx0_1,yx0_2,yx0_3,yx0_4):=d6 mx0_0 (d6 mx0_1 (d6 mx0_2 (d6 mx0_3 (d6 mx0_4 (rfl)))))
  have nkx:decide (kx0_4 < 0)=false:=Bd (by omega)
  have Lz0:=gg0
  simp only [Dw,Uy,Bool.and_eq_true,decide_eq_true_eq,and_true,true_and] at Lz0
  obtain ⟨kz0_0,yz0_0,mz0_0,bz0_0,cz0_0,dz0_0⟩:∃ (k2:Int) (ys:List Ar),It Aq g.1.1 1=(some (k2,ys):Option (Int×List Ar))∧1≤k2∧k2≤1 + 1073741824 * ((2:Nat):Int)∧Aa3 Aq ys 1=some k2:=A9j (t:=Aq) (xs:=g.1.1) (k:=1) 2 rfl (by omega) (by omega) (by omega)
  have mkz0:F7 g.1 1=some (kz0_0,yz0_0):=d6 mz0_0 (rfl)
  have nnz0_0:¬ kz0_0 < 0:=by omega
  have hdz0:Jv (yz0_0,()) 1=some kz0_0:=d6 dz0_0 (congrArg some (if_neg nnz0_0))
  have nkz:decide (kz0_0 < 0)=false:=Bd (by omega)
  simp only [e0,q0,t0,hp,hW,u0,v0,mkx0,nkx,mkz0,hdz0,nkz,Option.bind_some,cond_false,cond_true,beq_self_eq_true,bne_self_eq_false,Bool.not_true,Bool.or_self,Bool.false_or]
theorem Ai8:Bm Tryz.prog 3 Vk:=
 Aw (pat:=Co) [] F8 (A0a (l:=[(5,Aes),(6,Alb),(7,Afe),(8,Alq),(9,Pw),(10,Afx),(11,x9),(12,Sy),(13,y8)]) ⟨Awn,A3x,Axb,A4f,Wb,Ax0,Arl,x6,Arr,trivial⟩) trivial Tryz.func3 (de:=fun x=>Ll x.1) (fun x r h=>h) fun _=>by kernel_rfl
end Go.Proofs.YtjokieaajjmoeaaGreat.V
end
