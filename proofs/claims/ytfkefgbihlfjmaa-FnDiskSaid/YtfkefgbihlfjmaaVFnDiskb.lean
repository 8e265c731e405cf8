/- What the functions that FnDisk reaches come to: part 2. No condition. -/
import Derived.Test.YtfkefgbihlfjmaaVFnDiska
import Derived.KernelRfl
noncomputable section
set_option linter.unusedVariables false
set_option linter.unusedSimpArgs false
namespace Go.Proofs.Ytfkefgbihlfjmaa.V
open Go Go.Proofs.Ytfkefgbihlfjmaa.R Go.Proofs
set_option maxRecDepth 100000
def E4 (n:Int):Dk:=Ok n
def Al9:Ji:=⟨[.rd tI],[none],[.own 9 .str,.own 82 Cl],[some 2]⟩
def i4:SD:=⟨Al9,fun x=>some (((E4 x.1).1,(E4 x.1).2.1,()),(()))⟩
def i5:Tb:=tb [(43,Nc)]
def It:Nat→Du×(Nat→Du):=Ix [(6,⟨[.boxRow 2 0 9 .str,.boxRow 2 1 82 Cl,.boxRow 3 0 9 .str,.boxRow 3 1 82 Cl],[(0,.lf (.d tI)),(2,.lf (.ptr 0 0)),(3,.lf (.ptr 1 0)),(4,.lf (.d tI))],[.box 41 [.row 2,.row 3],.box 41 [.row 4,.row 5],.row 9 .str,.row 82 Cl,.row 9 .str,.row 82 Cl]⟩,[(2,⟨[.boxRow 2 0 9 .str,.boxRow 2 1 82 Cl,.boxRow 3 0 9 .str,.boxRow 3 1 82 Cl],[(2,.lf (.ptr 0 0)),(3,.lf (.ptr 1 0))],[.box 41 [.row 2,.row 3],.box 41 [.row 4,.row 5],.row 9 .str,.row 82 Cl,.row 9 .str,.row 82 Cl]⟩)])]
def Wh:Code:=(Av (Bl Try.f105)).getD 0 .skip
def E5 (v0 v4:Int) (r2:List Ab) (r3:List Wr) (r4:List Ab) (r5:List Wr):Nat:=(v0 - v4).toNat + 1
def I9 {R:Type}  (NX:((Int)×(Int)×(List Ab)×(List Wr)×(List Ab)×(List Wr)×Unit)→Option R) (X2:((List Ab)×(List Wr)×(List Ab)×(List Wr)×Unit)→Option R) (v0:Int) (v4:Int) (r2:List Ab) (r3:List Wr) (r4:List Ab) (r5:List Wr):Option R:=
 bif decide (v4 < v0) then bif decide ((r4.length + [Cj].length) * 16≤140737488355328) then NX (v0,IntKind.i64.wrap (v4 + 1),r2,r3,r4++[Cj],r5,()) else none else X2 (r2,r3,r4,r5,())
def B8:Nat→(Int)→(Int)→(List Ab)→(List Wr)→(List Ab)→(List Wr) →  Option ((List Ab)×(List Wr)×(List Ab)×(List Wr)×Unit)
 | 0,_,_,_,_,_,_=>none
 | m + 1,v0,v4,r2,r3,r4,r5=>I9  (fun d=>B8 m d.1 d.2.1 d.2.2.1 d.2.2.2.1 d.2.2.2.2.1 d.2.2.2.2.2.1) (fun d=>some (d)) v0 v4 r2 r3 r4 r5
def Ah1 (d:(Int)×(Int)×(List Ab)×(List Wr)×(List Ab)×(List Wr)×Unit):Option ((List Ab)×(List Wr)×(List Ab)×(List Wr)×Unit):=(u4 (Ac (Ac Ah))) (B8 ((u4 (Ac (Ac Ah))) E5 d)) d
def Ro (a0:Int):Option ((Dk×(Unit))):=
 bif decide (a0 < 8) then some (([],[],()),()) else bif decide (a0 > 200) then some (([],[],()),()) else ((fun d=>B8 (E5 d.1 d.2.1 d.2.2.1 d.2.2.2.1 d.2.2.2.2.1 d.2.2.2.2.2.1) d.1 d.2.1 d.2.2.1 d.2.2.2.1 d.2.2.2.2.1 d.2.2.2.2.2.1) (a0,0,[],[],[],[],())).bind fun val=>some (val.2.2,())
theorem Ama (a0:Int):Ro a0=some (((E4 a0).1,(E4 a0).2.1,()),(())):=by
 unfold Ro E4 Ok Di
 by_cases k1:8≤a0
 ·have n1:¬ a0 < 8:=by omega
  rw [Ag k1,Bh n1]
  by_cases k2:a0≤200
  ·have n2:¬ a0 > 200:=by omega
   rw [Ag k2,Bh n2]
   obtain ⟨n,rfl⟩:∃ n:Nat,a0=(n:Int):=⟨a0.toNat,by omega⟩
   have hL:=Awv (n:=n) (fun _=>zS) (g:=fun m i r=>B8 m n i [] [] r []) (ok:=fun r=>([],[],r,[],())) (fun m i r hi hr=>by
    show B8 (m + 1) n i [] [] r []=_
    simp only [B8,I9]
    have c1:(i:Int) < (n:Int):=by omega
    have c2:(List.length r + List.length [Cj]) * 16≤140737488355328:=by simp; omega
    rw [Ag c1,wI (show i < 4611686018427387904 by omega),Ag c2]
    rfl) (fun m r=>by
    show B8 (m + 1) n n [] [] r []=_
    simp only [B8,I9]
    have c1:¬ (n:Int) < (n:Int):=by omega
    rw [Bh c1]
    rfl) (E5 n 0 [] [] [] []) 0 [] (by omega) (by simp [E5]) rfl
   have hL':B8 (E5 n 0 [] [] [] []) n 0 [] [] [] []=_:=hL
   show (B8 (E5 n 0 [] [] [] []) n 0 [] [] [] []).bind _=_
   rw [hL',Aky,Nat.sub_zero]
   rfl
  ·have n2:a0 > 200:=by omega
   rw [Bh k2,Ag n2]
   rfl
 ·have n1:a0 < 8:=by omega
  rw [Bh k1,Ag n1]
  rfl
def Wi {R:Type} (k:Kt R):=(Mh (It 6) (.exit 0) 2 k)
def Aa8 {R:Type}:Lt R It:=(Gc (pat:=It) 6 (fun d k=>(Ah1 d).bind (Wi k)) Ky)
theorem i6:A1 Try.prog i5:=Bc ⟨Rn,trivial⟩
theorem Ah2 {R:Type}:A7 Try.prog R 25 0 It Aa8 Wh:=
 Cu (cfg:=⟨i5,0,25,It⟩) 6 [] (fun NX X d=>(u4 (Ac (Ac Ah))) (I9  NX X) d) (fun m d=>(u4 (Ac (Ac Ah))) (B8 m) d) (fun d=>(u4 (Ac (Ac Ah))) E5 d) Wi i6 trivial (fun f NX d=>by simp only [u4,Ac,Ah]; unfold I9; simp only [nb])
theorem Amb:Cp Try.prog 105 i4:=
 Bd (pat:=It) [Wh] Aa8 i6 ⟨Ah2,trivial⟩ Try.func105 (de:=fun x=>Ro x.1) (fun x r h=>(Ama x.1).trans h) fun _=>by kernel_rfl
def Akb:Ji:=⟨[.rd tI,.rd tI],[none,none],[.rd Nn],[some 16]⟩
def Kd (a0 a1:Int):Option (((C5×Unit)×(Unit))):=
 bif nI (E4 a0).1.length==0 then some (((0,([],[],()),false,(0,0,0,(0,0,0,0,()),0,0,([],()),()),[],[],()),()),()) else (Bz a1).bind fun val=>bif !val.1.1 then some (((0,([],[],()),false,(0,0,0,(0,0,0,0,()),0,0,([],()),()),[],[],()),()),()) else some (((a1,E4 a0,false,(0,0,0,(0,0,0,0,()),0,0,([],()),()),[([],())],[],()),()),())
def Qm:SD:=⟨Akb,fun x=>Kd x.1 x.2.1⟩
theorem Yz:Cp Try.prog 94 Qm:=
 Bd (pat:=Ge) [] Ky (Bc (l:=[(62,Cx),(105,i4)]) ⟨Dj,Amb,trivial⟩) trivial Try.func94 (de:=fun x=>Kd x.1 x.2.1) (fun x r h=>h) fun _=>by kernel_rfl
def Ado:Ji:=⟨[.rd tI],[none],[.rd .str],[none]⟩
def M9 (mR_spec_l8Dec:(Int)→Option (((Ab)×Unit)×(Unit))) (a0:Int):Option (((Ab)×Unit)×(Unit)):=
 bif decide (a0 < 10) then some ((strOfNums [IntKind.u8.wrap (IntKind.i64.wrap (48 + a0))],()),()) else (mR_spec_l8Dec (IntKind.i64.wrap (a0.tdiv 10))).bind fun val=>bif decide (ByteArray.size val.1.1 + (strOfNums [IntKind.u8.wrap (IntKind.i64.wrap (48 + a0.tmod 10))]).size≤9223372036854775807) then some ((val.1.1++strOfNums [IntKind.u8.wrap (IntKind.i64.wrap (48 + a0.tmod 10))],()),()) else none
def Jo:Nat→(Int)→Option (((Ab)×Unit)×(Unit))
 | 0,_=>none
 | k + 1,a0=>M9 (Jo k) a0
def Adp (a0:Int):Option (((Ab)×Unit)×(Unit)):=Jo 8 a0
def Aa9 (k:Nat):SD:=⟨Ado,fun x=>Jo k x.1⟩
theorem Adq:∃ f,f=@Adp:=⟨_,rfl⟩
def O9:=Classical.choose Adq
theorem Adr:@O9=@Adp:=Classical.choose_spec Adq
def Ads:SD:=⟨Ado,fun x=>O9 x.1⟩
theorem A7r:∀ (k:Nat) (n:Int),k≤7→0≤n→n < 10 ^ (k + 1)→Am (Jo (k + 1) n) fun q=>q.1.1.size≤k + 1
 | 0,n,_,h0,h1=>by
  simp only [Jo,M9]
  exact Am.go (Ag (by simpa using h1)) (Am.some (by rw [Da]; simp))
 | k + 1,n,hk,h0,h1=>by
  show Am (M9 (Jo (k + 1)) n) _
  unfold M9
  refine Am.cond (fun _=>Am.some (by rw [Da]; simp)) fun c=>?_
  have c:=of_decide_eq_false c
  have hd:n.tdiv 10=n / 10:=Int.tdiv_eq_ediv_of_nonneg h0
  have hp:(10:Int) ^ (k + 1 + 1)=10 ^ (k + 1) * 10:=Int.pow_succ 10 (k + 1)
  have hb:(10:Int) ^ (k + 1 + 1)≤1000000000:=by
   have:k=0∨k=1∨k=2∨k=3∨k=4∨k=5∨k=6:=by omega
   rcases this with rfl | rfl | rfl | rfl | rfl | rfl | rfl<;>decide
  rw [hd,Al (n:=n / 10) (by omega) (by omega)]
  refine Am.bind (A7r k (n / 10) (by omega) (by omega) (by omega)) fun q hq=>?_
  refine Am.go (Ag ?_) (Am.some ?_)
  ·rw [Da,D9]; omega
  ·show (q.1.1++strOfNums _).size≤_
   rw [ByteArray.size_append,Da,D9]; omega
theorem A8m {n:Int} (h0:0≤n) (h1:n < 100000000):Am (O9 n) fun q=>q.1.1.size≤8:=by
 rw [Adr]
 exact A7r 7 n (by decide) h0 (by rw [show (10:Int) ^ (7 + 1)=100000000 by decide]; exact h1)
theorem Xb:∀ k,Cp Try.prog 95 (Aa9 k)
 | 0=>⟨⟨_,Try.func95,by kernel_rfl,by kernel_rfl⟩,fun x r h=>by cases h⟩
 | k + 1=>Bd (pat:=Ge) [] Ky (Bc (l:=[(95,Aa9 k)]) ⟨Xb k,trivial⟩) trivial Try.func95 (de:=fun x=>M9 (Jo k) x.1) (fun x r h=>h) fun _=>by kernel_rfl
theorem Ar0:Cp Try.prog 95 Ads:=⟨(Xb 8).1,fun x r h=>(Xb 8).2 x r (by have q:O9 x.1=some r:=h; rw [Adr] at q; exact q)⟩
def N0 (_:Int) (_:List Bp) (_:Ab) (v8:Int) (_:(List Int)×Int×Unit) (_ _:C5) (_:Td):Nat:=(60 - v8).toNat + 1
def Lh (v4:Int) (_:(List Int)×Int×Unit) (_ _:C5):Nat:=(60 - v4).toNat + 1
def Amc:Ji:=⟨[.bx 116 (.pair (.sl (.int .u8)) (.pair tI .unit))],[none],[.rd Nn],[some 16]⟩
def Rp:Tb:=tb [(42,Bq),(72,Ou),(81,Z6),(84,Mo),(94,Qm),(95,Ads),(96,Ue)]
def Ce:Nat→Du×(Nat→Du):=Ix [(4,⟨[.boxSl 2 1 .str,.boxSl 2 2 Cl,.boxSl 2 13 B2,.boxSl 2 14 Ln,.boxSl 2 15 .str,.boxSl 3 1 .str,.boxSl 3 2 Cl,.boxSl 3 13 B2,.boxSl 3 14 Ln,.boxSl 3 15 .str],[(0,.lf (.ptr 0 0)),(2,.lf (.ptr 1 0)),(3,.lf (.ptr 2 0)),(4,.lf (.d tI))],[.box 116 [.d (.pair (.sl (.int .u8)) (.pair tI .unit))],.box 98 [.d Nn],.box 98 [.d Nn]]⟩,[(2,⟨[.boxSl 2 1 .str,.boxSl 2 2 Cl,.boxSl 2 13 B2,.boxSl 2 14 Ln,.boxSl 2 15 .str,.boxSl 3 1 .str,.boxSl 3 2 Cl,.boxSl 3 13 B2,.boxSl 3 14 Ln,.boxSl 3 15 .str],[(2,.lf (.ptr 1 0)),(3,.lf (.ptr 2 0))],[.box 116 [.d (.pair (.sl (.int .u8)) (.pair tI .unit))],.box 98 [.d Nn],.box 98 [.d Nn]]⟩),(1,⟨[.boxSl 2 1 .str,.boxSl 2 2 Cl,.boxSl 2 13 B2,.boxSl 2 14 Ln,.boxSl 2 15 .str],[(2,.lf (.ptr 1 0))],[.box 116 [.d (.pair (.sl (.int .u8)) (.pair tI .unit))],.box 98 [.d Nn]]⟩)]),(12,⟨[.sl 5 0 Gu,.boxSl 2 1 .str,.boxSl 2 2 Cl,.boxSl 2 13 B2,.boxSl 2 14 Ln,.boxSl 2 15 .str,.boxSl 3 1 .str,.boxSl 3 2 Cl,.boxSl 3 13 B2,.boxSl 3 14 Ln,.boxSl 3 15 .str,.boxSl 6 10 B2,.boxSl 6 11 Fz],[(0,.lf (.ptr 0 0)),(2,.lf (.ptr 1 0)),(3,.lf (.ptr 2 0)),(4,.lf (.d tI)),(5,.lf (.d (.sl Gu))),(6,.lf (.ptr 3 0)),(7,.lf (.d .str)),(8,.lf (.d tI))],[.box 116 [.d (.pair (.sl (.int .u8)) (.pair tI .unit))],.box 98 [.d Nn],.box 98 [.d Nn],.box 141 [.d A6d]]⟩,[(4,⟨[.boxSl 2 1 .str,.boxSl 2 2 Cl,.boxSl 2 13 B2,.boxSl 2 14 Ln,.boxSl 2 15 .str,.boxSl 3 1 .str,.boxSl 3 2 Cl,.boxSl 3 13 B2,.boxSl 3 14 Ln,.boxSl 3 15 .str],[(0,.lf (.ptr 0 0)),(2,.lf (.ptr 1 0)),(3,.lf (.ptr 2 0)),(4,.lf (.d tI))],[.box 116 [.d (.pair (.sl (.int .u8)) (.pair tI .unit))],.box 98 [.d Nn],.box 98 [.d Nn]]⟩),(1,⟨[.boxSl 2 1 .str,.boxSl 2 2 Cl,.boxSl 2 13 B2,.boxSl 2 14 Ln,.boxSl 2 15 .str],[(2,.lf (.ptr 1 0))],[.box 116 [.d (.pair (.sl (.int .u8)) (.pair tI .unit))],.box 98 [.d Nn]]⟩)])]
def Pa:Code:=(Av (Bl Try.f79)).getD 0 .skip
def Uq:Code:=(Av Pa).getD 0 .skip
def H2 {R:Type}  (NX:((Int)×(List Bp)×(Ab)×(Int)×((List Int)×Int×Unit)×C5×C5×Td×Unit)→Option R) (X4:((Int)×((List Int)×Int×Unit)×C5×C5×Unit)→Option R) (X1:(((List Int)×Int×Unit)×C5×Unit)→Option R) (v4:Int) (v5:List Bp) (v7:Ab) (v8:Int) (b0:(List Int)×Int×Unit) (b1:C5) (b2:C5) (b3:Td):Option R:=
 bif decide (v8 < 60) then bif decide (0 < nI (List.length b3.2.2.1)) then bif decide (0≤v8) then bif decide (v8≤nI (ByteArray.size (List.getD b3.2.2.1 (Int.toNat 0) (false,0,Ae,())).2.2.1)) then bif decide (0≤v8) then bif decide (v8≤nI v7.size) then bif decide ((Af (List.getD b3.2.2.1 (Int.toNat 0) (false,0,Ae,())).2.2.1 0 v8).size + (Af v7 v8 (nI v7.size)).size≤9223372036854775807) then bif (Ai (Af (List.getD b3.2.2.1 (Int.toNat 0) (false,0,Ae,())).2.2.1 0 v8++Af v7 v8 (nI v7.size)) 1).2 then bif decide (0 < nI (List.length b3.2.2.1)) then bif !(Af (List.getD b3.2.2.1 (Int.toNat 0) (false,0,Ae,())).2.2.1 0 v8++Af v7 v8 (nI v7.size)).toList==ByteArray.toList (List.getD b3.2.2.1 (Int.toNat 0) (false,0,Ae,())).2.2.1 then (Kl b2 (2,v5,1,[v8],())).bind fun val=>X1 (b0,val.1) else NX (v4,v5,v7,IntKind.i64.wrap (v8 + 1),b0,b1,b2,b3,()) else none else NX (v4,v5,v7,IntKind.i64.wrap (v8 + 1),b0,b1,b2,b3,()) else none else none else none else none else none else none else X4 (v4,b0,b1,b2,())
def Fv:Nat→(Int)→(List Bp)→(Ab)→(Int)→((List Int)×Int×Unit)→C5→C5→Td →  Option (((Int)×((List Int)×Int×Unit)×C5×C5×Unit) ⊕ (((List Int)×Int×Unit)×C5×Unit))
 | 0,_,_,_,_,_,_,_,_=>none
 | m + 1,v4,v5,v7,v8,b0,b1,b2,b3=>H2  (fun d=>Fv m d.1 d.2.1 d.2.2.1 d.2.2.2.1 d.2.2.2.2.1 d.2.2.2.2.2.1 d.2.2.2.2.2.2.1 d.2.2.2.2.2.2.2.1) (fun d=>some (.inl (d))) (fun d=>some (.inr (d))) v4 v5 v7 v8 b0 b1 b2 b3
def N1 (d:(Int)×(List Bp)×(Ab)×(Int)×((List Int)×Int×Unit)×C5×C5×Td×Unit):Option (((Int)×((List Int)×Int×Unit)×C5×C5×Unit) ⊕ (((List Int)×Int×Unit)×C5×Unit)):=(u4 (u4 Ah)) (Fv ((u4 (u4 Ah)) N0 d)) d
def Ja {R:Type} (LO12:((Int)×(List Bp)×(Ab)×(Int)×((List Int)×Int×Unit)×C5×C5×Td×Unit)→Option (((Int)×((List Int)×Int×Unit)×C5×C5×Unit) ⊕ (((List Int)×Int×Unit)×C5×Unit))) (NX:((Int)×((List Int)×Int×Unit)×C5×C5×Unit)→Option R) (X2:(((List Int)×Int×Unit)×C5×C5×Unit)→Option R) (X1:(((List Int)×Int×Unit)×C5×Unit)→Option R) (v4:Int) (b0:(List Int)×Int×Unit) (b1 b2:C5):Option R:=
 bif decide (v4 < 60) then (Ha (ByteArray.mk #[118,119]) 20).bind fun val=>((Aa b0 900).bind fun val=>some ((val.1,()),val.2,())).bind fun val_1=>(O9 (IntKind.i64.wrap (v4 + val_1.1.1))).bind fun val_2=>bif decide (ByteArray.size val.1.1 + ByteArray.size val_2.1.1≤9223372036854775807) then bif (Ar b2.2.2.2.1 [(ByteArray.mk #[107],val.1.1++val_2.1.1,false,())]).1 != 0 then X1 (val_1.2.1,b2,()) else bif decide (0 < nI (Ar b2.2.2.2.1 [(ByteArray.mk #[107],val.1.1++val_2.1.1,false,())]).2.2.1.length) then bif decide (0≤((Ar b2.2.2.2.1 [(ByteArray.mk #[107],val.1.1++val_2.1.1,false,())]).2.2.1.getD (Int.toNat 0) (false,0,Ae,())).2.1) then bif decide (((Ar b2.2.2.2.1 [(ByteArray.mk #[107],val.1.1++val_2.1.1,false,())]).2.2.1.getD (Int.toNat 0) (false,0,Ae,())).2.1 < nI (List.length b2.2.1.1)) then (LO12 (v4,[(ByteArray.mk #[107],val.1.1++val_2.1.1,false,())],List.getD b2.2.1.1 (Int.toNat ((Ar b2.2.2.2.1 [(ByteArray.mk #[107],val.1.1++val_2.1.1,false,())]).2.2.1.getD (Int.toNat 0) (false,0,Ae,())).2.1) (Ae),10,val_1.2.1,b1,b2,Ar b2.2.2.2.1 [(ByteArray.mk #[107],val.1.1++val_2.1.1,false,())],())).bind fun val=>Eb (fun d=>NX (IntKind.i64.wrap (d.1 + 1),d.2)) (fun d=>X1 d) val else none else none else none else none else X2 (b0,b1,b2,())
def D3:Nat→(Int)→((List Int)×Int×Unit)→C5→C5 →  Option ((((List Int)×Int×Unit)×C5×C5×Unit) ⊕ (((List Int)×Int×Unit)×C5×Unit))
 | 0,_,_,_,_=>none
 | m + 1,v4,b0,b1,b2=>Ja N1 (fun d=>D3 m d.1 d.2.1 d.2.2.1 d.2.2.2.1) (fun d=>some (.inl (d))) (fun d=>some (.inr (d))) v4 b0 b1 b2
def Ah3 (d:(Int)×((List Int)×Int×Unit)×C5×C5×Unit):Option ((((List Int)×Int×Unit)×C5×C5×Unit) ⊕ (((List Int)×Int×Unit)×C5×Unit)):=(u4 Ah) (D3 ((u4 Ah) Lh d)) d
def Nd (a0:(List Int)×Int×Unit):Option (((C5×Unit)×(((List Int)×Int×Unit)×Unit))):=
 (Kl (1,(List.replicate (Int.toNat 12) (strOfNums (List.replicate 64 0)),[],()),false,(0,0,0,(0,0,0,0,()),0,0,([],()),()),[([],())],[],()) (1,[],-1,[],())).bind fun val=>((fun d=>D3 (Lh d.1 d.2.1 d.2.2.1 d.2.2.2.1) d.1 d.2.1 d.2.2.1 d.2.2.2.1) (0,a0,(0,([],[],()),false,(0,0,0,(0,0,0,0,()),0,0,([],()),()),[],[],()),val.1)).bind fun val=>Eb (fun d=>some (d.2.2,d.1,())) (fun d=>some (d.2,d.1,())) val
theorem i7:∃ f,f=@Nd:=⟨_,rfl⟩
def L5:=Classical.choose i7
theorem i8:@L5=@Nd:=Classical.choose_spec i7
def i9:SD:=⟨Amc,fun x=>L5 x.1⟩
theorem A7s (v4:Int) (v5:List Bp) (v7:Ab) (b0:Rd) (b1 b2:C5) (b3:Td) {K:Nat} (h0:Po K b0) (hw:w9 b2) (h7:v7.size=64) (hops:0 < b3.2.2.1.length) (hd:(b3.2.2.1.getD 0 zOp).2.2.1.size=64):∀ (k m:Nat) (v8:Int),v8 + k=60→k < m→0≤v8→
  Am (Fv m v4 v5 v7 v8 b0 b1 b2 b3) fun q=>(∀ d,q=.inl d→d=(v4,b0,b1,b2,()))∧∀ d,q=.inr d→Po K d.1∧w9 d.2.1
 | 0,m + 1,v8,hk,_,_=>by
  simp only [Fv,H2]
  exact Am.no (Bh (by omega)) (Am.some ⟨fun d q=>(by cases q; rfl),fun d q=>(by cases q)⟩)
 | k + 1,m + 1,v8,hk,hm,h8=>by
  have hd':(b3.2.2.1.getD (Int.toNat 0) (false,0,Ae,())).2.2.1.size=64:=hd
  have e1:IntKind.i64.wrap (v8 + 1)=v8 + 1:=Al (by omega) (by omega)
  simp only [Fv,H2]
  refine Am.go (Ag (by omega)) (Am.go (Ag (by simp only [nI]; omega)) (Am.go (Ag h8) (Am.go (Ag (by rw [hd']; simp only [nI]; omega)) (Am.go (Ag h8) (Am.go (Ag (by rw [h7]; simp only [nI]; omega)) (Am.go (Ag ?_) ?_))))))
  ·have a1:=A4n (b3.2.2.1.getD (Int.toNat 0) (false,0,Ae,())).2.2.1 0 v8
   have a2:=A4n v7 v8 (nI v7.size)
   omega
  ·rw [e1]
   have rec_:=A7s v4 v5 v7 b0 b1 b2 b3 h0 hw h7 hops hd k m (v8 + 1) (by omega) (by omega) (by omega)
   refine Am.cond (fun _=>Am.go (Ag (by simp only [nI]; omega)) (Am.cond (fun _=>?_) fun _=>rec_)) fun _=>rec_
   refine Am.bind (A1c hw _) fun q hq=>Am.some ⟨fun d q=>(by cases q),fun d z=>?_⟩
   cases z
   refine ⟨h0,?_⟩
   show w9 q.1.1
   rw [hq]
   exact hw.doI _
theorem A5c (b1 b2:C5) (hw:w9 b2):∀ (k m:Nat) (v4:Int) (b0:Rd) (K:Nat),v4 + k=60→k < m→0≤v4→Po K b0→K + 10 * k < 1000000000000→
  Am (D3 m v4 b0 b1 b2) fun q=>(∀ d,q=.inl d→d.2=(b1,b2,())∧Po (K + 10 * k) d.1)∧∀ d,q=.inr d→Po (K + 10 * k) d.1∧w9 d.2.1
 | 0,m + 1,v4,b0,K,hk,_,_,h0,_=>by
  simp only [D3,Ja]
  exact Am.no (Bh (by omega)) (Am.some ⟨fun d q=>(by cases q; exact ⟨rfl,h0⟩),fun d q=>(by cases q)⟩)
 | k + 1,m + 1,v4,b0,K,hk,hm,h4,h0,hK=>by
  have e1:IntKind.i64.wrap (v4 + 1)=v4 + 1:=Al (by omega) (by omega)
  simp only [D3,Ja]
  refine Am.go (Ag (by omega)) ?_
  refine Am.bind (Anf (ByteArray.mk #[118,119]) 20 (by decide) (by decide) (by decide)) fun q hq=>?_
  refine Az h0 (by omega) (by omega) fun u r1 u0 u1 h1=>?_
  dsimp only
  rw [Al (n:=v4 + u) (by omega) (by omega)]
  refine Am.bind (A8m (n:=v4 + u) (by omega) (by omega)) fun q2 hq2=>?_
  refine Am.go (Ag (by rw [hq]; show 2 * 20 + _≤_; omega)) ?_
  refine Am.cond (fun _=>Am.some ⟨fun d q=>(by cases q),fun d z=>(by cases z; exact ⟨h1.mono (by omega),hw⟩)⟩) fun c=>?_
  have hc:(Gg b2.2.2.2.1 [(ByteArray.mk #[107],q.1.1++q2.1.1,false,())]).1=0:=by
   have c:((Gg b2.2.2.2.1 [(ByteArray.mk #[107],q.1.1++q2.1.1,false,())]).1 != 0)=false:=c
   simpa using c
  obtain ⟨o1,o2,o3,o4⟩:=A2r hc
  have hf:=hw.f (Aey _ _ hc).1
  have hdk:=Ig hw.v
  have hlen:(b2.2.1.1.length:Int)=(b2.2.1.1.length:Int):=rfl
  refine Am.go (Ag (by simp only [nI]; exact Int.ofNat_lt.2 o1)) (Am.go (Ag o2) (Am.go (Ag ?_) ?_))
  ·have o3':=o3
   rw [hf,hlen] at o3'
   exact o3'
  ·have hold:(b2.2.1.1.getD (Int.toNat ((Gg b2.2.2.2.1 [(ByteArray.mk #[107],q.1.1++q2.1.1,false,())]).2.2.1.getD 0 zOp).2.1) z0).size=64:=by
    refine hdk.sec _ ?_
    show _ < b2.2.1.1.length
    rw [hf,hlen] at o3
    omega
   refine Am.bind (A7s v4 _ _ r1 b1 b2 _ h1 hw hold o1 o4 50 _ 10 (by omega) (by simp only [N0]; omega) (by omega)) fun z hz=>?_
   cases z with
   | inl d=>
    have hd:=hz.1 d rfl
    subst hd
    show Am (D3 m (IntKind.i64.wrap (v4 + 1)) r1 b1 b2) _
    rw [e1]
    refine (A5c b1 b2 hw k m (v4 + 1) r1 (K + 1) (by omega) (by omega) (by omega) h1 (by omega)).mono fun y hy=>⟨fun d q=>?_,fun d q=>?_⟩
    ·obtain ⟨y1,y2⟩:=hy.1 d q
     exact ⟨y1,y2.mono (by omega)⟩
    ·obtain ⟨y1,y2⟩:=hy.2 d q
     exact ⟨y1.mono (by omega),y2⟩
   | inr d=>
    obtain ⟨y1,y2⟩:=hz.2 d rfl
    exact Am.some ⟨fun d q=>(by cases q),fun d q=>(by cases q; exact ⟨y1.mono (by omega),y2⟩)⟩
theorem A5d {K:Nat} {r:Rd} (h:Po K r) (hK:K + 1000 < 1000000000000):Am (L5 r) fun q=>w9 q.1.1∧Po (K + 600) q.2.1:=by
 rw [i8]
 unfold Nd
 have h0:w9 (A6r 12 1):=w9.new (by decide) (by decide)
 have e0:A6r 12 1=(1,(List.replicate (Int.toNat 12) (strOfNums (List.replicate 64 0)),[],()),false,(0,0,0,(0,0,0,0,()),0,0,([],()),()),[([],())],[],()):=rfl
 rw [← e0]
 refine Am.bind (A1c h0 _) fun q hq=>?_
 have hw:w9 q.1.1:=by rw [hq]; exact h0.doI _
 refine Am.bind (A5c _ _ hw 60 _ 0 r K (by omega) (by simp only [Lh]; omega) (by omega) h (by omega)) fun z hz=>?_
 cases z with
 | inl d=>
  obtain ⟨y1,y2⟩:=hz.1 d rfl
  obtain ⟨d0,d1⟩:=d
  have y1:d1=_:=y1
  subst y1
  exact Am.some ⟨hw,y2⟩
 | inr d=>
  obtain ⟨y1,y2⟩:=hz.2 d rfl
  exact Am.some ⟨y2,y1⟩
def Wj {R:Type} (k:Kt R):=(Eb (Mh (Ce 4) (.exit 0) 2 k) (Mh (Ce 4) .ret 1 k))
def Ur {R:Type} (k:Kt R):=(Eb (Mh (Ce 12) (.exit 2) 4 k) (Mh (Ce 12) .ret 1 k))
def Us {R:Type}:Lt R Ce:=(Gc (pat:=Ce) 4 (fun d k=>(Ah3 d).bind (Wj k)) (Gc (pat:=Ce) 12 (fun d k=>(N1 d).bind (Ur k)) Ky))
theorem Rq:A1 Try.prog Rp:=Bc ⟨B3,Tr,Ah0,Qk,Yz,Ar0,Aau,trivial⟩
theorem Afi {R:Type}:A7 Try.prog R 83 1 Ce Us Uq:=
 Cu (cfg:=⟨Rp,1,83,Ce⟩) 12 [] (fun NX X d=>(u4 (u4 Ah)) (H2  NX (fun e=>X (.inl (e))) (fun e=>X (.inr (e)))) d) (fun m d=>(u4 (u4 Ah)) (Fv m) d) (fun d=>(u4 (u4 Ah)) N0 d) Ur Rq trivial (fun f NX d=>by simp only [u4,Ac,Ah]; unfold H2; simp only [nb])
theorem Ah4 {R:Type}:A7 Try.prog R 83 1 Ce Us Pa:=
 Cu (cfg:=⟨Rp,1,83,Ce⟩) 4 [Uq] (fun NX X d=>(u4 Ah) (Ja N1 NX (fun e=>X (.inl (e))) (fun e=>X (.inr (e)))) d) (fun m d=>(u4 Ah) (D3 m) d) (fun d=>(u4 Ah) Lh d) Wj Rq ⟨Afi,trivial⟩ (fun f NX d=>by simp only [u4,Ac,Ah]; unfold Ja; simp only [nb])
theorem Amd:Cp Try.prog 79 i9:=
 Bd (pat:=Ce) [Pa] Us Rq ⟨Ah4,trivial⟩ Try.func79 (de:=fun x=>Nd x.1) (fun x r h=>by have q:L5 x.1=some r:=h; rw [i8] at q; exact q) fun _=>by kernel_rfl
def Acj:Ji:=⟨[.bx 116 (.pair (.sl (.int .u8)) (.pair tI .unit))],[none],[.rd tI],[none]⟩
def Jt (a0:(List Int)×Int×Unit):Option ((((Int)×Unit)×(((List Int)×Int×Unit)×Unit))):=
 ((Aa a0 6).bind fun val=>some ((val.1,()),val.2,())).bind fun val=>bif decide (0≤val.1.1) then bif decide (val.1.1 < nI [8,8,4,2,1,1].length) then some (([8,8,4,2,1,1].getD (Int.toNat val.1.1) 0,()),val.2) else none else none
theorem R6:∃ f,f=@Jt:=⟨_,rfl⟩
def H3:=Classical.choose R6
theorem R7:@H3=@Jt:=Classical.choose_spec R6
def R8:SD:=⟨Acj,fun x=>H3 x.1⟩
theorem A5e {k:Nat} {r:Rd} (h:Po k r) (hk:k < 1099511627776):Am (H3 r) fun q=>(1≤q.1.1∧q.1.1≤8)∧Po (k + 1) q.2.1:=by
 rw [R7]
 unfold Jt
 refine Az h hk (by omega) fun v r' v0 v1 h'=>?_
 refine Am.go (Ag v0) (Am.go (Ag v1) (Am.some ⟨?_,h'⟩))
 exact Azb (Q:=fun x:Int=>1≤x∧x≤8) (by decide) v0 v1
theorem Ack:Cp Try.prog 52 R8:=
 Bd (pat:=Ge) [] Ky (Bc (l:=[(42,Bq)]) ⟨B3,trivial⟩) trivial Try.func52 (de:=fun x=>Jt x.1) (fun x r h=>by have q:H3 x.1=some r:=h; rw [R7] at q; exact q) fun _=>by kernel_rfl
def Ame:Ji:=⟨[.bx 116 (.pair (.sl (.int .u8)) (.pair tI .unit))],[none],[.rd Nn],[some 16]⟩
def Nf (a0:(List Int)×Int×Unit):Option (((C5×Unit)×(((List Int)×Int×Unit)×Unit))):=
 ((Aa a0 7).bind fun val=>some ((val.1,()),val.2,())).bind fun val=>bif decide (0≤val.1.1) then bif decide (val.1.1 < nI [8,9,10,12,16,24,40].length) then (H3 val.2.1).bind fun val_1=>(Kd ([8,9,10,12,16,24,40].getD (Int.toNat val.1.1) 0) val_1.1.1).bind fun val=>some (val.1,val_1.2) else none else none
theorem j4:∃ f,f=@Nf:=⟨_,rfl⟩
def L6:=Classical.choose j4
theorem j5:@L6=@Nf:=Classical.choose_spec j4
def j6:SD:=⟨Ame,fun x=>L6 x.1⟩
theorem A8n {a w:Int} (h:Di a 8 200=true) (hw:Di w 1 8=true):Kd a w=some ((A6r a w,()),()):=by
 unfold Kd
 have hl:(E4 a).1.length=a.toNat:=(A07 h).2
 obtain ⟨h1,h2⟩:=Ec h
 rw [show (nI (E4 a).1.length==0)=false from beq_eq_false_iff_ne.2 (by rw [hl]; simp only [nI]; omega),show Bz w=some ((Di w 1 8,()),()) from wid w,hw]
 rfl
theorem A5f {K:Nat} {r:Rd} (h:Po K r) (hK:K + 100 < 1000000000000):Am (L6 r) fun q=>w9 q.1.1∧Po (K + 20) q.2.1:=by
 rw [j5]
 unfold Nf
 refine Az h (by omega) (by omega) fun v r1 v0 v1 h1=>?_
 dsimp only
 refine Am.go (Ag v0) (Am.go (Ag v1) ?_)
 have ha:=Azb (Q:=fun x:Int=>8≤x∧x≤40) (l:=[8,9,10,12,16,24,40]) (d:=0) (by decide) v0 v1
 generalize ([8,9,10,12,16,24,40]:List Int).getD v.toNat 0=a at *
 refine Am.bind (A5e h1 (by omega)) fun q hq=>?_
 have i1:Di a 8 200=true:=by unfold Di; rw [Ag ha.1,Ag (show a≤200 by omega)]; rfl
 have i2:Di a 8 40=true:=by unfold Di; rw [Ag ha.1,Ag ha.2]; rfl
 have i3:Di q.1.1 1 8=true:=by unfold Di; rw [Ag hq.1.1,Ag hq.1.2]; rfl
 refine Am.bind ⟨_,A8n i1 i3,rfl⟩ fun q2 hq2=>Am.some ⟨?_,hq.2.mono (by omega)⟩
 rw [← hq2]
 exact w9.new i2 i3
theorem Amf:Cp Try.prog 80 j6:=
 Bd (pat:=Ge) [] Ky (Bc (l:=[(42,Bq),(52,R8),(94,Qm)]) ⟨B3,Ack,Yz,trivial⟩) trivial Try.func80 (de:=fun x=>Nf x.1) (fun x r h=>by have q:L6 x.1=some r:=h; rw [j5] at q; exact q) fun _=>by kernel_rfl
def Ih (v3:Ab) (v4:Int) (b0:(List Int)×Int×Unit):Nat:=v4.toNat + 1
def Afj:Ji:=⟨[.bx 116 (.pair (.sl (.int .u8)) (.pair tI .unit))],[none],[.rd .str],[none]⟩
def Ut:Tb:=tb [(42,Bq),(72,Ou)]
def Fw:Nat→Du×(Nat→Du):=Ix [(13,⟨[],[(0,.lf (.ptr 0 0)),(3,.lf (.d .str)),(4,.lf (.d tI))],[.box 116 [.d (.pair (.sl (.int .u8)) (.pair tI .unit))]]⟩,[(3,⟨[],[(3,.lf (.d .str))],[.box 116 [.d (.pair (.sl (.int .u8)) (.pair tI .unit))]]⟩)])]
def Pu:Code:=(Av (Bl Try.f73)).getD 0 .skip
def Ii {R:Type}  (NX:((Ab)×(Int)×((List Int)×Int×Unit)×Unit)→Option R) (X3:((Ab)×((List Int)×Int×Unit)×Unit)→Option R) (v3:Ab) (v4:Int) (b0:(List Int)×Int×Unit):Option R:=
 bif decide (v4 > 0) then ((Aa b0 4).bind fun val=>some ((val.1,()),val.2,())).bind fun val=>bif decide (0≤val.1.1) then bif decide (val.1.1≤nI (ByteArray.mk #[97,98,99,100]).size) then bif decide (1≤nI (Af (ByteArray.mk #[97,98,99,100]) val.1.1 (nI (ByteArray.mk #[97,98,99,100]).size)).size) then bif decide (v3.size + (Af (Af (ByteArray.mk #[97,98,99,100]) val.1.1 (nI (ByteArray.mk #[97,98,99,100]).size)) 0 1).size≤9223372036854775807) then NX (v3++Af (Af (ByteArray.mk #[97,98,99,100]) val.1.1 (nI (ByteArray.mk #[97,98,99,100]).size)) 0 1,IntKind.i64.wrap (v4 - 1),val.2) else none else none else none else none else X3 (v3,b0,())
def D7:Nat→(Ab)→(Int)→((List Int)×Int×Unit) →  Option ((Ab)×((List Int)×Int×Unit)×Unit)
 | 0,_,_,_=>none
 | m + 1,v3,v4,b0=>Ii  (fun d=>D7 m d.1 d.2.1 d.2.2.1) (fun d=>some (d)) v3 v4 b0
def m6 (d:(Ab)×(Int)×((List Int)×Int×Unit)×Unit):Option ((Ab)×((List Int)×Int×Unit)×Unit):=(Ac (Ac (Ac Ah))) (D7 ((Ac (Ac (Ac Ah))) Ih d)) d
def Kv (a0:(List Int)×Int×Unit):Option ((((Ab)×Unit)×(((List Int)×Int×Unit)×Unit))):=
 ((Aa a0 8).bind fun val=>some ((val.1,()),val.2,())).bind fun val=>bif val.1.1==0 then some ((Ae,()),val.2) else bif val.1.1==1 then some ((ByteArray.mk #[0,255],()),val.2) else bif val.1.1==2 then ((Aa val.2.1 21).bind fun val=>some ((val.1,()),val.2,())).bind fun val=>(Ha (ByteArray.mk #[108,111,110,103]) (IntKind.i64.wrap (5 + val.1.1))).bind fun val_1=>some (val_1.1,val.2) else bif val.1.1==3 then some ((ByteArray.mk #[45],()),val.2) else ((Aa val.2.1 4).bind fun val=>some ((val.1,()),val.2,())).bind fun val=>((fun d=>D7 (Ih d.1 d.2.1 d.2.2.1) d.1 d.2.1 d.2.2.1) (Ae,IntKind.i64.wrap (1 + val.1.1),val.2)).bind fun val=>some ((val.1,()),val.2)
theorem Uu:∃ f,f=@Kv:=⟨_,rfl⟩
def D4:=Classical.choose Uu
theorem Uv:@D4=@Kv:=Classical.choose_spec Uu
def N2:SD:=⟨Afj,fun x=>D4 x.1⟩
theorem Att:∀ (m n:Nat) (k:Nat) (v3:Ab) (r:Rd),n < m→n≤10→v3.size + n≤100→Po k r→k + n < 1099511627776→Am (D7 m v3 n r) fun q=>q.1.size≤100∧Po (k + n) q.2.1
 | 0,n,k,v3,r,h,_,_,_,_=>by omega
 | m + 1,n,k,v3,r,h,hn,hs,hr,hk=>by
  simp only [D7,Ii]
  refine Am.cond (fun c=>?_) fun c=>?_
  ·have hp:0 < n:=by simpa using c
   refine Az hr (by omega) (by omega) fun v r' v0 v1 h'=>?_
   have sz:((ByteArray.mk #[97,98,99,100]).size:Int)=4:=rfl
   have e1:=Anc (s:=ByteArray.mk #[97,98,99,100]) v0 (show v≤nI (ByteArray.mk #[97,98,99,100]).size by simp only [nI,sz]; omega) (Int.le_refl _)
   have e2:=Anc (s:=Af (ByteArray.mk #[97,98,99,100]) v (nI (ByteArray.mk #[97,98,99,100]).size)) (i:=0) (j:=1) (by omega) (by omega) (by simp only [nI,sz] at e1 ⊢; omega)
   refine Am.go (Ag v0) (Am.go (Ag (show v≤_ by simp only [nI,sz]; omega)) (Am.go (Ag (show 1≤nI (Af (ByteArray.mk #[97,98,99,100]) v (nI (ByteArray.mk #[97,98,99,100]).size)).size by simp only [nI,sz] at e1 ⊢; omega)) (Am.go (Ag (show v3.size + (Af (Af (ByteArray.mk #[97,98,99,100]) v (nI (ByteArray.mk #[97,98,99,100]).size)) 0 1).size≤_ by omega)) ?_)))
   have ew:IntKind.i64.wrap ((n:Int) - 1)=((n - 1:Nat):Int):=by rw [Al (by omega) (by omega)]; omega
   rw [ew]
   refine (Att m (n - 1) (k + 1) (v3++Af (Af (ByteArray.mk #[97,98,99,100]) v (nI (ByteArray.mk #[97,98,99,100]).size)) 0 1) r' (by omega) (by omega) (by rw [ByteArray.size_append]; omega) h' (by omega)).mono fun q hq=>⟨hq.1,?_⟩
   rw [show k + 1 + (n - 1)=k + n by omega] at hq
   exact hq.2
  ·have:n=0:=by simpa using c
   subst this
   exact Am.some ⟨by show v3.size≤100; omega,hr⟩
theorem A1d {k:Nat} {r:Rd} (h:Po k r) (hk:k + 10 < 1099511627776):Am (D4 r) fun q=>q.1.1.size≤100∧Po (k + 10) q.2.1:=by
 rw [Uv]
 unfold Kv
 refine Az h (by omega) (by omega) fun v r' v0 v1 h1=>?_
 refine Am.cond (fun _=>Am.some ⟨Nat.zero_le _,h1.mono (by omega)⟩) fun _=>Am.cond (fun _=>Am.some ⟨by show 2≤100; omega,h1.mono (by omega)⟩) fun _=>Am.cond (fun _=>?_) fun _=>Am.cond (fun _=>Am.some ⟨by show 1≤100; omega,h1.mono (by omega)⟩) fun _=>?_
 ·dsimp only
  refine Az h1 (by omega) (by omega) fun v2 r2 w0 w1 h2=>?_
  dsimp only
  have ew:IntKind.i64.wrap (5 + v2)=5 + v2:=Al (by omega) (by omega)
  simp only [ew]
  refine Am.bind (Anf (ByteArray.mk #[108,111,110,103]) (5 + v2) (by omega) (by omega) (by decide)) fun q hq=>Am.some ⟨?_,h2.mono (by omega)⟩
  show q.1.1.size≤100
  rw [hq]
  show 4 * _≤100
  omega
 ·dsimp only
  refine Az h1 (by omega) (by omega) fun v2 r2 w0 w1 h2=>?_
  dsimp only
  have ew:IntKind.i64.wrap (1 + v2)=((1 + v2).toNat:Int):=by rw [Al (by omega) (by omega)]; omega
  simp only [ew]
  refine Am.bind (Att _ (1 + v2).toNat (k + 2) (Ae) r2 (by simp only [Ih]; omega) (by omega) (by show 0 + _≤100; omega) h2 (by omega)) fun q hq=>Am.some ⟨hq.1,hq.2.mono (by omega)⟩
def Pw {R:Type} (k:Kt R):=(Mh (Fw 13) (.exit 1) 3 k)
def Wk {R:Type}:Lt R Fw:=(Gc (pat:=Fw) 13 (fun d k=>(m6 d).bind (Pw k)) Ky)
theorem Uw:A1 Try.prog Ut:=Bc ⟨B3,Tr,trivial⟩
theorem m7 {R:Type}:A7 Try.prog R 33 1 Fw Wk Pu:=
 Cu (cfg:=⟨Ut,1,33,Fw⟩) 13 [] (fun NX X d=>(Ac (Ac (Ac Ah))) (Ii  NX X) d) (fun m d=>(Ac (Ac (Ac Ah))) (D7 m) d) (fun d=>(Ac (Ac (Ac Ah))) Ih d) Pw Uw trivial (fun f NX d=>by simp only [u4,Ac,Ah]; unfold Ii; simp only [nb])
theorem Ux:Cp Try.prog 73 N2:=
 Bd (pat:=Fw) [Pu] Wk Uw ⟨m7,trivial⟩ Try.func73 (de:=fun x=>Kv x.1) (fun x r h=>by have q:D4 x.1=some r:=h; rw [Uv] at q; exact q) fun _=>by kernel_rfl
def Acl:Ji:=⟨[.bx 116 (.pair (.sl (.int .u8)) (.pair tI .unit))],[none],[.own 69 Gu],[none]⟩
def R9:Tb:=tb [(42,Bq),(73,N2)]
def Fe:Nat→Du×(Nat→Du):=Ix [(7,⟨[.row 3 0 69 Gu],[(0,.lf (.ptr 0 0)),(3,.lf (.row 1)),(4,.lf (.d tI)),(5,.lf (.d tI))],[.box 116 [.d (.pair (.sl (.int .u8)) (.pair tI .unit))],.row 69 Gu]⟩,[(2,⟨[.row 3 0 69 Gu],[(3,.lf (.row 1))],[.box 116 [.d (.pair (.sl (.int .u8)) (.pair tI .unit))],.row 69 Gu]⟩)])]
def Px:Code:=(Av (Bl Try.f99)).getD 0 .skip
def D8 (v4 v5:Int) (b0:(List Int)×Int×Unit) (r1:List Bp):Nat:=(v4 - v5).toNat + 1
def Ij {R:Type}  (NX:((Int)×(Int)×((List Int)×Int×Unit)×(List Bp)×Unit)→Option R) (X2:(((List Int)×Int×Unit)×(List Bp)×Unit)→Option R) (v4:Int) (v5:Int) (b0:(List Int)×Int×Unit) (r1:List Bp):Option R:=
 bif decide (v5 < v4) then ((Aa b0 8).bind fun val=>some ((val.1,()),val.2,())).bind fun val=>bif decide (0≤val.1.1) then bif decide (val.1.1≤nI (ByteArray.mk #[97,98,99,100,101,102,103,104]).size) then bif decide (1≤nI (Af (ByteArray.mk #[97,98,99,100,101,102,103,104]) val.1.1 (nI (ByteArray.mk #[97,98,99,100,101,102,103,104]).size)).size) then bif decide ((ByteArray.mk #[107]).size + (Af (Af (ByteArray.mk #[97,98,99,100,101,102,103,104]) val.1.1 (nI (ByteArray.mk #[97,98,99,100,101,102,103,104]).size)) 0 1).size≤9223372036854775807) then ((Aa val.2.1 4).bind fun val=>some ((val.1,()),val.2,())).bind fun val_1=>bif decide (v4 > 8) then ((Aa val_1.2.1 3).bind fun val=>some ((val.1,()),val.2,())).bind fun val_2=>bif decide (0≤val_2.1.1) then bif decide (val_2.1.1≤nI (ByteArray.mk #[120,121,122]).size) then bif decide (1≤nI (Af (ByteArray.mk #[120,121,122]) val_2.1.1 (nI (ByteArray.mk #[120,121,122]).size)).size) then bif decide ((ByteArray.mk #[107]++Af (Af (ByteArray.mk #[97,98,99,100,101,102,103,104]) val.1.1 (nI (ByteArray.mk #[97,98,99,100,101,102,103,104]).size)) 0 1).size + (Af (Af (ByteArray.mk #[120,121,122]) val_2.1.1 (nI (ByteArray.mk #[120,121,122]).size)) 0 1).size≤9223372036854775807) then bif !val_1.1.1==0 then (D4 val_2.2.1).bind fun val_3=>bif decide (nI (ByteArray.size val_3.1.1) > 100) then bif decide (100≤nI (ByteArray.size val_3.1.1)) then bif decide ((r1.length + [(ByteArray.mk #[107]++Af (Af (ByteArray.mk #[97,98,99,100,101,102,103,104]) val.1.1 (nI (ByteArray.mk #[97,98,99,100,101,102,103,104]).size)) 0 1++Af (Af (ByteArray.mk #[120,121,122]) val_2.1.1 (nI (ByteArray.mk #[120,121,122]).size)) 0 1,Af val_3.1.1 0 100,val_1.1.1==0,())].length) * 40≤140737488355328) then NX (v4,IntKind.i64.wrap (v5 + 1),val_3.2.1,r1++[(ByteArray.mk #[107]++Af (Af (ByteArray.mk #[97,98,99,100,101,102,103,104]) val.1.1 (nI (ByteArray.mk #[97,98,99,100,101,102,103,104]).size)) 0 1++Af (Af (ByteArray.mk #[120,121,122]) val_2.1.1 (nI (ByteArray.mk #[120,121,122]).size)) 0 1,Af val_3.1.1 0 100,val_1.1.1==0,())],()) else none else none else bif decide ((r1.length + [(ByteArray.mk #[107]++Af (Af (ByteArray.mk #[97,98,99,100,101,102,103,104]) val.1.1 (nI (ByteArray.mk #[97,98,99,100,101,102,103,104]).size)) 0 1++Af (Af (ByteArray.mk #[120,121,122]) val_2.1.1 (nI (ByteArray.mk #[120,121,122]).size)) 0 1,val_3.1.1,val_1.1.1==0,())].length) * 40≤140737488355328) then NX (v4,IntKind.i64.wrap (v5 + 1),val_3.2.1,r1++[(ByteArray.mk #[107]++Af (Af (ByteArray.mk #[97,98,99,100,101,102,103,104]) val.1.1 (nI (ByteArray.mk #[97,98,99,100,101,102,103,104]).size)) 0 1++Af (Af (ByteArray.mk #[120,121,122]) val_2.1.1 (nI (ByteArray.mk #[120,121,122]).size)) 0 1,val_3.1.1,val_1.1.1==0,())],()) else none else bif decide ((r1.length + [(ByteArray.mk #[107]++Af (Af (ByteArray.mk #[97,98,99,100,101,102,103,104]) val.1.1 (nI (ByteArray.mk #[97,98,99,100,101,102,103,104]).size)) 0 1++Af (Af (ByteArray.mk #[120,121,122]) val_2.1.1 (nI (ByteArray.mk #[120,121,122]).size)) 0 1,Ae,val_1.1.1==0,())].length) * 40≤140737488355328) then NX (v4,IntKind.i64.wrap (v5 + 1),val_2.2.1,r1++[(ByteArray.mk #[107]++Af (Af (ByteArray.mk #[97,98,99,100,101,102,103,104]) val.1.1 (nI (ByteArray.mk #[97,98,99,100,101,102,103,104]).size)) 0 1++Af (Af (ByteArray.mk #[120,121,122]) val_2.1.1 (nI (ByteArray.mk #[120,121,122]).size)) 0 1,Ae,val_1.1.1==0,())],()) else none else none else none else none else none else bif !val_1.1.1==0 then (D4 val_1.2.1).bind fun val_2=>bif decide (nI (ByteArray.size val_2.1.1) > 100) then bif decide (100≤nI (ByteArray.size val_2.1.1)) then bif decide ((r1.length + [(ByteArray.mk #[107]++Af (Af (ByteArray.mk #[97,98,99,100,101,102,103,104]) val.1.1 (nI (ByteArray.mk #[97,98,99,100,101,102,103,104]).size)) 0 1,Af val_2.1.1 0 100,val_1.1.1==0,())].length) * 40≤140737488355328) then NX (v4,IntKind.i64.wrap (v5 + 1),val_2.2.1,r1++[(ByteArray.mk #[107]++Af (Af (ByteArray.mk #[97,98,99,100,101,102,103,104]) val.1.1 (nI (ByteArray.mk #[97,98,99,100,101,102,103,104]).size)) 0 1,Af val_2.1.1 0 100,val_1.1.1==0,())],()) else none else none else bif decide ((r1.length + [(ByteArray.mk #[107]++Af (Af (ByteArray.mk #[97,98,99,100,101,102,103,104]) val.1.1 (nI (ByteArray.mk #[97,98,99,100,101,102,103,104]).size)) 0 1,val_2.1.1,val_1.1.1==0,())].length) * 40≤140737488355328) then NX (v4,IntKind.i64.wrap (v5 + 1),val_2.2.1,r1++[(ByteArray.mk #[107]++Af (Af (ByteArray.mk #[97,98,99,100,101,102,103,104]) val.1.1 (nI (ByteArray.mk #[97,98,99,100,101,102,103,104]).size)) 0 1,val_2.1.1,val_1.1.1==0,())],()) else none else bif decide ((r1.length + [(ByteArray.mk #[107]++Af (Af (ByteArray.mk #[97,98,99,100,101,102,103,104]) val.1.1 (nI (ByteArray.mk #[97,98,99,100,101,102,103,104]).size)) 0 1,Ae,val_1.1.1==0,())].length) * 40≤140737488355328) then NX (v4,IntKind.i64.wrap (v5 + 1),val_1.2.1,r1++[(ByteArray.mk #[107]++Af (Af (ByteArray.mk #[97,98,99,100,101,102,103,104]) val.1.1 (nI (ByteArray.mk #[97,98,99,100,101,102,103,104]).size)) 0 1,Ae,val_1.1.1==0,())],()) else none else none else none else none else none else X2 (b0,r1,())
def A9:Nat→(Int)→(Int)→((List Int)×Int×Unit)→(List Bp) →  Option (((List Int)×Int×Unit)×(List Bp)×Unit)
 | 0,_,_,_,_=>none
 | m + 1,v4,v5,b0,r1=>Ij  (fun d=>A9 m d.1 d.2.1 d.2.2.1 d.2.2.2.1) (fun d=>some (d)) v4 v5 b0 r1
def m8 (d:(Int)×(Int)×((List Int)×Int×Unit)×(List Bp)×Unit):Option (((List Int)×Int×Unit)×(List Bp)×Unit):=(u4 Ah) (A9 ((u4 Ah) D8 d)) d
def Ju (a0:(List Int)×Int×Unit):Option ((((List Bp)×Unit)×(((List Int)×Int×Unit)×Unit))):=
 ((Aa a0 4).bind fun val=>some ((val.1,()),val.2,())).bind fun val=>((Aa val.2.1 10).bind fun val=>some ((val.1,()),val.2,())).bind fun val_1=>bif val_1.1.1==0 then ((Aa val_1.2.1 2).bind fun val=>some ((val.1,()),val.2,())).bind fun val=>((fun d=>A9 (D8 d.1 d.2.1 d.2.2.1 d.2.2.2.1) d.1 d.2.1 d.2.2.1 d.2.2.2.1) (IntKind.i64.wrap (20 - val.1.1),0,val.2.1,[],())).bind fun val=>some (val.2,val.1,()) else ((fun d=>A9 (D8 d.1 d.2.1 d.2.2.1 d.2.2.2.1) d.1 d.2.1 d.2.2.1 d.2.2.2.1) (IntKind.i64.wrap (1 + val.1.1),0,val_1.2.1,[],())).bind fun val=>some (val.2,val.1,())
theorem Sa:∃ f,f=@Ju:=⟨_,rfl⟩
def Fy:=Classical.choose Sa
theorem Sb:@Fy=@Ju:=Classical.choose_spec Sa
def Sc:SD:=⟨Acl,fun x=>Fy x.1⟩
theorem Aqo (n:Nat) (hn:n≤20):∀ (m i k:Nat) (r:Rd) (l:List Bp),n - i < m→i≤n→l.length=i→(∀ c∈l,Ari c)→Po k r→k + 15 * (n - i) < 1099511627776→
  Am (A9 m n i r l) fun q=>Po (k + 15 * (n - i)) q.1∧q.2.1.length=n∧∀ c∈q.2.1,Ari c
 | 0,i,k,r,l,h,_,_,_,_,_=>by omega
 | m + 1,i,k,r,l,h,hi,hl,hc,hr,hk=>by
  simp only [A9,Ij]
  refine Am.cond (fun c=>?_) fun c=>?_
  ·have hi':i < n:=by simpa using c
   have fin:∀ (c:Bp) (r':Rd),Ari c→Po (k + 15) r'→Am (bif decide ((l.length + [c].length) * 40≤140737488355328) then A9 m n (IntKind.i64.wrap ((i:Int) + 1)) r' (l++[c]) else none) fun q=>Po (k + 15 * (n - i)) q.1∧q.2.1.length=n∧∀ c∈q.2.1,Ari c:=fun c r' h1 h2=>by
    refine Am.go (Ag (by simp only [D9]; omega)) ?_
    rw [wI (by omega)]
    refine (Aqo n hn m (i + 1) (k + 15) r' (l++[c]) (by omega) (by omega) (by rw [Fg,D9,hl]) (A4w hc h1) h2 (by omega)).mono fun q hq=>?_
    rw [show k + 15 + 15 * (n - (i + 1))=k + 15 * (n - i) by omega] at hq
    exact hq
   refine Az hr (by omega) (by omega) fun v r1 v0 v1 h1=>?_
   dsimp only
   refine Am.letter v0 v1 fun s1=>?_
   generalize Af (Af (ByteArray.mk #[97,98,99,100,101,102,103,104]) v (nI (ByteArray.mk #[97,98,99,100,101,102,103,104]).size)) 0 1=c1 at *
   have k1:(ByteArray.mk #[107]++c1).size=2:=by rw [ByteArray.size_append,s1]; rfl
   refine Am.go (Ag (by rw [s1]; decide)) ?_
   refine Az h1 (by omega) (by omega) fun g r2 g0 g1 h2=>?_
   dsimp only
   have val:∀ (key:Ab) (r3:Rd),key.size≤1000→Po (k + 3) r3→Am (bif !(g==0) then (D4 r3).bind fun val=>bif decide (nI (ByteArray.size val.1.1) > 100) then bif decide (100≤nI (ByteArray.size val.1.1)) then bif decide ((l.length + [((key,Af val.1.1 0 100,g==0,()):Bp)].length) * 40≤140737488355328) then A9 m n (IntKind.i64.wrap ((i:Int) + 1)) val.2.1 (l++[(key,Af val.1.1 0 100,g==0,())]) else none else none
     else bif decide ((l.length + [((key,val.1.1,g==0,()):Bp)].length) * 40≤140737488355328) then A9 m n (IntKind.i64.wrap ((i:Int) + 1)) val.2.1 (l++[(key,val.1.1,g==0,())]) else none
     else bif decide ((l.length + [((key,Ae,g==0,()):Bp)].length) * 40≤140737488355328) then A9 m n (IntKind.i64.wrap ((i:Int) + 1)) r3 (l++[(key,Ae,g==0,())]) else none) fun q=>Po (k + 15 * (n - i)) q.1∧q.2.1.length=n∧∀ c∈q.2.1,Ari c:=fun key r3 hkey h3=>by
    refine Am.cond (fun _=>?_) fun _=>fin _ _ ⟨hkey,Nat.zero_le _⟩ (h3.mono (by omega))
    refine Am.bind (A1d h3 (by omega)) fun q hq=>?_
    refine Am.cond (fun c=>?_) fun c=>fin _ _ ⟨hkey,by show q.1.1.size≤1000; omega⟩ (hq.2.mono (by omega))
    exfalso
    have c:=Hm c
    simp only [nI] at c
    omega
   refine Am.cond (fun _=>?_) fun _=>val _ r2 (by rw [k1]; decide) (h2.mono (by omega))
   refine Az h2 (by omega) (by omega) fun w r3 w0 w1 h3=>?_
   dsimp only
   refine Am.letter w0 w1 fun s2=>?_
   generalize Af (Af (ByteArray.mk #[120,121,122]) w (nI (ByteArray.mk #[120,121,122]).size)) 0 1=c2 at *
   refine Am.go (Ag (by rw [s2,k1]; decide)) ?_
   exact val _ r3 (by rw [ByteArray.size_append,s2,k1]; decide) (h3.mono (by omega))
  ·have:i=n:=by have:=of_decide_eq_false c; omega
   subst this
   exact Am.some ⟨hr.mono (by omega),hl,hc⟩
theorem A5g {k:Nat} {r:Rd} (h:Po k r) (hk:k + 400 < 1099511627776):Am (Fy r) fun q=>(1≤q.1.1.length∧q.1.1.length≤20∧∀ c∈q.1.1,Ari c)∧Po (k + 400) q.2.1:=by
 rw [Sb]
 unfold Ju
 refine Az h (by omega) (by omega) fun v r1 v0 v1 h1=>?_
 dsimp only
 refine Az h1 (by omega) (by omega) fun w r2 w0 w1 h2=>?_
 dsimp only
 have fin:∀ (n:Nat) (x:Int) (r3:Rd),x=(n:Int)→1≤n→n≤20→Po (k + 3) r3→Am ((A9 (D8 x 0 r3 []) x 0 r3 []).bind fun val=>some ((val.2.1,()),val.1,())) fun q=>(1≤q.1.1.length∧q.1.1.length≤20∧∀ c∈q.1.1,Ari c)∧Po (k + 400) q.2.1:=fun n x r3 hx n1 n2 h3=>by
  subst hx
  refine Am.bind (Aqo n n2 _ 0 (k + 3) r3 [] (by simp only [D8]; omega) (by omega) rfl (fun c hc=>by cases hc) h3 (by omega)) fun q hq=>Am.some ⟨⟨by show 1≤q.2.1.length; omega,by show q.2.1.length≤20; omega,hq.2.2⟩,hq.1.mono (by omega)⟩
 refine Am.cond (fun _=>?_) fun _=>?_
 ·refine Az h2 (by omega) (by omega) fun u r3 u0 u1 h3=>?_
  dsimp only
  exact fin (20 - u).toNat _ r3 (by rw [Al (by omega) (by omega)]; omega) (by omega) (by omega) h3
 ·exact fin (1 + v).toNat _ r2 (by rw [Al (by omega) (by omega)]; omega) (by omega) (by omega) (h2.mono (by omega))
def Py {R:Type} (k:Kt R):=(Mh (Fe 7) (.exit 0) 2 k)
def Uy {R:Type}:Lt R Fe:=(Gc (pat:=Fe) 7 (fun d k=>(m8 d).bind (Py k)) Ky)
theorem Sd:A1 Try.prog R9:=Bc ⟨B3,Ux,trivial⟩
theorem m9 {R:Type}:A7 Try.prog R 60 1 Fe Uy Px:=
 Cu (cfg:=⟨R9,1,60,Fe⟩) 7 [] (fun NX X d=>(u4 Ah) (Ij  NX X) d) (fun m d=>(u4 Ah) (A9 m) d) (fun d=>(u4 Ah) D8 d) Py Sd trivial (fun f NX d=>by simp only [u4,Ac,Ah]; unfold Ij; simp only [nb])
theorem Acm:Cp Try.prog 99 Sc:=
 Bd (pat:=Fe) [Px] Uy Sd ⟨m9,trivial⟩ Try.func99 (de:=fun x=>Ju x.1) (fun x r h=>by have q:Fy x.1=some r:=h; rw [Sb] at q; exact q) fun _=>by kernel_rfl
def Eo (v7:Int) (_:(List Int)×Int×Unit) (_:Int) (_:List Bp) (_:Int) (_:List Int) (_:Int) (_:List Bp) (_:Int) (_:List Int):Nat:=v7.toNat + 1
def Amg:Ji:=⟨[.bx 116 (.pair (.sl (.int .u8)) (.pair tI .unit)),.rd .bool],[none,none],[.rd A4f],[some 4]⟩
def j7:Tb:=tb [(42,Bq),(99,Sc)]
def Iu:Nat→Du×(Nat→Du):=Ix [(21,⟨[.boxSl 4 1 Gu,.boxSl 4 3 tI,.boxSl 5 1 Gu,.boxRow 5 3 3 tI],[(0,.lf (.ptr 0 0)),(4,.lf (.ptr 1 0)),(5,.lf (.ptr 2 0)),(7,.lf (.d tI))],[.box 116 [.d (.pair (.sl (.int .u8)) (.pair tI .unit))],.box 123 [.d tI,.d (.sl Gu),.d tI,.d (.sl tI)],.box 123 [.d tI,.d (.sl Gu),.d tI,.row 3],.row 3 tI]⟩,[(2,⟨[.boxSl 4 1 Gu,.boxSl 4 3 tI,.boxSl 5 1 Gu,.boxRow 5 3 3 tI],[(4,.lf (.ptr 1 0)),(5,.lf (.ptr 2 0))],[.box 116 [.d (.pair (.sl (.int .u8)) (.pair tI .unit))],.box 123 [.d tI,.d (.sl Gu),.d tI,.d (.sl tI)],.box 123 [.d tI,.d (.sl Gu),.d tI,.row 3],.row 3 tI]⟩)])]
def Uz:Code:=(Av (Bl Try.f82)).getD 0 .skip
def H4 {R:Type}  (NX:((Int)×((List Int)×Int×Unit)×(Int)×(List Bp)×(Int)×(List Int)×(Int)×(List Bp)×(Int)×(List Int)×Unit)→Option R) (X2:(((List Int)×Int×Unit)×(Int)×(List Bp)×(Int)×(List Int)×(Int)×(List Bp)×(Int)×(List Int)×Unit)→Option R) (v7:Int) (b0:(List Int)×Int×Unit) (b1_0:Int) (b1_1:List Bp) (b1_2:Int) (b1_3:List Int) (b2_0:Int) (b2_1:List Bp) (b2_2:Int) (r3:List Int):Option R:=
 bif decide (v7 > 0) then ((Aa b0 63).bind fun val=>some ((val.1,()),val.2,())).bind fun val=>((Aa val.2.1 6).bind fun val=>some ((val.1,()),val.2,())).bind fun val_1=>bif decide (0≤val_1.1.1) then bif decide (val_1.1.1 < nI [0,64,64,IntKind.i64.wrap (1 + val.1.1),-1,65].length) then bif decide ((r3.length + [[0,64,64,IntKind.i64.wrap (1 + val.1.1),-1,65].getD (Int.toNat val_1.1.1) 0].length) * 8≤140737488355328) then NX (IntKind.i64.wrap (v7 - 1),val_1.2.1,b1_0,b1_1,b1_2,b1_3,b2_0,b2_1,b2_2,r3++[[0,64,64,IntKind.i64.wrap (1 + val.1.1),-1,65].getD (Int.toNat val_1.1.1) 0],()) else none else none else none else X2 (b0,b1_0,b1_1,b1_2,b1_3,b2_0,b2_1,b2_2,r3,())
def B9:Nat→(Int)→((List Int)×Int×Unit)→(Int)→(List Bp)→(Int)→(List Int)→(Int)→(List Bp)→(Int)→(List Int) →  Option (((List Int)×Int×Unit)×(Int)×(List Bp)×(Int)×(List Int)×(Int)×(List Bp)×(Int)×(List Int)×Unit)
 | 0,_,_,_,_,_,_,_,_,_,_=>none
 | m + 1,v7,b0,b1_0,b1_1,b1_2,b1_3,b2_0,b2_1,b2_2,r3=>H4  (fun d=>B9 m d.1 d.2.1 d.2.2.1 d.2.2.2.1 d.2.2.2.2.1 d.2.2.2.2.2.1 d.2.2.2.2.2.2.1 d.2.2.2.2.2.2.2.1 d.2.2.2.2.2.2.2.2.1 d.2.2.2.2.2.2.2.2.2.1) (fun d=>some (d)) v7 b0 b1_0 b1_1 b1_2 b1_3 b2_0 b2_1 b2_2 r3
def Ak (d:(Int)×((List Int)×Int×Unit)×(Int)×(List Bp)×(Int)×(List Int)×(Int)×(List Bp)×(Int)×(List Int)×Unit):Option (((List Int)×Int×Unit)×(Int)×(List Bp)×(Int)×(List Int)×(Int)×(List Bp)×(Int)×(List Int)×Unit):=(u4 (u4 (Ac (Ac Ah)))) (B9 ((u4 (u4 (Ac (Ac Ah)))) Eo d)) d
def Ng (a0:(List Int)×Int×Unit) (a1:Bool):Option (((m0×Unit)×(((List Int)×Int×Unit)×Unit))):=
 ((Aa a0 20).bind fun val=>some ((val.1,()),val.2,())).bind fun val=>bif !a1 then bif decide (val.1.1 < 16) then ((Aa val.2.1 4).bind fun val=>some ((val.1,()),val.2,())).bind fun val=>bif val.1.1==0 then ((Aa val.2.1 5).bind fun val=>some ((val.1,()),val.2,())).bind fun val=>((Aa val.2.1 4).bind fun val=>some ((val.1,()),val.2,())).bind fun val_1=>bif val_1.1.1==0 then ((Aa val_1.2.1 14).bind fun val=>some ((val.1,()),val.2,())).bind fun val=>((Aa val.2.1 8).bind fun val=>some ((val.1,()),val.2,())).bind fun val_2=>(Ak (val_2.1.1,val_2.2.1,0,[],0,[],1,[],val.1.1,[],())).bind fun val=>some ((val.2.2.2.2.2,()),val.1,()) else ((Aa val_1.2.1 8).bind fun val=>some ((val.1,()),val.2,())).bind fun val_2=>(Ak (val_2.1.1,val_2.2.1,0,[],0,[],1,[],val.1.1,[],())).bind fun val=>some ((val.2.2.2.2.2,()),val.1,()) else ((Aa val.2.1 8).bind fun val=>some ((val.1,()),val.2,())).bind fun val=>(Ak (val.1.1,val.2.1,0,[],0,[],1,[],-1,[],())).bind fun val=>some ((val.2.2.2.2.2,()),val.1,()) else bif decide (val.1.1 < 11) then (Fy val.2.1).bind fun val=>((Aa val.2.1 4).bind fun val=>some ((val.1,()),val.2,())).bind fun val_1=>bif val_1.1.1==0 then ((Aa val_1.2.1 5).bind fun val=>some ((val.1,()),val.2,())).bind fun val_2=>((Aa val_2.2.1 4).bind fun val=>some ((val.1,()),val.2,())).bind fun val_3=>bif val_3.1.1==0 then ((Aa val_3.2.1 14).bind fun val=>some ((val.1,()),val.2,())).bind fun val_4=>((Aa val_4.2.1 8).bind fun val=>some ((val.1,()),val.2,())).bind fun val_5=>(Ak (val_5.1.1,val_5.2.1,0,[],0,[],2,val.1.1,val_4.1.1,[],())).bind fun val=>some ((val.2.2.2.2.2,()),val.1,()) else ((Aa val_3.2.1 8).bind fun val=>some ((val.1,()),val.2,())).bind fun val_4=>(Ak (val_4.1.1,val_4.2.1,0,[],0,[],2,val.1.1,val_2.1.1,[],())).bind fun val=>some ((val.2.2.2.2.2,()),val.1,()) else ((Aa val_1.2.1 8).bind fun val=>some ((val.1,()),val.2,())).bind fun val_2=>(Ak (val_2.1.1,val_2.2.1,0,[],0,[],2,val.1.1,-1,[],())).bind fun val=>some ((val.2.2.2.2.2,()),val.1,()) else bif decide (val.1.1 < 14) then ((Aa val.2.1 4).bind fun val=>some ((val.1,()),val.2,())).bind fun val=>bif val.1.1==0 then ((Aa val.2.1 5).bind fun val=>some ((val.1,()),val.2,())).bind fun val=>((Aa val.2.1 4).bind fun val=>some ((val.1,()),val.2,())).bind fun val_1=>bif val_1.1.1==0 then ((Aa val_1.2.1 14).bind fun val=>some ((val.1,()),val.2,())).bind fun val=>((Aa val.2.1 8).bind fun val=>some ((val.1,()),val.2,())).bind fun val_2=>(Ak (val_2.1.1,val_2.2.1,0,[],0,[],3,[],val.1.1,[],())).bind fun val=>some ((val.2.2.2.2.2,()),val.1,()) else ((Aa val_1.2.1 8).bind fun val=>some ((val.1,()),val.2,())).bind fun val_2=>(Ak (val_2.1.1,val_2.2.1,0,[],0,[],3,[],val.1.1,[],())).bind fun val=>some ((val.2.2.2.2.2,()),val.1,()) else ((Aa val.2.1 8).bind fun val=>some ((val.1,()),val.2,())).bind fun val=>(Ak (val.1.1,val.2.1,0,[],0,[],3,[],-1,[],())).bind fun val=>some ((val.2.2.2.2.2,()),val.1,()) else bif decide (val.1.1 < 17) then ((Aa val.2.1 4).bind fun val=>some ((val.1,()),val.2,())).bind fun val=>bif val.1.1==0 then ((Aa val.2.1 5).bind fun val=>some ((val.1,()),val.2,())).bind fun val=>((Aa val.2.1 4).bind fun val=>some ((val.1,()),val.2,())).bind fun val_1=>bif val_1.1.1==0 then ((Aa val_1.2.1 14).bind fun val=>some ((val.1,()),val.2,())).bind fun val=>((Aa val.2.1 8).bind fun val=>some ((val.1,()),val.2,())).bind fun val_2=>(Ak (val_2.1.1,val_2.2.1,0,[],0,[],4,[],val.1.1,[],())).bind fun val=>some ((val.2.2.2.2.2,()),val.1,()) else ((Aa val_1.2.1 8).bind fun val=>some ((val.1,()),val.2,())).bind fun val_2=>(Ak (val_2.1.1,val_2.2.1,0,[],0,[],4,[],val.1.1,[],())).bind fun val=>some ((val.2.2.2.2.2,()),val.1,()) else ((Aa val.2.1 8).bind fun val=>some ((val.1,()),val.2,())).bind fun val=>(Ak (val.1.1,val.2.1,0,[],0,[],4,[],-1,[],())).bind fun val=>some ((val.2.2.2.2.2,()),val.1,()) else bif decide (val.1.1 < 19) then ((Aa val.2.1 4).bind fun val=>some ((val.1,()),val.2,())).bind fun val=>bif val.1.1==0 then ((Aa val.2.1 5).bind fun val=>some ((val.1,()),val.2,())).bind fun val=>((Aa val.2.1 4).bind fun val=>some ((val.1,()),val.2,())).bind fun val_1=>bif val_1.1.1==0 then ((Aa val_1.2.1 14).bind fun val=>some ((val.1,()),val.2,())).bind fun val=>((Aa val.2.1 8).bind fun val=>some ((val.1,()),val.2,())).bind fun val_2=>(Ak (val_2.1.1,val_2.2.1,0,[],0,[],5,[],val.1.1,[],())).bind fun val=>some ((val.2.2.2.2.2,()),val.1,()) else ((Aa val_1.2.1 8).bind fun val=>some ((val.1,()),val.2,())).bind fun val_2=>(Ak (val_2.1.1,val_2.2.1,0,[],0,[],5,[],val.1.1,[],())).bind fun val=>some ((val.2.2.2.2.2,()),val.1,()) else ((Aa val.2.1 8).bind fun val=>some ((val.1,()),val.2,())).bind fun val=>(Ak (val.1.1,val.2.1,0,[],0,[],5,[],-1,[],())).bind fun val=>some ((val.2.2.2.2.2,()),val.1,()) else ((Aa val.2.1 4).bind fun val=>some ((val.1,()),val.2,())).bind fun val=>bif decide (0≤val.1.1) then bif decide (val.1.1 < nI [1,2,0,6].length) then ((Aa val.2.1 4).bind fun val=>some ((val.1,()),val.2,())).bind fun val_1=>bif val_1.1.1==0 then ((Aa val_1.2.1 5).bind fun val=>some ((val.1,()),val.2,())).bind fun val_2=>((Aa val_2.2.1 4).bind fun val=>some ((val.1,()),val.2,())).bind fun val_3=>bif val_3.1.1==0 then ((Aa val_3.2.1 14).bind fun val=>some ((val.1,()),val.2,())).bind fun val_4=>((Aa val_4.2.1 8).bind fun val=>some ((val.1,()),val.2,())).bind fun val_5=>(Ak (val_5.1.1,val_5.2.1,0,[],0,[],[1,2,0,6].getD (Int.toNat val.1.1) 0,[],val_4.1.1,[],())).bind fun val=>some ((val.2.2.2.2.2,()),val.1,()) else ((Aa val_3.2.1 8).bind fun val=>some ((val.1,()),val.2,())).bind fun val_4=>(Ak (val_4.1.1,val_4.2.1,0,[],0,[],[1,2,0,6].getD (Int.toNat val.1.1) 0,[],val_2.1.1,[],())).bind fun val=>some ((val.2.2.2.2.2,()),val.1,()) else ((Aa val_1.2.1 8).bind fun val=>some ((val.1,()),val.2,())).bind fun val_2=>(Ak (val_2.1.1,val_2.2.1,0,[],0,[],[1,2,0,6].getD (Int.toNat val.1.1) 0,[],-1,[],())).bind fun val=>some ((val.2.2.2.2.2,()),val.1,()) else none else none else bif decide (val.1.1 < 11) then (Fy val.2.1).bind fun val=>((Aa val.2.1 4).bind fun val=>some ((val.1,()),val.2,())).bind fun val_1=>bif val_1.1.1==0 then ((Aa val_1.2.1 5).bind fun val=>some ((val.1,()),val.2,())).bind fun val_2=>((Aa val_2.2.1 4).bind fun val=>some ((val.1,()),val.2,())).bind fun val_3=>bif val_3.1.1==0 then ((Aa val_3.2.1 14).bind fun val=>some ((val.1,()),val.2,())).bind fun val_4=>((Aa val_4.2.1 8).bind fun val=>some ((val.1,()),val.2,())).bind fun val_5=>(Ak (val_5.1.1,val_5.2.1,0,[],0,[],2,val.1.1,val_4.1.1,[],())).bind fun val=>some ((val.2.2.2.2.2,()),val.1,()) else ((Aa val_3.2.1 8).bind fun val=>some ((val.1,()),val.2,())).bind fun val_4=>(Ak (val_4.1.1,val_4.2.1,0,[],0,[],2,val.1.1,val_2.1.1,[],())).bind fun val=>some ((val.2.2.2.2.2,()),val.1,()) else ((Aa val_1.2.1 8).bind fun val=>some ((val.1,()),val.2,())).bind fun val_2=>(Ak (val_2.1.1,val_2.2.1,0,[],0,[],2,val.1.1,-1,[],())).bind fun val=>some ((val.2.2.2.2.2,()),val.1,()) else bif decide (val.1.1 < 14) then ((Aa val.2.1 4).bind fun val=>some ((val.1,()),val.2,())).bind fun val=>bif val.1.1==0 then ((Aa val.2.1 5).bind fun val=>some ((val.1,()),val.2,())).bind fun val=>((Aa val.2.1 4).bind fun val=>some ((val.1,()),val.2,())).bind fun val_1=>bif val_1.1.1==0 then ((Aa val_1.2.1 14).bind fun val=>some ((val.1,()),val.2,())).bind fun val=>((Aa val.2.1 8).bind fun val=>some ((val.1,()),val.2,())).bind fun val_2=>(Ak (val_2.1.1,val_2.2.1,0,[],0,[],3,[],val.1.1,[],())).bind fun val=>some ((val.2.2.2.2.2,()),val.1,()) else ((Aa val_1.2.1 8).bind fun val=>some ((val.1,()),val.2,())).bind fun val_2=>(Ak (val_2.1.1,val_2.2.1,0,[],0,[],3,[],val.1.1,[],())).bind fun val=>some ((val.2.2.2.2.2,()),val.1,()) else ((Aa val.2.1 8).bind fun val=>some ((val.1,()),val.2,())).bind fun val=>(Ak (val.1.1,val.2.1,0,[],0,[],3,[],-1,[],())).bind fun val=>some ((val.2.2.2.2.2,()),val.1,()) else bif decide (val.1.1 < 17) then ((Aa val.2.1 4).bind fun val=>some ((val.1,()),val.2,())).bind fun val=>bif val.1.1==0 then ((Aa val.2.1 5).bind fun val=>some ((val.1,()),val.2,())).bind fun val=>((Aa val.2.1 4).bind fun val=>some ((val.1,()),val.2,())).bind fun val_1=>bif val_1.1.1==0 then ((Aa val_1.2.1 14).bind fun val=>some ((val.1,()),val.2,())).bind fun val=>((Aa val.2.1 8).bind fun val=>some ((val.1,()),val.2,())).bind fun val_2=>(Ak (val_2.1.1,val_2.2.1,0,[],0,[],4,[],val.1.1,[],())).bind fun val=>some ((val.2.2.2.2.2,()),val.1,()) else ((Aa val_1.2.1 8).bind fun val=>some ((val.1,()),val.2,())).bind fun val_2=>(Ak (val_2.1.1,val_2.2.1,0,[],0,[],4,[],val.1.1,[],())).bind fun val=>some ((val.2.2.2.2.2,()),val.1,()) else ((Aa val.2.1 8).bind fun val=>some ((val.1,()),val.2,())).bind fun val=>(Ak (val.1.1,val.2.1,0,[],0,[],4,[],-1,[],())).bind fun val=>some ((val.2.2.2.2.2,()),val.1,()) else bif decide (val.1.1 < 19) then ((Aa val.2.1 4).bind fun val=>some ((val.1,()),val.2,())).bind fun val=>bif val.1.1==0 then ((Aa val.2.1 5).bind fun val=>some ((val.1,()),val.2,())).bind fun val=>((Aa val.2.1 4).bind fun val=>some ((val.1,()),val.2,())).bind fun val_1=>bif val_1.1.1==0 then ((Aa val_1.2.1 14).bind fun val=>some ((val.1,()),val.2,())).bind fun val=>((Aa val.2.1 8).bind fun val=>some ((val.1,()),val.2,())).bind fun val_2=>(Ak (val_2.1.1,val_2.2.1,0,[],0,[],5,[],val.1.1,[],())).bind fun val=>some ((val.2.2.2.2.2,()),val.1,()) else ((Aa val_1.2.1 8).bind fun val=>some ((val.1,()),val.2,())).bind fun val_2=>(Ak (val_2.1.1,val_2.2.1,0,[],0,[],5,[],val.1.1,[],())).bind fun val=>some ((val.2.2.2.2.2,()),val.1,()) else ((Aa val.2.1 8).bind fun val=>some ((val.1,()),val.2,())).bind fun val=>(Ak (val.1.1,val.2.1,0,[],0,[],5,[],-1,[],())).bind fun val=>some ((val.2.2.2.2.2,()),val.1,()) else ((Aa val.2.1 4).bind fun val=>some ((val.1,()),val.2,())).bind fun val=>bif decide (0≤val.1.1) then bif decide (val.1.1 < nI [1,2,0,6].length) then ((Aa val.2.1 4).bind fun val=>some ((val.1,()),val.2,())).bind fun val_1=>bif val_1.1.1==0 then ((Aa val_1.2.1 5).bind fun val=>some ((val.1,()),val.2,())).bind fun val_2=>((Aa val_2.2.1 4).bind fun val=>some ((val.1,()),val.2,())).bind fun val_3=>bif val_3.1.1==0 then ((Aa val_3.2.1 14).bind fun val=>some ((val.1,()),val.2,())).bind fun val_4=>((Aa val_4.2.1 8).bind fun val=>some ((val.1,()),val.2,())).bind fun val_5=>(Ak (val_5.1.1,val_5.2.1,0,[],0,[],[1,2,0,6].getD (Int.toNat val.1.1) 0,[],val_4.1.1,[],())).bind fun val=>some ((val.2.2.2.2.2,()),val.1,()) else ((Aa val_3.2.1 8).bind fun val=>some ((val.1,()),val.2,())).bind fun val_4=>(Ak (val_4.1.1,val_4.2.1,0,[],0,[],[1,2,0,6].getD (Int.toNat val.1.1) 0,[],val_2.1.1,[],())).bind fun val=>some ((val.2.2.2.2.2,()),val.1,()) else ((Aa val_1.2.1 8).bind fun val=>some ((val.1,()),val.2,())).bind fun val_2=>(Ak (val_2.1.1,val_2.2.1,0,[],0,[],[1,2,0,6].getD (Int.toNat val.1.1) 0,[],-1,[],())).bind fun val=>some ((val.2.2.2.2.2,()),val.1,()) else none else none
theorem j8:∃ f,f=@Ng:=⟨_,rfl⟩
def L7:=Classical.choose j8
theorem j9:@L7=@Ng:=Classical.choose_spec j8
def k7:SD:=⟨Amg,fun x=>L7 x.1 x.2.1⟩
theorem A1e (x1:Int) (x2:List Bp) (x3:Int) (x4:List Int) (y1:Int) (y2:List Bp) (y3:Int):∀ (n m K:Nat) (r:Rd) (f:List Int),n < m→f.length + n≤100→Po K r→K + 2 * n < 1000000000000→
  Am (B9 m n r x1 x2 x3 x4 y1 y2 y3 f) fun q=>Po (K + 2 * n) q.1
 | 0,m + 1,K,r,f,_,_,h,_=>by
  simp only [B9,H4]
  exact Am.no (by rfl) (Am.some h)
 | n + 1,m + 1,K,r,f,hm,hf,h,hK=>by
  simp only [B9,H4]
  refine Am.go (Ag (by omega)) ?_
  refine Az h (by omega) (by omega) fun v r1 v0 v1 h1=>?_
  dsimp only
  refine Az h1 (by omega) (by omega) fun u r2 u0 u1 h2=>?_
  dsimp only
  refine Am.go (Ag u0) (Am.go (Ag u1) (Am.go (Ag (by rw [D9]; omega)) ?_))
  rw [show IntKind.i64.wrap (((n + 1:Nat):Int) - 1)=(n:Int) by rw [Al (by omega) (by omega)]; omega]
  refine (A1e x1 x2 x3 x4 y1 y2 y3 n m (K + 1 + 1) r2 _ (by omega) (by rw [Fg,D9]; omega) h2 (by omega)).mono fun q hq=>hq.mono (by omega)
theorem Azl {K:Nat} {r:Rd} (kind:Int) (b:List Bp) (cut:Int) (h:Po K r) (hK:K + 100 < 1000000000000):
  Am (((Aa r 8).bind fun val=>some ((val.1,()),val.2,())).bind fun val=>(B9 (Eo val.1.1 val.2.1 0 [] 0 [] kind b cut []) val.1.1 val.2.1 0 [] 0 [] kind b cut []).bind fun val=>some (((val.2.2.2.2.2,()),val.1,()):((m0×Unit)×(Rd×Unit)))) fun q=>Po (K + 40) q.2.1:=by
 refine Az h (by omega) (by omega) fun v r1 v0 v1 h1=>?_
 dsimp only
 obtain ⟨n,rfl⟩:∃ n:Nat,v=(n:Int):=⟨v.toNat,by omega⟩
 refine Am.bind (A1e 0 [] 0 [] kind b cut n _ (K + 1) r1 [] (by simp only [Eo]; omega) (by simp; omega) h1 (by omega)) fun q hq=>Am.some ?_
 exact hq.mono (by omega)
theorem Akc {K:Nat} {r:Rd} (kind:Int) (b:List Bp) (h:Po K r) (hK:K + 200 < 1000000000000):
  Am (((Aa r 4).bind fun val=>some ((val.1,()),val.2,())).bind fun val_1=>bif val_1.1.1==0 then
   ((Aa val_1.2.1 5).bind fun val=>some ((val.1,()),val.2,())).bind fun val_2=>
    ((Aa val_2.2.1 4).bind fun val=>some ((val.1,()),val.2,())).bind fun val_3=>
     bif val_3.1.1==0 then
      ((Aa val_3.2.1 14).bind fun val=>some ((val.1,()),val.2,())).bind fun val_4=>
       ((Aa val_4.2.1 8).bind fun val=>some ((val.1,()),val.2,())).bind fun val=>(B9 (Eo val.1.1 val.2.1 0 [] 0 [] kind b val_4.1.1 []) val.1.1 val.2.1 0 [] 0 [] kind b val_4.1.1 []).bind fun val=>some (((val.2.2.2.2.2,()),val.1,()):((m0×Unit)×(Rd×Unit)))
     else
      ((Aa val_3.2.1 8).bind fun val=>some ((val.1,()),val.2,())).bind fun val=>(B9 (Eo val.1.1 val.2.1 0 [] 0 [] kind b val_2.1.1 []) val.1.1 val.2.1 0 [] 0 [] kind b val_2.1.1 []).bind fun val=>some (((val.2.2.2.2.2,()),val.1,()):((m0×Unit)×(Rd×Unit)))
   else
    ((Aa val_1.2.1 8).bind fun val=>some ((val.1,()),val.2,())).bind fun val=>(B9 (Eo val.1.1 val.2.1 0 [] 0 [] kind b (-1) []) val.1.1 val.2.1 0 [] 0 [] kind b (-1) []).bind fun val=>some (((val.2.2.2.2.2,()),val.1,()):((m0×Unit)×(Rd×Unit)))) fun q=>Po (K + 50) q.2.1:=by
 refine Az h (by omega) (by omega) fun v r1 v0 v1 h1=>?_
 dsimp only
 refine Am.cond (fun _=>?_) fun _=>(Azl kind b (-1) h1 (by omega)).mono fun q hq=>hq.mono (by omega)
 refine Az h1 (by omega) (by omega) fun c r2 c0 c1 h2=>?_
 dsimp only
 refine Az h2 (by omega) (by omega) fun u r3 u0 u1 h3=>?_
 dsimp only
 refine Am.cond (fun _=>?_) fun _=>(Azl kind b c h3 (by omega)).mono fun q hq=>hq.mono (by omega)
 refine Az h3 (by omega) (by omega) fun z r4 z0 z1 h4=>?_
 dsimp only
 exact (Azl kind b z h4 (by omega)).mono fun q hq=>hq.mono (by omega)
theorem A5h {K:Nat} {r:Rd} (up:Bool) (h:Po K r) (hK:K + 1000 < 1000000000000):Am (L7 r up) fun q=>Po (K + 500) q.2.1:=by
 rw [j9]
 unfold Ng
 refine Az h (by omega) (by omega) fun v r1 v0 v1 h1=>?_
 dsimp only
 refine Am.cond (fun _=>Am.cond (fun _=>(Akc 1 [] h1 (by omega)).mono fun q hq=>hq.mono (by omega)) fun _=>?_) fun _=>?_
 all_goals
  refine Am.cond (fun _=>?_) fun _=>Am.cond (fun _=>(Akc 3 [] h1 (by omega)).mono fun q hq=>hq.mono (by omega)) fun _=>Am.cond (fun _=>(Akc 4 [] h1 (by omega)).mono fun q hq=>hq.mono (by omega)) fun _=>Am.cond (fun _=>(Akc 5 [] h1 (by omega)).mono fun q hq=>hq.mono (by omega)) fun _=>?_
  ·refine Am.bind (A5g h1 (by omega)) fun q hq=>?_
   exact (Akc 2 q.1.1 hq.2 (by omega)).mono fun q hq=>hq.mono (by omega)
  ·refine Az h1 (by omega) (by omega) fun c r2 c0 c1 h2=>?_
   dsimp only
   refine Am.go (Ag c0) (Am.go (Ag c1) ?_)
   exact (Akc _ [] h2 (by omega)).mono fun q hq=>hq.mono (by omega)
def U0 {R:Type} (k:Kt R):=(Mh (Iu 21) (.exit 0) 2 k)
def Aba {R:Type}:Lt R Iu:=(Gc (pat:=Iu) 21 (fun d k=>(Ak d).bind (U0 k)) Ky)
theorem k8:A1 Try.prog j7:=Bc ⟨B3,Acm,trivial⟩
theorem Afk {R:Type}:A7 Try.prog R 71 1 Iu Aba Uz:=
 Cu (cfg:=⟨j7,1,71,Iu⟩) 21 [] (fun NX X d=>(u4 (u4 (Ac (Ac Ah)))) (H4  NX X) d) (fun m d=>(u4 (u4 (Ac (Ac Ah)))) (B9 m) d) (fun d=>(u4 (u4 (Ac (Ac Ah)))) Eo d) U0 k8 trivial (fun f NX d=>by simp only [u4,Ac,Ah]; unfold H4; simp only [nb])
theorem Amh:Cp Try.prog 82 k7:=
 Bd (pat:=Iu) [Uz] Aba k8 ⟨Afk,trivial⟩ Try.func82 (de:=fun x=>Ng x.1 x.2.1) (fun x r h=>by have q:L7 x.1 x.2.1=some r:=h; rw [j9] at q; exact q) fun _=>by kernel_rfl
def Jv (v4:Int) (_:(List Int)×Int×Unit) (_ _:C5):Nat:=v4.toNat + 1
def Ah5:Ji:=⟨[.bx 116 (.pair (.sl (.int .u8)) (.pair tI .unit))],[none],[.rd tI,.own 9 .str,.own 82 Cl,.rd .bool,.rd tI,.rd tI,.rd tI,.rd tI,.rd tI,.rd tI,.rd tI,.rd tI,.rd tI,.rd (.sl B2),.own 30 Ln,.own 9 .str],[some 16]⟩
def Wl:Tb:=tb [(42,Bq),(78,y6),(79,i9),(80,j6),(81,Z6),(82,k7)]
def Gr:Nat→Du×(Nat→Du):=Ix [(6,⟨[.boxSl 2 1 .str,.boxSl 2 2 Cl,.boxSl 2 13 B2,.boxSl 2 14 Ln,.boxSl 2 15 .str,.boxSl 3 1 .str,.boxSl 3 2 Cl,.boxSl 3 13 B2,.boxSl 3 14 Ln,.boxSl 3 15 .str],[(0,.lf (.ptr 0 0)),(2,.lf (.ptr 1 0)),(3,.lf (.ptr 2 0)),(4,.lf (.d tI))],[.box 116 [.d (.pair (.sl (.int .u8)) (.pair tI .unit))],.box 98 [.d Nn],.box 98 [.d Nn]]⟩,[(2,⟨[.boxSl 2 1 .str,.boxSl 2 2 Cl,.boxSl 2 13 B2,.boxSl 2 14 Ln,.boxSl 2 15 .str,.boxSl 3 1 .str,.boxSl 3 2 Cl,.boxSl 3 13 B2,.boxSl 3 14 Ln,.boxSl 3 15 .str],[(0,.lf (.ptr 0 0)),(2,.lf (.ptr 1 0)),(3,.lf (.ptr 2 0))],[.box 116 [.d (.pair (.sl (.int .u8)) (.pair tI .unit))],.box 98 [.d Nn],.box 98 [.d Nn]]⟩)])]
def Se:Code:=(Av (Bl Try.f58)).getD 0 .skip
def G2 {R:Type}  (NX:((Int)×((List Int)×Int×Unit)×C5×C5×Unit)→Option R) (X2:(((List Int)×Int×Unit)×C5×C5×Unit)→Option R) (v4:Int) (b0:(List Int)×Int×Unit) (b1:C5) (b2:C5):Option R:=
 bif decide (v4 > 0) then (L7 b0 b2.2.2.1).bind fun val=>(Kl b2 val.1.1).bind fun val_1=>NX (IntKind.i64.wrap (v4 - 1),val.2.1,b1,val_1.1) else X2 (b0,b1,b2,())
def Dy:Nat→(Int)→((List Int)×Int×Unit)→C5→C5 →  Option (((List Int)×Int×Unit)×C5×C5×Unit)
 | 0,_,_,_,_=>none
 | m + 1,v4,b0,b1,b2=>G2  (fun d=>Dy m d.1 d.2.1 d.2.2.1 d.2.2.2.1) (fun d=>some (d)) v4 b0 b1 b2
def Acn (d:(Int)×((List Int)×Int×Unit)×C5×C5×Unit):Option (((List Int)×Int×Unit)×C5×C5×Unit):=(u4 Ah) (Dy ((u4 Ah) Jv d)) d
def Li (a0:(List Int)×Int×Unit):Option ((((Int)×(List Ab)×(List Wr)×(Bool)×(Int)×(Int)×(Int)×(Int)×(Int)×(Int)×(Int)×(Int)×(Int)×(List Bw)×(List Ki)×(List Ab)×Unit)×(((List Int)×Int×Unit)×Unit))):=
 ((Aa a0 16).bind fun val=>some ((val.1,()),val.2,())).bind fun val=>bif val.1.1==0 then (L5 val.2.1).bind fun val=>(Jm val.1.1).bind fun val_1=>some (val_1.1,val.2) else (L6 val.2.1).bind fun val=>((Aa val.2.1 30).bind fun val=>some ((val.1,()),val.2,())).bind fun val_1=>((fun d=>Dy (Jv d.1 d.2.1 d.2.2.1 d.2.2.2.1) d.1 d.2.1 d.2.2.1 d.2.2.2.1) (val_1.1.1,val_1.2.1,(0,([],[],()),false,(0,0,0,(0,0,0,0,()),0,0,([],()),()),[],[],()),val.1)).bind fun val=>((Aa val.1 4).bind fun val=>some ((val.1,()),val.2,())).bind fun val_2=>bif decide (val_2.1.1 > 0) then (Kl val.2.2.1 (1,[],-1,[],())).bind fun val=>(Jm val.1.1).bind fun val=>some (val.1,val_2.2) else (Jm val.2.2.1).bind fun val=>some (val.1,val_2.2)
theorem Wm:∃ f,f=@Li:=⟨_,rfl⟩
def Ke:=Classical.choose Wm
theorem Wn:@Ke=@Li:=Classical.choose_spec Wm
def Wo:SD:=⟨Ah5,fun x=>Ke x.1⟩
theorem A6x (b1:C5):∀ (n m K:Nat) (r:Rd) (x:C5),n < m→n≤1000→Po K r→K + 600 * n < 1000000000→w9 x→
  Am (Dy m n r b1 x) fun q=>Po (K + 600 * n) q.1∧w9 q.2.2.1:=by
 intro n
 induction n with
 | zero=>
  intro m K r x hm _ h _ hw
  cases m with
  | zero=>omega
  | succ m=>
   simp only [Dy,G2]
   exact Am.no (by rfl) (Am.some ⟨h,hw⟩)
 | succ n ih=>
  intro m K r x hm hn h hK hw
  cases m with
  | zero=>omega
  | succ m=>
   simp only [Dy,G2]
   refine Am.go (Ag (by omega)) ?_
   refine Am.bind (A5h _ h (by omega)) fun q hq=>?_
   refine Am.bind (A1c hw _) fun z hz=>?_
   have hw':w9 z.1.1:=by rw [hz]; exact hw.doI _
   rw [show IntKind.i64.wrap (((n + 1:Nat):Int) - 1)=(n:Int) by rw [Al (by omega) (by omega)]; omega]
   exact (ih m (K + 500) q.2.1 z.1.1 (by omega) (by omega) hq (by omega) hw').mono fun y hy=>⟨hy.1.mono (by omega),hy.2⟩
theorem Azm {K:Nat} {r:Rd} (h:Po K r) (hK:K + 100000 < 1000000000):Am (Ke r) fun q=>w9 (unW q.1)∧Po (K + 20000) q.2.1:=by
 rw [Wn]
 unfold Li
 refine Az h (by omega) (by omega) fun v r1 v0 v1 h1=>?_
 dsimp only
 refine Am.cond (fun _=>?_) fun _=>?_
 ·refine Am.bind (A5d h1 (by omega)) fun q hq=>?_
  refine Am.bind (Au5 hq.1) fun z hz=>Am.some ⟨?_,hq.2.mono (by omega)⟩
  show w9 (unW z.1)
  rw [hz]
  exact hq.1
 ·refine Am.bind (A5f h1 (by omega)) fun q hq=>?_
  refine Az hq.2 (by omega) (by omega) fun u r2 u0 u1 h2=>?_
  dsimp only
  obtain ⟨n,rfl⟩:∃ n:Nat,u=(n:Int):=⟨u.toNat,by omega⟩
  refine Am.bind (A6x _ n _ _ r2 q.1.1 (by simp only [Jv]; omega) (by omega) h2 (by omega) hq.1) fun y hy=>?_
  refine Az hy.1 (by omega) (by omega) fun t r3 t0 t1 h3=>?_
  dsimp only
  refine Am.cond (fun _=>?_) fun _=>?_
  ·refine Am.bind (A1c hy.2 _) fun z hz=>?_
   have hw':w9 z.1.1:=by rw [hz]; exact hy.2.doI _
   refine Am.bind (Au5 hw') fun y hy=>Am.some ⟨?_,h3.mono (by omega)⟩
   show w9 (unW y.1)
   rw [hy]
   exact hw'
  ·refine Am.bind (Au5 hy.2) fun z hz=>Am.some ⟨?_,h3.mono (by omega)⟩
   show w9 (unW z.1)
   rw [hz]
   exact hy.2
def Sf {R:Type} (k:Kt R):=(Mh (Gr 6) (.exit 0) 2 k)
def Y0 {R:Type}:Lt R Gr:=(Gc (pat:=Gr) 6 (fun d k=>(Acn d).bind (Sf k)) Ky)
theorem Wp:A1 Try.prog Wl:=Bc ⟨B3,Apr,Amd,Amf,Ah0,Amh,trivial⟩
theorem Aco {R:Type}:A7 Try.prog R 33 1 Gr Y0 Se:=
 Cu (cfg:=⟨Wl,1,33,Gr⟩) 6 [] (fun NX X d=>(u4 Ah) (G2  NX X) d) (fun m d=>(u4 Ah) (Dy m) d) (fun d=>(u4 Ah) Jv d) Sf Wp trivial (fun f NX d=>by simp only [u4,Ac,Ah]; unfold G2; simp only [nb])
theorem Ah6:Cp Try.prog 58 Wo:=
 Bd (pat:=Gr) [Se] Y0 Wp ⟨Aco,trivial⟩ Try.func58 (de:=fun x=>Li x.1) (fun x r h=>by have q:Ke x.1=some r:=h; rw [Wn] at q; exact q) fun _=>by kernel_rfl
def Kw (v6:Int) (_:(List Int)×Int×Unit) (_:List Ab) (_:List Wr) (_:List Ab) (r6:List Wr):Nat:=v6.toNat - r6.length + 1
def Kx (v7:Int) (_:(List Int)×Int×Unit) (_:List Ab) (_:List Wr) (r5:List Ab) (_:List Wr):Nat:=v7.toNat - r5.length + 1
def Ami:Ji:=⟨[.bx 116 (.pair (.sl (.int .u8)) (.pair tI .unit)),.rd yDk],[none,some 2],[.rd (.sl .str),.own 82 Cl],[some 2]⟩
def Rr:Tb:=tb [(42,Bq),(43,Nc),(47,Ho)]
def Dn:Nat→Du×(Nat→Du):=Ix [(17,⟨[.boxRow 4 0 9 .str,.boxRow 4 1 82 Cl,.boxRow 5 0 9 .str,.boxRow 5 1 82 Cl],[(4,.lf (.ptr 1 0)),(5,.lf (.ptr 2 0)),(6,.lf (.d tI))],[.box 116 [.d (.pair (.sl (.int .u8)) (.pair tI .unit))],.box 41 [.row 3,.row 4],.box 41 [.row 5,.row 6],.row 9 .str,.row 82 Cl,.row 9 .str,.row 82 Cl]⟩,[(3,⟨[.boxRow 4 0 9 .str,.boxRow 4 1 82 Cl,.boxRow 5 0 9 .str,.boxRow 5 1 82 Cl],[(4,.lf (.ptr 1 0)),(5,.lf (.ptr 2 0))],[.box 116 [.d (.pair (.sl (.int .u8)) (.pair tI .unit))],.box 41 [.row 3,.row 4],.box 41 [.row 5,.row 6],.row 9 .str,.row 82 Cl,.row 9 .str,.row 82 Cl]⟩)]),(21,⟨[.boxRow 4 0 9 .str,.boxRow 4 1 82 Cl,.boxRow 5 0 9 .str,.boxRow 5 1 82 Cl],[(4,.lf (.ptr 1 0)),(5,.lf (.ptr 2 0)),(7,.lf (.d tI))],[.box 116 [.d (.pair (.sl (.int .u8)) (.pair tI .unit))],.box 41 [.row 3,.row 4],.box 41 [.row 5,.row 6],.row 9 .str,.row 82 Cl,.row 9 .str,.row 82 Cl]⟩,[(5,⟨[.boxRow 4 0 9 .str,.boxRow 4 1 82 Cl,.boxRow 5 0 9 .str,.boxRow 5 1 82 Cl],[(4,.lf (.ptr 1 0)),(5,.lf (.ptr 2 0))],[.box 116 [.d (.pair (.sl (.int .u8)) (.pair tI .unit))],.box 41 [.row 3,.row 4],.box 41 [.row 5,.row 6],.row 9 .str,.row 82 Cl,.row 9 .str,.row 82 Cl]⟩)])]
def U1:Code:=(Av (Bl Try.f59)).getD 0 .skip
def U2:Code:=(Av (Bl Try.f59)).getD 1 .skip
def H5 {R:Type}  (NX:((Int)×((List Int)×Int×Unit)×(List Ab)×(List Wr)×(List Ab)×(List Wr)×Unit)→Option R) (X5:(((List Int)×Int×Unit)×(List Ab)×(List Wr)×(List Ab)×(List Wr)×Unit)→Option R) (v7:Int) (b0:(List Int)×Int×Unit) (r3:List Ab) (r4:List Wr) (r5:List Ab) (r6:List Wr):Option R:=
 bif decide (nI r5.length < v7) then bif decide ((r5.length + [Cj].length) * 16≤140737488355328) then NX (v7,b0,r3,r4,r5++[Cj],r6,()) else none else X5 (b0,r3,r4,r5,r6,())
def Ep:Nat→(Int)→((List Int)×Int×Unit)→(List Ab)→(List Wr)→(List Ab)→(List Wr) →  Option (((List Int)×Int×Unit)×(List Ab)×(List Wr)×(List Ab)×(List Wr)×Unit)
 | 0,_,_,_,_,_,_=>none
 | m + 1,v7,b0,r3,r4,r5,r6=>H5  (fun d=>Ep m d.1 d.2.1 d.2.2.1 d.2.2.2.1 d.2.2.2.2.1 d.2.2.2.2.2.1) (fun d=>some (d)) v7 b0 r3 r4 r5 r6
def Afl (d:(Int)×((List Int)×Int×Unit)×(List Ab)×(List Wr)×(List Ab)×(List Wr)×Unit):Option (((List Int)×Int×Unit)×(List Ab)×(List Wr)×(List Ab)×(List Wr)×Unit):=(u4 (Ac (Ac Ah))) (Ep ((u4 (Ac (Ac Ah))) Kx d)) d
def H6 {R:Type}  (NX:((Int)×((List Int)×Int×Unit)×(List Ab)×(List Wr)×(List Ab)×(List Wr)×Unit)→Option R) (X3:(((List Int)×Int×Unit)×(List Ab)×(List Wr)×(List Ab)×(List Wr)×Unit)→Option R) (v6:Int) (b0:(List Int)×Int×Unit) (r3:List Ab) (r4:List Wr) (r5:List Ab) (r6:List Wr):Option R:=
 bif decide (nI r6.length < v6) then bif decide ((r6.length + [(3,Cj,())].length) * 24≤140737488355328) then NX (v6,b0,r3,r4,r5,r6++[(3,Cj,())],()) else none else X3 (b0,r3,r4,r5,r6,())
def Er:Nat→(Int)→((List Int)×Int×Unit)→(List Ab)→(List Wr)→(List Ab)→(List Wr) →  Option (((List Int)×Int×Unit)×(List Ab)×(List Wr)×(List Ab)×(List Wr)×Unit)
 | 0,_,_,_,_,_,_=>none
 | m + 1,v6,b0,r3,r4,r5,r6=>H6  (fun d=>Er m d.1 d.2.1 d.2.2.1 d.2.2.2.1 d.2.2.2.2.1 d.2.2.2.2.2.1) (fun d=>some (d)) v6 b0 r3 r4 r5 r6
def Afm (d:(Int)×((List Int)×Int×Unit)×(List Ab)×(List Wr)×(List Ab)×(List Wr)×Unit):Option (((List Int)×Int×Unit)×(List Ab)×(List Wr)×(List Ab)×(List Wr)×Unit):=(u4 (Ac (Ac Ah))) (Er ((u4 (Ac (Ac Ah))) Kw d)) d
def Nh (a0:(List Int)×Int×Unit) (a1:Dk):Option ((Dk×(((List Int)×Int×Unit)×Unit))):=
 ((Cm a1).bind fun val=>some (val,())).bind fun val=>((Aa a0 7).bind fun val=>some ((val.1,()),val.2,())).bind fun val_1=>bif val_1.1.1==0 then bif decide (nI (List.length val.1.1) > 0) then ((Aa val_1.2.1 (nI (List.length val.1.1))).bind fun val=>some ((val.1,()),val.2,())).bind fun val_2=>bif decide (0≤val_2.1.1) then bif decide (val_2.1.1 < nI (List.length val.1.1)) then bif decide (Int.toNat val_2.1.1 < List.length val.1.1) then some ((List.set val.1.1 (Int.toNat val_2.1.1) (ByteArray.mk #[115,104,111,114,116]),val.1.2),val_2.2) else none else none else none else some (val.1,val_1.2) else bif val_1.1.1==1 then ((Aa val_1.2.1 (IntKind.i64.wrap (nI (List.length val.1.1) + 1))).bind fun val=>some ((val.1,()),val.2,())).bind fun val_2=>bif decide (0≤val_2.1.1) then bif decide (val_2.1.1≤nI (List.length val.1.1)) then some ((List.drop (Int.toNat 0) (List.take (Int.toNat val_2.1.1) val.1.1),val.1.2),val_2.2) else none else none else bif val_1.1.1==2 then ((Aa val_1.2.1 3).bind fun val=>some ((val.1,()),val.2,())).bind fun val_2=>bif decide (0≤val_2.1.1) then bif decide (val_2.1.1 < nI [-1,nI (List.length val.1.1),0].length) then bif decide ((List.length val.1.2.1 + [([-1,nI (List.length val.1.1),0].getD (Int.toNat val_2.1.1) 0,Cj,())].length) * 24≤140737488355328) then some ((val.1.1,val.1.2.1++[([-1,nI (List.length val.1.1),0].getD (Int.toNat val_2.1.1) 0,Cj,())],()),val_2.2) else none else none else none else bif val_1.1.1==3 then bif decide ((List.length val.1.2.1 + [(2,ByteArray.mk #[115,104,111,114,116],())].length) * 24≤140737488355328) then some ((val.1.1,val.1.2.1++[(2,ByteArray.mk #[115,104,111,114,116],())],()),val_1.2) else none else bif val_1.1.1==4 then ((Aa val_1.2.1 2).bind fun val=>some ((val.1,()),val.2,())).bind fun val_2=>((fun d=>Er (Kw d.1 d.2.1 d.2.2.1 d.2.2.2.1 d.2.2.2.2.1 d.2.2.2.2.2.1) d.1 d.2.1 d.2.2.1 d.2.2.2.1 d.2.2.2.2.1 d.2.2.2.2.2.1) (IntKind.i64.wrap (300 + val_2.1.1),val_2.2.1,[],[],val.1)).bind fun val=>some (val.2.2.2,val.1,()) else bif val_1.1.1==5 then ((Aa val_1.2.1 2).bind fun val=>some ((val.1,()),val.2,())).bind fun val_2=>((fun d=>Ep (Kx d.1 d.2.1 d.2.2.1 d.2.2.2.1 d.2.2.2.2.1 d.2.2.2.2.2.1) d.1 d.2.1 d.2.2.1 d.2.2.2.1 d.2.2.2.2.1 d.2.2.2.2.2.1) (IntKind.i64.wrap (200 + val_2.1.1),val_2.2.1,[],[],val.1)).bind fun val=>some (val.2.2.2,val.1,()) else bif decide (nI (List.length val.1.1) > 4) then ((Aa val_1.2.1 2).bind fun val=>some ((val.1,()),val.2,())).bind fun val_2=>((Aa val_2.2.1 (nI (List.length val.1.1))).bind fun val=>some ((val.1,()),val.2,())).bind fun val_3=>bif decide (0≤val_3.1.1) then bif decide (val_3.1.1 < nI (List.length val.1.1)) then bif decide (0≤IntKind.i64.wrap (2 + val_2.1.1)) then bif decide (IntKind.i64.wrap (2 + val_2.1.1) < nI (List.length val.1.1)) then bif decide ((IntKind.i64.wrap (2 + val_2.1.1)).toNat < List.length val.1.1) then some ((List.set val.1.1 (IntKind.i64.wrap (2 + val_2.1.1)).toNat (List.getD val.1.1 (Int.toNat val_3.1.1) (Ae)),val.1.2),val_3.2) else none else none else none else none else none else some (val.1,val_1.2)
theorem k9:∃ f,f=@Nh:=⟨_,rfl⟩
def L8:=Classical.choose k9
theorem l3:@L8=@Nh:=Classical.choose_spec k9
def l4:SD:=⟨Ami,fun x=>L8 x.1 x.2.1⟩
theorem A9d (r:Rd) (r3:List Ab) (r4:List Wr) (r5:List Ab) (v:Int) (hv:v≤1000):∀ (k m:Nat) (l:List Wr),v≤(l.length:Int) + k→k < m→l.length + k≤2000001000→
  Am (Er m v r r3 r4 r5 l) fun q=>q.1=r∧q.2.2.2.1=r5∧q.2.2.2.2.1.length≤l.length + k
 | 0,m + 1,l,h,_,_=>by
  simp only [Er,H6]
  exact Am.no (Bh (by simp only [nI]; omega)) (Am.some ⟨rfl,rfl,Nat.le_refl _⟩)
 | k + 1,m + 1,l,h,hm,hl=>by
  simp only [Er,H6]
  refine Am.cond (fun c=>?_) fun _=>Am.some ⟨rfl,rfl,by dsimp only; omega⟩
  have c:=Hm c
  simp only [nI] at c
  refine Am.go (Ag (by simp only [D9]; omega)) ?_
  refine (A9d r r3 r4 r5 v hv k m _ (by rw [Fg,D9]; omega) (by omega) (by rw [Fg,D9]; omega)).mono fun q hq=>⟨hq.1,hq.2.1,?_⟩
  have:=hq.2.2
  rw [Fg,D9] at this
  omega
theorem A9e (r:Rd) (r3:List Ab) (r4 r6:List Wr) (v:Int) (hv:v≤1000):∀ (k m:Nat) (l:List Ab),v≤(l.length:Int) + k→k < m→l.length + k≤2000001000→
  Am (Ep m v r r3 r4 l r6) fun q=>q.1=r∧q.2.2.2.2.1=r6∧q.2.2.2.1.length≤l.length + k
 | 0,m + 1,l,h,_,_=>by
  simp only [Ep,H5]
  exact Am.no (Bh (by simp only [nI]; omega)) (Am.some ⟨rfl,rfl,Nat.le_refl _⟩)
 | k + 1,m + 1,l,h,hm,hl=>by
  simp only [Ep,H5]
  refine Am.cond (fun c=>?_) fun _=>Am.some ⟨rfl,rfl,by dsimp only; omega⟩
  have c:=Hm c
  simp only [nI] at c
  refine Am.go (Ag (by simp only [D9]; omega)) ?_
  refine (A9e r r3 r4 r6 v hv k m _ (by rw [Fg,D9]; omega) (by omega) (by rw [Fg,D9]; omega)).mono fun q hq=>⟨hq.1,hq.2.1,?_⟩
  have:=hq.2.2
  rw [Fg,D9] at this
  omega
theorem A2s {K:Nat} {r:Rd} {d:Dk} (h:Po K r) (hK:K + 100 < 1000000000000) (h1:d.1.length≤1073741824) (h2:d.2.1.length≤1073741824):
  Am (L8 r d) fun q=>(q.1.1.length≤1073751824∧q.1.2.1.length≤1073751824)∧Po (K + 10) q.2.1:=by
 rw [l3]
 unfold Nh
 refine Am.bind (Q:=fun q=>q=(d,())) (Am.bind ⟨_,if_pos ⟨Nat.le_trans h1 (by decide),Nat.le_trans h2 (by decide)⟩,rfl⟩ fun a ha=>Am.some (by rw [ha])) fun q hq=>?_
 subst hq
 refine Az h (by omega) (by omega) fun v r1 v0 v1 g1=>?_
 dsimp only
 have hn:nI d.1.length=(d.1.length:Int):=rfl
 refine Am.cond (fun _=>?_) fun _=>Am.cond (fun _=>?_) fun _=>Am.cond (fun _=>?_) fun _=>Am.cond (fun _=>?_) fun _=>Am.cond (fun _=>?_) fun _=>Am.cond (fun _=>?_) fun _=>?_
 ·refine Am.cond (fun c=>?_) fun _=>Am.some ⟨⟨by dsimp only; omega,by dsimp only; omega⟩,g1.mono (by omega)⟩
  have c:=Hm c
  refine Az g1 (by omega) (by omega) fun u r2 u0 u1 g2=>?_
  dsimp only
  refine Am.go (Ag u0) (Am.go (Ag u1) (Am.go (Ag (by omega)) (Am.some ⟨⟨?_,by dsimp only; omega⟩,g2.mono (by omega)⟩)))
  dsimp only
  rw [List.length_set]
  omega
 ·rw [show IntKind.i64.wrap (nI d.1.length + 1)=nI d.1.length + 1 from Al (by omega) (by omega)]
  refine Az g1 (by omega) (by omega) fun u r2 u0 u1 g2=>?_
  dsimp only
  refine Am.go (Ag u0) (Am.go (Ag (by omega)) (Am.some ⟨⟨?_,by dsimp only; omega⟩,g2.mono (by omega)⟩))
  simp only [List.length_drop,List.length_take]
  omega
 ·refine Az g1 (by omega) (by omega) fun u r2 u0 u1 g2=>?_
  dsimp only
  refine Am.go (Ag u0) (Am.go (Ag u1) (Am.go (Ag (by simp only [D9]; omega)) (Am.some ⟨⟨by dsimp only; omega,by simp only [Fg,D9]; omega⟩,g2.mono (by omega)⟩)))
 ·refine Am.go (Ag (by simp only [D9]; omega)) (Am.some ⟨⟨by dsimp only; omega,by simp only [Fg,D9]; omega⟩,g1.mono (by omega)⟩)
 ·refine Az g1 (by omega) (by omega) fun u r2 u0 u1 g2=>?_
  dsimp only
  rw [show IntKind.i64.wrap (300 + u)=300 + u from Al (by omega) (by omega)]
  refine Am.bind (A9d r2 [] [] d.1 (300 + u) (by omega) ((300 + u).toNat - d.2.1.length) _ d.2.1 (by omega) (by simp only [Kw]; omega) (by omega)) fun q hq=>Am.some ⟨⟨?_,?_⟩,?_⟩
  ·show q.2.2.2.1.length≤_; rw [hq.2.1]; omega
  ·show q.2.2.2.2.1.length≤_; have:=hq.2.2; omega
  ·show Po _ q.1; rw [hq.1]; exact g2.mono (by omega)
 ·refine Az g1 (by omega) (by omega) fun u r2 u0 u1 g2=>?_
  dsimp only
  rw [show IntKind.i64.wrap (200 + u)=200 + u from Al (by omega) (by omega)]
  refine Am.bind (A9e r2 [] [] d.2.1 (200 + u) (by omega) ((200 + u).toNat - d.1.length) _ d.1 (by omega) (by simp only [Kx]; omega) (by omega)) fun q hq=>Am.some ⟨⟨?_,?_⟩,?_⟩
  ·show q.2.2.2.1.length≤_; have:=hq.2.2; omega
  ·show q.2.2.2.2.1.length≤_; rw [hq.2.1]; omega
  ·show Po _ q.1; rw [hq.1]; exact g2.mono (by omega)
 ·refine Am.cond (fun c=>?_) fun _=>Am.some ⟨⟨by dsimp only; omega,by dsimp only; omega⟩,g1.mono (by omega)⟩
  have c:=Hm c
  refine Az g1 (by omega) (by omega) fun u r2 u0 u1 g2=>?_
  dsimp only
  refine Az g2 (by omega) (by omega) fun z r3 z0 z1 g3=>?_
  dsimp only
  rw [show IntKind.i64.wrap (2 + u)=2 + u from Al (by omega) (by omega)]
  refine Am.go (Ag z0) (Am.go (Ag z1) (Am.go (Ag (by omega)) (Am.go (Ag (by omega)) (Am.go (Ag (by omega)) (Am.some ⟨⟨?_,by dsimp only; omega⟩,g3.mono (by omega)⟩)))))
  dsimp only
  rw [List.length_set]
  omega
def U3 {R:Type} (k:Kt R):=(Mh (Dn 17) (.exit 1) 3 k)
def U4 {R:Type} (k:Kt R):=(Mh (Dn 21) (.exit 3) 5 k)
def U5 {R:Type}:Lt R Dn:=(Gc (pat:=Dn) 17 (fun d k=>(Afm d).bind (U3 k)) (Gc (pat:=Dn) 21 (fun d k=>(Afl d).bind (U4 k)) Ky))
theorem Rs:A1 Try.prog Rr:=Bc ⟨B3,Rn,Jz,trivial⟩
theorem Afn {R:Type}:A7 Try.prog R 116 1 Dn U5 U2:=
 Cu (cfg:=⟨Rr,1,116,Dn⟩) 21 [] (fun NX X d=>(u4 (Ac (Ac Ah))) (H5  NX X) d) (fun m d=>(u4 (Ac (Ac Ah))) (Ep m) d) (fun d=>(u4 (Ac (Ac Ah))) Kx d) U4 Rs trivial (fun f NX d=>by simp only [u4,Ac,Ah]; unfold H5; simp only [nb])
theorem Afo {R:Type}:A7 Try.prog R 116 1 Dn U5 U1:=
 Cu (cfg:=⟨Rr,1,116,Dn⟩) 17 [] (fun NX X d=>(u4 (Ac (Ac Ah))) (H6  NX X) d) (fun m d=>(u4 (Ac (Ac Ah))) (Er m) d) (fun d=>(u4 (Ac (Ac Ah))) Kw d) U3 Rs trivial (fun f NX d=>by simp only [u4,Ac,Ah]; unfold H6; simp only [nb])
theorem Amj:Cp Try.prog 59 l4:=
 Bd (pat:=Dn) [U1,U2] U5 Rs ⟨Afo,Afn,trivial⟩ Try.func59 (de:=fun x=>Nh x.1 x.2.1) (fun x r h=>by have q:L8 x.1 x.2.1=some r:=h; rw [l3] at q; exact q) fun _=>by kernel_rfl
def Ar1:Ji:=⟨[.bx 116 (.pair (.sl (.int .u8)) (.pair tI .unit))],[none],[.rd (.sl .str),.own 82 Cl],[some 2]⟩
def Qu (a0:(List Int)×Int×Unit):Option ((Dk×(((List Int)×Int×Unit)×Unit))):=
 (Ke a0).bind fun val=>((Aa val.2.1 8).bind fun val=>some ((val.1,()),val.2,())).bind fun val_1=>bif val_1.1.1==0 then (L8 val_1.2.1 (val.1.2.1,val.1.2.2.1,())).bind fun val=>some val else some ((val.1.2.1,val.1.2.2.1,()),val_1.2)
theorem Adt:∃ f,f=@Qu:=⟨_,rfl⟩
def Pb:=Classical.choose Adt
theorem Adu:@Pb=@Qu:=Classical.choose_spec Adt
def Adv:SD:=⟨Ar1,fun x=>Pb x.1⟩
theorem A6y {K:Nat} {r:Rd} (h:Po K r) (hK:K + 200000 < 1000000000):Am (Pb r) fun q=>(q.1.1.length≤1073751824∧q.1.2.1.length≤1073751824)∧Po (K + 30000) q.2.1:=by
 rw [Adu]
 unfold Qu
 refine Am.bind (Azm h (by omega)) fun x hx=>?_
 obtain ⟨x,r0⟩:=x
 obtain ⟨hw,h0⟩:=hx
 have hw:w9 (unW x):=hw
 have hd:=Ig hw.v
 have d1:x.2.1.length≤200:=hd.n200
 have d2:x.2.2.1.length≤300:=hd.p300
 refine Az h0 (by omega) (by omega) fun v r1 v0 v1 h1=>?_
 dsimp only
 refine Am.cond (fun _=>?_) fun _=>Am.some ⟨⟨by show x.2.1.length≤_; omega,by show x.2.2.1.length≤_; omega⟩,h1.mono (by omega)⟩
 exact Am.bind (A2s h1 (by omega) (by show x.2.1.length≤_; omega) (by show x.2.2.1.length≤_; omega)) fun q hq=>Am.some ⟨hq.1,hq.2.mono (by omega)⟩
theorem Ar2:Cp Try.prog 40 Adv:=
 Bd (pat:=Ge) [] Ky (Bc (l:=[(42,Bq),(58,Wo),(59,l4)]) ⟨B3,Ah6,Amj,trivial⟩) trivial Try.func40 (de:=fun x=>Qu x.1) (fun x r h=>by have q:Pb x.1=some r:=h; rw [Adu] at q; exact q) fun _=>by kernel_rfl
def Ni (v6:Int) (_:(List Int)×Int×Unit) (_:List Wr) (_:List Ab) (_:List D5):Nat:=v6.toNat + 1
def Ar3:Ji:=⟨[.bx 116 (.pair (.sl (.int .u8)) (.pair tI .unit)),.rd (.sl .str),.mu 82 Cl],[none,some 2],[.own 49 Fz],[none]⟩
def Adw:Tb:=tb [(42,Bq),(72,Ou),(73,N2)]
def K9:Nat→Du×(Nat→Du):=Ix [(4,⟨[.row 5 0 49 Fz,.boxSl 3 0 .str],[(0,.lf (.ptr 0 0)),(3,.lf (.ptr 2 0)),(5,.lf (.row 3)),(6,.lf (.d tI))],[.box 116 [.d (.pair (.sl (.int .u8)) (.pair tI .unit))],.row 82 Cl,.box 41 [.d (.sl .str),.row 1],.row 49 Fz]⟩,[(2,⟨[.row 5 0 49 Fz],[(5,.lf (.row 2))],[.box 116 [.d (.pair (.sl (.int .u8)) (.pair tI .unit))],.row 82 Cl,.row 49 Fz]⟩)])]
def l5:Code:=(Av (Bl Try.f41)).getD 0 .skip
def K4 {R:Type}  (NX:((Int)×((List Int)×Int×Unit)×(List Wr)×(List Ab)×(List D5)×Unit)→Option R) (X2:(((List Int)×Int×Unit)×(List Wr)×(List D5)×Unit)→Option R) (v6:Int) (b0:(List Int)×Int×Unit) (r1:List Wr) (b2_0:List Ab) (r3:List D5):Option R:=
 bif decide (v6 > 0) then ((Aa b0 4).bind fun val=>some ((val.1,()),val.2,())).bind fun val=>bif val.1.1==0 then bif decide ((r3.length + [(true,0,Ae,())].length) * 32≤140737488355328) then NX (IntKind.i64.wrap (v6 - 1),val.2.1,r1,b2_0,r3++[(true,0,Ae,())],()) else none else (Ha (ByteArray.mk #[115]) 40).bind fun val_1=>(D4 val.2.1).bind fun val=>bif decide (ByteArray.size val.1.1 + (ByteArray.mk #[116]).size≤9223372036854775807) then (Ha (val.1.1++ByteArray.mk #[116]) 24).bind fun val_2=>bif decide (ByteArray.size val_1.1.1 + ByteArray.size val_2.1.1≤9223372036854775807) then ((Aa val.2.1 (IntKind.i64.wrap (nI b2_0.length + 1))).bind fun val=>some ((val.1,()),val.2,())).bind fun val=>((Aa val.2.1 2).bind fun val=>some ((val.1,()),val.2,())).bind fun val_3=>((Aa val_3.2.1 9).bind fun val=>some ((val.1,()),val.2,())).bind fun val_4=>bif decide (0≤IntKind.i64.wrap (64 - IntKind.i64.wrap (Int.tdiv val_4.1.1 8))) then bif decide (IntKind.i64.wrap (64 - IntKind.i64.wrap (Int.tdiv val_4.1.1 8))≤nI (val_1.1.1++val_2.1.1).size) then bif decide ((r3.length + [(false,IntKind.i64.wrap (val.1.1 - val_3.1.1),Af (val_1.1.1++val_2.1.1) 0 (IntKind.i64.wrap (64 - IntKind.i64.wrap (Int.tdiv val_4.1.1 8))),())].length) * 32≤140737488355328) then NX (IntKind.i64.wrap (v6 - 1),val_4.2.1,r1,b2_0,r3++[(false,IntKind.i64.wrap (val.1.1 - val_3.1.1),Af (val_1.1.1++val_2.1.1) 0 (IntKind.i64.wrap (64 - IntKind.i64.wrap (Int.tdiv val_4.1.1 8))),())],()) else none else none else none else none else none else X2 (b0,r1,r3,())
def Fk:Nat→(Int)→((List Int)×Int×Unit)→(List Wr)→(List Ab)→(List D5) →  Option (((List Int)×Int×Unit)×(List Wr)×(List D5)×Unit)
 | 0,_,_,_,_,_=>none
 | m + 1,v6,b0,r1,b2_0,r3=>K4  (fun d=>Fk m d.1 d.2.1 d.2.2.1 d.2.2.2.1 d.2.2.2.2.1) (fun d=>some (d)) v6 b0 r1 b2_0 r3
def Amk (d:(Int)×((List Int)×Int×Unit)×(List Wr)×(List Ab)×(List D5)×Unit):Option (((List Int)×Int×Unit)×(List Wr)×(List D5)×Unit):=(u4 (Ac Ah)) (Fk ((u4 (Ac Ah)) Ni d)) d
def Qv (a0:(List Int)×Int×Unit) (a1:List Ab) (a2:List Wr):Option ((((List D5)×Unit)×(((List Int)×Int×Unit)×(List Wr)×Unit))):=
 ((Aa a0 8).bind fun val=>some ((val.1,()),val.2,())).bind fun val=>((fun d=>Fk (Ni d.1 d.2.1 d.2.2.1 d.2.2.2.1 d.2.2.2.2.1) d.1 d.2.1 d.2.2.1 d.2.2.2.1 d.2.2.2.2.1) (val.1.1,val.2.1,a2,a1,[],())).bind fun val=>some (val.2.2,val.1,val.2.1,())
theorem Adx:∃ f,f=@Qv:=⟨_,rfl⟩
def Pc:=Classical.choose Adx
theorem Ady:@Pc=@Qv:=Classical.choose_spec Adx
def Adz:SD:=⟨Ar3,fun x=>Pc x.1 x.2.1 x.2.2.1⟩
theorem Axx (b1:List Ab) (b2:List Wr) (hb:b1.length≤2000000000):∀ (n m K:Nat) (r:Rd) (l:List D5),n < m→l.length + n≤100→Po K r→K + 20 * n < 1000000000000→
  Am (Fk m n r b2 b1 l) fun q=>Po (K + 20 * n) q.1∧q.2.2.1.length≤l.length + n∧q.2.1=b2
 | 0,m + 1,K,r,l,_,_,h,_=>by
  simp only [Fk,K4]
  exact Am.no (by rfl) (Am.some ⟨h,by dsimp only; omega,rfl⟩)
 | n + 1,m + 1,K,r,l,hm,hl,h,hK=>by
  simp only [Fk,K4]
  have e0:IntKind.i64.wrap (((n + 1:Nat):Int) - 1)=(n:Int):=by rw [Al (by omega) (by omega)]; omega
  refine Am.go (Ag (by omega)) ?_
  refine Az h (by omega) (by omega) fun v r1 v0 v1 h1=>?_
  dsimp only
  rw [e0]
  have next:∀ (o:D5) (r':Rd),Po (K + 20) r'→Am (Fk m n r' b2 b1 (l++[o])) fun q=>Po (K + 20 * (n + 1)) q.1∧q.2.2.1.length≤l.length + (n + 1)∧q.2.1=b2:=fun o r' h'=>by
   refine (Axx b1 b2 hb n m (K + 20) r' (l++[o]) (by omega) (by rw [Fg,D9]; omega) h' (by omega)).mono fun q hq=>⟨hq.1.mono (by omega),?_,hq.2.2⟩
   have:=hq.2.1
   rw [Fg,D9] at this
   omega
  refine Am.cond (fun _=>Am.go (Ag (by simp only [D9]; omega)) (next _ _ (h1.mono (by omega)))) fun _=>?_
  refine Am.bind (Anf _ 40 (by omega) (by omega) (by decide)) fun q1 hq1=>?_
  refine Am.bind (A1d h1 (by omega)) fun q2 hq2=>?_
  have s1:(ByteArray.mk #[115]).size=1:=rfl
  have s2:(ByteArray.mk #[116]).size=1:=rfl
  have z1:q1.1.1.size=40:=by rw [hq1,s1]; rfl
  refine Am.go (Ag (by have:=hq2.1; omega)) ?_
  refine Am.bind (Anf _ 24 (by omega) (by omega) (by rw [ByteArray.size_append]; have:=hq2.1; omega)) fun q3 hq3=>?_
  have z3:24≤q3.1.1.size∧q3.1.1.size≤101 * 24:=by
   rw [hq3,ByteArray.size_append,s2,show Int.toNat 24=24 from rfl]
   have:=hq2.1
   omega
  refine Am.go (Ag (by omega)) ?_
  rw [show IntKind.i64.wrap (nI b1.length + 1)=nI b1.length + 1 by simp only [nI]; exact Al (by omega) (by omega)]
  refine Az hq2.2 (by omega) (by simp only [nI]; omega) fun a r3 a0 a1 h3=>?_
  dsimp only
  refine Az h3 (by omega) (by omega) fun b r4 b0 b1' h4=>?_
  dsimp only
  refine Az h4 (by omega) (by omega) fun c r5 c0 c1 h5=>?_
  dsimp only
  have ec:IntKind.i64.wrap (64 - IntKind.i64.wrap (Int.tdiv c 8))=64 - c / 8:=by
   rw [Int.tdiv_eq_ediv_of_nonneg c0,Al (n:=c / 8) (by omega) (by omega),Al (by omega) (by omega)]
  rw [ec]
  refine Am.go (Ag (by omega)) (Am.go (Ag (by simp only [nI]; rw [ByteArray.size_append]; omega)) (Am.go (Ag (by simp only [D9]; omega)) (next _ _ (h5.mono (by omega)))))
theorem A6z {K:Nat} {r:Rd} {D:List Ab} {P:List Wr} (h:Po K r) (hK:K + 1000 < 1000000000000) (hd:D.length≤2000000000):Am (Pc r D P) fun q=>q.1.1.length≤8∧Po (K + 200) q.2.1∧q.2.2.1=P:=by
 rw [Ady]
 unfold Qv
 refine Az h (by omega) (by omega) fun v r1 v0 v1 h1=>?_
 dsimp only
 obtain ⟨n,rfl⟩:∃ n:Nat,v=(n:Int):=⟨v.toNat,by omega⟩
 refine Am.bind (Axx D P hd n _ (K + 1) r1 [] (by simp only [Ni]; omega) (by simp; omega) h1 (by omega)) fun q hq=>Am.some ⟨?_,hq.1.mono (by omega),hq.2.2⟩
 have:=hq.2.1
 have e0:([]:List D5).length=0:=rfl
 show q.2.2.1.length≤8
 omega
def l6 {R:Type} (k:Kt R):=(Mh (K9 4) (.exit 0) 2 k)
def Ah7 {R:Type}:Lt R K9:=(Gc (pat:=K9) 4 (fun d k=>(Amk d).bind (l6 k)) Ky)
theorem Ad0:A1 Try.prog Adw:=Bc ⟨B3,Tr,Ux,trivial⟩
theorem Aml {R:Type}:A7 Try.prog R 48 2 K9 Ah7 l5:=
 Cu (cfg:=⟨Adw,2,48,K9⟩) 4 [] (fun NX X d=>(u4 (Ac Ah)) (K4  NX X) d) (fun m d=>(u4 (Ac Ah)) (Fk m) d) (fun d=>(u4 (Ac Ah)) Ni d) l6 Ad0 trivial (fun f NX d=>by simp only [u4,Ac,Ah]; unfold K4; simp only [nb])
theorem Ar4:Cp Try.prog 41 Adz:=
 Bd (pat:=K9) [l5] Ah7 Ad0 ⟨Aml,trivial⟩ Try.func41 (de:=fun x=>Qv x.1 x.2.1 x.2.2.1) (fun x r h=>by have q:Pc x.1 x.2.1 x.2.2.1=some r:=h; rw [Ady] at q; exact q) fun _=>by kernel_rfl
def Abb:Ji:=⟨[.rd (.sl .str),.mu 82 Cl],[some 2],[.rd .bool],[none]⟩
def L9:Tb:=tb [(49,Le)]
def Be:Nat→Du×(Nat→Du):=Ix [(5,⟨[.boxSl 1 0 .str],[(1,.lf (.ptr 1 0)),(3,.lf (.d tI))],[.row 82 Cl,.box 41 [.d (.sl .str),.row 0]]⟩,[(2,⟨[.boxSl 1 0 .str],[(1,.lf (.ptr 1 0))],[.row 82 Cl,.box 41 [.d (.sl .str),.row 0]]⟩),(1,⟨[],[(2,.lf (.d .bool))],[.row 82 Cl]⟩)]),(10,⟨[.boxSl 1 0 .str],[(1,.lf (.ptr 1 0)),(4,.lf (.d tI))],[.row 82 Cl,.box 41 [.d (.sl .str),.row 0]]⟩,[(4,⟨[],[],[.row 82 Cl]⟩),(1,⟨[],[(2,.lf (.d .bool))],[.row 82 Cl]⟩)])]
def Pd:Code:=(Av (Bl Try.f19)).getD 0 .skip
def N8:Code:=(Av (Bl Try.f19)).getD 1 .skip
def Gs (v4:Int) (r0:List Wr) (b1_0:List Ab):Nat:=((r0.length:Int) - v4).toNat + 1
def Et {R:Type}  (NX:((Int)×(List Wr)×(List Ab)×Unit)→Option R) (X4:((List Wr)×Unit)→Option R) (X1:((Bool)×(List Wr)×Unit)→Option R) (v4:Int) (r0:List Wr) (b1_0:List Ab):Option R:=
 bif decide (v4 < nI r0.length) then bif decide (0≤v4) then bif decide (v4 < nI r0.length) then bif decide (0≤v4) then bif decide (v4 < nI r0.length) then bif !Fr (b1_0,r0,()) (r0.getD v4.toNat (0,Ae,())).1 (r0.getD v4.toNat (0,Ae,())).2.1 then X1 (false,r0,()) else NX (IntKind.i64.wrap (v4 + 1),r0,b1_0,()) else none else none else none else none else X4 (r0,())
def Ck:Nat→(Int)→(List Wr)→(List Ab) →  Option (((List Wr)×Unit) ⊕ ((Bool)×(List Wr)×Unit))
 | 0,_,_,_=>none
 | m + 1,v4,r0,b1_0=>Et  (fun d=>Ck m d.1 d.2.1 d.2.2.1) (fun d=>some (.inl (d))) (fun d=>some (.inr (d))) v4 r0 b1_0
def Y1 (d:(Int)×(List Wr)×(List Ab)×Unit):Option (((List Wr)×Unit) ⊕ ((Bool)×(List Wr)×Unit)):=(Ac (Ac (Ac Ah))) (Ck ((Ac (Ac (Ac Ah))) Gs d)) d
def G8 (v3:Int) (r0:List Wr) (b1_0:List Ab):Nat:=((b1_0.length:Int) - v3).toNat + 1
def E6 {R:Type}  (NX:((Int)×(List Wr)×(List Ab)×Unit)→Option R) (X2:((List Wr)×(List Ab)×Unit)→Option R) (X1:((Bool)×(List Wr)×Unit)→Option R) (v3:Int) (r0:List Wr) (b1_0:List Ab):Option R:=
 bif decide (v3 < nI b1_0.length) then bif decide (0≤v3) then bif decide (v3 < nI b1_0.length) then bif nI (ByteArray.size (b1_0.getD v3.toNat (Ae))) != 64 then X1 (false,r0,()) else NX (IntKind.i64.wrap (v3 + 1),r0,b1_0,()) else none else none else X2 (r0,b1_0,())
def Cs:Nat→(Int)→(List Wr)→(List Ab) →  Option (((List Wr)×(List Ab)×Unit) ⊕ ((Bool)×(List Wr)×Unit))
 | 0,_,_,_=>none
 | m + 1,v3,r0,b1_0=>E6  (fun d=>Cs m d.1 d.2.1 d.2.2.1) (fun d=>some (.inl (d))) (fun d=>some (.inr (d))) v3 r0 b1_0
def Z7 (d:(Int)×(List Wr)×(List Ab)×Unit):Option (((List Wr)×(List Ab)×Unit) ⊕ ((Bool)×(List Wr)×Unit)):=(Ac (Ac (Ac Ah))) (Cs ((Ac (Ac (Ac Ah))) G8 d)) d
def Jb (a0:List Ab) (a1:List Wr):Option ((((Bool)×Unit)×((List Wr)×Unit))):=
 bif decide (nI a0.length < 8) then some ((false,()),a1,()) else bif decide (nI a0.length > 200) then some ((false,()),a1,()) else bif decide (nI a1.length > 300) then some ((false,()),a1,()) else ((fun d=>Cs (G8 d.1 d.2.1 d.2.2.1) d.1 d.2.1 d.2.2.1) (0,a1,a0,())).bind fun val=>Eb (fun d=>((fun d=>Ck (Gs d.1 d.2.1 d.2.2.1) d.1 d.2.1 d.2.2.1) (0,d)).bind fun val=>Eb (fun d=>some ((true,()),d)) (fun d=>some ((d.1,()),d.2)) val) (fun d=>some ((d.1,()),d.2)) val
theorem Q5:∃ f,f=@Jb:=⟨_,rfl⟩
def G3:=Classical.choose Q5
theorem Q6:@G3=@Jb:=Classical.choose_spec Q5
def Q7:SD:=⟨Abb,fun x=>G3 x.1 x.2.1⟩
theorem vm5 (D:List Ab) (P:List Wr) (hD:D.length≤200):∀ (k m i:Nat),i + k=D.length→k < m→Am (Cs m i P D) fun q=>q=.inl (P,D,())∨∃ b,q=.inr (b,P,()):=by
 intro k
 induction k with
 | zero=>
  intro m i hi hm
  cases m with
  | zero=>omega
  | succ m=>
   simp only [Cs,E6]
   exact Am.no (Bh (by simp only [nI]; omega)) (Am.some (.inl rfl))
 | succ k ih=>
  intro m i hi hm
  cases m with
  | zero=>omega
  | succ m=>
   simp only [Cs,E6]
   have e1:IntKind.i64.wrap ((i:Int) + 1)=((i + 1:Nat):Int):=wI (by omega)
   have d1:decide ((i:Int) < nI D.length)=true:=Ag (by simp only [nI]; omega)
   refine Am.go d1 (Am.go (Ag (by omega)) (Am.go d1 (Am.cond (fun _=>Am.some (.inr ⟨_,rfl⟩)) fun _=>?_)))
   rw [e1]
   exact ih m (i + 1) (by omega) (by omega)
theorem A9z (D:List Ab) (P:List Wr) (hP:P.length≤300):∀ (k m i:Nat),i + k=P.length→k < m→Am (Ck m i P D) fun q=>q=.inl (P,())∨∃ b,q=.inr (b,P,()):=by
 intro k
 induction k with
 | zero=>
  intro m i hi hm
  cases m with
  | zero=>omega
  | succ m=>
   simp only [Ck,Et]
   exact Am.no (Bh (by simp only [nI]; omega)) (Am.some (.inl rfl))
 | succ k ih=>
  intro m i hi hm
  cases m with
  | zero=>omega
  | succ m=>
   simp only [Ck,Et]
   have e1:IntKind.i64.wrap ((i:Int) + 1)=((i + 1:Nat):Int):=wI (by omega)
   have d1:decide ((i:Int) < nI P.length)=true:=Ag (by simp only [nI]; omega)
   have d2:decide (0≤(i:Int))=true:=Ag (by omega)
   refine Am.go d1 (Am.go d2 (Am.go d1 (Am.go d2 (Am.go d1 (Am.cond (fun _=>Am.some (.inr ⟨_,rfl⟩)) fun _=>?_)))))
   rw [e1]
   exact ih m (i + 1) (by omega) (by omega)
theorem A2t (D:List Ab) (P:List Wr):Am (G3 D P) fun q=>q.2.1=P:=by
 rw [Q6]
 unfold Jb
 refine Am.cond (fun _=>Am.some rfl) fun _=>Am.cond (fun _=>Am.some rfl) fun h2=>Am.cond (fun _=>Am.some rfl) fun h3=>?_
 have h2:¬ (D.length:Int) > 200:=of_decide_eq_false h2
 have h3:¬ (P.length:Int) > 300:=of_decide_eq_false h3
 refine Am.bind (vm5 D P (by omega) D.length _ 0 (by omega) (by simp only [G8,nI]; omega)) fun q hq=>?_
 rcases hq with rfl | ⟨b,rfl⟩
 ·refine Am.bind (A9z D P (by omega) P.length _ 0 (by omega) (by simp only [Gs,nI]; omega)) fun q hq=>?_
  rcases hq with rfl | ⟨b,rfl⟩
  ·exact Am.some rfl
  ·exact Am.some rfl
 ·exact Am.some rfl
def Pf {R:Type} (k:Kt R):=(Eb (Mh (Be 5) (.exit 0) 2 k) (Mh (Be 5) .ret 1 k))
def N9 {R:Type} (k:Kt R):=(Eb (Mh (Be 10) (.exit 2) 4 k) (Mh (Be 10) .ret 1 k))
def My {R:Type}:Lt R Be:=(Gc (pat:=Be) 5 (fun d k=>(Z7 d).bind (Pf k)) (Gc (pat:=Be) 10 (fun d k=>(Y1 d).bind (N9 k)) Ky))
theorem Ma:A1 Try.prog L9:=Bc ⟨Ow,trivial⟩
theorem Y2 {R:Type}:A7 Try.prog R 57 1 Be My N8:=
 Cu (cfg:=⟨L9,1,57,Be⟩) 10 [] (fun NX X d=>(Ac (Ac (Ac Ah))) (Et  NX (fun e=>X (.inl (e))) (fun e=>X (.inr (e)))) d) (fun m d=>(Ac (Ac (Ac Ah))) (Ck m) d) (fun d=>(Ac (Ac (Ac Ah))) Gs d) N9 Ma trivial (fun f NX d=>by simp only [u4,Ac,Ah]; unfold Et; simp only [nb])
theorem Z8 {R:Type}:A7 Try.prog R 57 1 Be My Pd:=
 Cu (cfg:=⟨L9,1,57,Be⟩) 5 [] (fun NX X d=>(Ac (Ac (Ac Ah))) (E6  NX (fun e=>X (.inl (e))) (fun e=>X (.inr (e)))) d) (fun m d=>(Ac (Ac (Ac Ah))) (Cs m) d) (fun d=>(Ac (Ac (Ac Ah))) G8 d) Pf Ma trivial (fun f NX d=>by simp only [u4,Ac,Ah]; unfold E6; simp only [nb])
theorem Abc:Cp Try.prog 19 Q7:=
 Bd (pat:=Be) [Pd,N8] My Ma ⟨Z8,Y2,trivial⟩ Try.func19 (de:=fun x=>Jb x.1 x.2.1) (fun x r h=>by have q:G3 x.1 x.2.1=some r:=h; rw [Q6] at q; exact q) fun _=>by kernel_rfl
def Ik (_:List D5) (v8:Int) (_:List Ab) (_:List Wr) (_:List Int) (_:Int) (_:List Ab) (r:List Wr):Nat:=v8.toNat - r.length + 1
def Acp:Ji:=⟨[.rd (.sl (.int .u8))],[none],[.rd yDk,.rd (.sl Fz),.rd tI],[some 2,none,none]⟩
def Sg:Tb:=tb [(39,x7),(40,Adv),(41,Adz),(42,Bq),(43,Nc),(19,Q7)]
def Ff:Nat→Du×(Nat→Du):=Ix [(7,⟨[.sl 7 0 Fz,.boxSl 2 0 .str,.boxSl 2 1 Cl,.boxSl 5 0 (.int .u8),.boxSl 6 0 .str,.boxRow 6 1 82 Cl],[(2,.lf (.ptr 0 0)),(5,.lf (.ptr 1 0)),(6,.lf (.ptr 2 0)),(7,.lf (.d (.sl Fz))),(8,.lf (.d tI))],[.box 41 [.d (.sl .str),.d (.sl Cl)],.box 116 [.d (.sl (.int .u8)),.d tI],.box 41 [.d (.sl .str),.row 3],.row 82 Cl]⟩,[(2,⟨[.sl 7 0 Fz,.boxSl 2 0 .str,.boxSl 2 1 Cl,.boxSl 5 0 (.int .u8),.boxSl 6 0 .str,.boxRow 6 1 82 Cl],[(2,.lf (.ptr 0 0)),(5,.lf (.ptr 1 0)),(6,.lf (.ptr 2 0)),(7,.lf (.d (.sl Fz)))],[.box 41 [.d (.sl .str),.d (.sl Cl)],.box 116 [.d (.sl (.int .u8)),.d tI],.box 41 [.d (.sl .str),.row 3],.row 82 Cl]⟩)])]
def Pz:Code:=(Av (Bl Try.f15)).getD 0 .skip
def Fm {R:Type}  (NX:((List D5)×(Int)×(List Ab)×(List Wr)×(List Int)×(Int)×(List Ab)×(List Wr)×Unit)→Option R) (X2:((List D5)×(List Ab)×(List Wr)×(List Int)×(Int)×(List Ab)×(List Wr)×Unit)→Option R) (v7:List D5) (v8:Int) (b0_0:List Ab) (b0_1:List Wr) (b1_0:List Int) (b1_1:Int) (b2_0:List Ab) (r3:List Wr):Option R:=
 bif decide (nI r3.length < v8) then bif decide ((r3.length + [(3,Cj,())].length) * 24≤140737488355328) then NX (v7,v8,b0_0,b0_1,b1_0,b1_1,b2_0,r3++[(3,Cj,())],()) else none else X2 (v7,b0_0,b0_1,b1_0,b1_1,b2_0,r3,())
def C3:Nat→(List D5)→(Int)→(List Ab)→(List Wr)→(List Int)→(Int)→(List Ab)→(List Wr) →  Option ((List D5)×(List Ab)×(List Wr)×(List Int)×(Int)×(List Ab)×(List Wr)×Unit)
 | 0,_,_,_,_,_,_,_,_=>none
 | m + 1,v7,v8,b0_0,b0_1,b1_0,b1_1,b2_0,r3=>Fm  (fun d=>C3 m d.1 d.2.1 d.2.2.1 d.2.2.2.1 d.2.2.2.2.1 d.2.2.2.2.2.1 d.2.2.2.2.2.2.1 d.2.2.2.2.2.2.2.1) (fun d=>some (d)) v7 v8 b0_0 b0_1 b1_0 b1_1 b2_0 r3
def n0 (d:(List D5)×(Int)×(List Ab)×(List Wr)×(List Int)×(Int)×(List Ab)×(List Wr)×Unit):Option ((List D5)×(List Ab)×(List Wr)×(List Int)×(Int)×(List Ab)×(List Wr)×Unit):=(u4 (u4 Ah)) (C3 ((u4 (u4 Ah)) Ik d)) d
def Jw (a0:List Int):Option (((Dk×(List D5)×(Int)×Unit)×(Unit))):=
 (M2 a0).bind fun val=>(Pb val.1.1).bind fun val=>(Pc val.2.1 val.1.1 val.1.2.1).bind fun val_1=>((Aa val_1.2.1 12).bind fun val=>some ((val.1,()),val.2,())).bind fun val_2=>bif val_2.1.1==0 then (G3 val.1.1 val_1.2.2.1).bind fun val_3=>bif val_3.1.1 then ((Aa val_2.2.1 2).bind fun val=>some ((val.1,()),val.2,())).bind fun val_4=>((fun d=>C3 (Ik d.1 d.2.1 d.2.2.1 d.2.2.2.1 d.2.2.2.2.1 d.2.2.2.2.2.1 d.2.2.2.2.2.2.1 d.2.2.2.2.2.2.2.1) d.1 d.2.1 d.2.2.1 d.2.2.2.1 d.2.2.2.2.1 d.2.2.2.2.2.1 d.2.2.2.2.2.2.1 d.2.2.2.2.2.2.2.1) (val_1.1.1,IntKind.i64.wrap (300 - val_4.1.1),[],[],val_4.2.1.1,val_4.2.1.2.1,val.1.1,val_3.2)).bind fun val=>((Aa (val.2.2.2.1,val.2.2.2.2.1,()) (IntKind.i64.wrap (nI (List.length val.1) + 3))).bind fun val=>some ((val.1,()),val.2,())).bind fun val_5=>some ((val.2.2.2.2.2,val.1,IntKind.i64.wrap (val_5.1.1 - 1),()),()) else ((Aa val_2.2.1 (IntKind.i64.wrap (nI (List.length val_1.1.1) + 3))).bind fun val=>some ((val.1,()),val.2,())).bind fun val_4=>some (((val.1.1,val_3.2),val_1.1.1,IntKind.i64.wrap (val_4.1.1 - 1),()),()) else ((Aa val_2.2.1 (IntKind.i64.wrap (nI (List.length val_1.1.1) + 3))).bind fun val=>some ((val.1,()),val.2,())).bind fun val_3=>some (((val.1.1,val_1.2.2),val_1.1.1,IntKind.i64.wrap (val_3.1.1 - 1),()),())
theorem Sh:∃ f,f=@Jw:=⟨_,rfl⟩
def H7:=Classical.choose Sh
theorem Si:@H7=@Jw:=Classical.choose_spec Sh
def Sj:SD:=⟨Acp,fun x=>H7 x.1⟩
theorem A1f (o:List D5) (b0:List Ab) (b1:List Wr) (r:List Int) (i:Int) (D:List Ab) (v:Int) (hv:v≤300):∀ (k m:Nat) (P:List Wr),v≤(P.length:Int) + k→k < m→P.length + k≤1100000000→
  Am (C3 m o v b0 b1 r i D P) fun q=>q.1=o∧q.2.2.2.1=r∧q.2.2.2.2.1=i∧q.2.2.2.2.2.1=D∧q.2.2.2.2.2.2.1.length≤P.length + k
 | 0,m + 1,P,h,_,_=>by
  simp only [C3,Fm]
  exact Am.no (Bh (by simp only [nI]; omega)) (Am.some ⟨rfl,rfl,rfl,rfl,Nat.le_refl _⟩)
 | k + 1,m + 1,P,h,hm,hl=>by
  simp only [C3,Fm]
  refine Am.cond (fun c=>?_) fun _=>Am.some ⟨rfl,rfl,rfl,rfl,by dsimp only; omega⟩
  refine Am.go (Ag (by simp only [D9]; omega)) ?_
  refine (A1f o b0 b1 r i D v hv k m _ (by rw [Fg,D9]; omega) (by omega) (by rw [Fg,D9]; omega)).mono fun q hq=>⟨hq.1,hq.2.1,hq.2.2.1,hq.2.2.2.1,?_⟩
  have:=hq.2.2.2.2
  rw [Fg,D9] at this
  omega
theorem Aqp (b:List Int) (h:Ac1 (.sl (.int .u8)) b):Am (H7 b) fun q=>q.1.2.1.length≤8:=by
 rw [Si]
 unfold Jw
 refine Am.bind (A6t b h) fun q hq=>?_
 refine Am.bind (A6y hq (by omega)) fun x hx=>?_
 obtain ⟨⟨x1,x2⟩,h0⟩:=hx
 refine Am.bind (A6z (P:=x.1.2.1) h0 (by omega) (by omega)) fun y hy=>?_
 obtain ⟨y1,h1,y2⟩:=hy
 have hlo:0≤(y.1.1.length:Int)∧(y.1.1.length:Int)≤8:=by omega
 have e3:IntKind.i64.wrap (nI (List.length y.1.1) + 3)=(y.1.1.length:Int) + 3:=by simp only [nI]; exact Al (by omega) (by omega)
 refine Az h1 (by omega) (by omega) fun v r2 v0 v1 h2=>?_
 refine Am.cond (fun _=>?_) fun _=>?_
 ·rw [y2]
  refine Am.bind (A2t x.1.1 x.1.2.1) fun z hz=>?_
  refine Am.cond (fun _=>?_) fun _=>?_
  ·refine Az h2 (by omega) (by omega) fun u r3 u0 u1 h3=>?_
   have ew:IntKind.i64.wrap (300 - u)=300 - u:=Al (by omega) (by omega)
   try dsimp only
   rw [ew,hz]
   have hb:(List.length x.1.2.1)≤1073751824:=x2
   refine Am.bind (A1f y.1.1 [] [] r3.1 r3.2.1 x.1.1 (300 - u) (by omega) ((300 - u).toNat - x.1.2.1.length) _ x.1.2.1 (by omega) (by simp only [Ik]; omega) (by omega)) fun s hs=>?_
   obtain ⟨s1,s2,s3,_,_⟩:=hs
   try dsimp only
   rw [s1,s2,s3,e3]
   exact Az h3 (by omega) (by omega) fun a r4 a0 a1 h4=>Am.some y1
  ·try dsimp only
   rw [e3]
   exact Az h2 (by omega) (by omega) fun a r4 a0 a1 h4=>Am.some y1
 ·try dsimp only
  rw [e3]
  exact Az h2 (by omega) (by omega) fun a r4 a0 a1 h4=>Am.some y1
def P0 {R:Type} (k:Kt R):=(Mh (Ff 7) (.exit 0) 2 k)
def U6 {R:Type}:Lt R Ff:=(Gc (pat:=Ff) 7 (fun d k=>(n0 d).bind (P0 k)) Ky)
theorem Sk:A1 Try.prog Sg:=Bc ⟨Apk,Ar2,Ar4,B3,Rn,Abc,trivial⟩
theorem n5 {R:Type}:A7 Try.prog R 46 0 Ff U6 Pz:=
 Cu (cfg:=⟨Sg,0,46,Ff⟩) 7 [] (fun NX X d=>(u4 (u4 Ah)) (Fm  NX X) d) (fun m d=>(u4 (u4 Ah)) (C3 m) d) (fun d=>(u4 (u4 Ah)) Ik d) P0 Sk trivial (fun f NX d=>by simp only [u4,Ac,Ah]; unfold Fm; simp only [nb])
theorem Acq:Cp Try.prog 15 Sj:=
 Bd (pat:=Ff) [Pz] U6 Sk ⟨n5,trivial⟩ Try.func15 (de:=fun x=>Jw x.1) (fun x r h=>by have q:H7 x.1=some r:=h; rw [Si] at q; exact q) fun _=>by kernel_rfl
def La (v lo hi:Int):Bool:=Di v lo hi
def Azn:Ji:=⟨[.rd tI,.rd tI,.rd tI],[none,none,none],[.rd .bool],[none]⟩
def Z9:SD:=⟨Azn,fun x=>some (((La x.1 x.2.1 x.2.2.1),()),(()))⟩
def Afp (a0 a1 a2:Int):Option ((((Bool)×Unit)×(Unit))):=
 bif decide (a0≥a1) then some ((decide (a0≤a2),()),()) else some ((false,()),())
theorem Azo (a0 a1 a2:Int):Afp a0 a1 a2=some ((La a0 a1 a2,()),()):=by
 unfold Afp La Di
 by_cases h:a0≥a1
 ·have:decide (a1≤a0)=true:=by simpa using h
  simp [h,this]
 ·have:decide (a1≤a0)=false:=by simpa using h
  simp [h,this]
theorem Afq:Cp Try.prog 45 Z9:=
 Bd (pat:=Ge) [] Ky (Bc (l:=[]) trivial) trivial Try.func45 (de:=fun x=>Afp x.1 x.2.1 x.2.2.1) (fun x r h=>(Azo x.1 x.2.1 x.2.2.1).trans h) fun _=>by kernel_rfl
def Ds (d:Dk):Bool:=As d
def Ah8:Ji:=⟨[.rd yDk],[some 2],[.rd .bool],[none]⟩
def Jc:SD:=⟨Ah8,fun x=>some (((Ds x.1),()),(()))⟩
def Ph:Tb:=tb [(45,Z9)]
def B0:Nat→Du×(Nat→Du):=Ix [(5,⟨[.sl 19 0 .str,.boxSl 1 0 .str,.boxSl 1 1 Cl],[(1,.lf (.ptr 0 0)),(19,.lf (.d (.sl .str))),(20,.lf (.d tI)),(21,.lf (.d tI))],[.box 41 [.d (.sl .str),.d (.sl Cl)]]⟩,[(2,⟨[.boxSl 1 0 .str,.boxSl 1 1 Cl],[(1,.lf (.ptr 0 0))],[.box 41 [.d (.sl .str),.d (.sl Cl)]]⟩),(1,⟨[],[(2,.lf (.d .bool))],[]⟩)]),(11,⟨[.sl 30 0 Cl,.boxSl 1 0 .str,.boxSl 1 1 Cl],[(1,.lf (.ptr 0 0)),(30,.lf (.d (.sl Cl))),(31,.lf (.d tI)),(32,.lf (.d tI))],[.box 41 [.d (.sl .str),.d (.sl Cl)]]⟩,[(4,p0),(1,⟨[],[(2,.lf (.d .bool))],[]⟩)])]
def Sm:Code:=(Av (Bl Try.f20)).getD 0 .skip
def Q8:Code:=(Av (Bl Try.f20)).getD 1 .skip
def Dg (v30:List Wr) (v31 v32:Int) (b0_0:List Ab) (b0_1:List Wr):Nat:=(v31 - v32).toNat + 1
def Gb {R:Type}  (NX:((List Wr)×(Int)×(Int)×(List Ab)×(List Wr)×Unit)→Option R) (X4:(Unit)→Option R) (X1:((Bool)×Unit)→Option R) (v30:List Wr) (v31:Int) (v32:Int) (b0_0:List Ab) (b0_1:List Wr):Option R:=
 bif decide (v32 < v31) then bif decide (0≤v32) then bif decide (v32 < nI v30.length) then bif !La (v30.getD v32.toNat (0,Ae,())).1 0 (IntKind.i64.wrap (nI b0_0.length - 1)) then X1 (false,()) else bif nI (ByteArray.size (v30.getD v32.toNat (0,Ae,())).2.1) != 64 then X1 (false,()) else NX (v30,v31,IntKind.i64.wrap (v32 + 1),b0_0,b0_1,()) else none else none else X4 PUnit.unit
def Bo:Nat→(List Wr)→(Int)→(Int)→(List Ab)→(List Wr) →  Option ((Unit) ⊕ ((Bool)×Unit))
 | 0,_,_,_,_,_=>none
 | m + 1,v30,v31,v32,b0_0,b0_1=>Gb  (fun d=>Bo m d.1 d.2.1 d.2.2.1 d.2.2.2.1 d.2.2.2.2.1) (fun d=>some (.inl (d))) (fun d=>some (.inr (d))) v30 v31 v32 b0_0 b0_1
def Abd (d:(List Wr)×(Int)×(Int)×(List Ab)×(List Wr)×Unit):Option ((Unit) ⊕ ((Bool)×Unit)):=(u4 (Ac Ah)) (Bo ((u4 (Ac Ah)) Dg d)) d
def Dz (v19:List Ab) (v20 v21:Int) (b0_0:List Ab) (b0_1:List Wr):Nat:=(v20 - v21).toNat + 1
def G4 {R:Type}  (NX:((List Ab)×(Int)×(Int)×(List Ab)×(List Wr)×Unit)→Option R) (X2:Dk→Option R) (X1:((Bool)×Unit)→Option R) (v19:List Ab) (v20:Int) (v21:Int) (b0_0:List Ab) (b0_1:List Wr):Option R:=
 bif decide (v21 < v20) then bif decide (0≤v21) then bif decide (v21 < nI v19.length) then bif nI (ByteArray.size (v19.getD v21.toNat (Ae))) != 64 then X1 (false,()) else NX (v19,v20,IntKind.i64.wrap (v21 + 1),b0_0,b0_1,()) else none else none else X2 (b0_0,b0_1,())
def Bu:Nat→(List Ab)→(Int)→(Int)→(List Ab)→(List Wr) →  Option (Dk ⊕ ((Bool)×Unit))
 | 0,_,_,_,_,_=>none
 | m + 1,v19,v20,v21,b0_0,b0_1=>G4  (fun d=>Bu m d.1 d.2.1 d.2.2.1 d.2.2.2.1 d.2.2.2.2.1) (fun d=>some (.inl (d))) (fun d=>some (.inr (d))) v19 v20 v21 b0_0 b0_1
def Acr (d:(List Ab)×(Int)×(Int)×(List Ab)×(List Wr)×Unit):Option (Dk ⊕ ((Bool)×Unit)):=(u4 (Ac Ah)) (Bu ((u4 (Ac Ah)) Dz d)) d
def Pi (a0:Dk):Option ((((Bool)×Unit)×(Unit))):=
 bif !La (nI (List.length a0.1)) 8 200 then some ((false,()),()) else bif decide (nI (List.length a0.2.1) > 300) then some ((false,()),()) else ((fun d=>Bu (Dz d.1 d.2.1 d.2.2.1 d.2.2.2.1 d.2.2.2.2.1) d.1 d.2.1 d.2.2.1 d.2.2.2.1 d.2.2.2.2.1) (a0.1,nI (List.length a0.1),0,a0)).bind fun val=>Eb (fun d=>((fun d=>Bo (Dg d.1 d.2.1 d.2.2.1 d.2.2.2.1 d.2.2.2.2.1) d.1 d.2.1 d.2.2.1 d.2.2.2.1 d.2.2.2.2.1) (d.2.1,nI (List.length d.2.1),0,d)).bind fun val=>Eb (fun d=>some ((true,()),())) (fun d=>some (d,())) val) (fun d=>some (d,())) val
theorem Ah9 (a0:Dk):Pi a0=some ((Ds a0,()),()):=by
 unfold Pi Ds As
 have c1:decide (nI a0.2.1.length > 300)=!decide (a0.2.1.length≤300):=Ata _ 300
 rw [c1]
 show (bif !Di (a0.1.length:Int) 8 200 then _ else _)=_
 cases hin:Di (a0.1.length:Int) 8 200 with
 | false=>rfl
 | true=>
  have hlen:a0.1.length≤200:=by have:=Hm (Cq hin).2; omega
  by_cases hp:a0.2.1.length≤300
  ·rw [Ag hp]
   have hL:=Th (n:=a0.1.length) (fun i=>decide ((a0.1.getD i z0).size=64)) (g:=fun m i=>Bu m a0.1 (nI a0.1.length) i a0.1 a0.2.1) (ok:=.inl (a0.1,a0.2.1,())) (bad:=.inr (false,())) (fun m i hi=>by
    show Bu (m + 1) a0.1 (nI a0.1.length) i a0.1 a0.2.1=_
    simp only [Bu,G4]
    have g1:(nI (ByteArray.size (List.getD a0.1 i (Ae))) != 64)=!decide ((a0.1.getD i z0).size=64):=A6e _ 64
    rw [cLt hi,Mv,wI (show i < 4611686018427387904 by omega),Jh,g1]
    cases decide ((a0.1.getD i z0).size=64)<;>rfl) (fun m=>by
    show Bu (m + 1) a0.1 (nI a0.1.length) (a0.1.length:Int) a0.1 a0.2.1=_
    simp only [Bu,G4]
    rw [W3]
    rfl) (Dz a0.1 (nI a0.1.length) 0 a0.1 a0.2.1) 0 (by omega) (by simp [Dz,nI])
   have hL':Bu (Dz a0.1 (nI a0.1.length) 0 a0.1 a0.2.1) a0.1 (nI a0.1.length) 0 a0.1 a0.2.1=_:=hL
   have hM:=Th (n:=a0.2.1.length) (fun i=>Ab8 a0.1.length (a0.2.1.getD i zW)) (g:=fun m i=>Bo m a0.2.1 (nI a0.2.1.length) i a0.1 a0.2.1) (ok:=.inl ()) (bad:=.inr (false,())) (fun m i hi=>by
    show Bo (m + 1) a0.2.1 (nI a0.2.1.length) i a0.1 a0.2.1=_
    simp only [Bo,Gb]
    have g1:(nI (ByteArray.size (List.getD a0.2.1 i (0,Ae,())).2.1) != 64)=!decide ((a0.2.1.getD i zW).2.1.size=64):=A6e _ 64
    have hw:IntKind.i64.wrap (nI a0.1.length - 1)=(a0.1.length:Int) - 1:=Al (by simp only [nI]; omega) (by simp only [nI]; omega)
    rw [cLt hi,Mv,wI (show i < 4611686018427387904 by omega),Jh,g1,hw]
    have g2:La (List.getD a0.2.1 i (0,Ae,())).1 0 ((a0.1.length:Int) - 1)=(decide (0≤(a0.2.1.getD i zW).1)&&decide ((a0.2.1.getD i zW).1 < (a0.1.length:Int))):=by
     show (decide (0≤(a0.2.1.getD i zW).1)&&decide ((a0.2.1.getD i zW).1≤(a0.1.length:Int) - 1))=_
     congr 1
     exact decide_eq_decide.2 (by omega)
    rw [g2]
    unfold Ab8
    cases decide (0≤(a0.2.1.getD i zW).1)<;>cases decide ((a0.2.1.getD i zW).1 < (a0.1.length:Int))<;>cases decide ((a0.2.1.getD i zW).2.1.size=64)<;>rfl) (fun m=>by
    show Bo (m + 1) a0.2.1 (nI a0.2.1.length) (a0.2.1.length:Int) a0.1 a0.2.1=_
    simp only [Bo,Gb]
    rw [W3]
    rfl) (Dg a0.2.1 (nI a0.2.1.length) 0 a0.1 a0.2.1) 0 (by omega) (by simp [Dg,nI])
   have hM':Bo (Dg a0.2.1 (nI a0.2.1.length) 0 a0.1 a0.2.1) a0.2.1 (nI a0.2.1.length) 0 a0.1 a0.2.1=_:=hM
   show (Bu (Dz a0.1 (nI a0.1.length) 0 a0.1 a0.2.1) a0.1 (nI a0.1.length) 0 a0.1 a0.2.1).bind _=_
   rw [hL']
   rw [Nat.sub_zero] at hM' ⊢
   cases (List.range' 0 a0.1.length).all (fun i=>decide ((a0.1.getD i z0).size=64)) with
   | false=>rfl
   | true=>
    show (Bo (Dg a0.2.1 (nI a0.2.1.length) 0 a0.1 a0.2.1) a0.2.1 (nI a0.2.1.length) 0 a0.1 a0.2.1).bind _=_
    rw [hM']
    cases (List.range' 0 a0.2.1.length).all (fun i=>Ab8 a0.1.length (a0.2.1.getD i zW))<;>rfl
  ·rw [Bh hp]
   rfl
def Sn {R:Type} (k:Kt R):=(Eb (Mh (B0 5) (.exit 0) 2 k) (Mh (B0 5) .ret 1 k))
def Q9 {R:Type} (k:Kt R):=(Eb (Mh (B0 11) (.exit 2) 4 k) (Mh (B0 11) .ret 1 k))
def Qn {R:Type}:Lt R B0:=(Gc (pat:=B0) 5 (fun d k=>(Acr d).bind (Sn k)) (Gc (pat:=B0) 11 (fun d k=>(Abd d).bind (Q9 k)) Ky))
theorem Pj:A1 Try.prog Ph:=Bc ⟨Afq,trivial⟩
theorem Abe {R:Type}:A7 Try.prog R 51 0 B0 Qn Q8:=
 Cu (cfg:=⟨Ph,0,51,B0⟩) 11 [] (fun NX X d=>(u4 (Ac Ah)) (Gb  NX (fun e=>X (.inl (e))) (fun e=>X (.inr (e)))) d) (fun m d=>(u4 (Ac Ah)) (Bo m) d) (fun d=>(u4 (Ac Ah)) Dg d) Q9 Pj trivial (fun f NX d=>by simp only [u4,Ac,Ah]; unfold Gb; simp only [nb])
theorem Acs {R:Type}:A7 Try.prog R 51 0 B0 Qn Sm:=
 Cu (cfg:=⟨Ph,0,51,B0⟩) 5 [] (fun NX X d=>(u4 (Ac Ah)) (G4  NX (fun e=>X (.inl (e))) (fun e=>X (.inr (e)))) d) (fun m d=>(u4 (Ac Ah)) (Bu m) d) (fun d=>(u4 (Ac Ah)) Dz d) Sn Pj trivial (fun f NX d=>by simp only [u4,Ac,Ah]; unfold G4; simp only [nb])
theorem Lj:Cp Try.prog 20 Jc:=
 Bd (pat:=B0) [Sm,Q8] Qn Pj ⟨Acs,Abe,trivial⟩ Try.func20 (de:=fun x=>Pi x.1) (fun x r h=>(Ah9 x.1).trans h) fun _=>by kernel_rfl
def K5 (d:Dk):Option Dk:=if d.1.length≤1000∧d.2.1.length≤1000 then some (d.1,d.2.1,()) else none
def Akd:Ji:=⟨[.rd yDk],[some 2],[.own 9 .str,.own 82 Cl],[some 2]⟩
def Y3:SD:=⟨Akd,fun x=>(K5 x.1).bind fun r=>some ((r.1,r.2.1,()),(()))⟩
def Qo (a0:Dk):Option ((Dk×(Unit))):=
 bif decide ((0 + List.length a0.1) * 16≤140737488355328) then bif decide ((0 + List.length a0.2.1) * 24≤140737488355328) then some (([]++a0.1,[]++a0.2.1,()),()) else none else none
theorem Ake (a0:Dk) r (h:K5 a0=some r):Qo a0=some ((r.1,r.2.1,()),(())):=by
 unfold K5 at h
 split at h
 ·rename_i hc
  cases h
  unfold Qo
  rw [Ag (show (0 + a0.1.length) * 16≤140737488355328 by omega),Ag (show (0 + a0.2.1.length) * 24≤140737488355328 by omega)]
  rfl
 ·cases h
theorem Akf:Cp Try.prog 44 Y3:=
 Bd (pat:=Ge) [] Ky (Bc (l:=[]) trivial) trivial Try.func44 (de:=fun x=>Qo x.1) (fun x r h=>Ie (Ake x.1) h) fun _=>by kernel_rfl
def E7 (d:Dk) (ops:List D5) (n:Int):Option Dk:=if ops.length≤1099511627776 then some (Bg d ops n) else none
def Amm:Ji:=⟨[.rd yDk,.rd (.sl Fz),.rd tI],[some 2,none,none],[.own 9 .str,.own 82 Cl],[some 2]⟩
def l7:SD:=⟨Amm,fun x=>(E7 x.1 x.2.1 x.2.2.1).bind fun r=>some ((r.1,r.2.1,()),(()))⟩
def Ru:Tb:=tb [(20,Jc),(44,Y3),(45,Z9)]
def Do:Nat→Du×(Nat→Du):=Ix [(6,⟨[.sl 1 0 Fz,.boxRow 6 0 9 .str,.boxRow 6 1 82 Cl,.boxRow 7 0 9 .str,.boxRow 7 1 82 Cl],[(1,.lf (.d (.sl Fz))),(2,.lf (.d tI)),(6,.lf (.ptr 0 0)),(7,.lf (.ptr 1 0)),(8,.lf (.d tI))],[.box 41 [.row 2,.row 3],.box 41 [.row 4,.row 5],.row 9 .str,.row 82 Cl,.row 9 .str,.row 82 Cl]⟩,[(2,⟨[.boxRow 6 0 9 .str,.boxRow 6 1 82 Cl,.boxRow 7 0 9 .str,.boxRow 7 1 82 Cl],[(6,.lf (.ptr 0 0)),(7,.lf (.ptr 1 0))],[.box 41 [.row 2,.row 3],.box 41 [.row 4,.row 5],.row 9 .str,.row 82 Cl,.row 9 .str,.row 82 Cl]⟩)]),(11,⟨[.sl 1 0 Fz,.sl 36 0 Cl,.boxRow 6 0 9 .str,.boxRow 6 1 82 Cl,.boxRow 7 0 9 .str,.boxSl 7 1 Cl],[(1,.lf (.d (.sl Fz))),(2,.lf (.d tI)),(6,.lf (.ptr 0 0)),(7,.lf (.ptr 1 0)),(8,.lf (.d tI)),(36,.lf (.d (.sl Cl))),(37,.lf (.d tI)),(38,.lf (.d tI))],[.box 41 [.row 2,.row 3],.box 41 [.row 4,.d (.sl Cl)],.row 9 .str,.row 82 Cl,.row 9 .str]⟩,[(4,⟨[.sl 1 0 Fz,.boxRow 6 0 9 .str,.boxRow 6 1 82 Cl,.boxRow 7 0 9 .str,.boxSl 7 1 Cl],[(1,.lf (.d (.sl Fz))),(2,.lf (.d tI)),(6,.lf (.ptr 0 0)),(7,.lf (.ptr 1 0)),(8,.lf (.d tI))],[.box 41 [.row 2,.row 3],.box 41 [.row 4,.d (.sl Cl)],.row 9 .str,.row 82 Cl,.row 9 .str]⟩)])]
def Pk:Code:=(Av (Bl Try.f16)).getD 0 .skip
def U7:Code:=(Av Pk).getD 0 .skip
def H8 (v1:List D5) (v2 v8:Int) (v36:List Wr) (v37 v38:Int) (b1_1:List Wr) (r2:List Ab) (r3:List Wr) (r4:List Ab):Nat:=(v37 - v38).toNat + 1
def H9 {R:Type}  (NX:((List D5)×(Int)×(Int)×(List Wr)×(Int)×(Int)×(List Wr)×(List Ab)×(List Wr)×(List Ab)×Unit)→Option R) (X4:((List D5)×(Int)×(Int)×(List Wr)×(List Ab)×(List Wr)×(List Ab)×Unit)→Option R) (v1:List D5) (v2:Int) (v8:Int) (v36:List Wr) (v37:Int) (v38:Int) (b1_1:List Wr) (r2:List Ab) (r3:List Wr) (r4:List Ab):Option R:=
 bif decide (v38 < v37) then bif decide (0≤v38) then bif decide (v38 < nI v36.length) then bif decide (0≤(v36.getD v38.toNat (0,Ae,())).1) then bif decide ((v36.getD v38.toNat (0,Ae,())).1 < nI r4.length) then bif decide (Int.toNat (v36.getD v38.toNat (0,Ae,())).1 < r4.length) then NX (v1,v2,v8,v36,v37,IntKind.i64.wrap (v38 + 1),b1_1,r2,r3,r4.set (Int.toNat (v36.getD v38.toNat (0,Ae,())).1) (v36.getD v38.toNat (0,Ae,())).2.1,()) else none else none else none else none else none else X4 (v1,v2,v8,b1_1,r2,r3,r4,())
def Ct:Nat→(List D5)→(Int)→(Int)→(List Wr)→(Int)→(Int)→(List Wr)→(List Ab)→(List Wr)→(List Ab) →  Option ((List D5)×(Int)×(Int)×(List Wr)×(List Ab)×(List Wr)×(List Ab)×Unit)
 | 0,_,_,_,_,_,_,_,_,_,_=>none
 | m + 1,v1,v2,v8,v36,v37,v38,b1_1,r2,r3,r4=>H9  (fun d=>Ct m d.1 d.2.1 d.2.2.1 d.2.2.2.1 d.2.2.2.2.1 d.2.2.2.2.2.1 d.2.2.2.2.2.2.1 d.2.2.2.2.2.2.2.1 d.2.2.2.2.2.2.2.2.1 d.2.2.2.2.2.2.2.2.2.1) (fun d=>some (d)) v1 v2 v8 v36 v37 v38 b1_1 r2 r3 r4
def Ia (d:(List D5)×(Int)×(Int)×(List Wr)×(Int)×(Int)×(List Wr)×(List Ab)×(List Wr)×(List Ab)×Unit):Option ((List D5)×(Int)×(Int)×(List Wr)×(List Ab)×(List Wr)×(List Ab)×Unit):=(u4 (u4 (Ac (Ac Ah)))) (Ct ((u4 (u4 (Ac (Ac Ah)))) H8 d)) d
def E8 (v1:List D5) (v2 v8:Int) (r2:List Ab) (r3:List Wr) (r4:List Ab) (r5:List Wr):Nat:=(v2 - v8).toNat + 1
def Jd {R:Type} (LO11:((List D5)×(Int)×(Int)×(List Wr)×(Int)×(Int)×(List Wr)×(List Ab)×(List Wr)×(List Ab)×Unit)→Option ((List D5)×(Int)×(Int)×(List Wr)×(List Ab)×(List Wr)×(List Ab)×Unit)) (NX:((List D5)×(Int)×(Int)×(List Ab)×(List Wr)×(List Ab)×(List Wr)×Unit)→Option R) (X2:((List Ab)×(List Wr)×(List Ab)×(List Wr)×Unit)→Option R) (v1:List D5) (v2 v8:Int) (r2:List Ab) (r3:List Wr) (r4:List Ab) (r5:List Wr):Option R:=
 bif decide (v8 < v2) then bif decide (v8 < nI v1.length) then bif decide (0≤v8) then bif decide (v8 < nI v1.length) then bif (v1.getD v8.toNat (false,0,Ae,())).1 then (LO11 (v1,v2,v8,r5,nI r5.length,0,r5,r2,r3,r4,())).bind fun val=>NX (val.1,val.2.1,IntKind.i64.wrap (val.2.2.1 + 1),val.2.2.2.2.1,val.2.2.2.2.2.1,val.2.2.2.2.2.2.1,[],()) else bif La (v1.getD v8.toNat (false,0,Ae,())).2.1 0 (IntKind.i64.wrap (nI r4.length - 1)) then bif nI (ByteArray.size (v1.getD v8.toNat (false,0,Ae,())).2.2.1)==64 then bif decide (nI r5.length < 300) then bif decide ((r5.length + [(v1.getD v8.toNat (false,0,Ae,())).2].length) * 24≤140737488355328) then NX (v1,v2,IntKind.i64.wrap (v8 + 1),r2,r3,r4,r5++[(v1.getD v8.toNat (false,0,Ae,())).2],()) else none else NX (v1,v2,IntKind.i64.wrap (v8 + 1),r2,r3,r4,r5,()) else NX (v1,v2,IntKind.i64.wrap (v8 + 1),r2,r3,r4,r5,()) else NX (v1,v2,IntKind.i64.wrap (v8 + 1),r2,r3,r4,r5,()) else none else none else X2 (r2,r3,r4,r5,()) else X2 (r2,r3,r4,r5,())
def B1:Nat→(List D5)→(Int)→(Int)→(List Ab)→(List Wr)→(List Ab)→(List Wr) →  Option ((List Ab)×(List Wr)×(List Ab)×(List Wr)×Unit)
 | 0,_,_,_,_,_,_,_=>none
 | m + 1,v1,v2,v8,r2,r3,r4,r5=>Jd Ia (fun d=>B1 m d.1 d.2.1 d.2.2.1 d.2.2.2.1 d.2.2.2.2.1 d.2.2.2.2.2.1 d.2.2.2.2.2.2.1) (fun d=>some (d)) v1 v2 v8 r2 r3 r4 r5
def Aia (d:(List D5)×(Int)×(Int)×(List Ab)×(List Wr)×(List Ab)×(List Wr)×Unit):Option ((List Ab)×(List Wr)×(List Ab)×(List Wr)×Unit):=(u4 (Ac (Ac (Ac Ah)))) (B1 ((u4 (Ac (Ac (Ac Ah)))) E8 d)) d
def Rv (a0:Dk) (a1:List D5) (a2:Int):Option ((Dk×(Unit))):=
 bif !Ds a0 then some (([],[],()),()) else ((K5 a0).bind fun val=>some (val,())).bind fun val=>((fun d=>B1 (E8 d.1 d.2.1 d.2.2.1 d.2.2.2.1 d.2.2.2.2.1 d.2.2.2.2.2.1 d.2.2.2.2.2.2.1) d.1 d.2.1 d.2.2.1 d.2.2.2.1 d.2.2.2.2.1 d.2.2.2.2.2.1 d.2.2.2.2.2.2.1) (a1,a2,0,[],[],val.1)).bind fun val=>some (val.2.2,())
theorem Azp (a1:List D5) (a2 i:Int) (b:List Wr) {sec:List Ab} {ws:List Wr} (hp:ws.length≤300) (hw:∀ i,i < ws.length→0≤(ws.getD i zW).1∧(ws.getD i zW).1 < (sec.length:Int)):
  Ct (H8 a1 a2 i ws (nI ws.length) 0 b [] [] sec) a1 a2 i ws (nI ws.length) 0 b [] [] sec=some (a1,a2,i,b,[],[],Kz sec ws,()):=by
 have hL:=Xr (xs:=ws) zW (fun s:List Ab=>s.length=sec.length) (fun _ w s=>s.set w.1.toNat w.2.1) (g:=fun m i' s=>Ct m a1 a2 i ws (nI ws.length) i' b [] [] s) (ok:=fun s=>(a1,a2,i,b,[],[],s,())) (fun m i' s hi hs=>by
   show Ct (m + 1) a1 a2 i ws (nI ws.length) i' b [] [] s=_
   simp only [Ct,H9]
   obtain ⟨h0,h1⟩:=hw i' hi
   have c1:decide (0≤(List.getD ws i' (0,Ae,())).1)=true:=Ag h0
   have c2:decide ((List.getD ws i' (0,Ae,())).1 < nI s.length)=true:=Ag (by rw [hs]; exact h1)
   have c3:decide (Int.toNat (List.getD ws i' (0,Ae,())).1 < s.length)=true:=Ag (by
    rw [hs]
    have:(ws.getD i' zW).1.toNat < sec.length:=by
     have h0:0≤(ws.getD i' zW).1:=h0
     have h1:(ws.getD i' zW).1 < (sec.length:Int):=h1
     omega
    exact this)
   rw [cLt hi,Mv,wI (show i' < 4611686018427387904 by omega),Jh,c1,c2,c3]
   rfl) (fun i s hi hs=>by rw [List.length_set]; exact hs) (fun m s hs=>by
   show Ct (m + 1) a1 a2 i ws (nI ws.length) (ws.length:Int) b [] [] s=_
   simp only [Ct,H9]
   rw [W3]
   rfl) (H8 a1 a2 i ws (nI ws.length) 0 b [] [] sec) 0 sec (by omega) (by simp [H8,nI]) rfl
 exact hL
theorem Amn (a0:Dk) (a1:List D5) (a2:Int) r (h:E7 a0 a1 a2=some r):Rv a0 a1 a2=some ((r.1,r.2.1,()),(())):=by
 unfold E7 at h
 split at h
 rotate_left
 ·cases h
 rename_i hlen
 cases h
 unfold Rv Bg
 show (bif !As a0 then _ else _)=_
 cases hv:As a0 with
 | false=>rfl
 | true=>
  have hok:=Ig hv
  have e1:K5 (a0.1,a0.2.1,())=some (a0.1,a0.2.1,()):=if_pos ⟨Nat.le_trans hok.n200 (by decide),Nat.le_trans hok.p300 (by decide)⟩
  have hxl:(a1.take a2.toNat).length=min a2.toNat a1.length:=List.length_take
  have hL:=Jl (xs:=a1.take a2.toNat) zOp (fun _ d=>Fq d) (fun _ o d=>opS d o) (g:=fun m i d=>B1 m a1 a2 i [] [] d.1 d.2.1) (ok:=fun d:Dk=>([],[],d.1,d.2.1,())) (fun m i d hi hI=>by
   show B1 (m + 1) a1 a2 i [] [] d.1 d.2.1=_
   simp only [B1,Jd,Ia,u4,Ac,Ah]
   rw [hxl] at hi
   have hi1:i < a1.length:=by omega
   have hi2:decide ((i:Int) < a2)=true:=Ag (by omega)
   have hg:(a1.take a2.toNat).getD i zOp=List.getD a1 i (false,0,Ae,()):=by
    rw [List.getD_eq_getElem?_getD,List.getElem?_take,if_pos (by omega),← List.getD_eq_getElem?_getD]
    rfl
   rw [hg,hi2,cLt hi1,Mv,wI (show i < 4611686018427387904 by omega),Jh]
   simp only [cond_true]
   generalize List.getD a1 i (false,0,Ae,())=o
   unfold opS
   cases ho:o.1 with
   | true=>
    simp only [cond_true]
    rw [Azp a1 a2 i d.2.1 hI.p300 (fun k hk=>⟨(hI.pen k hk).1,(hI.pen k hk).2.1⟩)]
    simp only [Option.bind_some]
    rw [wI (show i < 4611686018427387904 by omega)]
    rfl
   | false=>
    simp only [cond_false]
    have hn:=hI.n8
    have hn2:=hI.n200
    have hp:=hI.p300
    have e2:La o.2.1 0 (IntKind.i64.wrap (nI d.1.length - 1))=(decide (0≤o.2.1)&&decide (o.2.1 < (d.1.length:Int))):=by
     rw [Al (by simp only [nI]; omega) (by simp only [nI]; omega)]
     show (decide (0≤o.2.1)&&decide (o.2.1≤nI d.1.length - 1))=_
     congr 1
     exact decide_eq_decide.2 (by simp only [nI]; omega)
    have e3:(nI (ByteArray.size o.2.2.1)==64)=decide (o.2.2.1.size=64):=by
     by_cases q:o.2.2.1.size=64
     ·rw [q]; rfl
     ·rw [Bh q]
      exact beq_eq_false_iff_ne.2 (by simp only [nI]; omega)
    have e4:decide (nI d.2.1.length < 300)=decide (d.2.1.length < 300):=decide_eq_decide.2 (by simp only [nI]; omega)
    have e5:decide ((d.2.1.length + 1) * 24≤140737488355328)=true:=Ag (by omega)
    simp only [D9,e2,e3,e4,e5]
    show _=B1 m a1 a2 _ [] [] (bif (decide (0≤o.2.1)&&(decide (o.2.1 < (d.1.length:Int))&&decide (o.2.2.1.size=64)))&&decide (d.2.1.length < 300) then (d.1,d.2.1++[(o.2.1,o.2.2.1,())],()) else d).1 (bif (decide (0≤o.2.1)&&(decide (o.2.1 < (d.1.length:Int))&&decide (o.2.2.1.size=64)))&&decide (d.2.1.length < 300) then (d.1,d.2.1++[(o.2.1,o.2.2.1,())],()) else d).2.1
    cases decide (0≤o.2.1)<;>cases decide (o.2.1 < (d.1.length:Int))<;>cases decide (o.2.2.1.size=64)<;>cases decide (d.2.1.length < 300)<;>rfl) (fun i d hi hI=>hI.op _) (fun m d hI=>by
   show B1 (m + 1) a1 a2 (((a1.take a2.toNat).length:Nat):Int) [] [] d.1 d.2.1=_
   simp only [B1,Jd,Ia,u4,Ac,Ah]
   rw [hxl]
   by_cases q:((min a2.toNat a1.length:Nat):Int) < a2
   ·rw [Ag q,Bh (show ¬ ((min a2.toNat a1.length:Nat):Int) < nI a1.length by simp only [nI]; omega)]
    rfl
   ·rw [Bh q]
    rfl) (E8 a1 a2 0 [] [] a0.1 a0.2.1) 0 a0 (by omega) (by rw [hxl]; simp only [E8,nI]; omega) hok
  have hL':B1 (E8 a1 a2 0 [] [] a0.1 a0.2.1) a1 a2 0 [] [] a0.1 a0.2.1=_:=hL
  simp only [Bool.not_true,cond_false]
  rw [e1]
  show (B1 (E8 a1 a2 0 [] [] a0.1 a0.2.1) a1 a2 0 [] [] a0.1 a0.2.1).bind _=_
  rw [hL',List.drop_zero]
  have hf:∀ (l:List D5) (i:Nat) (d:Dk),F5 (fun _ o d=>opS d o) i l d=l.foldl opS d:=fun l=>by
   induction l with
   | nil=>intro i d; rfl
   | cons o r ih=>intro i d; exact ih _ _
  rw [hf]
  rfl
def Wq {R:Type} (k:Kt R):=(Mh (Do 6) (.exit 0) 2 k)
def U8 {R:Type} (k:Kt R):=(Mh (Do 11) (.exit 2) 4 k)
def U9 {R:Type}:Lt R Do:=(Gc (pat:=Do) 6 (fun d k=>(Aia d).bind (Wq k)) (Gc (pat:=Do) 11 (fun d k=>(Ia d).bind (U8 k)) Ky))
theorem Rw:A1 Try.prog Ru:=Bc ⟨Lj,Akf,Afq,trivial⟩
theorem Afr {R:Type}:A7 Try.prog R 81 0 Do U9 U7:=
 Cu (cfg:=⟨Ru,0,81,Do⟩) 11 [] (fun NX X d=>(u4 (u4 (Ac (Ac Ah)))) (H9  NX X) d) (fun m d=>(u4 (u4 (Ac (Ac Ah)))) (Ct m) d) (fun d=>(u4 (u4 (Ac (Ac Ah)))) H8 d) U8 Rw trivial (fun f NX d=>by simp only [u4,Ac,Ah]; unfold H9; simp only [nb])
theorem Aib {R:Type}:A7 Try.prog R 81 0 Do U9 Pk:=
 Cu (cfg:=⟨Ru,0,81,Do⟩) 6 [U7] (fun NX X d=>(u4 (Ac (Ac (Ac Ah)))) (Jd Ia NX X) d) (fun m d=>(u4 (Ac (Ac (Ac Ah)))) (B1 m) d) (fun d=>(u4 (Ac (Ac (Ac Ah)))) E8 d) Wq Rw ⟨Afr,trivial⟩ (fun f NX d=>by simp only [u4,Ac,Ah]; unfold Jd; simp only [nb])
theorem Amo:Cp Try.prog 16 l7:=
 Bd (pat:=Do) [Pk] U9 Rw ⟨Aib,trivial⟩ Try.func16 (de:=fun x=>Rv x.1 x.2.1 x.2.2.1) (fun x r h=>Ie (Amn x.1 x.2.1 x.2.2.1) h) fun _=>by kernel_rfl
def Lb (a b:List Ab):Option Bool:=if a.length≤1073741824 then some (eqL eqS a b) else none
def Aqq:Ji:=⟨[.rd (.sl .str),.rd (.sl .str)],[none,none],[.rd .bool],[none]⟩
def Abf:SD:=⟨Aqq,fun x=>(Lb x.1 x.2.1).bind fun r=>some ((r,()),(()))⟩
def Abg:Tb:=tb []
def Ib:Nat→Du×(Nat→Du):=Ix [(5,⟨[.sl 0 0 .str,.sl 1 0 .str],[(0,.lf (.d (.sl .str))),(1,.lf (.d (.sl .str))),(5,.lf (.d tI))],[]⟩,[(2,p0),(1,⟨[],[(4,.lf (.d .bool))],[]⟩)])]
def Y4:Code:=(Av (Bl Try.f46)).getD 0 .skip
def Kf (v0 v1:List Ab) (v5:Int):Nat:=((v0.length:Int) - v5).toNat + 1
def Kg {R:Type}  (NX:((List Ab)×(List Ab)×(Int)×Unit)→Option R) (X2:(Unit)→Option R) (X1:((Bool)×Unit)→Option R) (v0:List Ab) (v1:List Ab) (v5:Int):Option R:=
 bif decide (v5 < nI v0.length) then bif decide (0≤v5) then bif decide (v5 < nI v0.length) then bif decide (0≤v5) then bif decide (v5 < nI v1.length) then bif !ByteArray.toList (v0.getD v5.toNat (Ae))==ByteArray.toList (v1.getD v5.toNat (Ae)) then X1 (false,()) else NX (v0,v1,IntKind.i64.wrap (v5 + 1),()) else none else none else none else none else X2 PUnit.unit
def Dt:Nat→(List Ab)→(List Ab)→(Int) →  Option ((Unit) ⊕ ((Bool)×Unit))
 | 0,_,_,_=>none
 | m + 1,v0,v1,v5=>Kg  (fun d=>Dt m d.1 d.2.1 d.2.2.1) (fun d=>some (.inl (d))) (fun d=>some (.inr (d))) v0 v1 v5
def Akg (d:(List Ab)×(List Ab)×(Int)×Unit):Option ((Unit) ⊕ ((Bool)×Unit)):=(Ac (Ac (Ac Ah))) (Dt ((Ac (Ac (Ac Ah))) Kf d)) d
def Va (a0 a1:List Ab):Option ((((Bool)×Unit)×(Unit))):=
 bif nI a0.length != nI a1.length then some ((false,()),()) else ((fun d=>Dt (Kf d.1 d.2.1 d.2.2.1) d.1 d.2.1 d.2.2.1) (a0,a1,0,())).bind fun val=>Eb (fun d=>some ((true,()),())) (fun d=>some (d,())) val
theorem Aqr (a0 a1:List Ab) r (h:Lb a0 a1=some r):Va a0 a1=some ((r,()),(())):=by
 unfold Lb at h
 split at h
 rotate_left
 ·cases h
 rename_i hlen
 cases h
 unfold Va
 by_cases hl:a1.length=a0.length
 ·have c1:(nI a0.length != nI a1.length)=false:=by simp [nI,hl]
  rw [c1]
  have hL:=A0n (xs:=a0) (ys:=a1) z0 eqS (g:=fun m i=>Dt m a0 a1 i) (ok:=.inl ()) (bad:=.inr (false,())) hl (fun m i hi=>by
   show Dt (m + 1) a0 a1 i=_
   simp only [Dt,Kg]
   rw [cLt hi,Mv,cLt (show i < a1.length by omega),wI (by omega)]
   simp only [cond_true,Jh]
   show (bif !(eqS (a0.getD i z0) (a1.getD i z0)) then _ else _)=bif eqS (a0.getD i z0) (a1.getD i z0) then _ else _
   cases eqS (a0.getD i z0) (a1.getD i z0)<;>rfl) (fun m=>by
   show Dt (m + 1) a0 a1 (a0.length:Int)=_
   simp only [Dt,Kg]
   rw [W3]
   rfl) (Kf a0 a1 0) 0 (by omega) (by simp [Kf,nI])
  refine Aev hL ?_
  rw [List.drop_zero,List.drop_zero]
  cases eqL eqS a0 a1<;>rfl
 ·have c1:(nI a0.length != nI a1.length)=true:=by simp [nI]; omega
  rw [c1,show eqL eqS a0 a1=false from A0m fun q=>hl q.symm]
  rfl
def Y5 {R:Type} (k:Kt R):=(Eb (Mh (Ib 5) (.exit 0) 2 k) (Mh (Ib 5) .ret 1 k))
def Ad1 {R:Type}:Lt R Ib:=(Gc (pat:=Ib) 5 (fun d k=>(Akg d).bind (Y5 k)) Ky)
theorem Abh:A1 Try.prog Abg:=Bc trivial
theorem Akh {R:Type}:A7 Try.prog R 26 0 Ib Ad1 Y4:=
 Cu (cfg:=⟨Abg,0,26,Ib⟩) 5 [] (fun NX X d=>(Ac (Ac (Ac Ah))) (Kg  NX (fun e=>X (.inl (e))) (fun e=>X (.inr (e)))) d) (fun m d=>(Ac (Ac (Ac Ah))) (Dt m) d) (fun d=>(Ac (Ac (Ac Ah))) Kf d) Y5 Abh trivial (fun f NX d=>by simp only [u4,Ac,Ah]; unfold Kg; simp only [nb])
theorem Aqs:Cp Try.prog 46 Abf:=
 Bd (pat:=Ib) [Y4] Ad1 Abh ⟨Akh,trivial⟩ Try.func46 (de:=fun x=>Va x.1 x.2.1) (fun x r h=>Ie (Aqr x.1 x.2.1) h) fun _=>by kernel_rfl
def Ar5:Ji:=⟨[.rd yDk,.rd yDk],[some 2,some 2],[.rd .bool],[none]⟩
def Ad2:Tb:=tb [(46,Abf)]
def Jp:Nat→Du×(Nat→Du):=Ix [(5,⟨[.boxSl 2 0 .str,.boxSl 2 1 Cl,.boxSl 3 0 .str,.boxSl 3 1 Cl],[(2,.lf (.ptr 0 0)),(3,.lf (.ptr 1 0)),(5,.lf (.d tI))],[.box 41 [.d yDk],.box 41 [.d yDk]]⟩,[(2,p0),(1,⟨[],[(4,.lf (.d .bool))],[]⟩)])]
def l8:Code:=(Av (Bl Try.f17)).getD 0 .skip
def Nj (v5:Int) (b0 b1:Dk):Nat:=((List.length b0.2.1:Int) - v5).toNat + 1
def K6 {R:Type}  (NX:((Int)×Dk×Dk×Unit)→Option R) (X2:(Unit)→Option R) (X1:((Bool)×Unit)→Option R) (v5:Int) (b0:Dk) (b1:Dk):Option R:=
 bif decide (v5 < nI (List.length b0.2.1)) then bif decide (0≤v5) then bif decide (v5 < nI (List.length b0.2.1)) then bif decide (0≤v5) then bif decide (v5 < nI (List.length b1.2.1)) then bif !((List.getD b0.2.1 v5.toNat (0,Ae,())).1==(List.getD b1.2.1 v5.toNat (0,Ae,())).1&&(ByteArray.toList (List.getD b0.2.1 v5.toNat (0,Ae,())).2.1==ByteArray.toList (List.getD b1.2.1 v5.toNat (0,Ae,())).2.1&&true)) then X1 (false,()) else NX (IntKind.i64.wrap (v5 + 1),b0,b1,()) else none else none else none else none else X2 PUnit.unit
def Gw:Nat→(Int)→Dk→Dk →  Option ((Unit) ⊕ ((Bool)×Unit))
 | 0,_,_,_=>none
 | m + 1,v5,b0,b1=>K6  (fun d=>Gw m d.1 d.2.1 d.2.2.1) (fun d=>some (.inl (d))) (fun d=>some (.inr (d))) v5 b0 b1
def Amp (d:(Int)×Dk×Dk×Unit):Option ((Unit) ⊕ ((Bool)×Unit)):=(Ac (Ac (Ac Ah))) (Gw ((Ac (Ac (Ac Ah))) Nj d)) d
def Qw (a0 a1:Dk):Option ((((Bool)×Unit)×(Unit))):=
 ((Lb a0.1 a1.1).bind fun val=>some ((val,()),())).bind fun val=>bif !val.1.1 then some ((false,()),()) else bif nI (List.length a0.2.1) != nI (List.length a1.2.1) then some ((false,()),()) else ((fun d=>Gw (Nj d.1 d.2.1 d.2.2.1) d.1 d.2.1 d.2.2.1) (0,a0,a1,())).bind fun val=>Eb (fun d=>some ((true,()),())) (fun d=>some (d,())) val
theorem Ad3:∃ f,f=@Qw:=⟨_,rfl⟩
def Je:=Classical.choose Ad3
theorem Ad4:@Je=@Qw:=Classical.choose_spec Ad3
def Ad5:SD:=⟨Ar5,fun x=>Je x.1 x.2.1⟩
theorem Axy {v:List Ab} (h:v.length≤1000000):Lb v v=some true:=by
 have e:Lb v v=some (eqL eqS v v):=if_pos (Nat.le_trans h (by decide))
 rw [e,show eqL eqS v v=true from Aox (fun x=>Agq .str x) v]
theorem A60 (b:Dk) (hv:b.2.1.length≤1000000):∀ (k m i:Nat),i + k=b.2.1.length→k < m→Am (Gw m i b b) fun q=>q=.inl PUnit.unit:=by
 intro k
 induction k with
 | zero=>
  intro m i hi hm
  cases m with
  | zero=>omega
  | succ m=>
   simp only [Gw,K6]
   exact Am.no (Bh (by simp only [nI]; omega)) (Am.some rfl)
 | succ k ih=>
  intro m i hi hm
  cases m with
  | zero=>omega
  | succ m=>
   have e1:IntKind.i64.wrap ((i:Int) + 1)=((i + 1:Nat):Int):=wI (by omega)
   have d:decide ((i:Int) < nI (List.length b.2.1))=true:=Ag (by simp only [nI]; omega)
   simp only [Gw,K6,e1,d,Mv,cond_true,beq_self_eq_true,Bool.and_true,Bool.not_true,cond_false]
   exact ih m (i + 1) (by omega) (by omega)
theorem Aic {b:Dk} (h1:b.1.length≤1000000) (h2:b.2.1.length≤1000000):Am (Je b b) fun q=>q.1.1=true:=by
 rw [Ad4]
 unfold Qw
 rw [Axy h1]
 refine Am.no (by simp) (Am.bind (A60 b h2 b.2.1.length _ 0 (by omega) (by simp only [Nj]; omega)) fun q hq=>?_)
 rw [hq]
 exact Am.some rfl
def l9 {R:Type} (k:Kt R):=(Eb (Mh (Jp 5) (.exit 0) 2 k) (Mh (Jp 5) .ret 1 k))
def Aid {R:Type}:Lt R Jp:=(Gc (pat:=Jp) 5 (fun d k=>(Amp d).bind (l9 k)) Ky)
theorem Ad6:A1 Try.prog Ad2:=Bc ⟨Aqs,trivial⟩
theorem Amq {R:Type}:A7 Try.prog R 39 0 Jp Aid l8:=
 Cu (cfg:=⟨Ad2,0,39,Jp⟩) 5 [] (fun NX X d=>(Ac (Ac (Ac Ah))) (K6  NX (fun e=>X (.inl (e))) (fun e=>X (.inr (e)))) d) (fun m d=>(Ac (Ac (Ac Ah))) (Gw m) d) (fun d=>(Ac (Ac (Ac Ah))) Nj d) l9 Ad6 trivial (fun f NX d=>by simp only [u4,Ac,Ah]; unfold K6; simp only [nb])
theorem Ar6:Cp Try.prog 17 Ad5:=
 Bd (pat:=Jp) [l8] Aid Ad6 ⟨Amq,trivial⟩ Try.func17 (de:=fun x=>Qw x.1 x.2.1) (fun x r h=>by have q:Je x.1 x.2.1=some r:=h; rw [Ad4] at q; exact q) fun _=>by kernel_rfl
def Eu (d:Dk) (f:List Int):Dk:=D6 d f
def Aie:Ji:=⟨[.rd yDk,.rd (.sl tI)],[some 2,none],[.own 9 .str,.own 82 Cl],[some 2]⟩
def Ws:SD:=⟨Aie,fun x=>some (((Eu x.1 x.2.1).1,(Eu x.1 x.2.1).2.1,()),(()))⟩
def Wt:Tb:=tb [(20,Jc)]
def Gt:Nat→Du×(Nat→Du):=Ix [(6,⟨[.sl 1 0 tI,.sl 18 0 Cl,.boxRow 4 0 9 .str,.boxRow 4 1 82 Cl,.boxRow 5 0 9 .str,.boxRow 5 1 82 Cl],[(1,.lf (.d (.sl tI))),(4,.lf (.ptr 0 0)),(5,.lf (.ptr 1 0)),(18,.lf (.d (.sl Cl))),(19,.lf (.d tI)),(20,.lf (.d tI))],[.box 41 [.row 2,.row 3],.box 41 [.row 4,.row 5],.row 9 .str,.row 82 Cl,.row 9 .str,.row 82 Cl]⟩,[(2,⟨[.boxRow 4 0 9 .str,.boxRow 4 1 82 Cl,.boxRow 5 0 9 .str,.boxRow 5 1 82 Cl],[(4,.lf (.ptr 0 0)),(5,.lf (.ptr 1 0))],[.box 41 [.row 2,.row 3],.box 41 [.row 4,.row 5],.row 9 .str,.row 82 Cl,.row 9 .str,.row 82 Cl]⟩)])]
def So:Code:=(Av (Bl Try.f21)).getD 0 .skip
def D0 (v1:List Int) (v18:List Wr) (v19 v20:Int) (r2:List Ab) (r3:List Wr) (r4:List Ab) (r5:List Wr):Nat:=(v19 - v20).toNat + 1
def G5 {R:Type}  (NX:((List Int)×(List Wr)×(Int)×(Int)×(List Ab)×(List Wr)×(List Ab)×(List Wr)×Unit)→Option R) (X2:((List Ab)×(List Wr)×(List Ab)×(List Wr)×Unit)→Option R) (v1:List Int) (v18:List Wr) (v19:Int) (v20:Int) (r2:List Ab) (r3:List Wr) (r4:List Ab) (r5:List Wr):Option R:=
 bif decide (v20 < v19) then bif decide (0≤v20) then bif decide (v20 < nI v18.length) then bif decide (v20 < nI v1.length) then bif decide (0≤v20) then bif decide (v20 < nI v1.length) then bif decide (0≤if (if v1.getD v20.toNat 0 < 64 then v1.getD v20.toNat 0 else 64) > 0 then if v1.getD v20.toNat 0 < 64 then v1.getD v20.toNat 0 else 64 else 0) then bif decide ((if (if v1.getD v20.toNat 0 < 64 then v1.getD v20.toNat 0 else 64) > 0 then if v1.getD v20.toNat 0 < 64 then v1.getD v20.toNat 0 else 64 else 0)≤nI (ByteArray.size (v18.getD v20.toNat (0,Ae,())).2.1)) then bif decide (0≤(v18.getD v20.toNat (0,Ae,())).1) then bif decide ((v18.getD v20.toNat (0,Ae,())).1 < nI r4.length) then bif decide (0≤if (if v1.getD v20.toNat 0 < 64 then v1.getD v20.toNat 0 else 64) > 0 then if v1.getD v20.toNat 0 < 64 then v1.getD v20.toNat 0 else 64 else 0) then bif decide ((if (if v1.getD v20.toNat 0 < 64 then v1.getD v20.toNat 0 else 64) > 0 then if v1.getD v20.toNat 0 < 64 then v1.getD v20.toNat 0 else 64 else 0)≤nI (ByteArray.size (r4.getD (Int.toNat (v18.getD v20.toNat (0,Ae,())).1) (Ae)))) then bif decide ((Af (v18.getD v20.toNat (0,Ae,())).2.1 0 (if (if v1.getD v20.toNat 0 < 64 then v1.getD v20.toNat 0 else 64) > 0 then if v1.getD v20.toNat 0 < 64 then v1.getD v20.toNat 0 else 64 else 0)).size + (Af (r4.getD (Int.toNat (v18.getD v20.toNat (0,Ae,())).1) (Ae)) (if (if v1.getD v20.toNat 0 < 64 then v1.getD v20.toNat 0 else 64) > 0 then if v1.getD v20.toNat 0 < 64 then v1.getD v20.toNat 0 else 64 else 0) (nI (ByteArray.size (r4.getD (Int.toNat (v18.getD v20.toNat (0,Ae,())).1) (Ae))))).size≤9223372036854775807) then bif decide (0≤(v18.getD v20.toNat (0,Ae,())).1) then bif decide ((v18.getD v20.toNat (0,Ae,())).1 < nI r4.length) then bif decide (Int.toNat (v18.getD v20.toNat (0,Ae,())).1 < r4.length) then NX (v1,v18,v19,IntKind.i64.wrap (v20 + 1),r2,r3,r4.set (Int.toNat (v18.getD v20.toNat (0,Ae,())).1) (Af (v18.getD v20.toNat (0,Ae,())).2.1 0 (if (if v1.getD v20.toNat 0 < 64 then v1.getD v20.toNat 0 else 64) > 0 then if v1.getD v20.toNat 0 < 64 then v1.getD v20.toNat 0 else 64 else 0)++Af (r4.getD (Int.toNat (v18.getD v20.toNat (0,Ae,())).1) (Ae)) (if (if v1.getD v20.toNat 0 < 64 then v1.getD v20.toNat 0 else 64) > 0 then if v1.getD v20.toNat 0 < 64 then v1.getD v20.toNat 0 else 64 else 0) (nI (ByteArray.size (r4.getD (Int.toNat (v18.getD v20.toNat (0,Ae,())).1) (Ae))))),r5,()) else none else none else none else none else none else none else none else none else none else none else none else none else bif decide (0≤(v18.getD v20.toNat (0,Ae,())).1) then bif decide ((v18.getD v20.toNat (0,Ae,())).1 < nI r4.length) then bif decide ((Af (v18.getD v20.toNat (0,Ae,())).2.1 0 0).size + (Af (r4.getD (Int.toNat (v18.getD v20.toNat (0,Ae,())).1) (Ae)) 0 (nI (ByteArray.size (r4.getD (Int.toNat (v18.getD v20.toNat (0,Ae,())).1) (Ae))))).size≤9223372036854775807) then bif decide (0≤(v18.getD v20.toNat (0,Ae,())).1) then bif decide ((v18.getD v20.toNat (0,Ae,())).1 < nI r4.length) then bif decide (Int.toNat (v18.getD v20.toNat (0,Ae,())).1 < r4.length) then NX (v1,v18,v19,IntKind.i64.wrap (v20 + 1),r2,r3,r4.set (Int.toNat (v18.getD v20.toNat (0,Ae,())).1) (Af (v18.getD v20.toNat (0,Ae,())).2.1 0 0++Af (r4.getD (Int.toNat (v18.getD v20.toNat (0,Ae,())).1) (Ae)) 0 (nI (ByteArray.size (r4.getD (Int.toNat (v18.getD v20.toNat (0,Ae,())).1) (Ae))))),r5,()) else none else none else none else none else none else none else none else none else X2 (r2,r3,r4,r5,())
def Bv:Nat→(List Int)→(List Wr)→(Int)→(Int)→(List Ab)→(List Wr)→(List Ab)→(List Wr) →  Option ((List Ab)×(List Wr)×(List Ab)×(List Wr)×Unit)
 | 0,_,_,_,_,_,_,_,_=>none
 | m + 1,v1,v18,v19,v20,r2,r3,r4,r5=>G5  (fun d=>Bv m d.1 d.2.1 d.2.2.1 d.2.2.2.1 d.2.2.2.2.1 d.2.2.2.2.2.1 d.2.2.2.2.2.2.1 d.2.2.2.2.2.2.2.1) (fun d=>some (d)) v1 v18 v19 v20 r2 r3 r4 r5
def Acu (d:(List Int)×(List Wr)×(Int)×(Int)×(List Ab)×(List Wr)×(List Ab)×(List Wr)×Unit):Option ((List Ab)×(List Wr)×(List Ab)×(List Wr)×Unit):=(u4 (u4 Ah)) (Bv ((u4 (u4 Ah)) D0 d)) d
def Pl (a0:Dk) (a1:List Int):Option ((Dk×(Unit))):=
 bif !Ds a0 then some (([],[],()),()) else bif decide ((0 + List.length a0.1) * 16≤140737488355328) then ((fun d=>Bv (D0 d.1 d.2.1 d.2.2.1 d.2.2.2.1 d.2.2.2.2.1 d.2.2.2.2.2.1 d.2.2.2.2.2.2.1 d.2.2.2.2.2.2.2.1) d.1 d.2.1 d.2.2.1 d.2.2.2.1 d.2.2.2.2.1 d.2.2.2.2.2.1 d.2.2.2.2.2.2.1 d.2.2.2.2.2.2.2.1) (a1,a0.2.1,nI (List.length a0.2.1),0,[],[],[]++a0.1,[],())).bind fun val=>some (val.2.2,()) else none
theorem Aif (a0:Dk) (a1:List Int):Pl a0 a1=some (((Eu a0 a1).1,(Eu a0 a1).2.1,()),(())):=by
 unfold Pl Eu D6
 show (bif !As a0 then _ else _)=_
 cases hv:As a0 with
 | false=>rfl
 | true=>
  obtain ⟨k1,k2,k3,k4,k5⟩:=Ig hv
  have c0:(0 + List.length a0.1) * 16≤140737488355328:=by omega
  rw [Ag c0]
  have hL:=Xr (xs:=a0.2.1) zW (Ags a0.1.length) (fun i w s=>s.set w.1.toNat (Arf w.2.1 (s.getD w.1.toNat z0) (Kn a1 i))) (g:=fun m i s=>Bv m a1 a0.2.1 (nI a0.2.1.length) i [] [] s []) (ok:=fun s=>([],[],s,[],())) (fun m i s hi hI=>by
   show Bv (m + 1) a1 a0.2.1 (nI a0.2.1.length) i [] [] s []=_
   simp only [Bv,G5]
   obtain ⟨w0,w1,w2⟩:=k5 i hi
   have h0:0≤(List.getD a0.2.1 i (0,Ae,())).1:=w0
   have h1:(List.getD a0.2.1 i (0,Ae,())).1 < nI s.length:=by rw [hI.1]; exact w1
   have hsz:ByteArray.size (List.getD a0.2.1 i (0,Ae,())).2.1=64:=w2
   have hj:Int.toNat (List.getD a0.2.1 i (0,Ae,())).1 < s.length:=by
    have h1:(List.getD a0.2.1 i (0,Ae,())).1 < (s.length:Int):=h1
    omega
   have hs2:ByteArray.size (List.getD s (Int.toNat (List.getD a0.2.1 i (0,Ae,())).1) (Ae))=64:=hI.2 _ (by rw [← hI.1]; exact hj)
   have hsum:∀ k:Int,0≤k→k≤64→ByteArray.size (Af (List.getD a0.2.1 i (0,Ae,())).2.1 0 k) + ByteArray.size (Af (List.getD s (Int.toNat (List.getD a0.2.1 i (0,Ae,())).1) (Ae)) k (nI (ByteArray.size (List.getD s (Int.toNat (List.getD a0.2.1 i (0,Ae,())).1) (Ae)))))≤9223372036854775807:=by
    intro k q0 q1
    rw [C9 (by omega) q0 (by rw [hsz]; omega),C9 q0 (by rw [hs2]; simp only [nI]; omega) (by rw [hs2]; simp [nI])]
    rw [hs2]
    simp only [nI]
    omega
   rw [cLt hi,Mv,wI (show i < 4611686018427387904 by omega),Jh]
   by_cases hf:i < a1.length
   ·have hfa:Kn a1 i=Ls (List.getD a1 i 0):=if_pos hf
    obtain ⟨q0,q1⟩:=Agr (List.getD a1 i 0)
    have c2:Ls (List.getD a1 i 0)≤nI (ByteArray.size (List.getD a0.2.1 i (0,Ae,())).2.1):=by rw [hsz]; exact q1
    have c5:Ls (List.getD a1 i 0)≤nI (ByteArray.size (List.getD s (Int.toNat (List.getD a0.2.1 i (0,Ae,())).1) (Ae))):=by rw [hs2]; exact q1
    rw [cLt hf,A8c,Ag q0,Ag c2,Ag h0,Ag h1,Ag c5,Ag (hsum _ q0 q1),Ag hj,hfa]
    rfl
   ·have hfa:Kn a1 i=0:=if_neg hf
    have nf:¬ (i:Int) < nI a1.length:=by simp only [nI]; omega
    rw [Bh nf,Ag h0,Ag h1,Ag (hsum 0 (by omega) (by omega)),Ag hj,hfa]
    rfl) (fun i s hi hI=>hI.set (Ai9 (k5 i hi).2.2 (hI.2 _ (by
   have q:=k5 i hi
   omega)) (Ss a1 i).1 (Ss a1 i).2)) (fun m s hI=>by
   show Bv (m + 1) a1 a0.2.1 (nI a0.2.1.length) (a0.2.1.length:Int) [] [] s []=_
   simp only [Bv,G5]
   rw [W3]
   rfl) (D0 a1 a0.2.1 (nI a0.2.1.length) 0 [] [] a0.1 []) 0 a0.1 (by omega) (by simp [D0,nI]) ⟨rfl,k4⟩
  have hL':Bv (D0 a1 a0.2.1 (nI a0.2.1.length) 0 [] [] a0.1 []) a1 a0.2.1 (nI a0.2.1.length) 0 [] [] a0.1 []=_:=hL
  show (Bv (D0 a1 a0.2.1 (nI a0.2.1.length) 0 [] [] a0.1 []) a1 a0.2.1 (nI a0.2.1.length) 0 [] [] a0.1 []).bind _=_
  rw [hL']
  rfl
def Sp {R:Type} (k:Kt R):=(Mh (Gt 6) (.exit 0) 2 k)
def Y6 {R:Type}:Lt R Gt:=(Gc (pat:=Gt) 6 (fun d k=>(Acu d).bind (Sp k)) Ky)
theorem Wu:A1 Try.prog Wt:=Bc ⟨Lj,trivial⟩
theorem Acv {R:Type}:A7 Try.prog R 55 0 Gt Y6 So:=
 Cu (cfg:=⟨Wt,0,55,Gt⟩) 6 [] (fun NX X d=>(u4 (u4 Ah)) (G5  NX X) d) (fun m d=>(u4 (u4 Ah)) (Bv m) d) (fun d=>(u4 (u4 Ah)) D0 d) Sp Wu trivial (fun f NX d=>by simp only [u4,Ac,Ah]; unfold G5; simp only [nb])
theorem Aig:Cp Try.prog 21 Ws:=
 Bd (pat:=Gt) [So] Y6 Wu ⟨Acv,trivial⟩ Try.func21 (de:=fun x=>Pl x.1 x.2.1) (fun x r h=>(Aif x.1 x.2.1).trans h) fun _=>by kernel_rfl
def Vb (d:Dk) (a:Int):Option Ab:=if d.2.1.length≤1099511627776∧0≤a∧a < (d.1.length:Int) then some (Ab9 d a) else none
def Jq (v1 v5:Int) (b0_0:List Ab) (b0_1:List Wr):Nat:=(v5 + 1).toNat + 1
def Axz:Ji:=⟨[.rd yDk,.rd tI],[some 2,none],[.rd .str],[none]⟩
def Alf:SD:=⟨Axz,fun x=>(Vb x.1 x.2.1).bind fun r=>some ((r,()),(()))⟩
def Alg:Tb:=tb []
def Mb:Nat→Du×(Nat→Du):=Ix [(3,⟨[.boxSl 2 0 .str,.boxSl 2 1 Cl],[(1,.lf (.d tI)),(2,.lf (.ptr 0 0)),(5,.lf (.d tI))],[.box 41 [.d (.sl .str),.d (.sl Cl)]]⟩,[(2,⟨[.boxSl 2 0 .str,.boxSl 2 1 Cl],[(1,.lf (.d tI)),(2,.lf (.ptr 0 0))],[.box 41 [.d (.sl .str),.d (.sl Cl)]]⟩),(1,⟨[],[(4,.lf (.d .str))],[]⟩)])]
def Ad7:Code:=(Av (Bl Try.f50)).getD 0 .skip
def Na {R:Type}  (NX:((Int)×(Int)×(List Ab)×(List Wr)×Unit)→Option R) (X2:((Int)×(List Ab)×(List Wr)×Unit)→Option R) (X1:((Ab)×Unit)→Option R) (v1:Int) (v5:Int) (b0_0:List Ab) (b0_1:List Wr):Option R:=
 bif decide (v5≥0) then bif decide (0≤v5) then bif decide (v5 < nI b0_1.length) then bif (b0_1.getD v5.toNat (0,Ae,())).1==v1 then bif decide (0≤v5) then bif decide (v5 < nI b0_1.length) then X1 (b0_1.getD v5.toNat (0,Ae,())).2 else none else none else NX (v1,IntKind.i64.wrap (v5 - 1),b0_0,b0_1,()) else none else none else X2 (v1,b0_0,b0_1,())
def Ef:Nat→(Int)→(Int)→(List Ab)→(List Wr) →  Option (((Int)×(List Ab)×(List Wr)×Unit) ⊕ ((Ab)×Unit))
 | 0,_,_,_,_=>none
 | m + 1,v1,v5,b0_0,b0_1=>Na  (fun d=>Ef m d.1 d.2.1 d.2.2.1 d.2.2.2.1) (fun d=>some (.inl (d))) (fun d=>some (.inr (d))) v1 v5 b0_0 b0_1
def Ar7 (d:(Int)×(Int)×(List Ab)×(List Wr)×Unit):Option (((Int)×(List Ab)×(List Wr)×Unit) ⊕ ((Ab)×Unit)):=(u4 Ah) (Ef ((u4 Ah) Jq d)) d
def Abi (a0:Dk) (a1:Int):Option ((((Ab)×Unit)×(Unit))):=
 ((fun d=>Ef (Jq d.1 d.2.1 d.2.2.1 d.2.2.2.1) d.1 d.2.1 d.2.2.1 d.2.2.2.1) (a1,IntKind.i64.wrap (nI (List.length a0.2.1) - 1),a0)).bind fun val=>Eb (fun d=>bif decide (0≤d.1) then bif decide (d.1 < nI (List.length d.2.1)) then some ((List.getD d.2.1 (Int.toNat d.1) (Ae),()),()) else none else none) (fun d=>some (d,())) val
theorem Ax0 (a0:Dk) (a1:Int) r (h:Vb a0 a1=some r):Abi a0 a1=some ((r,()),(())):=by
 unfold Vb at h
 split at h
 ·rename_i hc
  obtain ⟨hp,h0,h1⟩:=hc
  cases h
  have hw:IntKind.i64.wrap (nI a0.2.1.length - 1)=(a0.2.1.length:Int) - 1:=Al (by simp only [nI]; omega) (by simp only [nI]; omega)
  have hL:=Aoy (xs:=a0.2.1) zW (fun w=>w.1==a1) (fun w=>.inr (w.2.1,())) (g:=fun m i=>Ef m a1 i a0.1 a0.2.1) (ok:=.inl (a1,a0.1,a0.2.1,())) (fun m i hi=>by
   show Ef (m + 1) a1 i a0.1 a0.2.1=_
   simp only [Ef,Na]
   have hi0:(i:Int)≥0:=by omega
   have hw:IntKind.i64.wrap ((i:Int) - 1)=(i:Int) - 1:=Al (by omega) (by omega)
   rw [Ag hi0,cLt hi,Jh,hw]
   rfl) (fun m=>by
   show Ef (m + 1) a1 (-1) a0.1 a0.2.1=_
   simp only [Ef,Na]
   rfl) (Jq a1 ((a0.2.1.length:Int) - 1) a0.1 a0.2.1) a0.2.1.length (by omega) (by simp [Jq])
  have hL':Ef (Jq a1 ((a0.2.1.length:Int) - 1) a0.1 a0.2.1) a1 ((a0.2.1.length:Int) - 1) a0.1 a0.2.1=_:=hL
  unfold Abi
  rw [hw]
  show (Ef (Jq a1 ((a0.2.1.length:Int) - 1) a0.1 a0.2.1) a1 ((a0.2.1.length:Int) - 1) a0.1 a0.2.1).bind _=_
  rw [hL',List.take_length]
  show Eb _ _ _=_
  have hc1:decide (0≤a1)=true:=Ag h0
  have hc2:decide (a1 < nI a0.1.length)=true:=Ag h1
  unfold Ab9
  rw [Aes (Eb _ _),Aes (fun r:Ab=>some ((r,()),()))]
  simp only [Eb,hc1,hc2,cond_true]
  rfl
 ·cases h
def Ad8 {R:Type} (k:Kt R):=(Eb (Mh (Mb 3) (.exit 0) 2 k) (Mh (Mb 3) .ret 1 k))
def Aqt {R:Type}:Lt R Mb:=(Gc (pat:=Mb) 3 (fun d k=>(Ar7 d).bind (Ad8 k)) Ky)
theorem Alh:A1 Try.prog Alg:=Bc trivial
theorem Ar8 {R:Type}:A7 Try.prog R 33 0 Mb Aqt Ad7:=
 Cu (cfg:=⟨Alg,0,33,Mb⟩) 3 [] (fun NX X d=>(u4 Ah) (Na  NX (fun e=>X (.inl (e))) (fun e=>X (.inr (e)))) d) (fun m d=>(u4 Ah) (Ef m) d) (fun d=>(u4 Ah) Jq d) Ad8 Alh trivial (fun f NX d=>by simp only [u4,Ac,Ah]; unfold Na; simp only [nb])
theorem Ax1:Cp Try.prog 50 Alf:=
 Bd (pat:=Mb) [Ad7] Aqt Alh ⟨Ar8,trivial⟩ Try.func50 (de:=fun x=>Abi x.1 x.2.1) (fun x r h=>Ie (Ax0 x.1 x.2.1) h) fun _=>by kernel_rfl
def F3 (d:Dk) (a:Int):Ab:=Abx d a
def Aqu:Ji:=⟨[.rd yDk,.rd tI],[some 2,none],[.rd .str],[none]⟩
def Abj:SD:=⟨Aqu,fun x=>some (((F3 x.1 x.2.1),()),(()))⟩
def Vc (a0:Dk) (a1:Int):Option ((((Ab)×Unit)×(Unit))):=
 bif !Ds a0 then some ((Ae,()),()) else bif !La a1 0 (IntKind.i64.wrap (nI (List.length a0.1) - 1)) then some ((Ae,()),()) else ((Vb a0 a1).bind fun val=>some ((val,()),())).bind fun val=>some val
theorem Aqv (a0:Dk) (a1:Int):Vc a0 a1=some ((F3 a0 a1,()),(())):=by
 unfold Vc F3 Abx
 show (bif !As a0 then _ else _)=_
 cases hv:As a0 with
 | false=>rfl
 | true=>
  obtain ⟨k1,k2,k3,k4,k5⟩:=Ig hv
  have hw:IntKind.i64.wrap (nI a0.1.length - 1)=(a0.1.length:Int) - 1:=Al (by simp only [nI]; omega) (by simp only [nI]; omega)
  have e:La a1 0 ((a0.1.length:Int) - 1)=(decide (0≤a1)&&decide (a1 < (a0.1.length:Int))):=by
   show (decide (0≤a1)&&decide (a1≤(a0.1.length:Int) - 1))=_
   congr 1
   exact decide_eq_decide.2 (by omega)
  rw [hw,e]
  by_cases h0:0≤a1
  ·by_cases h1:a1 < (a0.1.length:Int)
   ·have hs:Vb (a0.1,a0.2.1,()) a1=some (Ab9 a0 a1):=if_pos ⟨by show a0.2.1.length≤_; omega,h0,h1⟩
    rw [Ag h0,Ag h1,hs]
    rfl
   ·rw [Bh h1,Bool.and_false]
    rfl
  ·rw [Bh h0]
   rfl
theorem Aqw:Cp Try.prog 22 Abj:=
 Bd (pat:=Ge) [] Ky (Bc (l:=[(20,Jc),(45,Z9),(50,Alf)]) ⟨Lj,Afq,Ax1,trivial⟩) trivial Try.func22 (de:=fun x=>Vc x.1 x.2.1) (fun x r h=>(Aqv x.1 x.2.1).trans h) fun _=>by kernel_rfl
def Lk (v:Int) (a b:Dk) (_:List Int):Nat:=a.2.1.length - v.toNat + 1
def Ll (v:Int) (a b:Dk):Nat:=b.1.length - v.toNat + 1
def Aqx:Ji:=⟨[.rd (.sl (.int .u8))],[none],[.rd .bool],[none]⟩
def Vd:Tb:=tb [(15,Sj),(16,l7),(17,Ad5),(18,Re),(19,Ez),(20,Jc),(21,Ws),(22,Abj)]
def Dh:Nat→Du×(Nat→Du):=Ix [(18,⟨[.row 11 0 3 tI,.boxSl 9 0 .str,.boxSl 9 1 Cl,.boxSl 10 0 .str,.boxSl 10 1 Cl],[(9,.lf (.ptr 0 0)),(10,.lf (.ptr 1 0)),(11,.lf (.row 2)),(12,.lf (.d tI))],[.box 41 [.d yDk],.box 41 [.d yDk],.row 3 tI]⟩,[(2,⟨[.row 11 0 3 tI,.boxSl 9 0 .str,.boxSl 9 1 Cl,.boxSl 10 0 .str,.boxSl 10 1 Cl],[(9,.lf (.ptr 0 0)),(10,.lf (.ptr 1 0)),(11,.lf (.row 2))],[.box 41 [.d yDk],.box 41 [.d yDk],.row 3 tI]⟩)]),(24,⟨[.boxSl 9 0 .str,.boxSl 9 1 Cl,.boxSl 10 0 .str,.boxSl 10 1 Cl],[(9,.lf (.ptr 0 0)),(10,.lf (.ptr 1 0)),(13,.lf (.d tI))],[.box 41 [.d yDk],.box 41 [.d yDk]]⟩,[(4,⟨[.boxSl 9 0 .str,.boxSl 9 1 Cl,.boxSl 10 0 .str,.boxSl 10 1 Cl],[(9,.lf (.ptr 0 0)),(10,.lf (.ptr 1 0))],[.box 41 [.d yDk],.box 41 [.d yDk]]⟩),(1,⟨[],[(2,.lf (.d .bool))],[]⟩)])]
def Wv:Code:=(Av (Bl Try.f4)).getD 0 .skip
def Ww:Code:=(Av (Bl Try.f4)).getD 1 .skip
def Jf {R:Type}  (NX:((Int)×Dk×Dk×Unit)→Option R) (X4:(Dk×Dk×Unit)→Option R) (X1:((Bool)×Unit)→Option R) (v13:Int) (b0:Dk) (b1:Dk):Option R:=
 bif decide (v13 < nI (List.length b1.1)) then bif decide (0≤v13) then bif decide (v13 < nI (List.length b1.1)) then bif !(F3 b0 v13).toList==ByteArray.toList (List.getD b1.1 v13.toNat (Ae)) then X1 (false,()) else NX (IntKind.i64.wrap (v13 + 1),b0,b1,()) else none else none else X4 (b0,b1,())
def E9:Nat→(Int)→Dk→Dk →  Option ((Dk×Dk×Unit) ⊕ ((Bool)×Unit))
 | 0,_,_,_=>none
 | m + 1,v13,b0,b1=>Jf  (fun d=>E9 m d.1 d.2.1 d.2.2.1) (fun d=>some (.inl (d))) (fun d=>some (.inr (d))) v13 b0 b1
def Aih (d:(Int)×Dk×Dk×Unit):Option ((Dk×Dk×Unit) ⊕ ((Bool)×Unit)):=(Ac (Ac (Ac Ah))) (E9 ((Ac (Ac (Ac Ah))) Ll d)) d
def Jg {R:Type}  (NX:((Int)×Dk×Dk×(List Int)×Unit)→Option R) (X2:(Dk×Dk×(List Int)×Unit)→Option R) (v12:Int) (b0:Dk) (b1:Dk) (r2:List Int):Option R:=
 bif decide (v12 < nI (List.length b0.2.1)) then bif decide ((r2.length + [IntKind.i64.wrap (64 + v12.tmod 2)].length) * 8≤140737488355328) then NX (IntKind.i64.wrap (v12 + 1),b0,b1,r2++[IntKind.i64.wrap (64 + v12.tmod 2)],()) else none else X2 (b0,b1,r2,())
def Fa:Nat→(Int)→Dk→Dk→(List Int) →  Option (Dk×Dk×(List Int)×Unit)
 | 0,_,_,_,_=>none
 | m + 1,v12,b0,b1,r2=>Jg  (fun d=>Fa m d.1 d.2.1 d.2.2.1 d.2.2.2.1) (fun d=>some (d)) v12 b0 b1 r2
def Aii (d:(Int)×Dk×Dk×(List Int)×Unit):Option (Dk×Dk×(List Int)×Unit):=(u4 Ah) (Fa ((u4 Ah) Lk d)) d
def Pm (a0:List Int):Option ((((Bool)×Unit)×(Unit))):=
 bif decide (nI a0.length > 1048576) then some ((true,()),()) else (H7 a0).bind fun val=>((E7 val.1.1 val.1.2.1 val.1.2.2.1).bind fun val=>some (val,())).bind fun val_1=>((Cw val.1.1 val.1.2.1 val.1.2.2.1).bind fun val=>some (val,())).bind fun val_2=>(Je val_1.1 val_2.1).bind fun val_3=>bif !val_3.1.1 then some ((false,()),()) else bif !C0 val.1.1 then bif !Ds val.1.1 then some ((nI (List.length val_1.1.1)==0,()),()) else some ((false,()),()) else bif decide (0≤IntKind.i64.wrap ((nI (List.length val.1.2.1)).tdiv 2)) then bif decide (IntKind.i64.wrap ((nI (List.length val.1.2.1)).tdiv 2)≤nI (List.length val.1.2.1)) then ((E7 val.1.1 (List.drop (Int.toNat 0) (List.take (IntKind.i64.wrap ((nI (List.length val.1.2.1)).tdiv 2)).toNat val.1.2.1)) (IntKind.i64.wrap ((nI (List.length val.1.2.1)).tdiv 2))).bind fun val=>some (val,())).bind fun val_4=>bif decide (0≤IntKind.i64.wrap ((nI (List.length val.1.2.1)).tdiv 2)) then bif decide (IntKind.i64.wrap ((nI (List.length val.1.2.1)).tdiv 2)≤nI (List.length val.1.2.1)) then bif decide (nI (List.length val.1.2.1)≤nI (List.length val.1.2.1)) then ((E7 val_4.1 (List.drop (IntKind.i64.wrap ((nI (List.length val.1.2.1)).tdiv 2)).toNat (List.take (nI (List.length val.1.2.1)).toNat val.1.2.1)) (nI (List.length val.1.2.1))).bind fun val=>some (val,())).bind fun val_5=>((E7 val.1.1 val.1.2.1 (nI (List.length val.1.2.1))).bind fun val=>some (val,())).bind fun val=>(Je val_5.1 val.1).bind fun val_6=>bif !val_6.1.1 then some ((false,()),()) else bif !Ds val.1 then some ((false,()),()) else ((E7 val.1 [(true,0,Ae,())] 1).bind fun val=>some (val,())).bind fun val_7=>((fun d=>Fa (Lk d.1 d.2.1 d.2.2.1 d.2.2.2.1) d.1 d.2.1 d.2.2.1 d.2.2.2.1) (0,val.1,val_7.1,[],())).bind fun val=>bif nI (List.length val.2.1.2.1) != 0 then some ((false,()),()) else (Je (Eu val.2.1 val.2.2.1) val.2.1).bind fun val_8=>bif !val_8.1.1 then some ((false,()),()) else (Je (Eu val.1 val.2.2.1) val.2.1).bind fun val_9=>bif !val_9.1.1 then some ((false,()),()) else ((fun d=>E9 (Ll d.1 d.2.1 d.2.2.1) d.1 d.2.1 d.2.2.1) (0,val.1,val.2.1,())).bind fun val=>Eb (fun d=>bif (F3 d.1 (nI (List.length d.2.1.1))).toList==(Ae).toList then some (((F3 d.1 (-1)).toList==(Ae).toList,()),()) else some ((false,()),())) (fun d=>some (d,())) val else none else none else none else none else none
def Abk:SD:=⟨Aqx,fun x=>Pm x.1⟩
def wl (n:Nat):List Int:=(List.range n).map fun i=>64 + ((i % 2:Nat):Int)
theorem A5i (n:Nat):(wl n).length=n:=by simp [wl]
theorem A61 (n:Nat):wl (n + 1)=wl n++[64 + ((n % 2:Nat):Int)]:=by simp [wl,List.range_succ]
theorem A62 {n j:Nat} (h:j < n):Kn (wl n) j=64:=by
 have e:(wl n).getD j 0=64 + ((j % 2:Nat):Int):=by simp [wl,List.getD,h]
 unfold Kn Ls
 rw [A5i,if_pos h,e,if_neg (by omega)]
 by_cases q:(64 + ((j % 2:Nat):Int)) > 64
 ·rw [if_pos q]
 ·rw [if_neg q]; omega
theorem A2u {a b:Ab} (ha:a.size=64) (hb:b.size=64):Arf a b 64=a:=by
 have e:∀ s:Ab,s.size=64→Af s 64 (nI s.size)=Ae:=fun s hs=>A4o (by
  have:=Jy s 64 64
  rw [hs]
  show Ad (Af s ((64:Nat):Int) ((64:Nat):Int))=[]
  rw [this]
  simp)
 have j:=Axk (s:=a) (n:=64) (by decide) (by rw [ha]; decide)
 unfold Arf
 rw [e b hb]
 rw [e a ha] at j
 exact j
theorem Aqy {f:List Int}:∀ (ws:List Wr) (i:Nat) (sec:List Ab),(∀ v∈ws,v.1.toNat < sec.length∧v.2.1.size=64)→(∀ j,j < sec.length→(sec.getD j z0).size=64)→(∀ j,i≤j→j < i + ws.length→Kn f j=64)→
  F5 (fun i w s=>s.set w.1.toNat (Arf w.2.1 (s.getD w.1.toNat z0) (Kn f i))) i ws sec=F5 (fun _ w s=>s.set w.1.toNat w.2.1) i ws sec
 | [],_,_,_,_,_=>rfl
 | v::ws,i,sec,hv,hs,hf=>by
  obtain ⟨v1,v2⟩:=hv v (List.mem_cons_self ..)
  have e:Arf v.2.1 (sec.getD v.1.toNat z0) (Kn f i)=v.2.1:=by
   rw [hf i (Nat.le_refl _) (by simp only [List.length_cons]; omega)]
   exact A2u v2 (hs _ v1)
  show F5 _ (i + 1) ws (sec.set v.1.toNat (Arf v.2.1 (sec.getD v.1.toNat z0) (Kn f i)))=F5 _ (i + 1) ws (sec.set v.1.toNat v.2.1)
  rw [e]
  refine Aqy ws (i + 1) (sec.set v.1.toNat v.2.1) (fun x hx=>by rw [List.length_set]; exact hv x (List.mem_cons_of_mem _ hx)) (fun j hj=>?_) fun j h1 h2=>hf j (by omega) (by simp only [List.length_cons]; omega)
  rw [List.length_set] at hj
  by_cases q:v.1.toNat=j
  ·subst q
   rw [show (sec.set v.1.toNat v.2.1).getD v.1.toNat z0=v.2.1 by simp [List.getD,hj]]
   exact v2
  ·rw [show (sec.set v.1.toNat v.2.1).getD j z0=sec.getD j z0 by simp [List.getD,List.getElem?_set_ne q]]
   exact hs j hj
theorem Azq {d:Dk} (h:Fq d):D6 d (wl d.2.1.length)=Mt d:=by
 unfold D6
 rw [h.valid]
 show (Akx (wl d.2.1.length) d.1 d.2.1,[],())=(Kz d.1 d.2.1,[],())
 have hp:=Xt (P:=fun w:Wr=>0≤w.1∧w.1 < (d.1.length:Int)∧w.2.1.size=64) (z:=zW) h.pen
 rw [show Akx (wl d.2.1.length) d.1 d.2.1=Kz d.1 d.2.1 from Aqy d.2.1 0 d.1 (fun v hv=>by have:=hp v hv; exact ⟨by omega,this.2.2⟩) (fun j hj=>h.sec j hj) fun j _ hj=>A62 (by omega)]
theorem A90 (a b:Dk) (ha:a.2.1.length≤300):∀ (k m i:Nat),i + k=a.2.1.length→k < m→Am (Fa m i a b (wl i)) fun q=>q=(a,b,wl a.2.1.length,()):=by
 intro k
 induction k with
 | zero=>
  intro m i hi hm
  cases m with
  | zero=>omega
  | succ m=>
   simp only [Fa,Jg]
   exact Am.no (Bh (by simp only [nI]; omega)) (Am.some (by rw [show i=a.2.1.length by omega]))
 | succ k ih=>
  intro m i hi hm
  cases m with
  | zero=>omega
  | succ m=>
   simp only [Fa,Jg]
   have e1:IntKind.i64.wrap ((i:Int) + 1)=((i + 1:Nat):Int):=wI (by omega)
   have e2:IntKind.i64.wrap (64 + (i:Int).tmod 2)=64 + ((i % 2:Nat):Int):=by
    rw [Int.tmod_eq_emod_of_nonneg (by omega),Al (by omega) (by omega)]
    omega
   refine Am.go (Ag (by simp only [nI]; omega)) (Am.go (Ag (by rw [A5i]; simp only [D9]; omega)) ?_)
   rw [e1,e2,← A61]
   exact ih m (i + 1) (by omega) (by omega)
theorem A91 (a:Dk) (h:Fq a):∀ (k m i:Nat),i + k=a.1.length→k < m→Am (E9 m i a (Mt a)) fun q=>q=.inl (a,Mt a,()):=by
 have hn:=h.n200
 have hl:(Mt a).1.length=a.1.length:=Iz _ _
 intro k
 induction k with
 | zero=>
  intro m i hi hm
  cases m with
  | zero=>omega
  | succ m=>
   simp only [E9,Jf]
   exact Am.no (Bh (by rw [hl]; simp only [nI]; omega)) (Am.some rfl)
 | succ k ih=>
  intro m i hi hm
  cases m with
  | zero=>omega
  | succ m=>
   simp only [E9,Jf]
   have e1:IntKind.i64.wrap ((i:Int) + 1)=((i + 1:Nat):Int):=wI (by omega)
   have d1:decide ((i:Int) < nI (Mt a).1.length)=true:=Ag (by rw [hl]; simp only [nI]; omega)
   have e2:F3 a (i:Int)=List.getD (Mt a).1 (i:Int).toNat (Ae):=by
    show Abx a (i:Int)=_
    unfold Abx
    rw [h.valid,Ag (show (0:Int)≤(i:Int) by omega),Ag (show (i:Int) < (a.1.length:Int) by omega),Jh]
    exact (Axc h (by omega)).symm
   refine Am.go d1 (Am.go (Ag (by omega)) (Am.go d1 (Am.no (by rw [e2]; simp) ?_)))
   rw [e1]
   exact ih m (i + 1) (by omega) (by omega)
theorem Azr (a0:List Int) (h0:Ac1 (.sl (.int .u8)) a0):Pm a0=some ((true,()),()):=by
 apply Am.law
 unfold Pm
 refine Am.cond (fun _=>Am.some rfl) fun _=>?_
 refine Am.bind (Aqp a0 h0) fun q hq=>?_
 obtain ⟨⟨d,ops,n,⟨⟩⟩,⟨⟩⟩:=q
 have hq:ops.length≤8:=hq
 have ip:∀ (d:Dk) (o:List D5) (n:Int),o.length≤100→E7 d o n=some (Bg d o n):=fun d o n h=>if_pos (Nat.le_trans h (by decide))
 have sp:Cw d ops n=some (Bg d ops n):=if_pos (Nat.le_trans hq (by decide))
 have len:∀ (d:Dk) (o:List D5) (n:Int),(Bg d o n).1.length≤1000000∧(Bg d o n).2.1.length≤1000000:=fun d o n=>by
  cases hv:As d with
  | false=>unfold Bg; rw [hv]; exact ⟨Nat.zero_le _,Nat.zero_le _⟩
  | true=>
   have:=Ig (Om hv o n).1
   exact ⟨Nat.le_trans this.n200 (by decide),Nat.le_trans this.p300 (by decide)⟩
 dsimp only
 rw [ip _ _ _ (by omega),sp]
 refine Am.bind (Q:=fun z=>z=(Bg d ops n,())) (Am.some rfl) fun x hx=>Am.bind (Q:=fun z=>z=(Bg d ops n,())) (Am.some rfl) fun y hy=>?_
 subst hx
 subst hy
 refine Am.bind (Aic (len d ops n).1 (len d ops n).2) fun z hz=>Am.no (by rw [hz]; rfl) ?_
 have f1:C0 d=As d:=rfl
 have f2:∀ d:Dk,Ds d=As d:=fun _=>rfl
 rw [f1,f2]
 cases hv:As d with
 | false=>
  refine Am.go rfl (Am.go rfl (Am.some ?_))
  unfold Bg
  rw [hv]
  rfl
 | true=>
  have hd:=Ig hv
  have ek:IntKind.i64.wrap ((nI (List.length ops)).tdiv 2)=((ops.length / 2:Nat):Int):=by
   simp only [nI]
   rw [Int.tdiv_eq_ediv_of_nonneg (by omega),Al (by omega) (by omega)]
   omega
  refine Am.no rfl ?_
  rw [ek]
  have g1:decide ((0:Int)≤((ops.length / 2:Nat):Int))=true:=Ag (by omega)
  have g2:decide (((ops.length / 2:Nat):Int)≤nI (List.length ops))=true:=Ag (by simp only [nI]; omega)
  have en:(nI (List.length ops)).toNat=ops.length:=Jh _
  refine Am.go g1 (Am.go g2 ?_)
  rw [Jh,en,show Int.toNat 0=0 from rfl,List.drop_zero,List.take_length,ip _ _ _ (by rw [List.length_take]; omega)]
  refine Am.bind (Q:=fun z=>z=(Bg d (ops.take (ops.length / 2)) ((ops.length / 2:Nat):Int),())) (Am.some rfl) fun x hx=>?_
  subst hx
  refine Am.go g1 (Am.go g2 (Am.go (Ag (Int.le_refl _)) ?_))
  have k1:=Om hv (ops.take (ops.length / 2)) ((ops.length / 2:Nat):Int)
  dsimp only
  rw [ip _ (List.drop _ _) _ (by rw [List.length_drop]; omega),ip d ops _ (by omega)]
  have eyz:Bg (Bg d (ops.take (ops.length / 2)) ((ops.length / 2:Nat):Int)) (ops.drop (ops.length / 2)) (nI (List.length ops))=Bg d ops (nI (List.length ops)):=by
   have e1:∀ (d:Dk) (o:List D5) (m:Int),As d=true→o.length≤m.toNat→Bg d o m=o.foldl opS d:=fun d o m h hm=>by
    unfold Bg
    rw [h]
    show List.foldl opS d (o.take m.toNat)=_
    rw [List.take_of_length_le hm]
   rw [e1 _ _ _ k1.1 (by rw [List.length_drop,en]; omega),e1 d _ _ hv (by rw [List.length_take,Jh]; omega),e1 d ops _ hv (by rw [en]; omega),← List.foldl_append,List.take_append_drop]
  rw [eyz]
  obtain ⟨kz,_⟩:=Om hv ops (nI (List.length ops))
  obtain ⟨l1,l2⟩:=len d ops (nI (List.length ops))
  generalize Bg d ops (nI (List.length ops))=z at kz l1 l2 ⊢
  have hz:=Ig kz
  refine Am.bind (Q:=fun y=>y=(z,())) (Am.some rfl) fun x hx=>Am.bind (Q:=fun y=>y=(z,())) (Am.some rfl) fun y hy=>?_
  subst hx
  subst hy
  refine Am.bind (Aic l1 l2) fun t ht=>Am.no (by rw [ht]; rfl) ?_
  rw [f2,kz]
  refine Am.no rfl ?_
  have es:Bg z [(true,0,Ae,())] 1=Mt z:=by
   unfold Bg
   rw [kz]
   rfl
  rw [ip _ _ _ (by decide),es]
  refine Am.bind (Q:=fun y=>y=(Mt z,())) (Am.some rfl) fun x hx=>?_
  subst hx
  dsimp only
  refine Am.bind (A90 z (Mt z) hz.p300 z.2.1.length _ 0 (by omega) (by simp only [Lk]; omega)) fun t ht=>?_
  subst ht
  have vs:As (Mt z)=true:=by rw [← es]; exact (Om kz _ _).1
  have s1:(Mt z).1.length≤1000000:=by rw [show (Mt z).1.length=z.1.length from Iz _ _]; exact l1
  have f3:∀ (d:Dk) (f:List Int),Eu d f=D6 d f:=fun _ _=>rfl
  have p1:D6 (Mt z) (wl z.2.1.length)=Mt z:=by
   unfold D6
   rw [vs]
   rfl
  refine Am.no rfl ?_
  dsimp only
  rw [f3,f3,p1,Azq hz]
  refine Am.bind (Aic s1 (Nat.zero_le _)) fun t ht=>Am.no (by rw [ht]; rfl) ?_
  refine Am.bind (Aic s1 (Nat.zero_le _)) fun t ht=>Am.no (by rw [ht]; rfl) ?_
  have hl:(Mt z).1.length=z.1.length:=Iz _ _
  refine Am.bind (A91 z hz z.1.length _ 0 (by omega) (by simp only [Ll]; rw [hl]; omega)) fun t ht=>?_
  subst ht
  have f4:∀ a:Int,¬ (0≤a∧a < (z.1.length:Int))→F3 z a=Ae:=fun a h=>by
   show Abx z a=_
   unfold Abx
   rw [kz]
   by_cases q:0≤a
   ·rw [Bh (show ¬ a < (z.1.length:Int) from fun g=>h ⟨q,g⟩),Bool.and_false]; rfl
   ·rw [Bh q]; rfl
  show Am (bif (F3 z (nI (List.length (Mt z).1))).toList==(Ae).toList then _ else _) _
  rw [f4 _ (by rw [hl]; simp only [nI]; omega),f4 _ (by omega)]
  exact Am.go (by simp) (Am.some (by simp))
def Wx {R:Type} (k:Kt R):=(Mh (Dh 18) (.exit 0) 2 k)
def Wy {R:Type} (k:Kt R):=(Eb (Mh (Dh 24) (.exit 2) 4 k) (Mh (Dh 24) .ret 1 k))
def Xc {R:Type}:Lt R Dh:=(Gc (pat:=Dh) 18 (fun d k=>(Aii d).bind (Wx k)) (Gc (pat:=Dh) 24 (fun d k=>(Aih d).bind (Wy k)) Ky))
theorem Ve:A1 Try.prog Vd:=Bc ⟨Acq,Amo,Ar6,b6,Gi,Lj,Aig,Aqw,trivial⟩
theorem Aij {R:Type}:A7 Try.prog R 140 0 Dh Xc Ww:=
 Cu (cfg:=⟨Vd,0,140,Dh⟩) 24 [] (fun NX X d=>(Ac (Ac (Ac Ah))) (Jf  NX (fun e=>X (.inl (e))) (fun e=>X (.inr (e)))) d) (fun m d=>(Ac (Ac (Ac Ah))) (E9 m) d) (fun d=>(Ac (Ac (Ac Ah))) Ll d) Wy Ve trivial (fun f NX d=>by simp only [u4,Ac,Ah]; unfold Jf; simp only [nb])
theorem Aik {R:Type}:A7 Try.prog R 140 0 Dh Xc Wv:=
 Cu (cfg:=⟨Vd,0,140,Dh⟩) 18 [] (fun NX X d=>(u4 Ah) (Jg  NX X) d) (fun m d=>(u4 Ah) (Fa m) d) (fun d=>(u4 Ah) Lk d) Wx Ve trivial (fun f NX d=>by simp only [u4,Ac,Ah]; unfold Jg; simp only [nb])
theorem Aqz:Cp Try.prog 4 Abk:=
 Bd (pat:=Dh) [Wv,Ww] Xc Ve ⟨Aik,Aij,trivial⟩ Try.func4 (de:=fun x=>Pm x.1) (fun x r h=>h) fun _=>by kernel_rfl
end Go.Proofs.Ytfkefgbihlfjmaa.V
end
