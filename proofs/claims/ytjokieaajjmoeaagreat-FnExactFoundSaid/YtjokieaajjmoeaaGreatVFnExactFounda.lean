/- What the functions that FnExactFound reaches come to: part 1. No condition. -/
import Derived.Test.YtjokieaajjmoeaaGreatRCode
import Derived.Test.YtjokieaajjmoeaaGreatProg
import Derived.KernelRfl
noncomputable section
set_option linter.unusedVariables false
set_option linter.unusedSimpArgs false
namespace Go.Proofs.YtjokieaajjmoeaaGreat.V
open Go Go.Proofs.YtjokieaajjmoeaaGreat.R Go.Proofs
set_option maxRecDepth 100000
def F3 (a:List Aa) (left:Int):Option Int:=szM (.sl .str) a left
def Apc:E5:=⟨[.rd (.sl .str),.rd tI],[none,none],[.rd tI],[none]⟩
def Rk:SD:=⟨Apc,fun x=>(F3 x.1 x.2.1).bind fun r=>some ((r,()),(()))⟩
def j5:Tb:=tb []
def Gd:Nat→Da×(Nat→Da):=Gs [(6,⟨[.sl 0 0 .str],[(0,.lf (.d (.sl .str))),(1,.lf (.d tI)),(5,.lf (.d tI))],[]⟩,[(2,⟨[],[(1,.lf (.d tI))],[]⟩),(1,⟨[],[(4,.lf (.d tI))],[]⟩)])]
def Wf:Code:=(At (Bc Tryz.f24)).getD 0 .skip
def Ep (v0:List Aa) (v1 v5:Int):Nat:=((v0.length:Int) - v5).toNat + 1
def Iv {R:Type}  (NX:((List Aa)×(Int)×(Int)×Unit)→Option R) (X2:((Int)×Unit)→Option R) (X1:((Int)×Unit)→Option R) (v0:List Aa) (v1:Int) (v5:Int):Option R:=
 bif decide (v5 < nI v0.length) then bif decide (0≤v5) then bif decide (v5 < nI v0.length) then bif decide (IntKind.i64.wrap (v1 - nI (ByteArray.size (v0.getD v5.toNat (Ac)))) < 0) then X1 (-1,()) else NX (v0,IntKind.i64.wrap (v1 - nI (ByteArray.size (v0.getD v5.toNat (Ac)))),IntKind.i64.wrap (v5 + 1),()) else none else none else X2 (v1,())
def Cc:Nat→(List Aa)→(Int)→(Int) →  Option (((Int)×Unit) ⊕ ((Int)×Unit))
 | 0,_,_,_=>none
 | m + 1,v0,v1,v5=>Iv  (fun d=>Cc m d.1 d.2.1 d.2.2.1) (fun d=>some (.inl (d))) (fun d=>some (.inr (d))) v0 v1 v5
def Ajz (d:(List Aa)×(Int)×(Int)×Unit):Option (((Int)×Unit) ⊕ ((Int)×Unit)):=(Ab (Ab (Ab Ae))) (Cc ((Ab (Ab (Ab Ae))) Ep d)) d
def Rl (a0:List Aa) (a1:Int):Option ((((Int)×Unit)×(Unit))):=
 bif decide (IntKind.i64.wrap (a1 - nI a0.length) < 0) then some ((-1,()),()) else ((fun d=>Cc (Ep d.1 d.2.1 d.2.2.1) d.1 d.2.1 d.2.2.1) (a0,IntKind.i64.wrap (a1 - nI a0.length),0,())).bind fun val=>Bw (fun d=>some (d,())) (fun d=>some (d,())) val
theorem Apd (a0:List Aa) (a1:Int) r (h:F3 a0 a1=some r):Rl a0 a1=some ((r,()),(())):=by
 obtain ⟨hc,g0,g1,rfl⟩:=O9 (t:=.sl .str) h
 obtain ⟨hl0,hall⟩:=M5 hc
 have hl:a0.length < 1152921504606846976:=hl0
 clear hl0 hc
 ·unfold Rl
  have hw1:IntKind.i64.wrap (a1 - nI a0.length)=a1 - (a0.length:Int):=Aj (by simp only [nI]; omega) (by simp only [nI]; omega)
  rw [hw1]
  have hL:=Ao3 (xs:=a0) (Ac) ByteArray.size (g:=fun m l i=>Cc m a0 l i) (ok:=fun l=>.inl (l,())) (bad:=.inr (-1,())) (fun m i l hi h0 h1=>by
   show Cc (m + 1) a0 l i=_
   simp only [Cc,Iv]
   rw [Qv hi,Gt,wI (by omega)]
   simp only [cond_true,Eo]
   have hf:ByteArray.size (List.getD (α:=Aa) a0 i (Ac)) < 1152921504606846976:=Ajo (hall _ (N2 (Ac) hi))
   have hw:IntKind.i64.wrap (l - nI (ByteArray.size (List.getD (α:=Aa) a0 i (Ac))))=l - (ByteArray.size (List.getD (α:=Aa) a0 i (Ac)):Int):=Aj (by simp only [nI]; omega) (by simp only [nI]; omega)
   simp only [hw]
  ) (fun m l=>by
   show Cc (m + 1) a0 l a0.length=_
   simp only [Cc,Iv]
   rw [Jx]
   rfl) (Ep a0 (a1 - (a0.length:Int)) 0) 0 (a1 - (a0.length:Int)) (by omega) (by simp [Ep])
  have hW:wt (.sl .str) a0=a0.length + (a0.map ByteArray.size).sum:=rfl
  rw [hW]
  by_cases q:a1 - (a0.length:Int) < 0
  ·simp only [Ap q,cond_true]; rw [if_pos (by omega)]
  ·simp only [Bd q,cond_false]
   have hL:=hL (by omega) (by omega)
   rw [List.drop_zero] at hL
   show (Cc (Ep a0 (a1 - (a0.length:Int)) 0) a0 (a1 - (a0.length:Int)) 0).bind _=_
   have hL':Cc (Ep a0 (a1 - (a0.length:Int)) 0) a0 (a1 - (a0.length:Int)) 0=_:=hL
   rw [hL']
   have hsum:a1 - ((a0.length + (a0.map ByteArray.size).sum:Nat):Int)=a1 - (a0.length:Int) - ((a0.map ByteArray.size).sum:Int):=by omega
   rw [hsum]
   by_cases q2:a1 - (a0.length:Int) - ((a0.map ByteArray.size).sum:Int) < 0
   ·simp only [if_pos q2]; rfl
   ·simp only [if_neg q2]; rfl
def Wg {R:Type} (k:Kt R):=(Bw (Ko (Gd 6) (.exit 0) 2 k) (Ko (Gd 6) .ret 1 k))
def Abb {R:Type}:Lt R Gd:=(E3 (pat:=Gd) 6 (fun d k=>(Ajz d).bind (Wg k)) F8)
theorem j6:Ax Tryz.prog j5:=Ay trivial
theorem Aj0 {R:Type}:A4 Tryz.prog R 28 0 Gd Abb Wf:=
 Cj (cfg:=⟨j5,0,28,Gd⟩) 6 [] (fun NX X d=>(Ab (Ab (Ab Ae))) (Iv  NX (fun e=>X (.inl (e))) (fun e=>X (.inr (e)))) d) (fun m d=>(Ab (Ab (Ab Ae))) (Cc m) d) (fun d=>(Ab (Ab (Ab Ae))) Ep d) Wg j6 trivial (fun f NX d=>by simp only [u4,Ab,Ae]; unfold Iv; simp only [nb])
theorem j7:Bm Tryz.prog 24 Rk:=
 Aw (pat:=Gd) [Wf] Abb j6 ⟨Aj0,trivial⟩ Tryz.func24 (de:=fun x=>Rl x.1 x.2.1) (fun x r h=>A2 (Apd x.1 x.2.1) h) fun _=>by kernel_rfl
def Rm (a:Wr) (left:Int):Option Int:=szM Fb a left
def Awa:E5:=⟨[.rd Fb,.rd tI],[some 2,none],[.rd tI],[none]⟩
def Aek:SD:=⟨Awa,fun x=>(Rm x.1 x.2.1).bind fun r=>some ((r,()),(()))⟩
def Vr (a0:Wr) (a1:Int):Option ((((Int)×Unit)×(Unit))):=
 bif decide (IntKind.i64.wrap (a1 - nI (ByteArray.size a0.2.1)) < 0) then some ((-1,()),()) else some ((IntKind.i64.wrap (a1 - nI (ByteArray.size a0.2.1)),()),())
theorem Awb (a0:Wr) (a1:Int) r (h:Rm a0 a1=some r):Vr a0 a1=some ((r,()),(())):=by
 obtain ⟨hc,g0,g1,rfl⟩:=O9 (t:=Fb) h
 obtain ⟨hc0,hc1,_⟩:A5 tI a0.1=true∧A5 .str a0.2.1=true∧True:=by
  have s:=hc
  obtain ⟨h0,s⟩:=An s
  obtain ⟨h1,s⟩:=An s
  exact ⟨h0,h1,trivial⟩
 unfold Vr
 have hwt:(wt Fb a0:Int)=(ByteArray.size a0.2.1:Int):=by simp only [wt]; omega
 rw [hwt]
 have hs0:ByteArray.size a0.2.1 < 1152921504606846976:=Ajo hc1
 have e0:IntKind.i64.wrap (a1 - nI (ByteArray.size a0.2.1))=a1 - (ByteArray.size a0.2.1:Int):=Aj (by simp only [nI]; omega) (by simp only [nI]; omega)
 simp only [e0]
 by_cases q0:a1 - (ByteArray.size a0.2.1:Int) < 0
 ·simp only [Ap q0,cond_true]; try rw [if_pos (by omega)]
 ·simp only [Bd q0,cond_false]
  try rw [if_neg q0]
theorem Awc:Bm Tryz.prog 117 Aek:=
 Aw (pat:=Co) [] F8 (Ay (l:=[]) trivial) trivial Tryz.func117 (de:=fun x=>Vr x.1 x.2.1) (fun x r h=>A2 (Awb x.1 x.2.1) h) fun _=>by kernel_rfl
def M6 (a:List Wr) (left:Int):Option Int:=szM (.sl Fb) a left
def Ass:E5:=⟨[.rd (.sl Fb),.rd tI],[none,none],[.rd tI],[none]⟩
def Abc:SD:=⟨Ass,fun x=>(M6 x.1 x.2.1).bind fun r=>some ((r,()),(()))⟩
def Abd:Tb:=tb [(117,Aek)]
def G5:Nat→Da×(Nat→Da):=Gs [(6,⟨[.sl 0 0 Fb],[(0,.lf (.d (.sl Fb))),(1,.lf (.d tI)),(5,.lf (.d tI))],[]⟩,[(2,⟨[],[(1,.lf (.d tI))],[]⟩),(1,⟨[],[(4,.lf (.d tI))],[]⟩)])]
def Ye:Code:=(At (Bc Tryz.f67)).getD 0 .skip
def Fh (v0:List Wr) (v1 v5:Int):Nat:=((v0.length:Int) - v5).toNat + 1
def Jy {R:Type}  (NX:((List Wr)×(Int)×(Int)×Unit)→Option R) (X2:((Int)×Unit)→Option R) (X1:((Int)×Unit)→Option R) (v0:List Wr) (v1:Int) (v5:Int):Option R:=
 bif decide (v5 < nI v0.length) then bif decide (0≤v5) then bif decide (v5 < nI v0.length) then ((Rm (v0.getD v5.toNat (0,Ac,())) v1).bind fun val=>some ((val,()),())).bind fun val=>bif decide (val.1.1 < 0) then X1 (-1,()) else NX (v0,val.1.1,IntKind.i64.wrap (v5 + 1),()) else none else none else X2 (v1,())
def Cp:Nat→(List Wr)→(Int)→(Int) →  Option (((Int)×Unit) ⊕ ((Int)×Unit))
 | 0,_,_,_=>none
 | m + 1,v0,v1,v5=>Jy  (fun d=>Cp m d.1 d.2.1 d.2.2.1) (fun d=>some (.inl (d))) (fun d=>some (.inr (d))) v0 v1 v5
def Ami (d:(List Wr)×(Int)×(Int)×Unit):Option (((Int)×Unit) ⊕ ((Int)×Unit)):=(Ab (Ab (Ab Ae))) (Cp ((Ab (Ab (Ab Ae))) Fh d)) d
def Tm (a0:List Wr) (a1:Int):Option ((((Int)×Unit)×(Unit))):=
 bif decide (IntKind.i64.wrap (a1 - nI a0.length) < 0) then some ((-1,()),()) else ((fun d=>Cp (Fh d.1 d.2.1 d.2.2.1) d.1 d.2.1 d.2.2.1) (a0,IntKind.i64.wrap (a1 - nI a0.length),0,())).bind fun val=>Bw (fun d=>some (d,())) (fun d=>some (d,())) val
theorem Ast (a0:List Wr) (a1:Int) r (h:M6 a0 a1=some r):Tm a0 a1=some ((r,()),(())):=by
 obtain ⟨hc,g0,g1,rfl⟩:=O9 (t:=.sl Fb) h
 obtain ⟨hl0,hall⟩:=M5 hc
 have hl:a0.length < 1152921504606846976:=hl0
 clear hl0 hc
 ·unfold Tm
  have hw1:IntKind.i64.wrap (a1 - nI a0.length)=a1 - (a0.length:Int):=Aj (by simp only [nI]; omega) (by simp only [nI]; omega)
  rw [hw1]
  have hL:=Ao3 (xs:=a0) (0,(Ac),()) (fun x:Wr=>wt Fb x) (g:=fun m l i=>Cp m a0 l i) (ok:=fun l=>.inl (l,())) (bad:=.inr (-1,())) (fun m i l hi h0 h1=>by
   show Cp (m + 1) a0 l i=_
   simp only [Cp,Jy]
   rw [Qv hi,Gt,wI (by omega)]
   simp only [cond_true,Eo]
   have hE:Rm (List.getD (α:=Wr) a0 i (0,(Ac),())) l=some (if l - (wt Fb (List.getD (α:=Wr) a0 i (0,(Ac),())):Int) < 0 then -1 else l - wt Fb (List.getD (α:=Wr) a0 i (0,(Ac),()))):=by
    exact Vp (t:=Fb) (x:=(List.getD (α:=Wr) a0 i (0,(Ac),()))) (hall _ (N2 (0,(Ac),()) hi)) h0 h1
   rw [hE]
   by_cases q:l - (wt Fb (List.getD (α:=Wr) a0 i (0,(Ac),())):Int) < 0
   ·simp only [if_pos q,Ap q,Option.bind_some,cond_true]; rfl
   ·simp only [if_neg q,Bd q,Option.bind_some,cond_false]
  ) (fun m l=>by
   show Cp (m + 1) a0 l a0.length=_
   simp only [Cp,Jy]
   rw [Jx]
   rfl) (Fh a0 (a1 - (a0.length:Int)) 0) 0 (a1 - (a0.length:Int)) (by omega) (by simp [Fh])
  have hW:wt (.sl Fb) a0=a0.length + (a0.map (fun x:Wr=>wt Fb x)).sum:=rfl
  rw [hW]
  by_cases q:a1 - (a0.length:Int) < 0
  ·simp only [Ap q,cond_true]; rw [if_pos (by omega)]
  ·simp only [Bd q,cond_false]
   have hL:=hL (by omega) (by omega)
   rw [List.drop_zero] at hL
   show (Cp (Fh a0 (a1 - (a0.length:Int)) 0) a0 (a1 - (a0.length:Int)) 0).bind _=_
   have hL':Cp (Fh a0 (a1 - (a0.length:Int)) 0) a0 (a1 - (a0.length:Int)) 0=_:=hL
   rw [hL']
   have hsum:a1 - ((a0.length + (a0.map (fun x:Wr=>wt Fb x)).sum:Nat):Int)=a1 - (a0.length:Int) - ((a0.map (fun x:Wr=>wt Fb x)).sum:Int):=by omega
   rw [hsum]
   by_cases q2:a1 - (a0.length:Int) - ((a0.map (fun x:Wr=>wt Fb x)).sum:Int) < 0
   ·simp only [if_pos q2]; rfl
   ·simp only [if_neg q2]; rfl
def Yf {R:Type} (k:Kt R):=(Bw (Ko (G5 6) (.exit 0) 2 k) (Ko (G5 6) .ret 1 k))
def Ael {R:Type}:Lt R G5:=(E3 (pat:=G5) 6 (fun d k=>(Ami d).bind (Yf k)) F8)
theorem Abe:Ax Tryz.prog Abd:=Ay ⟨Awc,trivial⟩
theorem Amj {R:Type}:A4 Tryz.prog R 27 0 G5 Ael Ye:=
 Cj (cfg:=⟨Abd,0,27,G5⟩) 6 [] (fun NX X d=>(Ab (Ab (Ab Ae))) (Jy  NX (fun e=>X (.inl (e))) (fun e=>X (.inr (e)))) d) (fun m d=>(Ab (Ab (Ab Ae))) (Cp m) d) (fun d=>(Ab (Ab (Ab Ae))) Fh d) Yf Abe trivial (fun f NX d=>by simp only [u4,Ab,Ae]; unfold Jy; simp only [nb])
theorem Asu:Bm Tryz.prog 67 Abc:=
 Aw (pat:=G5) [Ye] Ael Abe ⟨Amj,trivial⟩ Tryz.func67 (de:=fun x=>Tm x.1 x.2.1) (fun x r h=>A2 (Ast x.1 x.2.1) h) fun _=>by kernel_rfl
def Pb (a:Dk) (left:Int):Option Int:=szM Uw a left
def A0z:E5:=⟨[.rd Uw,.rd tI],[some 2,none],[.rd tI],[none]⟩
def Ag6:SD:=⟨A0z,fun x=>(Pb x.1 x.2.1).bind fun r=>some ((r,()),(()))⟩
def Yg (a0:Dk) (a1:Int):Option ((((Int)×Unit)×(Unit))):=
 ((F3 a0.1 a1).bind fun val=>some ((val,()),())).bind fun val=>bif decide (val.1.1 < 0) then some ((-1,()),()) else ((M6 a0.2.1 val.1.1).bind fun val=>some ((val,()),())).bind fun val=>bif decide (val.1.1 < 0) then some ((-1,()),()) else some val
theorem A00 (a0:Dk) (a1:Int) r (h:Pb a0 a1=some r):Yg a0 a1=some ((r,()),(())):=by
 obtain ⟨hc,g0,g1,rfl⟩:=O9 (t:=Uw) h
 obtain ⟨hc0,hc1,_⟩:A5 (.sl .str) a0.1=true∧A5 (.sl Fb) a0.2.1=true∧True:=by
  have s:=hc
  obtain ⟨h0,s⟩:=An s
  obtain ⟨h1,s⟩:=An s
  exact ⟨h0,h1,trivial⟩
 unfold Yg
 have hwt:(wt Uw a0:Int)=(wt (.sl .str) a0.1:Int) + (wt (.sl Fb) a0.2.1:Int):=by simp only [wt]; omega
 rw [hwt]
 have e0:F3 a0.1 (a1)=some (if a1 - (wt (.sl .str) a0.1:Int) < 0 then -1 else a1 - (wt (.sl .str) a0.1:Int)):=Vp (t:=(.sl .str)) (x:=a0.1) hc0 (by omega) (by omega)
 simp only [show F3 a0.1 (a1)=_ from e0,Option.bind_some]
 by_cases q0:a1 - (wt (.sl .str) a0.1:Int) < 0
 ·simp only [if_pos q0,show decide ((-1:Int) < 0)=true from rfl,cond_true]; try rw [if_pos (by omega)]
 ·simp only [if_neg q0,Bd q0,cond_false]
  have e1:M6 a0.2.1 (a1 - (wt (.sl .str) a0.1:Int))=some (if a1 - (wt (.sl .str) a0.1:Int) - (wt (.sl Fb) a0.2.1:Int) < 0 then -1 else a1 - (wt (.sl .str) a0.1:Int) - (wt (.sl Fb) a0.2.1:Int)):=Vp (t:=(.sl Fb)) (x:=a0.2.1) hc1 (by omega) (by omega)
  simp only [show M6 a0.2.1 (a1 - (wt (.sl .str) a0.1:Int))=_ from e1,Option.bind_some]
  by_cases q1:a1 - (wt (.sl .str) a0.1:Int) - (wt (.sl Fb) a0.2.1:Int) < 0
  ·simp only [if_pos q1,show decide ((-1:Int) < 0)=true from rfl,cond_true]; try rw [if_pos (by omega)]
  ·simp only [if_neg q1,Bd q1,cond_false]
   rw [if_neg (by omega)]
   simp only [Int.sub_sub,Int.add_assoc]
theorem A01:Bm Tryz.prog 21 Ag6:=
 Aw (pat:=Co) [] F8 (Ay (l:=[(24,Rk),(67,Abc)]) ⟨j7,Asu,trivial⟩) trivial Tryz.func21 (de:=fun x=>Yg x.1 x.2.1) (fun x r h=>A2 (A00 x.1 x.2.1) h) fun _=>by kernel_rfl
def Up (a:Ar) (left:Int):Option Int:=szM Aq a left
def A02:E5:=⟨[.rd Aq,.rd tI],[some 2,none],[.rd tI],[none]⟩
def Ag7:SD:=⟨A02,fun x=>(Up x.1 x.2.1).bind fun r=>some ((r,()),(()))⟩
def Yh (a0:Ar) (a1:Int):Option ((((Int)×Unit)×(Unit))):=
 bif decide (IntKind.i64.wrap (a1 - nI (ByteArray.size a0.1)) < 0) then some ((-1,()),()) else bif decide (IntKind.i64.wrap (IntKind.i64.wrap (a1 - nI (ByteArray.size a0.1)) - nI (ByteArray.size a0.2.1)) < 0) then some ((-1,()),()) else some ((IntKind.i64.wrap (IntKind.i64.wrap (a1 - nI (ByteArray.size a0.1)) - nI (ByteArray.size a0.2.1)),()),())
theorem A03 (a0:Ar) (a1:Int) r (h:Up a0 a1=some r):Yh a0 a1=some ((r,()),(())):=by
 obtain ⟨hc,g0,g1,rfl⟩:=O9 (t:=Aq) h
 obtain ⟨hc0,hc1,_⟩:A5 .str a0.1=true∧A5 .str a0.2.1=true∧True:=by
  have s:=hc
  obtain ⟨h0,s⟩:=An s
  obtain ⟨h1,s⟩:=An s
  exact ⟨h0,h1,trivial⟩
 unfold Yh
 have hwt:(wt Aq a0:Int)=(ByteArray.size a0.1:Int) + (ByteArray.size a0.2.1:Int):=by simp only [wt]; omega
 rw [hwt]
 have hs0:ByteArray.size a0.1 < 1152921504606846976:=Ajo hc0
 have e0:IntKind.i64.wrap (a1 - nI (ByteArray.size a0.1))=a1 - (ByteArray.size a0.1:Int):=Aj (by simp only [nI]; omega) (by simp only [nI]; omega)
 simp only [e0]
 by_cases q0:a1 - (ByteArray.size a0.1:Int) < 0
 ·simp only [Ap q0,cond_true]; try rw [if_pos (by omega)]
 ·simp only [Bd q0,cond_false]
  have hs1:ByteArray.size a0.2.1 < 1152921504606846976:=Ajo hc1
  have e1:IntKind.i64.wrap (a1 - (ByteArray.size a0.1:Int) - nI (ByteArray.size a0.2.1))=a1 - (ByteArray.size a0.1:Int) - (ByteArray.size a0.2.1:Int):=Aj (by simp only [nI]; omega) (by simp only [nI]; omega)
  simp only [e1]
  by_cases q1:a1 - (ByteArray.size a0.1:Int) - (ByteArray.size a0.2.1:Int) < 0
  ·simp only [Ap q1,cond_true]; try rw [if_pos (by omega)]
  ·simp only [Bd q1,cond_false]
   rw [if_neg (by omega)]
   simp only [Int.sub_sub,Int.add_assoc]
theorem A04:Bm Tryz.prog 160 Ag7:=
 Aw (pat:=Co) [] F8 (Ay (l:=[]) trivial) trivial Tryz.func160 (de:=fun x=>Yh x.1 x.2.1) (fun x r h=>A2 (A03 x.1 x.2.1) h) fun _=>by kernel_rfl
def N5 (a:List Ar) (left:Int):Option Int:=szM (.sl Aq) a left
def Awd:E5:=⟨[.rd (.sl Aq),.rd tI],[none,none],[.rd tI],[none]⟩
def Aem:SD:=⟨Awd,fun x=>(N5 x.1 x.2.1).bind fun r=>some ((r,()),(()))⟩
def Aen:Tb:=tb [(160,Ag7)]
def Io:Nat→Da×(Nat→Da):=Gs [(6,⟨[.sl 0 0 Aq],[(0,.lf (.d (.sl Aq))),(1,.lf (.d tI)),(5,.lf (.d tI))],[]⟩,[(2,⟨[],[(1,.lf (.d tI))],[]⟩),(1,⟨[],[(4,.lf (.d tI))],[]⟩)])]
def j8:Code:=(At (Bc Tryz.f118)).getD 0 .skip
def Ge (v0:List Ar) (v1 v5:Int):Nat:=((v0.length:Int) - v5).toNat + 1
def K7 {R:Type}  (NX:((List Ar)×(Int)×(Int)×Unit)→Option R) (X2:((Int)×Unit)→Option R) (X1:((Int)×Unit)→Option R) (v0:List Ar) (v1:Int) (v5:Int):Option R:=
 bif decide (v5 < nI v0.length) then bif decide (0≤v5) then bif decide (v5 < nI v0.length) then ((Up (v0.getD v5.toNat (Ac,Ac,())) v1).bind fun val=>some ((val,()),())).bind fun val=>bif decide (val.1.1 < 0) then X1 (-1,()) else NX (v0,val.1.1,IntKind.i64.wrap (v5 + 1),()) else none else none else X2 (v1,())
def Cy:Nat→(List Ar)→(Int)→(Int) →  Option (((Int)×Unit) ⊕ ((Int)×Unit))
 | 0,_,_,_=>none
 | m + 1,v0,v1,v5=>K7  (fun d=>Cy m d.1 d.2.1 d.2.2.1) (fun d=>some (.inl (d))) (fun d=>some (.inr (d))) v0 v1 v5
def Ape (d:(List Ar)×(Int)×(Int)×Unit):Option (((Int)×Unit) ⊕ ((Int)×Unit)):=(Ab (Ab (Ab Ae))) (Cy ((Ab (Ab (Ab Ae))) Ge d)) d
def Vs (a0:List Ar) (a1:Int):Option ((((Int)×Unit)×(Unit))):=
 bif decide (IntKind.i64.wrap (a1 - nI a0.length) < 0) then some ((-1,()),()) else ((fun d=>Cy (Ge d.1 d.2.1 d.2.2.1) d.1 d.2.1 d.2.2.1) (a0,IntKind.i64.wrap (a1 - nI a0.length),0,())).bind fun val=>Bw (fun d=>some (d,())) (fun d=>some (d,())) val
theorem Awe (a0:List Ar) (a1:Int) r (h:N5 a0 a1=some r):Vs a0 a1=some ((r,()),(())):=by
 obtain ⟨hc,g0,g1,rfl⟩:=O9 (t:=.sl Aq) h
 obtain ⟨hl0,hall⟩:=M5 hc
 have hl:a0.length < 1152921504606846976:=hl0
 clear hl0 hc
 ·unfold Vs
  have hw1:IntKind.i64.wrap (a1 - nI a0.length)=a1 - (a0.length:Int):=Aj (by simp only [nI]; omega) (by simp only [nI]; omega)
  rw [hw1]
  have hL:=Ao3 (xs:=a0) ((Ac),(Ac),()) (fun x:Ar=>wt Aq x) (g:=fun m l i=>Cy m a0 l i) (ok:=fun l=>.inl (l,())) (bad:=.inr (-1,())) (fun m i l hi h0 h1=>by
   show Cy (m + 1) a0 l i=_
   simp only [Cy,K7]
   rw [Qv hi,Gt,wI (by omega)]
   simp only [cond_true,Eo]
   have hE:Up (List.getD (α:=Ar) a0 i ((Ac),(Ac),())) l=some (if l - (wt Aq (List.getD (α:=Ar) a0 i ((Ac),(Ac),())):Int) < 0 then -1 else l - wt Aq (List.getD (α:=Ar) a0 i ((Ac),(Ac),()))):=by
    exact Vp (t:=Aq) (x:=(List.getD (α:=Ar) a0 i ((Ac),(Ac),()))) (hall _ (N2 ((Ac),(Ac),()) hi)) h0 h1
   rw [hE]
   by_cases q:l - (wt Aq (List.getD (α:=Ar) a0 i ((Ac),(Ac),())):Int) < 0
   ·simp only [if_pos q,Ap q,Option.bind_some,cond_true]; rfl
   ·simp only [if_neg q,Bd q,Option.bind_some,cond_false]
  ) (fun m l=>by
   show Cy (m + 1) a0 l a0.length=_
   simp only [Cy,K7]
   rw [Jx]
   rfl) (Ge a0 (a1 - (a0.length:Int)) 0) 0 (a1 - (a0.length:Int)) (by omega) (by simp [Ge])
  have hW:wt (.sl Aq) a0=a0.length + (a0.map (fun x:Ar=>wt Aq x)).sum:=rfl
  rw [hW]
  by_cases q:a1 - (a0.length:Int) < 0
  ·simp only [Ap q,cond_true]; rw [if_pos (by omega)]
  ·simp only [Bd q,cond_false]
   have hL:=hL (by omega) (by omega)
   rw [List.drop_zero] at hL
   show (Cy (Ge a0 (a1 - (a0.length:Int)) 0) a0 (a1 - (a0.length:Int)) 0).bind _=_
   have hL':Cy (Ge a0 (a1 - (a0.length:Int)) 0) a0 (a1 - (a0.length:Int)) 0=_:=hL
   rw [hL']
   have hsum:a1 - ((a0.length + (a0.map (fun x:Ar=>wt Aq x)).sum:Nat):Int)=a1 - (a0.length:Int) - ((a0.map (fun x:Ar=>wt Aq x)).sum:Int):=by omega
   rw [hsum]
   by_cases q2:a1 - (a0.length:Int) - ((a0.map (fun x:Ar=>wt Aq x)).sum:Int) < 0
   ·simp only [if_pos q2]; rfl
   ·simp only [if_neg q2]; rfl
def j9 {R:Type} (k:Kt R):=(Bw (Ko (Io 6) (.exit 0) 2 k) (Ko (Io 6) .ret 1 k))
def Ag8 {R:Type}:Lt R Io:=(E3 (pat:=Io) 6 (fun d k=>(Ape d).bind (j9 k)) F8)
theorem Aeo:Ax Tryz.prog Aen:=Ay ⟨A04,trivial⟩
theorem Apf {R:Type}:A4 Tryz.prog R 27 0 Io Ag8 j8:=
 Cj (cfg:=⟨Aen,0,27,Io⟩) 6 [] (fun NX X d=>(Ab (Ab (Ab Ae))) (K7  NX (fun e=>X (.inl (e))) (fun e=>X (.inr (e)))) d) (fun m d=>(Ab (Ab (Ab Ae))) (Cy m) d) (fun d=>(Ab (Ab (Ab Ae))) Ge d) j9 Aeo trivial (fun f NX d=>by simp only [u4,Ab,Ae]; unfold K7; simp only [nb])
theorem Awf:Bm Tryz.prog 118 Aem:=
 Aw (pat:=Io) [j8] Ag8 Aeo ⟨Apf,trivial⟩ Tryz.func118 (de:=fun x=>Vs x.1 x.2.1) (fun x r h=>A2 (Awe x.1 x.2.1) h) fun _=>by kernel_rfl
def Jz (a:Dh) (left:Int):Option Int:=szM B6 a left
def Awg:E5:=⟨[.rd B6,.rd tI],[some 1,none],[.rd tI],[none]⟩
def Vt:SD:=⟨Awg,fun x=>(Jz x.1 x.2.1).bind fun r=>some ((r,()),(()))⟩
def Vu (a0:Dh) (a1:Int):Option ((((Int)×Unit)×(Unit))):=
 ((N5 a0.1 a1).bind fun val=>some ((val,()),())).bind fun val=>bif decide (val.1.1 < 0) then some ((-1,()),()) else some val
theorem Awh (a0:Dh) (a1:Int) r (h:Jz a0 a1=some r):Vu a0 a1=some ((r,()),(())):=by
 obtain ⟨hc,g0,g1,rfl⟩:=O9 (t:=B6) h
 obtain ⟨hc0,_⟩:A5 (.sl Aq) a0.1=true∧True:=by
  have s:=hc
  obtain ⟨h0,s⟩:=An s
  exact ⟨h0,trivial⟩
 unfold Vu
 have hwt:(wt B6 a0:Int)=(wt (.sl Aq) a0.1:Int):=by simp only [wt]; omega
 rw [hwt]
 have e0:N5 a0.1 (a1)=some (if a1 - (wt (.sl Aq) a0.1:Int) < 0 then -1 else a1 - (wt (.sl Aq) a0.1:Int)):=Vp (t:=(.sl Aq)) (x:=a0.1) hc0 (by omega) (by omega)
 simp only [show N5 a0.1 (a1)=_ from e0,Option.bind_some]
 by_cases q0:a1 - (wt (.sl Aq) a0.1:Int) < 0
 ·simp only [if_pos q0,show decide ((-1:Int) < 0)=true from rfl,cond_true]; try rw [if_pos (by omega)]
 ·simp only [if_neg q0,Bd q0,cond_false]
  try rw [if_neg q0]
theorem Aep:Bm Tryz.prog 68 Vt:=
 Aw (pat:=Co) [] F8 (Ay (l:=[(118,Aem)]) ⟨Awf,trivial⟩) trivial Tryz.func68 (de:=fun x=>Vu x.1 x.2.1) (fun x r h=>A2 (Awh x.1 x.2.1) h) fun _=>by kernel_rfl
def N6 (a:Ls) (left:Int):Option Int:=szM Il a left
def Awi:E5:=⟨[.rd Il,.rd tI],[some 10,none],[.rd tI],[none]⟩
def Aeq:SD:=⟨Awi,fun x=>(N6 x.1 x.2.1).bind fun r=>some ((r,()),(()))⟩
def Vv (a0:Ls) (a1:Int):Option ((((Int)×Unit)×(Unit))):=
 ((Jz a0.2.2.2.2.2.2.1 a1).bind fun val=>some ((val,()),())).bind fun val=>bif decide (val.1.1 < 0) then some ((-1,()),()) else some val
theorem Awj (a0:Ls) (a1:Int) r (h:N6 a0 a1=some r):Vv a0 a1=some ((r,()),(())):=by
 obtain ⟨hc,g0,g1,rfl⟩:=O9 (t:=Il) h
 obtain ⟨hc0,hc1,hc2,hc3,hc4,hc5,hc6,_⟩:A5 tI a0.1=true∧A5 tI a0.2.1=true∧A5 tI a0.2.2.1=true∧A5 yRt a0.2.2.2.1=true∧A5 tI a0.2.2.2.2.1=true∧A5 tI a0.2.2.2.2.2.1=true∧A5 B6 a0.2.2.2.2.2.2.1=true∧True:=by
  have s:=hc
  obtain ⟨h0,s⟩:=An s
  obtain ⟨h1,s⟩:=An s
  obtain ⟨h2,s⟩:=An s
  obtain ⟨h3,s⟩:=An s
  obtain ⟨h4,s⟩:=An s
  obtain ⟨h5,s⟩:=An s
  obtain ⟨h6,s⟩:=An s
  exact ⟨h0,h1,h2,h3,h4,h5,h6,trivial⟩
 unfold Vv
 have hwt:(wt Il a0:Int)=(wt B6 a0.2.2.2.2.2.2.1:Int):=by simp only [wt]; omega
 rw [hwt]
 have e0:Jz a0.2.2.2.2.2.2.1 (a1)=some (if a1 - (wt B6 a0.2.2.2.2.2.2.1:Int) < 0 then -1 else a1 - (wt B6 a0.2.2.2.2.2.2.1:Int)):=Vp (t:=B6) (x:=a0.2.2.2.2.2.2.1) hc6 (by omega) (by omega)
 simp only [show Jz a0.2.2.2.2.2.2.1 (a1)=_ from e0,Option.bind_some]
 by_cases q0:a1 - (wt B6 a0.2.2.2.2.2.2.1:Int) < 0
 ·simp only [if_pos q0,show decide ((-1:Int) < 0)=true from rfl,cond_true]; try rw [if_pos (by omega)]
 ·simp only [if_neg q0,Bd q0,cond_false]
  try rw [if_neg q0]
theorem Awk:Bm Tryz.prog 22 Aeq:=
 Aw (pat:=Co) [] F8 (Ay (l:=[(68,Vt)]) ⟨Aep,trivial⟩) trivial Tryz.func22 (de:=fun x=>Vv x.1 x.2.1) (fun x r h=>A2 (Awj x.1 x.2.1) h) fun _=>by kernel_rfl
def M7 (a:List Dh) (left:Int):Option Int:=szM (.sl B6) a left
def Asv:E5:=⟨[.rd (.sl B6),.rd tI],[none,none],[.rd tI],[none]⟩
def Abf:SD:=⟨Asv,fun x=>(M7 x.1 x.2.1).bind fun r=>some ((r,()),(()))⟩
def Abg:Tb:=tb [(68,Vt)]
def G6:Nat→Da×(Nat→Da):=Gs [(6,⟨[.sl 0 0 B6],[(0,.lf (.d (.sl B6))),(1,.lf (.d tI)),(5,.lf (.d tI))],[]⟩,[(2,⟨[],[(1,.lf (.d tI))],[]⟩),(1,⟨[],[(4,.lf (.d tI))],[]⟩)])]
def Yi:Code:=(At (Bc Tryz.f23)).getD 0 .skip
def Fi (v0:List Dh) (v1 v5:Int):Nat:=((v0.length:Int) - v5).toNat + 1
def J0 {R:Type}  (NX:((List Dh)×(Int)×(Int)×Unit)→Option R) (X2:((Int)×Unit)→Option R) (X1:((Int)×Unit)→Option R) (v0:List Dh) (v1:Int) (v5:Int):Option R:=
 bif decide (v5 < nI v0.length) then bif decide (0≤v5) then bif decide (v5 < nI v0.length) then ((Jz (v0.getD v5.toNat ([],())) v1).bind fun val=>some ((val,()),())).bind fun val=>bif decide (val.1.1 < 0) then X1 (-1,()) else NX (v0,val.1.1,IntKind.i64.wrap (v5 + 1),()) else none else none else X2 (v1,())
def Cq:Nat→(List Dh)→(Int)→(Int) →  Option (((Int)×Unit) ⊕ ((Int)×Unit))
 | 0,_,_,_=>none
 | m + 1,v0,v1,v5=>J0  (fun d=>Cq m d.1 d.2.1 d.2.2.1) (fun d=>some (.inl (d))) (fun d=>some (.inr (d))) v0 v1 v5
def Amk (d:(List Dh)×(Int)×(Int)×Unit):Option (((Int)×Unit) ⊕ ((Int)×Unit)):=(Ab (Ab (Ab Ae))) (Cq ((Ab (Ab (Ab Ae))) Fi d)) d
def Tn (a0:List Dh) (a1:Int):Option ((((Int)×Unit)×(Unit))):=
 bif decide (IntKind.i64.wrap (a1 - nI a0.length) < 0) then some ((-1,()),()) else ((fun d=>Cq (Fi d.1 d.2.1 d.2.2.1) d.1 d.2.1 d.2.2.1) (a0,IntKind.i64.wrap (a1 - nI a0.length),0,())).bind fun val=>Bw (fun d=>some (d,())) (fun d=>some (d,())) val
theorem Asw (a0:List Dh) (a1:Int) r (h:M7 a0 a1=some r):Tn a0 a1=some ((r,()),(())):=by
 obtain ⟨hc,g0,g1,rfl⟩:=O9 (t:=.sl B6) h
 obtain ⟨hl0,hall⟩:=M5 hc
 have hl:a0.length < 1152921504606846976:=hl0
 clear hl0 hc
 ·unfold Tn
  have hw1:IntKind.i64.wrap (a1 - nI a0.length)=a1 - (a0.length:Int):=Aj (by simp only [nI]; omega) (by simp only [nI]; omega)
  rw [hw1]
  have hL:=Ao3 (xs:=a0) ([],()) (fun x:Dh=>wt B6 x) (g:=fun m l i=>Cq m a0 l i) (ok:=fun l=>.inl (l,())) (bad:=.inr (-1,())) (fun m i l hi h0 h1=>by
   show Cq (m + 1) a0 l i=_
   simp only [Cq,J0]
   rw [Qv hi,Gt,wI (by omega)]
   simp only [cond_true,Eo]
   have hE:Jz (List.getD (α:=Dh) a0 i ([],())) l=some (if l - (wt B6 (List.getD (α:=Dh) a0 i ([],())):Int) < 0 then -1 else l - wt B6 (List.getD (α:=Dh) a0 i ([],()))):=by
    exact Vp (t:=B6) (x:=(List.getD (α:=Dh) a0 i ([],()))) (hall _ (N2 ([],()) hi)) h0 h1
   rw [hE]
   by_cases q:l - (wt B6 (List.getD (α:=Dh) a0 i ([],())):Int) < 0
   ·simp only [if_pos q,Ap q,Option.bind_some,cond_true]; rfl
   ·simp only [if_neg q,Bd q,Option.bind_some,cond_false]
  ) (fun m l=>by
   show Cq (m + 1) a0 l a0.length=_
   simp only [Cq,J0]
   rw [Jx]
   rfl) (Fi a0 (a1 - (a0.length:Int)) 0) 0 (a1 - (a0.length:Int)) (by omega) (by simp [Fi])
  have hW:wt (.sl B6) a0=a0.length + (a0.map (fun x:Dh=>wt B6 x)).sum:=rfl
  rw [hW]
  by_cases q:a1 - (a0.length:Int) < 0
  ·simp only [Ap q,cond_true]; rw [if_pos (by omega)]
  ·simp only [Bd q,cond_false]
   have hL:=hL (by omega) (by omega)
   rw [List.drop_zero] at hL
   show (Cq (Fi a0 (a1 - (a0.length:Int)) 0) a0 (a1 - (a0.length:Int)) 0).bind _=_
   have hL':Cq (Fi a0 (a1 - (a0.length:Int)) 0) a0 (a1 - (a0.length:Int)) 0=_:=hL
   rw [hL']
   have hsum:a1 - ((a0.length + (a0.map (fun x:Dh=>wt B6 x)).sum:Nat):Int)=a1 - (a0.length:Int) - ((a0.map (fun x:Dh=>wt B6 x)).sum:Int):=by omega
   rw [hsum]
   by_cases q2:a1 - (a0.length:Int) - ((a0.map (fun x:Dh=>wt B6 x)).sum:Int) < 0
   ·simp only [if_pos q2]; rfl
   ·simp only [if_neg q2]; rfl
def Yj {R:Type} (k:Kt R):=(Bw (Ko (G6 6) (.exit 0) 2 k) (Ko (G6 6) .ret 1 k))
def Aer {R:Type}:Lt R G6:=(E3 (pat:=G6) 6 (fun d k=>(Amk d).bind (Yj k)) F8)
theorem Abh:Ax Tryz.prog Abg:=Ay ⟨Aep,trivial⟩
theorem Aml {R:Type}:A4 Tryz.prog R 27 0 G6 Aer Yi:=
 Cj (cfg:=⟨Abg,0,27,G6⟩) 6 [] (fun NX X d=>(Ab (Ab (Ab Ae))) (J0  NX (fun e=>X (.inl (e))) (fun e=>X (.inr (e)))) d) (fun m d=>(Ab (Ab (Ab Ae))) (Cq m) d) (fun d=>(Ab (Ab (Ab Ae))) Fi d) Yj Abh trivial (fun f NX d=>by simp only [u4,Ab,Ae]; unfold J0; simp only [nb])
theorem Asx:Bm Tryz.prog 23 Abf:=
 Aw (pat:=G6) [Yi] Aer Abh ⟨Aml,trivial⟩ Tryz.func23 (de:=fun x=>Tn x.1 x.2.1) (fun x r h=>A2 (Asw x.1 x.2.1) h) fun _=>by kernel_rfl
def Rn (a:S4) (left:Int):Option Int:=szM Xf a left
def Awl:E5:=⟨[.rd Xf,.rd tI],[some 16,none],[.rd tI],[none]⟩
def Aes:SD:=⟨Awl,fun x=>(Rn x.1 x.2.1).bind fun r=>some ((r,()),(()))⟩
def Vw (a0:S4) (a1:Int):Option ((((Int)×Unit)×(Unit))):=
 ((Pb a0.2.1 a1).bind fun val=>some ((val,()),())).bind fun val=>bif decide (val.1.1 < 0) then some ((-1,()),()) else ((N6 a0.2.2.2.1 val.1.1).bind fun val=>some ((val,()),())).bind fun val=>bif decide (val.1.1 < 0) then some ((-1,()),()) else ((M7 a0.2.2.2.2.1 val.1.1).bind fun val=>some ((val,()),())).bind fun val=>bif decide (val.1.1 < 0) then some ((-1,()),()) else ((F3 a0.2.2.2.2.2.1 val.1.1).bind fun val=>some ((val,()),())).bind fun val=>bif decide (val.1.1 < 0) then some ((-1,()),()) else some val
theorem Awm (a0:S4) (a1:Int) r (h:Rn a0 a1=some r):Vw a0 a1=some ((r,()),(())):=by
 obtain ⟨hc,g0,g1,rfl⟩:=O9 (t:=Xf) h
 obtain ⟨hc0,hc1,hc2,hc3,hc4,hc5,_⟩:A5 tI a0.1=true∧A5 Uw a0.2.1=true∧A5 .bool a0.2.2.1=true∧A5 Il a0.2.2.2.1=true∧A5 (.sl B6) a0.2.2.2.2.1=true∧A5 (.sl .str) a0.2.2.2.2.2.1=true∧True:=by
  have s:=hc
  obtain ⟨h0,s⟩:=An s
  obtain ⟨h1,s⟩:=An s
  obtain ⟨h2,s⟩:=An s
  obtain ⟨h3,s⟩:=An s
  obtain ⟨h4,s⟩:=An s
  obtain ⟨h5,s⟩:=An s
  exact ⟨h0,h1,h2,h3,h4,h5,trivial⟩
 unfold Vw
 have hwt:(wt Xf a0:Int)=(wt Uw a0.2.1:Int) + (wt Il a0.2.2.2.1:Int) + (wt (.sl B6) a0.2.2.2.2.1:Int) + (wt (.sl .str) a0.2.2.2.2.2.1:Int):=by simp only [wt]; omega
 rw [hwt]
 have e0:Pb a0.2.1 (a1)=some (if a1 - (wt Uw a0.2.1:Int) < 0 then -1 else a1 - (wt Uw a0.2.1:Int)):=Vp (t:=Uw) (x:=a0.2.1) hc1 (by omega) (by omega)
 simp only [show Pb a0.2.1 (a1)=_ from e0,Option.bind_some]
 by_cases q0:a1 - (wt Uw a0.2.1:Int) < 0
 ·simp only [if_pos q0,show decide ((-1:Int) < 0)=true from rfl,cond_true]; try rw [if_pos (by omega)]
 ·simp only [if_neg q0,Bd q0,cond_false]
  have e1:N6 a0.2.2.2.1 (a1 - (wt Uw a0.2.1:Int))=some (if a1 - (wt Uw a0.2.1:Int) - (wt Il a0.2.2.2.1:Int) < 0 then -1 else a1 - (wt Uw a0.2.1:Int) - (wt Il a0.2.2.2.1:Int)):=Vp (t:=Il) (x:=a0.2.2.2.1) hc3 (by omega) (by omega)
  simp only [show N6 a0.2.2.2.1 (a1 - (wt Uw a0.2.1:Int))=_ from e1,Option.bind_some]
  by_cases q1:a1 - (wt Uw a0.2.1:Int) - (wt Il a0.2.2.2.1:Int) < 0
  ·simp only [if_pos q1,show decide ((-1:Int) < 0)=true from rfl,cond_true]; try rw [if_pos (by omega)]
  ·simp only [if_neg q1,Bd q1,cond_false]
   have e2:M7 a0.2.2.2.2.1 (a1 - (wt Uw a0.2.1:Int) - (wt Il a0.2.2.2.1:Int))=some (if a1 - (wt Uw a0.2.1:Int) - (wt Il a0.2.2.2.1:Int) - (wt (.sl B6) a0.2.2.2.2.1:Int) < 0 then -1 else a1 - (wt Uw a0.2.1:Int) - (wt Il a0.2.2.2.1:Int) - (wt (.sl B6) a0.2.2.2.2.1:Int)):=Vp (t:=(.sl B6)) (x:=a0.2.2.2.2.1) hc4 (by omega) (by omega)
   simp only [show M7 a0.2.2.2.2.1 (a1 - (wt Uw a0.2.1:Int) - (wt Il a0.2.2.2.1:Int))=_ from e2,Option.bind_some]
   by_cases q2:a1 - (wt Uw a0.2.1:Int) - (wt Il a0.2.2.2.1:Int) - (wt (.sl B6) a0.2.2.2.2.1:Int) < 0
   ·simp only [if_pos q2,show decide ((-1:Int) < 0)=true from rfl,cond_true]; try rw [if_pos (by omega)]
   ·simp only [if_neg q2,Bd q2,cond_false]
    have e3:F3 a0.2.2.2.2.2.1 (a1 - (wt Uw a0.2.1:Int) - (wt Il a0.2.2.2.1:Int) - (wt (.sl B6) a0.2.2.2.2.1:Int))=some (if a1 - (wt Uw a0.2.1:Int) - (wt Il a0.2.2.2.1:Int) - (wt (.sl B6) a0.2.2.2.2.1:Int) - (wt (.sl .str) a0.2.2.2.2.2.1:Int) < 0 then -1 else a1 - (wt Uw a0.2.1:Int) - (wt Il a0.2.2.2.1:Int) - (wt (.sl B6) a0.2.2.2.2.1:Int) - (wt (.sl .str) a0.2.2.2.2.2.1:Int)):=Vp (t:=(.sl .str)) (x:=a0.2.2.2.2.2.1) hc5 (by omega) (by omega)
    simp only [show F3 a0.2.2.2.2.2.1 (a1 - (wt Uw a0.2.1:Int) - (wt Il a0.2.2.2.1:Int) - (wt (.sl B6) a0.2.2.2.2.1:Int))=_ from e3,Option.bind_some]
    by_cases q3:a1 - (wt Uw a0.2.1:Int) - (wt Il a0.2.2.2.1:Int) - (wt (.sl B6) a0.2.2.2.2.1:Int) - (wt (.sl .str) a0.2.2.2.2.2.1:Int) < 0
    ·simp only [if_pos q3,show decide ((-1:Int) < 0)=true from rfl,cond_true]; try rw [if_pos (by omega)]
    ·simp only [if_neg q3,Bd q3,cond_false]
     rw [if_neg (by omega)]
     simp only [Int.sub_sub,Int.add_assoc]
theorem Awn:Bm Tryz.prog 5 Aes:=
 Aw (pat:=Co) [] F8 (Ay (l:=[(21,Ag6),(22,Aeq),(23,Abf),(24,Rk)]) ⟨A01,Awk,Asx,j7,trivial⟩) trivial Tryz.func5 (de:=fun x=>Vw x.1 x.2.1) (fun x r h=>A2 (Awm x.1 x.2.1) h) fun _=>by kernel_rfl
def Awo:E5:=⟨[.rd tI],[none],[.rd .bool],[none]⟩
def Cw (a0:Int):Option ((((Bool)×Unit)×(Unit))):=
 bif decide (a0≥1) then some ((decide (a0≤8),()),()) else some ((false,()),())
def Dr:SD:=⟨Awo,fun x=>Cw x.1⟩
theorem Eb:Bm Tryz.prog 69 Dr:=
 Aw (pat:=Co) [] F8 (Ay (l:=[]) trivial) trivial Tryz.func69 (de:=fun x=>Cw x.1) (fun x r h=>h) fun _=>by kernel_rfl
def Oq (d:Dk) (at_:Int) (data:Aa):Bool:=Av6 d.1.length (at_,data,())
def Apg:E5:=⟨[.rd Uw,.rd tI,.rd .str],[some 2,none,none],[.rd .bool],[none]⟩
def k7:SD:=⟨Apg,fun x=>some (((Oq x.1 x.2.1 x.2.2.1),()),(()))⟩
def Ro (a0:Dk) (a1:Int) (a2:Aa):Option ((((Bool)×Unit)×(Unit))):=
 bif decide (a1≥0) then bif decide (a1 < nI (List.length a0.1)) then some ((nI a2.size==64,()),()) else some ((false,()),()) else some ((false,()),())
theorem Aph (a0:Dk) (a1:Int) (a2:Aa):Ro a0 a1 a2=some ((Oq a0 a1 a2,()),()):=by
 unfold Ro Oq Av6
 have e:(nI (ByteArray.size a2)==64)=decide (a2.size=64):=by
  have:=Be7 a2.size 64
  simp only [bne] at this
  cases h:(nI (ByteArray.size a2)==((64:Nat):Int))<;>rw [h] at this<;>cases h2:decide (a2.size=64)<;>rw [h2] at this<;>first | (cases this; done) | exact h
 rw [e]
 by_cases h1:a1≥0
 ·have:decide (0≤a1)=true:=by simpa using h1
  rw [Ap h1]
  simp only [this,cond_true,Bool.true_and,nI]
  cases decide (a1 < (a0.1.length:Int))<;>rfl
 ·have:decide (0≤a1)=false:=by simpa using h1
  rw [Bd h1]
  simp only [this]
  rfl
theorem Api:Bm Tryz.prog 119 k7:=
 Aw (pat:=Co) [] F8 (Ay (l:=[]) trivial) trivial Tryz.func119 (de:=fun x=>Ro x.1 x.2.1 x.2.2.1) (fun x r h=>(Aph x.1 x.2.1 x.2.2.1).trans h) fun _=>by kernel_rfl
def G7 (d:Dk):Bool:=B1 d
def Apj:E5:=⟨[.rd Uw],[some 2],[.rd .bool],[none]⟩
def K8:SD:=⟨Apj,fun x=>some (((G7 x.1),()),(()))⟩
def Rp:Tb:=tb [(119,k7)]
def Cl:Nat→Da×(Nat→Da):=Gs [(5,⟨[.boxSl 1 0 .str,.boxSl 1 1 Fb],[(1,.lf (.ptr 0 0)),(3,.lf (.d tI))],[.box 44 [.d (.sl .str),.d (.sl Fb)]]⟩,[(2,⟨[.boxSl 1 0 .str,.boxSl 1 1 Fb],[(1,.lf (.ptr 0 0))],[.box 44 [.d (.sl .str),.d (.sl Fb)]]⟩),(1,⟨[],[(2,.lf (.d .bool))],[]⟩)]),(10,⟨[.boxSl 1 0 .str,.boxSl 1 1 Fb],[(1,.lf (.ptr 0 0)),(4,.lf (.d tI))],[.box 44 [.d (.sl .str),.d (.sl Fb)]]⟩,[(4,p0),(1,⟨[],[(2,.lf (.d .bool))],[]⟩)])]
def Wh:Code:=(At (Bc Tryz.f70)).getD 0 .skip
def Uz:Code:=(At (Bc Tryz.f70)).getD 1 .skip
def D1 (v4:Int) (b0_0:List Aa) (b0_1:List Wr):Nat:=((b0_1.length:Int) - v4).toNat + 1
def Hw {R:Type}  (NX:((Int)×(List Aa)×(List Wr)×Unit)→Option R) (X4:(Unit)→Option R) (X1:((Bool)×Unit)→Option R) (v4:Int) (b0_0:List Aa) (b0_1:List Wr):Option R:=
 bif decide (v4 < nI b0_1.length) then bif decide (0≤v4) then bif decide (v4 < nI b0_1.length) then bif decide (0≤v4) then bif decide (v4 < nI b0_1.length) then bif !Oq (b0_0,b0_1,()) (b0_1.getD v4.toNat (0,Ac,())).1 (b0_1.getD v4.toNat (0,Ac,())).2.1 then X1 (false,()) else NX (IntKind.i64.wrap (v4 + 1),b0_0,b0_1,()) else none else none else none else none else X4 PUnit.unit
def B2:Nat→(Int)→(List Aa)→(List Wr) →  Option ((Unit) ⊕ ((Bool)×Unit))
 | 0,_,_,_=>none
 | m + 1,v4,b0_0,b0_1=>Hw  (fun d=>B2 m d.1 d.2.1 d.2.2.1) (fun d=>some (.inl (d))) (fun d=>some (.inr (d))) v4 b0_0 b0_1
def Ag9 (d:(Int)×(List Aa)×(List Wr)×Unit):Option ((Unit) ⊕ ((Bool)×Unit)):=(Ab (Ab (Ab Ae))) (B2 ((Ab (Ab (Ab Ae))) D1 d)) d
def Er (v3:Int) (b0_0:List Aa) (b0_1:List Wr):Nat:=((b0_0.length:Int) - v3).toNat + 1
def Iw {R:Type}  (NX:((Int)×(List Aa)×(List Wr)×Unit)→Option R) (X2:Dk→Option R) (X1:((Bool)×Unit)→Option R) (v3:Int) (b0_0:List Aa) (b0_1:List Wr):Option R:=
 bif decide (v3 < nI b0_0.length) then bif decide (0≤v3) then bif decide (v3 < nI b0_0.length) then bif nI (ByteArray.size (b0_0.getD v3.toNat (Ac))) != 64 then X1 (false,()) else NX (IntKind.i64.wrap (v3 + 1),b0_0,b0_1,()) else none else none else X2 (b0_0,b0_1,())
def Ce:Nat→(Int)→(List Aa)→(List Wr) →  Option (Dk ⊕ ((Bool)×Unit))
 | 0,_,_,_=>none
 | m + 1,v3,b0_0,b0_1=>Iw  (fun d=>Ce m d.1 d.2.1 d.2.2.1) (fun d=>some (.inl (d))) (fun d=>some (.inr (d))) v3 b0_0 b0_1
def Aj1 (d:(Int)×(List Aa)×(List Wr)×Unit):Option (Dk ⊕ ((Bool)×Unit)):=(Ab (Ab (Ab Ae))) (Ce ((Ab (Ab (Ab Ae))) Er d)) d
def Rq (a0:Dk):Option ((((Bool)×Unit)×(Unit))):=
 bif decide (nI (List.length a0.1) < 8) then some ((false,()),()) else bif decide (nI (List.length a0.1) > 200) then some ((false,()),()) else bif decide (nI (List.length a0.2.1) > 300) then some ((false,()),()) else ((fun d=>Ce (Er d.1 d.2.1 d.2.2.1) d.1 d.2.1 d.2.2.1) (0,a0)).bind fun val=>Bw (fun d=>((fun d=>B2 (D1 d.1 d.2.1 d.2.2.1) d.1 d.2.1 d.2.2.1) (0,d)).bind fun val=>Bw (fun d=>some ((true,()),())) (fun d=>some (d,())) val) (fun d=>some (d,())) val
theorem Apk (a0:Dk):Rq a0=some ((G7 a0,()),()):=by
 unfold Rq G7 B1
 have c1:decide (nI a0.2.1.length > 300)=!decide (a0.2.1.length≤300):=Agx _ 300
 have c2:decide (nI a0.1.length > 200)=!decide ((a0.1.length:Int)≤200):=by
  rw [show decide (nI a0.1.length > 200)=!decide (a0.1.length≤200) from Agx _ 200]
  congr 1
  exact decide_eq_decide.2 (by omega)
 have c3:decide (nI a0.1.length < 8)=!decide (8≤(a0.1.length:Int)):=by
  by_cases q:8≤(a0.1.length:Int)
  ·rw [Ap q,Bd (by simp [nI]; omega)]; rfl
  ·rw [Bd q,Ap (by simp [nI]; omega)]; rfl
 rw [c1,c2,c3]
 unfold Fg
 by_cases h8:8≤(a0.1.length:Int)
 ·rw [Ap h8]
  by_cases h2:(a0.1.length:Int)≤200
  ·rw [Ap h2]
   by_cases hp:a0.2.1.length≤300
   ·rw [Ap hp]
    have hL:=L2 (n:=a0.1.length) (fun i=>decide ((a0.1.getD i z0).size=64)) (g:=fun m i=>Ce m i a0.1 a0.2.1) (ok:=.inl (a0.1,a0.2.1,())) (bad:=.inr (false,())) (fun m i hi=>by
     show Ce (m + 1) i a0.1 a0.2.1=_
     simp only [Ce,Iw]
     have g1:(nI (ByteArray.size (List.getD a0.1 i (Ac))) != 64)=!decide ((a0.1.getD i z0).size=64):=Be7 _ 64
     rw [Qv hi,Gt,wI (show i < 4611686018427387904 by omega),Eo,g1]
     cases decide ((a0.1.getD i z0).size=64)<;>rfl) (fun m=>by
     show Ce (m + 1) (a0.1.length:Int) a0.1 a0.2.1=_
     simp only [Ce,Iw]
     rw [Jx]
     rfl) (Er 0 a0.1 a0.2.1) 0 (by omega) (by simp [Er])
    have hL':Ce (Er 0 a0.1 a0.2.1) 0 a0.1 a0.2.1=_:=hL
    have hM:=L2 (n:=a0.2.1.length) (fun i=>Av6 a0.1.length (a0.2.1.getD i zW)) (g:=fun m i=>B2 m i a0.1 a0.2.1) (ok:=.inl ()) (bad:=.inr (false,())) (fun m i hi=>by
     show B2 (m + 1) i a0.1 a0.2.1=_
     simp only [B2,Hw]
     rw [Qv hi,Gt,wI (show i < 4611686018427387904 by omega),Eo]
     show (bif !Av6 a0.1.length (a0.2.1.getD i zW) then _ else _)=_
     cases Av6 a0.1.length (a0.2.1.getD i zW)<;>rfl) (fun m=>by
     show B2 (m + 1) (a0.2.1.length:Int) a0.1 a0.2.1=_
     simp only [B2,Hw]
     rw [Jx]
     rfl) (D1 0 a0.1 a0.2.1) 0 (by omega) (by simp [D1])
    have hM':B2 (D1 0 a0.1 a0.2.1) 0 a0.1 a0.2.1=_:=hM
    show (Ce (Er 0 a0.1 a0.2.1) 0 a0.1 a0.2.1).bind _=_
    rw [hL']
    rw [Nat.sub_zero] at hM' ⊢
    cases (List.range' 0 a0.1.length).all (fun i=>decide ((a0.1.getD i z0).size=64)) with
    | false=>rfl
    | true=>
     show (B2 (D1 0 a0.1 a0.2.1) 0 a0.1 a0.2.1).bind _=_
     rw [hM']
     cases (List.range' 0 a0.2.1.length).all (fun i=>Av6 a0.1.length (a0.2.1.getD i zW))<;>rfl
   ·rw [Bd hp]
    rfl
  ·rw [Bd h2]
   rfl
 ·rw [Bd h8]
  rfl
def Wi {R:Type} (k:Kt R):=(Bw (Ko (Cl 5) (.exit 0) 2 k) (Ko (Cl 5) .ret 1 k))
def U0 {R:Type} (k:Kt R):=(Bw (Ko (Cl 10) (.exit 2) 4 k) (Ko (Cl 10) .ret 1 k))
def To {R:Type}:Lt R Cl:=(E3 (pat:=Cl) 5 (fun d k=>(Aj1 d).bind (Wi k)) (E3 (pat:=Cl) 10 (fun d k=>(Ag9 d).bind (U0 k)) F8))
theorem Rr:Ax Tryz.prog Rp:=Ay ⟨Api,trivial⟩
theorem Aha {R:Type}:A4 Tryz.prog R 57 0 Cl To Uz:=
 Cj (cfg:=⟨Rp,0,57,Cl⟩) 10 [] (fun NX X d=>(Ab (Ab (Ab Ae))) (Hw  NX (fun e=>X (.inl (e))) (fun e=>X (.inr (e)))) d) (fun m d=>(Ab (Ab (Ab Ae))) (B2 m) d) (fun d=>(Ab (Ab (Ab Ae))) D1 d) U0 Rr trivial (fun f NX d=>by simp only [u4,Ab,Ae]; unfold Hw; simp only [nb])
theorem Aj2 {R:Type}:A4 Tryz.prog R 57 0 Cl To Wh:=
 Cj (cfg:=⟨Rp,0,57,Cl⟩) 5 [] (fun NX X d=>(Ab (Ab (Ab Ae))) (Iw  NX (fun e=>X (.inl (e))) (fun e=>X (.inr (e)))) d) (fun m d=>(Ab (Ab (Ab Ae))) (Ce m) d) (fun d=>(Ab (Ab (Ab Ae))) Er d) Wi Rr trivial (fun f NX d=>by simp only [u4,Ab,Ae]; unfold Iw; simp only [nb])
theorem Np:Bm Tryz.prog 70 K8:=
 Aw (pat:=Cl) [Wh,Uz] To Rr ⟨Aj2,Aha,trivial⟩ Tryz.func70 (de:=fun x=>Rq x.1) (fun x r h=>(Apk x.1).trans h) fun _=>by kernel_rfl
def Gv (v lo hi:Int):Bool:=Fg v lo hi
def A66:E5:=⟨[.rd tI,.rd tI,.rd tI],[none,none,none],[.rd .bool],[none]⟩
def Adv:SD:=⟨A66,fun x=>some (((Gv x.1 x.2.1 x.2.2.1),()),(()))⟩
def Adw (a0 a1 a2:Int):Option ((((Bool)×Unit)×(Unit))):=
 bif decide (a0≥a1) then some ((decide (a0≤a2),()),()) else some ((false,()),())
theorem A67 (a0 a1 a2:Int):Adw a0 a1 a2=some ((Gv a0 a1 a2,()),()):=by
 unfold Adw Gv Fg
 by_cases h:a0≥a1
 ·have:decide (a1≤a0)=true:=by simpa using h
  simp [h,this]
 ·have:decide (a1≤a0)=false:=by simpa using h
  simp [h,this]
theorem Apl:Bm Tryz.prog 71 Adv:=
 Aw (pat:=Co) [] F8 (Ay (l:=[]) trivial) trivial Tryz.func71 (de:=fun x=>Adw x.1 x.2.1 x.2.2.1) (fun x r h=>(A67 x.1 x.2.1 x.2.2.1).trans h) fun _=>by kernel_rfl
def N7 (k:Aa):Bool:=Qu k
def Awp:E5:=⟨[.rd .str],[none],[.rd .bool],[none]⟩
def Vx:SD:=⟨Awp,fun x=>some (((N7 x.1),()),(()))⟩
def Vy (a0:Aa):Option ((((Bool)×Unit)×(Unit))):=
 bif decide (nI a0.size≥1) then some ((decide (nI a0.size≤20),()),()) else some ((false,()),())
theorem Awq (a0:Aa):Vy a0=some ((N7 a0,()),()):=by
 unfold Vy N7 Qu Fg
 by_cases h:(a0.size:Int)≥1
 ·have:decide ((1:Int)≤(a0.size:Int))=true:=by simpa using h
  simp [nI,this]
 ·have h':¬ (1:Int)≤(a0.size:Int):=h
  simp [nI,h']
theorem Aet:Bm Tryz.prog 120 Vx:=
 Aw (pat:=Co) [] F8 (Ay (l:=[]) trivial) trivial Tryz.func120 (de:=fun x=>Vy x.1) (fun x r h=>(Awq x.1).trans h) fun _=>by kernel_rfl
def E0 (s:Dh):Bool:=Av s
def Amm:E5:=⟨[.rd B6],[some 1],[.rd .bool],[none]⟩
def J1:SD:=⟨Amm,fun x=>some (((E0 x.1),()),(()))⟩
def Yk:Tb:=tb [(120,Vx)]
def Fj:Nat→Da×(Nat→Da):=Gs [(5,⟨[.boxSl 1 0 Aq],[(1,.lf (.ptr 0 0)),(3,.lf (.d tI))],[.box 39 [.d (.sl Aq)]]⟩,[(2,p0),(1,⟨[],[(2,.lf (.d .bool))],[]⟩)])]
def U1:Code:=(At (Bc Tryz.f74)).getD 0 .skip
def D2 (v3:Int) (b0_0:List Ar):Nat:=((b0_0.length:Int) - v3).toNat + 1
def Hx {R:Type}  (NX:((Int)×(List Ar)×Unit)→Option R) (X2:(Unit)→Option R) (X1:((Bool)×Unit)→Option R) (v3:Int) (b0_0:List Ar):Option R:=
 bif decide (v3 < nI b0_0.length) then bif decide (0≤v3) then bif decide (v3 < nI b0_0.length) then bif !N7 (b0_0.getD v3.toNat (Ac,Ac,())).1 then X1 (false,()) else bif decide (0≤v3) then bif decide (v3 < nI b0_0.length) then bif decide (nI (ByteArray.size (b0_0.getD v3.toNat (Ac,Ac,())).2.1) > 100) then X1 (false,()) else bif decide (v3 > 0) then bif decide (0≤IntKind.i64.wrap (v3 - 1)) then bif decide (IntKind.i64.wrap (v3 - 1) < nI b0_0.length) then bif decide (0≤v3) then bif decide (v3 < nI b0_0.length) then bif !Op.bytesLess (ByteArray.toList (b0_0.getD (IntKind.i64.wrap (v3 - 1)).toNat (Ac,Ac,())).1) (ByteArray.toList (b0_0.getD v3.toNat (Ac,Ac,())).1) then X1 (false,()) else NX (IntKind.i64.wrap (v3 + 1),b0_0,()) else none else none else none else none else NX (IntKind.i64.wrap (v3 + 1),b0_0,()) else none else none else none else none else X2 PUnit.unit
def B3:Nat→(Int)→(List Ar) →  Option ((Unit) ⊕ ((Bool)×Unit))
 | 0,_,_=>none
 | m + 1,v3,b0_0=>Hx  (fun d=>B3 m d.1 d.2.1) (fun d=>some (.inl (d))) (fun d=>some (.inr (d))) v3 b0_0
def Ahb (d:(Int)×(List Ar)×Unit):Option ((Unit) ⊕ ((Bool)×Unit)):=(Ab (Ab Ae)) (B3 ((Ab (Ab Ae)) D2 d)) d
def P9 (a0:Dh):Option ((((Bool)×Unit)×(Unit))):=
 bif decide (nI (List.length a0.1) > 100) then some ((false,()),()) else ((fun d=>B3 (D2 d.1 d.2.1) d.1 d.2.1) (0,a0)).bind fun val=>Bw (fun d=>some ((true,()),())) (fun d=>some (d,())) val
theorem Amn (a0:Dh):P9 a0=some ((E0 a0,()),()):=by
 unfold P9 E0 Av
 have c1:decide (nI a0.1.length > 100)=!decide (a0.1.length≤100):=Agx _ 100
 by_cases hl:a0.1.length≤100
 ·have hL:=L2 (n:=a0.1.length) (M4 a0.1) (g:=fun m i=>B3 m i a0.1) (ok:=.inl ()) (bad:=.inr (false,())) (fun m i hi=>by
   show B3 (m + 1) i a0.1=_
   simp only [B3,Hx]
   have g1:decide (nI (ByteArray.size (List.getD a0.1 i (Ac,Ac,())).2.1) > 100)=!decide (ByteArray.size (List.getD a0.1 i zP).2.1≤100):=Agx _ 100
   rw [Qv hi,Gt,wI (show i < 4611686018427387904 by omega),Eo,gt0,g1]
   simp only [cond_true]
   unfold M4 bl
   show (bif !Qu (List.getD a0.1 i zP).1 then _ else _)=_
   cases i with
   | zero=>
    show (bif !Qu (List.getD a0.1 0 zP).1 then _ else bif !decide (ByteArray.size (List.getD a0.1 0 zP).2.1≤100) then _ else _)=_
    cases Qu (List.getD a0.1 0 zP).1<;>cases decide (ByteArray.size (List.getD a0.1 0 zP).2.1≤100)<;>rfl
   | succ j=>
    rw [wP j (by omega),Gt,Qv (show j < a0.1.length by omega)]
    show (bif !Qu (List.getD a0.1 (j + 1) zP).1 then _ else bif !decide (ByteArray.size (List.getD a0.1 (j + 1) zP).2.1≤100) then _ else bif !Op.bytesLess (ByteArray.toList (List.getD a0.1 j zP).1) (ByteArray.toList (List.getD a0.1 (j + 1) zP).1) then _ else _)=_
    rw [Nat.add_sub_cancel]
    cases Qu (List.getD a0.1 (j + 1) zP).1<;>cases decide (ByteArray.size (List.getD a0.1 (j + 1) zP).2.1≤100)<;>cases Op.bytesLess (ByteArray.toList (List.getD a0.1 j zP).1) (ByteArray.toList (List.getD a0.1 (j + 1) zP).1)<;>rfl) (fun m=>by
   show B3 (m + 1) (a0.1.length:Int) a0.1=_
   simp only [B3,Hx]
   rw [Jx]
   rfl) (D2 0 a0.1) 0 (by omega) (by simp [D2,nI])
  have hL':B3 (D2 0 a0.1) 0 a0.1=_:=hL
  rw [c1,Ap hl]
  show (B3 (D2 0 a0.1) 0 a0.1).bind _=_
  rw [hL']
  cases (List.range' 0 (a0.1.length - 0)).all (M4 a0.1)<;>rfl
 ·rw [c1,Bd hl]
  rfl
def U2 {R:Type} (k:Kt R):=(Bw (Ko (Fj 5) (.exit 0) 2 k) (Ko (Fj 5) .ret 1 k))
def k8 {R:Type}:Lt R Fj:=(E3 (pat:=Fj) 5 (fun d k=>(Ahb d).bind (U2 k)) F8)
theorem Yl:Ax Tryz.prog Yk:=Ay ⟨Aet,trivial⟩
theorem Ahc {R:Type}:A4 Tryz.prog R 53 0 Fj k8 U1:=
 Cj (cfg:=⟨Yk,0,53,Fj⟩) 5 [] (fun NX X d=>(Ab (Ab Ae)) (Hx  NX (fun e=>X (.inl (e))) (fun e=>X (.inr (e)))) d) (fun m d=>(Ab (Ab Ae)) (B3 m) d) (fun d=>(Ab (Ab Ae)) D2 d) U2 Yl trivial (fun f NX d=>by simp only [u4,Ab,Ae]; unfold Hx; simp only [nb])
theorem Ms:Bm Tryz.prog 74 J1:=
 Aw (pat:=Fj) [U1] k8 Yl ⟨Ahc,trivial⟩ Tryz.func74 (de:=fun x=>P9 x.1) (fun x r h=>(Amn x.1).trans h) fun _=>by kernel_rfl
def A7 (n:Int):Int:=Au n
def A05:E5:=⟨[.rd tI],[none],[.rd tI],[none]⟩
def N8:SD:=⟨A05,fun x=>some (((A7 x.1),()),(()))⟩
def Ym (a0:Int):Option ((((Int)×Unit)×(Unit))):=
 bif decide (a0 < 8) then some ((0,()),()) else bif decide (a0 > 200) then some ((0,()),()) else some ((IntKind.i64.wrap ((IntKind.i64.wrap (a0 - 2)).tdiv 2),()),())
theorem A06 (a0:Int):Ym a0=some (((A7 a0),()),(())):=by
 unfold Ym A7 Au
 rw [A0i]
 cases h:Fg a0 8 200 with
 | false=>rfl
 | true=>
  obtain ⟨h1,h2⟩:=Iu h
  rw [Au4 h1 h2]
  rfl
theorem Rs:Bm Tryz.prog 75 N8:=
 Aw (pat:=Co) [] F8 (Ay (l:=[]) trivial) trivial Tryz.func75 (de:=fun x=>Ym x.1) (fun x r h=>(A06 x.1).trans h) fun _=>by kernel_rfl
def Ku (s:Dh):List (List Bq):=Eh s
def Asy:E5:=⟨[.rd B6],[some 1],[.rd (.sl (.sl Ff))],[none]⟩
def Tp:SD:=⟨Asy,fun x=>some (((Ku x.1),()),(()))⟩
def Abi:Tb:=tb [(74,J1)]
def Je:Nat→Da×(Nat→Da):=Gs [(6,⟨[.last 3 148 Ff,.boxSl 1 0 Aq],[(1,.lf (.ptr 0 0)),(3,.lf (.row 1)),(4,.lf (.d tI))],[.box 39 [.d (.sl Aq)],.last ⟨63,148,false⟩ Ff 2,.row 148 Ff]⟩,[(2,⟨[.last 3 148 Ff],[(3,.lf (.row 0))],[.last ⟨63,148,false⟩ Ff 1,.row 148 Ff]⟩)])]
def Yn:Code:=(At (Bc Tryz.f127)).getD 0 .skip
def Fk (v4:Int) (b0_0:List Ar) (r1:List (List Bq)) (c1:Bool) (r2:List Bq):Nat:=((b0_0.length:Int) - v4).toNat + 1
def J2 {R:Type}  (NX:((Int)×(List Ar)×(List (List Bq))×(Bool)×(List Bq)×Unit)→Option R) (X2:((List (List Bq))×(Bool)×(List Bq)×Unit)→Option R) (v4:Int) (b0_0:List Ar) (r1:List (List Bq)) (c1:Bool) (r2:List Bq):Option R:=
 bif decide (v4 < nI b0_0.length) then bif v4.tmod 20==0 then bif decide ((r1.length + c1.toNat + 1) * 24≤140737488355328) then bif decide (0≤IntKind.i64.wrap (nI ((bif c1 then r1++[r2] else r1).length + true.toNat) - 1)) then bif decide (IntKind.i64.wrap (nI ((bif c1 then r1++[r2] else r1).length + true.toNat) - 1) < nI ((bif c1 then r1++[r2] else r1).length + true.toNat)) then bif decide ((IntKind.i64.wrap (nI ((bif c1 then r1++[r2] else r1).length + true.toNat) - 1)).toNat=(bif c1 then r1++[r2] else r1).length) then bif decide (0≤v4) then bif decide (v4 < nI b0_0.length) then bif decide (0≤v4) then bif decide (v4 < nI b0_0.length) then bif decide (0≤IntKind.i64.wrap (nI ((bif c1 then r1++[r2] else r1).length + true.toNat) - 1)) then bif decide (IntKind.i64.wrap (nI ((bif c1 then r1++[r2] else r1).length + true.toNat) - 1) < nI ((bif c1 then r1++[r2] else r1).length + true.toNat)) then bif decide ((IntKind.i64.wrap (nI ((bif c1 then r1++[r2] else r1).length + true.toNat) - 1)).toNat=(bif c1 then r1++[r2] else r1).length) then NX (IntKind.i64.wrap (v4 + 1),b0_0,bif c1 then r1++[r2] else r1,true,[]++[((b0_0.getD v4.toNat (Ac,Ac,())).1,(b0_0.getD v4.toNat (Ac,Ac,())).2.1,false,())],()) else none else none else none else none else none else none else none else none else none else none else none else bif decide (0≤IntKind.i64.wrap (nI (r1.length + c1.toNat) - 1)) then bif decide (IntKind.i64.wrap (nI (r1.length + c1.toNat) - 1) < nI (r1.length + c1.toNat)) then bif c1 then bif decide ((IntKind.i64.wrap (nI (r1.length + c1.toNat) - 1)).toNat=r1.length) then bif decide (0≤v4) then bif decide (v4 < nI b0_0.length) then bif decide (0≤v4) then bif decide (v4 < nI b0_0.length) then bif decide ((r2.length + [((b0_0.getD v4.toNat (Ac,Ac,())).1,(b0_0.getD v4.toNat (Ac,Ac,())).2.1,false,())].length) * 40≤140737488355328) then bif decide (0≤IntKind.i64.wrap (nI (r1.length + c1.toNat) - 1)) then bif decide (IntKind.i64.wrap (nI (r1.length + c1.toNat) - 1) < nI (r1.length + c1.toNat)) then bif c1 then bif decide ((IntKind.i64.wrap (nI (r1.length + c1.toNat) - 1)).toNat=r1.length) then NX (IntKind.i64.wrap (v4 + 1),b0_0,r1,c1,r2++[((b0_0.getD v4.toNat (Ac,Ac,())).1,(b0_0.getD v4.toNat (Ac,Ac,())).2.1,false,())],()) else none else none else none else none else none else none else none else none else none else none else none else none else none else X2 (r1,c1,r2,())
def Cr:Nat→(Int)→(List Ar)→(List (List Bq))→(Bool)→(List Bq) →  Option ((List (List Bq))×(Bool)×(List Bq)×Unit)
 | 0,_,_,_,_,_=>none
 | m + 1,v4,b0_0,r1,c1,r2=>J2  (fun d=>Cr m d.1 d.2.1 d.2.2.1 d.2.2.2.1 d.2.2.2.2.1) (fun d=>some (d)) v4 b0_0 r1 c1 r2
def Amo (d:(Int)×(List Ar)×(List (List Bq))×(Bool)×(List Bq)×Unit):Option ((List (List Bq))×(Bool)×(List Bq)×Unit):=(u4 (Ab Ae)) (Cr ((u4 (Ab Ae)) Fk d)) d
def Tq (a0:Dh):Option ((((List (List Bq))×Unit)×(Unit))):=
 bif !E0 a0 then some (([],()),()) else ((fun d=>Cr (Fk d.1 d.2.1 d.2.2.1 d.2.2.2.1 d.2.2.2.2.1) d.1 d.2.1 d.2.2.1 d.2.2.2.1 d.2.2.2.2.1) (0,a0.1,[],false,[],())).bind fun val=>some ((bif val.2.1 then val.1++[val.2.2.1] else val.1,()),())
theorem Asz (a0:Dh):Tq a0=some (((Ku a0),()),(())):=by
 unfold Tq Ku Eh
 show (bif !Av a0 then _ else _)=_
 cases hv:Av a0 with
 | false=>rfl
 | true=>
  have hl:=Gc hv
  have hL:=G4 (xs:=a0.1) zP A5n Ux (g:=fun m i s=>Cr m i a0.1 s.1 s.2.1 s.2.2) (ok:=fun s=>(s.1,s.2.1,s.2.2,())) (fun m i s hi hI=>by
   show Cr (m + 1) i a0.1 s.1 s.2.1 s.2.2=_
   obtain ⟨r0,c0,r1⟩:=s
   obtain ⟨h1,h2,h3,h4⟩:=hI
   simp only at h2 h3 h4 ⊢
   simp only [Cr,J2]
   rw [Qv hi,Gt,wI (show i < 4611686018427387904 by omega),Eo,Bht]
   unfold Ux
   cases hc:(i % 20==0)
   ·have hp:0 < i:=Nat.pos_of_ne_zero fun q=>by subst q; cases hc
    have hc0:=h3 hp
    subst hc0
    have e1:=A60 r0.length (by omega)
    have e2:decide ((r0.length:Int) < nI (r0.length + 1))=true:=Qv (Nat.lt_succ_self _)
    have e3:decide ((r1.length + 1) * 40≤140737488355328)=true:=Ap (by omega)
    simp only [Bool.toNat_true,Nz,cond_true,cond_false,e1,e2,e3,Gt,Eo,decide_true]
    rfl
   ·have hL:List.length (bif c0 then r0++[r1] else r0)≤i + 1:=by cases c0<;>simp<;>omega
    have e1:=A60 (List.length (bif c0 then r0++[r1] else r0)) (by omega)
    have e2:decide (((List.length (bif c0 then r0++[r1] else r0):Nat):Int) < nI (List.length (bif c0 then r0++[r1] else r0) + 1))=true:=Qv (Nat.lt_succ_self _)
    have e3:decide ((r0.length + Bool.toNat c0 + 1) * 24≤140737488355328)=true:=Ap (by cases c0<;>simp<;>omega)
    simp only [Bool.toNat_true,cond_true,e1,e2,e3,Gt,Eo,decide_true]
    rfl) (fun i s hi hI=>hI.step (by omega) _) (fun m s hI=>by
   show Cr (m + 1) (a0.1.length:Int) a0.1 s.1 s.2.1 s.2.2=_
   simp only [Cr,J2]
   rw [Jx]
   rfl) (Fk 0 a0.1 [] false []) 0 ([],false,[]) (by omega) (by simp [Fk,nI]) ⟨by omega,by simp,fun q=>by omega,by simp⟩
  have hL':Cr (Fk 0 a0.1 [] false []) 0 a0.1 [] false []=_:=hL
  show (Cr (Fk 0 a0.1 [] false []) 0 a0.1 [] false []).bind _=_
  rw [hL']
  rfl
def Yo {R:Type} (k:Kt R):=(Ko (Je 6) (.exit 0) 2 k)
def Aeu {R:Type}:Lt R Je:=(E3 (pat:=Je) 6 (fun d k=>(Amo d).bind (Yo k)) F8)
theorem Abj:Ax Tryz.prog Abi:=Ay ⟨Ms,trivial⟩
theorem Amp {R:Type}:A4 Tryz.prog R 51 0 Je Aeu Yn:=
 Cj (cfg:=⟨Abi,0,51,Je⟩) 6 [] (fun NX X (d:(Int)×(List Ar)×(List (List Bq))×(Bool)×(List Bq)×Unit)=>(u4 (Ab Ae)) (J2  NX X) d) (fun m d=>(u4 (Ab Ae)) (Cr m) d) (fun d=>(u4 (Ab Ae)) Fk d) Yo Abj trivial (fun f NX (d:(Int)×(List Ar)×(List (List Bq))×(Bool)×(List Bq)×Unit)=>by simp only [u4,Ab,Ae]; unfold J2; simp only [nb])
theorem Abk:Bm Tryz.prog 127 Tp:=
 Aw (pat:=Je) [Yn] Aeu Abj ⟨Amp,trivial⟩ Tryz.func127 (de:=fun x=>Tq x.1) (fun x r h=>(Asz x.1).trans h) fun _=>by kernel_rfl
def A07:E5:=⟨[.rd tI],[none],[.rd tI],[none]⟩
def Ahd (a0:Int):Option ((((Int)×Unit)×(Unit))):=
 some ((IntKind.i64.wrap (IntKind.i64.wrap (64 - a0) - 8),()),())
def Ru:SD:=⟨A07,fun x=>Ahd x.1⟩
theorem Yp:Bm Tryz.prog 162 Ru:=
 Aw (pat:=Co) [] F8 (Ay (l:=[]) trivial) trivial Tryz.func162 (de:=fun x=>Ahd x.1) (fun x r h=>h) fun _=>by kernel_rfl
def J3 (s:Aa) (w:Int):Option (List Aa):=if s.size≤1099511627776∧1≤w∧w≤8 then some (Dl s w) else none
def K9 (v0:Aa) (v6:Int) (r0:List Aa):Nat:=v0.size + 1
def Awr:E5:=⟨[.rd .str,.rd tI],[none,none],[.own 9 .str],[none]⟩
def Vz:SD:=⟨Awr,fun x=>(J3 x.1 x.2.1).bind fun r=>some ((r,()),(()))⟩
def Aev:Tb:=tb [(162,Ru)]
def Kv:Nat→Da×(Nat→Da):=Gs [(4,⟨[.row 5 0 9 .str],[(0,.lf (.d .str)),(5,.lf (.row 0)),(6,.lf (.d tI))],[.row 9 .str]⟩,[(2,⟨[.row 5 0 9 .str],[(0,.lf (.d .str)),(5,.lf (.row 0))],[.row 9 .str]⟩)])]
def k9:Code:=(At (Bc Tryz.f166)).getD 0 .skip
def Ic {R:Type}  (NX:((Aa)×(Int)×(List Aa)×Unit)→Option R) (X2:((Aa)×(List Aa)×Unit)→Option R) (v0:Aa) (v6:Int) (r0:List Aa):Option R:=
 bif decide (nI v0.size > v6) then bif decide (0≤v6) then bif decide (v6≤nI v0.size) then bif decide ((r0.length + [Ao v0 0 v6].length) * 16≤140737488355328) then bif decide (0≤v6) then bif decide (v6≤nI v0.size) then NX (Ao v0 v6 (nI v0.size),v6,r0++[Ao v0 0 v6],()) else none else none else none else none else none else X2 (v0,r0,())
def E1:Nat→(Aa)→(Int)→(List Aa) →  Option ((Aa)×(List Aa)×Unit)
 | 0,_,_,_=>none
 | m + 1,v0,v6,r0=>Ic  (fun d=>E1 m d.1 d.2.1 d.2.2.1) (fun d=>some (d)) v0 v6 r0
def Apm (d:(Aa)×(Int)×(List Aa)×Unit):Option ((Aa)×(List Aa)×Unit):=(Ab (Ab (Ab Ae))) (E1 ((Ab (Ab (Ab Ae))) K9 d)) d
def V0 (a0:Aa) (a1:Int):Option ((((List Aa)×Unit)×(Unit))):=
 ((fun d=>E1 (K9 d.1 d.2.1 d.2.2.1) d.1 d.2.1 d.2.2.1) (a0,IntKind.i64.wrap (IntKind.i64.wrap (64 - a1) - 8),[],())).bind fun val=>bif decide ((val.2.1.length + [val.1].length) * 16≤140737488355328) then some ((val.2.1++[val.1],()),()) else none
theorem A08 (n:Nat) (hn:1≤n) (hn2:n≤64):∀ (k m:Nat) (s:Aa) (r:List Aa),s.size≤k→k < m→r.length + s.size≤1099511627777→
  ∃ q t,E1 m s n r=some (t,q,())∧q++[t]=r++Gz n k s∧q.length + 1≤1099511627778
 | 0,m + 1,s,r,hs,hm,hr=>by
  refine ⟨r,s,?_,rfl,by omega⟩
  simp only [E1,Ic]
  rw [Bd (show ¬ (nI s.size > (n:Int)) by simp only [nI]; omega)]
  rfl
 | k + 1,m + 1,s,r,hs,hm,hr=>by
  by_cases q:s.size > n
  ·have hc:(Ao s n (nI s.size)).size=s.size - n:=by rw [G3 (by omega) (by simp only [nI]; omega) (by simp [nI])]; simp only [nI]; omega
   obtain ⟨q',t',e1,e2,e3⟩:=A08 n hn hn2 k m (Ao s n (nI s.size)) (r++[Ao s 0 n]) (by omega) (by omega) (by rw [Lw,Nz]; omega)
   refine ⟨q',t',?_,?_,e3⟩
   ·simp only [E1,Ic]
    rw [Ap (show nI s.size > (n:Int) by simp only [nI]; omega),Gt,Ap (show (n:Int)≤nI s.size by simp only [nI]; omega),Ap (show (r.length + [Ao s 0 n].length) * 16≤140737488355328 by rw [Nz]; omega)]
    exact e1
   ·rw [e2,List.append_assoc]
    simp only [Gz,if_pos q]
    rfl
  ·refine ⟨r,s,?_,by simp only [Gz,if_neg q],by omega⟩
   simp only [E1,Ic]
   rw [Bd (show ¬ (nI s.size > (n:Int)) by simp only [nI]; omega)]
   rfl
theorem Aws (a0:Aa) (a1:Int) r (h:J3 a0 a1=some r):V0 a0 a1=some ((r,()),(())):=by
 unfold J3 at h
 split at h
 ·rename_i hc
  cases h
  obtain ⟨h0,h1,h2⟩:=hc
  obtain ⟨n,hn⟩:∃ n:Nat,56 - a1=(n:Int):=⟨(56 - a1).toNat,by omega⟩
  unfold V0 Dl
  rw [Aj (n:=64 - a1) (by omega) (by omega),Aj (n:=64 - a1 - 8) (by omega) (by omega),show 64 - a1 - 8=56 - a1 by omega,hn,Eo]
  obtain ⟨q,t,e1,e2,e3⟩:=A08 n (by omega) (by omega) a0.size (K9 a0 n []) a0 [] (by omega) (by simp only [K9]; omega) (by rw [List.length_nil]; omega)
  rw [List.nil_append] at e2
  refine d6 e1 ?_
  show (bif decide ((q.length + [t].length) * 16≤140737488355328) then some ((q++[t],()),()) else none)=_
  rw [Ap (by rw [Nz]; omega),e2]
  rfl
 ·cases h
def l3 {R:Type} (k:Kt R):=(Ko (Kv 4) (.exit 0) 2 k)
def Ahe {R:Type}:Lt R Kv:=(E3 (pat:=Kv) 4 (fun d k=>(Apm d).bind (l3 k)) F8)
theorem Aew:Ax Tryz.prog Aev:=Ay ⟨Yp,trivial⟩
theorem Apn {R:Type}:A4 Tryz.prog R 27 0 Kv Ahe k9:=
 Cj (cfg:=⟨Aev,0,27,Kv⟩) 4 [] (fun NX X d=>(Ab (Ab (Ab Ae))) (Ic  NX X) d) (fun m d=>(Ab (Ab (Ab Ae))) (E1 m) d) (fun d=>(Ab (Ab (Ab Ae))) K9 d) l3 Aew trivial (fun f NX d=>by simp only [u4,Ab,Ae]; unfold Ic; simp only [nb])
theorem Aex:Bm Tryz.prog 166 Vz:=
 Aw (pat:=Kv) [k9] Ahe Aew ⟨Apn,trivial⟩ Tryz.func166 (de:=fun x=>V0 x.1 x.2.1) (fun x r h=>A2 (Aws x.1 x.2.1) h) fun _=>by kernel_rfl
def Rv (s:Aa) (w:Int):Option Int:=if s.size≤1099511627776 then some (bif Fg w 1 8 then ((Dl s w).length:Int) else 0) else none
def A3j:E5:=⟨[.rd .str,.rd tI],[none,none],[.rd tI],[none]⟩
def Akx:SD:=⟨A3j,fun x=>(Rv x.1 x.2.1).bind fun r=>some ((r,()),(()))⟩
def Aaf (a0:Aa) (a1:Int):Option ((((Int)×Unit)×(Unit))):=
 (Cw a1).bind fun val=>bif !val.1.1 then some ((0,()),()) else ((J3 a0 a1).bind fun val=>some ((val,()),())).bind fun val=>some ((nI (List.length val.1.1),()),())
theorem A3k (a0:Aa) (a1:Int) r (h:Rv a0 a1=some r):Aaf a0 a1=some ((r,()),(())):=by
 unfold Rv at h
 split at h
 ·rename_i hc
  cases h
  unfold Aaf
  refine d6 (wid a1) ?_
  show (bif !Fg a1 1 8 then _ else _)=_
  cases hw:Fg a1 1 8 with
  | false=>rfl
  | true=>
   have n1:J3 a0 a1=some (Dl a0 a1):=if_pos ⟨hc,Iu hw⟩
   simp only [n1,Option.bind_some,Bool.not_true,cond_false,cond_true]
   try rfl
 ·cases h
theorem A3l:Bm Tryz.prog 128 Akx:=
 Aw (pat:=Co) [] F8 (Ay (l:=[(69,Dr),(166,Vz)]) ⟨Eb,Aex,trivial⟩) trivial Tryz.func128 (de:=fun x=>Aaf x.1 x.2.1) (fun x r h=>A2 (A3k x.1 x.2.1) h) fun _=>by kernel_rfl
def La (b:List Bq):Bool:=Br b
def Amq:E5:=⟨[.rd (.sl Ff)],[none],[.rd .bool],[none]⟩
def Qa:SD:=⟨Amq,fun x=>some (((La x.1),()),(()))⟩
def Yq:Tb:=tb [(120,Vx)]
def Fl:Nat→Da×(Nat→Da):=Gs [(5,⟨[.sl 0 0 Ff],[(0,.lf (.d (.sl Ff))),(3,.lf (.d tI))],[]⟩,[(2,p0),(1,⟨[],[(2,.lf (.d .bool))],[]⟩)])]
def U3:Code:=(At (Bc Tryz.f164)).getD 0 .skip
def Hy (v0:List Bq) (v3:Int):Nat:=((v0.length:Int) - v3).toNat + 1
def Hz {R:Type}  (NX:((List Bq)×(Int)×Unit)→Option R) (X2:(Unit)→Option R) (X1:((Bool)×Unit)→Option R) (v0:List Bq) (v3:Int):Option R:=
 bif decide (v3 < nI v0.length) then bif decide (0≤v3) then bif decide (v3 < nI v0.length) then bif !N7 (v0.getD v3.toNat (Ac,Ac,false,())).1 then X1 (false,()) else bif decide (0≤v3) then bif decide (v3 < nI v0.length) then bif decide (nI (ByteArray.size (v0.getD v3.toNat (Ac,Ac,false,())).2.1) > 100) then X1 (false,()) else bif decide (0≤v3) then bif decide (v3 < nI v0.length) then bif (v0.getD v3.toNat (Ac,Ac,false,())).2.2.1 then bif decide (0≤v3) then bif decide (v3 < nI v0.length) then bif !ByteArray.toList (v0.getD v3.toNat (Ac,Ac,false,())).2.1==(Ac).toList then X1 (false,()) else NX (v0,IntKind.i64.wrap (v3 + 1),()) else none else none else NX (v0,IntKind.i64.wrap (v3 + 1),()) else none else none else none else none else none else none else X2 PUnit.unit
def Cz:Nat→(List Bq)→(Int) →  Option ((Unit) ⊕ ((Bool)×Unit))
 | 0,_,_=>none
 | m + 1,v0,v3=>Hz  (fun d=>Cz m d.1 d.2.1) (fun d=>some (.inl (d))) (fun d=>some (.inr (d))) v0 v3
def Ahf (d:(List Bq)×(Int)×Unit):Option ((Unit) ⊕ ((Bool)×Unit)):=(Ab (Ab Ae)) (Cz ((Ab (Ab Ae)) Hy d)) d
def Qb (a0:List Bq):Option ((((Bool)×Unit)×(Unit))):=
 bif decide (nI a0.length < 1) then some ((false,()),()) else bif decide (nI a0.length > 20) then some ((false,()),()) else ((fun d=>Cz (Hy d.1 d.2.1) d.1 d.2.1) (a0,0,())).bind fun val=>Bw (fun d=>some ((true,()),())) (fun d=>some (d,())) val
theorem Amr (a0:List Bq):Qb a0=some (((La a0),()),(())):=by
 unfold Qb La Br
 have tl:ByteArray.toList (Ac)=[]:=by decide +kernel
 rw [A0i (nI (List.length a0))]
 show (bif Fg (a0.length:Int) 1 20 then _ else _)=_
 cases hin:Fg (a0.length:Int) 1 20 with
 | false=>rfl
 | true=>
  have hlen:a0.length≤20:=by have:=(Iu hin).2; omega
  have hL:=L2 (n:=a0.length) (fun i=>Rh (a0.getD i zC)) (g:=fun m i=>Cz m a0 i) (ok:=.inl ()) (bad:=.inr (false,())) (fun m i hi=>by
   show Cz (m + 1) a0 i=_
   simp only [Cz,Hz]
   rw [tl,Qv hi,Gt,wI (show i < 4611686018427387904 by omega),Eo]
   have g1:decide (nI (ByteArray.size (List.getD a0 i (Ac,Ac,false,())).2.1) > 100)=!decide ((a0.getD i zC).2.1.size≤100):=Agx _ 100
   rw [g1]
   show (bif !Qu (a0.getD i zC).1 then _ else (bif _ then _ else (bif (a0.getD i zC).2.2.1 then (bif !((a0.getD i zC).2.1.toList==[]) then _ else _) else _)))=_
   unfold Rh
   cases Qu (a0.getD i zC).1<;>cases decide ((a0.getD i zC).2.1.size≤100)<;>cases (a0.getD i zC).2.2.1<;>cases ((a0.getD i zC).2.1.toList==[])<;>rfl) (fun m=>by
   show Cz (m + 1) a0 (a0.length:Int)=_
   simp only [Cz,Hz]
   rw [Jx]
   rfl) (Hy a0 0) 0 (by omega) (by simp [Hy,nI])
  refine d6 hL ?_
  rw [Nat.sub_zero]
  cases (List.range' 0 a0.length).all (fun i=>Rh (a0.getD i zC))<;>rfl
def U4 {R:Type} (k:Kt R):=(Bw (Ko (Fl 5) (.exit 0) 2 k) (Ko (Fl 5) .ret 1 k))
def l4 {R:Type}:Lt R Fl:=(E3 (pat:=Fl) 5 (fun d k=>(Ahf d).bind (U4 k)) F8)
theorem Yr:Ax Tryz.prog Yq:=Ay ⟨Aet,trivial⟩
theorem Ahg {R:Type}:A4 Tryz.prog R 49 0 Fl l4 U3:=
 Cj (cfg:=⟨Yq,0,49,Fl⟩) 5 [] (fun NX X d=>(Ab (Ab Ae)) (Hz  NX (fun e=>X (.inl (e))) (fun e=>X (.inr (e)))) d) (fun m d=>(Ab (Ab Ae)) (Cz m) d) (fun d=>(Ab (Ab Ae)) Hy d) U4 Yr trivial (fun f NX d=>by simp only [u4,Ab,Ae]; unfold Hz; simp only [nb])
theorem Ys:Bm Tryz.prog 164 Qa:=
 Aw (pat:=Fl) [U3] l4 Yr ⟨Ahg,trivial⟩ Tryz.func164 (de:=fun x=>Qb x.1) (fun x r h=>(Amr x.1).trans h) fun _=>by kernel_rfl
def F4 (b:List Bq):Aa:=Hu b
def Apo:E5:=⟨[.rd (.sl Ff)],[none],[.rd .str],[none]⟩
def Nq:SD:=⟨Apo,fun x=>some (((F4 x.1),()),(()))⟩
def l5:Tb:=tb [(164,Qa)]
def Ie:Nat→Da×(Nat→Da):=Gs [(6,⟨[.sl 0 0 Ff,.row 3 0 5 (.int .u8)],[(0,.lf (.d (.sl Ff))),(3,.lf (.row 0)),(4,.lf (.d tI))],[.row 5 (.int .u8)]⟩,[(2,⟨[.row 3 0 5 (.int .u8)],[(3,.lf (.row 0))],[.row 5 (.int .u8)]⟩)])]
def Wj:Code:=(At (Bc Tryz.f129)).getD 0 .skip
def Ix (v0:List Bq) (v4:Int) (r0:List Int):Nat:=((v0.length:Int) - v4).toNat + 1
def Iy {R:Type}  (NX:((List Bq)×(Int)×(List Int)×Unit)→Option R) (X2:((List Int)×Unit)→Option R) (v0:List Bq) (v4:Int) (r0:List Int):Option R:=
 bif decide (v4 < nI v0.length) then bif decide (0≤v4) then bif decide (v4 < nI v0.length) then bif (v0.getD v4.toNat (Ac,Ac,false,())).2.2.1 then bif decide (0≤v4) then bif decide (v4 < nI v0.length) then bif decide ((r0.length + [1,IntKind.u8.wrap (nI (ByteArray.size (v0.getD v4.toNat (Ac,Ac,false,())).1))].length) * 1≤140737488355328) then bif decide (0≤v4) then bif decide (v4 < nI v0.length) then bif decide ((r0++[1,IntKind.u8.wrap (nI (ByteArray.size (v0.getD v4.toNat (Ac,Ac,false,())).1))]).length + ByteArray.size (v0.getD v4.toNat (Ac,Ac,false,())).1≤140737488355328) then NX (v0,IntKind.i64.wrap (v4 + 1),r0++[1,IntKind.u8.wrap (nI (ByteArray.size (v0.getD v4.toNat (Ac,Ac,false,())).1))]++Ad (v0.getD v4.toNat (Ac,Ac,false,())).1,()) else none else none else none else none else none else none else bif decide (0≤v4) then bif decide (v4 < nI v0.length) then bif decide ((r0.length + [0,IntKind.u8.wrap (nI (ByteArray.size (v0.getD v4.toNat (Ac,Ac,false,())).1))].length) * 1≤140737488355328) then bif decide (0≤v4) then bif decide (v4 < nI v0.length) then bif decide ((r0++[0,IntKind.u8.wrap (nI (ByteArray.size (v0.getD v4.toNat (Ac,Ac,false,())).1))]).length + ByteArray.size (v0.getD v4.toNat (Ac,Ac,false,())).1≤140737488355328) then bif decide (0≤v4) then bif decide (v4 < nI v0.length) then bif decide (((r0++[0,IntKind.u8.wrap (nI (ByteArray.size (v0.getD v4.toNat (Ac,Ac,false,())).1))]++Ad (v0.getD v4.toNat (Ac,Ac,false,())).1).length + [IntKind.u8.wrap (nI (ByteArray.size (v0.getD v4.toNat (Ac,Ac,false,())).2.1))].length) * 1≤140737488355328) then bif decide (0≤v4) then bif decide (v4 < nI v0.length) then bif decide ((r0++[0,IntKind.u8.wrap (nI (ByteArray.size (v0.getD v4.toNat (Ac,Ac,false,())).1))]++Ad (v0.getD v4.toNat (Ac,Ac,false,())).1++[IntKind.u8.wrap (nI (ByteArray.size (v0.getD v4.toNat (Ac,Ac,false,())).2.1))]).length + ByteArray.size (v0.getD v4.toNat (Ac,Ac,false,())).2.1≤140737488355328) then NX (v0,IntKind.i64.wrap (v4 + 1),r0++[0,IntKind.u8.wrap (nI (ByteArray.size (v0.getD v4.toNat (Ac,Ac,false,())).1))]++Ad (v0.getD v4.toNat (Ac,Ac,false,())).1++[IntKind.u8.wrap (nI (ByteArray.size (v0.getD v4.toNat (Ac,Ac,false,())).2.1))]++Ad (v0.getD v4.toNat (Ac,Ac,false,())).2.1,()) else none else none else none else none else none else none else none else none else none else none else none else none else none else none else X2 (r0,())
def Db:Nat→(List Bq)→(Int)→(List Int) →  Option ((List Int)×Unit)
 | 0,_,_,_=>none
 | m + 1,v0,v4,r0=>Iy  (fun d=>Db m d.1 d.2.1 d.2.2.1) (fun d=>some (d)) v0 v4 r0
def Aj3 (d:(List Bq)×(Int)×(List Int)×Unit):Option ((List Int)×Unit):=(Ab (Ab (Ab Ae))) (Db ((Ab (Ab (Ab Ae))) Ix d)) d
def Rw (a0:List Bq):Option ((((Aa)×Unit)×(Unit))):=
 bif !La a0 then some ((Ac,()),()) else ((fun d=>Db (Ix d.1 d.2.1 d.2.2.1) d.1 d.2.1 d.2.2.1) (a0,0,[],())).bind fun val=>some ((strOfNums val.1,()),())
theorem App (a0:List Bq):Rw a0=some ((F4 a0,()),(())):=by
 unfold Rw F4 Hu
 show (bif !Br a0 then _ else _)=_
 cases hv:Br a0 with
 | false=>rfl
 | true=>
  obtain ⟨hlen,hok⟩:=Uo hv
  have hL:=Ajs a0.length A0k (fun i r=>r++Xh (a0.getD i zC)) (g:=fun m i r=>Db m a0 i r) (ok:=fun r=>(r,())) (fun m i r hi hr=>by
   show Db (m + 1) a0 i r=_
   simp only [Db,Iy]
   have hc:=hok i hi
   obtain ⟨k1,k2,k3⟩:=Ajt hc
   rw [Qv hi,Gt,wI (show i < 4611686018427387904 by omega),Eo]
   have hr1:=hr.1
   have eC:List.getD a0 i (Ac,Ac,false,())=a0.getD i zC:=rfl
   rw [eC]
   generalize a0.getD i zC=c at *
   rw [Bjy _ (show c.1.size < 256 by omega),Bjy _ (show c.2.1.size < 256 by omega)]
   simp only [Lw,List.length_cons,List.length_nil,Ds]
   rw [Ap (show (r.length + (0 + 1 + 1)) * 1≤140737488355328 by omega),Ap (show r.length + (0 + 1 + 1) + c.1.size≤140737488355328 by omega),Ap (show (r.length + (0 + 1 + 1) + c.1.size + (0 + 1)) * 1≤140737488355328 by omega),Ap (show r.length + (0 + 1 + 1) + c.1.size + (0 + 1) + c.2.1.size≤140737488355328 by omega)]
   unfold Xh
   simp only [cond_true]
   cases c.2.2.1<;>simp only [cond_true,cond_false,List.append_assoc]) (fun m r _=>by
   show Db (m + 1) a0 (a0.length:Int) r=_
   simp only [Db,Iy]
   rw [Jx]
   rfl) (fun i r hi hr=>hr.step (hok i hi)) a0.length (Ix a0 0 []) 0 [] (by omega) (by simp [Ix,nI]) ⟨by simp,rfl⟩
  rw [A0j Xh zC a0 a0.length 0 [] (by omega),List.nil_append,List.drop_zero] at hL
  refine d6 hL ?_
  rfl
def Wk {R:Type} (k:Kt R):=(Ko (Ie 6) (.exit 0) 2 k)
def Abl {R:Type}:Lt R Ie:=(E3 (pat:=Ie) 6 (fun d k=>(Aj3 d).bind (Wk k)) F8)
theorem l6:Ax Tryz.prog l5:=Ay ⟨Ys,trivial⟩
theorem Aj4 {R:Type}:A4 Tryz.prog R 70 0 Ie Abl Wj:=
 Cj (cfg:=⟨l5,0,70,Ie⟩) 6 [] (fun NX X d=>(Ab (Ab (Ab Ae))) (Iy  NX X) d) (fun m d=>(Ab (Ab (Ab Ae))) (Db m) d) (fun d=>(Ab (Ab (Ab Ae))) Ix d) Wk l6 trivial (fun f NX d=>by simp only [u4,Ab,Ae]; unfold Iy; simp only [nb])
theorem Rx:Bm Tryz.prog 129 Nq:=
 Aw (pat:=Ie) [Wj] Abl l6 ⟨Aj4,trivial⟩ Tryz.func129 (de:=fun x=>Rw x.1) (fun x r h=>(App x.1).trans h) fun _=>by kernel_rfl
def Qz (s:Dh) (w:Int):Int:=Yb s w
def A68:E5:=⟨[.rd B6,.rd tI],[some 1,none],[.rd tI],[none]⟩
def Adx:SD:=⟨A68,fun x=>some (((Qz x.1 x.2.1),()),(()))⟩
def Apq:Tb:=tb [(127,Tp),(128,Akx),(129,Nq)]
def Ot:Nat→Da×(Nat→Da):=Gs [(5,⟨[.sl 6 0 (.sl Ff)],[(1,.lf (.d tI)),(5,.lf (.d tI)),(6,.lf (.d (.sl (.sl Ff)))),(7,.lf (.d tI))],[]⟩,[(2,⟨[],[(5,.lf (.d tI))],[]⟩)])]
def Ahh:Code:=(At (Bc Tryz.f80)).getD 0 .skip
def J4 (v1 v5:Int) (v6:List (List Bq)) (v7:Int):Nat:=((v6.length:Int) - v7).toNat + 1
def N9 {R:Type}  (NX:((Int)×(Int)×(List (List Bq))×(Int)×Unit)→Option R) (X2:((Int)×Unit)→Option R) (v1:Int) (v5:Int) (v6:List (List Bq)) (v7:Int):Option R:=
 bif decide (v7 < nI v6.length) then bif decide (0≤v7) then bif decide (v7 < nI v6.length) then ((Rv (F4 (v6.getD v7.toNat [])) v1).bind fun val=>some ((val,()),())).bind fun val=>NX (v1,IntKind.i64.wrap (v5 + val.1.1),v6,IntKind.i64.wrap (v7 + 1),()) else none else none else X2 (v5,())
def D3:Nat→(Int)→(Int)→(List (List Bq))→(Int) →  Option ((Int)×Unit)
 | 0,_,_,_,_=>none
 | m + 1,v1,v5,v6,v7=>N9  (fun d=>D3 m d.1 d.2.1 d.2.2.1 d.2.2.2.1) (fun d=>some (d)) v1 v5 v6 v7
def A09 (d:(Int)×(Int)×(List (List Bq))×(Int)×Unit):Option ((Int)×Unit):=(u4 Ae) (D3 ((u4 Ae) J4 d)) d
def Ady (a0:Dh) (a1:Int):Option ((((Int)×Unit)×(Unit))):=
 ((fun d=>D3 (J4 d.1 d.2.1 d.2.2.1 d.2.2.2.1) d.1 d.2.1 d.2.2.1 d.2.2.2.1) (a1,0,Ku a0,0,())).bind fun val=>some (val,())
theorem A69 (a0:Dh) (a1:Int):Ady a0 a1=some (((Qz a0 a1),()),(())):=by
 unfold Ady Qz
 have hl:=Xs a0
 have hL:=G4 (xs:=Eh a0) [] Bfh (fun _ b a=>a + Gy (Hu b).size a1) (g:=fun m i a=>D3 m a1 a (Eh a0) i) (ok:=fun a=>(a,())) (fun m i a hi hI=>by
  show D3 (m + 1) a1 a (Eh a0) i=_
  simp only [D3,N9]
  rw [Qv hi,Gt,wI (show i < 4611686018427387904 by omega),Eo]
  have e1:Rv (F4 (List.getD (Eh a0) i [])) a1=some (Gy (Hu (List.getD (Eh a0) i [])).size a1):=by
    rw [← A9w]
    exact if_pos (Nat.le_trans (P7 _) (by decide))
  rw [e1]
  simp only [cond_true,Option.bind_some]
  rw [A0l hI]) (fun i a hi hI=>hI.step (by omega) _ _) (fun m a hI=>by
  show D3 (m + 1) a1 a (Eh a0) ((Eh a0).length:Int)=_
  simp only [D3,N9]
  rw [Jx]
  rfl) (J4 a1 0 (Eh a0) 0) 0 0 (by omega) (by simp [J4,nI]) ⟨by omega,by omega,by omega⟩
 have hL':D3 (J4 a1 0 (Eh a0) 0) a1 0 (Eh a0) 0=_:=hL
 show (D3 (J4 a1 0 (Eh a0) 0) a1 0 (Eh a0) 0).bind _=_
 rw [hL',Asm,List.drop_zero,A9x,Int.zero_add]
 rfl
def Ahi {R:Type} (k:Kt R):=(Ko (Ot 5) (.exit 0) 2 k)
def Avb {R:Type}:Lt R Ot:=(E3 (pat:=Ot) 5 (fun d k=>(A09 d).bind (Ahi k)) F8)
theorem Apr:Ax Tryz.prog Apq:=Ay ⟨Abk,A3l,Rx,trivial⟩
theorem A1a {R:Type}:A4 Tryz.prog R 26 0 Ot Avb Ahh:=
 Cj (cfg:=⟨Apq,0,26,Ot⟩) 5 [] (fun NX X d=>(u4 Ae) (N9  NX X) d) (fun m d=>(u4 Ae) (D3 m) d) (fun d=>(u4 Ae) J4 d) Ahi Apr trivial (fun f NX d=>by simp only [u4,Ab,Ae]; unfold N9; simp only [nb])
theorem Aps:Bm Tryz.prog 80 Adx:=
 Aw (pat:=Ot) [Ahh] Avb Apr ⟨A1a,trivial⟩ Tryz.func80 (de:=fun x=>Ady x.1 x.2.1) (fun x r h=>(A69 x.1 x.2.1).trans h) fun _=>by kernel_rfl
def Nr (s:Ls):Bool:=Mr s
def Ams:E5:=⟨[.rd Il],[some 10],[.rd .bool],[none]⟩
def Yt:SD:=⟨Ams,fun x=>some (((Nr x.1),()),(()))⟩
def Qc (a0:Ls):Option ((((Bool)×Unit)×(Unit))):=
 (Cw a0.1).bind fun val=>bif !val.1.1 then some ((false,()),()) else bif A7 a0.2.1==0 then some ((false,()),()) else bif !Gv a0.2.2.1 1 60000 then some ((false,()),()) else bif !Gv a0.2.2.2.1.1 0 1000000000 then some ((false,()),()) else bif !Gv a0.2.2.2.1.2.1 0 1 then some ((false,()),()) else bif !Gv a0.2.2.2.1.2.2.1 1 999999000 then some ((false,()),()) else bif !Gv a0.2.2.2.1.2.2.2.1 0 60000 then some ((false,()),()) else bif Gv a0.2.2.2.2.1 0 (A7 a0.2.1) then bif Gv a0.2.2.2.2.2.1 0 a0.2.2.2.2.1 then bif E0 a0.2.2.2.2.2.2.1 then some ((decide (Qz a0.2.2.2.2.2.2.1 a0.1≤IntKind.i64.wrap (A7 a0.2.1 - 1)),()),()) else some ((false,()),()) else some ((false,()),()) else some ((false,()),())
theorem Amt (a0:Ls):Qc a0=some (((Nr a0),()),(())):=by
 unfold Qc Nr Mr
 refine d6 (wid a0.1) ?_
 simp only [A7,Gv,E0,Qz,i6,Bjd,Blx,A9y]
 simp only [P3,Bool.and_assoc]
 rw [Bool.and_left_comm]
theorem Amu:Bm Tryz.prog 72 Yt:=
 Aw (pat:=Co) [] F8 (Ay (l:=[(69,Dr),(71,Adv),(74,J1),(75,N8),(80,Adx)]) ⟨Eb,Apl,Ms,Rs,Aps,trivial⟩) trivial Tryz.func72 (de:=fun x=>Qc x.1) (fun x r h=>(Amt x.1).trans h) fun _=>by kernel_rfl
def L5 (s:Ls):Bool:=Xj s
def Apt:E5:=⟨[.rd Il],[some 10],[.rd .bool],[none]⟩
def l7:SD:=⟨Apt,fun x=>some (((L5 x.1),()),(()))⟩
def Ry (a0:Ls):Option ((((Bool)×Unit)×(Unit))):=
 bif a0.1==0 then bif a0.2.1==0 then bif a0.2.2.1==0 then bif a0.2.2.2.1.1==0&&(a0.2.2.2.1.2.1==0&&(a0.2.2.2.1.2.2.1==0&&(a0.2.2.2.1.2.2.2.1==0&&true))) then bif a0.2.2.2.2.1==0 then bif a0.2.2.2.2.2.1==0 then some ((nI (List.length a0.2.2.2.2.2.2.1.1)==0,()),()) else some ((false,()),()) else some ((false,()),()) else some ((false,()),()) else some ((false,()),()) else some ((false,()),()) else some ((false,()),())
theorem Apu (a0:Ls):Ry a0=some (((L5 a0),()),(())):=by
 unfold Ry L5 Xj
 simp only [Bjd,Bool.and_true]
theorem Apv:Bm Tryz.prog 73 l7:=
 Aw (pat:=Co) [] F8 (Ay (l:=[]) trivial) trivial Tryz.func73 (de:=fun x=>Ry x.1) (fun x r h=>(Apu x.1).trans h) fun _=>by kernel_rfl
def Ns (w:S4):Bool:=In w
def Amv:E5:=⟨[.rd Xf],[some 16],[.rd .bool],[none]⟩
def Yu:SD:=⟨Amv,fun x=>some (((Ns x.1),()),(()))⟩
def Qd:Tb:=tb [(69,Dr),(70,K8),(71,Adv),(72,Yt),(73,l7),(74,J1)]
def B7:Nat→Da×(Nat→Da):=Gs [(7,⟨[.boxSl 1 1 .str,.boxSl 1 2 Fb,.boxSl 1 13 Aq,.boxSl 1 14 B6,.boxSl 1 15 .str],[(1,.lf (.ptr 0 0)),(3,.lf (.d tI))],[.box 50 [.d Xf]]⟩,[(2,⟨[.boxSl 1 1 .str,.boxSl 1 2 Fb,.boxSl 1 13 Aq,.boxSl 1 14 B6,.boxSl 1 15 .str],[(1,.lf (.ptr 0 0))],[.box 50 [.d Xf]]⟩),(1,⟨[],[(2,.lf (.d .bool))],[]⟩)]),(12,⟨[.boxSl 1 1 .str,.boxSl 1 2 Fb,.boxSl 1 13 Aq,.boxSl 1 14 B6,.boxSl 1 15 .str],[(1,.lf (.ptr 0 0)),(4,.lf (.d tI))],[.box 50 [.d Xf]]⟩,[(4,p0),(1,⟨[],[(2,.lf (.d .bool))],[]⟩)])]
def U5:Code:=(At (Bc Tryz.f25)).getD 0 .skip
def S8:Code:=(At (Bc Tryz.f25)).getD 1 .skip
def Bu (v4:Int) (b0:S4):Nat:=((List.length b0.2.2.2.2.2.1:Int) - v4).toNat + 1
def G0 {R:Type}  (NX:((Int)×S4×Unit)→Option R) (X4:(Unit)→Option R) (X1:((Bool)×Unit)→Option R) (v4:Int) (b0:S4):Option R:=
 bif decide (v4 < nI (List.length b0.2.2.2.2.2.1)) then bif decide (0≤v4) then bif decide (v4 < nI (List.length b0.2.2.2.2.2.1)) then bif nI (ByteArray.size (List.getD b0.2.2.2.2.2.1 v4.toNat (Ac))) != 64 then X1 (false,()) else NX (IntKind.i64.wrap (v4 + 1),b0,()) else none else none else X4 PUnit.unit
def A8:Nat→(Int)→S4 →  Option ((Unit) ⊕ ((Bool)×Unit))
 | 0,_,_=>none
 | m + 1,v4,b0=>G0  (fun d=>A8 m d.1 d.2.1) (fun d=>some (.inl (d))) (fun d=>some (.inr (d))) v4 b0
def Afz (d:(Int)×S4×Unit):Option ((Unit) ⊕ ((Bool)×Unit)):=(Ab (Ab Ae)) (A8 ((Ab (Ab Ae)) Bu d)) d
def C0 (v3:Int) (b0:S4):Nat:=((List.length b0.2.2.2.2.1:Int) - v3).toNat + 1
def H0 {R:Type}  (NX:((Int)×S4×Unit)→Option R) (X2:(S4×Unit)→Option R) (X1:((Bool)×Unit)→Option R) (v3:Int) (b0:S4):Option R:=
 bif decide (v3 < nI (List.length b0.2.2.2.2.1)) then bif decide (0≤v3) then bif decide (v3 < nI (List.length b0.2.2.2.2.1)) then bif !E0 (List.getD b0.2.2.2.2.1 v3.toNat ([],())) then X1 (false,()) else NX (IntKind.i64.wrap (v3 + 1),b0,()) else none else none else X2 (b0,())
def Bi:Nat→(Int)→S4 →  Option ((S4×Unit) ⊕ ((Bool)×Unit))
 | 0,_,_=>none
 | m + 1,v3,b0=>H0  (fun d=>Bi m d.1 d.2.1) (fun d=>some (.inl (d))) (fun d=>some (.inr (d))) v3 b0
def Ahj (d:(Int)×S4×Unit):Option ((S4×Unit) ⊕ ((Bool)×Unit)):=(Ab (Ab Ae)) (Bi ((Ab (Ab Ae)) C0 d)) d
def Qe (a0:S4):Option ((((Bool)×Unit)×(Unit))):=
 (Cw a0.1).bind fun val=>bif !val.1.1 then some ((false,()),()) else bif !G7 a0.2.1 then some ((false,()),()) else bif !Gv (nI (List.length a0.2.2.2.2.1)) 1 200 then some ((false,()),()) else bif decide (nI (List.length a0.2.2.2.2.2.1) > 2000) then some ((false,()),()) else bif a0.2.2.1 then bif !Nr a0.2.2.2.1 then some ((false,()),()) else bif a0.2.2.2.1.1 != a0.1 then some ((false,()),()) else bif a0.2.2.2.1.2.1 != nI (List.length a0.2.1.1) then some ((false,()),()) else bif !a0.2.2.1 then bif !L5 a0.2.2.2.1 then some ((false,()),()) else ((fun d=>Bi (C0 d.1 d.2.1) d.1 d.2.1) (0,a0,())).bind fun val=>Bw (fun d=>((fun d=>A8 (Bu d.1 d.2.1) d.1 d.2.1) (0,d)).bind fun val=>Bw (fun d=>some ((true,()),())) (fun d=>some (d,())) val) (fun d=>some (d,())) val else ((fun d=>Bi (C0 d.1 d.2.1) d.1 d.2.1) (0,a0,())).bind fun val=>Bw (fun d=>((fun d=>A8 (Bu d.1 d.2.1) d.1 d.2.1) (0,d)).bind fun val=>Bw (fun d=>some ((true,()),())) (fun d=>some (d,())) val) (fun d=>some (d,())) val else bif !a0.2.2.1 then bif !L5 a0.2.2.2.1 then some ((false,()),()) else ((fun d=>Bi (C0 d.1 d.2.1) d.1 d.2.1) (0,a0,())).bind fun val=>Bw (fun d=>((fun d=>A8 (Bu d.1 d.2.1) d.1 d.2.1) (0,d)).bind fun val=>Bw (fun d=>some ((true,()),())) (fun d=>some (d,())) val) (fun d=>some (d,())) val else ((fun d=>Bi (C0 d.1 d.2.1) d.1 d.2.1) (0,a0,())).bind fun val=>Bw (fun d=>((fun d=>A8 (Bu d.1 d.2.1) d.1 d.2.1) (0,d)).bind fun val=>Bw (fun d=>some ((true,()),())) (fun d=>some (d,())) val) (fun d=>some (d,())) val
theorem Bcm (b0:S4) (h:b0.2.2.2.2.1.length≤200):
  Bi (C0 0 b0) 0 b0=
  some (bif (List.range' 0 b0.2.2.2.2.1.length).all (fun i=>Av (b0.2.2.2.2.1.getD i zSs)) then .inl (b0,()) else .inr (false,())):=by
 have hL:=L2 (n:=b0.2.2.2.2.1.length) (fun i=>Av (b0.2.2.2.2.1.getD i zSs)) (g:=fun m i=>Bi m i b0) (ok:=.inl (b0,())) (bad:=.inr (false,())) (fun m i hi=>by
  show Bi (m + 1) i b0=_
  simp only [Bi,H0]
  rw [Qv hi,Gt,wI (show i < 4611686018427387904 by omega),Eo]
  show (bif !Av (b0.2.2.2.2.1.getD i zSs) then _ else _)=_
  cases Av (b0.2.2.2.2.1.getD i zSs)<;>rfl) (fun m=>by
  show Bi (m + 1) (b0.2.2.2.2.1.length:Int) b0=_
  simp only [Bi,H0]
  rw [Jx]
  rfl) (C0 0 b0) 0 (by omega) (by simp only [C0]; omega)
 exact hL
theorem A1b (b0:S4) (h:b0.2.2.2.2.2.1.length≤2000):A8 (Bu 0 b0) 0 b0=
  some (bif (List.range' 0 b0.2.2.2.2.2.1.length).all (fun i=>decide ((b0.2.2.2.2.2.1.getD i z0).size=64)) then .inl () else .inr (false,())):=by
 have hL:=L2 (n:=b0.2.2.2.2.2.1.length) (fun i=>decide ((b0.2.2.2.2.2.1.getD i z0).size=64)) (g:=fun m i=>A8 m i b0) (ok:=.inl ()) (bad:=.inr (false,())) (fun m i hi=>by
  show A8 (m + 1) i b0=_
  simp only [A8,G0]
  have e:(nI (ByteArray.size (List.getD b0.2.2.2.2.2.1 i (Ac))) != 64)=!decide ((b0.2.2.2.2.2.1.getD i z0).size=64):=Be7 (b0.2.2.2.2.2.1.getD i z0).size 64
  rw [Qv hi,Gt,wI (show i < 4611686018427387904 by omega),Eo,e]
  cases decide ((b0.2.2.2.2.2.1.getD i z0).size=64)<;>rfl) (fun m=>by
  show A8 (m + 1) (b0.2.2.2.2.2.1.length:Int) b0=_
  simp only [A8,G0]
  rw [Jx]
  rfl) (Bu 0 b0) 0 (by omega) (by simp only [Bu]; omega)
 exact hL
theorem Amw (a0:S4):Qe a0=some (((Ns a0),()),(())):=by
 unfold Qe Ns In
 refine d6 (wid a0.1) ?_
 show (bif !Fg a0.1 1 8 then _ else bif !B1 a0.2.1 then _ else bif !Fg (nI a0.2.2.2.2.1.length) 1 200 then _ else _)=_
 cases Fg a0.1 1 8 with
 | false=>rfl
 | true=>
  cases B1 a0.2.1 with
  | false=>rfl
  | true=>
   cases hp:Fg (nI a0.2.2.2.2.1.length) 1 200 with
   | false=>rfl
   | true=>
    have hpl:a0.2.2.2.2.1.length≤200:=by have:=(Iu hp).2; simp only [nI] at this; omega
    have e1:decide (nI a0.2.2.2.2.2.1.length > 2000)=!decide (a0.2.2.2.2.2.1.length≤2000):=Agx _ 2000
    rw [e1]
    cases hw:decide (a0.2.2.2.2.2.1.length≤2000) with
    | false=>rfl
    | true=>
     have hwl:=F0 hw
     simp only [Bool.not_true,Bool.true_and,cond_false]
     have key:∀ b:Bool,(bif b then (bif Yc a0 then (bif L4 a0 then some ((true,()),()) else some ((false,()),())) else some ((false,()),())) else some ((false,()),()))=(some ((b&&(Yc a0&&L4 a0),()),()):Option ((Bool×Unit)×Unit)):=fun b=>by
      cases b<;>cases Yc a0<;>cases L4 a0<;>rfl
     rw [← key]
     simp only [Bcm _ hpl,Option.bind_some]
     show _=(bif Aa8 a0 then (bif Yc a0 then (bif L4 a0 then _ else _) else _) else _)
     unfold Aa8
     have hP:Yc a0=(List.range' 0 a0.2.2.2.2.1.length).all (fun i=>Av (a0.2.2.2.2.1.getD i zSs)):=rfl
     have hW:L4 a0=(List.range' 0 a0.2.2.2.2.2.1.length).all (fun i=>decide ((a0.2.2.2.2.2.1.getD i z0).size=64)):=rfl
     rw [hP,hW]
     cases hu:a0.2.2.1 with
     | true=>
      simp only [cond_true,Bool.not_true,cond_false]
      show (bif !Mr a0.2.2.2.1 then _ else _)=_
      have w1:(a0.2.2.2.1.1 != a0.1)=!(a0.2.2.2.1.1==a0.1):=rfl
      have w2:(a0.2.2.2.1.2.1 != nI a0.2.1.1.length)=!(a0.2.2.2.1.2.1==nI a0.2.1.1.length):=rfl
      rw [w1,w2]
      cases Mr a0.2.2.2.1 with
      | false=>rfl
      | true=>
       cases (a0.2.2.2.1.1==a0.1) with
       | false=>rfl
       | true=>
        cases (a0.2.2.2.1.2.1==nI a0.2.1.1.length) with
        | false=>rfl
        | true=>
         cases (List.range' 0 a0.2.2.2.2.1.length).all (fun i=>Av (a0.2.2.2.2.1.getD i zSs)) with
         | false=>rfl
         | true=>
          show (A8 (Bu 0 a0) 0 a0).bind _=_
          rw [A1b _ hwl]
          cases (List.range' 0 a0.2.2.2.2.2.1.length).all (fun i=>decide ((a0.2.2.2.2.2.1.getD i z0).size=64))<;>rfl
     | false=>
      simp only [cond_true,Bool.not_false,cond_false]
      show (bif !Xj a0.2.2.2.1 then _ else _)=_
      cases Xj a0.2.2.2.1 with
      | false=>rfl
      | true=>
       cases (List.range' 0 a0.2.2.2.2.1.length).all (fun i=>Av (a0.2.2.2.2.1.getD i zSs)) with
       | false=>rfl
       | true=>
        show (A8 (Bu 0 a0) 0 a0).bind _=_
        rw [A1b _ hwl]
        cases (List.range' 0 a0.2.2.2.2.2.1.length).all (fun i=>decide ((a0.2.2.2.2.2.1.getD i z0).size=64))<;>rfl
def U6 {R:Type} (k:Kt R):=(Bw (Ko (B7 7) (.exit 0) 2 k) (Ko (B7 7) .ret 1 k))
def S9 {R:Type} (k:Kt R):=(Bw (Ko (B7 12) (.exit 2) 4 k) (Ko (B7 12) .ret 1 k))
def Rz {R:Type}:Lt R B7:=(E3 (pat:=B7) 7 (fun d k=>(Ahj d).bind (U6 k)) (E3 (pat:=B7) 12 (fun d k=>(Afz d).bind (S9 k)) F8))
theorem Qf:Ax Tryz.prog Qd:=Ay ⟨Eb,Np,Apl,Amu,Apv,Ms,trivial⟩
theorem Af0 {R:Type}:A4 Tryz.prog R 93 0 B7 Rz S8:=
 Cj (cfg:=⟨Qd,0,93,B7⟩) 12 [] (fun NX X d=>(Ab (Ab Ae)) (G0  NX (fun e=>X (.inl (e))) (fun e=>X (.inr (e)))) d) (fun m d=>(Ab (Ab Ae)) (A8 m) d) (fun d=>(Ab (Ab Ae)) Bu d) S9 Qf trivial (fun f NX d=>by simp only [u4,Ab,Ae]; unfold G0; simp only [nb])
theorem Ahk {R:Type}:A4 Tryz.prog R 93 0 B7 Rz U5:=
 Cj (cfg:=⟨Qd,0,93,B7⟩) 7 [] (fun NX X d=>(Ab (Ab Ae)) (H0  NX (fun e=>X (.inl (e))) (fun e=>X (.inr (e)))) d) (fun m d=>(Ab (Ab Ae)) (Bi m) d) (fun d=>(Ab (Ab Ae)) C0 d) U6 Qf trivial (fun f NX d=>by simp only [u4,Ab,Ae]; unfold H0; simp only [nb])
theorem Amx:Bm Tryz.prog 25 Yu:=
 Aw (pat:=B7) [U5,S8] Rz Qf ⟨Ahk,Af0,trivial⟩ Tryz.func25 (de:=fun x=>Qe x.1) (fun x r h=>(Amw x.1).trans h) fun _=>by kernel_rfl
def Lm (d:Dk):Option Dk:=if d.1.length≤1099511627776∧d.2.1.length≤1099511627776 then some d else none
def A1c:E5:=⟨[.rd Uw],[some 2],[.own 9 .str,.own 151 Fb],[some 2]⟩
def Yv:SD:=⟨A1c,fun x=>(Lm x.1).bind fun r=>some ((r.1,r.2.1,()),(()))⟩
def Yw (a0:Dk):Option ((Dk×(Unit))):=
 bif decide ((0 + List.length a0.1) * 16≤140737488355328) then bif decide ((0 + List.length a0.2.1) * 24≤140737488355328) then some (([]++a0.1,[]++a0.2.1,()),()) else none else none
theorem A1d (a0:Dk) r (h:Lm a0=some r):Yw a0=some ((r.1,r.2.1,()),(())):=by
 unfold Lm at h
 split at h
 ·rename_i hc
  cases h
  unfold Yw
  have c1:(0 + List.length a0.1) * 16≤140737488355328:=by omega
  have c2:(0 + List.length a0.2.1) * 24≤140737488355328:=by omega
  rw [Ap c1,Ap c2]
  rfl
 ·cases h
theorem Ahl:Bm Tryz.prog 106 Yv:=
 Aw (pat:=Co) [] F8 (Ay (l:=[]) trivial) trivial Tryz.func106 (de:=fun x=>Yw x.1) (fun x r h=>A2 (A1d x.1) h) fun _=>by kernel_rfl
def Ln (d:Dk):Option Dk:=if d.2.1.length≤1099511627776∧∀ i,i < d.2.1.length→0≤(d.2.1.getD i zW).1∧(d.2.1.getD i zW).1 < (d.1.length:Int) then some (A9b d) else none
def A1e:E5:=⟨[.own 9 .str,.rd (.sl Fb)],[some 2],[.own 9 .str,.own 151 Fb],[some 2]⟩
def Yx:SD:=⟨A1e,fun x=>(Ln (x.1,x.2.1,())).bind fun r=>some ((r.1,r.2.1,()),(()))⟩
def Ahm:Tb:=tb []
def L6:Nat→Da×(Nat→Da):=Gs [(3,⟨[.boxSl 1 1 Fb,.boxRow 2 0 9 .str,.boxRow 2 1 151 Fb],[(1,.lf (.ptr 1 0)),(2,.lf (.ptr 2 0)),(3,.lf (.d tI))],[.row 9 .str,.box 44 [.row 0,.d (.sl Fb)],.box 44 [.row 3,.row 4],.row 9 .str,.row 151 Fb]⟩,[(2,⟨[.boxSl 1 1 Fb,.boxRow 2 0 9 .str,.boxRow 2 1 151 Fb],[(1,.lf (.ptr 1 0)),(2,.lf (.ptr 2 0))],[.row 9 .str,.box 44 [.row 0,.d (.sl Fb)],.box 44 [.row 3,.row 4],.row 9 .str,.row 151 Fb]⟩)])]
def Abm:Code:=(At (Bc Tryz.f121)).getD 0 .skip
def G8 (v3:Int) (r0:List Aa) (b1_1:List Wr) (r3:List Aa) (r4:List Wr):Nat:=((b1_1.length:Int) - v3).toNat + 1
def L7 {R:Type}  (NX:((Int)×(List Aa)×(List Wr)×(List Aa)×(List Wr)×Unit)→Option R) (X2:((List Aa)×(List Wr)×(List Aa)×(List Wr)×Unit)→Option R) (v3:Int) (r0:List Aa) (b1_1:List Wr) (r3:List Aa) (r4:List Wr):Option R:=
 bif decide (v3 < nI b1_1.length) then bif decide (0≤v3) then bif decide (v3 < nI b1_1.length) then bif decide (0≤v3) then bif decide (v3 < nI b1_1.length) then bif decide (0≤(b1_1.getD v3.toNat (0,Ac,())).1) then bif decide ((b1_1.getD v3.toNat (0,Ac,())).1 < nI r0.length) then bif decide (Int.toNat (b1_1.getD v3.toNat (0,Ac,())).1 < r0.length) then NX (IntKind.i64.wrap (v3 + 1),r0.set (Int.toNat (b1_1.getD v3.toNat (0,Ac,())).1) (b1_1.getD v3.toNat (0,Ac,())).2.1,b1_1,r3,r4,()) else none else none else none else none else none else none else none else X2 (r0,b1_1,r3,r4,())
def Dg:Nat→(Int)→(List Aa)→(List Wr)→(List Aa)→(List Wr) →  Option ((List Aa)×(List Wr)×(List Aa)×(List Wr)×Unit)
 | 0,_,_,_,_,_=>none
 | m + 1,v3,r0,b1_1,r3,r4=>L7  (fun d=>Dg m d.1 d.2.1 d.2.2.1 d.2.2.2.1 d.2.2.2.2.1) (fun d=>some (d)) v3 r0 b1_1 r3 r4
def As0 (d:(Int)×(List Aa)×(List Wr)×(List Aa)×(List Wr)×Unit):Option ((List Aa)×(List Wr)×(List Aa)×(List Wr)×Unit):=(u4 (Ab Ae)) (Dg ((u4 (Ab Ae)) G8 d)) d
def Yy (a0:List Aa) (a1:List Wr):Option ((Dk×(Unit))):=
 ((fun d=>Dg (G8 d.1 d.2.1 d.2.2.1 d.2.2.2.1 d.2.2.2.2.1) d.1 d.2.1 d.2.2.1 d.2.2.2.1 d.2.2.2.2.1) (0,a0,a1,[],[],())).bind fun val=>some ((val.1,[],()),())
theorem A1f (a0:List Aa) (a1:List Wr) r (h:Ln (a0,a1,())=some r):Yy a0 a1=some ((r.1,r.2.1,()),(())):=by
 unfold Ln at h
 split at h
 ·rename_i hc
  obtain ⟨hp,hw⟩:=hc
  cases h
  have hL:=A5h (xs:=a1) zW (fun s:List Aa=>s.length=a0.length) (fun _ w s=>s.set w.1.toNat w.2.1) (g:=fun m i s=>Dg m i s a1 [] []) (ok:=fun s=>(s,a1,[],[],())) (fun m i s hi hs=>by
   show Dg (m + 1) i s a1 [] []=_
   simp only [Dg,L7]
   obtain ⟨h0,h1⟩:=hw i hi
   have c1:decide (0≤(List.getD a1 i (0,Ac,())).1)=true:=Ap h0
   have c2:decide ((List.getD a1 i (0,Ac,())).1 < nI s.length)=true:=Ap (by rw [hs]; exact h1)
   have c3:decide (Int.toNat (List.getD a1 i (0,Ac,())).1 < s.length)=true:=Ap (by
    rw [hs]
    have:(a1.getD i zW).1.toNat < a0.length:=by
     have h0:0≤(a1.getD i zW).1:=h0
     have h1:(a1.getD i zW).1 < (a0.length:Int):=h1
     omega
    exact this)
   rw [Qv hi,Gt,wI (show i < 4611686018427387904 by have hp:a1.length≤1099511627776:=hp; omega),Eo,c1,c2,c3]
   rfl) (fun i s hi hs=>by rw [List.length_set]; exact hs) (fun m s hs=>by
   show Dg (m + 1) (a1.length:Int) s a1 [] []=_
   simp only [Dg,L7]
   rw [Jx]
   rfl) (G8 0 a0 a1 [] []) 0 a0 (by omega) (by simp [G8]) rfl
  have hL':Dg (G8 0 a0 a1 [] []) 0 a0 a1 [] []=_:=hL
  unfold Yy
  show (Dg (G8 0 a0 a1 [] []) 0 a0 a1 [] []).bind _=_
  rw [hL']
  rfl
 ·cases h
def Abn {R:Type} (k:Kt R):=(Ko (L6 3) (.exit 0) 2 k)
def Aky {R:Type}:Lt R L6:=(E3 (pat:=L6) 3 (fun d k=>(As0 d).bind (Abn k)) F8)
theorem Ahn:Ax Tryz.prog Ahm:=Ay trivial
theorem As1 {R:Type}:A4 Tryz.prog R 29 1 L6 Aky Abm:=
 Cj (cfg:=⟨Ahm,1,29,L6⟩) 3 [] (fun NX X d=>(u4 (Ab Ae)) (L7  NX X) d) (fun m d=>(u4 (Ab Ae)) (Dg m) d) (fun d=>(u4 (Ab Ae)) G8 d) Abn Ahn trivial (fun f NX d=>by simp only [u4,Ab,Ae]; unfold L7; simp only [nb])
theorem Aho:Bm Tryz.prog 121 Yx:=
 Aw (pat:=L6) [Abm] Aky Ahn ⟨As1,trivial⟩ Tryz.func121 (de:=fun x=>Yy x.1 x.2.1) (fun x r h=>A2 (A1f x.1 x.2.1) h) fun _=>by kernel_rfl
def l8 (p:Pg) (w:Int):Bool:=Mq p w
def A7a:E5:=⟨[.rd yPg,.rd tI],[some 4,none],[.rd .bool],[none]⟩
def Apw:SD:=⟨A7a,fun x=>some (((l8 x.1 x.2.1),()),(()))⟩
def Adz (a0:Pg) (a1:Int):Option ((((Bool)×Unit)×(Unit))):=
 (Cw a1).bind fun val=>bif !val.1.1 then some ((false,()),()) else bif decide (a0.1 < 1) then some ((false,()),()) else bif decide (a0.1 > 4) then some ((false,()),()) else bif decide (a0.2.1 < 1) then some ((false,()),()) else bif decide (a0.2.1 > 60000) then some ((false,()),()) else bif decide (a0.2.2.1 < 1) then some ((false,()),()) else bif decide (a0.2.2.1 > 1000000000) then some ((false,()),()) else bif decide (nI (ByteArray.size a0.2.2.2.1)≤IntKind.i64.wrap (IntKind.i64.wrap (64 - a1) - 8)) then bif a0.1 != 3 then some ((true,()),()) else some ((ByteArray.toList a0.2.2.2.1==(Ac).toList,()),()) else some ((false,()),())
theorem A7b (a0:Pg) (a1:Int):Adz a0 a1=some (((l8 a0 a1),()),(())):=by
 unfold Adz l8 Mq
 have tl:ByteArray.toList (Ac)=[]:=by decide +kernel
 rw [tl]
 refine d6 (wid a1) ?_
 show (bif !Fg a1 1 8 then _ else _)=_
 cases hw:Fg a1 1 8 with
 | false=>rfl
 | true=>
  have k1:=F0 (C6 hw).1
  have k2:=F0 (C6 hw).2
  rw [Aj (n:=64 - a1) (by omega) (by omega),Aj (by omega) (by omega),show 64 - a1 - 8=56 - a1 by omega]
  have e:∀ (x lo hi:Int) {ρ:Type} (f t:ρ),(bif decide (x < lo) then f else bif decide (x > hi) then f else t)=bif Fg x lo hi then t else f:=by
   intro x lo hi ρ f t
   unfold Fg
   by_cases h1:x < lo
   ·rw [Ap h1,Bd (show ¬ lo≤x by omega)]; rfl
   ·rw [Bd h1,Ap (show lo≤x by omega)]
    by_cases h2:x > hi
    ·rw [Ap h2,Bd (show ¬ x≤hi by omega)]; rfl
    ·rw [Bd h2,Ap (show x≤hi by omega)]; rfl
  rw [e a0.1,e a0.2.1,e a0.2.2.1]
  cases Fg a0.1 1 4<;>cases Fg a0.2.1 1 60000<;>cases Fg a0.2.2.1 1 1000000000<;>try rfl
  show (bif decide ((ByteArray.size a0.2.2.2.1:Int)≤56 - a1) then _ else _)=_
  cases decide ((ByteArray.size a0.2.2.2.1:Int)≤56 - a1)<;>cases (a0.1 != 3)<;>rfl
theorem A7c:Bm Tryz.prog 132 Apw:=
 Aw (pat:=Co) [] F8 (Ay (l:=[(69,Dr),(162,Ru)]) ⟨Eb,Yp,trivial⟩) trivial Tryz.func132 (de:=fun x=>Adz x.1 x.2.1) (fun x r h=>(A7b x.1 x.2.1).trans h) fun _=>by kernel_rfl
theorem Abo:∃ f:Int→Int→Option Aa,f=fun v n=>if 0≤v∧v < 9223372036854775808∧0≤n∧n≤1000 then some (Dy v n.toNat) else none:=⟨_,rfl⟩
def Bx (v n:Int):Option Aa:=Classical.choose Abo v n
theorem G9 (v n:Int):Bx v n=if 0≤v∧v < 9223372036854775808∧0≤n∧n≤1000 then some (Dy v n.toNat) else none:=by
 unfold Bx
 rw [Classical.choose_spec Abo]
def J5 (v0 v1:Int) (v5:Aa) (v6:Int):Nat:=(v1 - v6).toNat + 1
def As2:E5:=⟨[.rd tI,.rd tI],[none,none],[.rd .str],[none]⟩
def Tr:SD:=⟨As2,fun x=>(Bx x.1 x.2.1).bind fun r=>some ((r,()),(()))⟩
def Abp:Tb:=tb []
def Jf:Nat→Da×(Nat→Da):=Gs [(4,⟨[],[(0,.lf (.d tI)),(1,.lf (.d tI)),(5,.lf (.d .str)),(6,.lf (.d tI))],[]⟩,[(2,⟨[],[(5,.lf (.d .str))],[]⟩)])]
def Yz:Code:=(At (Bc Tryz.f133)).getD 0 .skip
def J6 {R:Type}  (NX:((Int)×(Int)×(Aa)×(Int)×Unit)→Option R) (X2:((Aa)×Unit)→Option R) (v0:Int) (v1:Int) (v5:Aa) (v6:Int):Option R:=
 bif decide (v6 < v1) then bif decide ((strOfNums [IntKind.u8.wrap (v0.tmod 256)]).size + v5.size≤9223372036854775807) then NX (IntKind.i64.wrap (v0.tdiv 256),v1,strOfNums [IntKind.u8.wrap (v0.tmod 256)]++v5,IntKind.i64.wrap (v6 + 1),()) else none else X2 (v5,())
def Fm:Nat→(Int)→(Int)→(Aa)→(Int) →  Option ((Aa)×Unit)
 | 0,_,_,_,_=>none
 | m + 1,v0,v1,v5,v6=>J6  (fun d=>Fm m d.1 d.2.1 d.2.2.1 d.2.2.2.1) (fun d=>some (d)) v0 v1 v5 v6
def Amy (d:(Int)×(Int)×(Aa)×(Int)×Unit):Option ((Aa)×Unit):=(u4 Ae) (Fm ((u4 Ae) J5 d)) d
def Tt (a0 a1:Int):Option ((((Aa)×Unit)×(Unit))):=
 ((fun d=>Fm (J5 d.1 d.2.1 d.2.2.1 d.2.2.2.1) d.1 d.2.1 d.2.2.1 d.2.2.2.1) (a0,a1,Ac,0,())).bind fun val=>some (val,())
theorem Akz:∀ (k m i:Nat) (v:Int) (out:Aa),i + k≤1000→k < m→out.size=i→0≤v→v < 9223372036854775808→Fm m v ((i + k:Nat):Int) out i=some (Dy v k++out,())
 | 0,m + 1,i,v,out,hi,hm,ho,h0,h1=>by
  simp only [Fm,J6]
  rw [Bd (by omega),A9l]
  rfl
 | k + 1,m + 1,i,v,out,hi,hm,ho,h0,h1=>by
  simp only [Fm,J6]
  have e1:IntKind.wrap IntKind.u8 (Int.tmod v 256)=v % 256:=by
   rw [Int.tmod_eq_emod_of_nonneg h0]
   show v % 256 % 256=v % 256
   omega
  have e2:IntKind.i64.wrap (Int.tdiv v 256)=v / 256:=by
   rw [Int.tdiv_eq_ediv_of_nonneg h0]
   exact Aj (by omega) (by omega)
  rw [Ap (show (i:Int) < ((i + (k + 1):Nat):Int) by omega),e1,e2,Ap (show ByteArray.size (strOfNums [v % 256]) + ByteArray.size out≤9223372036854775807 by rw [ho,Gb]; simp; omega),wI (show i < 4611686018427387904 by omega)]
  have hL:=Akz k m (i + 1) (v / 256) (strOfNums [v % 256]++out) (by omega) (by omega) (by rw [ByteArray.size_append,ho,Gb]; simp; omega) (by omega) (by omega)
  rw [show i + 1 + k=i + (k + 1) by omega] at hL
  refine hL.trans ?_
  rw [← ByteArray.append_assoc,← A9m]
theorem As3 (a0 a1:Int) r (h:Bx a0 a1=some r):Tt a0 a1=some ((r,()),(())):=by
 rw [G9] at h
 split at h
 ·rename_i hc
  cases h
  obtain ⟨n,rfl⟩:∃ n:Nat,a1=(n:Int):=⟨a1.toNat,by omega⟩
  unfold Tt
  have hL:=Akz n (J5 a0 n (Ac) 0) 0 a0 (Ac) (by omega) (by simp only [J5]; omega) rfl hc.1 hc.2.1
  rw [Nat.zero_add] at hL
  rw [Bhn] at hL
  exact d6 hL rfl
 ·cases h
def Y0 {R:Type} (k:Kt R):=(Ko (Jf 4) (.exit 0) 2 k)
def Aey {R:Type}:Lt R Jf:=(E3 (pat:=Jf) 4 (fun d k=>(Amy d).bind (Y0 k)) F8)
theorem Abq:Ax Tryz.prog Abp:=Ay trivial
theorem Amz {R:Type}:A4 Tryz.prog R 22 0 Jf Aey Yz:=
 Cj (cfg:=⟨Abp,0,22,Jf⟩) 4 [] (fun NX X d=>(u4 Ae) (J6  NX X) d) (fun m d=>(u4 Ae) (Fm m) d) (fun d=>(u4 Ae) J5 d) Y0 Abq trivial (fun f NX d=>by simp only [u4,Ab,Ae]; unfold J6; simp only [nb])
theorem Abr:Bm Tryz.prog 133 Tr:=
 Aw (pat:=Jf) [Yz] Aey Abq ⟨Amz,trivial⟩ Tryz.func133 (de:=fun x=>Tt x.1 x.2.1) (fun x r h=>A2 (As3 x.1 x.2.1) h) fun _=>by kernel_rfl
def Y1 (s:Aa) (w:Int):Option Aa:=if s.size < 4611686018427387904 then some (Ao2 s w) else none
def Pc (v0:Aa) (v1 v5 v6:Int):Nat:=(nI v0.size - v6).toNat + 1
def Oa (v1 v5:Int) (v7:Aa) (v8:Int):Nat:=(v1 - v8).toNat + 1
def Bab:E5:=⟨[.rd .str,.rd tI],[none,none],[.rd .str],[none]⟩
def Avc:SD:=⟨Bab,fun x=>(Y1 x.1 x.2.1).bind fun r=>some ((r,()),(()))⟩
def Ahp:Tb:=tb [(69,Dr)]
def Ja:Nat→Da×(Nat→Da):=Gs [(6,⟨[],[(0,.lf (.d .str)),(1,.lf (.d tI)),(5,.lf (.d (.int .u64))),(6,.lf (.d tI))],[]⟩,[(2,⟨[],[(1,.lf (.d tI)),(5,.lf (.d (.int .u64)))],[]⟩)]),(11,⟨[],[(1,.lf (.d tI)),(5,.lf (.d (.int .u64))),(7,.lf (.d .str)),(8,.lf (.d tI))],[]⟩,[(4,⟨[],[(7,.lf (.d .str))],[]⟩)])]
def Ak0:Code:=(At (Bc Tryz.f134)).getD 0 .skip
def Ahq:Code:=(At (Bc Tryz.f134)).getD 1 .skip
def Ob {R:Type}  (NX:((Int)×(Int)×(Aa)×(Int)×Unit)→Option R) (X4:((Aa)×Unit)→Option R) (v1:Int) (v5:Int) (v7:Aa) (v8:Int):Option R:=
 bif decide (v8 < v1) then bif decide ((strOfNums [IntKind.u8.wrap (v5.tmod 256)]).size + v7.size≤9223372036854775807) then NX (v1,IntKind.u64.wrap (v5.tdiv 256),strOfNums [IntKind.u8.wrap (v5.tmod 256)]++v7,IntKind.i64.wrap (v8 + 1),()) else none else X4 (v7,())
def J7:Nat→(Int)→(Int)→(Aa)→(Int) →  Option ((Aa)×Unit)
 | 0,_,_,_,_=>none
 | m + 1,v1,v5,v7,v8=>Ob  (fun d=>J7 m d.1 d.2.1 d.2.2.1 d.2.2.2.1) (fun d=>some (d)) v1 v5 v7 v8
def A1g (d:(Int)×(Int)×(Aa)×(Int)×Unit):Option ((Aa)×Unit):=(u4 Ae) (J7 ((u4 Ae) Oa d)) d
def Pd {R:Type}  (NX:((Aa)×(Int)×(Int)×(Int)×Unit)→Option R) (X2:((Int)×(Int)×Unit)→Option R) (v0:Aa) (v1:Int) (v5:Int) (v6:Int):Option R:=
 bif decide (v6 < nI v0.size) then bif decide (0≤v6) then bif decide (v6 < nI v0.size) then NX (v0,v1,IntKind.u64.wrap (IntKind.u64.wrap (nI (BitVec.ofInt 64 v5 ^^^ BitVec.ofInt 64 (IntKind.u64.wrap (Am v0 v6))).toNat) * 1099511628211),IntKind.i64.wrap (v6 + 1),()) else none else none else X2 (v1,v5,())
def Hl:Nat→(Aa)→(Int)→(Int)→(Int) →  Option ((Int)×(Int)×Unit)
 | 0,_,_,_,_=>none
 | m + 1,v0,v1,v5,v6=>Pd  (fun d=>Hl m d.1 d.2.1 d.2.2.1 d.2.2.2.1) (fun d=>some (d)) v0 v1 v5 v6
def A3m (d:(Aa)×(Int)×(Int)×(Int)×Unit):Option ((Int)×(Int)×Unit):=(u4 Ae) (Hl ((u4 Ae) Pc d)) d
def Ahr (a0:Aa) (a1:Int):Option ((((Aa)×Unit)×(Unit))):=
 (Cw a1).bind fun val=>bif !val.1.1 then some ((Ac,()),()) else ((fun d=>Hl (Pc d.1 d.2.1 d.2.2.1 d.2.2.2.1) d.1 d.2.1 d.2.2.1 d.2.2.2.1) (a0,a1,14695981039346656037,0,())).bind fun val=>((fun d=>J7 (Oa d.1 d.2.1 d.2.2.1 d.2.2.2.1) d.1 d.2.1 d.2.2.1 d.2.2.2.1) (val.1,val.2.1,Ac,0,())).bind fun val=>some (val,())
theorem A1h:∀ (k m i:Nat) (v:Int) (out:Aa),i + k≤1000→k < m→out.size=i→U64 v→J7 m ((i + k:Nat):Int) v out i=some (Dy v k++out,())
 | 0,m + 1,i,v,out,hi,hm,ho,hv=>by
  simp only [J7,Ob]
  rw [Bd (by omega),A9l]
  rfl
 | k + 1,m + 1,i,v,out,hi,hm,ho,hv=>by
  have h0:=hv.1
  have h1:=hv.2
  simp only [J7,Ob]
  have e1:IntKind.wrap IntKind.u8 (Int.tmod v 256)=v % 256:=by
   rw [Int.tmod_eq_emod_of_nonneg h0]
   show v % 256 % 256=v % 256
   omega
  have e2:IntKind.wrap IntKind.u64 (Int.tdiv v 256)=v / 256:=by
   rw [Int.tdiv_eq_ediv_of_nonneg h0,Bjx]
   omega
  rw [Ap (show (i:Int) < ((i + (k + 1):Nat):Int) by omega),e1,e2,Ap (show ByteArray.size (strOfNums [v % 256]) + ByteArray.size out≤9223372036854775807 by rw [ho,Gb]; simp; omega),wI (show i < 4611686018427387904 by omega)]
  have hL:=A1h k m (i + 1) (v / 256) (strOfNums [v % 256]++out) (by omega) (by omega) (by rw [ByteArray.size_append,ho,Gb]; simp; omega) ⟨by omega,by omega⟩
  rw [show i + 1 + k=i + (k + 1) by omega] at hL
  refine hL.trans ?_
  rw [← ByteArray.append_assoc,← A9m]
theorem Bac (a0:Aa) (a1:Int) r (h:Y1 a0 a1=some r):Ahr a0 a1=some ((r,()),(())):=by
 unfold Y1 at h
 split at h
 rotate_left
 ·cases h
 rename_i hsz
 cases h
 unfold Ahr Ao2
 generalize hC:(14695981039346656037:Int)=C
 have h0:U64 C:=by rw [← hC]; exact ⟨by decide,by decide⟩
 refine d6 (wid a1) ?_
 show (bif !Fg a1 1 8 then _ else _)=_
 cases hw:Fg a1 1 8 with
 | false=>rfl
 | true=>
  have k1:=F0 (C6 hw).1
  have k2:=F0 (C6 hw).2
  ·simp only [Bool.not_true,cond_false,cond_true]
   have hL:=Ajs a0.size (fun _ _=>True) (fun i h=>Agw h (Am a0 i)) (g:=fun m i h=>Hl m a0 a1 h i) (ok:=fun h=>(a1,h,())) (fun m i h hi _=>by
    show Hl (m + 1) a0 a1 h i=_
    simp only [Hl,Pd]
    have c1:(i:Int) < nI a0.size:=by simp only [nI]; omega
    rw [Ap c1,Gt,wI (show i < 4611686018427387904 by omega)]
    rfl) (fun m h _=>by
    show Hl (m + 1) a0 a1 h a0.size=_
    simp only [Hl,Pd]
    rw [Bd (show ¬ ((a0.size:Int) < nI a0.size) by simp only [nI]; omega)]
    rfl) (fun _ _ _ _=>trivial) a0.size (Pc a0 a1 C 0) 0 C (by omega) (by simp only [Pc,nI]; omega) trivial
   rw [show ((0:Nat):Int)=0 from rfl] at hL
   refine d6 hL ?_
   obtain ⟨n,rfl⟩:∃ n:Nat,a1=(n:Int):=⟨a1.toNat,by omega⟩
   have hM:=A1h n (Oa n (Ash a0 a0.size 0 C) (Ac) 0) 0 (Ash a0 a0.size 0 C) (Ac) (by omega) (by simp only [Oa]; omega) rfl (Bdu a0 _ _ h0)
   rw [Nat.zero_add,Bhn] at hM
   exact d6 hM rfl
def Ak1 {R:Type} (k:Kt R):=(Ko (Ja 6) (.exit 0) 2 k)
def Ahs {R:Type} (k:Kt R):=(Ko (Ja 11) (.exit 2) 4 k)
def Am0 {R:Type}:Lt R Ja:=(E3 (pat:=Ja) 6 (fun d k=>(A3m d).bind (Ak1 k)) (E3 (pat:=Ja) 11 (fun d k=>(A1g d).bind (Ahs k)) F8))
theorem Aht:Ax Tryz.prog Ahp:=Ay ⟨Eb,trivial⟩
theorem A1i {R:Type}:A4 Tryz.prog R 40 0 Ja Am0 Ahq:=
 Cj (cfg:=⟨Ahp,0,40,Ja⟩) 11 [] (fun NX X d=>(u4 Ae) (Ob  NX X) d) (fun m d=>(u4 Ae) (J7 m) d) (fun d=>(u4 Ae) Oa d) Ahs Aht trivial (fun f NX d=>by simp only [u4,Ab,Ae]; unfold Ob; simp only [nb])
theorem A3n {R:Type}:A4 Tryz.prog R 40 0 Ja Am0 Ak0:=
 Cj (cfg:=⟨Ahp,0,40,Ja⟩) 6 [] (fun NX X d=>(u4 Ae) (Pd  NX X) d) (fun m d=>(u4 Ae) (Hl m) d) (fun d=>(u4 Ae) Pc d) Ak1 Aht trivial (fun f NX d=>by simp only [u4,Ab,Ae]; unfold Pd; simp only [nb])
theorem Bad:Bm Tryz.prog 134 Avc:=
 Aw (pat:=Ja) [Ak0,Ahq] Am0 Aht ⟨A3n,A1i,trivial⟩ Tryz.func134 (de:=fun x=>Ahr x.1 x.2.1) (fun x r h=>A2 (Bac x.1 x.2.1) h) fun _=>by kernel_rfl
def Dc (p:Pg) (w:Int):Aa:=E7 p w
def J8 (v1:Int) (v5:Aa):Nat:=(64 - v1 - nI v5.size).toNat + 1
def As4:E5:=⟨[.rd yPg,.rd tI],[some 4,none],[.rd .str],[none]⟩
def Jg:SD:=⟨As4,fun x=>some (((Dc x.1 x.2.1),()),(()))⟩
def Abs:Tb:=tb [(132,Apw),(133,Tr),(134,Avc)]
def Jh:Nat→Da×(Nat→Da):=Gs [(5,⟨[],[(1,.lf (.d tI)),(5,.lf (.d .str))],[]⟩,[(2,⟨[],[(1,.lf (.d tI)),(5,.lf (.d .str))],[]⟩)])]
def Y2:Code:=(At (Bc Tryz.f82)).getD 0 .skip
def J9 {R:Type}  (NX:((Int)×(Aa)×Unit)→Option R) (X2:((Int)×(Aa)×Unit)→Option R) (v1:Int) (v5:Aa):Option R:=
 bif decide (IntKind.i64.wrap (nI v5.size + v1) < 64) then bif decide (v5.size + (ByteArray.mk #[0]).size≤9223372036854775807) then NX (v1,v5++ByteArray.mk #[0],()) else none else X2 (v1,v5,())
def Fo:Nat→(Int)→(Aa) →  Option ((Int)×(Aa)×Unit)
 | 0,_,_=>none
 | m + 1,v1,v5=>J9  (fun d=>Fo m d.1 d.2.1) (fun d=>some (d)) v1 v5
def Am1 (d:(Int)×(Aa)×Unit):Option ((Int)×(Aa)×Unit):=(Ab (Ab Ae)) (Fo ((Ab (Ab Ae)) J8 d)) d
def Tu (a0:Pg) (a1:Int):Option ((((Aa)×Unit)×(Unit))):=
 bif !l8 a0 a1 then some ((Ac,()),()) else ((Bx a0.1 1).bind fun val=>some ((val,()),())).bind fun val=>((Bx a0.2.1 2).bind fun val=>some ((val,()),())).bind fun val_1=>bif decide (ByteArray.size val.1.1 + ByteArray.size val_1.1.1≤9223372036854775807) then ((Bx a0.2.2.1 4).bind fun val=>some ((val,()),())).bind fun val_2=>bif decide ((val.1.1++val_1.1.1).size + ByteArray.size val_2.1.1≤9223372036854775807) then ((Bx (nI (ByteArray.size a0.2.2.2.1)) 1).bind fun val=>some ((val,()),())).bind fun val_3=>bif decide ((val.1.1++val_1.1.1++val_2.1.1).size + ByteArray.size val_3.1.1≤9223372036854775807) then bif decide ((val.1.1++val_1.1.1++val_2.1.1++val_3.1.1).size + ByteArray.size a0.2.2.2.1≤9223372036854775807) then ((fun d=>Fo (J8 d.1 d.2.1) d.1 d.2.1) (a1,val.1.1++val_1.1.1++val_2.1.1++val_3.1.1++a0.2.2.2.1,())).bind fun val=>((Y1 val.2.1 val.1).bind fun val=>some ((val,()),())).bind fun val_4=>bif decide (ByteArray.size val_4.1.1 + ByteArray.size val.2.1≤9223372036854775807) then some ((val_4.1.1++val.2.1,()),()) else none else none else none else none else none
theorem Bae (w:Int):∀ (k m:Nat) (b:Aa),(b.size:Int) + w + k=64→0≤w→k < m→Fo m w b=some (w,b++strOfNums (List.replicate k 0),())
 | 0,m + 1,b,h,h0,hm=>by
  simp only [Fo,J9]
  rw [Aj (by simp only [nI]; omega) (by simp only [nI]; omega),Bd (show ¬ (nI b.size + w < 64) by simp only [nI]; omega),show strOfNums (List.replicate 0 0)=Ac from rfl,Bhn]
  rfl
 | k + 1,m + 1,b,h,h0,hm=>by
  simp only [Fo,J9]
  have hz:(ByteArray.mk #[0]).size=1:=rfl
  rw [Aj (by simp only [nI]; omega) (by simp only [nI]; omega),Ap (show nI b.size + w < 64 by simp only [nI]; omega),hz,Ap (show b.size + 1≤9223372036854775807 by omega)]
  have:=Bae w k m (b++ByteArray.mk #[0]) (by rw [ByteArray.size_append,hz]; omega) h0 (by omega)
  refine this.trans ?_
  rw [ByteArray.append_assoc,show ByteArray.mk #[0]=strOfNums [0] from rfl,← Akw]
  rfl
theorem As5 (a0:Pg) (a1:Int):Tu a0 a1=some (((Dc a0 a1),()),(())):=by
 unfold Tu Dc E7
 show (bif !Mq a0 a1 then _ else _)=_
 cases hp:Mq a0 a1 with
 | false=>rfl
 | true=>
  obtain ⟨hw,k1,k2,kp⟩:=X7 hp
  obtain ⟨r1,r2,r3⟩:=Ag0 hp
  have n1:Bx a0.1 1=some (Dy a0.1 1):=(G9 _ _).trans (if_pos (by omega))
  have n2:Bx a0.2.1 2=some (Dy a0.2.1 2):=(G9 _ _).trans (if_pos (by omega))
  have n3:Bx a0.2.2.1 4=some (Dy a0.2.2.1 4):=(G9 _ _).trans (if_pos (by omega))
  have n4:Bx (nI a0.2.2.2.1.size) 1=some (Dy (nI a0.2.2.2.1.size) 1):=(G9 _ _).trans (if_pos (by simp only [nI]; omega))
  simp only [Bool.not_true,cond_false,cond_true,n1,n2,n3,n4,Option.bind_some]
  have hb:Ia a0 a1=Dy a0.1 1++Dy a0.2.1 2++Dy a0.2.2.1 4++Dy (nI a0.2.2.2.1.size) 1++a0.2.2.2.1++strOfNums (List.replicate (56 - a1 - a0.2.2.2.1.size).toNat 0):=rfl
  have hs4:(Dy a0.1 1++Dy a0.2.1 2++Dy a0.2.2.1 4++Dy (nI a0.2.2.2.1.size) 1).size=8:=by simp only [ByteArray.size_append,L3]
  have hs3:(Dy a0.1 1++Dy a0.2.1 2++Dy a0.2.2.1 4).size=7:=by simp only [ByteArray.size_append,L3]
  have hs2:(Dy a0.1 1++Dy a0.2.1 2).size=3:=by simp only [ByteArray.size_append,L3]
  have hs5:(Dy a0.1 1++Dy a0.2.1 2++Dy a0.2.2.1 4++Dy (nI a0.2.2.2.1.size) 1++a0.2.2.2.1).size=8 + a0.2.2.2.1.size:=by rw [ByteArray.size_append,hs4]
  rw [hs4,hs3,hs2,L3,L3,L3,L3,Ap (show 1 + 2≤9223372036854775807 by decide),Ap (show 3 + 4≤9223372036854775807 by decide),Ap (show 7 + 1≤9223372036854775807 by decide),Ap (show 8 + a0.2.2.2.1.size≤9223372036854775807 by omega)]
  simp only [cond_true]
  generalize hB:Dy a0.1 1++Dy a0.2.1 2++Dy a0.2.2.1 4++Dy (nI a0.2.2.2.1.size) 1++a0.2.2.2.1=B at *
  have hL:=Bae a1 (56 - a1 - a0.2.2.2.1.size).toNat (J8 a1 B) B (by rw [hs5]; omega) (by omega) (by simp only [J8,nI,hs5]; omega)
  have hz:(strOfNums (List.replicate (56 - a1 - a0.2.2.2.1.size).toNat 0)).size=(56 - a1 - a0.2.2.2.1.size).toNat:=by rw [Gb,List.length_replicate]
  rw [← hb] at hL
  have hbs:(Ia a0 a1).size≤64:=by rw [hb,ByteArray.size_append,hs5,hz]; omega
  have hm:Y1 (Ia a0 a1) a1=some (Ao2 (Ia a0 a1) a1):=if_pos (by omega)
  refine d6 hL (d6 (d6 hm rfl) ?_)
  show (bif decide (ByteArray.size (Ao2 (Ia a0 a1) a1) + ByteArray.size (Ia a0 a1)≤9223372036854775807) then some ((Ao2 (Ia a0 a1) a1++Ia a0 a1,()),()) else none)=_
  rw [Aa7 hw,Ap (by omega)]
  rfl
def Y3 {R:Type} (k:Kt R):=(Ko (Jh 5) (.exit 0) 2 k)
def Aez {R:Type}:Lt R Jh:=(E3 (pat:=Jh) 5 (fun d k=>(Am1 d).bind (Y3 k)) F8)
theorem Abt:Ax Tryz.prog Abs:=Ay ⟨A7c,Abr,Bad,trivial⟩
theorem Am2 {R:Type}:A4 Tryz.prog R 41 0 Jh Aez Y2:=
 Cj (cfg:=⟨Abs,0,41,Jh⟩) 5 [] (fun NX X d=>(Ab (Ab Ae)) (J9  NX X) d) (fun m d=>(Ab (Ab Ae)) (Fo m) d) (fun d=>(Ab (Ab Ae)) J8 d) Y3 Abt trivial (fun f NX d=>by simp only [u4,Ab,Ae]; unfold J9; simp only [nb])
theorem L8:Bm Tryz.prog 82 Jg:=
 Aw (pat:=Jh) [Y2] Aez Abt ⟨Am2,trivial⟩ Tryz.func82 (de:=fun x=>Tu x.1 x.2.1) (fun x r h=>(As5 x.1 x.2.1).trans h) fun _=>by kernel_rfl
def Hm (s:Aa):Option Int:=if s.size≤7 then some (Agv s) else none
def L9 (v0:Aa) (v3 v4:Int):Nat:=(nI v0.size - v4).toNat + 1
def A1j:E5:=⟨[.rd .str],[none],[.rd tI],[none]⟩
def Y4:SD:=⟨A1j,fun x=>(Hm x.1).bind fun r=>some ((r,()),(()))⟩
def Ahu:Tb:=tb []
def Ma:Nat→Da×(Nat→Da):=Gs [(4,⟨[],[(0,.lf (.d .str)),(3,.lf (.d tI)),(4,.lf (.d tI))],[]⟩,[(2,⟨[],[(3,.lf (.d tI))],[]⟩)])]
def Abu:Code:=(At (Bc Tryz.f161)).getD 0 .skip
def Mb {R:Type}  (NX:((Aa)×(Int)×(Int)×Unit)→Option R) (X2:((Int)×Unit)→Option R) (v0:Aa) (v3:Int) (v4:Int):Option R:=
 bif decide (v4 < nI v0.size) then bif decide (0≤v4) then bif decide (v4 < nI v0.size) then NX (v0,IntKind.i64.wrap (IntKind.i64.wrap (v3 * 256) + IntKind.i64.wrap (Am v0 v4)),IntKind.i64.wrap (v4 + 1),()) else none else none else X2 (v3,())
def Ha:Nat→(Aa)→(Int)→(Int) →  Option ((Int)×Unit)
 | 0,_,_,_=>none
 | m + 1,v0,v3,v4=>Mb  (fun d=>Ha m d.1 d.2.1 d.2.2.1) (fun d=>some (d)) v0 v3 v4
def As6 (d:(Aa)×(Int)×(Int)×Unit):Option ((Int)×Unit):=(Ab (Ab (Ab Ae))) (Ha ((Ab (Ab (Ab Ae))) L9 d)) d
def Y5 (a0:Aa):Option ((((Int)×Unit)×(Unit))):=
 ((fun d=>Ha (L9 d.1 d.2.1 d.2.2.1) d.1 d.2.1 d.2.2.1) (a0,0,0,())).bind fun val=>some (val,())
theorem Avd (s:Aa) (hs:s.size≤7):∀ (k m i:Nat) (v:Int),i + k=s.size→k < m→0≤v→v < 256 ^ i→Ha m s v i=some (A9c s k i v,())
 | 0,m + 1,i,v,hi,hm,h0,h1=>by
  simp only [Ha,Mb]
  rw [Bd (show ¬ ((i:Int) < nI s.size) by simp only [nI]; omega)]
  rfl
 | k + 1,m + 1,i,v,hi,hm,h0,h1=>by
  obtain ⟨hb,hs',e⟩:=Bho s i hi (by omega) h0 h1
  simp only [Ha,Mb]
  have c1:(i:Int) < nI s.size:=by simp only [nI]; omega
  rw [Ap c1,Ap (show (0:Int)≤(i:Int) by omega),wI (show i < 4611686018427387904 by omega),e]
  exact Avd s hs k m (i + 1) _ (by omega) (by omega) hb hs'
theorem A1k (a0:Aa) r (h:Hm a0=some r):Y5 a0=some ((r,()),(())):=by
 unfold Hm at h
 split at h
 ·rename_i hc
  cases h
  unfold Y5
  have hL:=Avd a0 hc a0.size (L9 a0 0 0) 0 0 (by omega) (by simp only [L9,nI]; omega) (by omega) (by decide)
  exact d6 hL rfl
 ·cases h
def Abv {R:Type} (k:Kt R):=(Ko (Ma 4) (.exit 0) 2 k)
def Ak2 {R:Type}:Lt R Ma:=(E3 (pat:=Ma) 4 (fun d k=>(As6 d).bind (Abv k)) F8)
theorem Ahv:Ax Tryz.prog Ahu:=Ay trivial
theorem As7 {R:Type}:A4 Tryz.prog R 19 0 Ma Ak2 Abu:=
 Cj (cfg:=⟨Ahu,0,19,Ma⟩) 4 [] (fun NX X d=>(Ab (Ab (Ab Ae))) (Mb  NX X) d) (fun m d=>(Ab (Ab (Ab Ae))) (Ha m) d) (fun d=>(Ab (Ab (Ab Ae))) L9 d) Abv Ahv trivial (fun f NX d=>by simp only [u4,Ab,Ae]; unfold Mb; simp only [nb])
theorem Ahw:Bm Tryz.prog 161 Y4:=
 Aw (pat:=Ma) [Abu] Ak2 Ahv ⟨As7,trivial⟩ Tryz.func161 (de:=fun x=>Y5 x.1) (fun x r h=>A2 (A1k x.1) h) fun _=>by kernel_rfl
def Ag (s:Aa) (w:Int):Pg×Bool:=Dq s w
def As8:E5:=⟨[.rd .str,.rd tI],[none,none],[.rd yPg,.rd .bool],[some 4,none]⟩
def Tv:SD:=⟨As8,fun x=>some (((Ag x.1 x.2.1).1,(Ag x.1 x.2.1).2,()),(()))⟩
def Tw (a0:Aa) (a1:Int):Option (((Pg×(Bool)×Unit)×(Unit))):=
 (Cw a1).bind fun val=>bif !val.1.1 then some (((0,0,0,Ac,()),false,()),()) else bif nI a0.size != 64 then some (((0,0,0,Ac,()),false,()),()) else bif decide (0≤a1) then bif decide (a1≤nI a0.size) then bif decide (7 < nI (Ao a0 a1 (nI a0.size)).size) then bif decide (IntKind.i64.wrap (Am (Ao a0 a1 (nI a0.size)) 7) > IntKind.i64.wrap (IntKind.i64.wrap (64 - a1) - 8)) then some (((0,0,0,Ac,()),false,()),()) else bif decide (0 < nI (Ao a0 a1 (nI a0.size)).size) then bif decide (3≤nI (Ao a0 a1 (nI a0.size)).size) then ((Hm (Ao (Ao a0 a1 (nI a0.size)) 1 3)).bind fun val=>some ((val,()),())).bind fun val=>bif decide (7≤nI (Ao a0 a1 (nI a0.size)).size) then ((Hm (Ao (Ao a0 a1 (nI a0.size)) 3 7)).bind fun val=>some ((val,()),())).bind fun val_1=>bif decide (8≤IntKind.i64.wrap (8 + IntKind.i64.wrap (Am (Ao a0 a1 (nI a0.size)) 7))) then bif decide (IntKind.i64.wrap (8 + IntKind.i64.wrap (Am (Ao a0 a1 (nI a0.size)) 7))≤nI (Ao a0 a1 (nI a0.size)).size) then bif !(Dc (IntKind.i64.wrap (Am (Ao a0 a1 (nI a0.size)) 0),val.1.1,val_1.1.1,Ao (Ao a0 a1 (nI a0.size)) 8 (IntKind.i64.wrap (8 + IntKind.i64.wrap (Am (Ao a0 a1 (nI a0.size)) 7))),()) a1).toList==a0.toList then some (((0,0,0,Ac,()),false,()),()) else some (((IntKind.i64.wrap (Am (Ao a0 a1 (nI a0.size)) 0),val.1.1,val_1.1.1,Ao (Ao a0 a1 (nI a0.size)) 8 (IntKind.i64.wrap (8 + IntKind.i64.wrap (Am (Ao a0 a1 (nI a0.size)) 7))),()),true,()),()) else none else none else none else none else none else none else none else none
theorem As9 (a0:Aa) (a1:Int):Tw a0 a1=some (((Ag a0 a1).1,(Ag a0 a1).2,()),(())):=by
 unfold Tw Ag Dq
 refine d6 (wid a1) ?_
 show (bif !Fg a1 1 8 then _ else (bif nI a0.size != 64 then _ else _))=_
 cases hz:nI a0.size != 64 with
 | true=>cases Fg a1 1 8<;>rfl
 | false=>
   cases hw:Fg a1 1 8 with
   | false=>rfl
   | true=>
    have k1:=(Iu hw).1
    have k2:=(Iu hw).2
    have hs:a0.size=64:=by
     by_cases q:nI a0.size=64
     ·simp only [nI] at q; omega
     ·rw [(bne_iff_ne).2 q] at hz; cases hz
    have hb:(Ao a0 a1 (nI a0.size)).size=(64 - a1).toNat:=by rw [G3 (by omega) (by simp only [nI]; omega) (by simp [nI])]; simp only [nI,hs]; omega
    simp only [Bool.not_true,cond_false,cond_true]
    rw [Ap (show (0:Int)≤a1 by omega),Ap (show a1≤nI a0.size by simp only [nI]; omega)]
    unfold Bcc
    generalize Ao a0 a1 (nI a0.size)=b at *
    obtain ⟨b0,b1⟩:=Ib b 7
    obtain ⟨c0,c1⟩:=Ib b 0
    have hB:nI b.size=64 - a1:=by simp only [nI]; omega
    rw [hB,Ap (show (7:Int) < 64 - a1 by omega),Ap (show (0:Int) < 64 - a1 by omega),Ap (show (3:Int)≤64 - a1 by omega),Ap (show (7:Int)≤64 - a1 by omega),Aj (n:=Am b 7) (by omega) (by omega),Aj (n:=Am b 0) (by omega) (by omega),Aj (n:=64 - a1) (by omega) (by omega),Aj (n:=64 - a1 - 8) (by omega) (by omega),Aj (n:=8 + Am b 7) (by omega) (by omega),show 64 - a1 - 8=56 - a1 by omega]
    by_cases q:Am b 7 > 56 - a1
    ·rw [Ap q]; rfl
    ·rw [Bd q]
     have n1:Hm (Ao b 1 3)=some (Agv (Ao b 1 3)):=if_pos (by rw [G3 (by omega) (by omega) (by omega)]; decide)
     have n2:Hm (Ao b 3 7)=some (Agv (Ao b 3 7)):=if_pos (by rw [G3 (by omega) (by omega) (by omega)]; decide)
     simp only [n1,n2,Option.bind_some,cond_true,cond_false]
     rw [Ap (show 8≤8 + Am b 7 by omega),Ap (show 8 + Am b 7≤64 - a1 by omega)]
     show (bif !(ByteArray.toList (E7 (Bcb b) a1)==ByteArray.toList a0) then _ else _)=_
     cases (ByteArray.toList (E7 (Bcb b) a1)==ByteArray.toList a0)<;>rfl
theorem Abw:Bm Tryz.prog 123 Tv:=
 Aw (pat:=Co) [] F8 (Ay (l:=[(69,Dr),(82,Jg),(161,Y4),(162,Ru)]) ⟨Eb,L8,Ahw,Yp,trivial⟩) trivial Tryz.func123 (de:=fun x=>Tw x.1 x.2.1) (fun x r h=>(As9 x.1 x.2.1).trans h) fun _=>by kernel_rfl
def Ip (r:Rt) (w:Int):Aa:=Aa4 r w
def Ata:E5:=⟨[.rd yRt,.rd tI],[some 4,none],[.rd .str],[none]⟩
def Tx:SD:=⟨Ata,fun x=>some (((Ip x.1 x.2.1),()),(()))⟩
def Tz (a0:Rt) (a1:Int):Option ((((Aa)×Unit)×(Unit))):=
 bif decide (a0.2.1 < 0) then some ((Ac,()),()) else bif decide (a0.2.1 > 1) then some ((Ac,()),()) else bif decide (a0.2.2.1 < 1) then some ((Ac,()),()) else bif decide (a0.2.2.1 > 999999000) then some ((Ac,()),()) else ((Bx a0.2.1 1).bind fun val=>some ((val,()),())).bind fun val=>((Bx a0.2.2.1 4).bind fun val=>some ((val,()),())).bind fun val_1=>bif decide (ByteArray.size val.1.1 + ByteArray.size val_1.1.1≤9223372036854775807) then some ((Dc (4,a0.2.2.2.1,a0.1,val.1.1++val_1.1.1,()) a1,()),()) else none
theorem Atb (a0:Rt) (a1:Int):Tz a0 a1=some (((Ip a0 a1),()),(())):=by
 unfold Tz Ip Aa4 P3
 rw [A0i a0.2.1,A0i a0.2.2.1]
 cases h1:Fg a0.2.1 0 1 with
 | false=>rfl
 | true=>
  cases h2:Fg a0.2.2.1 1 999999000 with
  | false=>rfl
  | true=>
   have q1:=Iu h1
   have q2:=Iu h2
   have n1:Bx a0.2.1 1=some (Dy a0.2.1 1):=(G9 _ _).trans (if_pos (by omega))
   have n2:Bx a0.2.2.1 4=some (Dy a0.2.2.1 4):=(G9 _ _).trans (if_pos (by omega))
   simp only [n1,n2,Option.bind_some,cond_true]
   rw [L3,L3,Ap (show 1 + 4≤9223372036854775807 by decide)]
   rfl
theorem Abx:Bm Tryz.prog 131 Tx:=
 Aw (pat:=Co) [] F8 (Ay (l:=[(82,Jg),(133,Tr)]) ⟨L8,Abr,trivial⟩) trivial Tryz.func131 (de:=fun x=>Tz x.1 x.2.1) (fun x r h=>(Atb x.1 x.2.1).trans h) fun _=>by kernel_rfl
def Du (s:Aa) (at' w:Int):Rt×Bool:=
 bif (Dq s w).2&&decide ((Dq s w).1.2.2.2.1.size=5) then (Nk (Dq s w).1,((Aa4 (Nk (Dq s w).1) w).toList==s.toList)&&(Int.tmod (Dq s w).1.2.2.1 2==at')) else ((0,0,0,0,()),false)
def A7d:E5:=⟨[.rd .str,.rd tI,.rd tI],[none,none,none],[.rd yRt,.rd .bool],[some 4,none]⟩
def Apx:SD:=⟨A7d,fun x=>some (((Du x.1 x.2.1 x.2.2.1).1,(Du x.1 x.2.1 x.2.2.1).2,()),(()))⟩
def Ad0 (a0:Aa) (a1 a2:Int):Option (((Rt×(Bool)×Unit)×(Unit))):=
 bif !(Ag a0 a2).2 then some (((0,0,0,0,()),false,()),()) else bif nI (ByteArray.size (Ag a0 a2).1.2.2.2.1) != 5 then some (((0,0,0,0,()),false,()),()) else bif decide (0 < nI (ByteArray.size (Ag a0 a2).1.2.2.2.1)) then bif decide (1≤nI (ByteArray.size (Ag a0 a2).1.2.2.2.1)) then ((Hm (Ao (Ag a0 a2).1.2.2.2.1 1 (nI (ByteArray.size (Ag a0 a2).1.2.2.2.1)))).bind fun val=>some ((val,()),())).bind fun val=>bif (Ip ((Ag a0 a2).1.2.2.1,IntKind.i64.wrap (Am (Ag a0 a2).1.2.2.2.1 0),val.1.1,(Ag a0 a2).1.2.1,()) a2).toList==a0.toList then some ((((Ag a0 a2).1.2.2.1,IntKind.i64.wrap (Am (Ag a0 a2).1.2.2.2.1 0),val.1.1,(Ag a0 a2).1.2.1,()),Int.tmod (Ag a0 a2).1.2.2.1 2==a1,()),()) else some ((((Ag a0 a2).1.2.2.1,IntKind.i64.wrap (Am (Ag a0 a2).1.2.2.2.1 0),val.1.1,(Ag a0 a2).1.2.1,()),false,()),()) else none else none
theorem A7e (a0:Aa) (a1 a2:Int):Ad0 a0 a1 a2=some (((Du a0 a1 a2).1,(Du a0 a1 a2).2,()),(())):=by
 unfold Ad0 Du
 have e:Ag a0 a2=Dq a0 a2:=rfl
 rw [e]
 generalize Dq a0 a2=p
 obtain ⟨g,o⟩:=p
 cases o
 ·rfl
 ·by_cases h5:g.2.2.2.1.size=5
  ·have n1:Hm (Ao g.2.2.2.1 1 (nI g.2.2.2.1.size))=some (Agv (Ao g.2.2.2.1 1 (nI g.2.2.2.1.size))):=if_pos (by rw [G3 (by omega) (by simp only [nI]; omega) (by simp [nI])]; simp only [nI]; omega)
   obtain ⟨b0,b1⟩:=Ib g.2.2.2.1 0
   simp only [n1,Option.bind_some,Bool.not_true,cond_false,Bool.true_and]
   rw [bne_eq_false_iff_eq.2 (show nI g.2.2.2.1.size=5 by simp only [nI]; omega),Ap h5,Ap (show 0 < nI g.2.2.2.1.size by simp only [nI]; omega),Ap (show 1≤nI g.2.2.2.1.size by simp only [nI]; omega),Aj (n:=Am g.2.2.2.1 0) (by omega) (by omega)]
   show (bif (ByteArray.toList (Aa4 (Nk g) a2)==ByteArray.toList a0) then _ else _)=_
   cases hq:(ByteArray.toList (Aa4 (Nk g) a2)==ByteArray.toList a0)<;>rfl
  ·simp only [Bool.not_true,cond_false,Bool.true_and]
   rw [bne_iff_ne.2 (show nI g.2.2.2.1.size≠5 by simp only [nI]; omega),Bd h5]
   rfl
theorem A7f:Bm Tryz.prog 122 Apx:=
 Aw (pat:=Co) [] F8 (Ay (l:=[(123,Tv),(131,Tx),(161,Y4)]) ⟨Abw,Abx,Ahw,trivial⟩) trivial Tryz.func122 (de:=fun x=>Ad0 x.1 x.2.1 x.2.2.1) (fun x r h=>(A7e x.1 x.2.1 x.2.2.1).trans h) fun _=>by kernel_rfl
def Ah (d:Dk) (w:Int):Rt:=Bg d w
def Qg (v1 v7:Int) (b0_0 b0_1 b0_2 b0_3:Int) (b1_0:List Aa) (b1_1:List Wr) (b2_0 b2_1 b2_2 b2_3:Int):Nat:=3
def Atc:E5:=⟨[.rd Uw,.rd tI],[some 2,none],[.rd yRt],[some 4]⟩
def Aby:SD:=⟨Atc,fun x=>some (((Ah x.1 x.2.1),()),(()))⟩
def Abz:Tb:=tb [(69,Dr),(70,K8),(106,Yv),(121,Yx),(122,Apx)]
def Ji:Nat→Da×(Nat→Da):=Gs [(7,⟨[.boxSl 5 0 .str,.boxSl 5 1 Fb],[(1,.lf (.d tI)),(4,.lf (.ptr 0 0)),(5,.lf (.ptr 1 0)),(6,.lf (.ptr 2 0)),(7,.lf (.d tI))],[.box 45 [.d tI,.d tI,.d tI,.d tI],.box 44 [.d (.sl .str),.d (.sl Fb)],.box 45 [.d tI,.d tI,.d tI,.d tI]]⟩,[(2,⟨[],[(4,.lf (.ptr 0 0)),(6,.lf (.ptr 1 0))],[.box 45 [.d tI,.d tI,.d tI,.d tI],.box 45 [.d tI,.d tI,.d tI,.d tI]]⟩)])]
def Y6:Code:=(At (Bc Tryz.f76)).getD 0 .skip
def Mt {R:Type}  (NX:((Int)×(Int)×(Int)×(Int)×(Int)×(Int)×(List Aa)×(List Wr)×(Int)×(Int)×(Int)×(Int)×Unit)→Option R) (X2:((Int)×(Int)×(Int)×(Int)×(Int)×(Int)×(Int)×(Int)×Unit)→Option R) (v1:Int) (v7:Int) (b0_0:Int) (b0_1:Int) (b0_2:Int) (b0_3:Int) (b1_0:List Aa) (b1_1:List Wr) (b2_0:Int) (b2_1:Int) (b2_2:Int) (b2_3:Int):Option R:=
 bif decide (v7 < 2) then bif decide (0≤v7) then bif decide (v7 < nI b1_0.length) then bif (Du (b1_0.getD v7.toNat (Ac)) v7 v1).2 then bif decide ((Du (b1_0.getD v7.toNat (Ac)) v7 v1).1.1 > b2_0) then NX (v1,IntKind.i64.wrap (v7 + 1),b0_0,b0_1,b0_2,b0_3,b1_0,b1_1,(Du (b1_0.getD v7.toNat (Ac)) v7 v1).1) else NX (v1,IntKind.i64.wrap (v7 + 1),b0_0,b0_1,b0_2,b0_3,b1_0,b1_1,b2_0,b2_1,b2_2,b2_3,()) else NX (v1,IntKind.i64.wrap (v7 + 1),b0_0,b0_1,b0_2,b0_3,b1_0,b1_1,b2_0,b2_1,b2_2,b2_3,()) else none else none else X2 (b0_0,b0_1,b0_2,b0_3,b2_0,b2_1,b2_2,b2_3,())
def Fp:Nat→(Int)→(Int)→(Int)→(Int)→(Int)→(Int)→(List Aa)→(List Wr)→(Int)→(Int)→(Int)→(Int) →  Option ((Int)×(Int)×(Int)×(Int)×(Int)×(Int)×(Int)×(Int)×Unit)
 | 0,_,_,_,_,_,_,_,_,_,_,_,_=>none
 | m + 1,v1,v7,b0_0,b0_1,b0_2,b0_3,b1_0,b1_1,b2_0,b2_1,b2_2,b2_3=>Mt  (fun d=>Fp m d.1 d.2.1 d.2.2.1 d.2.2.2.1 d.2.2.2.2.1 d.2.2.2.2.2.1 d.2.2.2.2.2.2.1 d.2.2.2.2.2.2.2.1 d.2.2.2.2.2.2.2.2.1 d.2.2.2.2.2.2.2.2.2.1 d.2.2.2.2.2.2.2.2.2.2.1 d.2.2.2.2.2.2.2.2.2.2.2.1) (fun d=>some (d)) v1 v7 b0_0 b0_1 b0_2 b0_3 b1_0 b1_1 b2_0 b2_1 b2_2 b2_3
def Am3 (d:(Int)×(Int)×(Int)×(Int)×(Int)×(Int)×(List Aa)×(List Wr)×(Int)×(Int)×(Int)×(Int)×Unit):Option ((Int)×(Int)×(Int)×(Int)×(Int)×(Int)×(Int)×(Int)×Unit):=(u4 (u4 (u4 Ae))) (Fp ((u4 (u4 (u4 Ae))) Qg d)) d
def T1 (a0:Dk) (a1:Int):Option (((Rt×Unit)×(Unit))):=
 bif !G7 a0 then some (((0,0,0,0,()),()),()) else (Cw a1).bind fun val=>bif !val.1.1 then some (((0,0,0,0,()),()),()) else ((Lm a0).bind fun val=>some (val,())).bind fun val=>((Ln val.1).bind fun val=>some (val,())).bind fun val=>((fun d=>Fp (Qg d.1 d.2.1 d.2.2.1 d.2.2.2.1 d.2.2.2.2.1 d.2.2.2.2.2.1 d.2.2.2.2.2.2.1 d.2.2.2.2.2.2.2.1 d.2.2.2.2.2.2.2.2.1 d.2.2.2.2.2.2.2.2.2.1 d.2.2.2.2.2.2.2.2.2.2.1 d.2.2.2.2.2.2.2.2.2.2.2.1) d.1 d.2.1 d.2.2.1 d.2.2.2.1 d.2.2.2.2.1 d.2.2.2.2.2.1 d.2.2.2.2.2.2.1 d.2.2.2.2.2.2.2.1 d.2.2.2.2.2.2.2.2.1 d.2.2.2.2.2.2.2.2.2.1 d.2.2.2.2.2.2.2.2.2.2.1 d.2.2.2.2.2.2.2.2.2.2.2.1) (a1,0,0,0,0,0,val.1.1,val.1.2.1,0,0,1,0,())).bind fun val=>some ((val.2.2.2.2,()),())
theorem Bji (s:Aa) (w:Int) (i:Nat) (b:Rt):(bif (Du s i w).2 then (bif decide ((Du s i w).1.1 > b.1) then (Du s i w).1 else b) else b)=Hv s w i b:=by
 unfold Du Hv
 have hf:=@Ya s w
 have hr:=@Bff s w
 generalize Dq s w=p at *
 obtain ⟨g,o⟩:=p
 cases o
 ·rfl
 ·obtain ⟨_,_,_,hp⟩:=hf rfl
  obtain ⟨_,_,r3,_⟩:=Ag0 hp
  by_cases h5:g.2.2.2.1.size=5
  ·have hr:=hr rfl h5
   simp only [Ap h5,Bool.true_and,cond_true,hr]
   rw [Int.tmod_eq_emod_of_nonneg (by omega)]
   have e:(Nk g).1=g.2.2.1:=rfl
   rw [e]
   cases (g.1==4)<;>cases P3 (Nk g)<;>cases (g.2.2.1 % 2==(i:Int))<;>cases decide (g.2.2.1 > b.1)<;>rfl
  ·simp only [Bd h5,Bool.true_and,cond_false,Bool.and_false,Bool.false_and]
theorem Baf (X:List Aa) (P:List Wr) (w:Int) (i:Nat) (hi:i < 2) (hX:2≤X.length) (m:Nat) (x1 x2 x3 x4:Int) (b:Rt):
  Fp (m + 1) w i x1 x2 x3 x4 X P b.1 b.2.1 b.2.2.1 b.2.2.2.1=Fp m w ((i + 1:Nat):Int) x1 x2 x3 x4 X P (Hv (X.getD i z0) w i b).1 (Hv (X.getD i z0) w i b).2.1 (Hv (X.getD i z0) w i b).2.2.1 (Hv (X.getD i z0) w i b).2.2.2.1:=by
 simp only [Fp,Mt]
 rw [Ap (show (i:Int) < 2 by omega),Gt,Ap (show (i:Int) < nI X.length by simp only [nI]; omega),wI (show i < 4611686018427387904 by omega),Eo,← Bji]
 show (bif (Du (X.getD i z0) i w).2 then (bif decide ((Du (X.getD i z0) i w).1.1 > b.1) then _ else _) else _)=_
 cases (Du (X.getD i z0) i w).2
 ·rfl
 ·cases decide ((Du (X.getD i z0) i w).1.1 > b.1)<;>rfl
theorem Atd (a0:Dk) (a1:Int):T1 a0 a1=some (((Ah a0 a1),()),(())):=by
 unfold T1 Ah Bg
 show (bif !B1 a0 then _ else _)=_
 cases hv:B1 a0 with
 | false=>rfl
 | true=>
  refine d6 (wid a1) ?_
  show (bif !Fg a1 1 8 then _ else _)=_
  cases hw:Fg a1 1 8 with
  | false=>rfl
  | true=>
   obtain ⟨k1,k2,k3,k4,k5⟩:=Ajq hv
   have e1:Lm (a0.1,a0.2.1,())=some a0:=if_pos ⟨by show a0.1.length≤_; omega,by show a0.2.1.length≤_; omega⟩
   have e2:Ln (a0.1,a0.2.1,())=some (A9b a0):=if_pos ⟨by show a0.2.1.length≤_; omega,fun i hi=>⟨(k5 i hi).1,(k5 i hi).2.1⟩⟩
   have hlen:(O2 a0.1 a0.2.1).length=a0.1.length:=Xi _ _
   have hg:∀ i:Nat,i < 2→(O2 a0.1 a0.2.1).getD i z0=Xg a0 i:=fun i hi=>A9g a0.1 i (by omega) a0.2.1 (fun w hw=>by
    obtain ⟨j,hj,rfl⟩:=Agy zW hw
    exact (k5 j hj).1)
   have h1:=Baf (O2 a0.1 a0.2.1) [] a1 0 (by omega) (by omega) 2 0 0 0 0 (0,0,1,0,())
   have h2:=Baf (O2 a0.1 a0.2.1) [] a1 1 (by omega) (by omega) 1 0 0 0 0 (Hv ((O2 a0.1 a0.2.1).getD 0 z0) a1 (0:Nat) (0,0,1,0,()))
   have h3:=h1.trans h2
   rw [hg 0 (by omega),hg 1 (by omega)] at h3
   simp only [e1,e2,Option.bind_some,Bool.not_true,cond_false]
   exact d6 h3 rfl
def Y7 {R:Type} (k:Kt R):=(Ko (Ji 7) (.exit 0) 2 k)
def Ae0 {R:Type}:Lt R Ji:=(E3 (pat:=Ji) 7 (fun d k=>(Am3 d).bind (Y7 k)) F8)
theorem Ab0:Ax Tryz.prog Abz:=Ay ⟨Eb,Np,Ahl,Aho,A7f,trivial⟩
theorem Am4 {R:Type}:A4 Tryz.prog R 48 0 Ji Ae0 Y6:=
 Cj (cfg:=⟨Abz,0,48,Ji⟩) 7 [] (fun NX X d=>(u4 (u4 (u4 Ae))) (Mt  NX X) d) (fun m d=>(u4 (u4 (u4 Ae))) (Fp m) d) (fun d=>(u4 (u4 (u4 Ae))) Qg d) Y7 Ab0 trivial (fun f NX d=>by simp only [u4,Ab,Ae]; unfold Mt; simp only [nb])
theorem Ate:Bm Tryz.prog 76 Aby:=
 Aw (pat:=Ji) [Y6] Ae0 Ab0 ⟨Am4,trivial⟩ Tryz.func76 (de:=fun x=>T1 x.1 x.2.1) (fun x r h=>(Atd x.1 x.2.1).trans h) fun _=>by kernel_rfl
def Pf (was p:Pg):Bool:=A0m was.1 was.2.1 p
def A1l:E5:=⟨[.rd yPg,.rd yPg],[some 4,some 4],[.rd .bool],[none]⟩
def Ahx:SD:=⟨A1l,fun x=>some (((Pf x.1 x.2.1),()),(()))⟩
def Y8 (a0 a1:Pg):Option ((((Bool)×Unit)×(Unit))):=
 bif decide (a1.2.1 < a0.2.1) then some ((false,()),()) else bif a1.1==3 then some ((a0.1 != 1,()),()) else bif a1.1==1 then bif a0.1 != 1 then some ((true,()),()) else some ((a0.2.1==a1.2.1,()),()) else bif a1.1==2 then bif a0.1 != 1 then some ((true,()),()) else some ((a0.2.1==a1.2.1,()),()) else some ((false,()),())
theorem A1m (a0 a1:Pg):Y8 a0 a1=some (((Pf a0 a1),()),(())):=by
 unfold Y8 Pf A0m
 cases decide (a1.2.1 < a0.2.1)<;>cases (a1.1==3)<;>cases (a1.1==1)<;>cases (a1.1==2)<;>cases (a0.1 != 1)<;>rfl
theorem A1n:Bm Tryz.prog 124 Ahx:=
 Aw (pat:=Co) [] F8 (Ay (l:=[]) trivial) trivial Tryz.func124 (de:=fun x=>Y8 x.1 x.2.1) (fun x r h=>(A1m x.1 x.2.1).trans h) fun _=>by kernel_rfl
def C9 (d:Dk) (from_ size first life w:Int):Scd:=i7 d from_ size first life w
def A7g:E5:=⟨[.rd Uw,.rd tI,.rd tI,.rd tI,.rd tI,.rd tI],[some 2,none,none,none,none,none],[.own 9 .str,.rd tI,.rd tI],[some 3]⟩
def Apy:SD:=⟨A7g,fun x=>some (((C9 x.1 x.2.1 x.2.2.1 x.2.2.2.1 x.2.2.2.2.1 x.2.2.2.2.2.1).1,(C9 x.1 x.2.1 x.2.2.1 x.2.2.2.1 x.2.2.2.2.1 x.2.2.2.2.2.1).2.1,(C9 x.1 x.2.1 x.2.2.1 x.2.2.2.1 x.2.2.2.2.1 x.2.2.2.2.2.1).2.2.1,()),(()))⟩
def Apz:Tb:=tb [(69,Dr),(70,K8),(106,Yv),(121,Yx),(123,Tv),(124,Ahx)]
def Mu:Nat→Da×(Nat→Da):=Gs [(9,⟨[.boxRow 12 0 9 .str,.boxSl 13 0 .str,.boxSl 13 1 Fb,.boxRow 14 0 9 .str],[(1,.lf (.d tI)),(2,.lf (.d tI)),(3,.lf (.d tI)),(5,.lf (.d tI)),(12,.lf (.ptr 0 0)),(13,.lf (.ptr 1 0)),(14,.lf (.ptr 2 0)),(15,.lf (.ptr 3 0)),(16,.lf (.d .str)),(17,.lf (.d tI))],[.box 117 [.row 4,.d tI,.d tI],.box 44 [.d (.sl .str),.d (.sl Fb)],.box 117 [.row 5,.d tI,.d tI],.box 124 [.d tI,.d tI,.d tI,.d .str],.row 9 .str,.row 9 .str]⟩,[(2,⟨[.boxRow 12 0 9 .str,.boxRow 14 0 9 .str],[(12,.lf (.ptr 0 0)),(14,.lf (.ptr 1 0))],[.box 117 [.row 2,.d tI,.d tI],.box 117 [.row 3,.d tI,.d tI],.row 9 .str,.row 9 .str]⟩),(1,⟨[.boxRow 12 0 9 .str],[(12,.lf (.ptr 0 0))],[.box 117 [.row 1,.d tI,.d tI],.row 9 .str]⟩)])]
def Ahy:Code:=(At (Bc Tryz.f77)).getD 0 .skip
def Ka (v1 v2:Int) (v3 v5:Int) (v16:Aa) (v17 b0_1 b0_2:Int) (b1_0:List Aa) (b1_1:List Wr) (b2_1 b2_2:Int) (b3_0 b3_1 b3_2:Int) (b3_3:Aa) (r4 r5:List Aa):Nat:=(v2 - v17).toNat + 1
def Oc {R:Type}  (NX:((Int)×(Int)×(Int)×(Int)×(Aa)×(Int)×(Int)×(Int)×(List Aa)×(List Wr)×(Int)×(Int)×(Int)×(Int)×(Int)×(Aa)×(List Aa)×(List Aa)×Unit)→Option R) (X2:((Int)×(Int)×(Int)×(Int)×(List Aa)×(List Aa)×Unit)→Option R) (X1:((Int)×(Int)×(List Aa)×Unit)→Option R) (v1:Int) (v2:Int) (v3:Int) (v5:Int) (v16:Aa) (v17:Int) (b0_1:Int) (b0_2:Int) (b1_0:List Aa) (b1_1:List Wr) (b2_1:Int) (b2_2:Int) (b3_0:Int) (b3_1:Int) (b3_2:Int) (b3_3:Aa) (r4:List Aa) (r5:List Aa):Option R:=
 bif decide (v17 < v2) then bif decide (0≤IntKind.i64.wrap (v1 + v17)) then bif decide (IntKind.i64.wrap (v1 + v17) < nI b1_0.length) then bif !(Ag (b1_0.getD (IntKind.i64.wrap (v1 + v17)).toNat (Ac)) v5).2 then X1 (b2_1,b2_2,r5,()) else bif IntKind.i64.wrap ((Ag (b1_0.getD (IntKind.i64.wrap (v1 + v17)).toNat (Ac)) v5).1.2.2.1 - v17) != v3 then X1 (b2_1,b2_2,r5,()) else bif !Pf (b3_0,b3_1,b3_2,b3_3,()) (Ag (b1_0.getD (IntKind.i64.wrap (v1 + v17)).toNat (Ac)) v5).1 then X1 (b2_1,b2_2,r5,()) else bif decide (v16.size + ByteArray.size (Ag (b1_0.getD (IntKind.i64.wrap (v1 + v17)).toNat (Ac)) v5).1.2.2.2.1≤9223372036854775807) then bif (Ag (b1_0.getD (IntKind.i64.wrap (v1 + v17)).toNat (Ac)) v5).1.1==1 then NX (v1,v2,v3,v5,v16++(Ag (b1_0.getD (IntKind.i64.wrap (v1 + v17)).toNat (Ac)) v5).1.2.2.2.1,IntKind.i64.wrap (v17 + 1),b0_1,b0_2,b1_0,b1_1,b2_1,b2_2,(Ag (b1_0.getD (IntKind.i64.wrap (v1 + v17)).toNat (Ac)) v5).1.1,(Ag (b1_0.getD (IntKind.i64.wrap (v1 + v17)).toNat (Ac)) v5).1.2.1,(Ag (b1_0.getD (IntKind.i64.wrap (v1 + v17)).toNat (Ac)) v5).1.2.2.1,(Ag (b1_0.getD (IntKind.i64.wrap (v1 + v17)).toNat (Ac)) v5).1.2.2.2.1,r4,r5,()) else bif (Ag (b1_0.getD (IntKind.i64.wrap (v1 + v17)).toNat (Ac)) v5).1.1==2 then bif decide ((r5.length + [v16++(Ag (b1_0.getD (IntKind.i64.wrap (v1 + v17)).toNat (Ac)) v5).1.2.2.2.1].length) * 16≤140737488355328) then NX (v1,v2,v3,v5,Ac,IntKind.i64.wrap (v17 + 1),b0_1,b0_2,b1_0,b1_1,IntKind.i64.wrap (v17 + 1),(Ag (b1_0.getD (IntKind.i64.wrap (v1 + v17)).toNat (Ac)) v5).1.2.1,(Ag (b1_0.getD (IntKind.i64.wrap (v1 + v17)).toNat (Ac)) v5).1.1,(Ag (b1_0.getD (IntKind.i64.wrap (v1 + v17)).toNat (Ac)) v5).1.2.1,(Ag (b1_0.getD (IntKind.i64.wrap (v1 + v17)).toNat (Ac)) v5).1.2.2.1,(Ag (b1_0.getD (IntKind.i64.wrap (v1 + v17)).toNat (Ac)) v5).1.2.2.2.1,r4,r5++[v16++(Ag (b1_0.getD (IntKind.i64.wrap (v1 + v17)).toNat (Ac)) v5).1.2.2.2.1],()) else none else NX (v1,v2,v3,v5,Ac,IntKind.i64.wrap (v17 + 1),b0_1,b0_2,b1_0,b1_1,IntKind.i64.wrap (v17 + 1),(Ag (b1_0.getD (IntKind.i64.wrap (v1 + v17)).toNat (Ac)) v5).1.2.1,(Ag (b1_0.getD (IntKind.i64.wrap (v1 + v17)).toNat (Ac)) v5).1.1,(Ag (b1_0.getD (IntKind.i64.wrap (v1 + v17)).toNat (Ac)) v5).1.2.1,(Ag (b1_0.getD (IntKind.i64.wrap (v1 + v17)).toNat (Ac)) v5).1.2.2.1,(Ag (b1_0.getD (IntKind.i64.wrap (v1 + v17)).toNat (Ac)) v5).1.2.2.2.1,r4,r5,()) else none else none else none else X2 (b0_1,b0_2,b2_1,b2_2,r4,r5,())
def Gf:Nat→(Int)→(Int)→(Int)→(Int)→(Aa)→(Int)→(Int)→(Int)→(List Aa)→(List Wr)→(Int)→(Int)→(Int)→(Int)→(Int)→(Aa)→(List Aa)→(List Aa) →  Option (((Int)×(Int)×(Int)×(Int)×(List Aa)×(List Aa)×Unit) ⊕ ((Int)×(Int)×(List Aa)×Unit))
 | 0,_,_,_,_,_,_,_,_,_,_,_,_,_,_,_,_,_,_=>none
 | m + 1,v1,v2,v3,v5,v16,v17,b0_1,b0_2,b1_0,b1_1,b2_1,b2_2,b3_0,b3_1,b3_2,b3_3,r4,r5=>Oc  (fun d=>Gf m d.1 d.2.1 d.2.2.1 d.2.2.2.1 d.2.2.2.2.1 d.2.2.2.2.2.1 d.2.2.2.2.2.2.1 d.2.2.2.2.2.2.2.1 d.2.2.2.2.2.2.2.2.1 d.2.2.2.2.2.2.2.2.2.1 d.2.2.2.2.2.2.2.2.2.2.1 d.2.2.2.2.2.2.2.2.2.2.2.1 d.2.2.2.2.2.2.2.2.2.2.2.2.1 d.2.2.2.2.2.2.2.2.2.2.2.2.2.1 d.2.2.2.2.2.2.2.2.2.2.2.2.2.2.1 d.2.2.2.2.2.2.2.2.2.2.2.2.2.2.2.1 d.2.2.2.2.2.2.2.2.2.2.2.2.2.2.2.2.1 d.2.2.2.2.2.2.2.2.2.2.2.2.2.2.2.2.2.1) (fun d=>some (.inl (d))) (fun d=>some (.inr (d))) v1 v2 v3 v5 v16 v17 b0_1 b0_2 b1_0 b1_1 b2_1 b2_2 b3_0 b3_1 b3_2 b3_3 r4 r5
def A1o (d:(Int)×(Int)×(Int)×(Int)×(Aa)×(Int)×(Int)×(Int)×(List Aa)×(List Wr)×(Int)×(Int)×(Int)×(Int)×(Int)×(Aa)×(List Aa)×(List Aa)×Unit):Option (((Int)×(Int)×(Int)×(Int)×(List Aa)×(List Aa)×Unit) ⊕ ((Int)×(Int)×(List Aa)×Unit)):=(u4 (u4 (u4 (u4 (Ab (Ab Ae)))))) (Gf ((u4 (u4 (u4 (u4 (Ab (Ab Ae)))))) Ka d)) d
def Ad1 (a0:Dk) (a1 a2:Int) (a3 a4 a5:Int):Option ((((List Aa)×(Int)×(Int)×Unit)×(Unit))):=
 bif !G7 a0 then some (([],0,0,()),()) else (Cw a5).bind fun val=>bif !val.1.1 then some (([],0,0,()),()) else bif decide (a1 < 0) then some (([],0,0,()),()) else bif decide (a2 < 0) then some (([],0,0,()),()) else bif decide (a1 > nI (List.length a0.1)) then some (([],0,0,()),()) else bif decide (a2 > IntKind.i64.wrap (nI (List.length a0.1) - a1)) then some (([],0,0,()),()) else ((Lm a0).bind fun val=>some (val,())).bind fun val=>((Ln val.1).bind fun val=>some (val,())).bind fun val=>((fun d=>Gf (Ka d.1 d.2.1 d.2.2.1 d.2.2.2.1 d.2.2.2.2.1 d.2.2.2.2.2.1 d.2.2.2.2.2.2.1 d.2.2.2.2.2.2.2.1 d.2.2.2.2.2.2.2.2.1 d.2.2.2.2.2.2.2.2.2.1 d.2.2.2.2.2.2.2.2.2.2.1 d.2.2.2.2.2.2.2.2.2.2.2.1 d.2.2.2.2.2.2.2.2.2.2.2.2.1 d.2.2.2.2.2.2.2.2.2.2.2.2.2.1 d.2.2.2.2.2.2.2.2.2.2.2.2.2.2.1 d.2.2.2.2.2.2.2.2.2.2.2.2.2.2.2.1 d.2.2.2.2.2.2.2.2.2.2.2.2.2.2.2.2.1 d.2.2.2.2.2.2.2.2.2.2.2.2.2.2.2.2.2.1) d.1 d.2.1 d.2.2.1 d.2.2.2.1 d.2.2.2.2.1 d.2.2.2.2.2.1 d.2.2.2.2.2.2.1 d.2.2.2.2.2.2.2.1 d.2.2.2.2.2.2.2.2.1 d.2.2.2.2.2.2.2.2.2.1 d.2.2.2.2.2.2.2.2.2.2.1 d.2.2.2.2.2.2.2.2.2.2.2.1 d.2.2.2.2.2.2.2.2.2.2.2.2.1 d.2.2.2.2.2.2.2.2.2.2.2.2.2.1 d.2.2.2.2.2.2.2.2.2.2.2.2.2.2.1 d.2.2.2.2.2.2.2.2.2.2.2.2.2.2.2.1 d.2.2.2.2.2.2.2.2.2.2.2.2.2.2.2.2.1 d.2.2.2.2.2.2.2.2.2.2.2.2.2.2.2.2.2.1) (a1,a2,a3,a5,Ac,0,0,0,val.1.1,val.1.2.1,0,a4,0,a4,0,Ac,[],[],())).bind fun val=>Bw (fun d=>some ((d.2.2.2.2.2.1,d.2.2.1,d.2.2.2.1,()),())) (fun d=>some ((d.2.2.1,d.1,d.2.1,()),())) val
def Bea (y:(Int×Int×Int×Int×List Aa×List Aa×Unit) ⊕ (Int×Int×List Aa×Unit)):Scd:=match y with
 | .inl v=>(v.2.2.2.2.2.1,v.2.2.1,v.2.2.2.1,())
 | .inr v=>(v.2.2.1,v.1,v.2.1,())
theorem A5v {d:Dk} (hd:P5 d) (f n:Nat) (hfn:f + n≤d.1.length) (first w b1 b2:Int) (r4:List Aa):∀ (k m i:Nat) (st:ScT) (num:Int) (part:Aa),i + k=n→k < m→Aej i st→
  ∃ y,Gf m f n first w st.2.2.1 i b1 b2 (O2 d.1 d.2.1) [] st.2.2.2.2.1 st.2.2.2.2.2 st.1 st.2.1 num part r4 st.2.2.2.1=some y∧Bea y=P8 w first (seen d f i k) i st
 | 0,m + 1,i,st,num,part,hi,_,_=>by
  simp only [Gf,Oc]
  rw [Bd (show ¬ (i:Int) < (n:Int) by omega)]
  exact ⟨_,rfl,rfl⟩
 | k + 1,m + 1,i,st,num,part,hi,hm,hI=>by
  have h200:=hd.n200
  have e1:IntKind.i64.wrap ((f:Int) + (i:Int))=((f + i:Nat):Int):=by rw [Aj (by omega) (by omega)]; omega
  have e2:List.getD (O2 d.1 d.2.1) (f + i) (Ac)=Xg d ((f:Int) + (i:Int)):=Bhw hd (by omega)
  have e3:decide (((f + i:Nat):Int) < nI (O2 d.1 d.2.1).length)=true:=Ap (by rw [Xi]; simp only [nI]; omega)
  have e4:IntKind.i64.wrap ((i:Int) + 1)=((i + 1:Nat):Int):=wI (by omega)
  have es:seen d f i (k + 1)=Xg d ((f:Int) + (i:Int))::seen d f (i + 1) k:=rfl
  simp only [Gf,Oc]
  rw [es,Ap (show (i:Int) < (n:Int) by omega)]
  simp only [e1,e2,e3,e4,Gt,cond_true,Eo,Ag,Pf]
  unfold P8 Aso
  generalize hx:Xg d ((f:Int) + (i:Int))=x
  generalize hR:Dq x w=R
  obtain ⟨p,ok⟩:=R
  cases ok with
  | false=>exact ⟨_,rfl,rfl⟩
  | true=>
   obtain ⟨q1,q2,q3⟩:=Ayq hR
   have e5:IntKind.i64.wrap (p.2.2.1 - (i:Int))=p.2.2.1 - (i:Int):=Aj (by omega) (by omega)
   simp only [e5,Bool.not_true,cond_false,Bool.true_and,bne]
   cases hn:(p.2.2.1 - (i:Int)==first) with
   | false=>exact ⟨_,rfl,rfl⟩
   | true=>
    simp only [Bool.not_true,cond_false,Bool.true_and]
    have hg:A0m st.1 st.2.1 (p.1,p.2.1,p.2.2.1,p.2.2.2.1,())=A0m st.1 st.2.1 p:=rfl
    try simp only [hg]
    cases hgo:A0m st.1 st.2.1 p with
    | false=>exact ⟨_,rfl,rfl⟩
    | true=>
     have hN:=hI.next (by omega) q3
     have e6:decide (ByteArray.size st.2.2.1 + ByteArray.size p.2.2.2.1≤9223372036854775807)=true:=Ap (by have:=hI.2.1; omega)
     have e7:decide ((List.length st.2.2.2.1 + 1) * 16≤140737488355328)=true:=Ap (by have:=hI.2.2; omega)
     simp only [e6,Bool.not_true,cond_false,cond_true,Nz,e7]
     have ih:=fun num part=>A5v hd f n hfn first w b1 b2 r4 k m (i + 1) (N4 i p st) num part (by omega) (by omega) hN
     have ei:(i:Int) + 1=((i + 1:Nat):Int):=by omega
     rw [ei]
     unfold N4 at ih ⊢
     cases h1:(p.1==1) with
     | true=>
      have hp:p.1=1:=eq_of_beq h1
      rw [h1] at ih
      have:=ih p.2.2.1 p.2.2.2.1
      rw [hp]
      exact this
     | false=>
      rw [h1] at ih
      cases h2:(p.1==2) with
      | true=>
       have hp:p.1=2:=eq_of_beq h2
       rw [h2] at ih
       have:=ih p.2.2.1 p.2.2.2.1
       rw [hp]
       simp only [cond_false,cond_true,ei] at this ⊢
       exact this
      | false=>
       rw [h2] at ih
       have:=ih p.2.2.1 p.2.2.2.1
       simp only [cond_false,ei] at this ⊢
       exact this
theorem A7h (a0:Dk) (a1 a2:Int) (a3 a4 a5:Int):Ad1 a0 a1 a2 a3 a4 a5=some (((C9 a0 a1 a2 a3 a4 a5).1,(C9 a0 a1 a2 a3 a4 a5).2.1,(C9 a0 a1 a2 a3 a4 a5).2.2.1,()),(())):=by
 unfold Ad1 C9 i7
 show (bif !B1 a0 then _ else _)=_
 cases hv:B1 a0 with
 | false=>rfl
 | true=>
  have hd:=Ajq hv
  simp only [Bool.not_true,cond_false]
  refine d6 (wid a5) ?_
  cases hw:Fg a5 1 8 with
  | false=>rfl
  | true=>
   simp only [Bool.not_true,cond_false]
   have h200:=hd.n200
   by_cases h1:a1 < 0
   ·rw [Ap h1,Bd (show ¬ 0≤a1 by omega)]; rfl
   ·rw [Bd h1,Ap (show 0≤a1 by omega)]
    by_cases h2:a2 < 0
    ·rw [Ap h2,Bd (show ¬ 0≤a2 by omega)]; rfl
    ·rw [Bd h2,Ap (show 0≤a2 by omega)]
     by_cases h3:a1 > nI a0.1.length
     ·rw [Ap h3,Bd (show ¬ a1≤(a0.1.length:Int) by simp only [nI] at h3; omega)]; rfl
     ·have h3':a1≤(a0.1.length:Int):=by simp only [nI] at h3; omega
      rw [Bd h3,Ap h3']
      rw [Aj (n:=nI a0.1.length - a1) (by simp only [nI]; omega) (by simp only [nI]; omega)]
      by_cases h4:a2 > nI a0.1.length - a1
      ·rw [Ap h4,Bd (show ¬ a2≤(a0.1.length:Int) - a1 by simp only [nI] at h4; omega)]; rfl
      ·have h4':a2≤(a0.1.length:Int) - a1:=by simp only [nI] at h4; omega
       rw [Bd h4,Ap h4']
       simp only [cond_false,cond_true,Bool.true_and,Bool.and_self]
       have c1:Lm (a0.1,a0.2.1,())=some (a0.1,a0.2.1,()):=if_pos ⟨Nat.le_trans hd.n200 (by decide),Nat.le_trans hd.p300 (by decide)⟩
       have c2:Ln (a0.1,a0.2.1,())=some (A9b a0):=if_pos ⟨Nat.le_trans hd.p300 (by decide),fun k hk=>⟨(hd.pen k hk).1,(hd.pen k hk).2.1⟩⟩
       rw [c1]
       simp only [Option.bind_some]
       rw [c2]
       simp only [Option.bind_some]
       obtain ⟨f,rfl⟩:∃ f:Nat,a1=(f:Int):=⟨a1.toNat,by omega⟩
       obtain ⟨n,rfl⟩:∃ n:Nat,a2=(n:Int):=⟨a2.toNat,by omega⟩
       have hfu:n < Ka f n a3 a5 (Ac) 0 0 0 (O2 a0.1 a0.2.1) [] 0 a4 0 a4 0 (Ac) [] []:=by simp only [Ka]; omega
       generalize hF:Ka f n a3 a5 (Ac) 0 0 0 (O2 a0.1 a0.2.1) [] 0 a4 0 a4 0 (Ac) [] []=F at hfu
       have hfn:f + n≤a0.1.length:=by omega
       have hst:Aej 0 (0,a4,z0,[],0,a4):=Aej.zero _ _ _ _
       obtain ⟨y,hy1,hy2⟩:=A5v hd f n hfn a3 a5 0 0 [] n F 0 (0,a4,z0,[],0,a4) 0 (Ac)
        (Nat.zero_add n)
        hfu
        hst
       show (Gf (Ka f n a3 a5 (Ac) 0 0 0 (O2 a0.1 a0.2.1) [] 0 a4 0 a4 0 (Ac) [] []) f n a3 a5 (Ac) 0 0 0 (O2 a0.1 a0.2.1) [] 0 a4 0 a4 0 (Ac) [] []).bind _=_
       rw [hF]
       have hy1':Gf F f n a3 a5 (Ac) 0 0 0 (O2 a0.1 a0.2.1) [] 0 a4 0 a4 0 (Ac) [] []=some y:=hy1
       rw [hy1',Eo]
       simp only [Option.bind_some]
       have hy3:Bea y=P8 a5 a3 (seen a0 (f:Int) 0 n) 0 (0,a4,z0,[],0,a4):=hy2
       rw [← hy3]
       cases y<;>rfl
def Ahz {R:Type} (k:Kt R):=(Bw (Ko (Mu 9) (.exit 0) 2 k) (Ko (Mu 9) .ret 1 k))
def Ave {R:Type}:Lt R Mu:=(E3 (pat:=Mu) 9 (fun d k=>(A1o d).bind (Ahz k)) F8)
theorem Ap0:Ax Tryz.prog Apz:=Ay ⟨Eb,Np,Ahl,Aho,Abw,A1n,trivial⟩
theorem A1p {R:Type}:A4 Tryz.prog R 118 0 Mu Ave Ahy:=
 Cj (cfg:=⟨Apz,0,118,Mu⟩) 9 [] (fun NX X d=>(u4 (u4 (u4 (u4 (Ab (Ab Ae)))))) (Oc  NX (fun e=>X (.inl (e))) (fun e=>X (.inr (e)))) d) (fun m d=>(u4 (u4 (u4 (u4 (Ab (Ab Ae)))))) (Gf m) d) (fun d=>(u4 (u4 (u4 (u4 (Ab (Ab Ae)))))) Ka d) Ahz Ap0 trivial (fun f NX d=>by simp only [u4,Ab,Ae]; unfold Oc; simp only [nb])
theorem A7i:Bm Tryz.prog 77 Apy:=
 Aw (pat:=Mu) [Ahy] Ave Ap0 ⟨A1p,trivial⟩ Tryz.func77 (de:=fun x=>Ad1 x.1 x.2.1 x.2.2.1 x.2.2.2.1 x.2.2.2.2.1 x.2.2.2.2.2.1) (fun x r h=>(A7h x.1 x.2.1 x.2.2.1 x.2.2.2.1 x.2.2.2.2.1 x.2.2.2.2.2.1).trans h) fun _=>by kernel_rfl
def B0 (n h:Int):Int:=IntKind.i64.wrap (2 + IntKind.i64.wrap (h * A7 n))
def A1q:E5:=⟨[.rd tI,.rd tI],[none,none],[.rd tI],[none]⟩
def Y9:SD:=⟨A1q,fun x=>some (((B0 x.1 x.2.1),()),(()))⟩
def Ah0 (a0 a1:Int):Option ((((Int)×Unit)×(Unit))):=
 some ((IntKind.i64.wrap (2 + IntKind.i64.wrap (a1 * A7 a0)),()),())
theorem A1r (a0 a1:Int):Ah0 a0 a1=some (((B0 a0 a1),()),(())):=rfl
theorem Ah1:Bm Tryz.prog 78 Y9:=
 Aw (pat:=Co) [] F8 (Ay (l:=[(75,N8)]) ⟨Rs,trivial⟩) trivial Tryz.func78 (de:=fun x=>Ah0 x.1 x.2.1) (fun x r h=>(A1r x.1 x.2.1).trans h) fun _=>by kernel_rfl
def Kb (s:Aa):Aa×Aa×Bool:=((Ba s).1,bif (Ba s).2.2 then (Ba s).2.1 else ⟨#[]⟩,(Ba s).2.2)
def Awt:E5:=⟨[.rd .str],[none],[.rd .str,.rd .str,.rd .bool],[none,none,none]⟩
def Ae1:SD:=⟨Awt,fun x=>some (((Kb x.1).1,(Kb x.1).2.1,(Kb x.1).2.2,()),(()))⟩
def V1 (a0:Aa):Option ((((Aa)×(Aa)×(Bool)×Unit)×(Unit))):=
 bif decide (nI a0.size < 1) then some ((Ac,Ac,false,()),()) else bif decide (0 < nI a0.size) then bif decide (nI a0.size < IntKind.i64.wrap (1 + IntKind.i64.wrap (Am a0 0))) then some ((Ac,Ac,false,()),()) else bif decide (0 < nI a0.size) then bif decide (1≤IntKind.i64.wrap (1 + IntKind.i64.wrap (Am a0 0))) then bif decide (IntKind.i64.wrap (1 + IntKind.i64.wrap (Am a0 0))≤nI a0.size) then bif decide (0≤IntKind.i64.wrap (1 + IntKind.i64.wrap (Am a0 0))) then bif decide (IntKind.i64.wrap (1 + IntKind.i64.wrap (Am a0 0))≤nI a0.size) then some ((Ao a0 1 (IntKind.i64.wrap (1 + IntKind.i64.wrap (Am a0 0))),Ao a0 (IntKind.i64.wrap (1 + IntKind.i64.wrap (Am a0 0))) (nI a0.size),true,()),()) else none else none else none else none else none else none
theorem Awu (a0:Aa):V1 a0=some (((Kb a0).1,(Kb a0).2.1,(Kb a0).2.2,()),(())):=by
 unfold V1 Kb Ba
 obtain ⟨b0,b1⟩:=Ib a0 0
 have hw:IntKind.i64.wrap (1 + IntKind.i64.wrap (Am a0 0))=1 + Am a0 0:=by
  rw [Aj (n:=Am a0 0) (by omega) (by omega),Aj (by omega) (by omega)]
 rw [hw]
 by_cases h0:(a0.size:Int) < 1
 ·rw [if_pos (Or.inl h0),Ap (show nI a0.size < 1 from h0)]
  rfl
 ·rw [Bd (show ¬ nI a0.size < 1 from h0),Ap (show 0 < nI a0.size by simp only [nI]; omega)]
  by_cases h1:(a0.size:Int) < 1 + Am a0 0
  ·rw [if_pos (Or.inr h1),Ap (show nI a0.size < 1 + Am a0 0 from h1)]
   rfl
  ·rw [if_neg (by omega),Bd (show ¬ nI a0.size < 1 + Am a0 0 from h1),Ap (show 1≤1 + Am a0 0 by omega),Ap (show 0≤1 + Am a0 0 by omega),Ap (show 1 + Am a0 0≤nI a0.size by simp only [nI]; omega)]
   rfl
theorem Awv:Bm Tryz.prog 163 Ae1:=
 Aw (pat:=Co) [] F8 (Ay (l:=[]) trivial) trivial Tryz.func163 (de:=fun x=>V1 x.1) (fun x r h=>(Awu x.1).trans h) fun _=>by kernel_rfl
def Em (s:Aa):List Bq×Bool:=A0b s
def O3 (v0 v5:Aa) (r0:List Bq):Nat:=22
def Ap1:E5:=⟨[.rd .str],[none],[.own 148 Ff,.rd .bool],[none,none]⟩
def l9:SD:=⟨Ap1,fun x=>some (((Em x.1).1,(Em x.1).2,()),(()))⟩
def m7:Tb:=tb [(129,Nq),(163,Ae1)]
def Gg:Nat→Da×(Nat→Da):=Gs [(4,⟨[.row 4 0 148 Ff],[(0,.lf (.d .str)),(4,.lf (.row 0)),(5,.lf (.d .str))],[.row 148 Ff]⟩,[(2,⟨[.row 4 0 148 Ff],[(0,.lf (.d .str)),(4,.lf (.row 0))],[.row 148 Ff]⟩),(1,⟨[.row 2 0 148 Ff],[(2,.lf (.row 0)),(3,.lf (.d .bool))],[.row 148 Ff]⟩)])]
def Wl:Code:=(At (Bc Tryz.f125)).getD 0 .skip
def Lu {R:Type}  (NX:((Aa)×(Aa)×(List Bq)×Unit)→Option R) (X2:((Aa)×(List Bq)×Unit)→Option R) (X1:((Bool)×(List Bq)×Unit)→Option R) (v0:Aa) (v5:Aa) (r0:List Bq):Option R:=
 bif decide (nI v5.size > 0) then bif decide (nI r0.length≤20) then bif decide (0 < nI v5.size) then bif decide (1≤nI v5.size) then bif !(Ba (Ao v5 1 (nI v5.size))).2.2 then X1 (false,[],()) else bif !Am v5 0==1 then bif !(Ba (bif (Ba (Ao v5 1 (nI v5.size))).2.2 then (Ba (Ao v5 1 (nI v5.size))).2.1 else Ac)).2.2 then X1 (false,[],()) else bif decide ((r0.length + [((Ba (Ao v5 1 (nI v5.size))).1,(Ba (bif (Ba (Ao v5 1 (nI v5.size))).2.2 then (Ba (Ao v5 1 (nI v5.size))).2.1 else Ac)).1,Am v5 0==1,())].length) * 40≤140737488355328) then NX (v0,bif (Ba (bif (Ba (Ao v5 1 (nI v5.size))).2.2 then (Ba (Ao v5 1 (nI v5.size))).2.1 else Ac)).2.2 then (Ba (bif (Ba (Ao v5 1 (nI v5.size))).2.2 then (Ba (Ao v5 1 (nI v5.size))).2.1 else Ac)).2.1 else Ac,r0++[((Ba (Ao v5 1 (nI v5.size))).1,(Ba (bif (Ba (Ao v5 1 (nI v5.size))).2.2 then (Ba (Ao v5 1 (nI v5.size))).2.1 else Ac)).1,Am v5 0==1,())],()) else none else bif decide ((r0.length + [((Ba (Ao v5 1 (nI v5.size))).1,Ac,Am v5 0==1,())].length) * 40≤140737488355328) then NX (v0,bif (Ba (Ao v5 1 (nI v5.size))).2.2 then (Ba (Ao v5 1 (nI v5.size))).2.1 else Ac,r0++[((Ba (Ao v5 1 (nI v5.size))).1,Ac,Am v5 0==1,())],()) else none else none else none else X2 (v0,r0,()) else X2 (v0,r0,())
def Gp:Nat→(Aa)→(Aa)→(List Bq) →  Option (((Aa)×(List Bq)×Unit) ⊕ ((Bool)×(List Bq)×Unit))
 | 0,_,_,_=>none
 | m + 1,v0,v5,r0=>Lu  (fun d=>Gp m d.1 d.2.1 d.2.2.1) (fun d=>some (.inl (d))) (fun d=>some (.inr (d))) v0 v5 r0
def Aj5 (d:(Aa)×(Aa)×(List Bq)×Unit):Option (((Aa)×(List Bq)×Unit) ⊕ ((Bool)×(List Bq)×Unit)):=(Ab (Ab (Ab Ae))) (Gp ((Ab (Ab (Ab Ae))) O3 d)) d
def R0 (a0:Aa):Option ((((List Bq)×(Bool)×Unit)×(Unit))):=
 ((fun d=>Gp (O3 d.1 d.2.1 d.2.2.1) d.1 d.2.1 d.2.2.1) (a0,a0,[],())).bind fun val=>Bw (fun d=>bif nI (ByteArray.size d.1)==0 then some (([],false,()),()) else bif !(F4 d.2.1).toList==ByteArray.toList d.1 then some (([],false,()),()) else some ((d.2.1,true,()),())) (fun d=>some ((d.2.1,d.1,()),())) val
def Blz (s0:Aa) (o:Option (List Bq×Aa)):(Aa×List Bq×Unit) ⊕ (Bool×List Bq×Unit):=match o with
 | some (b,t)=>.inl (s0,b,())
 | none=>.inr (false,[],())
theorem A1s (s0:Aa):∀ (f m:Nat) (r:List Bq) (s:Aa),r.length + f=22→f≤m→1≤f→Gp m s0 s r=some (Blz s0 (P4 false f r s))
 | 0,_,_,_,_,_,h=>by omega
 | f + 1,0,_,_,_,h,_=>by omega
 | f + 1,m + 1,r,s,hf,hm,_=>by
  simp only [Gp,Lu,P4]
  by_cases hs:s.size > 0
  ·rw [Ap (show nI s.size > 0 by simp only [nI]; omega),Ap hs]
   by_cases hr:r.length≤20
   ·rw [Ap (show nI r.length≤20 by simp only [nI]; omega),Ap hr,Ap (show 1≤nI s.size by simp only [nI]; omega)]
    unfold Auz
    generalize Ba (Ao s 1 (nI s.size))=p
    simp only [Nz,Bool.false_and,cond_true,Bool.and_self,cond_false]
    rw [Ap (show (r.length + 1) * 40≤140737488355328 by omega)]
    obtain ⟨k,t,o⟩:=p
    cases o
    ·rfl
    ·by_cases h2:Am s 0=1
     ·rw [h2]
      exact A1s s0 f m (r++[(k,Ac,true,())]) t (by rw [Lw,Nz]; omega) (by omega) (by omega)
     ·have h3:(Am s 0==1)=false:=beq_eq_false_iff_ne.2 h2
      rw [h3]
      simp only [Bool.not_true,Bool.not_false,cond_false,cond_true]
      generalize Ba t=q
      obtain ⟨v,u,o⟩:=q
      cases o
      ·rfl
      ·exact A1s s0 f m (r++[(k,v,false,())]) u (by rw [Lw,Nz]; omega) (by omega) (by omega)
   ·rw [Bd (show ¬ nI r.length≤20 by simp only [nI]; omega),Bd hr]
    rfl
  ·rw [Bd (show ¬ nI s.size > 0 by simp only [nI]; omega),Bd hs]
   rfl
theorem Ap2 (a0:Aa):R0 a0=some (((Em a0).1,(Em a0).2,()),(())):=by
 unfold R0 Em A0b
 have hL:=A1s a0 22 22 [] a0 rfl (Nat.le_refl _) (by omega)
 refine d6 hL ?_
 cases P4 false 22 [] a0 with
 | none=>rfl
 | some bt=>
  obtain ⟨b,t⟩:=bt
  show (bif nI a0.size==0 then _ else (bif !(ByteArray.toList (Hu b)==ByteArray.toList a0) then _ else _))=_
  have e:(nI a0.size==0)=(a0.size==0):=by
   by_cases q:a0.size=0
   ·rw [q]; rfl
   ·rw [beq_eq_false_iff_ne.2 q,beq_eq_false_iff_ne.2 (show nI a0.size≠0 by simp only [nI]; omega)]
  rw [e]
  simp only
  cases (a0.size==0)<;>cases (ByteArray.toList (Hu b)==ByteArray.toList a0)<;>rfl
def Wm {R:Type} (k:Kt R):=(Bw (Ko (Gg 4) (.exit 0) 2 k) (Ko (Gg 4) .ret 1 k))
def Ab1 {R:Type}:Lt R Gg:=(E3 (pat:=Gg) 4 (fun d k=>(Aj5 d).bind (Wm k)) F8)
theorem m8:Ax Tryz.prog m7:=Ay ⟨Rx,Awv,trivial⟩
theorem Aj6 {R:Type}:A4 Tryz.prog R 70 0 Gg Ab1 Wl:=
 Cj (cfg:=⟨m7,0,70,Gg⟩) 4 [] (fun NX X d=>(Ab (Ab (Ab Ae))) (Lu  NX (fun e=>X (.inl (e))) (fun e=>X (.inr (e)))) d) (fun m d=>(Ab (Ab (Ab Ae))) (Gp m) d) (fun d=>(Ab (Ab (Ab Ae))) O3 d) Wm m8 trivial (fun f NX d=>by simp only [u4,Ab,Ae]; unfold Lu; simp only [nb])
theorem Ap3:Bm Tryz.prog 125 l9:=
 Aw (pat:=Gg) [Wl] Ab1 m8 ⟨Aj6,trivial⟩ Tryz.func125 (de:=fun x=>R0 x.1) (fun x r h=>(Ap2 x.1).trans h) fun _=>by kernel_rfl
def Hn (s:Dh):Option Dh:=if s.1.length≤1000000 then some (s.1,()) else none
def A1t:E5:=⟨[.rd B6],[some 1],[.own 136 Aq],[some 1]⟩
def R1:SD:=⟨A1t,fun x=>(Hn x.1).bind fun r=>some ((r.1,()),(()))⟩
def Za (a0:Dh):Option ((Dh×(Unit))):=
 bif decide ((0 + List.length a0.1) * 32≤140737488355328) then some (([]++a0.1,()),()) else none
theorem A1u (a0:Dh) r (h:Hn a0=some r):Za a0=some ((r.1,()),(())):=by
 unfold Hn at h
 split at h
 ·rename_i hc
  cases h
  unfold Za
  rw [Ap (show (0 + a0.1.length) * 32≤140737488355328 by omega)]
  rfl
 ·cases h
theorem Zb:Bm Tryz.prog 27 R1:=
 Aw (pat:=Co) [] F8 (Ay (l:=[]) trivial) trivial Tryz.func27 (de:=fun x=>Za x.1) (fun x r h=>A2 (A1u x.1) h) fun _=>by kernel_rfl
def M8 (s:Dh) (c:Bq):Option Dh:=if s.1.length≤1000000 then some (A0u c s.1,()) else none
def Atf:E5:=⟨[.rd B6,.rd Ff],[some 1,some 3],[.own 136 Aq],[some 1]⟩
def Ab2:SD:=⟨Atf,fun x=>(M8 x.1 x.2.1).bind fun r=>some ((r.1,()),(()))⟩
def Ab3:Tb:=tb []
def Jj:Nat→Da×(Nat→Da):=Gs [(5,⟨[.boxSl 2 0 Aq,.boxRow 4 0 136 Aq,.boxRow 5 0 136 Aq],[(2,.lf (.ptr 0 0)),(3,.lf (.ptr 1 0)),(4,.lf (.ptr 2 0)),(5,.lf (.ptr 3 0)),(6,.lf (.d .bool)),(7,.lf (.d tI))],[.box 39 [.d (.sl Aq)],.box 148 [.d .str,.d .str,.d .bool],.box 39 [.row 4],.box 39 [.row 5],.row 136 Aq,.row 136 Aq]⟩,[(2,⟨[.boxRow 4 0 136 Aq,.boxRow 5 0 136 Aq],[(3,.lf (.ptr 0 0)),(4,.lf (.ptr 1 0)),(5,.lf (.ptr 2 0)),(6,.lf (.d .bool))],[.box 148 [.d .str,.d .str,.d .bool],.box 39 [.row 3],.box 39 [.row 4],.row 136 Aq,.row 136 Aq]⟩)])]
def Zc:Code:=(At (Bc Tryz.f165)).getD 0 .skip
def Kc (v6:Bool) (v7:Int) (b0_0:List Ar) (b1_0 b1_1:Aa) (b1_2:Bool) (r4 r5:List Ar):Nat:=((b0_0.length:Int) - v7).toNat + 1
def Kd {R:Type}  (NX:((Bool)×(Int)×(List Ar)×(Aa)×(Aa)×(Bool)×(List Ar)×(List Ar)×Unit)→Option R) (X2:((Bool)×(Aa)×(Aa)×(Bool)×(List Ar)×(List Ar)×Unit)→Option R) (v6:Bool) (v7:Int) (b0_0:List Ar) (b1_0:Aa) (b1_1:Aa) (b1_2:Bool) (r4:List Ar) (r5:List Ar):Option R:=
 bif decide (v7 < nI b0_0.length) then bif !v6 then bif decide (0≤v7) then bif decide (v7 < nI b0_0.length) then bif !(Op.bytesLess (ByteArray.toList (b0_0.getD v7.toNat (Ac,Ac,())).1) b1_0.toList || ByteArray.toList (b0_0.getD v7.toNat (Ac,Ac,())).1==b1_0.toList) then bif decide ((r5.length + [(b1_0,b1_1,())].length) * 32≤140737488355328) then bif decide (0≤v7) then bif decide (v7 < nI b0_0.length) then bif !ByteArray.toList (b0_0.getD v7.toNat (Ac,Ac,())).1==b1_0.toList then bif decide (0≤v7) then bif decide (v7 < nI b0_0.length) then bif decide (((r5++[(b1_0,b1_1,())]).length + [b0_0.getD v7.toNat (Ac,Ac,())].length) * 32≤140737488355328) then NX (true,IntKind.i64.wrap (v7 + 1),b0_0,b1_0,b1_1,b1_2,r4,r5++[(b1_0,b1_1,())]++[b0_0.getD v7.toNat (Ac,Ac,())],()) else none else none else none else NX (true,IntKind.i64.wrap (v7 + 1),b0_0,b1_0,b1_1,b1_2,r4,r5++[(b1_0,b1_1,())],()) else none else none else none else bif decide (0≤v7) then bif decide (v7 < nI b0_0.length) then bif !ByteArray.toList (b0_0.getD v7.toNat (Ac,Ac,())).1==b1_0.toList then bif decide (0≤v7) then bif decide (v7 < nI b0_0.length) then bif decide ((r5.length + [b0_0.getD v7.toNat (Ac,Ac,())].length) * 32≤140737488355328) then NX (v6,IntKind.i64.wrap (v7 + 1),b0_0,b1_0,b1_1,b1_2,r4,r5++[b0_0.getD v7.toNat (Ac,Ac,())],()) else none else none else none else NX (v6,IntKind.i64.wrap (v7 + 1),b0_0,b1_0,b1_1,b1_2,r4,r5,()) else none else none else none else none else bif decide (0≤v7) then bif decide (v7 < nI b0_0.length) then bif !ByteArray.toList (b0_0.getD v7.toNat (Ac,Ac,())).1==b1_0.toList then bif decide (0≤v7) then bif decide (v7 < nI b0_0.length) then bif decide ((r5.length + [b0_0.getD v7.toNat (Ac,Ac,())].length) * 32≤140737488355328) then NX (v6,IntKind.i64.wrap (v7 + 1),b0_0,b1_0,b1_1,b1_2,r4,r5++[b0_0.getD v7.toNat (Ac,Ac,())],()) else none else none else none else NX (v6,IntKind.i64.wrap (v7 + 1),b0_0,b1_0,b1_1,b1_2,r4,r5,()) else none else none else X2 (v6,b1_0,b1_1,b1_2,r4,r5,())
def Dn:Nat→(Bool)→(Int)→(List Ar)→(Aa)→(Aa)→(Bool)→(List Ar)→(List Ar) →  Option ((Bool)×(Aa)×(Aa)×(Bool)×(List Ar)×(List Ar)×Unit)
 | 0,_,_,_,_,_,_,_,_=>none
 | m + 1,v6,v7,b0_0,b1_0,b1_1,b1_2,r4,r5=>Kd  (fun d=>Dn m d.1 d.2.1 d.2.2.1 d.2.2.2.1 d.2.2.2.2.1 d.2.2.2.2.2.1 d.2.2.2.2.2.2.1 d.2.2.2.2.2.2.2.1) (fun d=>some (d)) v6 v7 b0_0 b1_0 b1_1 b1_2 r4 r5
def Am5 (d:(Bool)×(Int)×(List Ar)×(Aa)×(Aa)×(Bool)×(List Ar)×(List Ar)×Unit):Option ((Bool)×(Aa)×(Aa)×(Bool)×(List Ar)×(List Ar)×Unit):=(u4 (u4 Ae)) (Dn ((u4 (u4 Ae)) Kc d)) d
def T3 (a0:Dh) (a1:Bq):Option ((Dh×(Unit))):=
 ((fun d=>Dn (Kc d.1 d.2.1 d.2.2.1 d.2.2.2.1 d.2.2.2.2.1 d.2.2.2.2.2.1 d.2.2.2.2.2.2.1 d.2.2.2.2.2.2.2.1) d.1 d.2.1 d.2.2.1 d.2.2.2.1 d.2.2.2.2.1 d.2.2.2.2.2.1 d.2.2.2.2.2.2.1 d.2.2.2.2.2.2.2.1) (a1.2.2.1,0,a0.1,a1.1,a1.2.1,a1.2.2.1,[],[],())).bind fun val=>bif !val.1 then bif decide ((val.2.2.2.2.2.1.length + [(val.2.1,val.2.2.1,())].length) * 32≤140737488355328) then some ((val.2.2.2.2.2.1++[(val.2.1,val.2.2.1,())],()),()) else none else some (val.2.2.2.2.2,())
theorem Atg (a0:Dh) (a1:Bq) r (h:M8 a0 a1=some r):T3 a0 a1=some ((r.1,()),(())):=by
 unfold M8 at h
 split at h
 rotate_left
 ·cases h
 rename_i hlen
 cases h
 unfold T3
 have hL:=G4 (xs:=a0.1) zP (fun i (s:Bool×List Ar)=>i≤1000000∧s.2.length≤2 * i) (fun _ p s=>Yd a1.1 a1.2.1 p s) (g:=fun m i s=>Dn m s.1 i a0.1 a1.1 a1.2.1 a1.2.2.1 [] s.2) (ok:=fun s=>(s.1,a1.1,a1.2.1,a1.2.2.1,[],s.2,())) (fun m i s hi hI=>by
   show Dn (m + 1) s.1 i a0.1 a1.1 a1.2.1 a1.2.2.1 [] s.2=_
   obtain ⟨d,out⟩:=s
   obtain ⟨h1,h2⟩:=hI
   simp only at h2 ⊢
   simp only [Dn,Kd]
   have e1:decide ((out.length + 1) * 32≤140737488355328)=true:=Ap (by omega)
   have e2:decide ((out.length + 1 + 1) * 32≤140737488355328)=true:=Ap (by omega)
   rw [Qv hi,Gt,wI (show i < 4611686018427387904 by omega),Eo]
   simp only [cond_true,Nz,Lw,e1,e2]
   unfold Yd gtS bl
   show (bif !d then (bif !(Op.bytesLess (List.getD a0.1 i zP).1.toList a1.1.toList || (List.getD a0.1 i zP).1.toList==a1.1.toList) then _ else _) else _)=_
   cases d with
   | true=>
    simp only [Bool.not_true,Bool.false_and,cond_false]
    show (bif !((List.getD a0.1 i zP).1.toList==a1.1.toList) then _ else _)=_
    cases ((List.getD a0.1 i zP).1.toList==a1.1.toList)<;>rfl
   | false=>
    simp only [Bool.not_false,Bool.true_and,cond_true]
    cases hq:!(Op.bytesLess (List.getD a0.1 i zP).1.toList a1.1.toList || (List.getD a0.1 i zP).1.toList==a1.1.toList) with
    | true=>
     simp only [cond_true]
     show (bif !((List.getD a0.1 i zP).1.toList==a1.1.toList) then _ else _)=_
     cases ((List.getD a0.1 i zP).1.toList==a1.1.toList)<;>rfl
    | false=>
     simp only [cond_false]
     show (bif !((List.getD a0.1 i zP).1.toList==a1.1.toList) then _ else _)=_
     cases ((List.getD a0.1 i zP).1.toList==a1.1.toList)<;>rfl) (fun i s hi hI=>⟨by omega,by have:=A0x a1.1 a1.2.1 (a0.1.getD i zP) s; omega⟩) (fun m s hI=>by
   show Dn (m + 1) s.1 (a0.1.length:Int) a0.1 a1.1 a1.2.1 a1.2.2.1 [] s.2=_
   simp only [Dn,Kd]
   rw [Jx]
   rfl) (Kc a1.2.2.1 0 a0.1 a1.1 a1.2.1 a1.2.2.1 [] []) 0 (a1.2.2.1,[]) (by omega) (by simp [Kc,nI]) ⟨by omega,Nat.le_refl _⟩
 have hE:=Bd3 a1.1 a1.2.1 a0.1 0 (a1.2.2.1,[])
 have hB:(Gu (fun _ p s=>Yd a1.1 a1.2.1 p s) 0 a0.1 (a1.2.2.1,[])).2.length≤2 * a0.1.length:=by
  have:=Aju zP (fun i (s:Bool×List Ar)=>s.2.length≤2 * i) (fun _ p s=>Yd a1.1 a1.2.1 p s) (xs:=a0.1) (fun i s hi hI=>by have:=A0x a1.1 a1.2.1 (a0.1.getD i zP) s; omega) a0.1.length 0 (a1.2.2.1,[]) (by omega) (Nat.le_refl _)
  exact this
 rw [List.drop_zero] at hL
 refine Aae hL ?_
 dsimp only
 generalize Gu (fun _ p s=>Yd a1.1 a1.2.1 p s) 0 a0.1 (a1.2.2.1,[])=q at hE hB
 obtain ⟨d,out⟩:=q
 simp only at hB
 simp only [List.nil_append] at hE
 show _=some ((Qy a1.1 a1.2.1 a1.2.2.1 a0.1,()),())
 rw [← hE]
 unfold A92
 have e1:decide ((out.length + 1) * 32≤140737488355328)=true:=Ap (by omega)
 cases d with
 | true=>rfl
 | false=>
  simp only [Bool.not_false,cond_true,cond_false,Nz,e1]
def Zd {R:Type} (k:Kt R):=(Ko (Jj 5) (.exit 0) 2 k)
def Ae2 {R:Type}:Lt R Jj:=(E3 (pat:=Jj) 5 (fun d k=>(Am5 d).bind (Zd k)) F8)
theorem Ab4:Ax Tryz.prog Ab3:=Ay trivial
theorem Am6 {R:Type}:A4 Tryz.prog R 73 0 Jj Ae2 Zc:=
 Cj (cfg:=⟨Ab3,0,73,Jj⟩) 5 [] (fun NX X (d:(Bool)×(Int)×(List Ar)×(Aa)×(Aa)×(Bool)×(List Ar)×(List Ar)×Unit)=>(u4 (u4 Ae)) (Kd  NX X) d) (fun m d=>(u4 (u4 Ae)) (Dn m) d) (fun d=>(u4 (u4 Ae)) Kc d) Zd Ab4 trivial (fun f NX (d:(Bool)×(Int)×(List Ar)×(Aa)×(Aa)×(Bool)×(List Ar)×(List Ar)×Unit)=>by simp only [u4,Ab,Ae]; unfold Kd; simp only [nb])
theorem Ath:Bm Tryz.prog 165 Ab2:=
 Aw (pat:=Jj) [Zc] Ae2 Ab4 ⟨Am6,trivial⟩ Tryz.func165 (de:=fun x=>T3 x.1 x.2.1) (fun x r h=>A2 (Atg x.1 x.2.1) h) fun _=>by kernel_rfl
def Lb (s:Dh) (b:List Bq):Dh×Int:=Rj s b
def A3o:E5:=⟨[.rd B6,.rd (.sl Ff)],[some 1,none],[.own 136 Aq,.rd tI],[some 1,none]⟩
def Ak3:SD:=⟨A3o,fun x=>some (((Lb x.1 x.2.1).1.1,(Lb x.1 x.2.1).2,()),(()))⟩
def Ak4:Tb:=tb [(27,R1),(74,J1),(164,Qa),(165,Ab2)]
def Nh:Nat→Da×(Nat→Da):=Gs [(6,⟨[.sl 1 0 Ff,.boxRow 4 0 136 Aq,.boxRow 6 0 136 Aq],[(1,.lf (.d (.sl Ff))),(4,.lf (.ptr 0 0)),(6,.lf (.ptr 1 0)),(7,.lf (.d tI))],[.box 39 [.row 2],.box 39 [.row 3],.row 136 Aq,.row 136 Aq]⟩,[(2,⟨[.boxRow 4 0 136 Aq,.boxRow 6 0 136 Aq],[(4,.lf (.ptr 0 0)),(6,.lf (.ptr 1 0))],[.box 39 [.row 2],.box 39 [.row 3],.row 136 Aq,.row 136 Aq]⟩)])]
def Ae3:Code:=(At (Bc Tryz.f126)).getD 0 .skip
def Kw (v1:List Bq) (v7:Int) (r2 r3:List Ar):Nat:=((v1.length:Int) - v7).toNat + 1
def M9 {R:Type}  (NX:((List Bq)×(Int)×(List Ar)×(List Ar)×Unit)→Option R) (X2:((List Ar)×(List Ar)×Unit)→Option R) (v1:List Bq) (v7:Int) (r2:List Ar) (r3:List Ar):Option R:=
 bif decide (v7 < nI v1.length) then bif decide (0≤v7) then bif decide (v7 < nI v1.length) then ((M8 (r3,()) (v1.getD v7.toNat (Ac,Ac,false,()))).bind fun val=>some (val,())).bind fun val=>NX (v1,IntKind.i64.wrap (v7 + 1),r2,val.1) else none else none else X2 (r2,r3,())
def Ec:Nat→(List Bq)→(Int)→(List Ar)→(List Ar) →  Option ((List Ar)×(List Ar)×Unit)
 | 0,_,_,_,_=>none
 | m + 1,v1,v7,r2,r3=>M9  (fun d=>Ec m d.1 d.2.1 d.2.2.1 d.2.2.2.1) (fun d=>some (d)) v1 v7 r2 r3
def Aww (d:(List Bq)×(Int)×(List Ar)×(List Ar)×Unit):Option ((List Ar)×(List Ar)×Unit):=(u4 Ae) (Ec ((u4 Ae) Kw d)) d
def Aag (a0:Dh) (a1:List Bq):Option ((((List Ar)×(Int)×Unit)×(Unit))):=
 bif !E0 a0 then some (([],1,()),()) else bif !La a1 then some (([],1,()),()) else ((Hn a0).bind fun val=>some (val,())).bind fun val=>((fun d=>Ec (Kw d.1 d.2.1 d.2.2.1 d.2.2.2.1) d.1 d.2.1 d.2.2.1 d.2.2.2.1) (a1,0,[],val.1)).bind fun val=>bif decide (nI val.2.1.length > 100) then some (([],2,()),()) else some ((val.2.1,0,()),())
theorem A7j (b:List Bq) (xs:List Ar) (hb:b.length≤20) (hx:xs.length≤100):Ec (Kw b 0 [] xs) b 0 [] xs=some ([],Ri xs b,()):=by
 have hL:=G4 (xs:=b) zC (fun i (l:List Ar)=>i≤20∧l.length≤100 + i) (fun _ c l=>A0u c l) (g:=fun m i l=>Ec m b i [] l) (ok:=fun l=>([],l,())) (fun m i l hi hI=>by
   show Ec (m + 1) b i [] l=_
   simp only [Ec,M9]
   rw [Qv hi,Gt,wI (show i < 4611686018427387904 by omega),Eo]
   simp only [cond_true]
   have e1:M8 (l,()) ((List.getD b i zC).1,(List.getD b i zC).2.1,(List.getD b i zC).2.2.1,())=some (A0u (List.getD b i zC) l,()):=if_pos (by show l.length≤1000000; omega)
   refine (congrArg (fun y=>Option.bind (Option.bind y _) _) e1).trans ?_
   rfl) (fun i l hi hI=>⟨by omega,by have:=Bjf (b.getD i zC) l; omega⟩) (fun m l hI=>by
   show Ec (m + 1) b (b.length:Int) [] l=_
   simp only [Ec,M9]
   rw [Jx]
   rfl) (Kw b 0 [] xs) 0 xs (by omega) (by simp [Kw,nI]) ⟨by omega,by omega⟩
 rw [List.drop_zero] at hL
 exact hL
theorem A3p (a0:Dh) (a1:List Bq):Aag a0 a1=some (((Lb a0 a1).1.1,(Lb a0 a1).2,()),(())):=by
 unfold Aag Lb Rj
 show (bif !Av a0 then _ else bif !Br a1 then _ else _)=_
 cases hv:Av a0 with
 | false=>rfl
 | true=>
  cases hb:Br a1 with
  | false=>rfl
  | true=>
   simp only [Bool.not_true,cond_false]
   have hl:=Gc hv
   have hb2:=Iu (C6 hb).1
   have e1:Hn (a0.1,())=some (a0.1,()):=if_pos (Nat.le_trans hl (by decide))
   rw [e1]
   simp only [Option.bind_some]
   refine Aae (A7j a1 a0.1 (by omega) hl) ?_
   dsimp only
   by_cases q:(Ri a0.1 a1).length > 100
   ·rw [Ap (show nI (Ri a0.1 a1).length > 100 by simp only [nI]; omega),Ap q]
    rfl
   ·rw [Bd (show ¬ nI (Ri a0.1 a1).length > 100 by simp only [nI]; omega),Bd q]
    rfl
def Ae4 {R:Type} (k:Kt R):=(Ko (Nh 6) (.exit 0) 2 k)
def Ap4 {R:Type}:Lt R Nh:=(E3 (pat:=Nh) 6 (fun d k=>(Aww d).bind (Ae4 k)) F8)
theorem Ak5:Ax Tryz.prog Ak4:=Ay ⟨Zb,Ms,Ys,Ath,trivial⟩
theorem Awx {R:Type}:A4 Tryz.prog R 37 0 Nh Ap4 Ae3:=
 Cj (cfg:=⟨Ak4,0,37,Nh⟩) 6 [] (fun NX X d=>(u4 Ae) (M9  NX X) d) (fun m d=>(u4 Ae) (Ec m) d) (fun d=>(u4 Ae) Kw d) Ae4 Ak5 trivial (fun f NX d=>by simp only [u4,Ab,Ae]; unfold M9; simp only [nb])
theorem A3q:Bm Tryz.prog 126 Ak3:=
 Aw (pat:=Nh) [Ae3] Ap4 Ak5 ⟨Awx,trivial⟩ Tryz.func126 (de:=fun x=>Aag x.1 x.2.1) (fun x r h=>(A3p x.1 x.2.1).trans h) fun _=>by kernel_rfl
def Ph (es:List Aa):Option (Dh×Bool):=if es.length≤1073741824 then some (Bd9 es) else none
def A1v:E5:=⟨[.rd (.sl .str)],[none],[.own 136 Aq,.rd .bool],[some 1,none]⟩
def Ah2:SD:=⟨A1v,fun x=>(Ph x.1).bind fun r=>some ((r.1.1,r.2,()),(()))⟩
def Ah3:Tb:=tb [(125,l9),(126,Ak3)]
def Ke:Nat→Da×(Nat→Da):=Gs [(4,⟨[.sl 0 0 .str,.boxRow 2 0 136 Aq,.boxRow 4 0 136 Aq],[(0,.lf (.d (.sl .str))),(2,.lf (.ptr 0 0)),(4,.lf (.ptr 1 0)),(5,.lf (.d tI))],[.box 39 [.row 2],.box 39 [.row 3],.row 136 Aq,.row 136 Aq]⟩,[(2,⟨[.boxRow 2 0 136 Aq,.boxRow 4 0 136 Aq],[(2,.lf (.ptr 0 0)),(4,.lf (.ptr 1 0))],[.box 39 [.row 2],.box 39 [.row 3],.row 136 Aq,.row 136 Aq]⟩),(1,⟨[.boxRow 2 0 136 Aq],[(2,.lf (.ptr 0 0)),(3,.lf (.d .bool))],[.box 39 [.row 1],.row 136 Aq]⟩)])]
def Ab5:Code:=(At (Bc Tryz.f79)).getD 0 .skip
def Mc (v0:List Aa) (v5:Int) (r2 r3:List Ar):Nat:=((v0.length:Int) - v5).toNat + 1
def Me {R:Type}  (NX:((List Aa)×(Int)×(List Ar)×(List Ar)×Unit)→Option R) (X2:((List Ar)×(List Ar)×Unit)→Option R) (X1:((Bool)×(List Ar)×Unit)→Option R) (v0:List Aa) (v5:Int) (r2:List Ar) (r3:List Ar):Option R:=
 bif decide (v5 < nI v0.length) then bif decide (0≤v5) then bif decide (v5 < nI v0.length) then bif !(Em (v0.getD v5.toNat (Ac))).2 then X1 (false,[],()) else bif (Lb (r3,()) (Em (v0.getD v5.toNat (Ac))).1).2 != 0 then X1 (false,[],()) else NX (v0,IntKind.i64.wrap (v5 + 1),r2,(Lb (r3,()) (Em (v0.getD v5.toNat (Ac))).1).1) else none else none else X2 (r2,r3,())
def En:Nat→(List Aa)→(Int)→(List Ar)→(List Ar) →  Option (((List Ar)×(List Ar)×Unit) ⊕ ((Bool)×(List Ar)×Unit))
 | 0,_,_,_,_=>none
 | m + 1,v0,v5,r2,r3=>Me  (fun d=>En m d.1 d.2.1 d.2.2.1 d.2.2.2.1) (fun d=>some (.inl (d))) (fun d=>some (.inr (d))) v0 v5 r2 r3
def Ati (d:(List Aa)×(Int)×(List Ar)×(List Ar)×Unit):Option (((List Ar)×(List Ar)×Unit) ⊕ ((Bool)×(List Ar)×Unit)):=(u4 Ae) (En ((u4 Ae) Mc d)) d
def Ze (a0:List Aa):Option ((((List Ar)×(Bool)×Unit)×(Unit))):=
 ((fun d=>En (Mc d.1 d.2.1 d.2.2.1 d.2.2.2.1) d.1 d.2.1 d.2.2.1 d.2.2.2.1) (a0,0,[],[],())).bind fun val=>Bw (fun d=>some ((d.2.1,true,()),())) (fun d=>some ((d.2.1,d.1,()),())) val
theorem A1w (a0:List Aa) r (h:Ph a0=some r):Ze a0=some ((r.1.1,r.2,()),(())):=by
 unfold Ph at h
 split at h
 rotate_left
 ·cases h
 rename_i hlen
 cases h
 unfold Ze Bd9
 have hL:=Asr (xs:=a0) (g:=fun m i r=>En m a0 i [] r) (ok:=fun r=>.inl ([],r,())) (bad:=.inr (false,[],())) (fun m i r hi=>by
   show En (m + 1) a0 i [] r=_
   simp only [En,Me]
   rw [Qv hi,Gt,wI (show i < 4611686018427387904 by omega),Eo]
   simp only [cond_true,Em,Lb,Bfc]
   rfl) (fun m r=>by
   show En (m + 1) a0 (a0.length:Int) [] r=_
   simp only [En,Me]
   rw [Jx]
   rfl) (Mc a0 0 [] []) 0 [] (by omega) (by simp [Mc,nI])
 rw [List.drop_zero] at hL
 refine Aae hL ?_
 show Bw _ _ (match Tl a0 zSs with | some st=>_ | none=>_)=_
 cases Tl a0 zSs<;>rfl
def Ab6 {R:Type} (k:Kt R):=(Bw (Ko (Ke 4) (.exit 0) 2 k) (Ko (Ke 4) .ret 1 k))
def Ak6 {R:Type}:Lt R Ke:=(E3 (pat:=Ke) 4 (fun d k=>(Ati d).bind (Ab6 k)) F8)
theorem Ah4:Ax Tryz.prog Ah3:=Ay ⟨Ap3,A3q,trivial⟩
theorem Atj {R:Type}:A4 Tryz.prog R 39 0 Ke Ak6 Ab5:=
 Cj (cfg:=⟨Ah3,0,39,Ke⟩) 4 [] (fun NX X d=>(u4 Ae) (Me  NX (fun e=>X (.inl (e))) (fun e=>X (.inr (e)))) d) (fun m d=>(u4 Ae) (En m) d) (fun d=>(u4 Ae) Mc d) Ab6 Ah4 trivial (fun f NX d=>by simp only [u4,Ab,Ae]; unfold Me; simp only [nb])
theorem A1x:Bm Tryz.prog 79 Ah2:=
 Aw (pat:=Ke) [Ab5] Ak6 Ah4 ⟨Atj,trivial⟩ Tryz.func79 (de:=fun x=>Ze x.1) (fun x r h=>A2 (A1w x.1) h) fun _=>by kernel_rfl
def Ap5 (a:Int) (d:Aa):Ny:=(false,a,d,())
def A3r:E5:=⟨[.rd tI,.rd .str],[none,none],[.rd P2],[some 3]⟩
def Aah:SD:=⟨A3r,fun x=>some (((Ap5 x.1 x.2.1),()),(()))⟩
def Ak7 (a0:Int) (a1:Aa):Option (((Ny×Unit)×(Unit))):=
 some (((false,a0,a1,()),()),())
theorem A3s (a0:Int) (a1:Aa):Ak7 a0 a1=some (((Ap5 a0 a1),()),(())):=rfl
theorem Ak8:Bm Tryz.prog 83 Aah:=
 Aw (pat:=Co) [] F8 (Ay (l:=[]) trivial) trivial Tryz.func83 (de:=fun x=>Ak7 x.1 x.2.1) (fun x r h=>(A3s x.1 x.2.1).trans h) fun _=>by kernel_rfl
def Zf (e:Aa) (life first w:Int):Option (List Aa):=if e.size≤1048576 then some (A0c e life first w) else none
def Ni (v1 v2 v3:Int) (v10:List Aa) (v11:Int) (r0:List Aa):Nat:=(nI v10.length - v11).toNat + 1
def Bag:E5:=⟨[.rd .str,.rd tI,.rd tI,.rd tI],[none,none,none,none],[.own 9 .str],[none]⟩
def Avf:SD:=⟨Bag,fun x=>(Zf x.1 x.2.1 x.2.2.1 x.2.2.2.1).bind fun r=>some ((r,()),(()))⟩
def Avg:Tb:=tb [(69,Dr),(82,Jg),(166,Vz)]
def Q0:Nat→Da×(Nat→Da):=Gs [(9,⟨[.row 9 0 9 .str,.sl 10 0 .str],[(1,.lf (.d tI)),(2,.lf (.d tI)),(3,.lf (.d tI)),(9,.lf (.row 0)),(10,.lf (.d (.sl .str))),(11,.lf (.d tI))],[.row 9 .str]⟩,[(2,⟨[.row 9 0 9 .str],[(9,.lf (.row 0))],[.row 9 .str]⟩)])]
def Ak9:Code:=(At (Bc Tryz.f130)).getD 0 .skip
def Pi {R:Type}  (NX:((Int)×(Int)×(Int)×(List Aa)×(Int)×(List Aa)×Unit)→Option R) (X2:((List Aa)×Unit)→Option R) (v1:Int) (v2:Int) (v3:Int) (v10:List Aa) (v11:Int) (r0:List Aa):Option R:=
 bif decide (v11 < nI v10.length) then bif v11==IntKind.i64.wrap (nI v10.length - 1) then bif decide (0≤v11) then bif decide (v11 < nI v10.length) then bif decide ((r0.length + [Dc (2,v1,IntKind.i64.wrap (v2 + v11),v10.getD v11.toNat (Ac),()) v3].length) * 16≤140737488355328) then NX (v1,v2,v3,v10,IntKind.i64.wrap (v11 + 1),r0++[Dc (2,v1,IntKind.i64.wrap (v2 + v11),v10.getD v11.toNat (Ac),()) v3],()) else none else none else none else bif decide (0≤v11) then bif decide (v11 < nI v10.length) then bif decide ((r0.length + [Dc (1,v1,IntKind.i64.wrap (v2 + v11),v10.getD v11.toNat (Ac),()) v3].length) * 16≤140737488355328) then NX (v1,v2,v3,v10,IntKind.i64.wrap (v11 + 1),r0++[Dc (1,v1,IntKind.i64.wrap (v2 + v11),v10.getD v11.toNat (Ac),()) v3],()) else none else none else none else X2 (r0,())
def F9:Nat→(Int)→(Int)→(Int)→(List Aa)→(Int)→(List Aa) →  Option ((List Aa)×Unit)
 | 0,_,_,_,_,_,_=>none
 | m + 1,v1,v2,v3,v10,v11,r0=>Pi  (fun d=>F9 m d.1 d.2.1 d.2.2.1 d.2.2.2.1 d.2.2.2.2.1 d.2.2.2.2.2.1) (fun d=>some (d)) v1 v2 v3 v10 v11 r0
def A3t (d:(Int)×(Int)×(Int)×(List Aa)×(Int)×(List Aa)×Unit):Option ((List Aa)×Unit):=(u4 (Ab (Ab Ae))) (F9 ((u4 (Ab (Ab Ae))) Ni d)) d
def Ah5 (a0:Aa) (a1 a2 a3:Int):Option ((((List Aa)×Unit)×(Unit))):=
 (Cw a3).bind fun val=>bif !val.1.1 then some (([],()),()) else bif decide (a1 < 1) then some (([],()),()) else bif decide (a1 > 60000) then some (([],()),()) else bif decide (a2 < 1) then some (([],()),()) else bif decide (a2 > 1000000000) then some (([],()),()) else ((J3 a0 a3).bind fun val=>some ((val,()),())).bind fun val=>bif decide (nI (List.length val.1.1) > IntKind.i64.wrap (IntKind.i64.wrap (1000000000 - a2) + 1)) then some (([],()),()) else ((fun d=>F9 (Ni d.1 d.2.1 d.2.2.1 d.2.2.2.1 d.2.2.2.2.1 d.2.2.2.2.2.1) d.1 d.2.1 d.2.2.1 d.2.2.2.1 d.2.2.2.2.1 d.2.2.2.2.2.1) (a1,a2,a3,val.1.1,0,[],())).bind fun val=>some (val,())
theorem Bah (a0:Aa) (a1 a2 a3:Int) r (h:Zf a0 a1 a2 a3=some r):Ah5 a0 a1 a2 a3=some ((r,()),(())):=by
 unfold Zf at h
 split at h
 rotate_left
 ·cases h
 rename_i hc
 cases h
 unfold Ah5 A0c
 refine d6 (wid a3) ?_
 rw [A0i a1]
 show (bif !Fg a3 1 8 then _ else (bif Fg a1 1 60000 then _ else _))=_
 cases hw:Fg a3 1 8 with
 | false=>rfl
 | true=>
  obtain ⟨k1,k2⟩:=Iu hw
  have hp:=Amg (s:=a0) hw
  have hP:Gy a0.size a3=((Dl a0 a3).length:Int):=by unfold Gy; rw [hw]; exact hp.symm
  have hlen:(Dl a0 a3).length≤a0.size + 1:=Ag2 _ _ _
  have h1:1≤(Dl a0 a3).length:=by
   have:(1:Int)≤((Dl a0 a3).length:Int):=by rw [hp]; split<;>omega
   omega
  have n1:J3 a0 a3=some (Dl a0 a3):=if_pos ⟨by omega,k1,k2⟩
  rw [hP]
  cases hl:Fg a1 1 60000 with
  | false=>rfl
  | true=>
   by_cases q1:a2 < 1
   ·rw [Ap q1,Bd (show ¬ 1≤a2 by omega)]; rfl
   ·rw [Bd q1,Ap (show 1≤a2 by omega)]
    by_cases q0:a2 > 1000000000
    ·rw [Ap q0,Bd (show ¬ a2≤1000000000 - ((Dl a0 a3).length:Int) + 1 by omega)]; rfl
    ·rw [Bd q0]
     refine d6 (d6 n1 rfl) ?_
     show (bif decide (nI (Dl a0 a3).length > IntKind.i64.wrap (IntKind.i64.wrap (1000000000 - a2) + 1)) then _ else (Option.bind (F9 (Ni a1 a2 a3 (Dl a0 a3) 0 []) a1 a2 a3 (Dl a0 a3) 0 []) _))=_
     rw [Aj (n:=1000000000 - a2) (by omega) (by omega),Aj (n:=1000000000 - a2 + 1) (by omega) (by omega)]
     simp only [nI]
     by_cases q2:a2 > 1000000000 - ((Dl a0 a3).length:Int) + 1
     ·rw [Ap (show ((Dl a0 a3).length:Int) > 1000000000 - a2 + 1 by omega),Bd (show ¬ a2≤1000000000 - ((Dl a0 a3).length:Int) + 1 by omega)]; rfl
     ·rw [Bd (show ¬ ((Dl a0 a3).length:Int) > 1000000000 - a2 + 1 by omega),Ap (show a2≤1000000000 - ((Dl a0 a3).length:Int) + 1 by omega)]
      generalize Dl a0 a3=P at *
      have hL:=Ajs P.length (fun i r=>r.length=i) (fun i r=>r++[E7 ((if i + 1=P.length then 2 else 1),a1,a2 + (i:Int),P.getD i z0,()) a3]) (g:=fun m i r=>F9 m a1 a2 a3 P i r) (ok:=fun r=>(r,())) (fun m i r hi hr=>by
       show F9 (m + 1) a1 a2 a3 P i r=_
       simp only [F9,Pi]
       rw [Qv hi,Gt,wI (show i < 4611686018427387904 by omega),Eo,Aj (n:=a2 + (i:Int)) (by omega) (by omega),Aj (n:=nI P.length - 1) (by simp only [nI]; omega) (by simp only [nI]; omega),Nz,Nz,Ap (show (r.length + 1) * 16≤140737488355328 by omega)]
       by_cases e:i + 1=P.length
       ·rw [show ((i:Int)==nI P.length - 1)=true from beq_iff_eq.2 (by simp only [nI]; omega),if_pos e]; rfl
       ·rw [show ((i:Int)==nI P.length - 1)=false from beq_eq_false_iff_ne.2 (by simp only [nI]; omega),if_neg e]; rfl) (fun m r _=>by
       show F9 (m + 1) a1 a2 a3 P (P.length:Int) r=_
       simp only [F9,Pi]
       rw [Jx]
       rfl) (fun i r hi hr=>by rw [Lw,Nz,hr]) P.length (Ni a1 a2 a3 P 0 []) 0 [] (by omega) (by simp only [Ni,nI]; omega) rfl
      rw [A5m (fun i=>E7 ((if i + 1=P.length then 2 else 1),a1,a2 + (i:Int),P.getD i z0,()) a3),List.nil_append,← Ag1] at hL
      exact d6 hL rfl
def Ala {R:Type} (k:Kt R):=(Ko (Q0 9) (.exit 0) 2 k)
def A1y {R:Type}:Lt R Q0:=(E3 (pat:=Q0) 9 (fun d k=>(A3t d).bind (Ala k)) F8)
theorem Avh:Ax Tryz.prog Avg:=Ay ⟨Eb,L8,Aex,trivial⟩
theorem A3u {R:Type}:A4 Tryz.prog R 71 0 Q0 A1y Ak9:=
 Cj (cfg:=⟨Avg,0,71,Q0⟩) 9 [] (fun NX X d=>(u4 (Ab (Ab Ae))) (Pi  NX X) d) (fun m d=>(u4 (Ab (Ab Ae))) (F9 m) d) (fun d=>(u4 (Ab (Ab Ae))) Ni d) Ala Avh trivial (fun f NX d=>by simp only [u4,Ab,Ae]; unfold Pi; simp only [nb])
theorem Bai:Bm Tryz.prog 130 Avf:=
 Aw (pat:=Q0) [Ak9] A1y Avh ⟨A3u,trivial⟩ Tryz.func130 (de:=fun x=>Ah5 x.1 x.2.1 x.2.2.1 x.2.2.2.1) (fun x r h=>A2 (Bah x.1 x.2.1 x.2.2.1 x.2.2.2.1) h) fun _=>by kernel_rfl
def Pj (s:Ls):Option Don:=if A61 s then some (Au6 s) else none
def A1z:E5:=⟨[.rd Il],[some 10],[.rd tI,.rd tI,.rd tI,.rd tI,.rd tI,.rd tI,.rd tI,.rd tI,.rd tI,.rd tI,.own 136 Aq,.own 103 P2],[some 12]⟩
def Ah6:SD:=⟨A1z,fun x=>(Pj x.1).bind fun r=>some ((r.1,r.2.1.1,r.2.1.2.1,r.2.1.2.2.1,r.2.1.2.2.2.1.1,r.2.1.2.2.2.1.2.1,r.2.1.2.2.2.1.2.2.1,r.2.1.2.2.2.1.2.2.2.1,r.2.1.2.2.2.2.1,r.2.1.2.2.2.2.2.1,r.2.1.2.2.2.2.2.2.1.1,r.2.2.1,()),(()))⟩
def Zg:Tb:=tb [(27,R1),(75,N8),(78,Y9),(82,Jg),(83,Aah),(127,Tp),(129,Nq),(130,Avf),(131,Tx)]
def E8:Nat→Da×(Nat→Da):=Gs [(11,⟨[.row 6 0 103 P2,.sl 7 0 (.sl Ff),.boxSl 1 9 Aq,.boxRow 2 10 136 Aq,.boxRow 2 11 103 P2],[(1,.lf (.ptr 0 0)),(2,.lf (.ptr 1 0)),(4,.lf (.ptr 2 0)),(5,.lf (.d tI)),(6,.lf (.row 3)),(7,.lf (.d (.sl (.sl Ff)))),(8,.lf (.d tI)),(9,.lf (.d tI))],[.box 47 [.d Il],.box 77 [.d tI,.d tI,.d tI,.d tI,.d tI,.d tI,.d tI,.d tI,.d tI,.d tI,.row 4,.row 5],.box 45 [.d yRt],.row 103 P2,.row 136 Aq,.row 103 P2]⟩,[(2,⟨[.row 6 0 103 P2,.boxSl 1 9 Aq,.boxRow 2 10 136 Aq,.boxRow 2 11 103 P2],[(1,.lf (.ptr 0 0)),(2,.lf (.ptr 1 0)),(4,.lf (.ptr 2 0)),(6,.lf (.row 3)),(8,.lf (.d tI))],[.box 47 [.d Il],.box 77 [.d tI,.d tI,.d tI,.d tI,.d tI,.d tI,.d tI,.d tI,.d tI,.d tI,.row 4,.row 5],.box 45 [.d yRt],.row 103 P2,.row 136 Aq,.row 103 P2]⟩)]),(15,⟨[.row 6 0 103 P2,.sl 7 0 (.sl Ff),.sl 10 0 .str,.boxSl 1 9 Aq,.boxRow 2 10 136 Aq,.boxRow 2 11 103 P2],[(1,.lf (.ptr 0 0)),(2,.lf (.ptr 1 0)),(4,.lf (.ptr 2 0)),(5,.lf (.d tI)),(6,.lf (.row 3)),(7,.lf (.d (.sl (.sl Ff)))),(8,.lf (.d tI)),(9,.lf (.d tI)),(10,.lf (.d (.sl .str))),(11,.lf (.d tI))],[.box 47 [.d Il],.box 77 [.d tI,.d tI,.d tI,.d tI,.d tI,.d tI,.d tI,.d tI,.d tI,.d tI,.row 4,.row 5],.box 45 [.d yRt],.row 103 P2,.row 136 Aq,.row 103 P2]⟩,[(4,⟨[.row 6 0 103 P2,.sl 7 0 (.sl Ff),.boxSl 1 9 Aq,.boxRow 2 10 136 Aq,.boxRow 2 11 103 P2],[(1,.lf (.ptr 0 0)),(2,.lf (.ptr 1 0)),(4,.lf (.ptr 2 0)),(5,.lf (.d tI)),(6,.lf (.row 3)),(7,.lf (.d (.sl (.sl Ff)))),(8,.lf (.d tI)),(9,.lf (.d tI))],[.box 47 [.d Il],.box 77 [.d tI,.d tI,.d tI,.d tI,.d tI,.d tI,.d tI,.d tI,.d tI,.d tI,.row 4,.row 5],.box 45 [.d yRt],.row 103 P2,.row 136 Aq,.row 103 P2]⟩)])]
def R2:Code:=(At (Bc Tryz.f81)).getD 0 .skip
def m9:Code:=(At R2).getD 0 .skip
def Lc (v5:Int) (v7:List (List Bq)) (v8 v9:Int) (v10:List Aa) (v11:Int) (b0:Ls) (b1_0 b1_1:Int) (b1_2 b1_3:Int) (b1_4 b1_5:Int) (b1_6 b1_7:Int) (b1_8 b1_9:Int) (b2:Rt) (r3:List Ny) (r4:List Ar) (r5:List Ny):Nat:=((v10.length:Int) - v11).toNat + 1
def Ld {R:Type}  (NX:((Int)×(List (List Bq))×(Int)×(Int)×(List Aa)×(Int)×Ls×(Int)×(Int)×(Int)×(Int)×(Int)×(Int)×(Int)×(Int)×(Int)×(Int)×Rt×(List Ny)×(List Ar)×(List Ny)×Unit)→Option R) (X4:((Int)×(List (List Bq))×(Int)×(Int)×Ls×(Int)×(Int)×(Int)×(Int)×(Int)×(Int)×(Int)×(Int)×(Int)×(Int)×Rt×(List Ny)×(List Ar)×(List Ny)×Unit)→Option R) (v5:Int) (v7:List (List Bq)) (v8:Int) (v9:Int) (v10:List Aa) (v11:Int) (b0:Ls) (b1_0:Int) (b1_1:Int) (b1_2:Int) (b1_3:Int) (b1_4:Int) (b1_5:Int) (b1_6:Int) (b1_7:Int) (b1_8:Int) (b1_9:Int) (b2:Rt) (r3:List Ny) (r4:List Ar) (r5:List Ny):Option R:=
 bif decide (v11 < nI v10.length) then bif decide (0≤v11) then bif decide (v11 < nI v10.length) then bif decide ((r3.length + [(false,IntKind.i64.wrap (v5 + v8),v10.getD v11.toNat (Ac),())].length) * 32≤140737488355328) then NX (v5,v7,IntKind.i64.wrap (v8 + 1),v9,v10,IntKind.i64.wrap (v11 + 1),b0,b1_0,b1_1,b1_2,b1_3,b1_4,b1_5,b1_6,b1_7,b1_8,b1_9,b2,r3++[(false,IntKind.i64.wrap (v5 + v8),v10.getD v11.toNat (Ac),())],r4,r5,()) else none else none else none else X4 (v5,v7,v8,v9,b0,b1_0,b1_1,b1_2,b1_3,b1_4,b1_5,b1_6,b1_7,b1_8,b1_9,b2,r3,r4,r5,())
def Dz:Nat→(Int)→(List (List Bq))→(Int)→(Int)→(List Aa)→(Int)→Ls→(Int)→(Int)→(Int)→(Int)→(Int)→(Int)→(Int)→(Int)→(Int)→(Int)→Rt→(List Ny)→(List Ar)→(List Ny) →  Option ((Int)×(List (List Bq))×(Int)×(Int)×Ls×(Int)×(Int)×(Int)×(Int)×(Int)×(Int)×(Int)×(Int)×(Int)×(Int)×Rt×(List Ny)×(List Ar)×(List Ny)×Unit)
 | 0,_,_,_,_,_,_,_,_,_,_,_,_,_,_,_,_,_,_,_,_,_=>none
 | m + 1,v5,v7,v8,v9,v10,v11,b0,b1_0,b1_1,b1_2,b1_3,b1_4,b1_5,b1_6,b1_7,b1_8,b1_9,b2,r3,r4,r5=>Ld  (fun d=>Dz m d.1 d.2.1 d.2.2.1 d.2.2.2.1 d.2.2.2.2.1 d.2.2.2.2.2.1 d.2.2.2.2.2.2.1 d.2.2.2.2.2.2.2.1 d.2.2.2.2.2.2.2.2.1 d.2.2.2.2.2.2.2.2.2.1 d.2.2.2.2.2.2.2.2.2.2.1 d.2.2.2.2.2.2.2.2.2.2.2.1 d.2.2.2.2.2.2.2.2.2.2.2.2.1 d.2.2.2.2.2.2.2.2.2.2.2.2.2.1 d.2.2.2.2.2.2.2.2.2.2.2.2.2.2.1 d.2.2.2.2.2.2.2.2.2.2.2.2.2.2.2.1 d.2.2.2.2.2.2.2.2.2.2.2.2.2.2.2.2.1 d.2.2.2.2.2.2.2.2.2.2.2.2.2.2.2.2.2.1 d.2.2.2.2.2.2.2.2.2.2.2.2.2.2.2.2.2.2.1 d.2.2.2.2.2.2.2.2.2.2.2.2.2.2.2.2.2.2.2.1 d.2.2.2.2.2.2.2.2.2.2.2.2.2.2.2.2.2.2.2.2.1) (fun d=>some (d)) v5 v7 v8 v9 v10 v11 b0 b1_0 b1_1 b1_2 b1_3 b1_4 b1_5 b1_6 b1_7 b1_8 b1_9 b2 r3 r4 r5
def Le (d:(Int)×(List (List Bq))×(Int)×(Int)×(List Aa)×(Int)×Ls×(Int)×(Int)×(Int)×(Int)×(Int)×(Int)×(Int)×(Int)×(Int)×(Int)×Rt×(List Ny)×(List Ar)×(List Ny)×Unit):Option ((Int)×(List (List Bq))×(Int)×(Int)×Ls×(Int)×(Int)×(Int)×(Int)×(Int)×(Int)×(Int)×(Int)×(Int)×(Int)×Rt×(List Ny)×(List Ar)×(List Ny)×Unit):=(u4 (u4 (u4 (u4 (u4 (Ab Ae)))))) (Dz ((u4 (u4 (u4 (u4 (u4 (Ab Ae)))))) Lc d)) d
def If (v5:Int) (v7:List (List Bq)) (v8 v9:Int) (b0:Ls) (b1_0 b1_1:Int) (b1_2 b1_3:Int) (b1_4 b1_5:Int) (b1_6 b1_7:Int) (b1_8 b1_9:Int) (b2:Rt) (r3:List Ny) (r4:List Ar) (r5:List Ny):Nat:=((v7.length:Int) - v9).toNat + 1
def Lg {R:Type} (LO15:((Int)×(List (List Bq))×(Int)×(Int)×(List Aa)×(Int)×Ls×(Int)×(Int)×(Int)×(Int)×(Int)×(Int)×(Int)×(Int)×(Int)×(Int)×Rt×(List Ny)×(List Ar)×(List Ny)×Unit)→Option ((Int)×(List (List Bq))×(Int)×(Int)×Ls×(Int)×(Int)×(Int)×(Int)×(Int)×(Int)×(Int)×(Int)×(Int)×(Int)×Rt×(List Ny)×(List Ar)×(List Ny)×Unit)) (NX:((Int)×(List (List Bq))×(Int)×(Int)×Ls×(Int)×(Int)×(Int)×(Int)×(Int)×(Int)×(Int)×(Int)×(Int)×(Int)×Rt×(List Ny)×(List Ar)×(List Ny)×Unit)→Option R) (X2:((Int)×Ls×(Int)×(Int)×(Int)×(Int)×(Int)×(Int)×(Int)×(Int)×(Int)×(Int)×Rt×(List Ny)×(List Ar)×(List Ny)×Unit)→Option R) (v5:Int) (v7:List (List Bq)) (v8 v9:Int) (b0:Ls) (b1_0 b1_1:Int) (b1_2 b1_3:Int) (b1_4 b1_5:Int) (b1_6 b1_7:Int) (b1_8 b1_9:Int) (b2:Rt) (r3:List Ny) (r4:List Ar) (r5:List Ny):Option R:=
 bif decide (v9 < nI v7.length) then bif decide (0≤v9) then bif decide (v9 < nI v7.length) then ((Zf (F4 (v7.getD v9.toNat [])) b0.2.2.1 (IntKind.i64.wrap (b2.2.2.1 + v8)) b0.1).bind fun val=>some ((val,()),())).bind fun val=>(LO15 (v5,v7,v8,v9,val.1.1,0,b0,b1_0,b1_1,b1_2,b1_3,b1_4,b1_5,b1_6,b1_7,b1_8,b1_9,b2,r3,r4,r5,())).bind fun val=>NX (val.1,val.2.1,val.2.2.1,IntKind.i64.wrap (val.2.2.2.1 + 1),val.2.2.2.2) else none else none else X2 (v8,b0,b1_0,b1_1,b1_2,b1_3,b1_4,b1_5,b1_6,b1_7,b1_8,b1_9,b2,r3,r4,r5,())
def Di:Nat→(Int)→(List (List Bq))→(Int)→(Int)→Ls→(Int)→(Int)→(Int)→(Int)→(Int)→(Int)→(Int)→(Int)→(Int)→(Int)→Rt→(List Ny)→(List Ar)→(List Ny) →  Option ((Int)×Ls×(Int)×(Int)×(Int)×(Int)×(Int)×(Int)×(Int)×(Int)×(Int)×(Int)×Rt×(List Ny)×(List Ar)×(List Ny)×Unit)
 | 0,_,_,_,_,_,_,_,_,_,_,_,_,_,_,_,_,_,_,_=>none
 | m + 1,v5,v7,v8,v9,b0,b1_0,b1_1,b1_2,b1_3,b1_4,b1_5,b1_6,b1_7,b1_8,b1_9,b2,r3,r4,r5=>Lg Le (fun d=>Di m d.1 d.2.1 d.2.2.1 d.2.2.2.1 d.2.2.2.2.1 d.2.2.2.2.2.1 d.2.2.2.2.2.2.1 d.2.2.2.2.2.2.2.1 d.2.2.2.2.2.2.2.2.1 d.2.2.2.2.2.2.2.2.2.1 d.2.2.2.2.2.2.2.2.2.2.1 d.2.2.2.2.2.2.2.2.2.2.2.1 d.2.2.2.2.2.2.2.2.2.2.2.2.1 d.2.2.2.2.2.2.2.2.2.2.2.2.2.1 d.2.2.2.2.2.2.2.2.2.2.2.2.2.2.1 d.2.2.2.2.2.2.2.2.2.2.2.2.2.2.2.1 d.2.2.2.2.2.2.2.2.2.2.2.2.2.2.2.2.1 d.2.2.2.2.2.2.2.2.2.2.2.2.2.2.2.2.2.1 d.2.2.2.2.2.2.2.2.2.2.2.2.2.2.2.2.2.2.1) (fun d=>some (d)) v5 v7 v8 v9 b0 b1_0 b1_1 b1_2 b1_3 b1_4 b1_5 b1_6 b1_7 b1_8 b1_9 b2 r3 r4 r5
def Ap6 (d:(Int)×(List (List Bq))×(Int)×(Int)×Ls×(Int)×(Int)×(Int)×(Int)×(Int)×(Int)×(Int)×(Int)×(Int)×(Int)×Rt×(List Ny)×(List Ar)×(List Ny)×Unit):Option ((Int)×Ls×(Int)×(Int)×(Int)×(Int)×(Int)×(Int)×(Int)×(Int)×(Int)×(Int)×Rt×(List Ny)×(List Ar)×(List Ny)×Unit):=(u4 (u4 (u4 (u4 (Ab (Ab (Ab Ae))))))) (Di ((u4 (u4 (u4 (u4 (Ab (Ab (Ab Ae))))))) If d)) d
def Zh (a0:Ls):Option ((((Int)×(Int)×(Int)×(Int)×(Int)×(Int)×(Int)×(Int)×(Int)×(Int)×(List Ar)×(List Ny)×Unit)×(Unit))):=
 bif decide (IntKind.i64.wrap (a0.2.2.2.1.1 + 1) > 1000000000) then some ((4,0,0,0,0,0,0,0,0,0,[],[],()),()) else bif decide (IntKind.i64.wrap (a0.2.2.2.1.2.2.1 + A7 a0.2.1) > 999999000) then some ((4,0,0,0,0,0,0,0,0,0,[],[],()),()) else ((fun d=>Di (If d.1 d.2.1 d.2.2.1 d.2.2.2.1 d.2.2.2.2.1 d.2.2.2.2.2.1 d.2.2.2.2.2.2.1 d.2.2.2.2.2.2.2.1 d.2.2.2.2.2.2.2.2.1 d.2.2.2.2.2.2.2.2.2.1 d.2.2.2.2.2.2.2.2.2.2.1 d.2.2.2.2.2.2.2.2.2.2.2.1 d.2.2.2.2.2.2.2.2.2.2.2.2.1 d.2.2.2.2.2.2.2.2.2.2.2.2.2.1 d.2.2.2.2.2.2.2.2.2.2.2.2.2.2.1 d.2.2.2.2.2.2.2.2.2.2.2.2.2.2.2.1 d.2.2.2.2.2.2.2.2.2.2.2.2.2.2.2.2.1 d.2.2.2.2.2.2.2.2.2.2.2.2.2.2.2.2.2.1 d.2.2.2.2.2.2.2.2.2.2.2.2.2.2.2.2.2.2.1) d.1 d.2.1 d.2.2.1 d.2.2.2.1 d.2.2.2.2.1 d.2.2.2.2.2.1 d.2.2.2.2.2.2.1 d.2.2.2.2.2.2.2.1 d.2.2.2.2.2.2.2.2.1 d.2.2.2.2.2.2.2.2.2.1 d.2.2.2.2.2.2.2.2.2.2.1 d.2.2.2.2.2.2.2.2.2.2.2.1 d.2.2.2.2.2.2.2.2.2.2.2.2.1 d.2.2.2.2.2.2.2.2.2.2.2.2.2.1 d.2.2.2.2.2.2.2.2.2.2.2.2.2.2.1 d.2.2.2.2.2.2.2.2.2.2.2.2.2.2.2.1 d.2.2.2.2.2.2.2.2.2.2.2.2.2.2.2.2.1 d.2.2.2.2.2.2.2.2.2.2.2.2.2.2.2.2.2.1 d.2.2.2.2.2.2.2.2.2.2.2.2.2.2.2.2.2.2.1) (B0 a0.2.1 (IntKind.i64.wrap (1 - a0.2.2.2.1.2.1)),Ku a0.2.2.2.2.2.2.1,1,0,a0,0,0,0,0,0,0,0,0,0,0,(IntKind.i64.wrap (a0.2.2.2.1.1 + 1),IntKind.i64.wrap (1 - a0.2.2.2.1.2.1),IntKind.i64.wrap (a0.2.2.2.1.2.2.1 + A7 a0.2.1),a0.2.2.1,()),[(false,B0 a0.2.1 (IntKind.i64.wrap (1 - a0.2.2.2.1.2.1)),Dc (3,a0.2.2.1,IntKind.i64.wrap (a0.2.2.2.1.2.2.1 + A7 a0.2.1),Ac,()) a0.1,())],[],[],())).bind fun val=>bif decide ((val.2.2.2.2.2.2.2.2.2.2.2.2.2.1.length + [(true,0,Ac,()),(false,Int.tmod val.2.2.2.2.2.2.2.2.2.2.2.2.1.1 2,Ip val.2.2.2.2.2.2.2.2.2.2.2.2.1 val.2.1.1,()),(true,0,Ac,())].length) * 32≤140737488355328) then ((Hn val.2.1.2.2.2.2.2.2.1).bind fun val=>some (val,())).bind fun val_1=>some ((0,val.2.1.1,val.2.1.2.1,val.2.1.2.2.1,val.2.2.2.2.2.2.2.2.2.2.2.2.1.1,val.2.2.2.2.2.2.2.2.2.2.2.2.1.2.1,val.2.2.2.2.2.2.2.2.2.2.2.2.1.2.2.1,val.2.2.2.2.2.2.2.2.2.2.2.2.1.2.2.2.1,val.1,0,val_1.1.1,val.2.2.2.2.2.2.2.2.2.2.2.2.2.1++[(true,0,Ac,()),(false,Int.tmod val.2.2.2.2.2.2.2.2.2.2.2.2.1.1 2,Ip val.2.2.2.2.2.2.2.2.2.2.2.2.1 val.2.1.1,()),(true,0,Ac,())],()),()) else none
theorem Baj (s:Ls) (R:Rt) (S:List (List Bq)) (v9:Int) (L0 P:List Aa) (hH:0≤R.2.1∧R.2.1≤1) (hL0:L0.length≤500000) (hP:P.length≤4001):
  Dz (Lc (Ck R.2.1 s.2.1) S (nI L0.length) v9 P 0 s 0 0 0 0 0 0 0 0 0 0 R (Lq (Ck R.2.1 s.2.1) L0) [] []) (Ck R.2.1 s.2.1) S (nI L0.length) v9 P 0 s 0 0 0 0 0 0 0 0 0 0 R (Lq (Ck R.2.1 s.2.1) L0) [] []=some (Ck R.2.1 s.2.1,S,nI (L0++P).length,v9,s,0,0,0,0,0,0,0,0,0,0,R,Lq (Ck R.2.1 s.2.1) (L0++P),[],[],()):=by
 have hm:=Ayr (n:=s.2.1) hH
 have hB:0≤Ck R.2.1 s.2.1∧Ck R.2.1 s.2.1≤101:=by unfold Ck; omega
 have hL:=G4 (xs:=P) z0 (fun i (L:List Aa)=>i≤4001∧L.length=L0.length + i) (fun (_:Nat) x L=>L++[x]) (g:=fun m i L=>Dz m (Ck R.2.1 s.2.1) S (nI L.length) v9 P i s 0 0 0 0 0 0 0 0 0 0 R (Lq (Ck R.2.1 s.2.1) L) [] []) (ok:=fun L=>(Ck R.2.1 s.2.1,S,nI L.length,v9,s,0,0,0,0,0,0,0,0,0,0,R,Lq (Ck R.2.1 s.2.1) L,[],[],())) (fun m i L hi hI=>by
   show Dz (m + 1) (Ck R.2.1 s.2.1) S (nI L.length) v9 P i s 0 0 0 0 0 0 0 0 0 0 R (Lq (Ck R.2.1 s.2.1) L) [] []=_
   simp only [Dz,Ld]
   obtain ⟨h1,h2⟩:=hI
   have e1:IntKind.i64.wrap (nI L.length + 1)=nI (L.length + 1):=wI (show L.length < 4611686018427387904 by omega)
   have e2:IntKind.i64.wrap (Ck R.2.1 s.2.1 + nI L.length)=Ck R.2.1 s.2.1 + (L.length:Int):=by simp only [nI]; exact Aj (by omega) (by omega)
   rw [Qv hi,Gt,wI (show i < 4611686018427387904 by omega),Eo,e1,e2,Nz,Ajv,Ap (show (L.length + 1) * 32≤140737488355328 by omega),A5o,Lw,Nz]
   rfl) (fun i L hi hI=>⟨by omega,by rw [Lw,Nz,hI.2]; omega⟩) (fun m L hI=>by
   show Dz (m + 1) (Ck R.2.1 s.2.1) S (nI L.length) v9 P (P.length:Int) s 0 0 0 0 0 0 0 0 0 0 R (Lq (Ck R.2.1 s.2.1) L) [] []=_
   simp only [Dz,Ld]
   rw [Jx]
   rfl) (Lc (Ck R.2.1 s.2.1) S (nI L0.length) v9 P 0 s 0 0 0 0 0 0 0 0 0 0 R (Lq (Ck R.2.1 s.2.1) L0) [] []) 0 L0 (by omega) (by simp [Lc,nI]) ⟨by omega,rfl⟩
 rw [A0p,List.drop_zero] at hL
 exact hL
theorem Bak (s:Ls) (R:Rt) (S:List (List Bq)) (L:List Aa) (hS:S.length≤101) (hH:0≤R.2.1∧R.2.1≤1) (hF:0≤R.2.2.1∧R.2.2.1≤1000000099) (hL:L.length≤1):
  Di (If (Ck R.2.1 s.2.1) S (nI L.length) 0 s 0 0 0 0 0 0 0 0 0 0 R (Lq (Ck R.2.1 s.2.1) L) [] []) (Ck R.2.1 s.2.1) S (nI L.length) 0 s 0 0 0 0 0 0 0 0 0 0 R (Lq (Ck R.2.1 s.2.1) L) [] []=some (nI (Gu (fun _ b L=>Adt s.1 s.2.2.1 R.2.2.1 b L) 0 S L).length,s,0,0,0,0,0,0,0,0,0,0,R,Lq (Ck R.2.1 s.2.1) (Gu (fun _ b L=>Adt s.1 s.2.2.1 R.2.2.1 b L) 0 S L),[],[],()):=by
 have hL:=G4 (xs:=S) [] MvI (fun _ b L=>Adt s.1 s.2.2.1 R.2.2.1 b L) (g:=fun m i L=>Di m (Ck R.2.1 s.2.1) S (nI L.length) i s 0 0 0 0 0 0 0 0 0 0 R (Lq (Ck R.2.1 s.2.1) L) [] []) (ok:=fun L=>(nI L.length,s,0,0,0,0,0,0,0,0,0,0,R,Lq (Ck R.2.1 s.2.1) L,[],[],())) (fun m i L hi hI=>by
   show Di (m + 1) (Ck R.2.1 s.2.1) S (nI L.length) i s 0 0 0 0 0 0 0 0 0 0 R (Lq (Ck R.2.1 s.2.1) L) [] []=_
   simp only [Di,Lg,Le,u4,Ab,Ae]
   obtain ⟨h1,h2⟩:=hI
   rw [Qv hi,Gt,Eo]
   have e0:IntKind.i64.wrap (R.2.2.1 + nI L.length)=R.2.2.1 + (L.length:Int):=by simp only [nI]; exact Aj (by omega) (by omega)
   have e1:Zf (F4 (List.getD S i [])) s.2.2.1 (R.2.2.1 + (L.length:Int)) s.1=some (A0c (Hu (List.getD S i [])) s.2.2.1 (R.2.2.1 + (L.length:Int)) s.1):=if_pos (Nat.le_trans (P7 _) (by decide))
   rw [e0,e1]
   simp only [cond_true,Option.bind_some]
   refine Aae (Baj s R S (i:Int) L (A0c (Hu (List.getD S i [])) s.2.2.1 (R.2.2.1 + (L.length:Int)) s.1) hH (by omega) (A62 _ _ _ _)) ?_
   dsimp only
   rw [wI (show i < 4611686018427387904 by omega)]
   rfl) (fun i L hi hI=>hI.step (by omega) _ _ _ _) (fun m L hI=>by
   show Di (m + 1) (Ck R.2.1 s.2.1) S (nI L.length) (S.length:Int) s 0 0 0 0 0 0 0 0 0 0 R (Lq (Ck R.2.1 s.2.1) L) [] []=_
   simp only [Di,Lg,Le,u4,Ab,Ae]
   rw [Jx]
   rfl) (If (Ck R.2.1 s.2.1) S (nI L.length) 0 s 0 0 0 0 0 0 0 0 0 0 R (Lq (Ck R.2.1 s.2.1) L) [] []) 0 L (by omega) (by simp [If,nI]) ⟨by omega,by omega⟩
 exact hL
theorem A10 (a0:Ls) r (h:Pj a0=some r):Zh a0=some ((r.1,r.2.1.1,r.2.1.2.1,r.2.1.2.2.1,r.2.1.2.2.2.1.1,r.2.1.2.2.2.1.2.1,r.2.1.2.2.2.1.2.2.1,r.2.1.2.2.2.1.2.2.2.1,r.2.1.2.2.2.2.1,r.2.1.2.2.2.2.2.1,r.2.1.2.2.2.2.2.2.1.1,r.2.2.1,()),(())):=by
 unfold Pj at h
 split at h
 rotate_left
 ·cases h
 rename_i hk
 cases h
 obtain ⟨⟨t0,t1⟩,⟨h0,h1⟩,⟨f0,f1⟩,hp⟩:=hk
 have hh:=Qx a0.2.1
 unfold Zh Au6 Apa
 simp only [A7,Ku,Dc,Ip]
 show (bif decide (IntKind.i64.wrap (a0.2.2.2.1.1 + 1) > 1000000000) then _ else bif decide (IntKind.i64.wrap (a0.2.2.2.1.2.2.1 + Au a0.2.1) > 999999000) then _ else _)=_
 rw [Aj (n:=a0.2.2.2.1.1 + 1) (by omega) (by omega),Aj (n:=a0.2.2.2.1.2.2.1 + Au a0.2.1) (by omega) (by omega),Aj (n:=1 - a0.2.2.2.1.2.1) (by omega) (by omega)]
 cases hc1:decide (a0.2.2.2.1.1 + 1 > 1000000000) with
 | true=>rfl
 | false=>
  cases hc2:decide (a0.2.2.2.1.2.2.1 + Au a0.2.1 > 999999000) with
  | true=>rfl
  | false=>
   simp only [cond_false]
   have hm:=Ayr (n:=a0.2.1) (show 0≤1 - a0.2.2.2.1.2.1∧1 - a0.2.2.2.1.2.1≤1 by omega)
   have e0:B0 a0.2.1 (1 - a0.2.2.2.1.2.1)=Ck (1 - a0.2.2.2.1.2.1) a0.2.1:=by
    show IntKind.i64.wrap (2 + IntKind.i64.wrap ((1 - a0.2.2.2.1.2.1) * Au a0.2.1))=2 + (1 - a0.2.2.2.1.2.1) * Au a0.2.1
    rw [Aj (n:=(1 - a0.2.2.2.1.2.1) * Au a0.2.1) (by omega) (by omega),Aj (by omega) (by omega)]
   rw [e0]
   have hL1:=Bak a0 ((a0.2.2.2.1.1 + 1),(1 - a0.2.2.2.1.2.1),(a0.2.2.2.1.2.2.1 + Au a0.2.1),a0.2.2.1,()) (Eh a0.2.2.2.2.2.2.1) [E7 (3,a0.2.2.1,a0.2.2.2.1.2.2.1 + Au a0.2.1,z0,()) a0.1] (Xs _) ⟨by dsimp only; omega,by dsimp only; omega⟩ ⟨by dsimp only; omega,by dsimp only; omega⟩ (Nat.le_refl 1)
   have hl:=A63 a0 a0.2.2.1
   have e1:Hn (a0.2.2.2.2.2.2.1.1,())=some (a0.2.2.2.2.2.2.1.1,()):=if_pos hp
   have e2:decide (((Lq (Ck (1 - a0.2.2.2.1.2.1) a0.2.1) (mvL a0 a0.2.2.1)).length + 3) * 32≤140737488355328)=true:=Ap (by rw [Ajv]; omega)
   refine Aae hL1 ?_
   dsimp only
   simp only [List.length_cons,List.length_nil,Nat.zero_add,Nat.reduceAdd]
   refine (congrArg (fun c=>bif c then _ else none) e2).trans ?_
   simp only [cond_true]
   rw [e1]
   rfl
def n0 {R:Type} (k:Kt R):=(Ko (E8 11) (.exit 0) 2 k)
def n5 {R:Type} (k:Kt R):=(Ko (E8 15) (.exit 2) 4 k)
def Aai {R:Type}:Lt R E8:=(E3 (pat:=E8) 11 (fun d k=>(Ap6 d).bind (n0 k)) (E3 (pat:=E8) 15 (fun d k=>(Le d).bind (n5 k)) F8))
theorem Zi:Ax Tryz.prog Zg:=Ay ⟨Zb,Rs,Ah1,L8,Ak8,Abk,Rx,Bai,Abx,trivial⟩
theorem Ap7 {R:Type}:A4 Tryz.prog R 125 0 E8 Aai m9:=
 Cj (cfg:=⟨Zg,0,125,E8⟩) 15 [] (fun NX X d=>(u4 (u4 (u4 (u4 (u4 (Ab Ae)))))) (Ld  NX X) d) (fun m d=>(u4 (u4 (u4 (u4 (u4 (Ab Ae)))))) (Dz m) d) (fun d=>(u4 (u4 (u4 (u4 (u4 (Ab Ae)))))) Lc d) n5 Zi trivial (fun f NX d=>by simp only [u4,Ab,Ae]; unfold Ld; simp only [nb])
theorem Ap8 {R:Type}:A4 Tryz.prog R 125 0 E8 Aai R2:=
 Cj (cfg:=⟨Zg,0,125,E8⟩) 11 [m9] (fun NX X d=>(u4 (u4 (u4 (u4 (Ab (Ab (Ab Ae))))))) (Lg Le NX X) d) (fun m d=>(u4 (u4 (u4 (u4 (Ab (Ab (Ab Ae))))))) (Di m) d) (fun d=>(u4 (u4 (u4 (u4 (Ab (Ab (Ab Ae))))))) If d) n0 Zi ⟨Ap7,trivial⟩ (fun f NX d=>by simp only [u4,Ab,Ae]; unfold Lg; simp only [nb])
theorem A11:Bm Tryz.prog 81 Ah6:=
 Aw (pat:=E8) [R2] Aai Zi ⟨Ap8,trivial⟩ Tryz.func81 (de:=fun x=>Zh x.1) (fun x r h=>A2 (A10 x.1) h) fun _=>by kernel_rfl
def Bf (d:Dk) (w:Int):Don:=Apb d w
def A7k:E5:=⟨[.rd Uw,.rd tI],[some 2,none],[.rd tI,.rd tI,.rd tI,.rd tI,.rd tI,.rd tI,.rd tI,.rd tI,.rd tI,.rd tI,.own 136 Aq,.own 103 P2],[some 12]⟩
def Ap9:SD:=⟨A7k,fun x=>some (((Bf x.1 x.2.1).1,(Bf x.1 x.2.1).2.1.1,(Bf x.1 x.2.1).2.1.2.1,(Bf x.1 x.2.1).2.1.2.2.1,(Bf x.1 x.2.1).2.1.2.2.2.1.1,(Bf x.1 x.2.1).2.1.2.2.2.1.2.1,(Bf x.1 x.2.1).2.1.2.2.2.1.2.2.1,(Bf x.1 x.2.1).2.1.2.2.2.1.2.2.2.1,(Bf x.1 x.2.1).2.1.2.2.2.2.1,(Bf x.1 x.2.1).2.1.2.2.2.2.2.1,(Bf x.1 x.2.1).2.1.2.2.2.2.2.2.1.1,(Bf x.1 x.2.1).2.2.1,()),(()))⟩
def Ad2 (a0:Dk) (a1:Int):Option ((((Int)×(Int)×(Int)×(Int)×(Int)×(Int)×(Int)×(Int)×(Int)×(Int)×(List Ar)×(List Ny)×Unit)×(Unit))):=
 bif !G7 a0 then some ((1,0,0,0,0,0,0,0,0,0,[],[],()),()) else (Cw a1).bind fun val=>bif !val.1.1 then some ((1,0,0,0,0,0,0,0,0,0,[],[],()),()) else ((Ph (C9 a0 (B0 (nI (List.length a0.1)) (Ah a0 a1).2.1) (A7 (nI (List.length a0.1))) (Ah a0 a1).2.2.1 (Ah a0 a1).2.2.2.1 a1).1).bind fun val=>some ((val.1.1,val.2,()),())).bind fun val=>bif !val.1.2.1 then some ((2,0,0,0,0,0,0,0,0,0,[],[],()),()) else bif decide (IntKind.i64.wrap ((C9 a0 (B0 (nI (List.length a0.1)) (Ah a0 a1).2.1) (A7 (nI (List.length a0.1))) (Ah a0 a1).2.2.1 (Ah a0 a1).2.2.2.1 a1).2.2.1 + 1) > 60000) then some ((3,0,0,0,0,0,0,0,0,0,[],[],()),()) else bif decide (Qz (val.1.1,()) a1 > IntKind.i64.wrap (A7 (nI (List.length a0.1)) - 1)) then some ((4,0,0,0,0,0,0,0,0,0,[],[],()),()) else bif decide ((C9 a0 (B0 (nI (List.length a0.1)) (Ah a0 a1).2.1) (A7 (nI (List.length a0.1))) (Ah a0 a1).2.2.1 (Ah a0 a1).2.2.2.1 a1).2.1≥A7 (nI (List.length a0.1))) then ((Pj (a1,nI (List.length a0.1),IntKind.i64.wrap ((C9 a0 (B0 (nI (List.length a0.1)) (Ah a0 a1).2.1) (A7 (nI (List.length a0.1))) (Ah a0 a1).2.2.1 (Ah a0 a1).2.2.2.1 a1).2.2.1 + 1),Ah a0 a1,(C9 a0 (B0 (nI (List.length a0.1)) (Ah a0 a1).2.1) (A7 (nI (List.length a0.1))) (Ah a0 a1).2.2.1 (Ah a0 a1).2.2.2.1 a1).2.1,0,(val.1.1,()),())).bind fun val=>some ((val.1,val.2.1.1,val.2.1.2.1,val.2.1.2.2.1,val.2.1.2.2.2.1.1,val.2.1.2.2.2.1.2.1,val.2.1.2.2.2.1.2.2.1,val.2.1.2.2.2.1.2.2.2.1,val.2.1.2.2.2.2.1,val.2.1.2.2.2.2.2.1,val.2.1.2.2.2.2.2.2.1.1,val.2.2),())).bind fun val=>some val else some ((0,a1,nI (List.length a0.1),IntKind.i64.wrap ((C9 a0 (B0 (nI (List.length a0.1)) (Ah a0 a1).2.1) (A7 (nI (List.length a0.1))) (Ah a0 a1).2.2.1 (Ah a0 a1).2.2.2.1 a1).2.2.1 + 1),(Ah a0 a1).1,(Ah a0 a1).2.1,(Ah a0 a1).2.2.1,(Ah a0 a1).2.2.2.1,IntKind.i64.wrap ((C9 a0 (B0 (nI (List.length a0.1)) (Ah a0 a1).2.1) (A7 (nI (List.length a0.1))) (Ah a0 a1).2.2.1 (Ah a0 a1).2.2.2.1 a1).2.1 + 1),0,val.1.1,[(false,IntKind.i64.wrap (B0 (nI (List.length a0.1)) (Ah a0 a1).2.1 + (C9 a0 (B0 (nI (List.length a0.1)) (Ah a0 a1).2.1) (A7 (nI (List.length a0.1))) (Ah a0 a1).2.2.1 (Ah a0 a1).2.2.2.1 a1).2.1),Dc (3,IntKind.i64.wrap ((C9 a0 (B0 (nI (List.length a0.1)) (Ah a0 a1).2.1) (A7 (nI (List.length a0.1))) (Ah a0 a1).2.2.1 (Ah a0 a1).2.2.2.1 a1).2.2.1 + 1),IntKind.i64.wrap ((Ah a0 a1).2.2.1 + (C9 a0 (B0 (nI (List.length a0.1)) (Ah a0 a1).2.1) (A7 (nI (List.length a0.1))) (Ah a0 a1).2.2.1 (Ah a0 a1).2.2.2.1 a1).2.1),Ac,()) a1,()),(true,0,Ac,())],()),())
theorem A7l (a0:Dk) (a1:Int):Ad2 a0 a1=some (((Bf a0 a1).1,(Bf a0 a1).2.1.1,(Bf a0 a1).2.1.2.1,(Bf a0 a1).2.1.2.2.1,(Bf a0 a1).2.1.2.2.2.1.1,(Bf a0 a1).2.1.2.2.2.1.2.1,(Bf a0 a1).2.1.2.2.2.1.2.2.1,(Bf a0 a1).2.1.2.2.2.1.2.2.2.1,(Bf a0 a1).2.1.2.2.2.2.1,(Bf a0 a1).2.1.2.2.2.2.2.1,(Bf a0 a1).2.1.2.2.2.2.2.2.1.1,(Bf a0 a1).2.2.1,()),(())):=by
 unfold Ad2 Bf Apb
 have ew:(bif decide (a1≥1) then (some ((decide (a1≤8),()),()):Option ((Bool×Unit)×Unit)) else some ((false,()),()))=some ((Fg a1 1 8,()),()):=by
  unfold Fg
  show (bif decide (1≤a1) then _ else _)=_
  cases decide (1≤a1)<;>rfl
 first
  | rw [ew]
  | rw [show Cw a1=some ((Fg a1 1 8,()),()) from ew]
 show (bif !B1 a0 then _ else bif !Fg a1 1 8 then _ else _)=_
 cases hv:B1 a0 with
 | false=>rfl
 | true=>
  cases hw:Fg a1 1 8 with
  | false=>rfl
  | true=>
   simp only [Bool.not_true,cond_false]
   have hr:=Ava hv hw
   have hm:=Ayr (n:=nI a0.1.length) hr.2.1
   have hh:=Qx (nI a0.1.length)
   have eb:B0 (nI a0.1.length) (Bg a0 a1).2.1=Ck (Bg a0 a1).2.1 (nI a0.1.length):=by
    show IntKind.i64.wrap (2 + IntKind.i64.wrap ((Bg a0 a1).2.1 * Au (nI a0.1.length)))=2 + (Bg a0 a1).2.1 * Au (nI a0.1.length)
    rw [Aj (n:=(Bg a0 a1).2.1 * Au (nI a0.1.length)) (by omega) (by omega),Aj (by omega) (by omega)]
   have ex:C9 a0 (B0 (nI a0.1.length) (Ah a0 a1).2.1) (A7 (nI a0.1.length)) (Ah a0 a1).2.2.1 (Ah a0 a1).2.2.2.1 a1=Kr a0 a1:=by
    show i7 a0 (B0 (nI a0.1.length) (Bg a0 a1).2.1) (Au (nI a0.1.length)) (Bg a0 a1).2.2.1 (Bg a0 a1).2.2.2.1 a1=_
    rw [eb]
    rfl
   simp only [ex]
   have hx:(Kr a0 a1).1.length≤1073741824:=F0 (C6 (C6 (A0o a0 (Ck (Bg a0 a1).2.1 (nI a0.1.length)) (Au (nI a0.1.length)) (Bg a0 a1).2.2.1 (Bg a0 a1).2.2.2.1 a1)).1).1
   have hs:=A97 a0 (Ck (Bg a0 a1).2.1 (nI a0.1.length)) (Au (nI a0.1.length)) (Bg a0 a1).2.2.1 (Bg a0 a1).2.2.2.1 a1 hh.1 hr.2.2.2
   have hf:Ph (Kr a0 a1).1=some (Bd9 (Kr a0 a1).1):=if_pos hx
   rw [hf]
   unfold Bd9
   cases ho:Tl (Kr a0 a1).1 zSs with
   | none=>rfl
   | some st=>
    have hst:=Xk rfl ho
    replace hs:(0≤(Kr a0 a1).2.1∧(Kr a0 a1).2.1≤Au (nI a0.1.length))∧(0≤(Kr a0 a1).2.2.1∧(Kr a0 a1).2.2.1≤60000):=hs
    clear ho hx ex hf
    have eR:Ah a0 a1=Bg a0 a1:=rfl
    have eH:A7 (nI a0.1.length)=Au (nI a0.1.length):=rfl
    rw [eR,eH]
    generalize Kr a0 a1=x at *
    generalize Bg a0 a1=r at *
    show (bif decide (IntKind.i64.wrap (x.2.2.1 + 1) > 60000) then _ else bif decide (Yb st a1 > IntKind.i64.wrap (Au (nI a0.1.length) - 1)) then _ else bif decide (x.2.1≥Au (nI a0.1.length)) then _ else _)=_
    dsimp only
    rw [Aj (n:=x.2.2.1 + 1) (by omega) (by omega),i6]
    by_cases h1:x.2.2.1 + 1 > 60000
    ·rw [Ap h1,Bd5 h1]; rfl
    by_cases h2:Yb st a1 > Au (nI a0.1.length) - 1
    ·rw [Bd h1,Ap h2,Bd6 h1 h2]; rfl
    by_cases h3:x.2.1 < Au (nI a0.1.length)
    ·rw [Bd h1,Bd h2,Bd (show ¬ x.2.1≥Au (nI a0.1.length) by omega),Bd7 h1 h2 h3]
     simp only [cond_true,cond_false]
     obtain ⟨_,hr1,hr2,hr3⟩:=hr
     have hB:0≤Ck r.2.1 (nI a0.1.length)∧Ck r.2.1 (nI a0.1.length)≤101:=by unfold Ck; omega
     rw [eb,Aj (n:=x.2.1 + 1) (by omega) (by omega),Aj (n:=Ck r.2.1 (nI a0.1.length) + x.2.1) (by omega) (by omega),Aj (n:=r.2.2.1 + x.2.1) (by omega) (by omega)]
     rfl
    ·rw [Bd h1,Bd h2,Ap (show x.2.1≥Au (nI a0.1.length) by omega),Bd8 h1 h2 h3]
     simp only [cond_true,cond_false]
     have e1:Pj (a1,nI a0.1.length,x.2.2.1 + 1,r,x.2.1,0,st,())=some (Au6 (a1,nI a0.1.length,x.2.2.1 + 1,r,x.2.1,0,st,())):=if_pos ⟨hr.1,hr.2.1,⟨Int.le_trans (by decide) hr.2.2.1.1,Int.le_trans hr.2.2.1.2 (by decide)⟩,Nat.le_trans (Gc hst) (by decide)⟩
     refine (congrArg (fun q=>Option.bind (Option.bind q _) _) e1).trans ?_
     rfl
theorem A7m:Bm Tryz.prog 26 Ap9:=
 Aw (pat:=Co) [] F8 (Ay (l:=[(69,Dr),(70,K8),(75,N8),(76,Aby),(77,Apy),(78,Y9),(79,Ah2),(80,Adx),(81,Ah6),(82,Jg),(83,Aah)]) ⟨Eb,Np,Rs,Ate,A7i,Ah1,A1x,Aps,A11,L8,Ak8,trivial⟩) trivial Tryz.func26 (de:=fun x=>Ad2 x.1 x.2.1) (fun x r h=>(A7l x.1 x.2.1).trans h) fun _=>by kernel_rfl
def Fe (w:S4):Dh×Int:=Asq w
def A3v:E5:=⟨[.rd Xf],[some 16],[.own 136 Aq,.rd tI],[some 1,none]⟩
def Alb:SD:=⟨A3v,fun x=>some (((Fe x.1).1.1,(Fe x.1).2,()),(()))⟩
def Aaj (a0:S4):Option ((((List Ar)×(Int)×Unit)×(Unit))):=
 bif !Ns a0 then some (([],1,()),()) else ((Hn (Bf (a0.2.1.1,[],()) a0.1).2.1.2.2.2.2.2.2.1).bind fun val=>some (val,())).bind fun val=>some ((val.1.1,(Bf (a0.2.1.1,[],()) a0.1).1,()),())
theorem A3w (a0:S4):Aaj a0=some (((Fe a0).1.1,(Fe a0).2,()),(())):=by
 unfold Aaj Fe Asq
 show (bif !In a0 then _ else _)=_
 cases hv:In a0 with
 | false=>rfl
 | true=>
  simp only [Bool.not_true,cond_false]
  have hs:=Gc (A0y (a0.2.1.1,[],()) a0.1)
  have e1:Hn (Bf (a0.2.1.1,[],()) a0.1).2.1.2.2.2.2.2.2.1=some (Apb (a0.2.1.1,[],()) a0.1).2.1.2.2.2.2.2.2.1:=if_pos (Nat.le_trans hs (by decide))
  rw [e1]
  rfl
theorem A3x:Bm Tryz.prog 6 Alb:=
 Aw (pat:=Co) [] F8 (Ay (l:=[(25,Yu),(26,Ap9),(27,R1)]) ⟨Amx,A7m,Zb,trivial⟩) trivial Tryz.func6 (de:=fun x=>Aaj x.1) (fun x r h=>(A3w x.1).trans h) fun _=>by kernel_rfl
def Jk (a:List Aa):Option (List Aa):=toM (.sl .str) a
def Aqa:E5:=⟨[.rd (.sl .str)],[none],[.own 9 .str],[none]⟩
def R3:SD:=⟨Aqa,fun x=>(Jk x.1).bind fun r=>some ((r,()),(()))⟩
def n7:Tb:=tb []
def Ig:Nat→Da×(Nat→Da):=Gs [(4,⟨[.sl 0 0 .str,.row 3 0 9 .str],[(0,.lf (.d (.sl .str))),(3,.lf (.row 0)),(4,.lf (.d tI))],[.row 9 .str]⟩,[(2,⟨[.row 3 0 9 .str],[(3,.lf (.row 0))],[.row 9 .str]⟩)])]
def Wn:Code:=(At (Bc Tryz.f31)).getD 0 .skip
def Es (v0:List Aa) (v4:Int) (r0:List Aa):Nat:=((v0.length:Int) - v4).toNat + 1
def Iz {R:Type}  (NX:((List Aa)×(Int)×(List Aa)×Unit)→Option R) (X2:((List Aa)×Unit)→Option R) (v0:List Aa) (v4:Int) (r0:List Aa):Option R:=
 bif decide (v4 < nI v0.length) then bif decide (0≤v4) then bif decide (v4 < nI v0.length) then bif decide (0≤v4) then bif decide (v4 < nI r0.length) then bif decide (v4.toNat < r0.length) then NX (v0,IntKind.i64.wrap (v4 + 1),r0.set v4.toNat (v0.getD v4.toNat (Ac)),()) else none else none else none else none else none else X2 (r0,())
def Cf:Nat→(List Aa)→(Int)→(List Aa) →  Option ((List Aa)×Unit)
 | 0,_,_,_=>none
 | m + 1,v0,v4,r0=>Iz  (fun d=>Cf m d.1 d.2.1 d.2.2.1) (fun d=>some (d)) v0 v4 r0
def Aj7 (d:(List Aa)×(Int)×(List Aa)×Unit):Option ((List Aa)×Unit):=(Ab (Ab (Ab Ae))) (Cf ((Ab (Ab (Ab Ae))) Es d)) d
def R4 (a0:List Aa):Option ((((List Aa)×Unit)×(Unit))):=
 bif decide (nI a0.length=nI a0.length) then bif decide ((nI a0.length).toNat * 16≤140737488355328) then ((fun d=>Cf (Es d.1 d.2.1 d.2.2.1) d.1 d.2.1 d.2.2.1) (a0,0,List.replicate (nI a0.length).toNat (Ac),())).bind fun val=>some (val,()) else none else none
theorem Aqb (a0:List Aa) r (h:Jk a0=some r):R4 a0=some ((r,()),(())):=by
 obtain ⟨hc,rfl⟩:=Pa (t:=.sl .str) h
 obtain ⟨hl0,hall⟩:=Xq hc
 have hl:a0.length≤1048576:=hl0
 clear hl0 hc h
 ·unfold R4
  have e:Int.toNat (nI a0.length)=a0.length:=by simp [nI]
  have hL:=Ao4 (xs:=a0) (Ac) (g:=fun m i r=>Cf m a0 i r) (ok:=fun r=>(r,())) (fun m i r hi hr=>by
   show Cf (m + 1) a0 i r=_
   simp only [Cf,Iz]
   have hir:i < r.length:=by omega
   rw [Qv hi,Gt,Qv hir,wI (by omega)]
   simp only [cond_true,Eo]
   rw [A9d hir]
   rfl) (fun m r=>by
   show Cf (m + 1) a0 a0.length r=_
   simp only [Cf,Iz]
   rw [Jx]
   rfl) (Es a0 0 (List.replicate a0.length (Ac))) 0 (List.replicate a0.length (Ac)) (by omega) (by simp [Es]) (by simp)
  have c1:decide (Int.toNat (nI a0.length) * 16≤140737488355328)=true:=by rw [e]; simp; omega
  rw [c1,Ap rfl,e]
  have hL':Cf (Es a0 0 (List.replicate a0.length (Ac))) a0 0 (List.replicate a0.length (Ac))=_:=hL
  show (Cf (Es a0 0 (List.replicate a0.length (Ac))) a0 0 (List.replicate a0.length (Ac))).bind _=_
  rw [hL']
  rfl
def Wo {R:Type} (k:Kt R):=(Ko (Ig 4) (.exit 0) 2 k)
def Ab7 {R:Type}:Lt R Ig:=(E3 (pat:=Ig) 4 (fun d k=>(Aj7 d).bind (Wo k)) F8)
theorem n9:Ax Tryz.prog n7:=Ay trivial
theorem Aj8 {R:Type}:A4 Tryz.prog R 22 0 Ig Ab7 Wn:=
 Cj (cfg:=⟨n7,0,22,Ig⟩) 4 [] (fun NX X d=>(Ab (Ab (Ab Ae))) (Iz  NX X) d) (fun m d=>(Ab (Ab (Ab Ae))) (Cf m) d) (fun d=>(Ab (Ab (Ab Ae))) Es d) Wo n9 trivial (fun f NX d=>by simp only [u4,Ab,Ae]; unfold Iz; simp only [nb])
theorem o5:Bm Tryz.prog 31 R3:=
 Aw (pat:=Ig) [Wn] Ab7 n9 ⟨Aj8,trivial⟩ Tryz.func31 (de:=fun x=>R4 x.1) (fun x r h=>A2 (Aqb x.1) h) fun _=>by kernel_rfl
def Ah7 (a:Wr):Option Wr:=toM Fb a
def Awy:E5:=⟨[.rd Fb],[some 2],[.rd Fb],[some 2]⟩
def Ae5:SD:=⟨Awy,fun x=>(Ah7 x.1).bind fun r=>some ((r,()),(()))⟩
def Ae6 (a0:Wr):Option (((Wr×Unit)×(Unit))):=
 some ((a0,()),())
theorem Awz (a0:Wr) r (h:Ah7 a0=some r):Ae6 a0=some ((r,()),(())):=by
 obtain ⟨hc,rfl⟩:=Pa (t:=Fb) h
 ·rfl
theorem Aw0:Bm Tryz.prog 135 Ae5:=
 Aw (pat:=Co) [] F8 (Ay (l:=[]) trivial) trivial Tryz.func135 (de:=fun x=>Ae6 x.1) (fun x r h=>A2 (Awz x.1) h) fun _=>by kernel_rfl
def Pu (a:List Wr):Option (List Wr):=toM (.sl Fb) a
def Atk:E5:=⟨[.rd (.sl Fb)],[none],[.own 151 Fb],[none]⟩
def Ab8:SD:=⟨Atk,fun x=>(Pu x.1).bind fun r=>some ((r,()),(()))⟩
def Ab9:Tb:=tb [(135,Ae5)]
def Jl:Nat→Da×(Nat→Da):=Gs [(4,⟨[.sl 0 0 Fb,.row 3 0 151 Fb],[(0,.lf (.d (.sl Fb))),(3,.lf (.row 0)),(4,.lf (.d tI))],[.row 151 Fb]⟩,[(2,⟨[.row 3 0 151 Fb],[(3,.lf (.row 0))],[.row 151 Fb]⟩)])]
def Zj:Code:=(At (Bc Tryz.f84)).getD 0 .skip
def Fq (v0:List Wr) (v4:Int) (r0:List Wr):Nat:=((v0.length:Int) - v4).toNat + 1
def Kf {R:Type}  (NX:((List Wr)×(Int)×(List Wr)×Unit)→Option R) (X2:((List Wr)×Unit)→Option R) (v0:List Wr) (v4:Int) (r0:List Wr):Option R:=
 bif decide (v4 < nI v0.length) then bif decide (0≤v4) then bif decide (v4 < nI v0.length) then bif decide (0≤v4) then bif decide (v4 < nI r0.length) then bif decide (v4.toNat < r0.length) then NX (v0,IntKind.i64.wrap (v4 + 1),r0.set v4.toNat (v0.getD v4.toNat (0,Ac,())),()) else none else none else none else none else none else X2 (r0,())
def Cs:Nat→(List Wr)→(Int)→(List Wr) →  Option ((List Wr)×Unit)
 | 0,_,_,_=>none
 | m + 1,v0,v4,r0=>Kf  (fun d=>Cs m d.1 d.2.1 d.2.2.1) (fun d=>some (d)) v0 v4 r0
def Am7 (d:(List Wr)×(Int)×(List Wr)×Unit):Option ((List Wr)×Unit):=(Ab (Ab (Ab Ae))) (Cs ((Ab (Ab (Ab Ae))) Fq d)) d
def T4 (a0:List Wr):Option ((((List Wr)×Unit)×(Unit))):=
 bif decide (nI a0.length=nI a0.length) then bif decide ((nI a0.length).toNat * 24≤140737488355328) then ((fun d=>Cs (Fq d.1 d.2.1 d.2.2.1) d.1 d.2.1 d.2.2.1) (a0,0,List.replicate (nI a0.length).toNat (0,Ac,()),())).bind fun val=>some (val,()) else none else none
theorem Atl (a0:List Wr) r (h:Pu a0=some r):T4 a0=some ((r,()),(())):=by
 obtain ⟨hc,rfl⟩:=Pa (t:=.sl Fb) h
 obtain ⟨hl0,hall⟩:=Xq hc
 have hl:a0.length≤1048576:=hl0
 clear hl0 hc h
 ·unfold T4
  have e:Int.toNat (nI a0.length)=a0.length:=by simp [nI]
  have hL:=Ao4 (xs:=a0) (0,(Ac),()) (g:=fun m i r=>Cs m a0 i r) (ok:=fun r=>(r,())) (fun m i r hi hr=>by
   show Cs (m + 1) a0 i r=_
   simp only [Cs,Kf]
   have hir:i < r.length:=by omega
   rw [Qv hi,Gt,Qv hir,wI (by omega)]
   simp only [cond_true,Eo]
   rw [A9d hir]
   rfl) (fun m r=>by
   show Cs (m + 1) a0 a0.length r=_
   simp only [Cs,Kf]
   rw [Jx]
   rfl) (Fq a0 0 (List.replicate a0.length (0,(Ac),()))) 0 (List.replicate a0.length (0,(Ac),())) (by omega) (by simp [Fq]) (by simp)
  have c1:decide (Int.toNat (nI a0.length) * 24≤140737488355328)=true:=by rw [e]; simp; omega
  rw [c1,Ap rfl,e]
  have hL':Cs (Fq a0 0 (List.replicate a0.length (0,(Ac),()))) a0 0 (List.replicate a0.length (0,(Ac),()))=_:=hL
  show (Cs (Fq a0 0 (List.replicate a0.length (0,(Ac),()))) a0 0 (List.replicate a0.length (0,(Ac),()))).bind _=_
  rw [hL']
  rfl
def Zk {R:Type} (k:Kt R):=(Ko (Jl 4) (.exit 0) 2 k)
def Ae7 {R:Type}:Lt R Jl:=(E3 (pat:=Jl) 4 (fun d k=>(Am7 d).bind (Zk k)) F8)
theorem Aca:Ax Tryz.prog Ab9:=Ay ⟨Aw0,trivial⟩
theorem Am8 {R:Type}:A4 Tryz.prog R 23 0 Jl Ae7 Zj:=
 Cj (cfg:=⟨Ab9,0,23,Jl⟩) 4 [] (fun NX X d=>(Ab (Ab (Ab Ae))) (Kf  NX X) d) (fun m d=>(Ab (Ab (Ab Ae))) (Cs m) d) (fun d=>(Ab (Ab (Ab Ae))) Fq d) Zk Aca trivial (fun f NX d=>by simp only [u4,Ab,Ae]; unfold Kf; simp only [nb])
theorem Atm:Bm Tryz.prog 84 Ab8:=
 Aw (pat:=Jl) [Zj] Ae7 Aca ⟨Am8,trivial⟩ Tryz.func84 (de:=fun x=>T4 x.1) (fun x r h=>A2 (Atl x.1) h) fun _=>by kernel_rfl
def Uq (a:Dk):Option Dk:=toM Uw a
def A12:E5:=⟨[.rd Uw],[some 2],[.own 9 .str,.own 151 Fb],[some 2]⟩
def Ah8:SD:=⟨A12,fun x=>(Uq x.1).bind fun r=>some ((r.1,r.2.1,()),(()))⟩
def Zl (a0:Dk):Option ((Dk×(Unit))):=
 ((Jk a0.1).bind fun val=>some ((val,()),())).bind fun val=>((Pu a0.2.1).bind fun val=>some ((val,()),())).bind fun val_1=>some ((val.1.1,val_1.1),())
theorem A13 (a0:Dk) r (h:Uq a0=some r):Zl a0=some ((r.1,r.2.1,()),(())):=by
 obtain ⟨hc,rfl⟩:=Pa (t:=Uw) h
 ·obtain ⟨s0,s1,_⟩:Dw (.sl .str) a0.1=true∧Dw (.sl Fb) a0.2.1=true∧True:=by
   have s:=hc
   obtain ⟨h0,s⟩:=Cb s
   obtain ⟨h1,s⟩:=Cb s
   exact ⟨h0,h1,trivial⟩
  unfold Zl
  have e0:Jk a0.1=some a0.1:=Adr (t:=(.sl .str)) s0
  have e1:Pu a0.2.1=some a0.2.1:=Adr (t:=(.sl Fb)) s1
  simp only [e0,e1]
  rfl
theorem A14:Bm Tryz.prog 28 Ah8:=
 Aw (pat:=Co) [] F8 (Ay (l:=[(31,R3),(84,Ab8)]) ⟨o5,Atm,trivial⟩) trivial Tryz.func28 (de:=fun x=>Zl x.1) (fun x r h=>A2 (A13 x.1) h) fun _=>by kernel_rfl
def Alc (a:Rt):Option Rt:=toM yRt a
def A15:E5:=⟨[.rd yRt],[some 4],[.rd yRt],[some 4]⟩
def Ah9:SD:=⟨A15,fun x=>(Alc x.1).bind fun r=>some ((r,()),(()))⟩
def Aia (a0:Rt):Option (((Rt×Unit)×(Unit))):=
 some ((a0,()),())
theorem A16 (a0:Rt) r (h:Alc a0=some r):Aia a0=some ((r,()),(())):=by
 obtain ⟨hc,rfl⟩:=Pa (t:=yRt) h
 ·rfl
theorem A17:Bm Tryz.prog 85 Ah9:=
 Aw (pat:=Co) [] F8 (Ay (l:=[]) trivial) trivial Tryz.func85 (de:=fun x=>Aia x.1) (fun x r h=>A2 (A16 x.1) h) fun _=>by kernel_rfl
def Ald (a:Ar):Option Ar:=toM Aq a
def A18:E5:=⟨[.rd Aq],[some 2],[.rd Aq],[some 2]⟩
def Aib:SD:=⟨A18,fun x=>(Ald x.1).bind fun r=>some ((r,()),(()))⟩
def Aic (a0:Ar):Option (((Ar×Unit)×(Unit))):=
 some ((a0,()),())
theorem A19 (a0:Ar) r (h:Ald a0=some r):Aic a0=some ((r,()),(())):=by
 obtain ⟨hc,rfl⟩:=Pa (t:=Aq) h
 ·rfl
theorem A2a:Bm Tryz.prog 167 Aib:=
 Aw (pat:=Co) [] F8 (Ay (l:=[]) trivial) trivial Tryz.func167 (de:=fun x=>Aic x.1) (fun x r h=>A2 (A19 x.1) h) fun _=>by kernel_rfl
def R5 (a:List Ar):Option (List Ar):=toM (.sl Aq) a
def Aw1:E5:=⟨[.rd (.sl Aq)],[none],[.own 136 Aq],[none]⟩
def Ae8:SD:=⟨Aw1,fun x=>(R5 x.1).bind fun r=>some ((r,()),(()))⟩
def Ae9:Tb:=tb [(167,Aib)]
def Kx:Nat→Da×(Nat→Da):=Gs [(4,⟨[.sl 0 0 Aq,.row 3 0 136 Aq],[(0,.lf (.d (.sl Aq))),(3,.lf (.row 0)),(4,.lf (.d tI))],[.row 136 Aq]⟩,[(2,⟨[.row 3 0 136 Aq],[(3,.lf (.row 0))],[.row 136 Aq]⟩)])]
def o6:Code:=(At (Bc Tryz.f136)).getD 0 .skip
def Gi (v0:List Ar) (v4:Int) (r0:List Ar):Nat:=((v0.length:Int) - v4).toNat + 1
def Lh {R:Type}  (NX:((List Ar)×(Int)×(List Ar)×Unit)→Option R) (X2:Dh→Option R) (v0:List Ar) (v4:Int) (r0:List Ar):Option R:=
 bif decide (v4 < nI v0.length) then bif decide (0≤v4) then bif decide (v4 < nI v0.length) then bif decide (0≤v4) then bif decide (v4 < nI r0.length) then bif decide (v4.toNat < r0.length) then NX (v0,IntKind.i64.wrap (v4 + 1),r0.set v4.toNat (v0.getD v4.toNat (Ac,Ac,())),()) else none else none else none else none else none else X2 (r0,())
def C1:Nat→(List Ar)→(Int)→(List Ar) →  Option Dh
 | 0,_,_,_=>none
 | m + 1,v0,v4,r0=>Lh  (fun d=>C1 m d.1 d.2.1 d.2.2.1) (fun d=>some (d)) v0 v4 r0
def Aqc (d:(List Ar)×(Int)×(List Ar)×Unit):Option Dh:=(Ab (Ab (Ab Ae))) (C1 ((Ab (Ab (Ab Ae))) Gi d)) d
def V2 (a0:List Ar):Option ((Dh×(Unit))):=
 bif decide (nI a0.length=nI a0.length) then bif decide ((nI a0.length).toNat * 32≤140737488355328) then ((fun d=>C1 (Gi d.1 d.2.1 d.2.2.1) d.1 d.2.1 d.2.2.1) (a0,0,List.replicate (nI a0.length).toNat (Ac,Ac,()),())).bind fun val=>some (val,()) else none else none
theorem Aw2 (a0:List Ar) r (h:R5 a0=some r):V2 a0=some ((r,()),(())):=by
 obtain ⟨hc,rfl⟩:=Pa (t:=.sl Aq) h
 obtain ⟨hl0,hall⟩:=Xq hc
 have hl:a0.length≤1048576:=hl0
 clear hl0 hc h
 ·unfold V2
  have e:Int.toNat (nI a0.length)=a0.length:=by simp [nI]
  have hL:=Ao4 (xs:=a0) ((Ac),(Ac),()) (g:=fun m i r=>C1 m a0 i r) (ok:=fun r=>(r,())) (fun m i r hi hr=>by
   show C1 (m + 1) a0 i r=_
   simp only [C1,Lh]
   have hir:i < r.length:=by omega
   rw [Qv hi,Gt,Qv hir,wI (by omega)]
   simp only [cond_true,Eo]
   rw [A9d hir]
   rfl) (fun m r=>by
   show C1 (m + 1) a0 a0.length r=_
   simp only [C1,Lh]
   rw [Jx]
   rfl) (Gi a0 0 (List.replicate a0.length ((Ac),(Ac),()))) 0 (List.replicate a0.length ((Ac),(Ac),())) (by omega) (by simp [Gi]) (by simp)
  have c1:decide (Int.toNat (nI a0.length) * 32≤140737488355328)=true:=by rw [e]; simp; omega
  rw [c1,Ap rfl,e]
  have hL':C1 (Gi a0 0 (List.replicate a0.length ((Ac),(Ac),()))) a0 0 (List.replicate a0.length ((Ac),(Ac),()))=_:=hL
  show (C1 (Gi a0 0 (List.replicate a0.length ((Ac),(Ac),()))) a0 0 (List.replicate a0.length ((Ac),(Ac),()))).bind _=_
  rw [hL']
  rfl
def o7 {R:Type} (k:Kt R):=(Ko (Kx 4) (.exit 0) 2 k)
def Aid {R:Type}:Lt R Kx:=(E3 (pat:=Kx) 4 (fun d k=>(Aqc d).bind (o7 k)) F8)
theorem Afa:Ax Tryz.prog Ae9:=Ay ⟨A2a,trivial⟩
theorem Aqd {R:Type}:A4 Tryz.prog R 23 0 Kx Aid o6:=
 Cj (cfg:=⟨Ae9,0,23,Kx⟩) 4 [] (fun NX X d=>(Ab (Ab (Ab Ae))) (Lh  NX X) d) (fun m d=>(Ab (Ab (Ab Ae))) (C1 m) d) (fun d=>(Ab (Ab (Ab Ae))) Gi d) o7 Afa trivial (fun f NX d=>by simp only [u4,Ab,Ae]; unfold Lh; simp only [nb])
theorem Aw3:Bm Tryz.prog 136 Ae8:=
 Aw (pat:=Kx) [o6] Aid Afa ⟨Aqd,trivial⟩ Tryz.func136 (de:=fun x=>V2 x.1) (fun x r h=>A2 (Aw2 x.1) h) fun _=>by kernel_rfl
def Mf (a:Dh):Option Dh:=toM B6 a
def Aw4:E5:=⟨[.rd B6],[some 1],[.own 136 Aq],[some 1]⟩
def V3:SD:=⟨Aw4,fun x=>(Mf x.1).bind fun r=>some ((r.1,()),(()))⟩
def V4 (a0:Dh):Option ((Dh×(Unit))):=
 ((R5 a0.1).bind fun val=>some ((val,()),())).bind fun val=>some val
theorem Aw5 (a0:Dh) r (h:Mf a0=some r):V4 a0=some ((r.1,()),(())):=by
 obtain ⟨hc,rfl⟩:=Pa (t:=B6) h
 ·obtain ⟨s0,_⟩:Dw (.sl Aq) a0.1=true∧True:=by
   have s:=hc
   obtain ⟨h0,s⟩:=Cb s
   exact ⟨h0,trivial⟩
  unfold V4
  have e0:R5 a0.1=some a0.1:=Adr (t:=(.sl Aq)) s0
  simp only [e0]
  rfl
theorem Afb:Bm Tryz.prog 86 V3:=
 Aw (pat:=Co) [] F8 (Ay (l:=[(136,Ae8)]) ⟨Aw3,trivial⟩) trivial Tryz.func86 (de:=fun x=>V4 x.1) (fun x r h=>A2 (Aw5 x.1) h) fun _=>by kernel_rfl
def R6 (a:Ls):Option Ls:=toM Il a
def Aw6:E5:=⟨[.rd Il],[some 10],[.rd tI,.rd tI,.rd tI,.rd tI,.rd tI,.rd tI,.rd tI,.rd tI,.rd tI,.own 136 Aq],[some 10]⟩
def Afc:SD:=⟨Aw6,fun x=>(R6 x.1).bind fun r=>some ((r.1,r.2.1,r.2.2.1,r.2.2.2.1.1,r.2.2.2.1.2.1,r.2.2.2.1.2.2.1,r.2.2.2.1.2.2.2.1,r.2.2.2.2.1,r.2.2.2.2.2.1,r.2.2.2.2.2.2.1.1,()),(()))⟩
def V5 (a0:Ls):Option ((((Int)×(Int)×(Int)×(Int)×(Int)×(Int)×(Int)×(Int)×(Int)×(List Ar)×Unit)×(Unit))):=
 ((Mf a0.2.2.2.2.2.2.1).bind fun val=>some (val,())).bind fun val=>some ((a0.1,a0.2.1,a0.2.2.1,a0.2.2.2.1.1,a0.2.2.2.1.2.1,a0.2.2.2.1.2.2.1,a0.2.2.2.1.2.2.2.1,a0.2.2.2.2.1,a0.2.2.2.2.2.1,val.1),())
theorem Aw7 (a0:Ls) r (h:R6 a0=some r):V5 a0=some ((r.1,r.2.1,r.2.2.1,r.2.2.2.1.1,r.2.2.2.1.2.1,r.2.2.2.1.2.2.1,r.2.2.2.1.2.2.2.1,r.2.2.2.2.1,r.2.2.2.2.2.1,r.2.2.2.2.2.2.1.1,()),(())):=by
 obtain ⟨hc,rfl⟩:=Pa (t:=Il) h
 ·obtain ⟨s0,s1,s2,s3,s4,s5,s6,_⟩:Dw tI a0.1=true∧Dw tI a0.2.1=true∧Dw tI a0.2.2.1=true∧Dw yRt a0.2.2.2.1=true∧Dw tI a0.2.2.2.2.1=true∧Dw tI a0.2.2.2.2.2.1=true∧Dw B6 a0.2.2.2.2.2.2.1=true∧True:=by
   have s:=hc
   obtain ⟨h0,s⟩:=Cb s
   obtain ⟨h1,s⟩:=Cb s
   obtain ⟨h2,s⟩:=Cb s
   obtain ⟨h3,s⟩:=Cb s
   obtain ⟨h4,s⟩:=Cb s
   obtain ⟨h5,s⟩:=Cb s
   obtain ⟨h6,s⟩:=Cb s
   exact ⟨h0,h1,h2,h3,h4,h5,h6,trivial⟩
  unfold V5
  have e6:Mf a0.2.2.2.2.2.2.1=some a0.2.2.2.2.2.2.1:=Adr (t:=B6) s6
  simp only [e6]
  rfl
theorem Aw8:Bm Tryz.prog 29 Afc:=
 Aw (pat:=Co) [] F8 (Ay (l:=[(85,Ah9),(86,V3)]) ⟨A17,Afb,trivial⟩) trivial Tryz.func29 (de:=fun x=>V5 x.1) (fun x r h=>A2 (Aw7 x.1) h) fun _=>by kernel_rfl
def Na (a:List Dh):Option (List (List Ar)):=if Dw (.sl B6) a=true then some (a.map Prod.fst) else none
def Atn:E5:=⟨[.rd (.sl B6)],[none],[.nst ⟨39,136,true⟩ Aq],[none]⟩
def Acb:SD:=⟨Atn,fun x=>(Na x.1).bind fun r=>some ((r,()),(()))⟩
def Acd:Tb:=tbN [(86,V3)]
def Jm:Nat→Da×(Nat→Da):=Gs [(4,⟨[.sl 0 0 B6,.back 3],[(0,.lf (.d (.sl B6))),(3,.lf (.row 0)),(4,.lf (.d tI))],[.last ⟨39,136,true⟩ Aq 0]⟩,[(2,⟨[.back 3],[(3,.lf (.row 0))],[.last ⟨39,136,true⟩ Aq 0]⟩)])]
def Zm:Code:=(At (Bc Tryz.f30)).getD 0 .skip
def Fr (v0:List Dh) (v4:Int) (r0:List (List Ar)) (c0:Bool):Nat:=((v0.length:Int) - v4).toNat + 1
def Kg {R:Type}  (NX:((List Dh)×(Int)×(List (List Ar))×(Bool)×Unit)→Option R) (X2:((List (List Ar))×(Bool)×Unit)→Option R) (v0:List Dh) (v4:Int) (r0:List (List Ar)) (c0:Bool):Option R:=
 bif decide (v4 < nI v0.length) then bif decide (0≤v4) then bif decide (v4 < nI v0.length) then ((Mf (v0.getD v4.toNat ([],()))).bind fun val=>some (val,())).bind fun val=>bif decide (0≤v4) then bif decide (v4 < nI (r0.length + c0.toNat)) then bif !c0 then bif decide (v4.toNat < r0.length) then NX (v0,IntKind.i64.wrap (v4 + 1),r0.set v4.toNat val.1.1,false,()) else none else none else none else none else none else none else X2 (r0,c0,())
def B8:Nat→(List Dh)→(Int)→(List (List Ar))→(Bool) →  Option ((List (List Ar))×(Bool)×Unit)
 | 0,_,_,_,_=>none
 | m + 1,v0,v4,r0,c0=>Kg  (fun d=>B8 m d.1 d.2.1 d.2.2.1 d.2.2.2.1) (fun d=>some (d)) v0 v4 r0 c0
def Am9 (d:(List Dh)×(Int)×(List (List Ar))×(Bool)×Unit):Option ((List (List Ar))×(Bool)×Unit):=(u4 Ae) (B8 ((u4 Ae) Fr d)) d
def T5 (a0:List Dh):Option ((((List (List Ar))×Unit)×(Unit))):=
 bif decide (nI a0.length=nI a0.length) then bif decide ((nI a0.length).toNat * 24≤140737488355328) then ((fun d=>B8 (Fr d.1 d.2.1 d.2.2.1 d.2.2.2.1) d.1 d.2.1 d.2.2.1 d.2.2.2.1) (a0,0,List.replicate (nI a0.length).toNat [],false,())).bind fun val=>(Option.bind (bif val.2.1 then none else some (some 0,val.1)) fun val=>some ((val.2,()),[val.1])).bind fun val=>bif Vm (A3 val.2++[]) then some (val.1,()) else none else none else none
theorem Ato (a0:List Dh) r (h:Na a0=some r):T5 a0=some ((r,()),(())):=by
 unfold Na at h
 split at h
 rotate_left
 ·cases h
 rename_i hc
 cases h
 obtain ⟨hl0,hall⟩:=Xq hc
 have hl:a0.length≤1048576:=hl0
 have hml:(a0.map Prod.fst).length=a0.length:=List.length_map _
 have hg:∀ i,i < a0.length→(a0.map Prod.fst).getD i []=(a0.getD i ([],())).1:=fun i hi=>by
  rw [List.getD_eq_getElem?_getD,List.getElem?_map,List.getD_eq_getElem?_getD,List.getElem?_eq_getElem hi]
  rfl
 have e:Int.toNat (nI a0.length)=a0.length:=by simp [nI]
 unfold T5
 have hL:=Ao4 (α:=List Ar) (xs:=a0.map Prod.fst) [] (g:=fun m i r=>B8 m a0 i r false) (ok:=fun r=>(r,false,())) (fun m i r hi hr=>by
  show B8 (m + 1) a0 i r false=B8 m a0 _ _ false
  rw [hml] at hi hr
  have hir:i < r.length:=by omega
  have hm:Mf (a0.getD i ([],()))=some (a0.getD i ([],())):=Adr (t:=B6) (x:=a0.getD i ([],())) (hall _ (N2 _ hi))
  rw [hg i hi]
  simp only [B8,Kg,Bool.toNat_false,Nat.add_zero,Bool.not_false,cond_true,Qv hi,Qv hir,Gt,Eo,A9d hir,hm,Option.bind_some]
  rw [wI (by omega)]
  try rfl) (fun m r=>by
  show B8 (m + 1) a0 (a0.map Prod.fst).length r false=_
  rw [hml]
  simp only [B8,Kg,Jx,cond_false]) (Fr a0 0 (List.replicate a0.length []) false) 0 (List.replicate a0.length []) (by omega) (by rw [hml]; simp [Fr]) (by rw [hml]; simp)
 have c1:decide (Int.toNat (nI a0.length) * 24≤140737488355328)=true:=by rw [e]; simp; omega
 rw [c1,Ap rfl,e]
 have hL':B8 (Fr a0 0 (List.replicate a0.length []) false) a0 0 (List.replicate a0.length []) false=_:=hL
 show ((B8 (Fr a0 0 (List.replicate a0.length []) false) a0 0 (List.replicate a0.length []) false).bind _)=_
 rw [hL']
 rfl
def Zn {R:Type} (k:Kt R):=(Ko (Jm 4) (.exit 0) 2 k)
def Afd {R:Type}:Lt R Jm:=(E3 (pat:=Jm) 4 (fun d k=>(Am9 d).bind (Zn k)) F8)
theorem Ace:Ax Tryz.prog Acd:=A0a ⟨Afb,trivial⟩
theorem Ana {R:Type}:A4 Tryz.prog R 23 0 Jm Afd Zm:=
 Cj (cfg:=⟨Acd,0,23,Jm⟩) 4 [] (fun NX X (d:(List Dh)×(Int)×(List (List Ar))×(Bool)×Unit)=>(u4 Ae) (Kg  NX X) d) (fun m d=>(u4 Ae) (B8 m) d) (fun d=>(u4 Ae) Fr d) Zn Ace trivial (fun f NX (d:(List Dh)×(Int)×(List (List Ar))×(Bool)×Unit)=>by simp only [u4,Ab,Ae]; unfold Kg; simp only [nb])
theorem Atp:Bm Tryz.prog 30 Acb:=
 Aw (pat:=Jm) [Zm] Afd Ace ⟨Ana,trivial⟩ Tryz.func30 (de:=fun x=>T5 x.1) (fun x r h=>A2 (Ato x.1) h) fun _=>by kernel_rfl
def Kh (a:S4):Option S4:=toM Xf a
def Aw9:E5:=⟨[.rd Xf],[some 16],[.rd tI,.own 9 .str,.own 151 Fb,.rd .bool,.rd tI,.rd tI,.rd tI,.rd tI,.rd tI,.rd tI,.rd tI,.rd tI,.rd tI,.own 136 Aq,.nst ⟨39,136,true⟩ Aq,.own 9 .str],[some 16]⟩
def Afe:SD:=⟨Aw9,fun x=>(Kh x.1).bind fun r=>some ((r.1,r.2.1.1,r.2.1.2.1,r.2.2.1,r.2.2.2.1.1,r.2.2.2.1.2.1,r.2.2.2.1.2.2.1,r.2.2.2.1.2.2.2.1.1,r.2.2.2.1.2.2.2.1.2.1,r.2.2.2.1.2.2.2.1.2.2.1,r.2.2.2.1.2.2.2.1.2.2.2.1,r.2.2.2.1.2.2.2.2.1,r.2.2.2.1.2.2.2.2.2.1,r.2.2.2.1.2.2.2.2.2.2.1.1,(List.map Prod.fst r.2.2.2.2.1),r.2.2.2.2.2.1,()),(()))⟩
def V6 (a0:S4):Option ((((Int)×(List Aa)×(List Wr)×(Bool)×(Int)×(Int)×(Int)×(Int)×(Int)×(Int)×(Int)×(Int)×(Int)×(List Ar)×(List (List Ar))×(List Aa)×Unit)×(Unit))):=
 ((Uq a0.2.1).bind fun val=>some (val,())).bind fun val=>((R6 a0.2.2.2.1).bind fun val=>some ((val.1,val.2.1,val.2.2.1,val.2.2.2.1.1,val.2.2.2.1.2.1,val.2.2.2.1.2.2.1,val.2.2.2.1.2.2.2.1,val.2.2.2.2.1,val.2.2.2.2.2.1,val.2.2.2.2.2.2.1),())).bind fun val_1=>((Na a0.2.2.2.2.1).bind fun val=>some ((val,()),())).bind fun val_2=>((Jk a0.2.2.2.2.2.1).bind fun val=>some ((val,()),())).bind fun val_3=>some ((a0.1,val.1.1,val.1.2.1,a0.2.2.1,val_1.1.1,val_1.1.2.1,val_1.1.2.2.1,val_1.1.2.2.2.1,val_1.1.2.2.2.2.1,val_1.1.2.2.2.2.2.1,val_1.1.2.2.2.2.2.2.1,val_1.1.2.2.2.2.2.2.2.1,val_1.1.2.2.2.2.2.2.2.2.1,val_1.1.2.2.2.2.2.2.2.2.2.1,val_2.1.1,val_3.1),())
theorem Axa (a0:S4) r (h:Kh a0=some r):V6 a0=some ((r.1,r.2.1.1,r.2.1.2.1,r.2.2.1,r.2.2.2.1.1,r.2.2.2.1.2.1,r.2.2.2.1.2.2.1,r.2.2.2.1.2.2.2.1.1,r.2.2.2.1.2.2.2.1.2.1,r.2.2.2.1.2.2.2.1.2.2.1,r.2.2.2.1.2.2.2.1.2.2.2.1,r.2.2.2.1.2.2.2.2.1,r.2.2.2.1.2.2.2.2.2.1,r.2.2.2.1.2.2.2.2.2.2.1.1,(List.map Prod.fst r.2.2.2.2.1),r.2.2.2.2.2.1,()),(())):=by
 obtain ⟨hc,rfl⟩:=Pa (t:=Xf) h
 ·obtain ⟨s0,s1,s2,s3,s4,s5,_⟩:Dw tI a0.1=true∧Dw Uw a0.2.1=true∧Dw .bool a0.2.2.1=true∧Dw Il a0.2.2.2.1=true∧Dw (.sl B6) a0.2.2.2.2.1=true∧Dw (.sl .str) a0.2.2.2.2.2.1=true∧True:=by
   have s:=hc
   obtain ⟨h0,s⟩:=Cb s
   obtain ⟨h1,s⟩:=Cb s
   obtain ⟨h2,s⟩:=Cb s
   obtain ⟨h3,s⟩:=Cb s
   obtain ⟨h4,s⟩:=Cb s
   obtain ⟨h5,s⟩:=Cb s
   exact ⟨h0,h1,h2,h3,h4,h5,trivial⟩
  unfold V6
  have e1:Uq a0.2.1=some a0.2.1:=Adr (t:=Uw) s1
  have e3:R6 a0.2.2.2.1=some a0.2.2.2.1:=Adr (t:=Il) s3
  have e4:Na a0.2.2.2.2.1=some (a0.2.2.2.2.1.map Prod.fst):=if_pos s4
  have e5:Jk a0.2.2.2.2.2.1=some a0.2.2.2.2.2.1:=Adr (t:=(.sl .str)) s5
  simp only [e1,e3,e4,e5]
  rfl
theorem Axb:Bm Tryz.prog 7 Afe:=
 Aw (pat:=Co) [] F8 (A0a (l:=[(28,Ah8),(29,Afc),(30,Acb),(31,R3)]) ⟨A14,Aw8,Atp,o5,trivial⟩) trivial Tryz.func7 (de:=fun x=>V6 x.1) (fun x r h=>A2 (Axa x.1) h) fun _=>by kernel_rfl
def Bs (v lo hi:Int):Bool:=Fg v lo hi
def Bcn:E5:=⟨[.rd tI,.rd tI,.rd tI],[none,none,none],[.rd .bool],[none]⟩
def D4:SD:=⟨Bcn,fun x=>some (((Bs x.1 x.2.1 x.2.2.1),()),(()))⟩
def Anb (a0 a1 a2:Int):Option ((((Bool)×Unit)×(Unit))):=
 bif decide (a0≥a1) then some ((decide (a0≤a2),()),()) else some ((false,()),())
theorem Bco (a0 a1 a2:Int):Anb a0 a1 a2=some ((Bs a0 a1 a2,()),()):=by
 unfold Anb Bs Fg
 by_cases h:a0≥a1
 ·have:decide (a1≤a0)=true:=by simpa using h
  simp [h,this]
 ·have:decide (a1≤a0)=false:=by simpa using h
  simp [h,this]
theorem Et:Bm Tryz.prog 56 D4:=
 Aw (pat:=Co) [] F8 (Ay (l:=[]) trivial) trivial Tryz.func56 (de:=fun x=>Anb x.1 x.2.1 x.2.2.1) (fun x r h=>(Bco x.1 x.2.1 x.2.2.1).trans h) fun _=>by kernel_rfl
def Hb (d:Dk):Bool:=B1 d
def Aqe:E5:=⟨[.rd Uw],[some 2],[.rd .bool],[none]⟩
def Li:SD:=⟨Aqe,fun x=>some (((Hb x.1),()),(()))⟩
def R7:Tb:=tb [(56,D4)]
def Cm:Nat→Da×(Nat→Da):=Gs [(5,⟨[.sl 19 0 .str,.boxSl 1 0 .str,.boxSl 1 1 Fb],[(1,.lf (.ptr 0 0)),(19,.lf (.d (.sl .str))),(20,.lf (.d tI)),(21,.lf (.d tI))],[.box 44 [.d (.sl .str),.d (.sl Fb)]]⟩,[(2,⟨[.boxSl 1 0 .str,.boxSl 1 1 Fb],[(1,.lf (.ptr 0 0))],[.box 44 [.d (.sl .str),.d (.sl Fb)]]⟩),(1,⟨[],[(2,.lf (.d .bool))],[]⟩)]),(11,⟨[.sl 30 0 Fb,.boxSl 1 0 .str,.boxSl 1 1 Fb],[(1,.lf (.ptr 0 0)),(30,.lf (.d (.sl Fb))),(31,.lf (.d tI)),(32,.lf (.d tI))],[.box 44 [.d (.sl .str),.d (.sl Fb)]]⟩,[(4,p0),(1,⟨[],[(2,.lf (.d .bool))],[]⟩)])]
def Wp:Code:=(At (Bc Tryz.f87)).getD 0 .skip
def U7:Code:=(At (Bc Tryz.f87)).getD 1 .skip
def D5 (v30:List Wr) (v31 v32:Int) (b0_0:List Aa) (b0_1:List Wr):Nat:=(v31 - v32).toNat + 1
def H1 {R:Type}  (NX:((List Wr)×(Int)×(Int)×(List Aa)×(List Wr)×Unit)→Option R) (X4:(Unit)→Option R) (X1:((Bool)×Unit)→Option R) (v30:List Wr) (v31:Int) (v32:Int) (b0_0:List Aa) (b0_1:List Wr):Option R:=
 bif decide (v32 < v31) then bif decide (0≤v32) then bif decide (v32 < nI v30.length) then bif !Bs (v30.getD v32.toNat (0,Ac,())).1 0 (IntKind.i64.wrap (nI b0_0.length - 1)) then X1 (false,()) else bif nI (ByteArray.size (v30.getD v32.toNat (0,Ac,())).2.1) != 64 then X1 (false,()) else NX (v30,v31,IntKind.i64.wrap (v32 + 1),b0_0,b0_1,()) else none else none else X4 PUnit.unit
def B4:Nat→(List Wr)→(Int)→(Int)→(List Aa)→(List Wr) →  Option ((Unit) ⊕ ((Bool)×Unit))
 | 0,_,_,_,_,_=>none
 | m + 1,v30,v31,v32,b0_0,b0_1=>H1  (fun d=>B4 m d.1 d.2.1 d.2.2.1 d.2.2.2.1 d.2.2.2.2.1) (fun d=>some (.inl (d))) (fun d=>some (.inr (d))) v30 v31 v32 b0_0 b0_1
def Aie (d:(List Wr)×(Int)×(Int)×(List Aa)×(List Wr)×Unit):Option ((Unit) ⊕ ((Bool)×Unit)):=(u4 (Ab Ae)) (B4 ((u4 (Ab Ae)) D5 d)) d
def Eu (v19:List Aa) (v20 v21:Int) (b0_0:List Aa) (b0_1:List Wr):Nat:=(v20 - v21).toNat + 1
def I0 {R:Type}  (NX:((List Aa)×(Int)×(Int)×(List Aa)×(List Wr)×Unit)→Option R) (X2:Dk→Option R) (X1:((Bool)×Unit)→Option R) (v19:List Aa) (v20:Int) (v21:Int) (b0_0:List Aa) (b0_1:List Wr):Option R:=
 bif decide (v21 < v20) then bif decide (0≤v21) then bif decide (v21 < nI v19.length) then bif nI (ByteArray.size (v19.getD v21.toNat (Ac))) != 64 then X1 (false,()) else NX (v19,v20,IntKind.i64.wrap (v21 + 1),b0_0,b0_1,()) else none else none else X2 (b0_0,b0_1,())
def Cg:Nat→(List Aa)→(Int)→(Int)→(List Aa)→(List Wr) →  Option (Dk ⊕ ((Bool)×Unit))
 | 0,_,_,_,_,_=>none
 | m + 1,v19,v20,v21,b0_0,b0_1=>I0  (fun d=>Cg m d.1 d.2.1 d.2.2.1 d.2.2.2.1 d.2.2.2.2.1) (fun d=>some (.inl (d))) (fun d=>some (.inr (d))) v19 v20 v21 b0_0 b0_1
def Aj9 (d:(List Aa)×(Int)×(Int)×(List Aa)×(List Wr)×Unit):Option (Dk ⊕ ((Bool)×Unit)):=(u4 (Ab Ae)) (Cg ((u4 (Ab Ae)) Eu d)) d
def R8 (a0:Dk):Option ((((Bool)×Unit)×(Unit))):=
 bif !Bs (nI (List.length a0.1)) 8 200 then some ((false,()),()) else bif decide (nI (List.length a0.2.1) > 300) then some ((false,()),()) else ((fun d=>Cg (Eu d.1 d.2.1 d.2.2.1 d.2.2.2.1 d.2.2.2.2.1) d.1 d.2.1 d.2.2.1 d.2.2.2.1 d.2.2.2.2.1) (a0.1,nI (List.length a0.1),0,a0)).bind fun val=>Bw (fun d=>((fun d=>B4 (D5 d.1 d.2.1 d.2.2.1 d.2.2.2.1 d.2.2.2.2.1) d.1 d.2.1 d.2.2.1 d.2.2.2.1 d.2.2.2.2.1) (d.2.1,nI (List.length d.2.1),0,d)).bind fun val=>Bw (fun d=>some ((true,()),())) (fun d=>some (d,())) val) (fun d=>some (d,())) val
theorem Aqf (a0:Dk):R8 a0=some ((Hb a0,()),()):=by
 unfold R8 Hb B1
 have c1:decide (nI a0.2.1.length > 300)=!decide (a0.2.1.length≤300):=Agx _ 300
 rw [c1]
 show (bif !Fg (a0.1.length:Int) 8 200 then _ else _)=_
 cases hin:Fg (a0.1.length:Int) 8 200 with
 | false=>rfl
 | true=>
  have hlen:a0.1.length≤200:=by have:=F0 (C6 hin).2; omega
  by_cases hp:a0.2.1.length≤300
  ·rw [Ap hp]
   have hL:=L2 (n:=a0.1.length) (fun i=>decide ((a0.1.getD i z0).size=64)) (g:=fun m i=>Cg m a0.1 (nI a0.1.length) i a0.1 a0.2.1) (ok:=.inl (a0.1,a0.2.1,())) (bad:=.inr (false,())) (fun m i hi=>by
    show Cg (m + 1) a0.1 (nI a0.1.length) i a0.1 a0.2.1=_
    simp only [Cg,I0]
    have g1:(nI (ByteArray.size (List.getD a0.1 i (Ac))) != 64)=!decide ((a0.1.getD i z0).size=64):=Be7 _ 64
    rw [Qv hi,Gt,wI (show i < 4611686018427387904 by omega),Eo,g1]
    cases decide ((a0.1.getD i z0).size=64)<;>rfl) (fun m=>by
    show Cg (m + 1) a0.1 (nI a0.1.length) (a0.1.length:Int) a0.1 a0.2.1=_
    simp only [Cg,I0]
    rw [Jx]
    rfl) (Eu a0.1 (nI a0.1.length) 0 a0.1 a0.2.1) 0 (by omega) (by simp [Eu,nI])
   have hL':Cg (Eu a0.1 (nI a0.1.length) 0 a0.1 a0.2.1) a0.1 (nI a0.1.length) 0 a0.1 a0.2.1=_:=hL
   have hM:=L2 (n:=a0.2.1.length) (fun i=>Av6 a0.1.length (a0.2.1.getD i zW)) (g:=fun m i=>B4 m a0.2.1 (nI a0.2.1.length) i a0.1 a0.2.1) (ok:=.inl ()) (bad:=.inr (false,())) (fun m i hi=>by
    show B4 (m + 1) a0.2.1 (nI a0.2.1.length) i a0.1 a0.2.1=_
    simp only [B4,H1]
    have g1:(nI (ByteArray.size (List.getD a0.2.1 i (0,Ac,())).2.1) != 64)=!decide ((a0.2.1.getD i zW).2.1.size=64):=Be7 _ 64
    have hw:IntKind.i64.wrap (nI a0.1.length - 1)=(a0.1.length:Int) - 1:=Aj (by simp only [nI]; omega) (by simp only [nI]; omega)
    rw [Qv hi,Gt,wI (show i < 4611686018427387904 by omega),Eo,g1,hw]
    have g2:Bs (List.getD a0.2.1 i (0,Ac,())).1 0 ((a0.1.length:Int) - 1)=(decide (0≤(a0.2.1.getD i zW).1)&&decide ((a0.2.1.getD i zW).1 < (a0.1.length:Int))):=by
     show (decide (0≤(a0.2.1.getD i zW).1)&&decide ((a0.2.1.getD i zW).1≤(a0.1.length:Int) - 1))=_
     congr 1
     exact decide_eq_decide.2 (by omega)
    rw [g2]
    unfold Av6
    cases decide (0≤(a0.2.1.getD i zW).1)<;>cases decide ((a0.2.1.getD i zW).1 < (a0.1.length:Int))<;>cases decide ((a0.2.1.getD i zW).2.1.size=64)<;>rfl) (fun m=>by
    show B4 (m + 1) a0.2.1 (nI a0.2.1.length) (a0.2.1.length:Int) a0.1 a0.2.1=_
    simp only [B4,H1]
    rw [Jx]
    rfl) (D5 a0.2.1 (nI a0.2.1.length) 0 a0.1 a0.2.1) 0 (by omega) (by simp [D5,nI])
   have hM':B4 (D5 a0.2.1 (nI a0.2.1.length) 0 a0.1 a0.2.1) a0.2.1 (nI a0.2.1.length) 0 a0.1 a0.2.1=_:=hM
   show (Cg (Eu a0.1 (nI a0.1.length) 0 a0.1 a0.2.1) a0.1 (nI a0.1.length) 0 a0.1 a0.2.1).bind _=_
   rw [hL']
   rw [Nat.sub_zero] at hM' ⊢
   cases (List.range' 0 a0.1.length).all (fun i=>decide ((a0.1.getD i z0).size=64)) with
   | false=>rfl
   | true=>
    show (B4 (D5 a0.2.1 (nI a0.2.1.length) 0 a0.1 a0.2.1) a0.2.1 (nI a0.2.1.length) 0 a0.1 a0.2.1).bind _=_
    rw [hM']
    cases (List.range' 0 a0.2.1.length).all (fun i=>Av6 a0.1.length (a0.2.1.getD i zW))<;>rfl
  ·rw [Bd hp]
   rfl
def Wq {R:Type} (k:Kt R):=(Bw (Ko (Cm 5) (.exit 0) 2 k) (Ko (Cm 5) .ret 1 k))
def U8 {R:Type} (k:Kt R):=(Bw (Ko (Cm 11) (.exit 2) 4 k) (Ko (Cm 11) .ret 1 k))
def T6 {R:Type}:Lt R Cm:=(E3 (pat:=Cm) 5 (fun d k=>(Aj9 d).bind (Wq k)) (E3 (pat:=Cm) 11 (fun d k=>(Aie d).bind (U8 k)) F8))
theorem R9:Ax Tryz.prog R7:=Ay ⟨Et,trivial⟩
theorem Aif {R:Type}:A4 Tryz.prog R 51 0 Cm T6 U7:=
 Cj (cfg:=⟨R7,0,51,Cm⟩) 11 [] (fun NX X d=>(u4 (Ab Ae)) (H1  NX (fun e=>X (.inl (e))) (fun e=>X (.inr (e)))) d) (fun m d=>(u4 (Ab Ae)) (B4 m) d) (fun d=>(u4 (Ab Ae)) D5 d) U8 R9 trivial (fun f NX d=>by simp only [u4,Ab,Ae]; unfold H1; simp only [nb])
theorem Aka {R:Type}:A4 Tryz.prog R 51 0 Cm T6 Wp:=
 Cj (cfg:=⟨R7,0,51,Cm⟩) 5 [] (fun NX X d=>(u4 (Ab Ae)) (I0  NX (fun e=>X (.inl (e))) (fun e=>X (.inr (e)))) d) (fun m d=>(u4 (Ab Ae)) (Cg m) d) (fun d=>(u4 (Ab Ae)) Eu d) Wq R9 trivial (fun f NX d=>by simp only [u4,Ab,Ae]; unfold I0; simp only [nb])
theorem Nt:Bm Tryz.prog 87 Li:=
 Aw (pat:=Cm) [Wp,U7] T6 R9 ⟨Aka,Aif,trivial⟩ Tryz.func87 (de:=fun x=>R8 x.1) (fun x r h=>(Aqf x.1).trans h) fun _=>by kernel_rfl
def Sa (k:Aa):Bool:=Qu k
def Axc:E5:=⟨[.rd .str],[none],[.rd .bool],[none]⟩
def V7:SD:=⟨Axc,fun x=>some (((Sa x.1),()),(()))⟩
def Aff (a0:Aa):Option ((((Bool)×Unit)×(Unit))):=
 some ((Bs (nI a0.size) 1 20,()),())
theorem Axd (a0:Aa):Aff a0=some ((Sa a0,()),()):=rfl
theorem Afg:Bm Tryz.prog 138 V7:=
 Aw (pat:=Co) [] F8 (Ay (l:=[(56,D4)]) ⟨Et,trivial⟩) trivial Tryz.func138 (de:=fun x=>Aff x.1) (fun x r h=>(Axd x.1).trans h) fun _=>by kernel_rfl
def E2 (s:Dh):Bool:=Av s
def Anc:E5:=⟨[.rd B6],[some 1],[.rd .bool],[none]⟩
def Hc:SD:=⟨Anc,fun x=>some (((E2 x.1),()),(()))⟩
def Zo:Tb:=tb [(138,V7)]
def Fs:Nat→Da×(Nat→Da):=Gs [(5,⟨[.sl 10 0 Aq,.boxSl 1 0 Aq],[(1,.lf (.ptr 0 0)),(10,.lf (.d (.sl Aq))),(11,.lf (.d tI)),(12,.lf (.d tI))],[.box 39 [.d (.sl Aq)]]⟩,[(2,p0),(1,⟨[],[(2,.lf (.d .bool))],[]⟩)])]
def U9:Code:=(At (Bc Tryz.f90)).getD 0 .skip
def D6 (v10:List Ar) (v11 v12:Int) (b0_0:List Ar):Nat:=(v11 - v12).toNat + 1
def H2 {R:Type}  (NX:((List Ar)×(Int)×(Int)×(List Ar)×Unit)→Option R) (X2:(Unit)→Option R) (X1:((Bool)×Unit)→Option R) (v10:List Ar) (v11:Int) (v12:Int) (b0_0:List Ar):Option R:=
 bif decide (v12 < v11) then bif decide (0≤v12) then bif decide (v12 < nI v10.length) then bif !Sa (v10.getD v12.toNat (Ac,Ac,())).1 then X1 (false,()) else bif decide (nI (ByteArray.size (v10.getD v12.toNat (Ac,Ac,())).2.1) > 100) then X1 (false,()) else bif decide (v12 > 0) then bif decide (0≤IntKind.i64.wrap (v12 - 1)) then bif decide (IntKind.i64.wrap (v12 - 1) < nI b0_0.length) then bif !Op.bytesLess (ByteArray.toList (b0_0.getD (IntKind.i64.wrap (v12 - 1)).toNat (Ac,Ac,())).1) (ByteArray.toList (v10.getD v12.toNat (Ac,Ac,())).1) then X1 (false,()) else NX (v10,v11,IntKind.i64.wrap (v12 + 1),b0_0,()) else none else none else NX (v10,v11,IntKind.i64.wrap (v12 + 1),b0_0,()) else none else none else X2 PUnit.unit
def B5:Nat→(List Ar)→(Int)→(Int)→(List Ar) →  Option ((Unit) ⊕ ((Bool)×Unit))
 | 0,_,_,_,_=>none
 | m + 1,v10,v11,v12,b0_0=>H2  (fun d=>B5 m d.1 d.2.1 d.2.2.1 d.2.2.2.1) (fun d=>some (.inl (d))) (fun d=>some (.inr (d))) v10 v11 v12 b0_0
def Aig (d:(List Ar)×(Int)×(Int)×(List Ar)×Unit):Option ((Unit) ⊕ ((Bool)×Unit)):=(u4 Ae) (B5 ((u4 Ae) D6 d)) d
def Qh (a0:Dh):Option ((((Bool)×Unit)×(Unit))):=
 bif decide (nI (List.length a0.1) > 100) then some ((false,()),()) else ((fun d=>B5 (D6 d.1 d.2.1 d.2.2.1 d.2.2.2.1) d.1 d.2.1 d.2.2.1 d.2.2.2.1) (a0.1,nI (List.length a0.1),0,a0)).bind fun val=>Bw (fun d=>some ((true,()),())) (fun d=>some (d,())) val
theorem Ane (a0:Dh):Qh a0=some ((E2 a0,()),()):=by
 unfold Qh E2 Av
 have c1:decide (nI a0.1.length > 100)=!decide (a0.1.length≤100):=Agx _ 100
 by_cases hl:a0.1.length≤100
 ·have hL:=L2 (n:=a0.1.length) (M4 a0.1) (g:=fun m i=>B5 m a0.1 (nI a0.1.length) i a0.1) (ok:=.inl ()) (bad:=.inr (false,())) (fun m i hi=>by
   show B5 (m + 1) a0.1 (nI a0.1.length) i a0.1=_
   simp only [B5,H2]
   have g1:decide (nI (ByteArray.size (List.getD a0.1 i (Ac,Ac,())).2.1) > 100)=!decide (ByteArray.size (List.getD a0.1 i zP).2.1≤100):=Agx _ 100
   rw [Qv hi,Gt,wI (show i < 4611686018427387904 by omega),Eo,gt0,g1]
   simp only [cond_true]
   unfold M4 bl
   show (bif !Qu (List.getD a0.1 i zP).1 then _ else _)=_
   cases i with
   | zero=>
    show (bif !Qu (List.getD a0.1 0 zP).1 then _ else bif !decide (ByteArray.size (List.getD a0.1 0 zP).2.1≤100) then _ else _)=_
    cases Qu (List.getD a0.1 0 zP).1<;>cases decide (ByteArray.size (List.getD a0.1 0 zP).2.1≤100)<;>rfl
   | succ j=>
    rw [wP j (by omega),Gt,Qv (show j < a0.1.length by omega)]
    show (bif !Qu (List.getD a0.1 (j + 1) zP).1 then _ else bif !decide (ByteArray.size (List.getD a0.1 (j + 1) zP).2.1≤100) then _ else bif !Op.bytesLess (ByteArray.toList (List.getD a0.1 j zP).1) (ByteArray.toList (List.getD a0.1 (j + 1) zP).1) then _ else _)=_
    rw [Nat.add_sub_cancel]
    cases Qu (List.getD a0.1 (j + 1) zP).1<;>cases decide (ByteArray.size (List.getD a0.1 (j + 1) zP).2.1≤100)<;>cases Op.bytesLess (ByteArray.toList (List.getD a0.1 j zP).1) (ByteArray.toList (List.getD a0.1 (j + 1) zP).1)<;>rfl) (fun m=>by
   show B5 (m + 1) a0.1 (nI a0.1.length) (a0.1.length:Int) a0.1=_
   simp only [B5,H2]
   rw [Jx]
   rfl) (D6 a0.1 (nI a0.1.length) 0 a0.1) 0 (by omega) (by simp [D6,nI])
  have hL':B5 (D6 a0.1 (nI a0.1.length) 0 a0.1) a0.1 (nI a0.1.length) 0 a0.1=_:=hL
  rw [c1,Ap hl]
  show (B5 (D6 a0.1 (nI a0.1.length) 0 a0.1) a0.1 (nI a0.1.length) 0 a0.1).bind _=_
  rw [hL']
  cases (List.range' 0 (a0.1.length - 0)).all (M4 a0.1)<;>rfl
 ·rw [c1,Bd hl]
  rfl
def Va {R:Type} (k:Kt R):=(Bw (Ko (Fs 5) (.exit 0) 2 k) (Ko (Fs 5) .ret 1 k))
def o8 {R:Type}:Lt R Fs:=(E3 (pat:=Fs) 5 (fun d k=>(Aig d).bind (Va k)) F8)
theorem Zp:Ax Tryz.prog Zo:=Ay ⟨Afg,trivial⟩
theorem Aih {R:Type}:A4 Tryz.prog R 44 0 Fs o8 U9:=
 Cj (cfg:=⟨Zo,0,44,Fs⟩) 5 [] (fun NX X d=>(u4 Ae) (H2  NX (fun e=>X (.inl (e))) (fun e=>X (.inr (e)))) d) (fun m d=>(u4 Ae) (B5 m) d) (fun d=>(u4 Ae) D6 d) Va Zp trivial (fun f NX d=>by simp only [u4,Ab,Ae]; unfold H2; simp only [nb])
theorem Mv:Bm Tryz.prog 90 Hc:=
 Aw (pat:=Fs) [U9] o8 Zp ⟨Aih,trivial⟩ Tryz.func90 (de:=fun x=>Qh x.1) (fun x r h=>(Ane x.1).trans h) fun _=>by kernel_rfl
def Bt (n:Int):Int:=Au n
def A2b:E5:=⟨[.rd tI],[none],[.rd tI],[none]⟩
def Od:SD:=⟨A2b,fun x=>some (((Bt x.1),()),(()))⟩
def Zq (a0:Int):Option ((((Int)×Unit)×(Unit))):=
 bif !Bs a0 8 200 then some ((0,()),()) else some ((IntKind.i64.wrap ((IntKind.i64.wrap (a0 - 2)).tdiv 2),()),())
theorem A2c (a0:Int):Zq a0=some (((Bt a0),()),(())):=by
 unfold Zq Bt Au
 show (bif !Fg a0 8 200 then _ else _)=_
 cases h:Fg a0 8 200 with
 | false=>rfl
 | true=>
  obtain ⟨h1,h2⟩:=Iu h
  rw [Au4 h1 h2]
  rfl
theorem Sb:Bm Tryz.prog 91 Od:=
 Aw (pat:=Co) [] F8 (Ay (l:=[(56,D4)]) ⟨Et,trivial⟩) trivial Tryz.func91 (de:=fun x=>Zq x.1) (fun x r h=>(A2c x.1).trans h) fun _=>by kernel_rfl
end Go.Proofs.YtjokieaajjmoeaaGreat.V
end
