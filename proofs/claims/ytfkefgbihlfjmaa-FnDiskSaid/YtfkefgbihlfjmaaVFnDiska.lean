/- What the functions that FnDisk reaches come to: part 1. No condition. -/
import Derived.Test.YtfkefgbihlfjmaaRCode
import Derived.Test.YtfkefgbihlfjmaaProg
import Derived.KernelRfl
noncomputable section
set_option linter.unusedVariables false
set_option linter.unusedSimpArgs false
namespace Go.Proofs.Ytfkefgbihlfjmaa.V
open Go Go.Proofs.Ytfkefgbihlfjmaa.R Go.Proofs
set_option maxRecDepth 100000
def Apj:Ji:=⟨[.rd (.sl (.int .u8))],[none],[.bx 116 (.pair (.sl (.int .u8)) (.pair tI .unit))],[none]⟩
def On (a0:List Int):Option (((((List Int)×Int×Unit)×Unit)×(Unit))):=
 bif decide (nI a0.length > 2000) then bif decide (2000≤nI a0.length) then some (((List.drop (Int.toNat 0) (List.take (Int.toNat 2000) a0),0,()),()),()) else none else some (((a0,0,()),()),())
theorem x5:∃ f,f=@On:=⟨_,rfl⟩
def M2:=Classical.choose x5
theorem x6:@M2=@On:=Classical.choose_spec x5
def x7:SD:=⟨Apj,fun x=>M2 x.1⟩
theorem A6t (b:List Int) (h:Ac1 (.sl (.int .u8)) b):Am (M2 b) fun r=>Po 0 r.1.1:=by
 obtain ⟨_,h⟩:=h
 have hb:∀ l:List Int,(∀ x∈l,x∈b)→l.length≤2000→rdB l=true:=fun l h1 h2=>by
  unfold rdB
  rw [Ag h2,Bool.true_and,List.all_eq_true]
  intro x hx
  obtain ⟨i,hi,e⟩:=List.getElem_of_mem (h1 x hx)
  have q:=h i x (by rw [← e]; exact List.getElem?_eq_getElem hi)
  have q:(Lit.int .u8 x).wf=true:=q
  simp only [Lit.wf,Bool.and_eq_true,decide_eq_true_eq] at q
  simp only [Bool.and_eq_true,decide_eq_true_eq]
  have q1:(0:Int)≤x:=q.1
  have q2:x≤255:=q.2
  omega
 rw [x6]
 unfold On
 refine Am.cond (fun c=>?_) fun c=>?_
 ·simp only [decide_eq_true_eq,nI] at c
  refine Am.go (Ag (by simp only [nI]; omega)) (Am.some ⟨hb _ (fun x hx=>List.mem_of_mem_take (List.mem_of_mem_drop hx)) ?_,Int.le_refl 0,Int.le_refl 0⟩)
  simp only [List.drop_zero,List.length_take,Int.toNat_zero]
  omega
 ·simp only [decide_eq_false_iff_not,nI] at c
  exact Am.some ⟨hb _ (fun x hx=>hx) (by show b.length≤2000; omega),Int.le_refl 0,Int.le_refl 0⟩
theorem Apk:Cp Try.prog 39 x7:=
 Bd (pat:=Ge) [] Ky (Bc (l:=[]) trivial) trivial Try.func39 (de:=fun x=>On x.1) (fun x r h=>by have q:M2 x.1=some r:=h; rw [x6] at q; exact q) fun _=>by kernel_rfl
def Agz (b:List Int) (p:Int):Int:=IntKind.i64.wrap (IntKind.i64.wrap (IntKind.i64.wrap (IntKind.i64.wrap (IntKind.i64.wrap (b.getD (p.tmod (nI b.length)).toNat 0) * 131) + IntKind.i64.wrap (IntKind.i64.wrap (b.getD ((IntKind.i64.wrap (IntKind.i64.wrap (p * 7) + 3)).tmod (nI b.length)).toNat 0) * 1117)) + IntKind.i64.wrap (p * 29)) + IntKind.i64.wrap (IntKind.i64.wrap (p.tdiv (nI b.length)) * 53))
def Apl (b:List Int) (p n:Int):Int:=bif decide (n < 1) then 0 else bif nI b.length==0 then 0 else bif decide (p < nI b.length) then (IntKind.i64.wrap (b.getD p.toNat 0)).tmod n else
 (IntKind.i64.wrap (nI (BitVec.ofInt 64 (Agz b p) ^^^ BitVec.ofInt 64 (IntKind.i64.wrap ((Agz b p).tdiv 64))).toNat)).tmod n
theorem A08:∃ f:Rd→Int→Option (Int×Rd),f=fun r n=>if rdB r.1=true∧0≤r.2.1∧r.2.1 < 1099511627776 then some (Apl r.1 r.2.1 n,(r.1,r.2.1 + 1,())) else none:=⟨_,rfl⟩
def Aa (r:Rd) (n:Int):Option (Int×Rd):=Classical.choose A08 r n
theorem A09 (r:Rd) (n:Int):Aa r n=if rdB r.1=true∧0≤r.2.1∧r.2.1 < 1099511627776 then some (Apl r.1 r.2.1 n,(r.1,r.2.1 + 1,())) else none:=by
 unfold Aa
 rw [Classical.choose_spec A08]
def Aez:Ji:=⟨[.bx 116 (.pair (.sl (.int .u8)) (.pair tI .unit)),.rd tI],[none,none],[.rd tI],[none]⟩
def Bq:SD:=⟨Aez,fun x=>(Aa x.1 x.2.1).bind fun r=>some ((r.1,()),(r.2,()))⟩
def Nr (a0:(List Int)×Int×Unit) (a1:Int):Option ((((Int)×Unit)×(((List Int)×Int×Unit)×Unit))):=
 bif decide (a1 < 1) then some ((0,()),(a0.1,IntKind.i64.wrap (a0.2.1 + 1),()),()) else bif nI (List.length a0.1)==0 then some ((0,()),(a0.1,IntKind.i64.wrap (a0.2.1 + 1),()),()) else bif decide (IntKind.i64.wrap (IntKind.i64.wrap (a0.2.1 + 1) - 1) < nI (List.length a0.1)) then bif decide (0≤IntKind.i64.wrap (IntKind.i64.wrap (a0.2.1 + 1) - 1)) then bif decide (IntKind.i64.wrap (IntKind.i64.wrap (a0.2.1 + 1) - 1) < nI (List.length a0.1)) then bif !decide (a1=0) then some (((IntKind.i64.wrap (List.getD a0.1 (IntKind.i64.wrap (IntKind.i64.wrap (a0.2.1 + 1) - 1)).toNat 0)).tmod a1,()),(a0.1,IntKind.i64.wrap (a0.2.1 + 1),()),()) else none else none else none else bif !decide (nI (List.length a0.1)=0) then bif decide (0≤(IntKind.i64.wrap (IntKind.i64.wrap (a0.2.1 + 1) - 1)).tmod (nI (List.length a0.1))) then bif decide ((IntKind.i64.wrap (IntKind.i64.wrap (a0.2.1 + 1) - 1)).tmod (nI (List.length a0.1)) < nI (List.length a0.1)) then bif !decide (nI (List.length a0.1)=0) then bif decide (0≤(IntKind.i64.wrap (IntKind.i64.wrap (IntKind.i64.wrap (IntKind.i64.wrap (a0.2.1 + 1) - 1) * 7) + 3)).tmod (nI (List.length a0.1))) then bif decide ((IntKind.i64.wrap (IntKind.i64.wrap (IntKind.i64.wrap (IntKind.i64.wrap (a0.2.1 + 1) - 1) * 7) + 3)).tmod (nI (List.length a0.1)) < nI (List.length a0.1)) then bif !decide (nI (List.length a0.1)=0) then bif !decide (a1=0) then some (((IntKind.i64.wrap (nI (BitVec.ofInt 64 (IntKind.i64.wrap (IntKind.i64.wrap (IntKind.i64.wrap (IntKind.i64.wrap (IntKind.i64.wrap (List.getD a0.1 ((IntKind.i64.wrap (IntKind.i64.wrap (a0.2.1 + 1) - 1)).tmod (nI (List.length a0.1))).toNat 0) * 131) + IntKind.i64.wrap (IntKind.i64.wrap (List.getD a0.1 ((IntKind.i64.wrap (IntKind.i64.wrap (IntKind.i64.wrap (IntKind.i64.wrap (a0.2.1 + 1) - 1) * 7) + 3)).tmod (nI (List.length a0.1))).toNat 0) * 1117)) + IntKind.i64.wrap (IntKind.i64.wrap (IntKind.i64.wrap (a0.2.1 + 1) - 1) * 29)) + IntKind.i64.wrap (IntKind.i64.wrap ((IntKind.i64.wrap (IntKind.i64.wrap (a0.2.1 + 1) - 1)).tdiv (nI (List.length a0.1))) * 53))) ^^^ BitVec.ofInt 64 (IntKind.i64.wrap ((IntKind.i64.wrap (IntKind.i64.wrap (IntKind.i64.wrap (IntKind.i64.wrap (IntKind.i64.wrap (List.getD a0.1 ((IntKind.i64.wrap (IntKind.i64.wrap (a0.2.1 + 1) - 1)).tmod (nI (List.length a0.1))).toNat 0) * 131) + IntKind.i64.wrap (IntKind.i64.wrap (List.getD a0.1 ((IntKind.i64.wrap (IntKind.i64.wrap (IntKind.i64.wrap (IntKind.i64.wrap (a0.2.1 + 1) - 1) * 7) + 3)).tmod (nI (List.length a0.1))).toNat 0) * 1117)) + IntKind.i64.wrap (IntKind.i64.wrap (IntKind.i64.wrap (a0.2.1 + 1) - 1) * 29)) + IntKind.i64.wrap (IntKind.i64.wrap ((IntKind.i64.wrap (IntKind.i64.wrap (a0.2.1 + 1) - 1)).tdiv (nI (List.length a0.1))) * 53))).tdiv 64))).toNat)).tmod a1,()),(a0.1,IntKind.i64.wrap (a0.2.1 + 1),()),()) else none else none else none else none else none else none else none else none
theorem A5a {b:List Int} {p:Int} (hb:rdB b=true) (h0:0≤p) (h1:p < 1099511627776) (hn:0 < b.length):0≤Agz b p∧Agz b p < 1125899906842624:=by
 have c1:=Aza hb (p.tmod (nI b.length)).toNat
 have c2:=Aza hb ((IntKind.i64.wrap (IntKind.i64.wrap (p * 7) + 3)).tmod (nI b.length)).toNat
 have c3:0≤p.tdiv (nI b.length)∧p.tdiv (nI b.length)≤p:=by
  rw [Int.tdiv_eq_ediv_of_nonneg h0]
  exact ⟨Int.ediv_nonneg h0 (by simp [nI]),Int.ediv_le_self _ h0⟩
 unfold Agz
 generalize b.getD (p.tmod (nI b.length)).toNat 0=x at *
 generalize b.getD ((IntKind.i64.wrap (IntKind.i64.wrap (p * 7) + 3)).tmod (nI b.length)).toNat 0=y at *
 generalize p.tdiv (nI b.length)=z at *
 rw [Al (n:=x) (by omega) (by omega),Al (n:=y) (by omega) (by omega),Al (n:=z) (by omega) (by omega),Al (n:=y * 1117) (by omega) (by omega),Al (n:=x * 131) (by omega) (by omega),Al (n:=p * 29) (by omega) (by omega),Al (n:=z * 53) (by omega) (by omega),Al (n:=x * 131 + y * 1117) (by omega) (by omega),Al (n:=x * 131 + y * 1117 + p * 29) (by omega) (by omega),Al (by omega) (by omega)]
 omega
theorem A5b {b:List Int} {p n:Int} (hb:rdB b=true) (h0:0≤p) (h1:p < 1099511627776):0≤Apl b p n∧(1≤n→Apl b p n < n)∧(n < 1→Apl b p n=0):=by
 unfold Apl
 by_cases hn:n < 1
 ·rw [Ag hn]
  exact ⟨Int.le_refl 0,fun q=>by omega,fun _=>rfl⟩
 ·rw [Bh hn,cond_false]
  refine ⟨?_,fun _=>?_,fun q=>absurd q hn⟩
  all_goals
   by_cases hl:b.length=0
   ·rw [show (nI b.length==0)=true by simp [nI,hl]]
    simp only [cond_true]
    omega
   ·rw [show (nI b.length==0)=false by simp only [nI,beq_eq_false_iff_ne]; omega,cond_false]
    by_cases hp:p < nI b.length
    ·rw [Ag hp,cond_true]
     have c:=Aza hb p.toNat
     rw [Al (by omega) (by omega)]
     have:=Ane (x:=b.getD p.toNat 0) (n:=n) c.1 (by omega)
     omega
    ·rw [Bh hp,cond_false]
     obtain ⟨x0,x1⟩:=A5a hb h0 h1 (by omega)
     have t:0≤(Agz b p).tdiv 64∧(Agz b p).tdiv 64≤Agz b p:=by
      rw [Int.tdiv_eq_ediv_of_nonneg x0]
      omega
     rw [Al (n:=(Agz b p).tdiv 64) (by omega) (by omega)]
     have:=Ane (n:=n) (A2g x0 (by omega) t.1 (by omega)) (by omega)
     omega
theorem A6u {k:Nat} {r:Rd} (n:Int) (h:Po k r) (hk:k < 1099511627776):∃ v,Aa r n=some (v,(r.1,r.2.1 + 1,()))∧0≤v∧(1≤n→v < n)∧(n < 1→v=0)∧Po (k + 1) (r.1,r.2.1 + 1,()):=by
 obtain ⟨h1,h2,h3⟩:=h
 have hn:=A5b (n:=n) h1 h2 (by omega)
 exact ⟨_,by rw [A09,if_pos ⟨h1,h2,by omega⟩],hn.1,hn.2.1,hn.2.2,h1,by show 0≤r.2.1 + 1; omega,by show r.2.1 + 1≤((k + 1:Nat):Int); omega⟩
theorem Az {α:Type} {k:Nat} {r:Rd} {n:Int} {f:(Int×Unit)×Rd×Unit→Option α} {S:α→Prop} (h:Po k r) (hk:k < 1099511627776) (hn:1≤n) (q:∀ v r',0≤v→v < n→Po (k + 1) r'→Am (f ((v,()),r',())) S):
  Am (((Aa r n).bind fun val=>some ((val.1,()),val.2,())).bind f) S:=by
 obtain ⟨v,e,v0,v1,_,h'⟩:=A6u n h hk
 rw [e]
 exact q v _ v0 (v1 hn) h'
theorem Ae0 (a0:(List Int)×Int×Unit) (a1:Int) r (h:Aa a0 a1=some r):Nr a0 a1=some ((r.1,()),(r.2,())):=by
 rw [A09] at h
 split at h
 ·rename_i hc
  obtain ⟨hb,h0,h1⟩:=hc
  cases h
  unfold Nr
  have e1:IntKind.i64.wrap (a0.2.1 + 1)=a0.2.1 + 1:=Al (by omega) (by omega)
  have e2:IntKind.i64.wrap (a0.2.1 + 1 - 1)=a0.2.1:=by rw [Al (by omega) (by omega)]; omega
  simp only [e1,e2]
  unfold Apl
  by_cases hn:a1 < 1
  ·rw [Ag hn]; rfl
  ·rw [Bh hn]
   have hn0:decide (a1=0)=false:=Bh (by omega)
   simp only [cond_false]
   by_cases hl:a0.1.length=0
   ·rw [show (nI a0.1.length==0)=true by simp [nI,hl]]; rfl
   ·rw [show (nI a0.1.length==0)=false by simp only [nI,beq_eq_false_iff_ne]; omega]
    have hl0:decide (nI a0.1.length=0)=false:=Bh (by simp only [nI]; omega)
    simp only [cond_false]
    by_cases hp:a0.2.1 < nI a0.1.length
    ·rw [Ag hp,Ag h0,hn0]; rfl
    ·have t1:=Ane (n:=nI a0.1.length) h0 (by simp only [nI]; omega)
     have w7:IntKind.i64.wrap (IntKind.i64.wrap (a0.2.1 * 7) + 3)=a0.2.1 * 7 + 3:=by rw [Al (n:=a0.2.1 * 7) (by omega) (by omega),Al (by omega) (by omega)]
     have t2:=Ane (x:=a0.2.1 * 7 + 3) (n:=nI a0.1.length) (by omega) (by simp only [nI]; omega)
     rw [← w7] at t2
     rw [Bh hp,hl0,hn0,Ag t1.1,Ag t1.2,Ag t2.1,Ag t2.2]
     rfl
 ·cases h
theorem B3:Cp Try.prog 42 Bq:=
 Bd (pat:=Ge) [] Ky (Bc (l:=[]) trivial) trivial Try.func42 (de:=fun x=>Nr x.1 x.2.1) (fun x r h=>Ie (Ae0 x.1 x.2.1) h) fun _=>by kernel_rfl
def Cm (d:Dk):Option Dk:=if d.1.length≤1099511627776∧d.2.1.length≤1099511627776 then some d else none
def Apm:Ji:=⟨[.rd yDk],[some 2],[.own 9 .str,.own 82 Cl],[some 2]⟩
def Ho:SD:=⟨Apm,fun x=>(Cm x.1).bind fun r=>some ((r.1,r.2.1,()),(()))⟩
def Tp (a0:Dk):Option ((Dk×(Unit))):=
 bif decide ((0 + List.length a0.1) * 16≤140737488355328) then bif decide ((0 + List.length a0.2.1) * 24≤140737488355328) then some (([]++a0.1,[]++a0.2.1,()),()) else none else none
theorem Apn (a0:Dk) r (h:Cm a0=some r):Tp a0=some ((r.1,r.2.1,()),(())):=by
 unfold Cm at h
 split at h
 ·rename_i hc
  cases h
  unfold Tp
  have c1:(0 + List.length a0.1) * 16≤140737488355328:=by omega
  have c2:(0 + List.length a0.2.1) * 24≤140737488355328:=by omega
  rw [Ag c1,Ag c2]
  rfl
 ·cases h
theorem Jz:Cp Try.prog 47 Ho:=
 Bd (pat:=Ge) [] Ky (Bc (l:=[]) trivial) trivial Try.func47 (de:=fun x=>Tp x.1) (fun x r h=>Ie (Apn x.1) h) fun _=>by kernel_rfl
def Cz (s:Ki):Option Ki:=if s.1.length≤1000000 then some (s.1,()) else none
def Apo:Ji:=⟨[.rd Ln],[some 1],[.own 67 B2],[some 1]⟩
def Lx:SD:=⟨Apo,fun x=>(Cz x.1).bind fun r=>some ((r.1,()),(()))⟩
def Tq (a0:Ki):Option ((Ki×(Unit))):=
 bif decide ((0 + List.length a0.1) * 32≤140737488355328) then some (([]++a0.1,()),()) else none
theorem App (a0:Ki) r (h:Cz a0=some r):Tq a0=some ((r.1,()),(())):=by
 unfold Cz at h
 split at h
 ·rename_i hc
  cases h
  unfold Tq
  rw [Ag (show (0 + a0.1.length) * 32≤140737488355328 by omega)]
  rfl
 ·cases h
theorem Oo:Cp Try.prog 93 Lx:=
 Bd (pat:=Ge) [] Ky (Bc (l:=[]) trivial) trivial Try.func93 (de:=fun x=>Tq x.1) (fun x r h=>Ie (App x.1) h) fun _=>by kernel_rfl
def Apq:Ji:=⟨[.rd Nn],[some 16],[.rd tI,.own 9 .str,.own 82 Cl,.rd .bool,.rd tI,.rd tI,.rd tI,.rd tI,.rd tI,.rd tI,.rd tI,.rd tI,.rd tI,.rd (.sl B2),.own 30 Ln,.own 9 .str],[some 16]⟩
def x8:Tb:=tb [(47,Ho),(93,Lx)]
def J0:Nat→Du×(Nat→Du):=Ix [(7,⟨[.boxSl 1 1 .str,.boxSl 1 2 Cl,.boxSl 1 13 B2,.boxSl 1 14 Ln,.boxSl 1 15 .str,.boxSl 2 1 .str,.boxSl 2 2 Cl,.boxSl 2 13 B2,.boxSl 2 14 Ln,.boxSl 2 15 .str,.boxRow 3 1 9 .str,.boxRow 3 2 82 Cl,.boxSl 3 13 B2,.boxRow 3 14 30 Ln,.boxSl 3 15 .str],[(1,.lf (.ptr 0 0)),(2,.lf (.ptr 1 0)),(3,.lf (.ptr 2 0)),(4,.lf (.d tI))],[.box 98 [.d Nn],.box 98 [.d Nn],.box 98 [.d tI,.row 3,.row 4,.d .bool,.d tI,.d tI,.d tI,.d tI,.d tI,.d tI,.d tI,.d tI,.d tI,.d (.sl B2),.row 5,.d (.sl .str)],.row 9 .str,.row 82 Cl,.row 30 Ln]⟩,[(2,⟨[.boxSl 1 1 .str,.boxSl 1 2 Cl,.boxSl 1 13 B2,.boxSl 1 14 Ln,.boxSl 1 15 .str,.boxSl 2 1 .str,.boxSl 2 2 Cl,.boxSl 2 13 B2,.boxSl 2 14 Ln,.boxSl 2 15 .str,.boxRow 3 1 9 .str,.boxRow 3 2 82 Cl,.boxSl 3 13 B2,.boxRow 3 14 30 Ln,.boxSl 3 15 .str],[(1,.lf (.ptr 0 0)),(2,.lf (.ptr 1 0)),(3,.lf (.ptr 2 0))],[.box 98 [.d Nn],.box 98 [.d Nn],.box 98 [.d tI,.row 3,.row 4,.d .bool,.d tI,.d tI,.d tI,.d tI,.d tI,.d tI,.d tI,.d tI,.d tI,.d (.sl B2),.row 5,.d (.sl .str)],.row 9 .str,.row 82 Cl,.row 30 Ln]⟩)])]
def X6:Code:=(Av (Bl Try.f78)).getD 0 .skip
def Hc (v4:Int) (b0 b1:C5) (b2_0:Int) (b2_3:Bool) (b2_4 b2_5:Int) (b2_6 b2_7:Int) (b2_8 b2_9:Int) (b2_10 b2_11 b2_12:Int) (b2_13:List Bw) (b2_15 r3:List Ab) (r4:List Wr) (r5:List Ki):Nat:=((List.length b0.2.2.2.2.1:Int) - v4).toNat + 1
def J1 {R:Type}  (NX:((Int)×C5×C5×(Int)×(Bool)×(Int)×(Int)×(Int)×(Int)×(Int)×(Int)×(Int)×(Int)×(Int)×(List Bw)×(List Ab)×(List Ab)×(List Wr)×(List Ki)×Unit)→Option R) (X2:(C5×C5×(Int)×(Bool)×(Int)×(Int)×(Int)×(Int)×(Int)×(Int)×(Int)×(Int)×(Int)×(List Bw)×(List Ab)×(List Ab)×(List Wr)×(List Ki)×Unit)→Option R) (v4:Int) (b0:C5) (b1:C5) (b2_0:Int) (b2_3:Bool) (b2_4:Int) (b2_5:Int) (b2_6:Int) (b2_7:Int) (b2_8:Int) (b2_9:Int) (b2_10:Int) (b2_11:Int) (b2_12:Int) (b2_13:List Bw) (b2_15:List Ab) (r3:List Ab) (r4:List Wr) (r5:List Ki):Option R:=
 bif decide (v4 < nI (List.length b0.2.2.2.2.1)) then bif decide (0≤v4) then bif decide (v4 < nI (List.length b0.2.2.2.2.1)) then ((Cz (List.getD b0.2.2.2.2.1 v4.toNat ([],()))).bind fun val=>some (val,())).bind fun val=>bif decide ((r5.length + [val.1].length) * 24≤140737488355328) then NX (IntKind.i64.wrap (v4 + 1),b0,b1,b2_0,b2_3,b2_4,b2_5,b2_6,b2_7,b2_8,b2_9,b2_10,b2_11,b2_12,b2_13,b2_15,r3,r4,r5++[val.1],()) else none else none else none else X2 (b0,b1,b2_0,b2_3,b2_4,b2_5,b2_6,b2_7,b2_8,b2_9,b2_10,b2_11,b2_12,b2_13,b2_15,r3,r4,r5,())
def Es:Nat→(Int)→C5→C5→(Int)→(Bool)→(Int)→(Int)→(Int)→(Int)→(Int)→(Int)→(Int)→(Int)→(Int)→(List Bw)→(List Ab)→(List Ab)→(List Wr)→(List Ki) →  Option (C5×C5×(Int)×(Bool)×(Int)×(Int)×(Int)×(Int)×(Int)×(Int)×(Int)×(Int)×(Int)×(List Bw)×(List Ab)×(List Ab)×(List Wr)×(List Ki)×Unit)
 | 0,_,_,_,_,_,_,_,_,_,_,_,_,_,_,_,_,_,_,_=>none
 | m + 1,v4,b0,b1,b2_0,b2_3,b2_4,b2_5,b2_6,b2_7,b2_8,b2_9,b2_10,b2_11,b2_12,b2_13,b2_15,r3,r4,r5=>J1  (fun d=>Es m d.1 d.2.1 d.2.2.1 d.2.2.2.1 d.2.2.2.2.1 d.2.2.2.2.2.1 d.2.2.2.2.2.2.1 d.2.2.2.2.2.2.2.1 d.2.2.2.2.2.2.2.2.1 d.2.2.2.2.2.2.2.2.2.1 d.2.2.2.2.2.2.2.2.2.2.1 d.2.2.2.2.2.2.2.2.2.2.2.1 d.2.2.2.2.2.2.2.2.2.2.2.2.1 d.2.2.2.2.2.2.2.2.2.2.2.2.2.1 d.2.2.2.2.2.2.2.2.2.2.2.2.2.2.1 d.2.2.2.2.2.2.2.2.2.2.2.2.2.2.2.1 d.2.2.2.2.2.2.2.2.2.2.2.2.2.2.2.2.1 d.2.2.2.2.2.2.2.2.2.2.2.2.2.2.2.2.2.1 d.2.2.2.2.2.2.2.2.2.2.2.2.2.2.2.2.2.2.1) (fun d=>some (d)) v4 b0 b1 b2_0 b2_3 b2_4 b2_5 b2_6 b2_7 b2_8 b2_9 b2_10 b2_11 b2_12 b2_13 b2_15 r3 r4 r5
def Ajk (d:(Int)×C5×C5×(Int)×(Bool)×(Int)×(Int)×(Int)×(Int)×(Int)×(Int)×(Int)×(Int)×(Int)×(List Bw)×(List Ab)×(List Ab)×(List Wr)×(List Ki)×Unit):Option (C5×C5×(Int)×(Bool)×(Int)×(Int)×(Int)×(Int)×(Int)×(Int)×(Int)×(Int)×(Int)×(List Bw)×(List Ab)×(List Ab)×(List Wr)×(List Ki)×Unit):=(u4 (u4 (u4 (u4 (Ac (Ac (Ac Ah))))))) (Es ((u4 (u4 (u4 (u4 (Ac (Ac (Ac Ah))))))) Hc d)) d
def Oq (a0:C5):Option ((((Int)×(List Ab)×(List Wr)×(Bool)×(Int)×(Int)×(Int)×(Int)×(Int)×(Int)×(Int)×(Int)×(Int)×(List Bw)×(List Ki)×(List Ab)×Unit)×(Unit))):=
 ((Cm a0.2.1).bind fun val=>some (val,())).bind fun val=>((Cz a0.2.2.2.1.2.2.2.2.2.2.1).bind fun val=>some (val,())).bind fun val_1=>((fun d=>Es (Hc d.1 d.2.1 d.2.2.1 d.2.2.2.1 d.2.2.2.2.1 d.2.2.2.2.2.1 d.2.2.2.2.2.2.1 d.2.2.2.2.2.2.2.1 d.2.2.2.2.2.2.2.2.1 d.2.2.2.2.2.2.2.2.2.1 d.2.2.2.2.2.2.2.2.2.2.1 d.2.2.2.2.2.2.2.2.2.2.2.1 d.2.2.2.2.2.2.2.2.2.2.2.2.1 d.2.2.2.2.2.2.2.2.2.2.2.2.2.1 d.2.2.2.2.2.2.2.2.2.2.2.2.2.2.1 d.2.2.2.2.2.2.2.2.2.2.2.2.2.2.2.1 d.2.2.2.2.2.2.2.2.2.2.2.2.2.2.2.2.1 d.2.2.2.2.2.2.2.2.2.2.2.2.2.2.2.2.2.1 d.2.2.2.2.2.2.2.2.2.2.2.2.2.2.2.2.2.2.1) d.1 d.2.1 d.2.2.1 d.2.2.2.1 d.2.2.2.2.1 d.2.2.2.2.2.1 d.2.2.2.2.2.2.1 d.2.2.2.2.2.2.2.1 d.2.2.2.2.2.2.2.2.1 d.2.2.2.2.2.2.2.2.2.1 d.2.2.2.2.2.2.2.2.2.2.1 d.2.2.2.2.2.2.2.2.2.2.2.1 d.2.2.2.2.2.2.2.2.2.2.2.2.1 d.2.2.2.2.2.2.2.2.2.2.2.2.2.1 d.2.2.2.2.2.2.2.2.2.2.2.2.2.2.1 d.2.2.2.2.2.2.2.2.2.2.2.2.2.2.2.1 d.2.2.2.2.2.2.2.2.2.2.2.2.2.2.2.2.1 d.2.2.2.2.2.2.2.2.2.2.2.2.2.2.2.2.2.1 d.2.2.2.2.2.2.2.2.2.2.2.2.2.2.2.2.2.2.1) (0,a0,(0,([],[],()),false,(0,0,0,(0,0,0,0,()),0,0,([],()),()),[],[],()),a0.1,a0.2.2.1,a0.2.2.2.1.1,a0.2.2.2.1.2.1,a0.2.2.2.1.2.2.1,a0.2.2.2.1.2.2.2.1.1,a0.2.2.2.1.2.2.2.1.2.1,a0.2.2.2.1.2.2.2.1.2.2.1,a0.2.2.2.1.2.2.2.1.2.2.2.1,a0.2.2.2.1.2.2.2.2.1,a0.2.2.2.1.2.2.2.2.2.1,val_1.1.1,a0.2.2.2.2.2.1,val.1.1,val.1.2.1,[],())).bind fun val=>bif decide ((0 + List.length val.1.2.2.2.2.2.1) * 16≤140737488355328) then some ((val.2.2.1,val.2.2.2.2.2.2.2.2.2.2.2.2.2.2.2.1,val.2.2.2.2.2.2.2.2.2.2.2.2.2.2.2.2.1,val.2.2.2.1,val.2.2.2.2.1,val.2.2.2.2.2.1,val.2.2.2.2.2.2.1,val.2.2.2.2.2.2.2.1,val.2.2.2.2.2.2.2.2.1,val.2.2.2.2.2.2.2.2.2.1,val.2.2.2.2.2.2.2.2.2.2.1,val.2.2.2.2.2.2.2.2.2.2.2.1,val.2.2.2.2.2.2.2.2.2.2.2.2.1,val.2.2.2.2.2.2.2.2.2.2.2.2.2.1,val.2.2.2.2.2.2.2.2.2.2.2.2.2.2.2.2.2.1,[]++val.1.2.2.2.2.2.1,()),()) else none
theorem x9:∃ f,f=@Oq:=⟨_,rfl⟩
def Jm:=Classical.choose x9
theorem y5:@Jm=@Oq:=Classical.choose_spec x9
def y6:SD:=⟨Apq,fun x=>Jm x.1⟩
theorem A1a (b0 b1:C5) (b2_0:Int) (b2_3:Bool) (b2_4 b2_5:Int) (b2_6 b2_7:Int) (b2_8 b2_9:Int) (b2_10 b2_11 b2_12:Int) (b2_13:List Bw) (b2_15 r3:List Ab) (r4:List Wr) (hs:∀ x∈b0.2.2.2.2.1,Aq x=true) (hn:b0.2.2.2.2.1.length≤200):∀ (k m i:Nat) (r:List Ki),i + k=b0.2.2.2.2.1.length→k < m→r.length=i→r=b0.2.2.2.2.1.take i→
  ∃ r':List Ki,Es m i b0 b1 b2_0 b2_3 b2_4 b2_5 b2_6 b2_7 b2_8 b2_9 b2_10 b2_11 b2_12 b2_13 b2_15 r3 r4 r=some (b0,b1,b2_0,b2_3,b2_4,b2_5,b2_6,b2_7,b2_8,b2_9,b2_10,b2_11,b2_12,b2_13,b2_15,r3,r4,r',())∧r'=b0.2.2.2.2.1
 | 0,m + 1,i,r,hi,_,hr,hv=>by
  refine ⟨r,?_,by rw [hv,List.take_of_length_le (by omega)]⟩
  simp only [Es,J1]
  rw [Bh (show ¬ (i:Int) < nI b0.2.2.2.2.1.length by simp only [nI]; omega)]
  rfl
 | k + 1,m + 1,i,r,hi,hm,hr,hv=>by
  have e1:IntKind.i64.wrap ((i:Int) + 1)=((i + 1:Nat):Int):=wI (by omega)
  have d2:decide ((i:Int) < nI b0.2.2.2.2.1.length)=true:=Ag (by simp only [nI]; omega)
  have hx:Aq (b0.2.2.2.2.1.getD i zSs)=true:=Azb (l:=b0.2.2.2.2.1) (d:=zSs) (v:=(i:Int)) (Q:=fun x=>Aq x=true) hs (by omega) (by simp only [nI]; omega)
  have e2:Cz (b0.2.2.2.2.1.getD (Int.toNat (i:Int)) ([],()))=some (b0.2.2.2.2.1.getD i zSs):=(if_pos (show (b0.2.2.2.2.1.getD i zSs).1.length≤1000000 from Nat.le_trans (Ey hx) (by decide)))
  simp only [Es,J1,d2,Mv,e1,e2,cond_true,D9,Option.bind_some]
  have d3:decide ((r.length + 1) * 24≤140737488355328)=true:=Ag (by omega)
  rw [d3]
  exact A1a b0 b1 b2_0 b2_3 b2_4 b2_5 b2_6 b2_7 b2_8 b2_9 b2_10 b2_11 b2_12 b2_13 b2_15 r3 r4 hs hn k m (i + 1) (r++[b0.2.2.2.2.1.getD i zSs]) (by omega) (by omega) (by rw [Fg,D9,hr]) (by rw [hv]; exact (A45 (by omega)).symm)
theorem A8l {b0:C5} {b1:C5} {b2_0:Int} {b2_3:Bool} {b2_4:Int} {b2_5:Int} {b2_6:Int} {b2_7:Int} {b2_8:Int} {b2_9:Int} {b2_10:Int} {b2_11:Int} {b2_12:Int} {b2_13:List Bw} {b2_15:List Ab} {r3:List Ab} {r4:List Wr} (hs:∀ x∈b0.2.2.2.2.1,Aq x=true) (hn:b0.2.2.2.2.1.length≤200):
  Am (Es (Hc 0 b0 b1 b2_0 b2_3 b2_4 b2_5 b2_6 b2_7 b2_8 b2_9 b2_10 b2_11 b2_12 b2_13 b2_15 r3 r4 []) 0 b0 b1 b2_0 b2_3 b2_4 b2_5 b2_6 b2_7 b2_8 b2_9 b2_10 b2_11 b2_12 b2_13 b2_15 r3 r4 []) fun q=>∃ r':List Ki,q=(b0,b1,b2_0,b2_3,b2_4,b2_5,b2_6,b2_7,b2_8,b2_9,b2_10,b2_11,b2_12,b2_13,b2_15,r3,r4,r',())∧r'=b0.2.2.2.2.1:=by
 obtain ⟨r',q1,q2⟩:=A1a b0 b1 b2_0 b2_3 b2_4 b2_5 b2_6 b2_7 b2_8 b2_9 b2_10 b2_11 b2_12 b2_13 b2_15 r3 r4 hs hn b0.2.2.2.2.1.length (Hc 0 b0 b1 b2_0 b2_3 b2_4 b2_5 b2_6 b2_7 b2_8 b2_9 b2_10 b2_11 b2_12 b2_13 b2_15 r3 r4 []) 0 [] (by omega) (by simp only [Hc]; omega) rfl rfl
 exact ⟨_,q1,r',rfl,q2⟩
theorem Au5 {w:C5} (h:w9 w):Am (Jm w) fun q=>unW q.1=w:=by
 rw [y5]
 unfold Oq
 have hd:=h.d
 simp only [G9,Bool.and_eq_true,decide_eq_true_eq] at hd
 have c1:Am ((Cm w.2.1).bind fun val=>some (val,())) fun q=>q=(w.2.1,()):=Am.bind ⟨_,if_pos ⟨Nat.le_trans hd.1.1 (by decide),Nat.le_trans hd.2.1.1 (by decide)⟩,rfl⟩ fun a ha=>Am.some (by rw [ha])
 have c2:Am ((Cz w.2.2.2.1.2.2.2.2.2.2.1).bind fun val=>some (val,())) fun q=>q=(w.2.2.2.1.2.2.2.2.2.2.1,()):=Am.bind ⟨_,if_pos (Nat.le_trans (Ey h.s) (by decide)),rfl⟩ fun a ha=>Am.some (by subst ha; rfl)
 refine Am.bind c1 fun q hq=>?_
 subst hq
 refine Am.bind c2 fun q hq=>?_
 subst hq
 refine Am.bind (A8l h.p h.n) fun q hq=>?_
 obtain ⟨r',rfl,q2⟩:=hq
 subst q2
 dsimp only
 have hl:=h.l
 exact Am.go (Ag (by omega)) (Am.some rfl)
def X7 {R:Type} (k:Kt R):=(Mh (J0 7) (.exit 0) 2 k)
def Ac6 {R:Type}:Lt R J0:=(Gc (pat:=J0) 7 (fun d k=>(Ajk d).bind (X7 k)) Ky)
theorem y7:A1 Try.prog x8:=Bc ⟨Jz,Oo,trivial⟩
theorem Ajl {R:Type}:A7 Try.prog R 42 0 J0 Ac6 X6:=
 Cu (cfg:=⟨x8,0,42,J0⟩) 7 [] (fun NX X (d:(Int)×C5×C5×(Int)×(Bool)×(Int)×(Int)×(Int)×(Int)×(Int)×(Int)×(Int)×(Int)×(Int)×(List Bw)×(List Ab)×(List Ab)×(List Wr)×(List Ki)×Unit)=>(u4 (u4 (u4 (u4 (Ac (Ac (Ac Ah))))))) (J1  NX X) d) (fun m d=>(u4 (u4 (u4 (u4 (Ac (Ac (Ac Ah))))))) (Es m) d) (fun d=>(u4 (u4 (u4 (u4 (Ac (Ac (Ac Ah))))))) Hc d) X7 y7 trivial (fun f NX (d:(Int)×C5×C5×(Int)×(Bool)×(Int)×(Int)×(Int)×(Int)×(Int)×(Int)×(Int)×(Int)×(Int)×(List Bw)×(List Ab)×(List Ab)×(List Wr)×(List Ki)×Unit)=>by simp only [u4,Ac,Ah]; unfold J1; simp only [nb])
theorem Apr:Cp Try.prog 78 y6:=
 Bd (pat:=J0) [X6] Ac6 y7 ⟨Ajl,trivial⟩ Try.func78 (de:=fun x=>Oq x.1) (fun x r h=>by have q:Jm x.1=some r:=h; rw [y5] at q; exact q) fun _=>by kernel_rfl
def Ml (v0:Ab) (v1:Int) (v5:Ab):Nat:=v1.toNat + 1
def Aps:Ji:=⟨[.rd .str,.rd tI],[none,none],[.rd .str],[none]⟩
def y8:Tb:=tb []
def J2:Nat→Du×(Nat→Du):=Ix [(3,⟨[],[(0,.lf (.d .str)),(1,.lf (.d tI)),(5,.lf (.d .str))],[]⟩,[(2,⟨[],[(5,.lf (.d .str))],[]⟩)])]
def X8:Code:=(Av (Bl Try.f72)).getD 0 .skip
def Mm {R:Type}  (NX:((Ab)×(Int)×(Ab)×Unit)→Option R) (X2:((Ab)×Unit)→Option R) (v0:Ab) (v1:Int) (v5:Ab):Option R:=
 bif decide (v1 > 0) then bif v1.tmod 2==1 then bif decide (v5.size + v0.size≤9223372036854775807) then bif decide (v0.size + v0.size≤9223372036854775807) then NX (v0++v0,IntKind.i64.wrap (v1.tdiv 2),v5++v0,()) else none else none else bif decide (v0.size + v0.size≤9223372036854775807) then NX (v0++v0,IntKind.i64.wrap (v1.tdiv 2),v5,()) else none else X2 (v5,())
def Hd:Nat→(Ab)→(Int)→(Ab) →  Option ((Ab)×Unit)
 | 0,_,_,_=>none
 | m + 1,v0,v1,v5=>Mm  (fun d=>Hd m d.1 d.2.1 d.2.2.1) (fun d=>some (d)) v0 v1 v5
def Ajm (d:(Ab)×(Int)×(Ab)×Unit):Option ((Ab)×Unit):=(Ac (Ac (Ac Ah))) (Hd ((Ac (Ac (Ac Ah))) Ml d)) d
def Ot (a0:Ab) (a1:Int):Option ((((Ab)×Unit)×(Unit))):=
 ((fun d=>Hd (Ml d.1 d.2.1 d.2.2.1) d.1 d.2.1 d.2.2.1) (a0,a1,Ae,())).bind fun val=>some (val,())
theorem y9:∃ f,f=@Ot:=⟨_,rfl⟩
def Ha:=Classical.choose y9
theorem z4:@Ha=@Ot:=Classical.choose_spec y9
def Ou:SD:=⟨Aps,fun x=>Ha x.1 x.2.1⟩
theorem Ajn:∀ (m n:Nat) (v0 v5:Ab),n < m→n < 1099511627776→v5.size + v0.size * n≤1099511627776→Am (Hd m v0 n v5) fun r=>r.1.size=v5.size + v0.size * n
 | 0,n,v0,v5,h,_,_=>by omega
 | m + 1,n,v0,v5,h,hn,ht=>by
  simp only [Hd,Mm]
  refine Am.cond (fun c=>?_) fun c=>?_
  ·have hp:0 < n:=by simpa using c
   have e:v0.size * n=2 * (v0.size * (n / 2)) + v0.size * (n % 2):=by
    conv=>lhs; rw [← Nat.div_add_mod n 2]
    rw [Nat.mul_add,Nat.mul_left_comm]
   have e':(v0.size + v0.size) * (n / 2)=2 * (v0.size * (n / 2)):=by rw [Nat.add_mul]; omega
   have hle:v0.size≤v0.size * n:=Nat.le_mul_of_pos_right _ hp
   have e1:IntKind.i64.wrap (Int.tdiv (n:Int) 2)=((n / 2:Nat):Int):=by
    rw [Int.tdiv_eq_ediv_of_nonneg (by omega),Al (by omega) (by omega)]
    rfl
   have e2:(Int.tmod (n:Int) 2==1)=decide (n % 2=1):=by
    rw [Int.tmod_eq_emod_of_nonneg (by omega)]
    by_cases q:n % 2=1
    ·rw [Ag q]; simp; omega
    ·rw [Bh q]; simp; omega
   rw [e1,e2]
   refine Am.cond (fun c=>?_) fun c=>?_
   ·rw [Hm c,Nat.mul_one] at e
    refine Am.go (Ag (by omega)) (Am.go (Ag (by omega)) ?_)
    refine (Ajn m (n / 2) (v0++v0) (v5++v0) (by omega) (by omega) (by simp only [ByteArray.size_append]; omega)).mono fun r q=>?_
    simp only [ByteArray.size_append] at q
    omega
   ·have c:=of_decide_eq_false c
    rw [show n % 2=0 by omega,Nat.mul_zero] at e
    refine Am.go (Ag (by omega)) ?_
    refine (Ajn m (n / 2) (v0++v0) v5 (by omega) (by omega) (by simp only [ByteArray.size_append]; omega)).mono fun r q=>?_
    simp only [ByteArray.size_append] at q
    omega
  ·have:n=0:=by simpa using c
   subst this
   exact Am.some (by simp)
theorem Anf (s:Ab) (n:Int) (h0:0≤n) (h1:n≤10000) (hs:s.size≤10000):Am (Ha s n) fun r=>r.1.1.size=s.size * n.toNat:=by
 obtain ⟨k,rfl⟩:∃ k:Nat,n=(k:Int):=⟨n.toNat,by omega⟩
 rw [z4]
 unfold Ot
 have hk:s.size * k≤10000 * 10000:=Nat.mul_le_mul hs (by omega)
 refine Am.bind (Ajn _ k s (Ae) (by simp [Ml]) (by omega) (by show 0 + s.size * k≤_; omega)) fun r q=>Am.some ?_
 rw [Jh]
 exact q.trans (Nat.zero_add _)
def X9 {R:Type} (k:Kt R):=(Mh (J2 3) (.exit 0) 2 k)
def Ac7 {R:Type}:Lt R J2:=(Gc (pat:=J2) 3 (fun d k=>(Ajm d).bind (X9 k)) Ky)
theorem z5:A1 Try.prog y8:=Bc trivial
theorem Ajo {R:Type}:A7 Try.prog R 20 0 J2 Ac7 X8:=
 Cu (cfg:=⟨y8,0,20,J2⟩) 3 [] (fun NX X d=>(Ac (Ac (Ac Ah))) (Mm  NX X) d) (fun m d=>(Ac (Ac (Ac Ah))) (Hd m) d) (fun d=>(Ac (Ac (Ac Ah))) Ml d) X9 z5 trivial (fun f NX d=>by simp only [u4,Ac,Ah]; unfold Mm; simp only [nb])
theorem Tr:Cp Try.prog 72 Ou:=
 Bd (pat:=J2) [X8] Ac7 z5 ⟨Ajo,trivial⟩ Try.func72 (de:=fun x=>Ot x.1 x.2.1) (fun x r h=>by have q:Ha x.1 x.2.1=some r:=h; rw [z4] at q; exact q) fun _=>by kernel_rfl
def Fr (d:Dk) (at_:Int) (data:Ab):Bool:=Ab8 d.1.length (at_,data,())
def Ag0:Ji:=⟨[.rd yDk,.rd tI,.rd .str],[some 2,none,none],[.rd .bool],[none]⟩
def Le:SD:=⟨Ag0,fun x=>some (((Fr x.1 x.2.1 x.2.2.1),()),(()))⟩
def Ov (a0:Dk) (a1:Int) (a2:Ab):Option ((((Bool)×Unit)×(Unit))):=
 bif decide (a1≥0) then bif decide (a1 < nI (List.length a0.1)) then some ((nI a2.size==64,()),()) else some ((false,()),()) else some ((false,()),())
theorem Ag1 (a0:Dk) (a1:Int) (a2:Ab):Ov a0 a1 a2=some ((Fr a0 a1 a2,()),()):=by
 unfold Ov Fr Ab8
 have e:(nI (ByteArray.size a2)==64)=decide (a2.size=64):=by
  have:=A6e a2.size 64
  simp only [bne] at this
  cases h:(nI (ByteArray.size a2)==((64:Nat):Int))<;>rw [h] at this<;>cases h2:decide (a2.size=64)<;>rw [h2] at this<;>first | (cases this; done) | exact h
 rw [e]
 by_cases h1:a1≥0
 ·have:decide (0≤a1)=true:=by simpa using h1
  rw [Ag h1]
  simp only [this,cond_true,Bool.true_and,nI]
  cases decide (a1 < (a0.1.length:Int))<;>rfl
 ·have:decide (0≤a1)=false:=by simpa using h1
  rw [Bh h1]
  simp only [this]
  rfl
theorem Ow:Cp Try.prog 49 Le:=
 Bd (pat:=Ge) [] Ky (Bc (l:=[]) trivial) trivial Try.func49 (de:=fun x=>Ov x.1 x.2.1 x.2.2.1) (fun x r h=>(Ag1 x.1 x.2.1 x.2.2.1).trans h) fun _=>by kernel_rfl
def C0 (d:Dk):Bool:=As d
def Ag2:Ji:=⟨[.rd yDk],[some 2],[.rd .bool],[none]⟩
def Ez:SD:=⟨Ag2,fun x=>some (((C0 x.1),()),(()))⟩
def Ox:Tb:=tb [(49,Le)]
def Bx:Nat→Du×(Nat→Du):=Ix [(5,⟨[.boxSl 1 0 .str,.boxSl 1 1 Cl],[(1,.lf (.ptr 0 0)),(3,.lf (.d tI))],[.box 41 [.d (.sl .str),.d (.sl Cl)]]⟩,[(2,⟨[.boxSl 1 0 .str,.boxSl 1 1 Cl],[(1,.lf (.ptr 0 0))],[.box 41 [.d (.sl .str),.d (.sl Cl)]]⟩),(1,⟨[],[(2,.lf (.d .bool))],[]⟩)]),(10,⟨[.boxSl 1 0 .str,.boxSl 1 1 Cl],[(1,.lf (.ptr 0 0)),(4,.lf (.d tI))],[.box 41 [.d (.sl .str),.d (.sl Cl)]]⟩,[(4,p0),(1,⟨[],[(2,.lf (.d .bool))],[]⟩)])]
def Ry:Code:=(Av (Bl Try.f19)).getD 0 .skip
def Qz:Code:=(Av (Bl Try.f19)).getD 1 .skip
def Dc (v4:Int) (b0_0:List Ab) (b0_1:List Wr):Nat:=((b0_1.length:Int) - v4).toNat + 1
def F6 {R:Type}  (NX:((Int)×(List Ab)×(List Wr)×Unit)→Option R) (X4:(Unit)→Option R) (X1:((Bool)×Unit)→Option R) (v4:Int) (b0_0:List Ab) (b0_1:List Wr):Option R:=
 bif decide (v4 < nI b0_1.length) then bif decide (0≤v4) then bif decide (v4 < nI b0_1.length) then bif decide (0≤v4) then bif decide (v4 < nI b0_1.length) then bif !Fr (b0_0,b0_1,()) (b0_1.getD v4.toNat (0,Ae,())).1 (b0_1.getD v4.toNat (0,Ae,())).2.1 then X1 (false,()) else NX (IntKind.i64.wrap (v4 + 1),b0_0,b0_1,()) else none else none else none else none else X4 PUnit.unit
def Bm:Nat→(Int)→(List Ab)→(List Wr) →  Option ((Unit) ⊕ ((Bool)×Unit))
 | 0,_,_,_=>none
 | m + 1,v4,b0_0,b0_1=>F6  (fun d=>Bm m d.1 d.2.1 d.2.2.1) (fun d=>some (.inl (d))) (fun d=>some (.inr (d))) v4 b0_0 b0_1
def z6 (d:(Int)×(List Ab)×(List Wr)×Unit):Option ((Unit) ⊕ ((Bool)×Unit)):=(Ac (Ac (Ac Ah))) (Bm ((Ac (Ac (Ac Ah))) Dc d)) d
def Dw (v3:Int) (b0_0:List Ab) (b0_1:List Wr):Nat:=((b0_0.length:Int) - v3).toNat + 1
def Gy {R:Type}  (NX:((Int)×(List Ab)×(List Wr)×Unit)→Option R) (X2:Dk→Option R) (X1:((Bool)×Unit)→Option R) (v3:Int) (b0_0:List Ab) (b0_1:List Wr):Option R:=
 bif decide (v3 < nI b0_0.length) then bif decide (0≤v3) then bif decide (v3 < nI b0_0.length) then bif nI (ByteArray.size (b0_0.getD v3.toNat (Ae))) != 64 then X1 (false,()) else NX (IntKind.i64.wrap (v3 + 1),b0_0,b0_1,()) else none else none else X2 (b0_0,b0_1,())
def Bs:Nat→(Int)→(List Ab)→(List Wr) →  Option (Dk ⊕ ((Bool)×Unit))
 | 0,_,_,_=>none
 | m + 1,v3,b0_0,b0_1=>Gy  (fun d=>Bs m d.1 d.2.1 d.2.2.1) (fun d=>some (.inl (d))) (fun d=>some (.inr (d))) v3 b0_0 b0_1
def Aca (d:(Int)×(List Ab)×(List Wr)×Unit):Option (Dk ⊕ ((Bool)×Unit)):=(Ac (Ac (Ac Ah))) (Bs ((Ac (Ac (Ac Ah))) Dw d)) d
def Oy (a0:Dk):Option ((((Bool)×Unit)×(Unit))):=
 bif decide (nI (List.length a0.1) < 8) then some ((false,()),()) else bif decide (nI (List.length a0.1) > 200) then some ((false,()),()) else bif decide (nI (List.length a0.2.1) > 300) then some ((false,()),()) else ((fun d=>Bs (Dw d.1 d.2.1 d.2.2.1) d.1 d.2.1 d.2.2.1) (0,a0)).bind fun val=>Eb (fun d=>((fun d=>Bm (Dc d.1 d.2.1 d.2.2.1) d.1 d.2.1 d.2.2.1) (0,d)).bind fun val=>Eb (fun d=>some ((true,()),())) (fun d=>some (d,())) val) (fun d=>some (d,())) val
theorem Ag3 (a0:Dk):Oy a0=some ((C0 a0,()),()):=by
 unfold Oy C0 As
 have c1:decide (nI a0.2.1.length > 300)=!decide (a0.2.1.length≤300):=Ata _ 300
 have c2:decide (nI a0.1.length > 200)=!decide ((a0.1.length:Int)≤200):=by
  rw [show decide (nI a0.1.length > 200)=!decide (a0.1.length≤200) from Ata _ 200]
  congr 1
  exact decide_eq_decide.2 (by omega)
 have c3:decide (nI a0.1.length < 8)=!decide (8≤(a0.1.length:Int)):=by
  by_cases q:8≤(a0.1.length:Int)
  ·rw [Ag q,Bh (by simp [nI]; omega)]; rfl
  ·rw [Bh q,Ag (by simp [nI]; omega)]; rfl
 rw [c1,c2,c3]
 unfold Di
 by_cases h8:8≤(a0.1.length:Int)
 ·rw [Ag h8]
  by_cases h2:(a0.1.length:Int)≤200
  ·rw [Ag h2]
   by_cases hp:a0.2.1.length≤300
   ·rw [Ag hp]
    have hL:=Th (n:=a0.1.length) (fun i=>decide ((a0.1.getD i z0).size=64)) (g:=fun m i=>Bs m i a0.1 a0.2.1) (ok:=.inl (a0.1,a0.2.1,())) (bad:=.inr (false,())) (fun m i hi=>by
     show Bs (m + 1) i a0.1 a0.2.1=_
     simp only [Bs,Gy]
     have g1:(nI (ByteArray.size (List.getD a0.1 i (Ae))) != 64)=!decide ((a0.1.getD i z0).size=64):=A6e _ 64
     rw [cLt hi,Mv,wI (show i < 4611686018427387904 by omega),Jh,g1]
     cases decide ((a0.1.getD i z0).size=64)<;>rfl) (fun m=>by
     show Bs (m + 1) (a0.1.length:Int) a0.1 a0.2.1=_
     simp only [Bs,Gy]
     rw [W3]
     rfl) (Dw 0 a0.1 a0.2.1) 0 (by omega) (by simp [Dw])
    have hL':Bs (Dw 0 a0.1 a0.2.1) 0 a0.1 a0.2.1=_:=hL
    have hM:=Th (n:=a0.2.1.length) (fun i=>Ab8 a0.1.length (a0.2.1.getD i zW)) (g:=fun m i=>Bm m i a0.1 a0.2.1) (ok:=.inl ()) (bad:=.inr (false,())) (fun m i hi=>by
     show Bm (m + 1) i a0.1 a0.2.1=_
     simp only [Bm,F6]
     rw [cLt hi,Mv,wI (show i < 4611686018427387904 by omega),Jh]
     show (bif !Ab8 a0.1.length (a0.2.1.getD i zW) then _ else _)=_
     cases Ab8 a0.1.length (a0.2.1.getD i zW)<;>rfl) (fun m=>by
     show Bm (m + 1) (a0.2.1.length:Int) a0.1 a0.2.1=_
     simp only [Bm,F6]
     rw [W3]
     rfl) (Dc 0 a0.1 a0.2.1) 0 (by omega) (by simp [Dc])
    have hM':Bm (Dc 0 a0.1 a0.2.1) 0 a0.1 a0.2.1=_:=hM
    show (Bs (Dw 0 a0.1 a0.2.1) 0 a0.1 a0.2.1).bind _=_
    rw [hL']
    rw [Nat.sub_zero] at hM' ⊢
    cases (List.range' 0 a0.1.length).all (fun i=>decide ((a0.1.getD i z0).size=64)) with
    | false=>rfl
    | true=>
     show (Bm (Dc 0 a0.1 a0.2.1) 0 a0.1 a0.2.1).bind _=_
     rw [hM']
     cases (List.range' 0 a0.2.1.length).all (fun i=>Ab8 a0.1.length (a0.2.1.getD i zW))<;>rfl
   ·rw [Bh hp]
    rfl
  ·rw [Bh h2]
   rfl
 ·rw [Bh h8]
  rfl
def Rz {R:Type} (k:Kt R):=(Eb (Mh (Bx 5) (.exit 0) 2 k) (Mh (Bx 5) .ret 1 k))
def Q0 {R:Type} (k:Kt R):=(Eb (Mh (Bx 10) (.exit 2) 4 k) (Mh (Bx 10) .ret 1 k))
def Qa {R:Type}:Lt R Bx:=(Gc (pat:=Bx) 5 (fun d k=>(Aca d).bind (Rz k)) (Gc (pat:=Bx) 10 (fun d k=>(z6 d).bind (Q0 k)) Ky))
theorem Oz:A1 Try.prog Ox:=Bc ⟨Ow,trivial⟩
theorem z7 {R:Type}:A7 Try.prog R 57 0 Bx Qa Qz:=
 Cu (cfg:=⟨Ox,0,57,Bx⟩) 10 [] (fun NX X d=>(Ac (Ac (Ac Ah))) (F6  NX (fun e=>X (.inl (e))) (fun e=>X (.inr (e)))) d) (fun m d=>(Ac (Ac (Ac Ah))) (Bm m) d) (fun d=>(Ac (Ac (Ac Ah))) Dc d) Q0 Oz trivial (fun f NX d=>by simp only [u4,Ac,Ah]; unfold F6; simp only [nb])
theorem Acb {R:Type}:A7 Try.prog R 57 0 Bx Qa Ry:=
 Cu (cfg:=⟨Ox,0,57,Bx⟩) 5 [] (fun NX X d=>(Ac (Ac (Ac Ah))) (Gy  NX (fun e=>X (.inl (e))) (fun e=>X (.inr (e)))) d) (fun m d=>(Ac (Ac (Ac Ah))) (Bs m) d) (fun d=>(Ac (Ac (Ac Ah))) Dw d) Rz Oz trivial (fun f NX d=>by simp only [u4,Ac,Ah]; unfold Gy; simp only [nb])
theorem Gi:Cp Try.prog 19 Ez:=
 Bd (pat:=Bx) [Ry,Qz] Qa Oz ⟨Acb,z7,trivial⟩ Try.func19 (de:=fun x=>Oy x.1) (fun x r h=>(Ag3 x.1).trans h) fun _=>by kernel_rfl
def F0 (d:Dk):Option Dk:=if d.2.1.length≤1099511627776∧∀ i,i < d.2.1.length→0≤(d.2.1.getD i zW).1∧(d.2.1.getD i zW).1 < (d.1.length:Int) then some (Mt d) else none
def Apt:Ji:=⟨[.own 9 .str,.rd (.sl Cl)],[some 2],[.own 9 .str,.own 82 Cl],[some 2]⟩
def O0:SD:=⟨Apt,fun x=>(F0 (x.1,x.2.1,())).bind fun r=>some ((r.1,r.2.1,()),(()))⟩
def z8:Tb:=tb []
def J3:Nat→Du×(Nat→Du):=Ix [(3,⟨[.boxSl 1 1 Cl,.boxRow 2 0 9 .str,.boxRow 2 1 82 Cl],[(1,.lf (.ptr 1 0)),(2,.lf (.ptr 2 0)),(3,.lf (.d tI))],[.row 9 .str,.box 41 [.row 0,.d (.sl Cl)],.box 41 [.row 3,.row 4],.row 9 .str,.row 82 Cl]⟩,[(2,⟨[.boxSl 1 1 Cl,.boxRow 2 0 9 .str,.boxRow 2 1 82 Cl],[(1,.lf (.ptr 1 0)),(2,.lf (.ptr 2 0))],[.row 9 .str,.box 41 [.row 0,.d (.sl Cl)],.box 41 [.row 3,.row 4],.row 9 .str,.row 82 Cl]⟩)])]
def Ya:Code:=(Av (Bl Try.f48)).getD 0 .skip
def Fs (v3:Int) (r0:List Ab) (b1_1:List Wr) (r3:List Ab) (r4:List Wr):Nat:=((b1_1.length:Int) - v3).toNat + 1
def J4 {R:Type}  (NX:((Int)×(List Ab)×(List Wr)×(List Ab)×(List Wr)×Unit)→Option R) (X2:((List Ab)×(List Wr)×(List Ab)×(List Wr)×Unit)→Option R) (v3:Int) (r0:List Ab) (b1_1:List Wr) (r3:List Ab) (r4:List Wr):Option R:=
 bif decide (v3 < nI b1_1.length) then bif decide (0≤v3) then bif decide (v3 < nI b1_1.length) then bif decide (0≤v3) then bif decide (v3 < nI b1_1.length) then bif decide (0≤(b1_1.getD v3.toNat (0,Ae,())).1) then bif decide ((b1_1.getD v3.toNat (0,Ae,())).1 < nI r0.length) then bif decide (Int.toNat (b1_1.getD v3.toNat (0,Ae,())).1 < r0.length) then NX (IntKind.i64.wrap (v3 + 1),r0.set (Int.toNat (b1_1.getD v3.toNat (0,Ae,())).1) (b1_1.getD v3.toNat (0,Ae,())).2.1,b1_1,r3,r4,()) else none else none else none else none else none else none else none else X2 (r0,b1_1,r3,r4,())
def Ci:Nat→(Int)→(List Ab)→(List Wr)→(List Ab)→(List Wr) →  Option ((List Ab)×(List Wr)×(List Ab)×(List Wr)×Unit)
 | 0,_,_,_,_,_=>none
 | m + 1,v3,r0,b1_1,r3,r4=>J4  (fun d=>Ci m d.1 d.2.1 d.2.2.1 d.2.2.2.1 d.2.2.2.2.1) (fun d=>some (d)) v3 r0 b1_1 r3 r4
def Ajp (d:(Int)×(List Ab)×(List Wr)×(List Ab)×(List Wr)×Unit):Option ((List Ab)×(List Wr)×(List Ab)×(List Wr)×Unit):=(u4 (Ac Ah)) (Ci ((u4 (Ac Ah)) Fs d)) d
def Tt (a0:List Ab) (a1:List Wr):Option ((Dk×(Unit))):=
 ((fun d=>Ci (Fs d.1 d.2.1 d.2.2.1 d.2.2.2.1 d.2.2.2.2.1) d.1 d.2.1 d.2.2.1 d.2.2.2.1 d.2.2.2.2.1) (0,a0,a1,[],[],())).bind fun val=>some ((val.1,[],()),())
theorem Apu (a0:List Ab) (a1:List Wr) r (h:F0 (a0,a1,())=some r):Tt a0 a1=some ((r.1,r.2.1,()),(())):=by
 unfold F0 at h
 split at h
 ·rename_i hc
  obtain ⟨hp,hw⟩:=hc
  cases h
  have hL:=Xr (xs:=a1) zW (fun s:List Ab=>s.length=a0.length) (fun _ w s=>s.set w.1.toNat w.2.1) (g:=fun m i s=>Ci m i s a1 [] []) (ok:=fun s=>(s,a1,[],[],())) (fun m i s hi hs=>by
   show Ci (m + 1) i s a1 [] []=_
   simp only [Ci,J4]
   obtain ⟨h0,h1⟩:=hw i hi
   have c1:decide (0≤(List.getD a1 i (0,Ae,())).1)=true:=Ag h0
   have c2:decide ((List.getD a1 i (0,Ae,())).1 < nI s.length)=true:=Ag (by rw [hs]; exact h1)
   have c3:decide (Int.toNat (List.getD a1 i (0,Ae,())).1 < s.length)=true:=Ag (by
    rw [hs]
    have:(a1.getD i zW).1.toNat < a0.length:=by
     have h0:0≤(a1.getD i zW).1:=h0
     have h1:(a1.getD i zW).1 < (a0.length:Int):=h1
     omega
    exact this)
   rw [cLt hi,Mv,wI (show i < 4611686018427387904 by have hp:a1.length≤1099511627776:=hp; omega),Jh,c1,c2,c3]
   rfl) (fun i s hi hs=>by rw [List.length_set]; exact hs) (fun m s hs=>by
   show Ci (m + 1) (a1.length:Int) s a1 [] []=_
   simp only [Ci,J4]
   rw [W3]
   rfl) (Fs 0 a0 a1 [] []) 0 a0 (by omega) (by simp [Fs]) rfl
  have hL':Ci (Fs 0 a0 a1 [] []) 0 a0 a1 [] []=_:=hL
  unfold Tt
  show (Ci (Fs 0 a0 a1 [] []) 0 a0 a1 [] []).bind _=_
  rw [hL']
  rfl
 ·cases h
def Yb {R:Type} (k:Kt R):=(Mh (J3 3) (.exit 0) 2 k)
def Ac8 {R:Type}:Lt R J3:=(Gc (pat:=J3) 3 (fun d k=>(Ajp d).bind (Yb k)) Ky)
theorem z9:A1 Try.prog z8:=Bc trivial
theorem Ajq {R:Type}:A7 Try.prog R 29 1 J3 Ac8 Ya:=
 Cu (cfg:=⟨z8,1,29,J3⟩) 3 [] (fun NX X d=>(u4 (Ac Ah)) (J4  NX X) d) (fun m d=>(u4 (Ac Ah)) (Ci m) d) (fun d=>(u4 (Ac Ah)) Fs d) Yb z9 trivial (fun f NX d=>by simp only [u4,Ac,Ah]; unfold J4; simp only [nb])
theorem Tu:Cp Try.prog 48 O0:=
 Bd (pat:=J3) [Ya] Ac8 z9 ⟨Ajq,trivial⟩ Try.func48 (de:=fun x=>Tt x.1 x.2.1) (fun x r h=>Ie (Apu x.1 x.2.1) h) fun _=>by kernel_rfl
def Cw (d:Dk) (ops:List D5) (n:Int):Option Dk:=if ops.length≤1099511627776 then some (Bg d ops n) else none
def Alo:Ji:=⟨[.rd yDk,.rd (.sl Fz),.rd tI],[some 2,none,none],[.own 9 .str,.own 82 Cl],[some 2]⟩
def Re:SD:=⟨Alo,fun x=>(Cw x.1 x.2.1 x.2.2.1).bind fun r=>some ((r.1,r.2.1,()),(()))⟩
def b4:Tb:=tb [(19,Ez),(47,Ho),(48,O0),(49,Le)]
def Io:Nat→Du×(Nat→Du):=Ix [(6,⟨[.sl 1 0 Fz,.boxRow 6 0 9 .str,.boxRow 6 1 82 Cl,.boxRow 7 0 9 .str,.boxRow 7 1 82 Cl],[(1,.lf (.d (.sl Fz))),(2,.lf (.d tI)),(6,.lf (.ptr 0 0)),(7,.lf (.ptr 1 0)),(8,.lf (.d tI))],[.box 41 [.row 2,.row 3],.box 41 [.row 4,.row 5],.row 9 .str,.row 82 Cl,.row 9 .str,.row 82 Cl]⟩,[(2,⟨[.boxRow 6 0 9 .str,.boxRow 6 1 82 Cl,.boxRow 7 0 9 .str,.boxRow 7 1 82 Cl],[(6,.lf (.ptr 0 0)),(7,.lf (.ptr 1 0))],[.box 41 [.row 2,.row 3],.box 41 [.row 4,.row 5],.row 9 .str,.row 82 Cl,.row 9 .str,.row 82 Cl]⟩)])]
def Vx:Code:=(Av (Bl Try.f18)).getD 0 .skip
def E0 (v1:List D5) (v2 v8:Int) (r2:List Ab) (r3:List Wr) (r4:List Ab) (r5:List Wr):Nat:=((v1.length:Int) - v8).toNat + 1
def I1 {R:Type}  (NX:((List D5)×(Int)×(Int)×(List Ab)×(List Wr)×(List Ab)×(List Wr)×Unit)→Option R) (X2:((List Ab)×(List Wr)×(List Ab)×(List Wr)×Unit)→Option R) (v1:List D5) (v2:Int) (v8:Int) (r2:List Ab) (r3:List Wr) (r4:List Ab) (r5:List Wr):Option R:=
 bif decide (v8 < nI v1.length) then bif decide (v8 < v2) then bif decide (0≤v8) then bif decide (v8 < nI v1.length) then bif (v1.getD v8.toNat (false,0,Ae,())).1 then ((F0 (r4,r5,())).bind fun val=>some (val,())).bind fun val=>NX (v1,v2,IntKind.i64.wrap (v8 + 1),r2,r3,val.1) else bif decide (0≤v8) then bif decide (v8 < nI v1.length) then bif decide (0≤v8) then bif decide (v8 < nI v1.length) then bif Fr (r4,r5,()) (v1.getD v8.toNat (false,0,Ae,())).2.1 (v1.getD v8.toNat (false,0,Ae,())).2.2.1 then bif decide (nI r5.length < 300) then bif decide (0≤v8) then bif decide (v8 < nI v1.length) then bif decide (0≤v8) then bif decide (v8 < nI v1.length) then bif decide ((r5.length + [(v1.getD v8.toNat (false,0,Ae,())).2].length) * 24≤140737488355328) then NX (v1,v2,IntKind.i64.wrap (v8 + 1),r2,r3,r4,r5++[(v1.getD v8.toNat (false,0,Ae,())).2],()) else none else none else none else none else none else NX (v1,v2,IntKind.i64.wrap (v8 + 1),r2,r3,r4,r5,()) else NX (v1,v2,IntKind.i64.wrap (v8 + 1),r2,r3,r4,r5,()) else none else none else none else none else none else none else X2 (r2,r3,r4,r5,()) else X2 (r2,r3,r4,r5,())
def By:Nat→(List D5)→(Int)→(Int)→(List Ab)→(List Wr)→(List Ab)→(List Wr) →  Option ((List Ab)×(List Wr)×(List Ab)×(List Wr)×Unit)
 | 0,_,_,_,_,_,_,_=>none
 | m + 1,v1,v2,v8,r2,r3,r4,r5=>I1  (fun d=>By m d.1 d.2.1 d.2.2.1 d.2.2.2.1 d.2.2.2.2.1 d.2.2.2.2.2.1 d.2.2.2.2.2.2.1) (fun d=>some (d)) v1 v2 v8 r2 r3 r4 r5
def Ag4 (d:(List D5)×(Int)×(Int)×(List Ab)×(List Wr)×(List Ab)×(List Wr)×Unit):Option ((List Ab)×(List Wr)×(List Ab)×(List Wr)×Unit):=(u4 (Ac (Ac (Ac Ah)))) (By ((u4 (Ac (Ac (Ac Ah)))) E0 d)) d
def Rf (a0:Dk) (a1:List D5) (a2:Int):Option ((Dk×(Unit))):=
 bif !C0 a0 then some (([],[],()),()) else ((Cm a0).bind fun val=>some (val,())).bind fun val=>((fun d=>By (E0 d.1 d.2.1 d.2.2.1 d.2.2.2.1 d.2.2.2.2.1 d.2.2.2.2.2.1 d.2.2.2.2.2.2.1) d.1 d.2.1 d.2.2.1 d.2.2.2.1 d.2.2.2.2.1 d.2.2.2.2.2.1 d.2.2.2.2.2.2.1) (a1,a2,0,[],[],val.1)).bind fun val=>some (val.2.2,())
theorem Alp (a0:Dk) (a1:List D5) (a2:Int) r (h:Cw a0 a1 a2=some r):Rf a0 a1 a2=some ((r.1,r.2.1,()),(())):=by
 unfold Cw at h
 split at h
 rotate_left
 ·cases h
 rename_i hlen
 cases h
 unfold Rf Bg
 show (bif !As a0 then _ else _)=_
 cases hv:As a0 with
 | false=>rfl
 | true=>
  have hok:=Ig hv
  have e1:Cm (a0.1,a0.2.1,())=some (a0.1,a0.2.1,()):=if_pos ⟨Nat.le_trans hok.n200 (by decide),Nat.le_trans hok.p300 (by decide)⟩
  have hxl:(a1.take a2.toNat).length=min a2.toNat a1.length:=List.length_take
  have hL:=Jl (xs:=a1.take a2.toNat) zOp (fun _ d=>Fq d) (fun _ o d=>opS d o) (g:=fun m i d=>By m a1 a2 i [] [] d.1 d.2.1) (ok:=fun d:Dk=>([],[],d.1,d.2.1,())) (fun m i d hi hI=>by
   show By (m + 1) a1 a2 i [] [] d.1 d.2.1=_
   simp only [By,I1]
   rw [hxl] at hi
   have hi1:i < a1.length:=by omega
   have hi2:decide ((i:Int) < a2)=true:=Ag (by omega)
   have hg:(a1.take a2.toNat).getD i zOp=List.getD a1 i (false,0,Ae,()):=by
    rw [List.getD_eq_getElem?_getD,List.getElem?_take,if_pos (by omega),← List.getD_eq_getElem?_getD]
    rfl
   rw [hg,hi2,cLt hi1,Mv,wI (show i < 4611686018427387904 by omega),Jh]
   simp only [cond_true]
   generalize List.getD a1 i (false,0,Ae,())=o
   unfold opS
   cases ho:o.1 with
   | true=>
    simp only [cond_true]
    have e2:F0 (d.1,d.2.1,())=some (Mt d):=if_pos ⟨Nat.le_trans hI.p300 (by decide),fun k hk=>⟨(hI.pen k hk).1,(hI.pen k hk).2.1⟩⟩
    rw [e2]
    rfl
   | false=>
    simp only [cond_false]
    have hn:=hI.n8
    have hn2:=hI.n200
    have hp:=hI.p300
    have e4:decide (nI d.2.1.length < 300)=decide (d.2.1.length < 300):=decide_eq_decide.2 (by simp only [nI]; omega)
    have e5:decide ((d.2.1.length + 1) * 24≤140737488355328)=true:=Ag (by omega)
    simp only [D9,e4,e5,Fr,Ab8,cond_true]
    show _=By m a1 a2 _ [] [] (bif (decide (0≤o.2.1)&&(decide (o.2.1 < (d.1.length:Int))&&decide (o.2.2.1.size=64)))&&decide (d.2.1.length < 300) then (d.1,d.2.1++[(o.2.1,o.2.2.1,())],()) else d).1 (bif (decide (0≤o.2.1)&&(decide (o.2.1 < (d.1.length:Int))&&decide (o.2.2.1.size=64)))&&decide (d.2.1.length < 300) then (d.1,d.2.1++[(o.2.1,o.2.2.1,())],()) else d).2.1
    cases decide (0≤o.2.1)<;>cases decide (o.2.1 < (d.1.length:Int))<;>cases decide (o.2.2.1.size=64)<;>cases decide (d.2.1.length < 300)<;>rfl) (fun i d hi hI=>hI.op _) (fun m d hI=>by
   show By (m + 1) a1 a2 (((a1.take a2.toNat).length:Nat):Int) [] [] d.1 d.2.1=_
   simp only [By,I1]
   rw [hxl]
   by_cases q:((min a2.toNat a1.length:Nat):Int) < a2
   ·rw [Bh (show ¬ ((min a2.toNat a1.length:Nat):Int) < nI a1.length by simp only [nI]; omega)]
    rfl
   ·rw [Bh q]
    cases decide (((min a2.toNat a1.length:Nat):Int) < nI a1.length)<;>rfl) (E0 a1 a2 0 [] [] a0.1 a0.2.1) 0 a0 (by omega) (by rw [hxl]; simp only [E0,nI]; omega) hok
  have hL':By (E0 a1 a2 0 [] [] a0.1 a0.2.1) a1 a2 0 [] [] a0.1 a0.2.1=_:=hL
  simp only [Bool.not_true,cond_false]
  rw [e1]
  show (By (E0 a1 a2 0 [] [] a0.1 a0.2.1) a1 a2 0 [] [] a0.1 a0.2.1).bind _=_
  rw [hL',List.drop_zero]
  have hf:∀ (l:List D5) (i:Nat) (d:Dk),F5 (fun _ o d=>opS d o) i l d=l.foldl opS d:=fun l=>by
   induction l with
   | nil=>intro i d; rfl
   | cons o r ih=>intro i d; exact ih _ _
  rw [hf]
  rfl
def Vy {R:Type} (k:Kt R):=(Mh (Io 6) (.exit 0) 2 k)
def Aaa {R:Type}:Lt R Io:=(Gc (pat:=Io) 6 (fun d k=>(Ag4 d).bind (Vy k)) Ky)
theorem b5:A1 Try.prog b4:=Bc ⟨Gi,Jz,Tu,Ow,trivial⟩
theorem Ag5 {R:Type}:A7 Try.prog R 68 0 Io Aaa Vx:=
 Cu (cfg:=⟨b4,0,68,Io⟩) 6 [] (fun NX X d=>(u4 (Ac (Ac (Ac Ah)))) (I1  NX X) d) (fun m d=>(u4 (Ac (Ac (Ac Ah)))) (By m) d) (fun d=>(u4 (Ac (Ac (Ac Ah)))) E0 d) Vy b5 trivial (fun f NX d=>by simp only [u4,Ac,Ah]; unfold I1; simp only [nb])
theorem b6:Cp Try.prog 18 Re:=
 Bd (pat:=Io) [Vx] Aaa b5 ⟨Ag5,trivial⟩ Try.func18 (de:=fun x=>Rf x.1 x.2.1 x.2.2.1) (fun x r h=>Ie (Alp x.1 x.2.1 x.2.2.1) h) fun _=>by kernel_rfl
def He (d:Dk) (f:List Int):Dk:=D6 d f
def Dx (v1:List Int) (v6:Int) (r2:List Ab) (r3:List Wr) (r4:List Ab) (r5:List Wr):Nat:=((r5.length:Int) - v6).toNat + 1
def Ag6:Ji:=⟨[.rd yDk,.rd (.sl tI)],[some 2,none],[.own 9 .str,.own 82 Cl],[some 2]⟩
def Vz:SD:=⟨Ag6,fun x=>some (((He x.1 x.2.1).1,(He x.1 x.2.1).2.1,()),(()))⟩
def V0:Tb:=tb [(19,Ez),(47,Ho)]
def Gj:Nat→Du×(Nat→Du):=Ix [(6,⟨[.sl 1 0 tI,.boxRow 4 0 9 .str,.boxRow 4 1 82 Cl,.boxRow 5 0 9 .str,.boxRow 5 1 82 Cl],[(1,.lf (.d (.sl tI))),(4,.lf (.ptr 0 0)),(5,.lf (.ptr 1 0)),(6,.lf (.d tI))],[.box 41 [.row 2,.row 3],.box 41 [.row 4,.row 5],.row 9 .str,.row 82 Cl,.row 9 .str,.row 82 Cl]⟩,[(2,⟨[.boxRow 4 0 9 .str,.boxRow 4 1 82 Cl,.boxRow 5 0 9 .str,.boxRow 5 1 82 Cl],[(4,.lf (.ptr 0 0)),(5,.lf (.ptr 1 0))],[.box 41 [.row 2,.row 3],.box 41 [.row 4,.row 5],.row 9 .str,.row 82 Cl,.row 9 .str,.row 82 Cl]⟩)])]
def R0:Code:=(Av (Bl Try.f115)).getD 0 .skip
def Gz {R:Type}  (NX:((List Int)×(Int)×(List Ab)×(List Wr)×(List Ab)×(List Wr)×Unit)→Option R) (X2:((List Ab)×(List Wr)×(List Ab)×(List Wr)×Unit)→Option R) (v1:List Int) (v6:Int) (r2:List Ab) (r3:List Wr) (r4:List Ab) (r5:List Wr):Option R:=
 bif decide (v6 < nI r5.length) then bif decide (v6 < nI v1.length) then bif decide (0≤v6) then bif decide (v6 < nI v1.length) then bif decide (v1.getD v6.toNat 0 < 0) then bif decide (0≤v6) then bif decide (v6 < nI r5.length) then bif decide (0≤(r5.getD v6.toNat (0,Ae,())).1) then bif decide ((r5.getD v6.toNat (0,Ae,())).1 < nI r4.length) then bif decide ((Af (r5.getD v6.toNat (0,Ae,())).2.1 0 0).size + (Af (r4.getD (Int.toNat (r5.getD v6.toNat (0,Ae,())).1) (Ae)) 0 (nI (ByteArray.size (r4.getD (Int.toNat (r5.getD v6.toNat (0,Ae,())).1) (Ae))))).size≤9223372036854775807) then bif decide (0≤(r5.getD v6.toNat (0,Ae,())).1) then bif decide ((r5.getD v6.toNat (0,Ae,())).1 < nI r4.length) then bif decide (Int.toNat (r5.getD v6.toNat (0,Ae,())).1 < r4.length) then NX (v1,IntKind.i64.wrap (v6 + 1),r2,r3,r4.set (Int.toNat (r5.getD v6.toNat (0,Ae,())).1) (Af (r5.getD v6.toNat (0,Ae,())).2.1 0 0++Af (r4.getD (Int.toNat (r5.getD v6.toNat (0,Ae,())).1) (Ae)) 0 (nI (ByteArray.size (r4.getD (Int.toNat (r5.getD v6.toNat (0,Ae,())).1) (Ae))))),r5,()) else none else none else none else none else none else none else none else none else bif decide (v1.getD v6.toNat 0 > 64) then bif decide (0≤v6) then bif decide (v6 < nI r5.length) then bif decide (64≤nI (ByteArray.size (r5.getD v6.toNat (0,Ae,())).2.1)) then bif decide (0≤(r5.getD v6.toNat (0,Ae,())).1) then bif decide ((r5.getD v6.toNat (0,Ae,())).1 < nI r4.length) then bif decide (64≤nI (ByteArray.size (r4.getD (Int.toNat (r5.getD v6.toNat (0,Ae,())).1) (Ae)))) then bif decide ((Af (r5.getD v6.toNat (0,Ae,())).2.1 0 64).size + (Af (r4.getD (Int.toNat (r5.getD v6.toNat (0,Ae,())).1) (Ae)) 64 (nI (ByteArray.size (r4.getD (Int.toNat (r5.getD v6.toNat (0,Ae,())).1) (Ae))))).size≤9223372036854775807) then bif decide (0≤(r5.getD v6.toNat (0,Ae,())).1) then bif decide ((r5.getD v6.toNat (0,Ae,())).1 < nI r4.length) then bif decide (Int.toNat (r5.getD v6.toNat (0,Ae,())).1 < r4.length) then NX (v1,IntKind.i64.wrap (v6 + 1),r2,r3,r4.set (Int.toNat (r5.getD v6.toNat (0,Ae,())).1) (Af (r5.getD v6.toNat (0,Ae,())).2.1 0 64++Af (r4.getD (Int.toNat (r5.getD v6.toNat (0,Ae,())).1) (Ae)) 64 (nI (ByteArray.size (r4.getD (Int.toNat (r5.getD v6.toNat (0,Ae,())).1) (Ae))))),r5,()) else none else none else none else none else none else none else none else none else none else none else bif decide (0≤v6) then bif decide (v6 < nI r5.length) then bif decide (0≤v1.getD v6.toNat 0) then bif decide (v1.getD v6.toNat 0≤nI (ByteArray.size (r5.getD v6.toNat (0,Ae,())).2.1)) then bif decide (0≤(r5.getD v6.toNat (0,Ae,())).1) then bif decide ((r5.getD v6.toNat (0,Ae,())).1 < nI r4.length) then bif decide (0≤v1.getD v6.toNat 0) then bif decide (v1.getD v6.toNat 0≤nI (ByteArray.size (r4.getD (Int.toNat (r5.getD v6.toNat (0,Ae,())).1) (Ae)))) then bif decide ((Af (r5.getD v6.toNat (0,Ae,())).2.1 0 (v1.getD v6.toNat 0)).size + (Af (r4.getD (Int.toNat (r5.getD v6.toNat (0,Ae,())).1) (Ae)) (v1.getD v6.toNat 0) (nI (ByteArray.size (r4.getD (Int.toNat (r5.getD v6.toNat (0,Ae,())).1) (Ae))))).size≤9223372036854775807) then bif decide (0≤(r5.getD v6.toNat (0,Ae,())).1) then bif decide ((r5.getD v6.toNat (0,Ae,())).1 < nI r4.length) then bif decide (Int.toNat (r5.getD v6.toNat (0,Ae,())).1 < r4.length) then NX (v1,IntKind.i64.wrap (v6 + 1),r2,r3,r4.set (Int.toNat (r5.getD v6.toNat (0,Ae,())).1) (Af (r5.getD v6.toNat (0,Ae,())).2.1 0 (v1.getD v6.toNat 0)++Af (r4.getD (Int.toNat (r5.getD v6.toNat (0,Ae,())).1) (Ae)) (v1.getD v6.toNat 0) (nI (ByteArray.size (r4.getD (Int.toNat (r5.getD v6.toNat (0,Ae,())).1) (Ae))))),r5,()) else none else none else none else none else none else none else none else none else none else none else none else none else none else none else bif decide (0≤v6) then bif decide (v6 < nI r5.length) then bif decide (0≤(r5.getD v6.toNat (0,Ae,())).1) then bif decide ((r5.getD v6.toNat (0,Ae,())).1 < nI r4.length) then bif decide ((Af (r5.getD v6.toNat (0,Ae,())).2.1 0 0).size + (Af (r4.getD (Int.toNat (r5.getD v6.toNat (0,Ae,())).1) (Ae)) 0 (nI (ByteArray.size (r4.getD (Int.toNat (r5.getD v6.toNat (0,Ae,())).1) (Ae))))).size≤9223372036854775807) then bif decide (0≤(r5.getD v6.toNat (0,Ae,())).1) then bif decide ((r5.getD v6.toNat (0,Ae,())).1 < nI r4.length) then bif decide (Int.toNat (r5.getD v6.toNat (0,Ae,())).1 < r4.length) then NX (v1,IntKind.i64.wrap (v6 + 1),r2,r3,r4.set (Int.toNat (r5.getD v6.toNat (0,Ae,())).1) (Af (r5.getD v6.toNat (0,Ae,())).2.1 0 0++Af (r4.getD (Int.toNat (r5.getD v6.toNat (0,Ae,())).1) (Ae)) 0 (nI (ByteArray.size (r4.getD (Int.toNat (r5.getD v6.toNat (0,Ae,())).1) (Ae))))),r5,()) else none else none else none else none else none else none else none else none else X2 (r2,r3,r4,r5,())
def Bt:Nat→(List Int)→(Int)→(List Ab)→(List Wr)→(List Ab)→(List Wr) →  Option ((List Ab)×(List Wr)×(List Ab)×(List Wr)×Unit)
 | 0,_,_,_,_,_,_=>none
 | m + 1,v1,v6,r2,r3,r4,r5=>Gz  (fun d=>Bt m d.1 d.2.1 d.2.2.1 d.2.2.2.1 d.2.2.2.2.1 d.2.2.2.2.2.1) (fun d=>some (d)) v1 v6 r2 r3 r4 r5
def Acd (d:(List Int)×(Int)×(List Ab)×(List Wr)×(List Ab)×(List Wr)×Unit):Option ((List Ab)×(List Wr)×(List Ab)×(List Wr)×Unit):=(u4 (Ac (Ac Ah))) (Bt ((u4 (Ac (Ac Ah))) Dx d)) d
def O1 (a0:Dk) (a1:List Int):Option ((Dk×(Unit))):=
 bif !C0 a0 then some (([],[],()),()) else ((Cm a0).bind fun val=>some (val,())).bind fun val=>((fun d=>Bt (Dx d.1 d.2.1 d.2.2.1 d.2.2.2.1 d.2.2.2.2.1 d.2.2.2.2.2.1) d.1 d.2.1 d.2.2.1 d.2.2.2.1 d.2.2.2.2.1 d.2.2.2.2.2.1) (a1,0,[],[],val.1)).bind fun val=>some ((val.2.2.1,[],()),())
theorem Ag7 (a0:Dk) (a1:List Int):O1 a0 a1=some (((He a0 a1).1,(He a0 a1).2.1,()),(())):=by
 unfold O1 He D6
 show (bif !As a0 then _ else _)=_
 cases hv:As a0 with
 | false=>rfl
 | true=>
  obtain ⟨k1,k2,k3,k4,k5⟩:=Ig hv
  have e1:Cm (a0.1,a0.2.1,())=some (a0.1,a0.2.1,()):=if_pos ⟨by show a0.1.length≤_; omega,by show a0.2.1.length≤_; omega⟩
  have hL:=Xr (xs:=a0.2.1) zW (Ags a0.1.length) (fun i w s=>s.set w.1.toNat (Arf w.2.1 (s.getD w.1.toNat z0) (Kn a1 i))) (g:=fun m i s=>Bt m a1 i [] [] s a0.2.1) (ok:=fun s=>([],[],s,a0.2.1,())) (fun m i s hi hI=>by
   show Bt (m + 1) a1 i [] [] s a0.2.1=_
   simp only [Bt,Gz]
   obtain ⟨w0,w1,w2⟩:=k5 i hi
   have h0:0≤(List.getD a0.2.1 i (0,Ae,())).1:=w0
   have h1:(List.getD a0.2.1 i (0,Ae,())).1 < nI s.length:=by rw [hI.1]; exact w1
   have hsz:ByteArray.size (List.getD a0.2.1 i (0,Ae,())).2.1=64:=w2
   have hj:Int.toNat (List.getD a0.2.1 i (0,Ae,())).1 < s.length:=by
    have h1:(List.getD a0.2.1 i (0,Ae,())).1 < (s.length:Int):=h1
    omega
   have hs2:ByteArray.size (List.getD s (Int.toNat (List.getD a0.2.1 i (0,Ae,())).1) (Ae))=64:=hI.2 _ (by rw [← hI.1]; exact hj)
   have hsum:∀ k:Int,0≤k→k≤64→ByteArray.size (Af (List.getD a0.2.1 i (0,Ae,())).2.1 0 k) + ByteArray.size (Af (List.getD s (Int.toNat (List.getD a0.2.1 i (0,Ae,())).1) (Ae)) k (nI (ByteArray.size (List.getD s (Int.toNat (List.getD a0.2.1 i (0,Ae,())).1) (Ae)))))≤9223372036854775807:=by
    intro k q0 q1
    rw [C9 (by omega) q0 (by rw [hsz]; omega),C9 q0 (by rw [hs2]; simp only [nI]; omega) (by rw [hs2]; simp [nI])]
    rw [hs2]
    simp only [nI]
    omega
   rw [cLt hi,Mv,wI (show i < 4611686018427387904 by omega),Jh]
   by_cases hf:i < a1.length
   ·have hfa:Kn a1 i=Ls (List.getD a1 i 0):=if_pos hf
    rw [cLt hf,hfa]
    by_cases q0:(List.getD a1 i 0) < 0
    ·have hz:Ls (List.getD a1 i 0)=0:=if_pos q0
     rw [Ag q0,Ag h0,Ag h1,Ag (hsum 0 (by omega) (by omega)),Ag hj,hz]
     rfl
    ·rw [Bh q0]
     by_cases q1:(List.getD a1 i 0) > 64
     ·have hz:Ls (List.getD a1 i 0)=64:=(if_neg q0).trans (if_pos q1)
      have c2:(64:Int)≤nI (ByteArray.size (List.getD a0.2.1 i (0,Ae,())).2.1):=by rw [hsz]; exact Int.le_refl _
      have c5:(64:Int)≤nI (ByteArray.size (List.getD s (Int.toNat (List.getD a0.2.1 i (0,Ae,())).1) (Ae))):=by rw [hs2]; exact Int.le_refl _
      rw [Ag q1,Ag c2,Ag h0,Ag h1,Ag c5,Ag (hsum 64 (by omega) (by omega)),Ag hj,hz]
      rfl
     ·have hz:Ls (List.getD a1 i 0)=(List.getD a1 i 0):=(if_neg q0).trans (if_neg q1)
      have c1:0≤(List.getD a1 i 0):=by omega
      have c2:(List.getD a1 i 0)≤nI (ByteArray.size (List.getD a0.2.1 i (0,Ae,())).2.1):=by rw [hsz]; simp only [nI]; omega
      have c5:(List.getD a1 i 0)≤nI (ByteArray.size (List.getD s (Int.toNat (List.getD a0.2.1 i (0,Ae,())).1) (Ae))):=by rw [hs2]; simp only [nI]; omega
      rw [Bh q1,Ag c1,Ag c2,Ag h0,Ag h1,Ag c5,Ag (hsum _ c1 (by omega)),Ag hj,hz]
      rfl
   ·have hfa:Kn a1 i=0:=if_neg hf
    have nf:¬ (i:Int) < nI a1.length:=by simp only [nI]; omega
    rw [Bh nf,Ag h0,Ag h1,Ag (hsum 0 (by omega) (by omega)),Ag hj,hfa]
    rfl) (fun i s hi hI=>hI.set (Ai9 (k5 i hi).2.2 (hI.2 _ (by
   have q:=k5 i hi
   omega)) (Ss a1 i).1 (Ss a1 i).2)) (fun m s hI=>by
   show Bt (m + 1) a1 (a0.2.1.length:Int) [] [] s a0.2.1=_
   simp only [Bt,Gz]
   rw [W3]
   rfl) (Dx a1 0 [] [] a0.1 a0.2.1) 0 a0.1 (by omega) (by simp [Dx]) ⟨rfl,k4⟩
  have hL':Bt (Dx a1 0 [] [] a0.1 a0.2.1) a1 0 [] [] a0.1 a0.2.1=_:=hL
  rw [e1]
  show (Bt (Dx a1 0 [] [] a0.1 a0.2.1) a1 0 [] [] a0.1 a0.2.1).bind _=_
  rw [hL']
  rfl
def R1 {R:Type} (k:Kt R):=(Mh (Gj 6) (.exit 0) 2 k)
def Yc {R:Type}:Lt R Gj:=(Gc (pat:=Gj) 6 (fun d k=>(Acd d).bind (R1 k)) Ky)
theorem V1:A1 Try.prog V0:=Bc ⟨Gi,Jz,trivial⟩
theorem Ace {R:Type}:A7 Try.prog R 60 0 Gj Yc R0:=
 Cu (cfg:=⟨V0,0,60,Gj⟩) 6 [] (fun NX X d=>(u4 (Ac (Ac Ah))) (Gz  NX X) d) (fun m d=>(u4 (Ac (Ac Ah))) (Bt m) d) (fun d=>(u4 (Ac (Ac Ah))) Dx d) R1 V1 trivial (fun f NX d=>by simp only [u4,Ac,Ah]; unfold Gz; simp only [nb])
theorem Ag8:Cp Try.prog 115 Vz:=
 Bd (pat:=Gj) [R0] Yc V1 ⟨Ace,trivial⟩ Try.func115 (de:=fun x=>O1 x.1 x.2.1) (fun x r h=>(Ag7 x.1 x.2.1).trans h) fun _=>by kernel_rfl
def Alq:Ji:=⟨[.rd Nn,.rd (.sl tI)],[some 16,none],[.rd Nn],[some 16]⟩
def Rg (a0:C5) (a1:List Int):Option (((C5×Unit)×(Unit))):=
 some (((a0.1,He a0.2.1 a1,false,(0,0,0,(0,0,0,0,()),0,0,([],()),()),a0.2.2.2.2),()),())
theorem b8:∃ f,f=@Rg:=⟨_,rfl⟩
def Dd:=Classical.choose b8
theorem b9:@Dd=@Rg:=Classical.choose_spec b8
def c7:SD:=⟨Alq,fun x=>Dd x.1 x.2.1⟩
theorem Aab (w:C5) (f:List Int):Am (Dd w f) fun q=>q=((A03 w f,()),()):=by
 rw [b9]
 exact Am.some rfl
theorem Alr:Cp Try.prog 97 c7:=
 Bd (pat:=Ge) [] Ky (Bc (l:=[(115,Vz)]) ⟨Ag8,trivial⟩) trivial Try.func97 (de:=fun x=>Rg x.1 x.2.1) (fun x r h=>by have q:Dd x.1 x.2.1=some r:=h; rw [b9] at q; exact q) fun _=>by kernel_rfl
def Ly (k:Ab):Bool:=a9 k
def Als:Ji:=⟨[.rd .str],[none],[.rd .bool],[none]⟩
def Rh:SD:=⟨Als,fun x=>some (((Ly x.1),()),(()))⟩
def Ri (a0:Ab):Option ((((Bool)×Unit)×(Unit))):=
 bif decide (nI a0.size≥1) then some ((decide (nI a0.size≤20),()),()) else some ((false,()),())
theorem Alt (a0:Ab):Ri a0=some ((Ly a0,()),()):=by
 unfold Ri Ly a9 Di
 by_cases h:(a0.size:Int)≥1
 ·have:decide ((1:Int)≤(a0.size:Int))=true:=by simpa using h
  simp [nI,this]
 ·have h':¬ (1:Int)≤(a0.size:Int):=h
  simp [nI,h']
theorem c9:Cp Try.prog 66 Rh:=
 Bd (pat:=Ge) [] Ky (Bc (l:=[]) trivial) trivial Try.func66 (de:=fun x=>Ri x.1) (fun x r h=>(Alt x.1).trans h) fun _=>by kernel_rfl
def E1 (s:Ki):Bool:=Aq s
def Ae1:Ji:=⟨[.rd Ln],[some 1],[.rd .bool],[none]⟩
def Ko:SD:=⟨Ae1,fun x=>some (((E1 x.1),()),(()))⟩
def Tv:Tb:=tb [(66,Rh)]
def Eh:Nat→Du×(Nat→Du):=Ix [(5,⟨[.boxSl 1 0 B2],[(1,.lf (.ptr 0 0)),(3,.lf (.d tI))],[.box 30 [.d (.sl B2)]]⟩,[(2,p0),(1,⟨[],[(2,.lf (.d .bool))],[]⟩)])]
def Q1:Code:=(Av (Bl Try.f31)).getD 0 .skip
def De (v3:Int) (b0_0:List Bw):Nat:=((b0_0.length:Int) - v3).toNat + 1
def F7 {R:Type}  (NX:((Int)×(List Bw)×Unit)→Option R) (X2:(Unit)→Option R) (X1:((Bool)×Unit)→Option R) (v3:Int) (b0_0:List Bw):Option R:=
 bif decide (v3 < nI b0_0.length) then bif decide (0≤v3) then bif decide (v3 < nI b0_0.length) then bif !Ly (b0_0.getD v3.toNat (Ae,Ae,())).1 then X1 (false,()) else bif decide (0≤v3) then bif decide (v3 < nI b0_0.length) then bif decide (nI (ByteArray.size (b0_0.getD v3.toNat (Ae,Ae,())).2.1) > 100) then X1 (false,()) else bif decide (v3 > 0) then bif decide (0≤IntKind.i64.wrap (v3 - 1)) then bif decide (IntKind.i64.wrap (v3 - 1) < nI b0_0.length) then bif decide (0≤v3) then bif decide (v3 < nI b0_0.length) then bif !Op.bytesLess (ByteArray.toList (b0_0.getD (IntKind.i64.wrap (v3 - 1)).toNat (Ae,Ae,())).1) (ByteArray.toList (b0_0.getD v3.toNat (Ae,Ae,())).1) then X1 (false,()) else NX (IntKind.i64.wrap (v3 + 1),b0_0,()) else none else none else none else none else NX (IntKind.i64.wrap (v3 + 1),b0_0,()) else none else none else none else none else X2 PUnit.unit
def Bn:Nat→(Int)→(List Bw) →  Option ((Unit) ⊕ ((Bool)×Unit))
 | 0,_,_=>none
 | m + 1,v3,b0_0=>F7  (fun d=>Bn m d.1 d.2.1) (fun d=>some (.inl (d))) (fun d=>some (.inr (d))) v3 b0_0
def Aac (d:(Int)×(List Bw)×Unit):Option ((Unit) ⊕ ((Bool)×Unit)):=(Ac (Ac Ah)) (Bn ((Ac (Ac Ah)) De d)) d
def Ns (a0:Ki):Option ((((Bool)×Unit)×(Unit))):=
 bif decide (nI (List.length a0.1) > 100) then some ((false,()),()) else ((fun d=>Bn (De d.1 d.2.1) d.1 d.2.1) (0,a0)).bind fun val=>Eb (fun d=>some ((true,()),())) (fun d=>some (d,())) val
theorem Ae2 (a0:Ki):Ns a0=some ((E1 a0,()),()):=by
 unfold Ns E1 Aq
 have c1:decide (nI a0.1.length > 100)=!decide (a0.1.length≤100):=Ata _ 100
 by_cases hl:a0.1.length≤100
 ·have hL:=Th (n:=a0.1.length) (Oj a0.1) (g:=fun m i=>Bn m i a0.1) (ok:=.inl ()) (bad:=.inr (false,())) (fun m i hi=>by
   show Bn (m + 1) i a0.1=_
   simp only [Bn,F7]
   have g1:decide (nI (ByteArray.size (List.getD a0.1 i (Ae,Ae,())).2.1) > 100)=!decide (ByteArray.size (List.getD a0.1 i zP).2.1≤100):=Ata _ 100
   rw [cLt hi,Mv,wI (show i < 4611686018427387904 by omega),Jh,gt0,g1]
   simp only [cond_true]
   unfold Oj bl
   show (bif !a9 (List.getD a0.1 i zP).1 then _ else _)=_
   cases i with
   | zero=>
    show (bif !a9 (List.getD a0.1 0 zP).1 then _ else bif !decide (ByteArray.size (List.getD a0.1 0 zP).2.1≤100) then _ else _)=_
    cases a9 (List.getD a0.1 0 zP).1<;>cases decide (ByteArray.size (List.getD a0.1 0 zP).2.1≤100)<;>rfl
   | succ j=>
    rw [wP j (by omega),Mv,cLt (show j < a0.1.length by omega)]
    show (bif !a9 (List.getD a0.1 (j + 1) zP).1 then _ else bif !decide (ByteArray.size (List.getD a0.1 (j + 1) zP).2.1≤100) then _ else bif !Op.bytesLess (ByteArray.toList (List.getD a0.1 j zP).1) (ByteArray.toList (List.getD a0.1 (j + 1) zP).1) then _ else _)=_
    rw [Nat.add_sub_cancel]
    cases a9 (List.getD a0.1 (j + 1) zP).1<;>cases decide (ByteArray.size (List.getD a0.1 (j + 1) zP).2.1≤100)<;>cases Op.bytesLess (ByteArray.toList (List.getD a0.1 j zP).1) (ByteArray.toList (List.getD a0.1 (j + 1) zP).1)<;>rfl) (fun m=>by
   show Bn (m + 1) (a0.1.length:Int) a0.1=_
   simp only [Bn,F7]
   rw [W3]
   rfl) (De 0 a0.1) 0 (by omega) (by simp [De,nI])
  have hL':Bn (De 0 a0.1) 0 a0.1=_:=hL
  rw [c1,Ag hl]
  show (Bn (De 0 a0.1) 0 a0.1).bind _=_
  rw [hL']
  cases (List.range' 0 (a0.1.length - 0)).all (Oj a0.1)<;>rfl
 ·rw [c1,Bh hl]
  rfl
def Q2 {R:Type} (k:Kt R):=(Eb (Mh (Eh 5) (.exit 0) 2 k) (Mh (Eh 5) .ret 1 k))
def V2 {R:Type}:Lt R Eh:=(Gc (pat:=Eh) 5 (fun d k=>(Aac d).bind (Q2 k)) Ky)
theorem Tw:A1 Try.prog Tv:=Bc ⟨c9,trivial⟩
theorem Aad {R:Type}:A7 Try.prog R 53 0 Eh V2 Q1:=
 Cu (cfg:=⟨Tv,0,53,Eh⟩) 5 [] (fun NX X d=>(Ac (Ac Ah)) (F7  NX (fun e=>X (.inl (e))) (fun e=>X (.inr (e)))) d) (fun m d=>(Ac (Ac Ah)) (Bn m) d) (fun d=>(Ac (Ac Ah)) De d) Q2 Tw trivial (fun f NX d=>by simp only [u4,Ac,Ah]; unfold F7; simp only [nb])
theorem Nt:Cp Try.prog 31 Ko:=
 Bd (pat:=Eh) [Q1] V2 Tw ⟨Aad,trivial⟩ Try.func31 (de:=fun x=>Ns x.1) (fun x r h=>(Ae2 x.1).trans h) fun _=>by kernel_rfl
def Alu:Ji:=⟨[.rd tI],[none],[.rd .bool],[none]⟩
def Bz (a0:Int):Option ((((Bool)×Unit)×(Unit))):=
 bif decide (a0≥1) then some ((decide (a0≤8),()),()) else some ((false,()),())
def Cx:SD:=⟨Alu,fun x=>Bz x.1⟩
theorem Dj:Cp Try.prog 62 Cx:=
 Bd (pat:=Ge) [] Ky (Bc (l:=[]) trivial) trivial Try.func62 (de:=fun x=>Bz x.1) (fun x r h=>h) fun _=>by kernel_rfl
def Au (n:Int):Int:=An n
def Apv:Ji:=⟨[.rd tI],[none],[.rd tI],[none]⟩
def J5:SD:=⟨Apv,fun x=>some (((Au x.1),()),(()))⟩
def Tx (a0:Int):Option ((((Int)×Unit)×(Unit))):=
 bif decide (a0 < 8) then some ((0,()),()) else bif decide (a0 > 200) then some ((0,()),()) else some ((IntKind.i64.wrap ((IntKind.i64.wrap (a0 - 2)).tdiv 2),()),())
theorem Apw (a0:Int):Tx a0=some (((Au a0),()),(())):=by
 unfold Tx Au An
 rw [Ao1]
 cases h:Di a0 8 200 with
 | false=>rfl
 | true=>
  obtain ⟨h1,h2⟩:=Ec h
  rw [Aw8 h1 h2]
  rfl
theorem Lz:Cp Try.prog 109 J5:=
 Bd (pat:=Ge) [] Ky (Bc (l:=[]) trivial) trivial Try.func109 (de:=fun x=>Tx x.1) (fun x r h=>(Apw x.1).trans h) fun _=>by kernel_rfl
def Ip (s:Ki):List (List Bp):=K0 s
def Ajr:Ji:=⟨[.rd Ln],[some 1],[.rd (.sl (.sl Gu))],[none]⟩
def Qb:SD:=⟨Ajr,fun x=>some (((Ip x.1),()),(()))⟩
def Yd:Tb:=tb [(31,Ko)]
def Hf:Nat→Du×(Nat→Du):=Ix [(6,⟨[.last 3 69 Gu,.boxSl 1 0 B2],[(1,.lf (.ptr 0 0)),(3,.lf (.row 1)),(4,.lf (.d tI))],[.box 30 [.d (.sl B2)],.last 65 Gu 2,.row 69 Gu]⟩,[(2,⟨[.last 3 69 Gu],[(3,.lf (.row 0))],[.last 65 Gu 1,.row 69 Gu]⟩)])]
def Tz:Code:=(Av (Bl Try.f7)).getD 0 .skip
def Ei (v4:Int) (b0_0:List Bw) (r1:List (List Bp)) (c1:Bool) (r2:List Bp):Nat:=((b0_0.length:Int) - v4).toNat + 1
def Hp {R:Type}  (NX:((Int)×(List Bw)×(List (List Bp))×(Bool)×(List Bp)×Unit)→Option R) (X2:((List (List Bp))×(Bool)×(List Bp)×Unit)→Option R) (v4:Int) (b0_0:List Bw) (r1:List (List Bp)) (c1:Bool) (r2:List Bp):Option R:=
 bif decide (v4 < nI b0_0.length) then bif v4.tmod 20==0 then bif decide ((r1.length + c1.toNat + 1) * 24≤140737488355328) then bif decide (0≤IntKind.i64.wrap (nI ((bif c1 then r1++[r2] else r1).length + true.toNat) - 1)) then bif decide (IntKind.i64.wrap (nI ((bif c1 then r1++[r2] else r1).length + true.toNat) - 1) < nI ((bif c1 then r1++[r2] else r1).length + true.toNat)) then bif decide ((IntKind.i64.wrap (nI ((bif c1 then r1++[r2] else r1).length + true.toNat) - 1)).toNat=(bif c1 then r1++[r2] else r1).length) then bif decide (0≤v4) then bif decide (v4 < nI b0_0.length) then bif decide (0≤v4) then bif decide (v4 < nI b0_0.length) then bif decide (0≤IntKind.i64.wrap (nI ((bif c1 then r1++[r2] else r1).length + true.toNat) - 1)) then bif decide (IntKind.i64.wrap (nI ((bif c1 then r1++[r2] else r1).length + true.toNat) - 1) < nI ((bif c1 then r1++[r2] else r1).length + true.toNat)) then bif decide ((IntKind.i64.wrap (nI ((bif c1 then r1++[r2] else r1).length + true.toNat) - 1)).toNat=(bif c1 then r1++[r2] else r1).length) then NX (IntKind.i64.wrap (v4 + 1),b0_0,bif c1 then r1++[r2] else r1,true,[]++[((b0_0.getD v4.toNat (Ae,Ae,())).1,(b0_0.getD v4.toNat (Ae,Ae,())).2.1,false,())],()) else none else none else none else none else none else none else none else none else none else none else none else bif decide (0≤IntKind.i64.wrap (nI (r1.length + c1.toNat) - 1)) then bif decide (IntKind.i64.wrap (nI (r1.length + c1.toNat) - 1) < nI (r1.length + c1.toNat)) then bif c1 then bif decide ((IntKind.i64.wrap (nI (r1.length + c1.toNat) - 1)).toNat=r1.length) then bif decide (0≤v4) then bif decide (v4 < nI b0_0.length) then bif decide (0≤v4) then bif decide (v4 < nI b0_0.length) then bif decide ((r2.length + [((b0_0.getD v4.toNat (Ae,Ae,())).1,(b0_0.getD v4.toNat (Ae,Ae,())).2.1,false,())].length) * 40≤140737488355328) then bif decide (0≤IntKind.i64.wrap (nI (r1.length + c1.toNat) - 1)) then bif decide (IntKind.i64.wrap (nI (r1.length + c1.toNat) - 1) < nI (r1.length + c1.toNat)) then bif c1 then bif decide ((IntKind.i64.wrap (nI (r1.length + c1.toNat) - 1)).toNat=r1.length) then NX (IntKind.i64.wrap (v4 + 1),b0_0,r1,c1,r2++[((b0_0.getD v4.toNat (Ae,Ae,())).1,(b0_0.getD v4.toNat (Ae,Ae,())).2.1,false,())],()) else none else none else none else none else none else none else none else none else none else none else none else none else none else X2 (r1,c1,r2,())
def B4:Nat→(Int)→(List Bw)→(List (List Bp))→(Bool)→(List Bp) →  Option ((List (List Bp))×(Bool)×(List Bp)×Unit)
 | 0,_,_,_,_,_=>none
 | m + 1,v4,b0_0,r1,c1,r2=>Hp  (fun d=>B4 m d.1 d.2.1 d.2.2.1 d.2.2.2.1 d.2.2.2.2.1) (fun d=>some (d)) v4 b0_0 r1 c1 r2
def Ae3 (d:(Int)×(List Bw)×(List (List Bp))×(Bool)×(List Bp)×Unit):Option ((List (List Bp))×(Bool)×(List Bp)×Unit):=(u4 (Ac Ah)) (B4 ((u4 (Ac Ah)) Ei d)) d
def Qc (a0:Ki):Option ((((List (List Bp))×Unit)×(Unit))):=
 bif !E1 a0 then some (([],()),()) else ((fun d=>B4 (Ei d.1 d.2.1 d.2.2.1 d.2.2.2.1 d.2.2.2.2.1) d.1 d.2.1 d.2.2.1 d.2.2.2.1 d.2.2.2.2.1) (0,a0.1,[],false,[],())).bind fun val=>some ((bif val.2.1 then val.1++[val.2.2.1] else val.1,()),())
theorem Ajs (a0:Ki):Qc a0=some (((Ip a0),()),(())):=by
 unfold Qc Ip K0
 show (bif !Aq a0 then _ else _)=_
 cases hv:Aq a0 with
 | false=>rfl
 | true=>
  have hl:=Ey hv
  have hL:=Jl (xs:=a0.1) zP Aw7 Xq (g:=fun m i s=>B4 m i a0.1 s.1 s.2.1 s.2.2) (ok:=fun s=>(s.1,s.2.1,s.2.2,())) (fun m i s hi hI=>by
   show B4 (m + 1) i a0.1 s.1 s.2.1 s.2.2=_
   obtain ⟨r0,c0,r1⟩:=s
   obtain ⟨h1,h2,h3,h4⟩:=hI
   simp only at h2 h3 h4 ⊢
   simp only [B4,Hp]
   rw [cLt hi,Mv,wI (show i < 4611686018427387904 by omega),Jh,A8d]
   unfold Xq
   cases hc:(i % 20==0)
   ·have hp:0 < i:=Nat.pos_of_ne_zero fun q=>by subst q; cases hc
    have hc0:=h3 hp
    subst hc0
    have e1:=A4r r0.length (by omega)
    have e2:decide ((r0.length:Int) < nI (r0.length + 1))=true:=cLt (Nat.lt_succ_self _)
    have e3:decide ((r1.length + 1) * 40≤140737488355328)=true:=Ag (by omega)
    simp only [Bool.toNat_true,D9,cond_true,cond_false,e1,e2,e3,Mv,Jh,decide_true]
    rfl
   ·have hL:List.length (bif c0 then r0++[r1] else r0)≤i + 1:=by cases c0<;>simp<;>omega
    have e1:=A4r (List.length (bif c0 then r0++[r1] else r0)) (by omega)
    have e2:decide (((List.length (bif c0 then r0++[r1] else r0):Nat):Int) < nI (List.length (bif c0 then r0++[r1] else r0) + 1))=true:=cLt (Nat.lt_succ_self _)
    have e3:decide ((r0.length + Bool.toNat c0 + 1) * 24≤140737488355328)=true:=Ag (by cases c0<;>simp<;>omega)
    simp only [Bool.toNat_true,cond_true,e1,e2,e3,Mv,Jh,decide_true]
    rfl) (fun i s hi hI=>hI.step (by omega) _) (fun m s hI=>by
   show B4 (m + 1) (a0.1.length:Int) a0.1 s.1 s.2.1 s.2.2=_
   simp only [B4,Hp]
   rw [W3]
   rfl) (Ei 0 a0.1 [] false []) 0 ([],false,[]) (by omega) (by simp [Ei,nI]) ⟨by omega,by simp,fun q=>by omega,by simp⟩
  have hL':B4 (Ei 0 a0.1 [] false []) 0 a0.1 [] false []=_:=hL
  show (B4 (Ei 0 a0.1 [] false []) 0 a0.1 [] false []).bind _=_
  rw [hL']
  rfl
def T1 {R:Type} (k:Kt R):=(Mh (Hf 6) (.exit 0) 2 k)
def d5 {R:Type}:Lt R Hf:=(Gc (pat:=Hf) 6 (fun d k=>(Ae3 d).bind (T1 k)) Ky)
theorem Ye:A1 Try.prog Yd:=Bc ⟨Nt,trivial⟩
theorem Ae4 {R:Type}:A7 Try.prog R 51 0 Hf d5 Tz:=
 Cu (cfg:=⟨Yd,0,51,Hf⟩) 6 [] (fun NX X (d:(Int)×(List Bw)×(List (List Bp))×(Bool)×(List Bp)×Unit)=>(u4 (Ac Ah)) (Hp  NX X) d) (fun m d=>(u4 (Ac Ah)) (B4 m) d) (fun d=>(u4 (Ac Ah)) Ei d) T1 Ye trivial (fun f NX (d:(Int)×(List Bw)×(List (List Bp))×(Bool)×(List Bp)×Unit)=>by simp only [u4,Ac,Ah]; unfold Hp; simp only [nb])
theorem Yf:Cp Try.prog 7 Qb:=
 Bd (pat:=Hf) [Tz] d5 Ye ⟨Ae4,trivial⟩ Try.func7 (de:=fun x=>Qc x.1) (fun x r h=>(Ajs x.1).trans h) fun _=>by kernel_rfl
def Gk (b:List Bp):Bool:=Bf b
def Ae5:Ji:=⟨[.rd (.sl Gu)],[none],[.rd .bool],[none]⟩
def Kq:SD:=⟨Ae5,fun x=>some (((Gk x.1),()),(()))⟩
def T3:Tb:=tb [(66,Rh)]
def Ej:Nat→Du×(Nat→Du):=Ix [(5,⟨[.sl 0 0 Gu],[(0,.lf (.d (.sl Gu))),(3,.lf (.d tI))],[]⟩,[(2,p0),(1,⟨[],[(2,.lf (.d .bool))],[]⟩)])]
def Q3:Code:=(Av (Bl Try.f107)).getD 0 .skip
def F8 (v0:List Bp) (v3:Int):Nat:=((v0.length:Int) - v3).toNat + 1
def F9 {R:Type}  (NX:((List Bp)×(Int)×Unit)→Option R) (X2:(Unit)→Option R) (X1:((Bool)×Unit)→Option R) (v0:List Bp) (v3:Int):Option R:=
 bif decide (v3 < nI v0.length) then bif decide (0≤v3) then bif decide (v3 < nI v0.length) then bif !Ly (v0.getD v3.toNat (Ae,Ae,false,())).1 then X1 (false,()) else bif decide (0≤v3) then bif decide (v3 < nI v0.length) then bif decide (nI (ByteArray.size (v0.getD v3.toNat (Ae,Ae,false,())).2.1) > 100) then X1 (false,()) else bif decide (0≤v3) then bif decide (v3 < nI v0.length) then bif (v0.getD v3.toNat (Ae,Ae,false,())).2.2.1 then bif decide (0≤v3) then bif decide (v3 < nI v0.length) then bif !ByteArray.toList (v0.getD v3.toNat (Ae,Ae,false,())).2.1==(Ae).toList then X1 (false,()) else NX (v0,IntKind.i64.wrap (v3 + 1),()) else none else none else NX (v0,IntKind.i64.wrap (v3 + 1),()) else none else none else none else none else none else none else X2 PUnit.unit
def B6:Nat→(List Bp)→(Int) →  Option ((Unit) ⊕ ((Bool)×Unit))
 | 0,_,_=>none
 | m + 1,v0,v3=>F9  (fun d=>B6 m d.1 d.2.1) (fun d=>some (.inl (d))) (fun d=>some (.inr (d))) v0 v3
def Aae (d:(List Bp)×(Int)×Unit):Option ((Unit) ⊕ ((Bool)×Unit)):=(Ac (Ac Ah)) (B6 ((Ac (Ac Ah)) F8 d)) d
def Nu (a0:List Bp):Option ((((Bool)×Unit)×(Unit))):=
 bif decide (nI a0.length < 1) then some ((false,()),()) else bif decide (nI a0.length > 20) then some ((false,()),()) else ((fun d=>B6 (F8 d.1 d.2.1) d.1 d.2.1) (a0,0,())).bind fun val=>Eb (fun d=>some ((true,()),())) (fun d=>some (d,())) val
theorem Ae6 (a0:List Bp):Nu a0=some (((Gk a0),()),(())):=by
 unfold Nu Gk Bf
 have tl:ByteArray.toList (Ae)=[]:=by decide +kernel
 rw [Ao1 (nI (List.length a0))]
 show (bif Di (a0.length:Int) 1 20 then _ else _)=_
 cases hin:Di (a0.length:Int) 1 20 with
 | false=>rfl
 | true=>
  have hlen:a0.length≤20:=by have:=(Ec hin).2; omega
  have hL:=Th (n:=a0.length) (fun i=>Te (a0.getD i zC)) (g:=fun m i=>B6 m a0 i) (ok:=.inl ()) (bad:=.inr (false,())) (fun m i hi=>by
   show B6 (m + 1) a0 i=_
   simp only [B6,F9]
   rw [tl,cLt hi,Mv,wI (show i < 4611686018427387904 by omega),Jh]
   have g1:decide (nI (ByteArray.size (List.getD a0 i (Ae,Ae,false,())).2.1) > 100)=!decide ((a0.getD i zC).2.1.size≤100):=Ata _ 100
   rw [g1]
   show (bif !a9 (a0.getD i zC).1 then _ else (bif _ then _ else (bif (a0.getD i zC).2.2.1 then (bif !((a0.getD i zC).2.1.toList==[]) then _ else _) else _)))=_
   unfold Te
   cases a9 (a0.getD i zC).1<;>cases decide ((a0.getD i zC).2.1.size≤100)<;>cases (a0.getD i zC).2.2.1<;>cases ((a0.getD i zC).2.1.toList==[])<;>rfl) (fun m=>by
   show B6 (m + 1) a0 (a0.length:Int)=_
   simp only [B6,F9]
   rw [W3]
   rfl) (F8 a0 0) 0 (by omega) (by simp [F8,nI])
  refine bi_ hL ?_
  rw [Nat.sub_zero]
  cases (List.range' 0 a0.length).all (fun i=>Te (a0.getD i zC))<;>rfl
def Q4 {R:Type} (k:Kt R):=(Eb (Mh (Ej 5) (.exit 0) 2 k) (Mh (Ej 5) .ret 1 k))
def V3 {R:Type}:Lt R Ej:=(Gc (pat:=Ej) 5 (fun d k=>(Aae d).bind (Q4 k)) Ky)
theorem T4:A1 Try.prog T3:=Bc ⟨c9,trivial⟩
theorem Aaf {R:Type}:A7 Try.prog R 49 0 Ej V3 Q3:=
 Cu (cfg:=⟨T3,0,49,Ej⟩) 5 [] (fun NX X d=>(Ac (Ac Ah)) (F9  NX (fun e=>X (.inl (e))) (fun e=>X (.inr (e)))) d) (fun m d=>(Ac (Ac Ah)) (B6 m) d) (fun d=>(Ac (Ac Ah)) F8 d) Q4 T4 trivial (fun f NX d=>by simp only [u4,Ac,Ah]; unfold F9; simp only [nb])
theorem Nv:Cp Try.prog 107 Kq:=
 Bd (pat:=Ej) [Q3] V3 T4 ⟨Aaf,trivial⟩ Try.func107 (de:=fun x=>Nu x.1) (fun x r h=>(Ae6 x.1).trans h) fun _=>by kernel_rfl
def C1 (b:List Bp):Ab:=Fi b
def Ag9:Ji:=⟨[.rd (.sl Gu)],[none],[.rd .str],[none]⟩
def I2:SD:=⟨Ag9,fun x=>some (((C1 x.1),()),(()))⟩
def V4:Tb:=tb [(107,Kq)]
def Gl:Nat→Du×(Nat→Du):=Ix [(6,⟨[.sl 0 0 Gu,.row 3 0 5 (.int .u8)],[(0,.lf (.d (.sl Gu))),(3,.lf (.row 0)),(4,.lf (.d tI))],[.row 5 (.int .u8)]⟩,[(2,⟨[.row 3 0 5 (.int .u8)],[(3,.lf (.row 0))],[.row 5 (.int .u8)]⟩)])]
def R2:Code:=(Av (Bl Try.f112)).getD 0 .skip
def G0 (v0:List Bp) (v4:Int) (r0:List Int):Nat:=((v0.length:Int) - v4).toNat + 1
def G1 {R:Type}  (NX:((List Bp)×(Int)×(List Int)×Unit)→Option R) (X2:((List Int)×Unit)→Option R) (v0:List Bp) (v4:Int) (r0:List Int):Option R:=
 bif decide (v4 < nI v0.length) then bif decide (0≤v4) then bif decide (v4 < nI v0.length) then bif (v0.getD v4.toNat (Ae,Ae,false,())).2.2.1 then bif decide (0≤v4) then bif decide (v4 < nI v0.length) then bif decide ((r0.length + [1,IntKind.u8.wrap (nI (ByteArray.size (v0.getD v4.toNat (Ae,Ae,false,())).1))].length) * 1≤140737488355328) then bif decide (0≤v4) then bif decide (v4 < nI v0.length) then bif decide ((r0++[1,IntKind.u8.wrap (nI (ByteArray.size (v0.getD v4.toNat (Ae,Ae,false,())).1))]).length + ByteArray.size (v0.getD v4.toNat (Ae,Ae,false,())).1≤140737488355328) then NX (v0,IntKind.i64.wrap (v4 + 1),r0++[1,IntKind.u8.wrap (nI (ByteArray.size (v0.getD v4.toNat (Ae,Ae,false,())).1))]++Ad (v0.getD v4.toNat (Ae,Ae,false,())).1,()) else none else none else none else none else none else none else bif decide (0≤v4) then bif decide (v4 < nI v0.length) then bif decide ((r0.length + [0,IntKind.u8.wrap (nI (ByteArray.size (v0.getD v4.toNat (Ae,Ae,false,())).1))].length) * 1≤140737488355328) then bif decide (0≤v4) then bif decide (v4 < nI v0.length) then bif decide ((r0++[0,IntKind.u8.wrap (nI (ByteArray.size (v0.getD v4.toNat (Ae,Ae,false,())).1))]).length + ByteArray.size (v0.getD v4.toNat (Ae,Ae,false,())).1≤140737488355328) then bif decide (0≤v4) then bif decide (v4 < nI v0.length) then bif decide (((r0++[0,IntKind.u8.wrap (nI (ByteArray.size (v0.getD v4.toNat (Ae,Ae,false,())).1))]++Ad (v0.getD v4.toNat (Ae,Ae,false,())).1).length + [IntKind.u8.wrap (nI (ByteArray.size (v0.getD v4.toNat (Ae,Ae,false,())).2.1))].length) * 1≤140737488355328) then bif decide (0≤v4) then bif decide (v4 < nI v0.length) then bif decide ((r0++[0,IntKind.u8.wrap (nI (ByteArray.size (v0.getD v4.toNat (Ae,Ae,false,())).1))]++Ad (v0.getD v4.toNat (Ae,Ae,false,())).1++[IntKind.u8.wrap (nI (ByteArray.size (v0.getD v4.toNat (Ae,Ae,false,())).2.1))]).length + ByteArray.size (v0.getD v4.toNat (Ae,Ae,false,())).2.1≤140737488355328) then NX (v0,IntKind.i64.wrap (v4 + 1),r0++[0,IntKind.u8.wrap (nI (ByteArray.size (v0.getD v4.toNat (Ae,Ae,false,())).1))]++Ad (v0.getD v4.toNat (Ae,Ae,false,())).1++[IntKind.u8.wrap (nI (ByteArray.size (v0.getD v4.toNat (Ae,Ae,false,())).2.1))]++Ad (v0.getD v4.toNat (Ae,Ae,false,())).2.1,()) else none else none else none else none else none else none else none else none else none else none else none else none else none else none else X2 (r0,())
def Cb:Nat→(List Bp)→(Int)→(List Int) →  Option ((List Int)×Unit)
 | 0,_,_,_=>none
 | m + 1,v0,v4,r0=>G1  (fun d=>Cb m d.1 d.2.1 d.2.2.1) (fun d=>some (d)) v0 v4 r0
def Acf (d:(List Bp)×(Int)×(List Int)×Unit):Option ((List Int)×Unit):=(Ac (Ac (Ac Ah))) (Cb ((Ac (Ac (Ac Ah))) G0 d)) d
def O2 (a0:List Bp):Option ((((Ab)×Unit)×(Unit))):=
 bif !Gk a0 then some ((Ae,()),()) else ((fun d=>Cb (G0 d.1 d.2.1 d.2.2.1) d.1 d.2.1 d.2.2.1) (a0,0,[],())).bind fun val=>some ((strOfNums val.1,()),())
theorem Aha (a0:List Bp):O2 a0=some ((C1 a0,()),(())):=by
 unfold O2 C1 Fi
 show (bif !Bf a0 then _ else _)=_
 cases hv:Bf a0 with
 | false=>rfl
 | true=>
  obtain ⟨hlen,hok⟩:=W4 hv
  have hL:=Am9 a0.length A0o (fun i r=>r++Zt (a0.getD i zC)) (g:=fun m i r=>Cb m a0 i r) (ok:=fun r=>(r,())) (fun m i r hi hr=>by
   show Cb (m + 1) a0 i r=_
   simp only [Cb,G1]
   have hc:=hok i hi
   obtain ⟨k1,k2,k3⟩:=Aja hc
   rw [cLt hi,Mv,wI (show i < 4611686018427387904 by omega),Jh]
   have hr1:=hr.1
   have eC:List.getD a0 i (Ae,Ae,false,())=a0.getD i zC:=rfl
   rw [eC]
   generalize a0.getD i zC=c at *
   rw [A7m _ (show c.1.size < 256 by omega),A7m _ (show c.2.1.size < 256 by omega)]
   simp only [Fg,List.length_cons,List.length_nil,Cy]
   rw [Ag (show (r.length + (0 + 1 + 1)) * 1≤140737488355328 by omega),Ag (show r.length + (0 + 1 + 1) + c.1.size≤140737488355328 by omega),Ag (show (r.length + (0 + 1 + 1) + c.1.size + (0 + 1)) * 1≤140737488355328 by omega),Ag (show r.length + (0 + 1 + 1) + c.1.size + (0 + 1) + c.2.1.size≤140737488355328 by omega)]
   unfold Zt
   simp only [cond_true]
   cases c.2.2.1<;>simp only [cond_true,cond_false,List.append_assoc]) (fun m r _=>by
   show Cb (m + 1) a0 (a0.length:Int) r=_
   simp only [Cb,G1]
   rw [W3]
   rfl) (fun i r hi hr=>hr.step (hok i hi)) a0.length (G0 a0 0 []) 0 [] (by omega) (by simp [G0,nI]) ⟨by simp,rfl⟩
  rw [Aw0 Zt zC a0 a0.length 0 [] (by omega),List.nil_append,List.drop_zero] at hL
  refine bi_ hL ?_
  rfl
def R3 {R:Type} (k:Kt R):=(Mh (Gl 6) (.exit 0) 2 k)
def Yg {R:Type}:Lt R Gl:=(Gc (pat:=Gl) 6 (fun d k=>(Acf d).bind (R3 k)) Ky)
theorem V5:A1 Try.prog V4:=Bc ⟨Nv,trivial⟩
theorem Acg {R:Type}:A7 Try.prog R 70 0 Gl Yg R2:=
 Cu (cfg:=⟨V4,0,70,Gl⟩) 6 [] (fun NX X d=>(Ac (Ac (Ac Ah))) (G1  NX X) d) (fun m d=>(Ac (Ac (Ac Ah))) (Cb m) d) (fun d=>(Ac (Ac (Ac Ah))) G0 d) R3 V5 trivial (fun f NX d=>by simp only [u4,Ac,Ah]; unfold G1; simp only [nb])
theorem Lg:Cp Try.prog 112 I2:=
 Bd (pat:=Gl) [R2] Yg V5 ⟨Acg,trivial⟩ Try.func112 (de:=fun x=>O2 x.1) (fun x r h=>(Aha x.1).trans h) fun _=>by kernel_rfl
def Apx:Ji:=⟨[.rd tI],[none],[.rd tI],[none]⟩
def Aag (a0:Int):Option ((((Int)×Unit)×(Unit))):=
 some ((IntKind.i64.wrap (IntKind.i64.wrap (64 - a0) - 8),()),())
def O3:SD:=⟨Apx,fun x=>Aag x.1⟩
theorem T5:Cp Try.prog 92 O3:=
 Bd (pat:=Ge) [] Ky (Bc (l:=[]) trivial) trivial Try.func92 (de:=fun x=>Aag x.1) (fun x r h=>h) fun _=>by kernel_rfl
def Hq (s:Ab) (w:Int):Option (List Ab):=if s.size≤1099511627776∧1≤w∧w≤8 then some (A8 s w) else none
def I3 (v0:Ab) (v6:Int) (r0:List Ab):Nat:=v0.size + 1
def Alv:Ji:=⟨[.rd .str,.rd tI],[none,none],[.own 9 .str],[none]⟩
def Rj:SD:=⟨Alv,fun x=>(Hq x.1 x.2.1).bind fun r=>some ((r,()),(()))⟩
def d6:Tb:=tb [(92,O3)]
def Ir:Nat→Du×(Nat→Du):=Ix [(4,⟨[.row 5 0 9 .str],[(0,.lf (.d .str)),(5,.lf (.row 0)),(6,.lf (.d tI))],[.row 9 .str]⟩,[(2,⟨[.row 5 0 9 .str],[(0,.lf (.d .str)),(5,.lf (.row 0))],[.row 9 .str]⟩)])]
def V6:Code:=(Av (Bl Try.f124)).getD 0 .skip
def Gm {R:Type}  (NX:((Ab)×(Int)×(List Ab)×Unit)→Option R) (X2:((Ab)×(List Ab)×Unit)→Option R) (v0:Ab) (v6:Int) (r0:List Ab):Option R:=
 bif decide (nI v0.size > v6) then bif decide (0≤v6) then bif decide (v6≤nI v0.size) then bif decide ((r0.length + [Af v0 0 v6].length) * 16≤140737488355328) then bif decide (0≤v6) then bif decide (v6≤nI v0.size) then NX (Af v0 v6 (nI v0.size),v6,r0++[Af v0 0 v6],()) else none else none else none else none else none else X2 (v0,r0,())
def D2:Nat→(Ab)→(Int)→(List Ab) →  Option ((Ab)×(List Ab)×Unit)
 | 0,_,_,_=>none
 | m + 1,v0,v6,r0=>Gm  (fun d=>D2 m d.1 d.2.1 d.2.2.1) (fun d=>some (d)) v0 v6 r0
def Ahb (d:(Ab)×(Int)×(List Ab)×Unit):Option ((Ab)×(List Ab)×Unit):=(Ac (Ac (Ac Ah))) (D2 ((Ac (Ac (Ac Ah))) I3 d)) d
def Rk (a0:Ab) (a1:Int):Option ((((List Ab)×Unit)×(Unit))):=
 ((fun d=>D2 (I3 d.1 d.2.1 d.2.2.1) d.1 d.2.1 d.2.2.1) (a0,IntKind.i64.wrap (IntKind.i64.wrap (64 - a1) - 8),[],())).bind fun val=>bif decide ((val.2.1.length + [val.1].length) * 16≤140737488355328) then some ((val.2.1++[val.1],()),()) else none
theorem Apy (n:Nat) (hn:1≤n) (hn2:n≤64):∀ (k m:Nat) (s:Ab) (r:List Ab),s.size≤k→k < m→r.length + s.size≤1099511627777→
  ∃ q t,D2 m s n r=some (t,q,())∧q++[t]=r++If n k s∧q.length + 1≤1099511627778
 | 0,m + 1,s,r,hs,hm,hr=>by
  refine ⟨r,s,?_,rfl,by omega⟩
  simp only [D2,Gm]
  rw [Bh (show ¬ (nI s.size > (n:Int)) by simp only [nI]; omega)]
  rfl
 | k + 1,m + 1,s,r,hs,hm,hr=>by
  by_cases q:s.size > n
  ·have hc:(Af s n (nI s.size)).size=s.size - n:=by rw [C9 (by omega) (by simp only [nI]; omega) (by simp [nI])]; simp only [nI]; omega
   obtain ⟨q',t',e1,e2,e3⟩:=Apy n hn hn2 k m (Af s n (nI s.size)) (r++[Af s 0 n]) (by omega) (by omega) (by rw [Fg,D9]; omega)
   refine ⟨q',t',?_,?_,e3⟩
   ·simp only [D2,Gm]
    rw [Ag (show nI s.size > (n:Int) by simp only [nI]; omega),Mv,Ag (show (n:Int)≤nI s.size by simp only [nI]; omega),Ag (show (r.length + [Af s 0 n].length) * 16≤140737488355328 by rw [D9]; omega)]
    exact e1
   ·rw [e2,List.append_assoc]
    simp only [If,if_pos q]
    rfl
  ·refine ⟨r,s,?_,by simp only [If,if_neg q],by omega⟩
   simp only [D2,Gm]
   rw [Bh (show ¬ (nI s.size > (n:Int)) by simp only [nI]; omega)]
   rfl
theorem Alw (a0:Ab) (a1:Int) r (h:Hq a0 a1=some r):Rk a0 a1=some ((r,()),(())):=by
 unfold Hq at h
 split at h
 ·rename_i hc
  cases h
  obtain ⟨h0,h1,h2⟩:=hc
  obtain ⟨n,hn⟩:∃ n:Nat,56 - a1=(n:Int):=⟨(56 - a1).toNat,by omega⟩
  unfold Rk A8
  rw [Al (n:=64 - a1) (by omega) (by omega),Al (n:=64 - a1 - 8) (by omega) (by omega),show 64 - a1 - 8=56 - a1 by omega,hn,Jh]
  obtain ⟨q,t,e1,e2,e3⟩:=Apy n (by omega) (by omega) a0.size (I3 a0 n []) a0 [] (by omega) (by simp only [I3]; omega) (by rw [List.length_nil]; omega)
  rw [List.nil_append] at e2
  refine bi_ e1 ?_
  show (bif decide ((q.length + [t].length) * 16≤140737488355328) then some ((q++[t],()),()) else none)=_
  rw [Ag (by rw [D9]; omega),e2]
  rfl
 ·cases h
def V7 {R:Type} (k:Kt R):=(Mh (Ir 4) (.exit 0) 2 k)
def Aah {R:Type}:Lt R Ir:=(Gc (pat:=Ir) 4 (fun d k=>(Ahb d).bind (V7 k)) Ky)
theorem d7:A1 Try.prog d6:=Bc ⟨T5,trivial⟩
theorem Ahc {R:Type}:A7 Try.prog R 27 0 Ir Aah V6:=
 Cu (cfg:=⟨d6,0,27,Ir⟩) 4 [] (fun NX X d=>(Ac (Ac (Ac Ah))) (Gm  NX X) d) (fun m d=>(Ac (Ac (Ac Ah))) (D2 m) d) (fun d=>(Ac (Ac (Ac Ah))) I3 d) V7 d7 trivial (fun f NX d=>by simp only [u4,Ac,Ah]; unfold Gm; simp only [nb])
theorem d8:Cp Try.prog 124 Rj:=
 Bd (pat:=Ir) [V6] Aah d7 ⟨Ahc,trivial⟩ Try.func124 (de:=fun x=>Rk x.1 x.2.1) (fun x r h=>Ie (Alw x.1 x.2.1) h) fun _=>by kernel_rfl
def O4 (s:Ab) (w:Int):Option Int:=if s.size≤1099511627776 then some (bif Di w 1 8 then ((A8 s w).length:Int) else 0) else none
def Arl:Ji:=⟨[.rd .str,.rd tI],[none,none],[.rd tI],[none]⟩
def Ac9:SD:=⟨Arl,fun x=>(O4 x.1 x.2.1).bind fun r=>some ((r,()),(()))⟩
def W5 (a0:Ab) (a1:Int):Option ((((Int)×Unit)×(Unit))):=
 (Bz a1).bind fun val=>bif !val.1.1 then some ((0,()),()) else ((Hq a0 a1).bind fun val=>some ((val,()),())).bind fun val=>some ((nI (List.length val.1.1),()),())
theorem Arm (a0:Ab) (a1:Int) r (h:O4 a0 a1=some r):W5 a0 a1=some ((r,()),(())):=by
 unfold O4 at h
 split at h
 ·rename_i hc
  cases h
  unfold W5
  refine bi_ (wid a1) ?_
  show (bif !Di a1 1 8 then _ else _)=_
  cases hw:Di a1 1 8 with
  | false=>rfl
  | true=>
   have n1:Hq a0 a1=some (A8 a0 a1):=if_pos ⟨hc,Ec hw⟩
   simp only [n1,Option.bind_some,Bool.not_true,cond_false,cond_true]
   try rfl
 ·cases h
theorem Arn:Cp Try.prog 123 Ac9:=
 Bd (pat:=Ge) [] Ky (Bc (l:=[(62,Cx),(124,Rj)]) ⟨Dj,d8,trivial⟩) trivial Try.func123 (de:=fun x=>W5 x.1 x.2.1) (fun x r h=>Ie (Arm x.1 x.2.1) h) fun _=>by kernel_rfl
def Kk (s:Ki) (w:Int):Int:=Lv s w
def Au6:Ji:=⟨[.rd Ln,.rd tI],[some 1,none],[.rd tI],[none]⟩
def Sv:SD:=⟨Au6,fun x=>some (((Kk x.1 x.2.1),()),(()))⟩
def Ahd:Tb:=tb [(7,Qb),(112,I2),(123,Ac9)]
def Mn:Nat→Du×(Nat→Du):=Ix [(5,⟨[.sl 6 0 (.sl Gu)],[(1,.lf (.d tI)),(5,.lf (.d tI)),(6,.lf (.d (.sl (.sl Gu)))),(7,.lf (.d tI))],[]⟩,[(2,⟨[],[(5,.lf (.d tI))],[]⟩)])]
def Aai:Code:=(Av (Bl Try.f110)).getD 0 .skip
def Hr (v1 v5:Int) (v6:List (List Bp)) (v7:Int):Nat:=((v6.length:Int) - v7).toNat + 1
def L1 {R:Type}  (NX:((Int)×(Int)×(List (List Bp))×(Int)×Unit)→Option R) (X2:((Int)×Unit)→Option R) (v1:Int) (v5:Int) (v6:List (List Bp)) (v7:Int):Option R:=
 bif decide (v7 < nI v6.length) then bif decide (0≤v7) then bif decide (v7 < nI v6.length) then ((O4 (C1 (v6.getD v7.toNat [])) v1).bind fun val=>some ((val,()),())).bind fun val=>NX (v1,IntKind.i64.wrap (v5 + val.1.1),v6,IntKind.i64.wrap (v7 + 1),()) else none else none else X2 (v5,())
def Df:Nat→(Int)→(Int)→(List (List Bp))→(Int) →  Option ((Int)×Unit)
 | 0,_,_,_,_=>none
 | m + 1,v1,v5,v6,v7=>L1  (fun d=>Df m d.1 d.2.1 d.2.2.1 d.2.2.2.1) (fun d=>some (d)) v1 v5 v6 v7
def Apz (d:(Int)×(Int)×(List (List Bp))×(Int)×Unit):Option ((Int)×Unit):=(u4 Ah) (Df ((u4 Ah) Hr d)) d
def Zz (a0:Ki) (a1:Int):Option ((((Int)×Unit)×(Unit))):=
 ((fun d=>Df (Hr d.1 d.2.1 d.2.2.1 d.2.2.2.1) d.1 d.2.1 d.2.2.1 d.2.2.2.1) (a1,0,Ip a0,0,())).bind fun val=>some (val,())
theorem Au7 (a0:Ki) (a1:Int):Zz a0 a1=some (((Kk a0 a1),()),(())):=by
 unfold Zz Kk
 have hl:=Ab0 a0
 have hL:=Jl (xs:=K0 a0) [] A4u (fun _ b a=>a + Jx (Fi b).size a1) (g:=fun m i a=>Df m a1 a (K0 a0) i) (ok:=fun a=>(a,())) (fun m i a hi hI=>by
  show Df (m + 1) a1 a (K0 a0) i=_
  simp only [Df,L1]
  rw [cLt hi,Mv,wI (show i < 4611686018427387904 by omega),Jh]
  have e1:O4 (C1 (List.getD (K0 a0) i [])) a1=some (Jx (Fi (List.getD (K0 a0) i [])).size a1):=by
    rw [← Agv]
    exact if_pos (Nat.le_trans (Np _) (by decide))
  rw [e1]
  simp only [cond_true,Option.bind_some]
  rw [Ay4 hI]) (fun i a hi hI=>hI.step (by omega) _ _) (fun m a hI=>by
  show Df (m + 1) a1 a (K0 a0) ((K0 a0).length:Int)=_
  simp only [Df,L1]
  rw [W3]
  rfl) (Hr a1 0 (K0 a0) 0) 0 0 (by omega) (by simp [Hr,nI]) ⟨by omega,by omega,by omega⟩
 have hL':Df (Hr a1 0 (K0 a0) 0) a1 0 (K0 a0) 0=_:=hL
 show (Df (Hr a1 0 (K0 a0) 0) a1 0 (K0 a0) 0).bind _=_
 rw [hL',Atg,List.drop_zero,A4t,Int.zero_add]
 rfl
def Aaj {R:Type} (k:Kt R):=(Mh (Mn 5) (.exit 0) 2 k)
def Ak7 {R:Type}:Lt R Mn:=(Gc (pat:=Mn) 5 (fun d k=>(Apz d).bind (Aaj k)) Ky)
theorem Ahe:A1 Try.prog Ahd:=Bc ⟨Yf,Lg,Arn,trivial⟩
theorem Ap0 {R:Type}:A7 Try.prog R 26 0 Mn Ak7 Aai:=
 Cu (cfg:=⟨Ahd,0,26,Mn⟩) 5 [] (fun NX X d=>(u4 Ah) (L1  NX X) d) (fun m d=>(u4 Ah) (Df m) d) (fun d=>(u4 Ah) Hr d) Aaj Ahe trivial (fun f NX d=>by simp only [u4,Ac,Ah]; unfold L1; simp only [nb])
theorem Z0:Cp Try.prog 110 Sv:=
 Bd (pat:=Mn) [Aai] Ak7 Ahe ⟨Ap0,trivial⟩ Try.func110 (de:=fun x=>Zz x.1 x.2.1) (fun x r h=>(Au7 x.1 x.2.1).trans h) fun _=>by kernel_rfl
def Ga (v lo hi:Int):Bool:=Di v lo hi
def Au8:Ji:=⟨[.rd tI,.rd tI,.rd tI],[none,none,none],[.rd .bool],[none]⟩
def Ahf:SD:=⟨Au8,fun x=>some (((Ga x.1 x.2.1 x.2.2.1),()),(()))⟩
def Z1 (a0 a1 a2:Int):Option ((((Bool)×Unit)×(Unit))):=
 bif decide (a0≥a1) then some ((decide (a0≤a2),()),()) else some ((false,()),())
theorem Au9 (a0 a1 a2:Int):Z1 a0 a1 a2=some ((Ga a0 a1 a2,()),()):=by
 unfold Z1 Ga Di
 by_cases h:a0≥a1
 ·have:decide (a1≤a0)=true:=by simpa using h
  simp [h,this]
 ·have:decide (a1≤a0)=false:=by simpa using h
  simp [h,this]
theorem Ava:Cp Try.prog 121 Ahf:=
 Bd (pat:=Ge) [] Ky (Bc (l:=[]) trivial) trivial Try.func121 (de:=fun x=>Z1 x.1 x.2.1 x.2.2.1) (fun x r h=>(Au9 x.1 x.2.1 x.2.2.1).trans h) fun _=>by kernel_rfl
def Gn (s:Lp):Bool:=A4 s
def Ae7:Ji:=⟨[.rd Aos],[some 10],[.rd .bool],[none]⟩
def Kr:SD:=⟨Ae7,fun x=>some (((Gn x.1),()),(()))⟩
def Nw (a0:Lp):Option ((((Bool)×Unit)×(Unit))):=
 (Bz a0.1).bind fun val=>bif !val.1.1 then some ((false,()),()) else bif Au a0.2.1==0 then some ((false,()),()) else bif !Ga a0.2.2.1 1 60000 then some ((false,()),()) else bif !Ga a0.2.2.2.1.1 0 1000000000 then some ((false,()),()) else bif !Ga a0.2.2.2.1.2.1 0 1 then some ((false,()),()) else bif !Ga a0.2.2.2.1.2.2.1 1 999999000 then some ((false,()),()) else bif !Ga a0.2.2.2.1.2.2.2.1 0 60000 then some ((false,()),()) else bif Ga a0.2.2.2.2.1 0 (Au a0.2.1) then bif Ga a0.2.2.2.2.2.1 0 a0.2.2.2.2.1 then bif E1 a0.2.2.2.2.2.2.1 then some ((decide (Kk a0.2.2.2.2.2.2.1 a0.1≤IntKind.i64.wrap (Au a0.2.1 - 1)),()),()) else some ((false,()),()) else some ((false,()),()) else some ((false,()),())
theorem Ae8 (a0:Lp):Nw a0=some (((Gn a0),()),(())):=by
 unfold Nw Gn A4
 refine bi_ (wid a0.1) ?_
 simp only [Au,Ga,E1,Kk,w5,A9v,A9w,Aw9]
 simp only [Tg,Bool.and_assoc]
 rw [Bool.and_left_comm]
theorem Nx:Cp Try.prog 106 Kr:=
 Bd (pat:=Ge) [] Ky (Bc (l:=[(31,Ko),(62,Cx),(109,J5),(110,Sv),(121,Ahf)]) ⟨Nt,Dj,Lz,Z0,Ava,trivial⟩) trivial Try.func106 (de:=fun x=>Nw x.1) (fun x r h=>(Ae8 x.1).trans h) fun _=>by kernel_rfl
def K1 (s:Ki) (c:Bp):Option Ki:=if s.1.length≤1000000 then some (Arj c s.1,()) else none
def Ajt:Ji:=⟨[.rd Ln,.rd Gu],[some 1,some 3],[.own 67 B2],[some 1]⟩
def Yh:SD:=⟨Ajt,fun x=>(K1 x.1 x.2.1).bind fun r=>some ((r.1,()),(()))⟩
def Yi:Tb:=tb []
def Hg:Nat→Du×(Nat→Du):=Ix [(5,⟨[.boxSl 2 0 B2,.boxRow 4 0 67 B2,.boxRow 5 0 67 B2],[(2,.lf (.ptr 0 0)),(3,.lf (.ptr 1 0)),(4,.lf (.ptr 2 0)),(5,.lf (.ptr 3 0)),(6,.lf (.d .bool)),(7,.lf (.d tI))],[.box 30 [.d (.sl B2)],.box 69 [.d .str,.d .str,.d .bool],.box 30 [.row 4],.box 30 [.row 5],.row 67 B2,.row 67 B2]⟩,[(2,⟨[.boxRow 4 0 67 B2,.boxRow 5 0 67 B2],[(3,.lf (.ptr 0 0)),(4,.lf (.ptr 1 0)),(5,.lf (.ptr 2 0)),(6,.lf (.d .bool))],[.box 69 [.d .str,.d .str,.d .bool],.box 30 [.row 3],.box 30 [.row 4],.row 67 B2,.row 67 B2]⟩)])]
def T6:Code:=(Av (Bl Try.f122)).getD 0 .skip
def Hs (v6:Bool) (v7:Int) (b0_0:List Bw) (b1_0 b1_1:Ab) (b1_2:Bool) (r4 r5:List Bw):Nat:=((b0_0.length:Int) - v7).toNat + 1
def Ht {R:Type}  (NX:((Bool)×(Int)×(List Bw)×(Ab)×(Ab)×(Bool)×(List Bw)×(List Bw)×Unit)→Option R) (X2:((Bool)×(Ab)×(Ab)×(Bool)×(List Bw)×(List Bw)×Unit)→Option R) (v6:Bool) (v7:Int) (b0_0:List Bw) (b1_0:Ab) (b1_1:Ab) (b1_2:Bool) (r4:List Bw) (r5:List Bw):Option R:=
 bif decide (v7 < nI b0_0.length) then bif !v6 then bif decide (0≤v7) then bif decide (v7 < nI b0_0.length) then bif !(Op.bytesLess (ByteArray.toList (b0_0.getD v7.toNat (Ae,Ae,())).1) b1_0.toList || ByteArray.toList (b0_0.getD v7.toNat (Ae,Ae,())).1==b1_0.toList) then bif decide ((r5.length + [(b1_0,b1_1,())].length) * 32≤140737488355328) then bif decide (0≤v7) then bif decide (v7 < nI b0_0.length) then bif !ByteArray.toList (b0_0.getD v7.toNat (Ae,Ae,())).1==b1_0.toList then bif decide (0≤v7) then bif decide (v7 < nI b0_0.length) then bif decide (((r5++[(b1_0,b1_1,())]).length + [b0_0.getD v7.toNat (Ae,Ae,())].length) * 32≤140737488355328) then NX (true,IntKind.i64.wrap (v7 + 1),b0_0,b1_0,b1_1,b1_2,r4,r5++[(b1_0,b1_1,())]++[b0_0.getD v7.toNat (Ae,Ae,())],()) else none else none else none else NX (true,IntKind.i64.wrap (v7 + 1),b0_0,b1_0,b1_1,b1_2,r4,r5++[(b1_0,b1_1,())],()) else none else none else none else bif decide (0≤v7) then bif decide (v7 < nI b0_0.length) then bif !ByteArray.toList (b0_0.getD v7.toNat (Ae,Ae,())).1==b1_0.toList then bif decide (0≤v7) then bif decide (v7 < nI b0_0.length) then bif decide ((r5.length + [b0_0.getD v7.toNat (Ae,Ae,())].length) * 32≤140737488355328) then NX (v6,IntKind.i64.wrap (v7 + 1),b0_0,b1_0,b1_1,b1_2,r4,r5++[b0_0.getD v7.toNat (Ae,Ae,())],()) else none else none else none else NX (v6,IntKind.i64.wrap (v7 + 1),b0_0,b1_0,b1_1,b1_2,r4,r5,()) else none else none else none else none else bif decide (0≤v7) then bif decide (v7 < nI b0_0.length) then bif !ByteArray.toList (b0_0.getD v7.toNat (Ae,Ae,())).1==b1_0.toList then bif decide (0≤v7) then bif decide (v7 < nI b0_0.length) then bif decide ((r5.length + [b0_0.getD v7.toNat (Ae,Ae,())].length) * 32≤140737488355328) then NX (v6,IntKind.i64.wrap (v7 + 1),b0_0,b1_0,b1_1,b1_2,r4,r5++[b0_0.getD v7.toNat (Ae,Ae,())],()) else none else none else none else NX (v6,IntKind.i64.wrap (v7 + 1),b0_0,b1_0,b1_1,b1_2,r4,r5,()) else none else none else X2 (v6,b1_0,b1_1,b1_2,r4,r5,())
def Cr:Nat→(Bool)→(Int)→(List Bw)→(Ab)→(Ab)→(Bool)→(List Bw)→(List Bw) →  Option ((Bool)×(Ab)×(Ab)×(Bool)×(List Bw)×(List Bw)×Unit)
 | 0,_,_,_,_,_,_,_,_=>none
 | m + 1,v6,v7,b0_0,b1_0,b1_1,b1_2,r4,r5=>Ht  (fun d=>Cr m d.1 d.2.1 d.2.2.1 d.2.2.2.1 d.2.2.2.2.1 d.2.2.2.2.2.1 d.2.2.2.2.2.2.1 d.2.2.2.2.2.2.2.1) (fun d=>some (d)) v6 v7 b0_0 b1_0 b1_1 b1_2 r4 r5
def Ae9 (d:(Bool)×(Int)×(List Bw)×(Ab)×(Ab)×(Bool)×(List Bw)×(List Bw)×Unit):Option ((Bool)×(Ab)×(Ab)×(Bool)×(List Bw)×(List Bw)×Unit):=(u4 (u4 Ah)) (Cr ((u4 (u4 Ah)) Hs d)) d
def Qd (a0:Ki) (a1:Bp):Option ((Ki×(Unit))):=
 ((fun d=>Cr (Hs d.1 d.2.1 d.2.2.1 d.2.2.2.1 d.2.2.2.2.1 d.2.2.2.2.2.1 d.2.2.2.2.2.2.1 d.2.2.2.2.2.2.2.1) d.1 d.2.1 d.2.2.1 d.2.2.2.1 d.2.2.2.2.1 d.2.2.2.2.2.1 d.2.2.2.2.2.2.1 d.2.2.2.2.2.2.2.1) (a1.2.2.1,0,a0.1,a1.1,a1.2.1,a1.2.2.1,[],[],())).bind fun val=>bif !val.1 then bif decide ((val.2.2.2.2.2.1.length + [(val.2.1,val.2.2.1,())].length) * 32≤140737488355328) then some ((val.2.2.2.2.2.1++[(val.2.1,val.2.2.1,())],()),()) else none else some (val.2.2.2.2.2,())
theorem Aju (a0:Ki) (a1:Bp) r (h:K1 a0 a1=some r):Qd a0 a1=some ((r.1,()),(())):=by
 unfold K1 at h
 split at h
 rotate_left
 ·cases h
 rename_i hlen
 cases h
 unfold Qd
 have hL:=Jl (xs:=a0.1) zP (fun i (s:Bool×List Bw)=>i≤1000000∧s.2.length≤2 * i) (fun _ p s=>To a1.1 a1.2.1 p s) (g:=fun m i s=>Cr m s.1 i a0.1 a1.1 a1.2.1 a1.2.2.1 [] s.2) (ok:=fun s=>(s.1,a1.1,a1.2.1,a1.2.2.1,[],s.2,())) (fun m i s hi hI=>by
   show Cr (m + 1) s.1 i a0.1 a1.1 a1.2.1 a1.2.2.1 [] s.2=_
   obtain ⟨d,out⟩:=s
   obtain ⟨h1,h2⟩:=hI
   simp only at h2 ⊢
   simp only [Cr,Ht]
   have e1:decide ((out.length + 1) * 32≤140737488355328)=true:=Ag (by omega)
   have e2:decide ((out.length + 1 + 1) * 32≤140737488355328)=true:=Ag (by omega)
   rw [cLt hi,Mv,wI (show i < 4611686018427387904 by omega),Jh]
   simp only [cond_true,D9,Fg,e1,e2]
   unfold To gtS bl
   show (bif !d then (bif !(Op.bytesLess (List.getD a0.1 i zP).1.toList a1.1.toList || (List.getD a0.1 i zP).1.toList==a1.1.toList) then _ else _) else _)=_
   cases d with
   | true=>
    simp only [Bool.not_true,Bool.false_and,cond_false]
    show (bif !((List.getD a0.1 i zP).1.toList==a1.1.toList) then _ else _)=_
    cases ((List.getD a0.1 i zP).1.toList==a1.1.toList)<;>rfl
   | false=>
    simp only [Bool.not_false,Bool.true_and,cond_true]
    cases hq:!(Op.bytesLess (List.getD a0.1 i zP).1.toList a1.1.toList || (List.getD a0.1 i zP).1.toList==a1.1.toList) with
    | true=>
     simp only [cond_true]
     show (bif !((List.getD a0.1 i zP).1.toList==a1.1.toList) then _ else _)=_
     cases ((List.getD a0.1 i zP).1.toList==a1.1.toList)<;>rfl
    | false=>
     simp only [cond_false]
     show (bif !((List.getD a0.1 i zP).1.toList==a1.1.toList) then _ else _)=_
     cases ((List.getD a0.1 i zP).1.toList==a1.1.toList)<;>rfl) (fun i s hi hI=>⟨by omega,by have:=Ape a1.1 a1.2.1 (a0.1.getD i zP) s; omega⟩) (fun m s hI=>by
   show Cr (m + 1) s.1 (a0.1.length:Int) a0.1 a1.1 a1.2.1 a1.2.2.1 [] s.2=_
   simp only [Cr,Ht]
   rw [W3]
   rfl) (Hs a1.2.2.1 0 a0.1 a1.1 a1.2.1 a1.2.2.1 [] []) 0 (a1.2.2.1,[]) (by omega) (by simp [Hs,nI]) ⟨by omega,Nat.le_refl _⟩
 have hE:=A0w a1.1 a1.2.1 a0.1 0 (a1.2.2.1,[])
 have hB:(F5 (fun _ p s=>To a1.1 a1.2.1 p s) 0 a0.1 (a1.2.2.1,[])).2.length≤2 * a0.1.length:=by
  have:=Xv zP (fun i (s:Bool×List Bw)=>s.2.length≤2 * i) (fun _ p s=>To a1.1 a1.2.1 p s) (xs:=a0.1) (fun i s hi hI=>by have:=Ape a1.1 a1.2.1 (a0.1.getD i zP) s; omega) a0.1.length 0 (a1.2.2.1,[]) (by omega) (Nat.le_refl _)
  exact this
 rw [List.drop_zero] at hL
 refine Aev hL ?_
 dsimp only
 generalize F5 (fun _ p s=>To a1.1 a1.2.1 p s) 0 a0.1 (a1.2.2.1,[])=q at hE hB
 obtain ⟨d,out⟩:=q
 simp only at hB
 simp only [List.nil_append] at hE
 show _=some ((N6 a1.1 a1.2.1 a1.2.2.1 a0.1,()),())
 rw [← hE]
 unfold Axf
 have e1:decide ((out.length + 1) * 32≤140737488355328)=true:=Ag (by omega)
 cases d with
 | true=>rfl
 | false=>
  simp only [Bool.not_false,cond_true,cond_false,D9,e1]
def T7 {R:Type} (k:Kt R):=(Mh (Hg 5) (.exit 0) 2 k)
def d9 {R:Type}:Lt R Hg:=(Gc (pat:=Hg) 5 (fun d k=>(Ae9 d).bind (T7 k)) Ky)
theorem Yj:A1 Try.prog Yi:=Bc trivial
theorem Afa {R:Type}:A7 Try.prog R 73 0 Hg d9 T6:=
 Cu (cfg:=⟨Yi,0,73,Hg⟩) 5 [] (fun NX X (d:(Bool)×(Int)×(List Bw)×(Ab)×(Ab)×(Bool)×(List Bw)×(List Bw)×Unit)=>(u4 (u4 Ah)) (Ht  NX X) d) (fun m d=>(u4 (u4 Ah)) (Cr m) d) (fun d=>(u4 (u4 Ah)) Hs d) T7 Yj trivial (fun f NX (d:(Bool)×(Int)×(List Bw)×(Ab)×(Ab)×(Bool)×(List Bw)×(List Bw)×Unit)=>by simp only [u4,Ac,Ah]; unfold Ht; simp only [nb])
theorem Ajv:Cp Try.prog 122 Yh:=
 Bd (pat:=Hg) [T6] d9 Yj ⟨Afa,trivial⟩ Try.func122 (de:=fun x=>Qd x.1 x.2.1) (fun x r h=>Ie (Aju x.1 x.2.1) h) fun _=>by kernel_rfl
def Eg (s:Ki) (b:List Bp):Ki×Int:=Ed s b
def Aro:Ji:=⟨[.rd Ln,.rd (.sl Gu)],[some 1,none],[.own 67 B2,.rd tI],[some 1,none]⟩
def W6:SD:=⟨Aro,fun x=>some (((Eg x.1 x.2.1).1.1,(Eg x.1 x.2.1).2,()),(()))⟩
def Ada:Tb:=tb [(31,Ko),(93,Lx),(107,Kq),(122,Yh)]
def K7:Nat→Du×(Nat→Du):=Ix [(6,⟨[.sl 1 0 Gu,.boxRow 4 0 67 B2,.boxRow 6 0 67 B2],[(1,.lf (.d (.sl Gu))),(4,.lf (.ptr 0 0)),(6,.lf (.ptr 1 0)),(7,.lf (.d tI))],[.box 30 [.row 2],.box 30 [.row 3],.row 67 B2,.row 67 B2]⟩,[(2,⟨[.boxRow 4 0 67 B2,.boxRow 6 0 67 B2],[(4,.lf (.ptr 0 0)),(6,.lf (.ptr 1 0))],[.box 30 [.row 2],.box 30 [.row 3],.row 67 B2,.row 67 B2]⟩)])]
def e8:Code:=(Av (Bl Try.f108)).getD 0 .skip
def Is (v1:List Bp) (v7:Int) (r2 r3:List Bw):Nat:=((v1.length:Int) - v7).toNat + 1
def K2 {R:Type}  (NX:((List Bp)×(Int)×(List Bw)×(List Bw)×Unit)→Option R) (X2:((List Bw)×(List Bw)×Unit)→Option R) (v1:List Bp) (v7:Int) (r2:List Bw) (r3:List Bw):Option R:=
 bif decide (v7 < nI v1.length) then bif decide (0≤v7) then bif decide (v7 < nI v1.length) then ((K1 (r3,()) (v1.getD v7.toNat (Ae,Ae,false,()))).bind fun val=>some (val,())).bind fun val=>NX (v1,IntKind.i64.wrap (v7 + 1),r2,val.1) else none else none else X2 (r2,r3,())
def Dl:Nat→(List Bp)→(Int)→(List Bw)→(List Bw) →  Option ((List Bw)×(List Bw)×Unit)
 | 0,_,_,_,_=>none
 | m + 1,v1,v7,r2,r3=>K2  (fun d=>Dl m d.1 d.2.1 d.2.2.1 d.2.2.2.1) (fun d=>some (d)) v1 v7 r2 r3
def Alx (d:(List Bp)×(Int)×(List Bw)×(List Bw)×Unit):Option ((List Bw)×(List Bw)×Unit):=(u4 Ah) (Dl ((u4 Ah) Is d)) d
def W7 (a0:Ki) (a1:List Bp):Option ((((List Bw)×(Int)×Unit)×(Unit))):=
 bif !E1 a0 then some (([],1,()),()) else bif !Gk a1 then some (([],1,()),()) else ((Cz a0).bind fun val=>some (val,())).bind fun val=>((fun d=>Dl (Is d.1 d.2.1 d.2.2.1 d.2.2.2.1) d.1 d.2.1 d.2.2.1 d.2.2.2.1) (a1,0,[],val.1)).bind fun val=>bif decide (nI val.2.1.length > 100) then some (([],2,()),()) else some ((val.2.1,0,()),())
theorem Avb (b:List Bp) (xs:List Bw) (hb:b.length≤20) (hx:xs.length≤100):Dl (Is b 0 [] xs) b 0 [] xs=some ([],Vv xs b,()):=by
 have hL:=Jl (xs:=b) zC (fun i (l:List Bw)=>i≤20∧l.length≤100 + i) (fun _ c l=>Arj c l) (g:=fun m i l=>Dl m b i [] l) (ok:=fun l=>([],l,())) (fun m i l hi hI=>by
   show Dl (m + 1) b i [] l=_
   simp only [Dl,K2]
   rw [cLt hi,Mv,wI (show i < 4611686018427387904 by omega),Jh]
   simp only [cond_true]
   have e1:K1 (l,()) ((List.getD b i zC).1,(List.getD b i zC).2.1,(List.getD b i zC).2.2.1,())=some (Arj (List.getD b i zC) l,()):=if_pos (by show l.length≤1000000; omega)
   refine (congrArg (fun y=>Option.bind (Option.bind y _) _) e1).trans ?_
   rfl) (fun i l hi hI=>⟨by omega,by have:=A6l (b.getD i zC) l; omega⟩) (fun m l hI=>by
   show Dl (m + 1) b (b.length:Int) [] l=_
   simp only [Dl,K2]
   rw [W3]
   rfl) (Is b 0 [] xs) 0 xs (by omega) (by simp [Is,nI]) ⟨by omega,by omega⟩
 rw [List.drop_zero] at hL
 exact hL
theorem Arp (a0:Ki) (a1:List Bp):W7 a0 a1=some (((Eg a0 a1).1.1,(Eg a0 a1).2,()),(())):=by
 unfold W7 Eg Ed
 show (bif !Aq a0 then _ else bif !Bf a1 then _ else _)=_
 cases hv:Aq a0 with
 | false=>rfl
 | true=>
  cases hb:Bf a1 with
  | false=>rfl
  | true=>
   simp only [Bool.not_true,cond_false]
   have hl:=Ey hv
   have hb2:=Ec (Cq hb).1
   have e1:Cz (a0.1,())=some (a0.1,()):=if_pos (Nat.le_trans hl (by decide))
   rw [e1]
   simp only [Option.bind_some]
   refine Aev (Avb a1 a0.1 (by omega) hl) ?_
   dsimp only
   by_cases q:(Vv a0.1 a1).length > 100
   ·rw [Ag (show nI (Vv a0.1 a1).length > 100 by simp only [nI]; omega),Ag q]
    rfl
   ·rw [Bh (show ¬ nI (Vv a0.1 a1).length > 100 by simp only [nI]; omega),Bh q]
    rfl
def e9 {R:Type} (k:Kt R):=(Mh (K7 6) (.exit 0) 2 k)
def Ahg {R:Type}:Lt R K7:=(Gc (pat:=K7) 6 (fun d k=>(Alx d).bind (e9 k)) Ky)
theorem Adb:A1 Try.prog Ada:=Bc ⟨Nt,Oo,Nv,Ajv,trivial⟩
theorem Aly {R:Type}:A7 Try.prog R 37 0 K7 Ahg e8:=
 Cu (cfg:=⟨Ada,0,37,K7⟩) 6 [] (fun NX X d=>(u4 Ah) (K2  NX X) d) (fun m d=>(u4 Ah) (Dl m) d) (fun d=>(u4 Ah) Is d) e9 Adb trivial (fun f NX d=>by simp only [u4,Ac,Ah]; unfold K2; simp only [nb])
theorem Adc:Cp Try.prog 108 W6:=
 Bd (pat:=K7) [e8] Ahg Adb ⟨Aly,trivial⟩ Try.func108 (de:=fun x=>W7 x.1 x.2.1) (fun x r h=>(Arp x.1 x.2.1).trans h) fun _=>by kernel_rfl
theorem Yk:∃ f:Int→Int→Option Ab,f=fun v n=>if 0≤v∧v < 9223372036854775808∧0≤n∧n≤1000 then some (P8 v n.toNat) else none:=⟨_,rfl⟩
def Bi (v n:Int):Option Ab:=Classical.choose Yk v n
theorem Ft (v n:Int):Bi v n=if 0≤v∧v < 9223372036854775808∧0≤n∧n≤1000 then some (P8 v n.toNat) else none:=by
 unfold Bi
 rw [Classical.choose_spec Yk]
def Hu (v0 v1:Int) (v5:Ab) (v6:Int):Nat:=(v1 - v6).toNat + 1
def Ajw:Ji:=⟨[.rd tI,.rd tI],[none,none],[.rd .str],[none]⟩
def Qe:SD:=⟨Ajw,fun x=>(Bi x.1 x.2.1).bind fun r=>some ((r,()),(()))⟩
def Yl:Tb:=tb []
def Hh:Nat→Du×(Nat→Du):=Ix [(4,⟨[],[(0,.lf (.d tI)),(1,.lf (.d tI)),(5,.lf (.d .str)),(6,.lf (.d tI))],[]⟩,[(2,⟨[],[(5,.lf (.d .str))],[]⟩)])]
def T8:Code:=(Av (Bl Try.f57)).getD 0 .skip
def Hv {R:Type}  (NX:((Int)×(Int)×(Ab)×(Int)×Unit)→Option R) (X2:((Ab)×Unit)→Option R) (v0:Int) (v1:Int) (v5:Ab) (v6:Int):Option R:=
 bif decide (v6 < v1) then bif decide ((strOfNums [IntKind.u8.wrap (v0.tmod 256)]).size + v5.size≤9223372036854775807) then NX (IntKind.i64.wrap (v0.tdiv 256),v1,strOfNums [IntKind.u8.wrap (v0.tmod 256)]++v5,IntKind.i64.wrap (v6 + 1),()) else none else X2 (v5,())
def Ek:Nat→(Int)→(Int)→(Ab)→(Int) →  Option ((Ab)×Unit)
 | 0,_,_,_,_=>none
 | m + 1,v0,v1,v5,v6=>Hv  (fun d=>Ek m d.1 d.2.1 d.2.2.1 d.2.2.2.1) (fun d=>some (d)) v0 v1 v5 v6
def Afb (d:(Int)×(Int)×(Ab)×(Int)×Unit):Option ((Ab)×Unit):=(u4 Ah) (Ek ((u4 Ah) Hu d)) d
def Qf (a0 a1:Int):Option ((((Ab)×Unit)×(Unit))):=
 ((fun d=>Ek (Hu d.1 d.2.1 d.2.2.1 d.2.2.2.1) d.1 d.2.1 d.2.2.1 d.2.2.2.1) (a0,a1,Ae,0,())).bind fun val=>some (val,())
theorem Ade:∀ (k m i:Nat) (v:Int) (out:Ab),i + k≤1000→k < m→out.size=i→0≤v→v < 9223372036854775808→Ek m v ((i + k:Nat):Int) out i=some (P8 v k++out,())
 | 0,m + 1,i,v,out,hi,hm,ho,h0,h1=>by
  simp only [Ek,Hv]
  rw [Bh (by omega),Awx]
  rfl
 | k + 1,m + 1,i,v,out,hi,hm,ho,h0,h1=>by
  simp only [Ek,Hv]
  have e1:IntKind.wrap IntKind.u8 (Int.tmod v 256)=v % 256:=by
   rw [Int.tmod_eq_emod_of_nonneg h0]
   show v % 256 % 256=v % 256
   omega
  have e2:IntKind.i64.wrap (Int.tdiv v 256)=v / 256:=by
   rw [Int.tdiv_eq_ediv_of_nonneg h0]
   exact Al (by omega) (by omega)
  rw [Ag (show (i:Int) < ((i + (k + 1):Nat):Int) by omega),e1,e2,Ag (show ByteArray.size (strOfNums [v % 256]) + ByteArray.size out≤9223372036854775807 by rw [ho,Da]; simp; omega),wI (show i < 4611686018427387904 by omega)]
  have hL:=Ade k m (i + 1) (v / 256) (strOfNums [v % 256]++out) (by omega) (by omega) (by rw [ByteArray.size_append,ho,Da]; simp; omega) (by omega) (by omega)
  rw [show i + 1 + k=i + (k + 1) by omega] at hL
  refine hL.trans ?_
  rw [← ByteArray.append_assoc,← Awy]
theorem Ajx (a0 a1:Int) r (h:Bi a0 a1=some r):Qf a0 a1=some ((r,()),(())):=by
 rw [Ft] at h
 split at h
 ·rename_i hc
  cases h
  obtain ⟨n,rfl⟩:∃ n:Nat,a1=(n:Int):=⟨a1.toNat,by omega⟩
  unfold Qf
  have hL:=Ade n (Hu a0 n (Ae) 0) 0 a0 (Ae) (by omega) (by simp only [Hu]; omega) rfl hc.1 hc.2.1
  rw [Nat.zero_add] at hL
  rw [A4l] at hL
  exact bi_ hL rfl
 ·cases h
def T9 {R:Type} (k:Kt R):=(Mh (Hh 4) (.exit 0) 2 k)
def f5 {R:Type}:Lt R Hh:=(Gc (pat:=Hh) 4 (fun d k=>(Afb d).bind (T9 k)) Ky)
theorem Ym:A1 Try.prog Yl:=Bc trivial
theorem Afc {R:Type}:A7 Try.prog R 22 0 Hh f5 T8:=
 Cu (cfg:=⟨Yl,0,22,Hh⟩) 4 [] (fun NX X d=>(u4 Ah) (Hv  NX X) d) (fun m d=>(u4 Ah) (Ek m) d) (fun d=>(u4 Ah) Hu d) T9 Ym trivial (fun f NX d=>by simp only [u4,Ac,Ah]; unfold Hv; simp only [nb])
theorem Yn:Cp Try.prog 57 Qe:=
 Bd (pat:=Hh) [T8] f5 Ym ⟨Afc,trivial⟩ Try.func57 (de:=fun x=>Qf x.1 x.2.1) (fun x r h=>Ie (Ajx x.1 x.2.1) h) fun _=>by kernel_rfl
def V8 (p:Pg) (w:Int):Bool:=Hn p w
def Avc:Ji:=⟨[.rd yPg,.rd tI],[some 4,none],[.rd .bool],[none]⟩
def Ahh:SD:=⟨Avc,fun x=>some (((V8 x.1 x.2.1),()),(()))⟩
def Z2 (a0:Pg) (a1:Int):Option ((((Bool)×Unit)×(Unit))):=
 (Bz a1).bind fun val=>bif !val.1.1 then some ((false,()),()) else bif decide (a0.1 < 1) then some ((false,()),()) else bif decide (a0.1 > 4) then some ((false,()),()) else bif decide (a0.2.1 < 1) then some ((false,()),()) else bif decide (a0.2.1 > 60000) then some ((false,()),()) else bif decide (a0.2.2.1 < 1) then some ((false,()),()) else bif decide (a0.2.2.1 > 1000000000) then some ((false,()),()) else bif decide (nI (ByteArray.size a0.2.2.2.1)≤IntKind.i64.wrap (IntKind.i64.wrap (64 - a1) - 8)) then bif a0.1 != 3 then some ((true,()),()) else some ((ByteArray.toList a0.2.2.2.1==(Ae).toList,()),()) else some ((false,()),())
theorem Avd (a0:Pg) (a1:Int):Z2 a0 a1=some (((V8 a0 a1),()),(())):=by
 unfold Z2 V8 Hn
 have tl:ByteArray.toList (Ae)=[]:=by decide +kernel
 rw [tl]
 refine bi_ (wid a1) ?_
 show (bif !Di a1 1 8 then _ else _)=_
 cases hw:Di a1 1 8 with
 | false=>rfl
 | true=>
  have k1:=Hm (Cq hw).1
  have k2:=Hm (Cq hw).2
  rw [Al (n:=64 - a1) (by omega) (by omega),Al (by omega) (by omega),show 64 - a1 - 8=56 - a1 by omega]
  have e:∀ (x lo hi:Int) {ρ:Type} (f t:ρ),(bif decide (x < lo) then f else bif decide (x > hi) then f else t)=bif Di x lo hi then t else f:=by
   intro x lo hi ρ f t
   unfold Di
   by_cases h1:x < lo
   ·rw [Ag h1,Bh (show ¬ lo≤x by omega)]; rfl
   ·rw [Bh h1,Ag (show lo≤x by omega)]
    by_cases h2:x > hi
    ·rw [Ag h2,Bh (show ¬ x≤hi by omega)]; rfl
    ·rw [Bh h2,Ag (show x≤hi by omega)]; rfl
  rw [e a0.1,e a0.2.1,e a0.2.2.1]
  cases Di a0.1 1 4<;>cases Di a0.2.1 1 60000<;>cases Di a0.2.2.1 1 1000000000<;>try rfl
  show (bif decide ((ByteArray.size a0.2.2.2.1:Int)≤56 - a1) then _ else _)=_
  cases decide ((ByteArray.size a0.2.2.2.1:Int)≤56 - a1)<;>cases (a0.1 != 3)<;>rfl
theorem Ave:Cp Try.prog 76 Ahh:=
 Bd (pat:=Ge) [] Ky (Bc (l:=[(62,Cx),(92,O3)]) ⟨Dj,T5,trivial⟩) trivial Try.func76 (de:=fun x=>Z2 x.1 x.2.1) (fun x r h=>(Avd x.1 x.2.1).trans h) fun _=>by kernel_rfl
def Ua (s:Ab) (w:Int):Option Ab:=if s.size < 4611686018427387904 then some (Auv s w) else none
def M3 (v0:Ab) (v1 v5 v6:Int):Nat:=(nI v0.size - v6).toNat + 1
def L2 (v1 v5:Int) (v7:Ab) (v8:Int):Nat:=(v1 - v8).toNat + 1
def Axo:Ji:=⟨[.rd .str,.rd tI],[none,none],[.rd .str],[none]⟩
def Ak8:SD:=⟨Axo,fun x=>(Ua x.1 x.2.1).bind fun r=>some ((r,()),(()))⟩
def Aak:Tb:=tb [(62,Cx)]
def Hb:Nat→Du×(Nat→Du):=Ix [(6,⟨[],[(0,.lf (.d .str)),(1,.lf (.d tI)),(5,.lf (.d (.int .u64))),(6,.lf (.d tI))],[]⟩,[(2,⟨[],[(1,.lf (.d tI)),(5,.lf (.d (.int .u64)))],[]⟩)]),(11,⟨[],[(1,.lf (.d tI)),(5,.lf (.d (.int .u64))),(7,.lf (.d .str)),(8,.lf (.d tI))],[]⟩,[(4,⟨[],[(7,.lf (.d .str))],[]⟩)])]
def Adf:Code:=(Av (Bl Try.f77)).getD 0 .skip
def Aal:Code:=(Av (Bl Try.f77)).getD 1 .skip
def L3 {R:Type}  (NX:((Int)×(Int)×(Ab)×(Int)×Unit)→Option R) (X4:((Ab)×Unit)→Option R) (v1:Int) (v5:Int) (v7:Ab) (v8:Int):Option R:=
 bif decide (v8 < v1) then bif decide ((strOfNums [IntKind.u8.wrap (v5.tmod 256)]).size + v7.size≤9223372036854775807) then NX (v1,IntKind.u64.wrap (v5.tdiv 256),strOfNums [IntKind.u8.wrap (v5.tmod 256)]++v7,IntKind.i64.wrap (v8 + 1),()) else none else X4 (v7,())
def Hw:Nat→(Int)→(Int)→(Ab)→(Int) →  Option ((Ab)×Unit)
 | 0,_,_,_,_=>none
 | m + 1,v1,v5,v7,v8=>L3  (fun d=>Hw m d.1 d.2.1 d.2.2.1 d.2.2.2.1) (fun d=>some (d)) v1 v5 v7 v8
def Ap1 (d:(Int)×(Int)×(Ab)×(Int)×Unit):Option ((Ab)×Unit):=(u4 Ah) (Hw ((u4 Ah) L2 d)) d
def M4 {R:Type}  (NX:((Ab)×(Int)×(Int)×(Int)×Unit)→Option R) (X2:((Int)×(Int)×Unit)→Option R) (v0:Ab) (v1:Int) (v5:Int) (v6:Int):Option R:=
 bif decide (v6 < nI v0.size) then bif decide (0≤v6) then bif decide (v6 < nI v0.size) then NX (v0,v1,IntKind.u64.wrap (IntKind.u64.wrap (nI (BitVec.ofInt 64 v5 ^^^ BitVec.ofInt 64 (IntKind.u64.wrap (At v0 v6))).toNat) * 1099511628211),IntKind.i64.wrap (v6 + 1),()) else none else none else X2 (v1,v5,())
def F1:Nat→(Ab)→(Int)→(Int)→(Int) →  Option ((Int)×(Int)×Unit)
 | 0,_,_,_,_=>none
 | m + 1,v0,v1,v5,v6=>M4  (fun d=>F1 m d.1 d.2.1 d.2.2.1 d.2.2.2.1) (fun d=>some (d)) v0 v1 v5 v6
def Arq (d:(Ab)×(Int)×(Int)×(Int)×Unit):Option ((Int)×(Int)×Unit):=(u4 Ah) (F1 ((u4 Ah) M3 d)) d
def Aam (a0:Ab) (a1:Int):Option ((((Ab)×Unit)×(Unit))):=
 (Bz a1).bind fun val=>bif !val.1.1 then some ((Ae,()),()) else ((fun d=>F1 (M3 d.1 d.2.1 d.2.2.1 d.2.2.2.1) d.1 d.2.1 d.2.2.1 d.2.2.2.1) (a0,a1,14695981039346656037,0,())).bind fun val=>((fun d=>Hw (L2 d.1 d.2.1 d.2.2.1 d.2.2.2.1) d.1 d.2.1 d.2.2.1 d.2.2.2.1) (val.1,val.2.1,Ae,0,())).bind fun val=>some (val,())
theorem Ap2:∀ (k m i:Nat) (v:Int) (out:Ab),i + k≤1000→k < m→out.size=i→U64 v→Hw m ((i + k:Nat):Int) v out i=some (P8 v k++out,())
 | 0,m + 1,i,v,out,hi,hm,ho,hv=>by
  simp only [Hw,L3]
  rw [Bh (by omega),Awx]
  rfl
 | k + 1,m + 1,i,v,out,hi,hm,ho,hv=>by
  have h0:=hv.1
  have h1:=hv.2
  simp only [Hw,L3]
  have e1:IntKind.wrap IntKind.u8 (Int.tmod v 256)=v % 256:=by
   rw [Int.tmod_eq_emod_of_nonneg h0]
   show v % 256 % 256=v % 256
   omega
  have e2:IntKind.wrap IntKind.u64 (Int.tdiv v 256)=v / 256:=by
   rw [Int.tdiv_eq_ediv_of_nonneg h0,A7l]
   omega
  rw [Ag (show (i:Int) < ((i + (k + 1):Nat):Int) by omega),e1,e2,Ag (show ByteArray.size (strOfNums [v % 256]) + ByteArray.size out≤9223372036854775807 by rw [ho,Da]; simp; omega),wI (show i < 4611686018427387904 by omega)]
  have hL:=Ap2 k m (i + 1) (v / 256) (strOfNums [v % 256]++out) (by omega) (by omega) (by rw [ByteArray.size_append,ho,Da]; simp; omega) ⟨by omega,by omega⟩
  rw [show i + 1 + k=i + (k + 1) by omega] at hL
  refine hL.trans ?_
  rw [← ByteArray.append_assoc,← Awy]
theorem Axp (a0:Ab) (a1:Int) r (h:Ua a0 a1=some r):Aam a0 a1=some ((r,()),(())):=by
 unfold Ua at h
 split at h
 rotate_left
 ·cases h
 rename_i hsz
 cases h
 unfold Aam Auv
 generalize hC:(14695981039346656037:Int)=C
 have h0:U64 C:=by rw [← hC]; exact ⟨by decide,by decide⟩
 refine bi_ (wid a1) ?_
 show (bif !Di a1 1 8 then _ else _)=_
 cases hw:Di a1 1 8 with
 | false=>rfl
 | true=>
  have k1:=Hm (Cq hw).1
  have k2:=Hm (Cq hw).2
  ·simp only [Bool.not_true,cond_false,cond_true]
   have hL:=Am9 a0.size (fun _ _=>True) (fun i h=>Aot h (At a0 i)) (g:=fun m i h=>F1 m a0 a1 h i) (ok:=fun h=>(a1,h,())) (fun m i h hi _=>by
    show F1 (m + 1) a0 a1 h i=_
    simp only [F1,M4]
    have c1:(i:Int) < nI a0.size:=by simp only [nI]; omega
    rw [Ag c1,Mv,wI (show i < 4611686018427387904 by omega)]
    rfl) (fun m h _=>by
    show F1 (m + 1) a0 a1 h a0.size=_
    simp only [F1,M4]
    rw [Bh (show ¬ ((a0.size:Int) < nI a0.size) by simp only [nI]; omega)]
    rfl) (fun _ _ _ _=>trivial) a0.size (M3 a0 a1 C 0) 0 C (by omega) (by simp only [M3,nI]; omega) trivial
   rw [show ((0:Nat):Int)=0 from rfl] at hL
   refine bi_ hL ?_
   obtain ⟨n,rfl⟩:∃ n:Nat,a1=(n:Int):=⟨a1.toNat,by omega⟩
   have hM:=Ap2 n (L2 n (Auu a0 a0.size 0 C) (Ae) 0) 0 (Auu a0 a0.size 0 C) (Ae) (by omega) (by simp only [L2]; omega) rfl (A6i a0 _ _ h0)
   rw [Nat.zero_add,A4l] at hM
   exact bi_ hM rfl
def Adg {R:Type} (k:Kt R):=(Mh (Hb 6) (.exit 0) 2 k)
def Aan {R:Type} (k:Kt R):=(Mh (Hb 11) (.exit 2) 4 k)
def Afd {R:Type}:Lt R Hb:=(Gc (pat:=Hb) 6 (fun d k=>(Arq d).bind (Adg k)) (Gc (pat:=Hb) 11 (fun d k=>(Ap1 d).bind (Aan k)) Ky))
theorem Aao:A1 Try.prog Aak:=Bc ⟨Dj,trivial⟩
theorem Ap3 {R:Type}:A7 Try.prog R 40 0 Hb Afd Aal:=
 Cu (cfg:=⟨Aak,0,40,Hb⟩) 11 [] (fun NX X d=>(u4 Ah) (L3  NX X) d) (fun m d=>(u4 Ah) (Hw m) d) (fun d=>(u4 Ah) L2 d) Aan Aao trivial (fun f NX d=>by simp only [u4,Ac,Ah]; unfold L3; simp only [nb])
theorem Arr {R:Type}:A7 Try.prog R 40 0 Hb Afd Adf:=
 Cu (cfg:=⟨Aak,0,40,Hb⟩) 6 [] (fun NX X d=>(u4 Ah) (M4  NX X) d) (fun m d=>(u4 Ah) (F1 m) d) (fun d=>(u4 Ah) M3 d) Adg Aao trivial (fun f NX d=>by simp only [u4,Ac,Ah]; unfold M4; simp only [nb])
theorem Axq:Cp Try.prog 77 Ak8:=
 Bd (pat:=Hb) [Adf,Aal] Afd Aao ⟨Arr,Ap3,trivial⟩ Try.func77 (de:=fun x=>Aam x.1 x.2.1) (fun x r h=>Ie (Axp x.1 x.2.1) h) fun _=>by kernel_rfl
def Cc (p:Pg) (w:Int):Ab:=C6 p w
def Hx (v1:Int) (v5:Ab):Nat:=(64 - v1 - nI v5.size).toNat + 1
def Ajy:Ji:=⟨[.rd yPg,.rd tI],[some 4,none],[.rd .str],[none]⟩
def Hi:SD:=⟨Ajy,fun x=>some (((Cc x.1 x.2.1),()),(()))⟩
def Yo:Tb:=tb [(57,Qe),(76,Ahh),(77,Ak8)]
def Hj:Nat→Du×(Nat→Du):=Ix [(5,⟨[],[(1,.lf (.d tI)),(5,.lf (.d .str))],[]⟩,[(2,⟨[],[(1,.lf (.d tI)),(5,.lf (.d .str))],[]⟩)])]
def Ub:Code:=(Av (Bl Try.f56)).getD 0 .skip
def Hy {R:Type}  (NX:((Int)×(Ab)×Unit)→Option R) (X2:((Int)×(Ab)×Unit)→Option R) (v1:Int) (v5:Ab):Option R:=
 bif decide (IntKind.i64.wrap (nI v5.size + v1) < 64) then bif decide (v5.size + (ByteArray.mk #[0]).size≤9223372036854775807) then NX (v1,v5++ByteArray.mk #[0],()) else none else X2 (v1,v5,())
def Em:Nat→(Int)→(Ab) →  Option ((Int)×(Ab)×Unit)
 | 0,_,_=>none
 | m + 1,v1,v5=>Hy  (fun d=>Em m d.1 d.2.1) (fun d=>some (d)) v1 v5
def Afe (d:(Int)×(Ab)×Unit):Option ((Int)×(Ab)×Unit):=(Ac (Ac Ah)) (Em ((Ac (Ac Ah)) Hx d)) d
def Qg (a0:Pg) (a1:Int):Option ((((Ab)×Unit)×(Unit))):=
 bif !V8 a0 a1 then some ((Ae,()),()) else ((Bi a0.1 1).bind fun val=>some ((val,()),())).bind fun val=>((Bi a0.2.1 2).bind fun val=>some ((val,()),())).bind fun val_1=>bif decide (ByteArray.size val.1.1 + ByteArray.size val_1.1.1≤9223372036854775807) then ((Bi a0.2.2.1 4).bind fun val=>some ((val,()),())).bind fun val_2=>bif decide ((val.1.1++val_1.1.1).size + ByteArray.size val_2.1.1≤9223372036854775807) then ((Bi (nI (ByteArray.size a0.2.2.2.1)) 1).bind fun val=>some ((val,()),())).bind fun val_3=>bif decide ((val.1.1++val_1.1.1++val_2.1.1).size + ByteArray.size val_3.1.1≤9223372036854775807) then bif decide ((val.1.1++val_1.1.1++val_2.1.1++val_3.1.1).size + ByteArray.size a0.2.2.2.1≤9223372036854775807) then ((fun d=>Em (Hx d.1 d.2.1) d.1 d.2.1) (a1,val.1.1++val_1.1.1++val_2.1.1++val_3.1.1++a0.2.2.2.1,())).bind fun val=>((Ua val.2.1 val.1).bind fun val=>some ((val,()),())).bind fun val_4=>bif decide (ByteArray.size val_4.1.1 + ByteArray.size val.2.1≤9223372036854775807) then some ((val_4.1.1++val.2.1,()),()) else none else none else none else none else none
theorem Axr (w:Int):∀ (k m:Nat) (b:Ab),(b.size:Int) + w + k=64→0≤w→k < m→Em m w b=some (w,b++strOfNums (List.replicate k 0),())
 | 0,m + 1,b,h,h0,hm=>by
  simp only [Em,Hy]
  rw [Al (by simp only [nI]; omega) (by simp only [nI]; omega),Bh (show ¬ (nI b.size + w < 64) by simp only [nI]; omega),show strOfNums (List.replicate 0 0)=Ae from rfl,A4l]
  rfl
 | k + 1,m + 1,b,h,h0,hm=>by
  simp only [Em,Hy]
  have hz:(ByteArray.mk #[0]).size=1:=rfl
  rw [Al (by simp only [nI]; omega) (by simp only [nI]; omega),Ag (show nI b.size + w < 64 by simp only [nI]; omega),hz,Ag (show b.size + 1≤9223372036854775807 by omega)]
  have:=Axr w k m (b++ByteArray.mk #[0]) (by rw [ByteArray.size_append,hz]; omega) h0 (by omega)
  refine this.trans ?_
  rw [ByteArray.append_assoc,show ByteArray.mk #[0]=strOfNums [0] from rfl,← Ac2]
  rfl
theorem Ajz (a0:Pg) (a1:Int):Qg a0 a1=some (((Cc a0 a1),()),(())):=by
 unfold Qg Cc C6
 show (bif !Hn a0 a1 then _ else _)=_
 cases hp:Hn a0 a1 with
 | false=>rfl
 | true=>
  obtain ⟨hw,k1,k2,kp⟩:=Xu hp
  obtain ⟨r1,r2,r3⟩:=Agt hp
  have n1:Bi a0.1 1=some (P8 a0.1 1):=(Ft _ _).trans (if_pos (by omega))
  have n2:Bi a0.2.1 2=some (P8 a0.2.1 2):=(Ft _ _).trans (if_pos (by omega))
  have n3:Bi a0.2.2.1 4=some (P8 a0.2.2.1 4):=(Ft _ _).trans (if_pos (by omega))
  have n4:Bi (nI a0.2.2.2.1.size) 1=some (P8 (nI a0.2.2.2.1.size) 1):=(Ft _ _).trans (if_pos (by simp only [nI]; omega))
  simp only [Bool.not_true,cond_false,cond_true,n1,n2,n3,n4,Option.bind_some]
  have hb:Iy a0 a1=P8 a0.1 1++P8 a0.2.1 2++P8 a0.2.2.1 4++P8 (nI a0.2.2.2.1.size) 1++a0.2.2.2.1++strOfNums (List.replicate (56 - a1 - a0.2.2.2.1.size).toNat 0):=rfl
  have hs4:(P8 a0.1 1++P8 a0.2.1 2++P8 a0.2.2.1 4++P8 (nI a0.2.2.2.1.size) 1).size=8:=by simp only [ByteArray.size_append,M1]
  have hs3:(P8 a0.1 1++P8 a0.2.1 2++P8 a0.2.2.1 4).size=7:=by simp only [ByteArray.size_append,M1]
  have hs2:(P8 a0.1 1++P8 a0.2.1 2).size=3:=by simp only [ByteArray.size_append,M1]
  have hs5:(P8 a0.1 1++P8 a0.2.1 2++P8 a0.2.2.1 4++P8 (nI a0.2.2.2.1.size) 1++a0.2.2.2.1).size=8 + a0.2.2.2.1.size:=by rw [ByteArray.size_append,hs4]
  rw [hs4,hs3,hs2,M1,M1,M1,M1,Ag (show 1 + 2≤9223372036854775807 by decide),Ag (show 3 + 4≤9223372036854775807 by decide),Ag (show 7 + 1≤9223372036854775807 by decide),Ag (show 8 + a0.2.2.2.1.size≤9223372036854775807 by omega)]
  simp only [cond_true]
  generalize hB:P8 a0.1 1++P8 a0.2.1 2++P8 a0.2.2.1 4++P8 (nI a0.2.2.2.1.size) 1++a0.2.2.2.1=B at *
  have hL:=Axr a1 (56 - a1 - a0.2.2.2.1.size).toNat (Hx a1 B) B (by rw [hs5]; omega) (by omega) (by simp only [Hx,nI,hs5]; omega)
  have hz:(strOfNums (List.replicate (56 - a1 - a0.2.2.2.1.size).toNat 0)).size=(56 - a1 - a0.2.2.2.1.size).toNat:=by rw [Da,List.length_replicate]
  rw [← hb] at hL
  have hbs:(Iy a0 a1).size≤64:=by rw [hb,ByteArray.size_append,hs5,hz]; omega
  have hm:Ua (Iy a0 a1) a1=some (Auv (Iy a0 a1) a1):=if_pos (by omega)
  refine bi_ hL (bi_ (bi_ hm rfl) ?_)
  show (bif decide (ByteArray.size (Auv (Iy a0 a1) a1) + ByteArray.size (Iy a0 a1)≤9223372036854775807) then some ((Auv (Iy a0 a1) a1++Iy a0 a1,()),()) else none)=_
  rw [Abz hw,Ag (by omega)]
  rfl
def Uc {R:Type} (k:Kt R):=(Mh (Hj 5) (.exit 0) 2 k)
def f6 {R:Type}:Lt R Hj:=(Gc (pat:=Hj) 5 (fun d k=>(Afe d).bind (Uc k)) Ky)
theorem Yp:A1 Try.prog Yo:=Bc ⟨Yn,Ave,Axq,trivial⟩
theorem Aff {R:Type}:A7 Try.prog R 41 0 Hj f6 Ub:=
 Cu (cfg:=⟨Yo,0,41,Hj⟩) 5 [] (fun NX X d=>(Ac (Ac Ah)) (Hy  NX X) d) (fun m d=>(Ac (Ac Ah)) (Em m) d) (fun d=>(Ac (Ac Ah)) Hx d) Uc Yp trivial (fun f NX d=>by simp only [u4,Ac,Ah]; unfold Hy; simp only [nb])
theorem J6:Cp Try.prog 56 Hi:=
 Bd (pat:=Hj) [Ub] f6 Yp ⟨Aff,trivial⟩ Try.func56 (de:=fun x=>Qg x.1 x.2.1) (fun x r h=>(Ajz x.1 x.2.1).trans h) fun _=>by kernel_rfl
def Ny (e:Ab) (life first w:Int):Option (List Ab):=if e.size≤1048576 then some (Alk e life first w) else none
def K8 (v1 v2 v3:Int) (v10:List Ab) (v11:Int) (r0:List Ab):Nat:=(nI v10.length - v11).toNat + 1
def Axs:Ji:=⟨[.rd .str,.rd tI,.rd tI,.rd tI],[none,none,none,none],[.own 9 .str],[none]⟩
def Aap:SD:=⟨Axs,fun x=>(Ny x.1 x.2.1 x.2.2.1 x.2.2.2.1).bind fun r=>some ((r,()),(()))⟩
def Ak9:Tb:=tb [(56,Hi),(62,Cx),(124,Rj)]
def N7:Nat→Du×(Nat→Du):=Ix [(9,⟨[.row 9 0 9 .str,.sl 10 0 .str],[(1,.lf (.d tI)),(2,.lf (.d tI)),(3,.lf (.d tI)),(9,.lf (.row 0)),(10,.lf (.d (.sl .str))),(11,.lf (.d tI))],[.row 9 .str]⟩,[(2,⟨[.row 9 0 9 .str],[(9,.lf (.row 0))],[.row 9 .str]⟩)])]
def Adh:Code:=(Av (Bl Try.f111)).getD 0 .skip
def M5 {R:Type}  (NX:((Int)×(Int)×(Int)×(List Ab)×(Int)×(List Ab)×Unit)→Option R) (X2:((List Ab)×Unit)→Option R) (v1:Int) (v2:Int) (v3:Int) (v10:List Ab) (v11:Int) (r0:List Ab):Option R:=
 bif decide (v11 < nI v10.length) then bif v11==IntKind.i64.wrap (nI v10.length - 1) then bif decide (0≤v11) then bif decide (v11 < nI v10.length) then bif decide ((r0.length + [Cc (2,v1,IntKind.i64.wrap (v2 + v11),v10.getD v11.toNat (Ae),()) v3].length) * 16≤140737488355328) then NX (v1,v2,v3,v10,IntKind.i64.wrap (v11 + 1),r0++[Cc (2,v1,IntKind.i64.wrap (v2 + v11),v10.getD v11.toNat (Ae),()) v3],()) else none else none else none else bif decide (0≤v11) then bif decide (v11 < nI v10.length) then bif decide ((r0.length + [Cc (1,v1,IntKind.i64.wrap (v2 + v11),v10.getD v11.toNat (Ae),()) v3].length) * 16≤140737488355328) then NX (v1,v2,v3,v10,IntKind.i64.wrap (v11 + 1),r0++[Cc (1,v1,IntKind.i64.wrap (v2 + v11),v10.getD v11.toNat (Ae),()) v3],()) else none else none else none else X2 (r0,())
def Ew:Nat→(Int)→(Int)→(Int)→(List Ab)→(Int)→(List Ab) →  Option ((List Ab)×Unit)
 | 0,_,_,_,_,_,_=>none
 | m + 1,v1,v2,v3,v10,v11,r0=>M5  (fun d=>Ew m d.1 d.2.1 d.2.2.1 d.2.2.2.1 d.2.2.2.2.1 d.2.2.2.2.2.1) (fun d=>some (d)) v1 v2 v3 v10 v11 r0
def Ars (d:(Int)×(Int)×(Int)×(List Ab)×(Int)×(List Ab)×Unit):Option ((List Ab)×Unit):=(u4 (Ac (Ac Ah))) (Ew ((u4 (Ac (Ac Ah))) K8 d)) d
def Aaq (a0:Ab) (a1 a2 a3:Int):Option ((((List Ab)×Unit)×(Unit))):=
 (Bz a3).bind fun val=>bif !val.1.1 then some (([],()),()) else bif decide (a1 < 1) then some (([],()),()) else bif decide (a1 > 60000) then some (([],()),()) else bif decide (a2 < 1) then some (([],()),()) else bif decide (a2 > 1000000000) then some (([],()),()) else ((Hq a0 a3).bind fun val=>some ((val,()),())).bind fun val=>bif decide (nI (List.length val.1.1) > IntKind.i64.wrap (IntKind.i64.wrap (1000000000 - a2) + 1)) then some (([],()),()) else ((fun d=>Ew (K8 d.1 d.2.1 d.2.2.1 d.2.2.2.1 d.2.2.2.2.1 d.2.2.2.2.2.1) d.1 d.2.1 d.2.2.1 d.2.2.2.1 d.2.2.2.2.1 d.2.2.2.2.2.1) (a1,a2,a3,val.1.1,0,[],())).bind fun val=>some (val,())
theorem Axt (a0:Ab) (a1 a2 a3:Int) r (h:Ny a0 a1 a2 a3=some r):Aaq a0 a1 a2 a3=some ((r,()),(())):=by
 unfold Ny at h
 split at h
 rotate_left
 ·cases h
 rename_i hc
 cases h
 unfold Aaq Alk
 refine bi_ (wid a3) ?_
 rw [Ao1 a1]
 show (bif !Di a3 1 8 then _ else (bif Di a1 1 60000 then _ else _))=_
 cases hw:Di a3 1 8 with
 | false=>rfl
 | true=>
  obtain ⟨k1,k2⟩:=Ec hw
  have hp:=Zv (s:=a0) hw
  have hP:Jx a0.size a3=((A8 a0 a3).length:Int):=by unfold Jx; rw [hw]; exact hp.symm
  have hlen:(A8 a0 a3).length≤a0.size + 1:=Ak1 _ _ _
  have h1:1≤(A8 a0 a3).length:=by
   have:(1:Int)≤((A8 a0 a3).length:Int):=by rw [hp]; split<;>omega
   omega
  have n1:Hq a0 a3=some (A8 a0 a3):=if_pos ⟨by omega,k1,k2⟩
  rw [hP]
  cases hl:Di a1 1 60000 with
  | false=>rfl
  | true=>
   by_cases q1:a2 < 1
   ·rw [Ag q1,Bh (show ¬ 1≤a2 by omega)]; rfl
   ·rw [Bh q1,Ag (show 1≤a2 by omega)]
    by_cases q0:a2 > 1000000000
    ·rw [Ag q0,Bh (show ¬ a2≤1000000000 - ((A8 a0 a3).length:Int) + 1 by omega)]; rfl
    ·rw [Bh q0]
     refine bi_ (bi_ n1 rfl) ?_
     show (bif decide (nI (A8 a0 a3).length > IntKind.i64.wrap (IntKind.i64.wrap (1000000000 - a2) + 1)) then _ else (Option.bind (Ew (K8 a1 a2 a3 (A8 a0 a3) 0 []) a1 a2 a3 (A8 a0 a3) 0 []) _))=_
     rw [Al (n:=1000000000 - a2) (by omega) (by omega),Al (n:=1000000000 - a2 + 1) (by omega) (by omega)]
     simp only [nI]
     by_cases q2:a2 > 1000000000 - ((A8 a0 a3).length:Int) + 1
     ·rw [Ag (show ((A8 a0 a3).length:Int) > 1000000000 - a2 + 1 by omega),Bh (show ¬ a2≤1000000000 - ((A8 a0 a3).length:Int) + 1 by omega)]; rfl
     ·rw [Bh (show ¬ ((A8 a0 a3).length:Int) > 1000000000 - a2 + 1 by omega),Ag (show a2≤1000000000 - ((A8 a0 a3).length:Int) + 1 by omega)]
      generalize A8 a0 a3=P at *
      have hL:=Am9 P.length (fun i r=>r.length=i) (fun i r=>r++[C6 ((if i + 1=P.length then 2 else 1),a1,a2 + (i:Int),P.getD i z0,()) a3]) (g:=fun m i r=>Ew m a1 a2 a3 P i r) (ok:=fun r=>(r,())) (fun m i r hi hr=>by
       show Ew (m + 1) a1 a2 a3 P i r=_
       simp only [Ew,M5]
       rw [cLt hi,Mv,wI (show i < 4611686018427387904 by omega),Jh,Al (n:=a2 + (i:Int)) (by omega) (by omega),Al (n:=nI P.length - 1) (by simp only [nI]; omega) (by simp only [nI]; omega),D9,D9,Ag (show (r.length + 1) * 16≤140737488355328 by omega)]
       by_cases e:i + 1=P.length
       ·rw [show ((i:Int)==nI P.length - 1)=true from beq_iff_eq.2 (by simp only [nI]; omega),if_pos e]; rfl
       ·rw [show ((i:Int)==nI P.length - 1)=false from beq_eq_false_iff_ne.2 (by simp only [nI]; omega),if_neg e]; rfl) (fun m r _=>by
       show Ew (m + 1) a1 a2 a3 P (P.length:Int) r=_
       simp only [Ew,M5]
       rw [W3]
       rfl) (fun i r hi hr=>by rw [Fg,D9,hr]) P.length (K8 a1 a2 a3 P 0 []) 0 [] (by omega) (by simp only [K8,nI]; omega) rfl
      rw [Atf (fun i=>C6 ((if i + 1=P.length then 2 else 1),a1,a2 + (i:Int),P.getD i z0,()) a3),List.nil_append,← Vs] at hL
      exact bi_ hL rfl
def Adi {R:Type} (k:Kt R):=(Mh (N7 9) (.exit 0) 2 k)
def Ap4 {R:Type}:Lt R N7:=(Gc (pat:=N7) 9 (fun d k=>(Ars d).bind (Adi k)) Ky)
theorem Ala:A1 Try.prog Ak9:=Bc ⟨J6,Dj,d8,trivial⟩
theorem Art {R:Type}:A7 Try.prog R 71 0 N7 Ap4 Adh:=
 Cu (cfg:=⟨Ak9,0,71,N7⟩) 9 [] (fun NX X d=>(u4 (Ac (Ac Ah))) (M5  NX X) d) (fun m d=>(u4 (Ac (Ac Ah))) (Ew m) d) (fun d=>(u4 (Ac (Ac Ah))) K8 d) Adi Ala trivial (fun f NX d=>by simp only [u4,Ac,Ah]; unfold M5; simp only [nb])
theorem Alb:Cp Try.prog 111 Aap:=
 Bd (pat:=N7) [Adh] Ap4 Ala ⟨Art,trivial⟩ Try.func111 (de:=fun x=>Aaq x.1 x.2.1 x.2.2.1 x.2.2.2.1) (fun x r h=>Ie (Axt x.1 x.2.1 x.2.2.1 x.2.2.2.1) h) fun _=>by kernel_rfl
def Ahi (a:Int) (d:Ab):D5:=(false,a,d,())
def Aru:Ji:=⟨[.rd tI,.rd .str],[none,none],[.rd Fz],[some 3]⟩
def Qt:SD:=⟨Aru,fun x=>some (((Ahi x.1 x.2.1),()),(()))⟩
def Adj (a0:Int) (a1:Ab):Option (((D5×Unit)×(Unit))):=
 some (((false,a0,a1,()),()),())
theorem Arv (a0:Int) (a1:Ab):Adj a0 a1=some (((Ahi a0 a1),()),(())):=rfl
theorem W8:Cp Try.prog 113 Qt:=
 Bd (pat:=Ge) [] Ky (Bc (l:=[]) trivial) trivial Try.func113 (de:=fun x=>Adj x.1 x.2.1) (fun x r h=>(Arv x.1 x.2.1).trans h) fun _=>by kernel_rfl
def A5 (n h:Int):Int:=IntKind.i64.wrap (2 + IntKind.i64.wrap (h * Au n))
def Ap5:Ji:=⟨[.rd tI,.rd tI],[none,none],[.rd tI],[none]⟩
def O5:SD:=⟨Ap5,fun x=>some (((A5 x.1 x.2.1),()),(()))⟩
def Aar (a0 a1:Int):Option ((((Int)×Unit)×(Unit))):=
 some ((IntKind.i64.wrap (2 + IntKind.i64.wrap (a1 * Au a0)),()),())
theorem Ap6 (a0 a1:Int):Aar a0 a1=some (((A5 a0 a1),()),(())):=rfl
theorem Ud:Cp Try.prog 114 O5:=
 Bd (pat:=Ge) [] Ky (Bc (l:=[(109,J5)]) ⟨Lz,trivial⟩) trivial Try.func114 (de:=fun x=>Aar x.1 x.2.1) (fun x r h=>(Ap6 x.1 x.2.1).trans h) fun _=>by kernel_rfl
def Ar (s:Lp) (b:List Bp):Td:=Gg s b
def Ap7:Ji:=⟨[.rd Aos,.rd (.sl Gu)],[some 10,none],[.rd tI,.rd tI,.rd tI,.rd tI,.rd tI,.rd tI,.rd tI,.rd tI,.rd tI,.rd tI,.own 67 B2,.own 49 Fz],[some 12]⟩
def Ue:SD:=⟨Ap7,fun x=>some (((Ar x.1 x.2.1).1,(Ar x.1 x.2.1).2.1.1,(Ar x.1 x.2.1).2.1.2.1,(Ar x.1 x.2.1).2.1.2.2.1,(Ar x.1 x.2.1).2.1.2.2.2.1.1,(Ar x.1 x.2.1).2.1.2.2.2.1.2.1,(Ar x.1 x.2.1).2.1.2.2.2.1.2.2.1,(Ar x.1 x.2.1).2.1.2.2.2.1.2.2.2.1,(Ar x.1 x.2.1).2.1.2.2.2.2.1,(Ar x.1 x.2.1).2.1.2.2.2.2.2.1,(Ar x.1 x.2.1).2.1.2.2.2.2.2.2.1.1,(Ar x.1 x.2.1).2.2.1,()),(()))⟩
def Aas:Tb:=tb [(106,Kr),(107,Kq),(108,W6),(109,J5),(110,Sv),(111,Aap),(112,I2),(113,Qt),(114,O5)]
def J7:Nat→Du×(Nat→Du):=Ix [(17,⟨[.sl 8 0 .str,.row 10 0 49 Fz,.boxSl 2 9 B2,.boxRow 4 10 67 B2,.boxRow 4 11 49 Fz,.boxRow 9 9 67 B2],[(2,.lf (.ptr 0 0)),(4,.lf (.ptr 1 0)),(8,.lf (.d (.sl .str))),(9,.lf (.ptr 2 0)),(10,.lf (.row 3)),(11,.lf (.d tI))],[.box 95 [.d tI,.d tI,.d tI,.d tI,.d tI,.d tI,.d tI,.d tI,.d tI,.d (.sl B2)],.box 141 [.d tI,.d tI,.d tI,.d tI,.d tI,.d tI,.d tI,.d tI,.d tI,.d tI,.row 4,.row 5],.box 95 [.d tI,.d tI,.d tI,.d tI,.d tI,.d tI,.d tI,.d tI,.d tI,.row 6],.row 49 Fz,.row 67 B2,.row 49 Fz,.row 67 B2]⟩,[(2,⟨[.row 10 0 49 Fz,.boxRow 4 10 67 B2,.boxRow 4 11 49 Fz,.boxRow 9 9 67 B2],[(4,.lf (.ptr 0 0)),(9,.lf (.ptr 1 0)),(10,.lf (.row 2))],[.box 141 [.d tI,.d tI,.d tI,.d tI,.d tI,.d tI,.d tI,.d tI,.d tI,.d tI,.row 3,.row 4],.box 95 [.d tI,.d tI,.d tI,.d tI,.d tI,.d tI,.d tI,.d tI,.d tI,.row 5],.row 49 Fz,.row 67 B2,.row 49 Fz,.row 67 B2]⟩)])]
def V9:Code:=(Av (Bl Try.f96)).getD 0 .skip
def Gp (v8:List Ab) (v11 b0_0:Int) (b0_1 b0_2:Int) (b0_3 b0_4:Int) (b0_5 b0_6:Int) (b0_7 b0_8:Int) (b0_9:List Bw) (b1_0 b1_1:Int) (b1_2 b1_3:Int) (b1_4 b1_5:Int) (b1_6 b1_7:Int) (b1_8 b1_9:Int) (b2_0 b2_1:Int) (b2_2 b2_3:Int) (b2_4 b2_5:Int) (b2_6 b2_7 b2_8:Int) (r3:List D5) (r4:List Bw) (r5:List D5) (r6:List Bw):Nat:=((v8.length:Int) - v11).toNat + 1
def I4 {R:Type}  (NX:((List Ab)×(Int)×(Int)×(Int)×(Int)×(Int)×(Int)×(Int)×(Int)×(Int)×(Int)×(List Bw)×(Int)×(Int)×(Int)×(Int)×(Int)×(Int)×(Int)×(Int)×(Int)×(Int)×(Int)×(Int)×(Int)×(Int)×(Int)×(Int)×(Int)×(Int)×(Int)×(List D5)×(List Bw)×(List D5)×(List Bw)×Unit)→Option R) (X2:((Int)×(Int)×(Int)×(Int)×(Int)×(Int)×(Int)×(Int)×(Int)×(Int)×(Int)×(Int)×(Int)×(Int)×(Int)×(Int)×(Int)×(Int)×(Int)×(List D5)×(List Bw)×(List D5)×(List Bw)×Unit)→Option R) (v8:List Ab) (v11:Int) (b0_0:Int) (b0_1:Int) (b0_2:Int) (b0_3:Int) (b0_4:Int) (b0_5:Int) (b0_6:Int) (b0_7:Int) (b0_8:Int) (b0_9:List Bw) (b1_0:Int) (b1_1:Int) (b1_2:Int) (b1_3:Int) (b1_4:Int) (b1_5:Int) (b1_6:Int) (b1_7:Int) (b1_8:Int) (b1_9:Int) (b2_0:Int) (b2_1:Int) (b2_2:Int) (b2_3:Int) (b2_4:Int) (b2_5:Int) (b2_6:Int) (b2_7:Int) (b2_8:Int) (r3:List D5) (r4:List Bw) (r5:List D5) (r6:List Bw):Option R:=
 bif decide (v11 < nI v8.length) then bif decide (0≤v11) then bif decide (v11 < nI v8.length) then bif decide ((r3.length + [(false,IntKind.i64.wrap (A5 b0_1 b0_4 + b2_7),v8.getD v11.toNat (Ae),())].length) * 32≤140737488355328) then NX (v8,IntKind.i64.wrap (v11 + 1),b0_0,b0_1,b0_2,b0_3,b0_4,b0_5,b0_6,b0_7,b0_8,b0_9,b1_0,b1_1,b1_2,b1_3,b1_4,b1_5,b1_6,b1_7,b1_8,b1_9,b2_0,b2_1,b2_2,b2_3,b2_4,b2_5,b2_6,IntKind.i64.wrap (b2_7 + 1),IntKind.i64.wrap (b2_8 + 1),r3++[(false,IntKind.i64.wrap (A5 b0_1 b0_4 + b2_7),v8.getD v11.toNat (Ae),())],r4,r5,r6,()) else none else none else none else X2 (b1_0,b1_1,b1_2,b1_3,b1_4,b1_5,b1_6,b1_7,b1_8,b1_9,b2_0,b2_1,b2_2,b2_3,b2_4,b2_5,b2_6,b2_7,b2_8,r3,r4,r5,r6,())
def B7:Nat→(List Ab)→(Int)→(Int)→(Int)→(Int)→(Int)→(Int)→(Int)→(Int)→(Int)→(Int)→(List Bw)→(Int)→(Int)→(Int)→(Int)→(Int)→(Int)→(Int)→(Int)→(Int)→(Int)→(Int)→(Int)→(Int)→(Int)→(Int)→(Int)→(Int)→(Int)→(Int)→(List D5)→(List Bw)→(List D5)→(List Bw) →  Option ((Int)×(Int)×(Int)×(Int)×(Int)×(Int)×(Int)×(Int)×(Int)×(Int)×(Int)×(Int)×(Int)×(Int)×(Int)×(Int)×(Int)×(Int)×(Int)×(List D5)×(List Bw)×(List D5)×(List Bw)×Unit)
 | 0,_,_,_,_,_,_,_,_,_,_,_,_,_,_,_,_,_,_,_,_,_,_,_,_,_,_,_,_,_,_,_,_,_,_,_=>none
 | m + 1,v8,v11,b0_0,b0_1,b0_2,b0_3,b0_4,b0_5,b0_6,b0_7,b0_8,b0_9,b1_0,b1_1,b1_2,b1_3,b1_4,b1_5,b1_6,b1_7,b1_8,b1_9,b2_0,b2_1,b2_2,b2_3,b2_4,b2_5,b2_6,b2_7,b2_8,r3,r4,r5,r6=>I4  (fun d=>B7 m d.1 d.2.1 d.2.2.1 d.2.2.2.1 d.2.2.2.2.1 d.2.2.2.2.2.1 d.2.2.2.2.2.2.1 d.2.2.2.2.2.2.2.1 d.2.2.2.2.2.2.2.2.1 d.2.2.2.2.2.2.2.2.2.1 d.2.2.2.2.2.2.2.2.2.2.1 d.2.2.2.2.2.2.2.2.2.2.2.1 d.2.2.2.2.2.2.2.2.2.2.2.2.1 d.2.2.2.2.2.2.2.2.2.2.2.2.2.1 d.2.2.2.2.2.2.2.2.2.2.2.2.2.2.1 d.2.2.2.2.2.2.2.2.2.2.2.2.2.2.2.1 d.2.2.2.2.2.2.2.2.2.2.2.2.2.2.2.2.1 d.2.2.2.2.2.2.2.2.2.2.2.2.2.2.2.2.2.1 d.2.2.2.2.2.2.2.2.2.2.2.2.2.2.2.2.2.2.1 d.2.2.2.2.2.2.2.2.2.2.2.2.2.2.2.2.2.2.2.1 d.2.2.2.2.2.2.2.2.2.2.2.2.2.2.2.2.2.2.2.2.1 d.2.2.2.2.2.2.2.2.2.2.2.2.2.2.2.2.2.2.2.2.2.1 d.2.2.2.2.2.2.2.2.2.2.2.2.2.2.2.2.2.2.2.2.2.2.1 d.2.2.2.2.2.2.2.2.2.2.2.2.2.2.2.2.2.2.2.2.2.2.2.1 d.2.2.2.2.2.2.2.2.2.2.2.2.2.2.2.2.2.2.2.2.2.2.2.2.1 d.2.2.2.2.2.2.2.2.2.2.2.2.2.2.2.2.2.2.2.2.2.2.2.2.2.1 d.2.2.2.2.2.2.2.2.2.2.2.2.2.2.2.2.2.2.2.2.2.2.2.2.2.2.1 d.2.2.2.2.2.2.2.2.2.2.2.2.2.2.2.2.2.2.2.2.2.2.2.2.2.2.2.1 d.2.2.2.2.2.2.2.2.2.2.2.2.2.2.2.2.2.2.2.2.2.2.2.2.2.2.2.2.1 d.2.2.2.2.2.2.2.2.2.2.2.2.2.2.2.2.2.2.2.2.2.2.2.2.2.2.2.2.2.1 d.2.2.2.2.2.2.2.2.2.2.2.2.2.2.2.2.2.2.2.2.2.2.2.2.2.2.2.2.2.2.1 d.2.2.2.2.2.2.2.2.2.2.2.2.2.2.2.2.2.2.2.2.2.2.2.2.2.2.2.2.2.2.2.1 d.2.2.2.2.2.2.2.2.2.2.2.2.2.2.2.2.2.2.2.2.2.2.2.2.2.2.2.2.2.2.2.2.1 d.2.2.2.2.2.2.2.2.2.2.2.2.2.2.2.2.2.2.2.2.2.2.2.2.2.2.2.2.2.2.2.2.2.1 d.2.2.2.2.2.2.2.2.2.2.2.2.2.2.2.2.2.2.2.2.2.2.2.2.2.2.2.2.2.2.2.2.2.2.1) (fun d=>some (d)) v8 v11 b0_0 b0_1 b0_2 b0_3 b0_4 b0_5 b0_6 b0_7 b0_8 b0_9 b1_0 b1_1 b1_2 b1_3 b1_4 b1_5 b1_6 b1_7 b1_8 b1_9 b2_0 b2_1 b2_2 b2_3 b2_4 b2_5 b2_6 b2_7 b2_8 r3 r4 r5 r6
def Ahj (d:(List Ab)×(Int)×(Int)×(Int)×(Int)×(Int)×(Int)×(Int)×(Int)×(Int)×(Int)×(List Bw)×(Int)×(Int)×(Int)×(Int)×(Int)×(Int)×(Int)×(Int)×(Int)×(Int)×(Int)×(Int)×(Int)×(Int)×(Int)×(Int)×(Int)×(Int)×(Int)×(List D5)×(List Bw)×(List D5)×(List Bw)×Unit):Option ((Int)×(Int)×(Int)×(Int)×(Int)×(Int)×(Int)×(Int)×(Int)×(Int)×(Int)×(Int)×(Int)×(Int)×(Int)×(Int)×(Int)×(Int)×(Int)×(List D5)×(List Bw)×(List D5)×(List Bw)×Unit):=(u4 (u4 (u4 (u4 (u4 (u4 (u4 (u4 (Ac (Ac (Ac Ah))))))))))) (B7 ((u4 (u4 (u4 (u4 (u4 (u4 (u4 (u4 (Ac (Ac (Ac Ah))))))))))) Gp d)) d
def Uf (a0:Lp) (a1:List Bp):Option ((((Int)×(Int)×(Int)×(Int)×(Int)×(Int)×(Int)×(Int)×(Int)×(Int)×(List Bw)×(List D5)×Unit)×(Unit))):=
 bif !Gn a0 then some ((1,0,0,0,0,0,0,0,0,0,[],[],()),()) else bif !Gk a1 then some ((1,0,0,0,0,0,0,0,0,0,[],[],()),()) else bif (Eg a0.2.2.2.2.2.2.1 a1).2 != 0 then some ((2,0,0,0,0,0,0,0,0,0,[],[],()),()) else bif decide (Kk (Eg a0.2.2.2.2.2.2.1 a1).1 a0.1 > IntKind.i64.wrap (Au a0.2.1 - 1)) then some ((3,0,0,0,0,0,0,0,0,0,[],[],()),()) else ((Ny (C1 a1) a0.2.2.1 (IntKind.i64.wrap (a0.2.2.2.1.2.2.1 + a0.2.2.2.2.1)) a0.1).bind fun val=>some ((val,()),())).bind fun val=>bif decide (nI (List.length val.1.1) > IntKind.i64.wrap (Au a0.2.1 - a0.2.2.2.2.1)) then some ((4,0,0,0,0,0,0,0,0,0,[],[],()),()) else ((fun d=>B7 (Gp d.1 d.2.1 d.2.2.1 d.2.2.2.1 d.2.2.2.2.1 d.2.2.2.2.2.1 d.2.2.2.2.2.2.1 d.2.2.2.2.2.2.2.1 d.2.2.2.2.2.2.2.2.1 d.2.2.2.2.2.2.2.2.2.1 d.2.2.2.2.2.2.2.2.2.2.1 d.2.2.2.2.2.2.2.2.2.2.2.1 d.2.2.2.2.2.2.2.2.2.2.2.2.1 d.2.2.2.2.2.2.2.2.2.2.2.2.2.1 d.2.2.2.2.2.2.2.2.2.2.2.2.2.2.1 d.2.2.2.2.2.2.2.2.2.2.2.2.2.2.2.1 d.2.2.2.2.2.2.2.2.2.2.2.2.2.2.2.2.1 d.2.2.2.2.2.2.2.2.2.2.2.2.2.2.2.2.2.1 d.2.2.2.2.2.2.2.2.2.2.2.2.2.2.2.2.2.2.1 d.2.2.2.2.2.2.2.2.2.2.2.2.2.2.2.2.2.2.2.1 d.2.2.2.2.2.2.2.2.2.2.2.2.2.2.2.2.2.2.2.2.1 d.2.2.2.2.2.2.2.2.2.2.2.2.2.2.2.2.2.2.2.2.2.1 d.2.2.2.2.2.2.2.2.2.2.2.2.2.2.2.2.2.2.2.2.2.2.1 d.2.2.2.2.2.2.2.2.2.2.2.2.2.2.2.2.2.2.2.2.2.2.2.1 d.2.2.2.2.2.2.2.2.2.2.2.2.2.2.2.2.2.2.2.2.2.2.2.2.1 d.2.2.2.2.2.2.2.2.2.2.2.2.2.2.2.2.2.2.2.2.2.2.2.2.2.1 d.2.2.2.2.2.2.2.2.2.2.2.2.2.2.2.2.2.2.2.2.2.2.2.2.2.2.1 d.2.2.2.2.2.2.2.2.2.2.2.2.2.2.2.2.2.2.2.2.2.2.2.2.2.2.2.1 d.2.2.2.2.2.2.2.2.2.2.2.2.2.2.2.2.2.2.2.2.2.2.2.2.2.2.2.2.1 d.2.2.2.2.2.2.2.2.2.2.2.2.2.2.2.2.2.2.2.2.2.2.2.2.2.2.2.2.2.1 d.2.2.2.2.2.2.2.2.2.2.2.2.2.2.2.2.2.2.2.2.2.2.2.2.2.2.2.2.2.2.1 d.2.2.2.2.2.2.2.2.2.2.2.2.2.2.2.2.2.2.2.2.2.2.2.2.2.2.2.2.2.2.2.1 d.2.2.2.2.2.2.2.2.2.2.2.2.2.2.2.2.2.2.2.2.2.2.2.2.2.2.2.2.2.2.2.2.1 d.2.2.2.2.2.2.2.2.2.2.2.2.2.2.2.2.2.2.2.2.2.2.2.2.2.2.2.2.2.2.2.2.2.1 d.2.2.2.2.2.2.2.2.2.2.2.2.2.2.2.2.2.2.2.2.2.2.2.2.2.2.2.2.2.2.2.2.2.2.1) d.1 d.2.1 d.2.2.1 d.2.2.2.1 d.2.2.2.2.1 d.2.2.2.2.2.1 d.2.2.2.2.2.2.1 d.2.2.2.2.2.2.2.1 d.2.2.2.2.2.2.2.2.1 d.2.2.2.2.2.2.2.2.2.1 d.2.2.2.2.2.2.2.2.2.2.1 d.2.2.2.2.2.2.2.2.2.2.2.1 d.2.2.2.2.2.2.2.2.2.2.2.2.1 d.2.2.2.2.2.2.2.2.2.2.2.2.2.1 d.2.2.2.2.2.2.2.2.2.2.2.2.2.2.1 d.2.2.2.2.2.2.2.2.2.2.2.2.2.2.2.1 d.2.2.2.2.2.2.2.2.2.2.2.2.2.2.2.2.1 d.2.2.2.2.2.2.2.2.2.2.2.2.2.2.2.2.2.1 d.2.2.2.2.2.2.2.2.2.2.2.2.2.2.2.2.2.2.1 d.2.2.2.2.2.2.2.2.2.2.2.2.2.2.2.2.2.2.2.1 d.2.2.2.2.2.2.2.2.2.2.2.2.2.2.2.2.2.2.2.2.1 d.2.2.2.2.2.2.2.2.2.2.2.2.2.2.2.2.2.2.2.2.2.1 d.2.2.2.2.2.2.2.2.2.2.2.2.2.2.2.2.2.2.2.2.2.2.1 d.2.2.2.2.2.2.2.2.2.2.2.2.2.2.2.2.2.2.2.2.2.2.2.1 d.2.2.2.2.2.2.2.2.2.2.2.2.2.2.2.2.2.2.2.2.2.2.2.2.1 d.2.2.2.2.2.2.2.2.2.2.2.2.2.2.2.2.2.2.2.2.2.2.2.2.2.1 d.2.2.2.2.2.2.2.2.2.2.2.2.2.2.2.2.2.2.2.2.2.2.2.2.2.2.1 d.2.2.2.2.2.2.2.2.2.2.2.2.2.2.2.2.2.2.2.2.2.2.2.2.2.2.2.1 d.2.2.2.2.2.2.2.2.2.2.2.2.2.2.2.2.2.2.2.2.2.2.2.2.2.2.2.2.1 d.2.2.2.2.2.2.2.2.2.2.2.2.2.2.2.2.2.2.2.2.2.2.2.2.2.2.2.2.2.1 d.2.2.2.2.2.2.2.2.2.2.2.2.2.2.2.2.2.2.2.2.2.2.2.2.2.2.2.2.2.2.1 d.2.2.2.2.2.2.2.2.2.2.2.2.2.2.2.2.2.2.2.2.2.2.2.2.2.2.2.2.2.2.2.1 d.2.2.2.2.2.2.2.2.2.2.2.2.2.2.2.2.2.2.2.2.2.2.2.2.2.2.2.2.2.2.2.2.1 d.2.2.2.2.2.2.2.2.2.2.2.2.2.2.2.2.2.2.2.2.2.2.2.2.2.2.2.2.2.2.2.2.2.1 d.2.2.2.2.2.2.2.2.2.2.2.2.2.2.2.2.2.2.2.2.2.2.2.2.2.2.2.2.2.2.2.2.2.2.1) (val.1.1,0,a0.1,a0.2.1,a0.2.2.1,a0.2.2.2.1.1,a0.2.2.2.1.2.1,a0.2.2.2.1.2.2.1,a0.2.2.2.1.2.2.2.1,a0.2.2.2.2.1,a0.2.2.2.2.2.1,a0.2.2.2.2.2.2.1.1,0,0,0,0,0,0,0,0,0,0,a0.1,a0.2.1,a0.2.2.1,a0.2.2.2.1.1,a0.2.2.2.1.2.1,a0.2.2.2.1.2.2.1,a0.2.2.2.1.2.2.2.1,a0.2.2.2.2.1,a0.2.2.2.2.2.1,[],[],[],(Eg a0.2.2.2.2.2.2.1 a1).1)).bind fun val=>some ((0,val.2.2.2.2.2.2.2.2.2.2.1,val.2.2.2.2.2.2.2.2.2.2.2.1,val.2.2.2.2.2.2.2.2.2.2.2.2.1,val.2.2.2.2.2.2.2.2.2.2.2.2.2.1,val.2.2.2.2.2.2.2.2.2.2.2.2.2.2.1,val.2.2.2.2.2.2.2.2.2.2.2.2.2.2.2.1,val.2.2.2.2.2.2.2.2.2.2.2.2.2.2.2.2.1,val.2.2.2.2.2.2.2.2.2.2.2.2.2.2.2.2.2.1,val.2.2.2.2.2.2.2.2.2.2.2.2.2.2.2.2.2.2.1,val.2.2.2.2.2.2.2.2.2.2.2.2.2.2.2.2.2.2.2.2.2.2.1,val.2.2.2.2.2.2.2.2.2.2.2.2.2.2.2.2.2.2.2.1,()),())
theorem Arw (p0 p1 p2 p3 p4 p5 p6 p7 p8 q0 q1 q2 q3 q4 q5 q6 q7 q8:Int) (p9 r6:List Bw) (L:List Ab) (hL:L.length≤4001) (hH:0≤p4∧p4≤1) (hU:0≤q7∧q7≤99) (hV:0≤q8∧q8≤99):
  B7 (Gp L 0 p0 p1 p2 p3 p4 p5 p6 p7 p8 p9 0 0 0 0 0 0 0 0 0 0 q0 q1 q2 q3 q4 q5 q6 q7 q8 [] [] [] r6) L 0 p0 p1 p2 p3 p4 p5 p6 p7 p8 p9 0 0 0 0 0 0 0 0 0 0 q0 q1 q2 q3 q4 q5 q6 q7 q8 [] [] [] r6=some (0,0,0,0,0,0,0,0,0,0,q0,q1,q2,q3,q4,q5,q6,q7 + nI L.length,q8 + nI L.length,(Gf (Br p4 p1 + q7) L),[],[],r6,()):=by
 have hm:=Anb (n:=p1) hH
 have e0:A5 p1 p4=Br p4 p1:=by
  show IntKind.i64.wrap (2 + IntKind.i64.wrap (p4 * An p1))=2 + p4 * An p1
  rw [Al (n:=p4 * An p1) (by omega) (by omega),Al (by omega) (by omega)]
 have hB:0≤Br p4 p1∧Br p4 p1≤101:=by unfold Br; omega
 have hL:=Jl (xs:=L) z0 (fun i (r:List D5)=>i≤4001∧r.length=i) (fun (i:Nat) x r=>r++[Ajd (Br p4 p1 + q7 + (i:Int)) x]) (g:=fun m (i:Int) r=>B7 m L i p0 p1 p2 p3 p4 p5 p6 p7 p8 p9 0 0 0 0 0 0 0 0 0 0 q0 q1 q2 q3 q4 q5 q6 (q7 + i) (q8 + i) r [] [] r6) (ok:=fun r=>(0,0,0,0,0,0,0,0,0,0,q0,q1,q2,q3,q4,q5,q6,q7 + nI L.length,q8 + nI L.length,r,[],[],r6,())) (fun m i r hi hI=>by
   show B7 (m + 1) L i p0 p1 p2 p3 p4 p5 p6 p7 p8 p9 0 0 0 0 0 0 0 0 0 0 q0 q1 q2 q3 q4 q5 q6 (q7 + (i:Int)) (q8 + (i:Int)) r [] [] r6=B7 m L ((i + 1:Nat):Int) p0 p1 p2 p3 p4 p5 p6 p7 p8 p9 0 0 0 0 0 0 0 0 0 0 q0 q1 q2 q3 q4 q5 q6 (q7 + ((i + 1:Nat):Int)) (q8 + ((i + 1:Nat):Int)) _ [] [] r6
   simp only [B7,I4]
   obtain ⟨h1,h2⟩:=hI
   rw [cLt hi,Mv,wI (show i < 4611686018427387904 by omega),Jh,e0,Al (n:=Br p4 p1 + (q7 + (i:Int))) (by omega) (by omega),Al (n:=q7 + (i:Int) + 1) (by omega) (by omega),Al (n:=q8 + (i:Int) + 1) (by omega) (by omega),D9,Ag (show (r.length + 1) * 32≤140737488355328 by omega),
    show q7 + (i:Int) + 1=q7 + ((i + 1:Nat):Int) by omega,show q8 + (i:Int) + 1=q8 + ((i + 1:Nat):Int) by omega,show Br p4 p1 + (q7 + (i:Int))=Br p4 p1 + q7 + (i:Int) by omega]
   rfl) (fun i r hi hI=>⟨by omega,by rw [Fg,D9,hI.2]⟩) (fun m r hI=>by
   show B7 (m + 1) L (L.length:Int) p0 p1 p2 p3 p4 p5 p6 p7 p8 p9 0 0 0 0 0 0 0 0 0 0 q0 q1 q2 q3 q4 q5 q6 (q7 + (L.length:Int)) (q8 + (L.length:Int)) r [] [] r6=_
   simp only [B7,I4]
   rw [W3]
   rfl) (Gp L 0 p0 p1 p2 p3 p4 p5 p6 p7 p8 p9 0 0 0 0 0 0 0 0 0 0 q0 q1 q2 q3 q4 q5 q6 q7 q8 [] [] [] r6) 0 [] (by omega) (by simp [Gp,nI]) ⟨by omega,rfl⟩
 rw [Ati,List.drop_zero,List.nil_append,show Br p4 p1 + q7 + ((0:Nat):Int)=Br p4 p1 + q7 by omega] at hL
 simp only [show q7 + ((0:Nat):Int)=q7 by omega,show q8 + ((0:Nat):Int)=q8 by omega] at hL
 exact hL
theorem Ap8 (a0:Lp) (a1:List Bp):Uf a0 a1=some (((Ar a0 a1).1,(Ar a0 a1).2.1.1,(Ar a0 a1).2.1.2.1,(Ar a0 a1).2.1.2.2.1,(Ar a0 a1).2.1.2.2.2.1.1,(Ar a0 a1).2.1.2.2.2.1.2.1,(Ar a0 a1).2.1.2.2.2.1.2.2.1,(Ar a0 a1).2.1.2.2.2.1.2.2.2.1,(Ar a0 a1).2.1.2.2.2.2.1,(Ar a0 a1).2.1.2.2.2.2.2.1,(Ar a0 a1).2.1.2.2.2.2.2.2.1.1,(Ar a0 a1).2.2.1,()),(())):=by
 unfold Uf Ar Gg
 simp only [Au,C1,Eg,Kk]
 show (bif !A4 a0 then _ else bif !Bf a1 then _ else _)=_
 cases hv:A4 a0 with
 | false=>rfl
 | true=>
  cases hb:Bf a1 with
  | false=>rfl
  | true=>
   simp only [Bool.not_true,cond_false]
   obtain ⟨_,_,h3,_,_,h6,_,h8,h9,_⟩:=Ab1 hv
   obtain ⟨r1,r2⟩:=Cq h6
   have r1:=Ec r1
   have r2:=Ec r2
   have hh:=S0 a0.2.1
   show (bif (Ed a0.2.2.2.2.2.2.1 a1).2 != 0 then _ else _)=_
   rcases Azf h3 hb with hc | hc
   ·rw [hc]
    show (bif decide (Lv (Ed a0.2.2.2.2.2.2.1 a1).1 a0.1 > IntKind.i64.wrap (An a0.2.1 - 1)) then _ else _)=(_:Option _)
    rw [w5]
    show _=some (((bif decide (Lv (Ed a0.2.2.2.2.2.2.1 a1).1 a0.1 > An a0.2.1 - 1) then m5 3 else _:Td).1,_),_)
    cases hr:decide (Lv (Ed a0.2.2.2.2.2.2.1 a1).1 a0.1 > An a0.2.1 - 1) with
    | true=>simp only [cond_true,bne_self_eq_false,cond_false]; rfl
    | false=>
     simp only [cond_false,bne_self_eq_false]
     have hl:=Ana a1 a0.2.2.1 (a0.2.2.2.1.2.2.1 + a0.2.2.2.2.1) a0.1
     have e1:Ny (Fi a1) a0.2.2.1 (a0.2.2.2.1.2.2.1 + a0.2.2.2.2.1) a0.1=some (G7 a0 a1):=if_pos (Nat.le_trans (Np _) (by decide))
     rw [Al (n:=a0.2.2.2.1.2.2.1 + a0.2.2.2.2.1) (by omega) (by omega),e1]
     simp only [Option.bind_some]
     have hw:IntKind.i64.wrap (An a0.2.1 - a0.2.2.2.2.1)=An a0.2.1 - a0.2.2.2.2.1:=Al (by omega) (by omega)
     simp only [hw]
     cases hq:decide (nI (G7 a0 a1).length > An a0.2.1 - a0.2.2.2.2.1) with
     | true=>rfl
     | false=>
      simp only [cond_false]
      have hl:(G7 a0 a1).length≤4001:=hl
      refine Aev (Arw a0.1 a0.2.1 a0.2.2.1 a0.2.2.2.1.1 a0.2.2.2.1.2.1 a0.2.2.2.1.2.2.1 a0.2.2.2.1.2.2.2.1 a0.2.2.2.2.1 a0.2.2.2.2.2.1 a0.1 a0.2.1 a0.2.2.1 a0.2.2.2.1.1 a0.2.2.2.1.2.1 a0.2.2.2.1.2.2.1 a0.2.2.2.1.2.2.2.1 a0.2.2.2.2.1 a0.2.2.2.2.2.1 a0.2.2.2.2.2.2.1.1 (Ed a0.2.2.2.2.2.2.1 a1).1.1 (G7 a0 a1) hl r1 ⟨by omega,by omega⟩ ⟨by omega,by omega⟩) ?_
      rfl
   ·rw [hc]
    rfl
def Wa {R:Type} (k:Kt R):=(Mh (J7 17) (.exit 0) 2 k)
def Adk {R:Type}:Lt R J7:=(Gc (pat:=J7) 17 (fun d k=>(Ahj d).bind (Wa k)) Ky)
theorem Aat:A1 Try.prog Aas:=Bc ⟨Nx,Nv,Adc,Lz,Z0,Alb,Lg,W8,Ud,trivial⟩
theorem Ahk {R:Type}:A7 Try.prog R 101 0 J7 Adk V9:=
 Cu (cfg:=⟨Aas,0,101,J7⟩) 17 [] (fun NX X d=>(u4 (u4 (u4 (u4 (u4 (u4 (u4 (u4 (Ac (Ac (Ac Ah))))))))))) (I4  NX X) d) (fun m d=>(u4 (u4 (u4 (u4 (u4 (u4 (u4 (u4 (Ac (Ac (Ac Ah))))))))))) (B7 m) d) (fun d=>(u4 (u4 (u4 (u4 (u4 (u4 (u4 (u4 (Ac (Ac (Ac Ah))))))))))) Gp d) Wa Aat trivial (fun f NX d=>by simp only [u4,Ac,Ah]; unfold I4; simp only [nb])
theorem Aau:Cp Try.prog 96 Ue:=
 Bd (pat:=J7) [V9] Adk Aat ⟨Ahk,trivial⟩ Try.func96 (de:=fun x=>Uf x.1 x.2.1) (fun x r h=>(Ap8 x.1 x.2.1).trans h) fun _=>by kernel_rfl
def Gv (r:Rt) (w:Int):Ab:=Xp r w
def Aj0:Ji:=⟨[.rd yRt,.rd tI],[some 4,none],[.rd .str],[none]⟩
def Qh:SD:=⟨Aj0,fun x=>some (((Gv x.1 x.2.1),()),(()))⟩
def Qi (a0:Rt) (a1:Int):Option ((((Ab)×Unit)×(Unit))):=
 bif decide (a0.2.1 < 0) then some ((Ae,()),()) else bif decide (a0.2.1 > 1) then some ((Ae,()),()) else bif decide (a0.2.2.1 < 1) then some ((Ae,()),()) else bif decide (a0.2.2.1 > 999999000) then some ((Ae,()),()) else ((Bi a0.2.1 1).bind fun val=>some ((val,()),())).bind fun val=>((Bi a0.2.2.1 4).bind fun val=>some ((val,()),())).bind fun val_1=>bif decide (ByteArray.size val.1.1 + ByteArray.size val_1.1.1≤9223372036854775807) then some ((Cc (4,a0.2.2.2.1,a0.1,val.1.1++val_1.1.1,()) a1,()),()) else none
theorem Aj1 (a0:Rt) (a1:Int):Qi a0 a1=some (((Gv a0 a1),()),(())):=by
 unfold Qi Gv Xp Tg
 rw [Ao1 a0.2.1,Ao1 a0.2.2.1]
 cases h1:Di a0.2.1 0 1 with
 | false=>rfl
 | true=>
  cases h2:Di a0.2.2.1 1 999999000 with
  | false=>rfl
  | true=>
   have q1:=Ec h1
   have q2:=Ec h2
   have n1:Bi a0.2.1 1=some (P8 a0.2.1 1):=(Ft _ _).trans (if_pos (by omega))
   have n2:Bi a0.2.2.1 4=some (P8 a0.2.2.1 4):=(Ft _ _).trans (if_pos (by omega))
   simp only [n1,n2,Option.bind_some,cond_true]
   rw [M1,M1,Ag (show 1 + 4≤9223372036854775807 by decide)]
   rfl
theorem Yq:Cp Try.prog 25 Qh:=
 Bd (pat:=Ge) [] Ky (Bc (l:=[(56,Hi),(57,Qe)]) ⟨J6,Yn,trivial⟩) trivial Try.func25 (de:=fun x=>Qi x.1 x.2.1) (fun x r h=>(Aj1 x.1 x.2.1).trans h) fun _=>by kernel_rfl
def F2 (s:Ab):Option Int:=if s.size≤7 then some (Ai8 s) else none
def J8 (v0:Ab) (v3 v4:Int):Nat:=(nI v0.size - v4).toNat + 1
def Ap9:Ji:=⟨[.rd .str],[none],[.rd tI],[none]⟩
def Ug:SD:=⟨Ap9,fun x=>(F2 x.1).bind fun r=>some ((r,()),(()))⟩
def Aav:Tb:=tb []
def J9:Nat→Du×(Nat→Du):=Ix [(4,⟨[],[(0,.lf (.d .str)),(3,.lf (.d tI)),(4,.lf (.d tI))],[]⟩,[(2,⟨[],[(3,.lf (.d tI))],[]⟩)])]
def Yr:Code:=(Av (Bl Try.f85)).getD 0 .skip
def Ka {R:Type}  (NX:((Ab)×(Int)×(Int)×Unit)→Option R) (X2:((Int)×Unit)→Option R) (v0:Ab) (v3:Int) (v4:Int):Option R:=
 bif decide (v4 < nI v0.size) then bif decide (0≤v4) then bif decide (v4 < nI v0.size) then NX (v0,IntKind.i64.wrap (IntKind.i64.wrap (v3 * 256) + IntKind.i64.wrap (At v0 v4)),IntKind.i64.wrap (v4 + 1),()) else none else none else X2 (v3,())
def Fu:Nat→(Ab)→(Int)→(Int) →  Option ((Int)×Unit)
 | 0,_,_,_=>none
 | m + 1,v0,v3,v4=>Ka  (fun d=>Fu m d.1 d.2.1 d.2.2.1) (fun d=>some (d)) v0 v3 v4
def Aj2 (d:(Ab)×(Int)×(Int)×Unit):Option ((Int)×Unit):=(Ac (Ac (Ac Ah))) (Fu ((Ac (Ac (Ac Ah))) J8 d)) d
def Uh (a0:Ab):Option ((((Int)×Unit)×(Unit))):=
 ((fun d=>Fu (J8 d.1 d.2.1 d.2.2.1) d.1 d.2.1 d.2.2.1) (a0,0,0,())).bind fun val=>some (val,())
theorem Alc (s:Ab) (hs:s.size≤7):∀ (k m i:Nat) (v:Int),i + k=s.size→k < m→0≤v→v < 256 ^ i→Fu m s v i=some (A0l s k i v,())
 | 0,m + 1,i,v,hi,hm,h0,h1=>by
  simp only [Fu,Ka]
  rw [Bh (show ¬ ((i:Int) < nI s.size) by simp only [nI]; omega)]
  rfl
 | k + 1,m + 1,i,v,hi,hm,h0,h1=>by
  obtain ⟨hb,hs',e⟩:=A4m s i hi (by omega) h0 h1
  simp only [Fu,Ka]
  have c1:(i:Int) < nI s.size:=by simp only [nI]; omega
  rw [Ag c1,Ag (show (0:Int)≤(i:Int) by omega),wI (show i < 4611686018427387904 by omega),e]
  exact Alc s hs k m (i + 1) _ (by omega) (by omega) hb hs'
theorem Aqa (a0:Ab) r (h:F2 a0=some r):Uh a0=some ((r,()),(())):=by
 unfold F2 at h
 split at h
 ·rename_i hc
  cases h
  unfold Uh
  have hL:=Alc a0 hc a0.size (J8 a0 0 0) 0 0 (by omega) (by simp only [J8,nI]; omega) (by omega) (by decide)
  exact bi_ hL rfl
 ·cases h
def Ys {R:Type} (k:Kt R):=(Mh (J9 4) (.exit 0) 2 k)
def Adl {R:Type}:Lt R J9:=(Gc (pat:=J9) 4 (fun d k=>(Aj2 d).bind (Ys k)) Ky)
theorem Aaw:A1 Try.prog Aav:=Bc trivial
theorem Aj3 {R:Type}:A7 Try.prog R 19 0 J9 Adl Yr:=
 Cu (cfg:=⟨Aav,0,19,J9⟩) 4 [] (fun NX X d=>(Ac (Ac (Ac Ah))) (Ka  NX X) d) (fun m d=>(Ac (Ac (Ac Ah))) (Fu m) d) (fun d=>(Ac (Ac (Ac Ah))) J8 d) Ys Aaw trivial (fun f NX d=>by simp only [u4,Ac,Ah]; unfold Ka; simp only [nb])
theorem Aax:Cp Try.prog 85 Ug:=
 Bd (pat:=J9) [Yr] Adl Aaw ⟨Aj3,trivial⟩ Try.func85 (de:=fun x=>Uh x.1) (fun x r h=>Ie (Aqa x.1) h) fun _=>by kernel_rfl
def Ai (s:Ab) (w:Int):Pg×Bool:=Ch s w
def Aj4:Ji:=⟨[.rd .str,.rd tI],[none,none],[.rd yPg,.rd .bool],[some 4,none]⟩
def Mo:SD:=⟨Aj4,fun x=>some (((Ai x.1 x.2.1).1,(Ai x.1 x.2.1).2,()),(()))⟩
def Qj (a0:Ab) (a1:Int):Option (((Pg×(Bool)×Unit)×(Unit))):=
 (Bz a1).bind fun val=>bif !val.1.1 then some (((0,0,0,Ae,()),false,()),()) else bif nI a0.size != 64 then some (((0,0,0,Ae,()),false,()),()) else bif decide (0≤a1) then bif decide (a1≤nI a0.size) then bif decide (7 < nI (Af a0 a1 (nI a0.size)).size) then bif decide (IntKind.i64.wrap (At (Af a0 a1 (nI a0.size)) 7) > IntKind.i64.wrap (IntKind.i64.wrap (64 - a1) - 8)) then some (((0,0,0,Ae,()),false,()),()) else bif decide (0 < nI (Af a0 a1 (nI a0.size)).size) then bif decide (3≤nI (Af a0 a1 (nI a0.size)).size) then ((F2 (Af (Af a0 a1 (nI a0.size)) 1 3)).bind fun val=>some ((val,()),())).bind fun val=>bif decide (7≤nI (Af a0 a1 (nI a0.size)).size) then ((F2 (Af (Af a0 a1 (nI a0.size)) 3 7)).bind fun val=>some ((val,()),())).bind fun val_1=>bif decide (8≤IntKind.i64.wrap (8 + IntKind.i64.wrap (At (Af a0 a1 (nI a0.size)) 7))) then bif decide (IntKind.i64.wrap (8 + IntKind.i64.wrap (At (Af a0 a1 (nI a0.size)) 7))≤nI (Af a0 a1 (nI a0.size)).size) then bif !(Cc (IntKind.i64.wrap (At (Af a0 a1 (nI a0.size)) 0),val.1.1,val_1.1.1,Af (Af a0 a1 (nI a0.size)) 8 (IntKind.i64.wrap (8 + IntKind.i64.wrap (At (Af a0 a1 (nI a0.size)) 7))),()) a1).toList==a0.toList then some (((0,0,0,Ae,()),false,()),()) else some (((IntKind.i64.wrap (At (Af a0 a1 (nI a0.size)) 0),val.1.1,val_1.1.1,Af (Af a0 a1 (nI a0.size)) 8 (IntKind.i64.wrap (8 + IntKind.i64.wrap (At (Af a0 a1 (nI a0.size)) 7))),()),true,()),()) else none else none else none else none else none else none else none else none
theorem Aj5 (a0:Ab) (a1:Int):Qj a0 a1=some (((Ai a0 a1).1,(Ai a0 a1).2,()),(())):=by
 unfold Qj Ai Ch
 refine bi_ (wid a1) ?_
 show (bif !Di a1 1 8 then _ else (bif nI a0.size != 64 then _ else _))=_
 cases hz:nI a0.size != 64 with
 | true=>cases Di a1 1 8<;>rfl
 | false=>
   cases hw:Di a1 1 8 with
   | false=>rfl
   | true=>
    have k1:=(Ec hw).1
    have k2:=(Ec hw).2
    have hs:a0.size=64:=by
     by_cases q:nI a0.size=64
     ·simp only [nI] at q; omega
     ·rw [(bne_iff_ne).2 q] at hz; cases hz
    have hb:(Af a0 a1 (nI a0.size)).size=(64 - a1).toNat:=by rw [C9 (by omega) (by simp only [nI]; omega) (by simp [nI])]; simp only [nI,hs]; omega
    simp only [Bool.not_true,cond_false,cond_true]
    rw [Ag (show (0:Int)≤a1 by omega),Ag (show a1≤nI a0.size by simp only [nI]; omega)]
    unfold A17
    generalize Af a0 a1 (nI a0.size)=b at *
    obtain ⟨b0,b1⟩:=N5 b 7
    obtain ⟨c0,c1⟩:=N5 b 0
    have hB:nI b.size=64 - a1:=by simp only [nI]; omega
    rw [hB,Ag (show (7:Int) < 64 - a1 by omega),Ag (show (0:Int) < 64 - a1 by omega),Ag (show (3:Int)≤64 - a1 by omega),Ag (show (7:Int)≤64 - a1 by omega),Al (n:=At b 7) (by omega) (by omega),Al (n:=At b 0) (by omega) (by omega),Al (n:=64 - a1) (by omega) (by omega),Al (n:=64 - a1 - 8) (by omega) (by omega),Al (n:=8 + At b 7) (by omega) (by omega),show 64 - a1 - 8=56 - a1 by omega]
    by_cases q:At b 7 > 56 - a1
    ·rw [Ag q]; rfl
    ·rw [Bh q]
     have n1:F2 (Af b 1 3)=some (Ai8 (Af b 1 3)):=if_pos (by rw [C9 (by omega) (by omega) (by omega)]; decide)
     have n2:F2 (Af b 3 7)=some (Ai8 (Af b 3 7)):=if_pos (by rw [C9 (by omega) (by omega) (by omega)]; decide)
     simp only [n1,n2,Option.bind_some,cond_true,cond_false]
     rw [Ag (show 8≤8 + At b 7 by omega),Ag (show 8 + At b 7≤64 - a1 by omega)]
     show (bif !(ByteArray.toList (C6 (A4h b) a1)==ByteArray.toList a0) then _ else _)=_
     cases (ByteArray.toList (C6 (A4h b) a1)==ByteArray.toList a0)<;>rfl
theorem Qk:Cp Try.prog 84 Mo:=
 Bd (pat:=Ge) [] Ky (Bc (l:=[(56,Hi),(62,Cx),(85,Ug),(92,O3)]) ⟨J6,Dj,Aax,T5,trivial⟩) trivial Try.func84 (de:=fun x=>Qj x.1 x.2.1) (fun x r h=>(Aj5 x.1 x.2.1).trans h) fun _=>by kernel_rfl
def C2 (s:Ab) (at' w:Int):Rt×Bool:=
 bif (Ch s w).2&&decide ((Ch s w).1.2.2.2.1.size=5) then (Mu (Ch s w).1,((Xp (Mu (Ch s w).1) w).toList==s.toList)&&(Int.tmod (Ch s w).1.2.2.1 2==at')) else ((0,0,0,0,()),false)
def Avf:Ji:=⟨[.rd .str,.rd tI,.rd tI],[none,none,none],[.rd yRt,.rd .bool],[some 4,none]⟩
def Ahl:SD:=⟨Avf,fun x=>some (((C2 x.1 x.2.1 x.2.2.1).1,(C2 x.1 x.2.1 x.2.2.1).2,()),(()))⟩
def Z3 (a0:Ab) (a1 a2:Int):Option (((Rt×(Bool)×Unit)×(Unit))):=
 bif !(Ai a0 a2).2 then some (((0,0,0,0,()),false,()),()) else bif nI (ByteArray.size (Ai a0 a2).1.2.2.2.1) != 5 then some (((0,0,0,0,()),false,()),()) else bif decide (0 < nI (ByteArray.size (Ai a0 a2).1.2.2.2.1)) then bif decide (1≤nI (ByteArray.size (Ai a0 a2).1.2.2.2.1)) then ((F2 (Af (Ai a0 a2).1.2.2.2.1 1 (nI (ByteArray.size (Ai a0 a2).1.2.2.2.1)))).bind fun val=>some ((val,()),())).bind fun val=>bif (Gv ((Ai a0 a2).1.2.2.1,IntKind.i64.wrap (At (Ai a0 a2).1.2.2.2.1 0),val.1.1,(Ai a0 a2).1.2.1,()) a2).toList==a0.toList then some ((((Ai a0 a2).1.2.2.1,IntKind.i64.wrap (At (Ai a0 a2).1.2.2.2.1 0),val.1.1,(Ai a0 a2).1.2.1,()),Int.tmod (Ai a0 a2).1.2.2.1 2==a1,()),()) else some ((((Ai a0 a2).1.2.2.1,IntKind.i64.wrap (At (Ai a0 a2).1.2.2.2.1 0),val.1.1,(Ai a0 a2).1.2.1,()),false,()),()) else none else none
theorem Avg (a0:Ab) (a1 a2:Int):Z3 a0 a1 a2=some (((C2 a0 a1 a2).1,(C2 a0 a1 a2).2,()),(())):=by
 unfold Z3 C2
 have e:Ai a0 a2=Ch a0 a2:=rfl
 rw [e]
 generalize Ch a0 a2=p
 obtain ⟨g,o⟩:=p
 cases o
 ·rfl
 ·by_cases h5:g.2.2.2.1.size=5
  ·have n1:F2 (Af g.2.2.2.1 1 (nI g.2.2.2.1.size))=some (Ai8 (Af g.2.2.2.1 1 (nI g.2.2.2.1.size))):=if_pos (by rw [C9 (by omega) (by simp only [nI]; omega) (by simp [nI])]; simp only [nI]; omega)
   obtain ⟨b0,b1⟩:=N5 g.2.2.2.1 0
   simp only [n1,Option.bind_some,Bool.not_true,cond_false,Bool.true_and]
   rw [bne_eq_false_iff_eq.2 (show nI g.2.2.2.1.size=5 by simp only [nI]; omega),Ag h5,Ag (show 0 < nI g.2.2.2.1.size by simp only [nI]; omega),Ag (show 1≤nI g.2.2.2.1.size by simp only [nI]; omega),Al (n:=At g.2.2.2.1 0) (by omega) (by omega)]
   show (bif (ByteArray.toList (Xp (Mu g) a2)==ByteArray.toList a0) then _ else _)=_
   cases hq:(ByteArray.toList (Xp (Mu g) a2)==ByteArray.toList a0)<;>rfl
  ·simp only [Bool.not_true,cond_false,Bool.true_and]
   rw [bne_iff_ne.2 (show nI g.2.2.2.1.size≠5 by simp only [nI]; omega),Bh h5]
   rfl
theorem Avh:Cp Try.prog 63 Ahl:=
 Bd (pat:=Ge) [] Ky (Bc (l:=[(25,Qh),(84,Mo),(85,Ug)]) ⟨Yq,Qk,Aax,trivial⟩) trivial Try.func63 (de:=fun x=>Z3 x.1 x.2.1 x.2.2.1) (fun x r h=>(Avg x.1 x.2.1 x.2.2.1).trans h) fun _=>by kernel_rfl
def Aj (d:Dk) (w:Int):Rt:=Cv d w
def Nz (v1 v7:Int) (b0_0 b0_1 b0_2 b0_3:Int) (b1_0:List Ab) (b1_1:List Wr) (b2_0 b2_1 b2_2 b2_3:Int):Nat:=3
def Aj6:Ji:=⟨[.rd yDk,.rd tI],[some 2,none],[.rd yRt],[some 4]⟩
def Yt:SD:=⟨Aj6,fun x=>some (((Aj x.1 x.2.1),()),(()))⟩
def Yu:Tb:=tb [(19,Ez),(47,Ho),(48,O0),(62,Cx),(63,Ahl)]
def Hk:Nat→Du×(Nat→Du):=Ix [(7,⟨[.boxSl 5 0 .str,.boxSl 5 1 Cl],[(1,.lf (.d tI)),(4,.lf (.ptr 0 0)),(5,.lf (.ptr 1 0)),(6,.lf (.ptr 2 0)),(7,.lf (.d tI))],[.box 55 [.d tI,.d tI,.d tI,.d tI],.box 41 [.d (.sl .str),.d (.sl Cl)],.box 55 [.d tI,.d tI,.d tI,.d tI]]⟩,[(2,⟨[],[(4,.lf (.ptr 0 0)),(6,.lf (.ptr 1 0))],[.box 55 [.d tI,.d tI,.d tI,.d tI],.box 55 [.d tI,.d tI,.d tI,.d tI]]⟩)])]
def Ui:Code:=(Av (Bl Try.f28)).getD 0 .skip
def Ks {R:Type}  (NX:((Int)×(Int)×(Int)×(Int)×(Int)×(Int)×(List Ab)×(List Wr)×(Int)×(Int)×(Int)×(Int)×Unit)→Option R) (X2:((Int)×(Int)×(Int)×(Int)×(Int)×(Int)×(Int)×(Int)×Unit)→Option R) (v1:Int) (v7:Int) (b0_0:Int) (b0_1:Int) (b0_2:Int) (b0_3:Int) (b1_0:List Ab) (b1_1:List Wr) (b2_0:Int) (b2_1:Int) (b2_2:Int) (b2_3:Int):Option R:=
 bif decide (v7 < 2) then bif decide (0≤v7) then bif decide (v7 < nI b1_0.length) then bif (C2 (b1_0.getD v7.toNat (Ae)) v7 v1).2 then bif decide ((C2 (b1_0.getD v7.toNat (Ae)) v7 v1).1.1 > b2_0) then NX (v1,IntKind.i64.wrap (v7 + 1),b0_0,b0_1,b0_2,b0_3,b1_0,b1_1,(C2 (b1_0.getD v7.toNat (Ae)) v7 v1).1) else NX (v1,IntKind.i64.wrap (v7 + 1),b0_0,b0_1,b0_2,b0_3,b1_0,b1_1,b2_0,b2_1,b2_2,b2_3,()) else NX (v1,IntKind.i64.wrap (v7 + 1),b0_0,b0_1,b0_2,b0_3,b1_0,b1_1,b2_0,b2_1,b2_2,b2_3,()) else none else none else X2 (b0_0,b0_1,b0_2,b0_3,b2_0,b2_1,b2_2,b2_3,())
def En:Nat→(Int)→(Int)→(Int)→(Int)→(Int)→(Int)→(List Ab)→(List Wr)→(Int)→(Int)→(Int)→(Int) →  Option ((Int)×(Int)×(Int)×(Int)×(Int)×(Int)×(Int)×(Int)×Unit)
 | 0,_,_,_,_,_,_,_,_,_,_,_,_=>none
 | m + 1,v1,v7,b0_0,b0_1,b0_2,b0_3,b1_0,b1_1,b2_0,b2_1,b2_2,b2_3=>Ks  (fun d=>En m d.1 d.2.1 d.2.2.1 d.2.2.2.1 d.2.2.2.2.1 d.2.2.2.2.2.1 d.2.2.2.2.2.2.1 d.2.2.2.2.2.2.2.1 d.2.2.2.2.2.2.2.2.1 d.2.2.2.2.2.2.2.2.2.1 d.2.2.2.2.2.2.2.2.2.2.1 d.2.2.2.2.2.2.2.2.2.2.2.1) (fun d=>some (d)) v1 v7 b0_0 b0_1 b0_2 b0_3 b1_0 b1_1 b2_0 b2_1 b2_2 b2_3
def Afg (d:(Int)×(Int)×(Int)×(Int)×(Int)×(Int)×(List Ab)×(List Wr)×(Int)×(Int)×(Int)×(Int)×Unit):Option ((Int)×(Int)×(Int)×(Int)×(Int)×(Int)×(Int)×(Int)×Unit):=(u4 (u4 (u4 Ah))) (En ((u4 (u4 (u4 Ah))) Nz d)) d
def Ql (a0:Dk) (a1:Int):Option (((Rt×Unit)×(Unit))):=
 bif !C0 a0 then some (((0,0,0,0,()),()),()) else (Bz a1).bind fun val=>bif !val.1.1 then some (((0,0,0,0,()),()),()) else ((Cm a0).bind fun val=>some (val,())).bind fun val=>((F0 val.1).bind fun val=>some (val,())).bind fun val=>((fun d=>En (Nz d.1 d.2.1 d.2.2.1 d.2.2.2.1 d.2.2.2.2.1 d.2.2.2.2.2.1 d.2.2.2.2.2.2.1 d.2.2.2.2.2.2.2.1 d.2.2.2.2.2.2.2.2.1 d.2.2.2.2.2.2.2.2.2.1 d.2.2.2.2.2.2.2.2.2.2.1 d.2.2.2.2.2.2.2.2.2.2.2.1) d.1 d.2.1 d.2.2.1 d.2.2.2.1 d.2.2.2.2.1 d.2.2.2.2.2.1 d.2.2.2.2.2.2.1 d.2.2.2.2.2.2.2.1 d.2.2.2.2.2.2.2.2.1 d.2.2.2.2.2.2.2.2.2.1 d.2.2.2.2.2.2.2.2.2.2.1 d.2.2.2.2.2.2.2.2.2.2.2.1) (a1,0,0,0,0,0,val.1.1,val.1.2.1,0,0,1,0,())).bind fun val=>some ((val.2.2.2.2,()),())
theorem A6v (s:Ab) (w:Int) (i:Nat) (b:Rt):(bif (C2 s i w).2 then (bif decide ((C2 s i w).1.1 > b.1) then (C2 s i w).1 else b) else b)=Lu s w i b:=by
 unfold C2 Lu
 have hf:=@Tk s w
 have hr:=@A2d s w
 generalize Ch s w=p at *
 obtain ⟨g,o⟩:=p
 cases o
 ·rfl
 ·obtain ⟨_,_,_,hp⟩:=hf rfl
  obtain ⟨_,_,r3,_⟩:=Agt hp
  by_cases h5:g.2.2.2.1.size=5
  ·have hr:=hr rfl h5
   simp only [Ag h5,Bool.true_and,cond_true,hr]
   rw [Int.tmod_eq_emod_of_nonneg (by omega)]
   have e:(Mu g).1=g.2.2.1:=rfl
   rw [e]
   cases (g.1==4)<;>cases Tg (Mu g)<;>cases (g.2.2.1 % 2==(i:Int))<;>cases decide (g.2.2.1 > b.1)<;>rfl
  ·simp only [Bh h5,Bool.true_and,cond_false,Bool.and_false,Bool.false_and]
theorem Axu (X:List Ab) (P:List Wr) (w:Int) (i:Nat) (hi:i < 2) (hX:2≤X.length) (m:Nat) (x1 x2 x3 x4:Int) (b:Rt):
  En (m + 1) w i x1 x2 x3 x4 X P b.1 b.2.1 b.2.2.1 b.2.2.2.1=En m w ((i + 1:Nat):Int) x1 x2 x3 x4 X P (Lu (X.getD i z0) w i b).1 (Lu (X.getD i z0) w i b).2.1 (Lu (X.getD i z0) w i b).2.2.1 (Lu (X.getD i z0) w i b).2.2.2.1:=by
 simp only [En,Ks]
 rw [Ag (show (i:Int) < 2 by omega),Mv,Ag (show (i:Int) < nI X.length by simp only [nI]; omega),wI (show i < 4611686018427387904 by omega),Jh,← A6v]
 show (bif (C2 (X.getD i z0) i w).2 then (bif decide ((C2 (X.getD i z0) i w).1.1 > b.1) then _ else _) else _)=_
 cases (C2 (X.getD i z0) i w).2
 ·rfl
 ·cases decide ((C2 (X.getD i z0) i w).1.1 > b.1)<;>rfl
theorem Aj7 (a0:Dk) (a1:Int):Ql a0 a1=some (((Aj a0 a1),()),(())):=by
 unfold Ql Aj Cv
 show (bif !As a0 then _ else _)=_
 cases hv:As a0 with
 | false=>rfl
 | true=>
  refine bi_ (wid a1) ?_
  show (bif !Di a1 1 8 then _ else _)=_
  cases hw:Di a1 1 8 with
  | false=>rfl
  | true=>
   obtain ⟨k1,k2,k3,k4,k5⟩:=Ig hv
   have e1:Cm (a0.1,a0.2.1,())=some a0:=if_pos ⟨by show a0.1.length≤_; omega,by show a0.2.1.length≤_; omega⟩
   have e2:F0 (a0.1,a0.2.1,())=some (Mt a0):=if_pos ⟨by show a0.2.1.length≤_; omega,fun i hi=>⟨(k5 i hi).1,(k5 i hi).2.1⟩⟩
   have hlen:(Kz a0.1 a0.2.1).length=a0.1.length:=Iz _ _
   have hg:∀ i:Nat,i < 2→(Kz a0.1 a0.2.1).getD i z0=Ab9 a0 i:=fun i hi=>Aww a0.1 i (by omega) a0.2.1 (fun w hw=>by
    obtain ⟨j,hj,rfl⟩:=u9 zW hw
    exact (k5 j hj).1)
   have h1:=Axu (Kz a0.1 a0.2.1) [] a1 0 (by omega) (by omega) 2 0 0 0 0 (0,0,1,0,())
   have h2:=Axu (Kz a0.1 a0.2.1) [] a1 1 (by omega) (by omega) 1 0 0 0 0 (Lu ((Kz a0.1 a0.2.1).getD 0 z0) a1 (0:Nat) (0,0,1,0,()))
   have h3:=h1.trans h2
   rw [hg 0 (by omega),hg 1 (by omega)] at h3
   simp only [e1,e2,Option.bind_some,Bool.not_true,cond_false]
   exact bi_ h3 rfl
def Uj {R:Type} (k:Kt R):=(Mh (Hk 7) (.exit 0) 2 k)
def f8 {R:Type}:Lt R Hk:=(Gc (pat:=Hk) 7 (fun d k=>(Afg d).bind (Uj k)) Ky)
theorem Yv:A1 Try.prog Yu:=Bc ⟨Gi,Jz,Tu,Dj,Avh,trivial⟩
theorem Afh {R:Type}:A7 Try.prog R 48 0 Hk f8 Ui:=
 Cu (cfg:=⟨Yu,0,48,Hk⟩) 7 [] (fun NX X d=>(u4 (u4 (u4 Ah))) (Ks  NX X) d) (fun m d=>(u4 (u4 (u4 Ah))) (En m) d) (fun d=>(u4 (u4 (u4 Ah))) Nz d) Uj Yv trivial (fun f NX d=>by simp only [u4,Ac,Ah]; unfold Ks; simp only [nb])
theorem Aj8:Cp Try.prog 28 Yt:=
 Bd (pat:=Hk) [Ui] f8 Yv ⟨Afh,trivial⟩ Try.func28 (de:=fun x=>Ql x.1 x.2.1) (fun x r h=>(Aj7 x.1 x.2.1).trans h) fun _=>by kernel_rfl
def M6 (was p:Pg):Bool:=Ac3 was.1 was.2.1 p
def Aqb:Ji:=⟨[.rd yPg,.rd yPg],[some 4,some 4],[.rd .bool],[none]⟩
def Aay:SD:=⟨Aqb,fun x=>some (((M6 x.1 x.2.1),()),(()))⟩
def Uk (a0 a1:Pg):Option ((((Bool)×Unit)×(Unit))):=
 bif decide (a1.2.1 < a0.2.1) then some ((false,()),()) else bif a1.1==3 then some ((a0.1 != 1,()),()) else bif a1.1==1 then bif a0.1 != 1 then some ((true,()),()) else some ((a0.2.1==a1.2.1,()),()) else bif a1.1==2 then bif a0.1 != 1 then some ((true,()),()) else some ((a0.2.1==a1.2.1,()),()) else some ((false,()),())
theorem Aqc (a0 a1:Pg):Uk a0 a1=some (((M6 a0 a1),()),(())):=by
 unfold Uk M6 Ac3
 cases decide (a1.2.1 < a0.2.1)<;>cases (a1.1==3)<;>cases (a1.1==1)<;>cases (a1.1==2)<;>cases (a0.1 != 1)<;>rfl
theorem Aqd:Cp Try.prog 128 Aay:=
 Bd (pat:=Ge) [] Ky (Bc (l:=[]) trivial) trivial Try.func128 (de:=fun x=>Uk x.1 x.2.1) (fun x r h=>(Aqc x.1 x.2.1).trans h) fun _=>by kernel_rfl
def Ca (d:Dk) (from_ size first life w:Int):Scd:=Tn d from_ size first life w
def Avi:Ji:=⟨[.rd yDk,.rd tI,.rd tI,.rd tI,.rd tI,.rd tI],[some 2,none,none,none,none,none],[.own 9 .str,.rd tI,.rd tI],[some 3]⟩
def Ahm:SD:=⟨Avi,fun x=>some (((Ca x.1 x.2.1 x.2.2.1 x.2.2.2.1 x.2.2.2.2.1 x.2.2.2.2.2.1).1,(Ca x.1 x.2.1 x.2.2.1 x.2.2.2.1 x.2.2.2.2.1 x.2.2.2.2.2.1).2.1,(Ca x.1 x.2.1 x.2.2.1 x.2.2.2.1 x.2.2.2.2.1 x.2.2.2.2.2.1).2.2.1,()),(()))⟩
def Ahn:Tb:=tb [(19,Ez),(47,Ho),(48,O0),(62,Cx),(84,Mo),(128,Aay)]
def Ku:Nat→Du×(Nat→Du):=Ix [(9,⟨[.boxRow 12 0 9 .str,.boxSl 13 0 .str,.boxSl 13 1 Cl,.boxRow 14 0 9 .str],[(1,.lf (.d tI)),(2,.lf (.d tI)),(3,.lf (.d tI)),(5,.lf (.d tI)),(12,.lf (.ptr 0 0)),(13,.lf (.ptr 1 0)),(14,.lf (.ptr 2 0)),(15,.lf (.ptr 3 0)),(16,.lf (.d .str)),(17,.lf (.d tI))],[.box 170 [.row 4,.d tI,.d tI],.box 41 [.d (.sl .str),.d (.sl Cl)],.box 170 [.row 5,.d tI,.d tI],.box 93 [.d tI,.d tI,.d tI,.d .str],.row 9 .str,.row 9 .str]⟩,[(2,⟨[.boxRow 12 0 9 .str,.boxRow 14 0 9 .str],[(12,.lf (.ptr 0 0)),(14,.lf (.ptr 1 0))],[.box 170 [.row 2,.d tI,.d tI],.box 170 [.row 3,.d tI,.d tI],.row 9 .str,.row 9 .str]⟩),(1,⟨[.boxRow 12 0 9 .str],[(12,.lf (.ptr 0 0))],[.box 170 [.row 1,.d tI,.d tI],.row 9 .str]⟩)])]
def Aaz:Code:=(Av (Bl Try.f125)).getD 0 .skip
def Hz (v1 v2:Int) (v3 v5:Int) (v16:Ab) (v17 b0_1 b0_2:Int) (b1_0:List Ab) (b1_1:List Wr) (b2_1 b2_2:Int) (b3_0 b3_1 b3_2:Int) (b3_3:Ab) (r4 r5:List Ab):Nat:=(v2 - v17).toNat + 1
def L4 {R:Type}  (NX:((Int)×(Int)×(Int)×(Int)×(Ab)×(Int)×(Int)×(Int)×(List Ab)×(List Wr)×(Int)×(Int)×(Int)×(Int)×(Int)×(Ab)×(List Ab)×(List Ab)×Unit)→Option R) (X2:((Int)×(Int)×(Int)×(Int)×(List Ab)×(List Ab)×Unit)→Option R) (X1:((Int)×(Int)×(List Ab)×Unit)→Option R) (v1:Int) (v2:Int) (v3:Int) (v5:Int) (v16:Ab) (v17:Int) (b0_1:Int) (b0_2:Int) (b1_0:List Ab) (b1_1:List Wr) (b2_1:Int) (b2_2:Int) (b3_0:Int) (b3_1:Int) (b3_2:Int) (b3_3:Ab) (r4:List Ab) (r5:List Ab):Option R:=
 bif decide (v17 < v2) then bif decide (0≤IntKind.i64.wrap (v1 + v17)) then bif decide (IntKind.i64.wrap (v1 + v17) < nI b1_0.length) then bif !(Ai (b1_0.getD (IntKind.i64.wrap (v1 + v17)).toNat (Ae)) v5).2 then X1 (b2_1,b2_2,r5,()) else bif IntKind.i64.wrap ((Ai (b1_0.getD (IntKind.i64.wrap (v1 + v17)).toNat (Ae)) v5).1.2.2.1 - v17) != v3 then X1 (b2_1,b2_2,r5,()) else bif !M6 (b3_0,b3_1,b3_2,b3_3,()) (Ai (b1_0.getD (IntKind.i64.wrap (v1 + v17)).toNat (Ae)) v5).1 then X1 (b2_1,b2_2,r5,()) else bif decide (v16.size + ByteArray.size (Ai (b1_0.getD (IntKind.i64.wrap (v1 + v17)).toNat (Ae)) v5).1.2.2.2.1≤9223372036854775807) then bif (Ai (b1_0.getD (IntKind.i64.wrap (v1 + v17)).toNat (Ae)) v5).1.1==1 then NX (v1,v2,v3,v5,v16++(Ai (b1_0.getD (IntKind.i64.wrap (v1 + v17)).toNat (Ae)) v5).1.2.2.2.1,IntKind.i64.wrap (v17 + 1),b0_1,b0_2,b1_0,b1_1,b2_1,b2_2,(Ai (b1_0.getD (IntKind.i64.wrap (v1 + v17)).toNat (Ae)) v5).1.1,(Ai (b1_0.getD (IntKind.i64.wrap (v1 + v17)).toNat (Ae)) v5).1.2.1,(Ai (b1_0.getD (IntKind.i64.wrap (v1 + v17)).toNat (Ae)) v5).1.2.2.1,(Ai (b1_0.getD (IntKind.i64.wrap (v1 + v17)).toNat (Ae)) v5).1.2.2.2.1,r4,r5,()) else bif (Ai (b1_0.getD (IntKind.i64.wrap (v1 + v17)).toNat (Ae)) v5).1.1==2 then bif decide ((r5.length + [v16++(Ai (b1_0.getD (IntKind.i64.wrap (v1 + v17)).toNat (Ae)) v5).1.2.2.2.1].length) * 16≤140737488355328) then NX (v1,v2,v3,v5,Ae,IntKind.i64.wrap (v17 + 1),b0_1,b0_2,b1_0,b1_1,IntKind.i64.wrap (v17 + 1),(Ai (b1_0.getD (IntKind.i64.wrap (v1 + v17)).toNat (Ae)) v5).1.2.1,(Ai (b1_0.getD (IntKind.i64.wrap (v1 + v17)).toNat (Ae)) v5).1.1,(Ai (b1_0.getD (IntKind.i64.wrap (v1 + v17)).toNat (Ae)) v5).1.2.1,(Ai (b1_0.getD (IntKind.i64.wrap (v1 + v17)).toNat (Ae)) v5).1.2.2.1,(Ai (b1_0.getD (IntKind.i64.wrap (v1 + v17)).toNat (Ae)) v5).1.2.2.2.1,r4,r5++[v16++(Ai (b1_0.getD (IntKind.i64.wrap (v1 + v17)).toNat (Ae)) v5).1.2.2.2.1],()) else none else NX (v1,v2,v3,v5,Ae,IntKind.i64.wrap (v17 + 1),b0_1,b0_2,b1_0,b1_1,IntKind.i64.wrap (v17 + 1),(Ai (b1_0.getD (IntKind.i64.wrap (v1 + v17)).toNat (Ae)) v5).1.2.1,(Ai (b1_0.getD (IntKind.i64.wrap (v1 + v17)).toNat (Ae)) v5).1.1,(Ai (b1_0.getD (IntKind.i64.wrap (v1 + v17)).toNat (Ae)) v5).1.2.1,(Ai (b1_0.getD (IntKind.i64.wrap (v1 + v17)).toNat (Ae)) v5).1.2.2.1,(Ai (b1_0.getD (IntKind.i64.wrap (v1 + v17)).toNat (Ae)) v5).1.2.2.2.1,r4,r5,()) else none else none else none else X2 (b0_1,b0_2,b2_1,b2_2,r4,r5,())
def E2:Nat→(Int)→(Int)→(Int)→(Int)→(Ab)→(Int)→(Int)→(Int)→(List Ab)→(List Wr)→(Int)→(Int)→(Int)→(Int)→(Int)→(Ab)→(List Ab)→(List Ab) →  Option (((Int)×(Int)×(Int)×(Int)×(List Ab)×(List Ab)×Unit) ⊕ ((Int)×(Int)×(List Ab)×Unit))
 | 0,_,_,_,_,_,_,_,_,_,_,_,_,_,_,_,_,_,_=>none
 | m + 1,v1,v2,v3,v5,v16,v17,b0_1,b0_2,b1_0,b1_1,b2_1,b2_2,b3_0,b3_1,b3_2,b3_3,r4,r5=>L4  (fun d=>E2 m d.1 d.2.1 d.2.2.1 d.2.2.2.1 d.2.2.2.2.1 d.2.2.2.2.2.1 d.2.2.2.2.2.2.1 d.2.2.2.2.2.2.2.1 d.2.2.2.2.2.2.2.2.1 d.2.2.2.2.2.2.2.2.2.1 d.2.2.2.2.2.2.2.2.2.2.1 d.2.2.2.2.2.2.2.2.2.2.2.1 d.2.2.2.2.2.2.2.2.2.2.2.2.1 d.2.2.2.2.2.2.2.2.2.2.2.2.2.1 d.2.2.2.2.2.2.2.2.2.2.2.2.2.2.1 d.2.2.2.2.2.2.2.2.2.2.2.2.2.2.2.1 d.2.2.2.2.2.2.2.2.2.2.2.2.2.2.2.2.1 d.2.2.2.2.2.2.2.2.2.2.2.2.2.2.2.2.2.1) (fun d=>some (.inl (d))) (fun d=>some (.inr (d))) v1 v2 v3 v5 v16 v17 b0_1 b0_2 b1_0 b1_1 b2_1 b2_2 b3_0 b3_1 b3_2 b3_3 r4 r5
def Aqe (d:(Int)×(Int)×(Int)×(Int)×(Ab)×(Int)×(Int)×(Int)×(List Ab)×(List Wr)×(Int)×(Int)×(Int)×(Int)×(Int)×(Ab)×(List Ab)×(List Ab)×Unit):Option (((Int)×(Int)×(Int)×(Int)×(List Ab)×(List Ab)×Unit) ⊕ ((Int)×(Int)×(List Ab)×Unit)):=(u4 (u4 (u4 (u4 (Ac (Ac Ah)))))) (E2 ((u4 (u4 (u4 (u4 (Ac (Ac Ah)))))) Hz d)) d
def Z4 (a0:Dk) (a1 a2:Int) (a3 a4 a5:Int):Option ((((List Ab)×(Int)×(Int)×Unit)×(Unit))):=
 bif !C0 a0 then some (([],0,0,()),()) else (Bz a5).bind fun val=>bif !val.1.1 then some (([],0,0,()),()) else bif decide (a1 < 0) then some (([],0,0,()),()) else bif decide (a2 < 0) then some (([],0,0,()),()) else bif decide (a1 > nI (List.length a0.1)) then some (([],0,0,()),()) else bif decide (a2 > IntKind.i64.wrap (nI (List.length a0.1) - a1)) then some (([],0,0,()),()) else ((Cm a0).bind fun val=>some (val,())).bind fun val=>((F0 val.1).bind fun val=>some (val,())).bind fun val=>((fun d=>E2 (Hz d.1 d.2.1 d.2.2.1 d.2.2.2.1 d.2.2.2.2.1 d.2.2.2.2.2.1 d.2.2.2.2.2.2.1 d.2.2.2.2.2.2.2.1 d.2.2.2.2.2.2.2.2.1 d.2.2.2.2.2.2.2.2.2.1 d.2.2.2.2.2.2.2.2.2.2.1 d.2.2.2.2.2.2.2.2.2.2.2.1 d.2.2.2.2.2.2.2.2.2.2.2.2.1 d.2.2.2.2.2.2.2.2.2.2.2.2.2.1 d.2.2.2.2.2.2.2.2.2.2.2.2.2.2.1 d.2.2.2.2.2.2.2.2.2.2.2.2.2.2.2.1 d.2.2.2.2.2.2.2.2.2.2.2.2.2.2.2.2.1 d.2.2.2.2.2.2.2.2.2.2.2.2.2.2.2.2.2.1) d.1 d.2.1 d.2.2.1 d.2.2.2.1 d.2.2.2.2.1 d.2.2.2.2.2.1 d.2.2.2.2.2.2.1 d.2.2.2.2.2.2.2.1 d.2.2.2.2.2.2.2.2.1 d.2.2.2.2.2.2.2.2.2.1 d.2.2.2.2.2.2.2.2.2.2.1 d.2.2.2.2.2.2.2.2.2.2.2.1 d.2.2.2.2.2.2.2.2.2.2.2.2.1 d.2.2.2.2.2.2.2.2.2.2.2.2.2.1 d.2.2.2.2.2.2.2.2.2.2.2.2.2.2.1 d.2.2.2.2.2.2.2.2.2.2.2.2.2.2.2.1 d.2.2.2.2.2.2.2.2.2.2.2.2.2.2.2.2.1 d.2.2.2.2.2.2.2.2.2.2.2.2.2.2.2.2.2.1) (a1,a2,a3,a5,Ae,0,0,0,val.1.1,val.1.2.1,0,a4,0,a4,0,Ae,[],[],())).bind fun val=>Eb (fun d=>some ((d.2.2.2.2.2.1,d.2.2.1,d.2.2.2.1,()),())) (fun d=>some ((d.2.2.1,d.1,d.2.1,()),())) val
def A1b (y:(Int×Int×Int×Int×List Ab×List Ab×Unit) ⊕ (Int×Int×List Ab×Unit)):Scd:=match y with
 | .inl v=>(v.2.2.2.2.2.1,v.2.2.1,v.2.2.2.1,())
 | .inr v=>(v.2.2.1,v.1,v.2.1,())
theorem Ats {d:Dk} (hd:Fq d) (f n:Nat) (hfn:f + n≤d.1.length) (first w b1 b2:Int) (r4:List Ab):∀ (k m i:Nat) (st:ScT) (num:Int) (part:Ab),i + k=n→k < m→Ac4 i st→
  ∃ y,E2 m f n first w st.2.2.1 i b1 b2 (Kz d.1 d.2.1) [] st.2.2.2.2.1 st.2.2.2.2.2 st.1 st.2.1 num part r4 st.2.2.2.1=some y∧A1b y=Db w first (seen d f i k) i st
 | 0,m + 1,i,st,num,part,hi,_,_=>by
  simp only [E2,L4]
  rw [Bh (show ¬ (i:Int) < (n:Int) by omega)]
  exact ⟨_,rfl,rfl⟩
 | k + 1,m + 1,i,st,num,part,hi,hm,hI=>by
  have h200:=hd.n200
  have e1:IntKind.i64.wrap ((f:Int) + (i:Int))=((f + i:Nat):Int):=by rw [Al (by omega) (by omega)]; omega
  have e2:List.getD (Kz d.1 d.2.1) (f + i) (Ae)=Ab9 d ((f:Int) + (i:Int)):=Axc hd (by omega)
  have e3:decide (((f + i:Nat):Int) < nI (Kz d.1 d.2.1).length)=true:=Ag (by rw [Iz]; simp only [nI]; omega)
  have e4:IntKind.i64.wrap ((i:Int) + 1)=((i + 1:Nat):Int):=wI (by omega)
  have es:seen d f i (k + 1)=Ab9 d ((f:Int) + (i:Int))::seen d f (i + 1) k:=rfl
  simp only [E2,L4]
  rw [es,Ag (show (i:Int) < (n:Int) by omega)]
  simp only [e1,e2,e3,e4,Mv,cond_true,Jh,Ai,M6]
  unfold Db Nq
  generalize hx:Ab9 d ((f:Int) + (i:Int))=x
  generalize hR:Ch x w=R
  obtain ⟨p,ok⟩:=R
  cases ok with
  | false=>exact ⟨_,rfl,rfl⟩
  | true=>
   obtain ⟨q1,q2,q3⟩:=Aux hR
   have e5:IntKind.i64.wrap (p.2.2.1 - (i:Int))=p.2.2.1 - (i:Int):=Al (by omega) (by omega)
   simp only [e5,Bool.not_true,cond_false,Bool.true_and,bne]
   cases hn:(p.2.2.1 - (i:Int)==first) with
   | false=>exact ⟨_,rfl,rfl⟩
   | true=>
    simp only [Bool.not_true,cond_false,Bool.true_and]
    have hg:Ac3 st.1 st.2.1 (p.1,p.2.1,p.2.2.1,p.2.2.2.1,())=Ac3 st.1 st.2.1 p:=rfl
    try simp only [hg]
    cases hgo:Ac3 st.1 st.2.1 p with
    | false=>exact ⟨_,rfl,rfl⟩
    | true=>
     have hN:=hI.next (by omega) q3
     have e6:decide (ByteArray.size st.2.2.1 + ByteArray.size p.2.2.2.1≤9223372036854775807)=true:=Ag (by have:=hI.2.1; omega)
     have e7:decide ((List.length st.2.2.2.1 + 1) * 16≤140737488355328)=true:=Ag (by have:=hI.2.2; omega)
     simp only [e6,Bool.not_true,cond_false,cond_true,D9,e7]
     have ih:=fun num part=>Ats hd f n hfn first w b1 b2 r4 k m (i + 1) (I0 i p st) num part (by omega) (by omega) hN
     have ei:(i:Int) + 1=((i + 1:Nat):Int):=by omega
     rw [ei]
     unfold I0 at ih ⊢
     cases h1:(p.1==1) with
     | true=>
      have hp:p.1=1:=eq_of_beq h1
      rw [h1] at ih
      have:=ih p.2.2.1 p.2.2.2.1
      rw [hp]
      exact this
     | false=>
      rw [h1] at ih
      cases h2:(p.1==2) with
      | true=>
       have hp:p.1=2:=eq_of_beq h2
       rw [h2] at ih
       have:=ih p.2.2.1 p.2.2.2.1
       rw [hp]
       simp only [cond_false,cond_true,ei] at this ⊢
       exact this
      | false=>
       rw [h2] at ih
       have:=ih p.2.2.1 p.2.2.2.1
       simp only [cond_false,ei] at this ⊢
       exact this
theorem Avj (a0:Dk) (a1 a2:Int) (a3 a4 a5:Int):Z4 a0 a1 a2 a3 a4 a5=some (((Ca a0 a1 a2 a3 a4 a5).1,(Ca a0 a1 a2 a3 a4 a5).2.1,(Ca a0 a1 a2 a3 a4 a5).2.2.1,()),(())):=by
 unfold Z4 Ca Tn
 show (bif !As a0 then _ else _)=_
 cases hv:As a0 with
 | false=>rfl
 | true=>
  have hd:=Ig hv
  simp only [Bool.not_true,cond_false]
  refine bi_ (wid a5) ?_
  cases hw:Di a5 1 8 with
  | false=>rfl
  | true=>
   simp only [Bool.not_true,cond_false]
   have h200:=hd.n200
   by_cases h1:a1 < 0
   ·rw [Ag h1,Bh (show ¬ 0≤a1 by omega)]; rfl
   ·rw [Bh h1,Ag (show 0≤a1 by omega)]
    by_cases h2:a2 < 0
    ·rw [Ag h2,Bh (show ¬ 0≤a2 by omega)]; rfl
    ·rw [Bh h2,Ag (show 0≤a2 by omega)]
     by_cases h3:a1 > nI a0.1.length
     ·rw [Ag h3,Bh (show ¬ a1≤(a0.1.length:Int) by simp only [nI] at h3; omega)]; rfl
     ·have h3':a1≤(a0.1.length:Int):=by simp only [nI] at h3; omega
      rw [Bh h3,Ag h3']
      rw [Al (n:=nI a0.1.length - a1) (by simp only [nI]; omega) (by simp only [nI]; omega)]
      by_cases h4:a2 > nI a0.1.length - a1
      ·rw [Ag h4,Bh (show ¬ a2≤(a0.1.length:Int) - a1 by simp only [nI] at h4; omega)]; rfl
      ·have h4':a2≤(a0.1.length:Int) - a1:=by simp only [nI] at h4; omega
       rw [Bh h4,Ag h4']
       simp only [cond_false,cond_true,Bool.true_and,Bool.and_self]
       have c1:Cm (a0.1,a0.2.1,())=some (a0.1,a0.2.1,()):=if_pos ⟨Nat.le_trans hd.n200 (by decide),Nat.le_trans hd.p300 (by decide)⟩
       have c2:F0 (a0.1,a0.2.1,())=some (Mt a0):=if_pos ⟨Nat.le_trans hd.p300 (by decide),fun k hk=>⟨(hd.pen k hk).1,(hd.pen k hk).2.1⟩⟩
       rw [c1]
       simp only [Option.bind_some]
       rw [c2]
       simp only [Option.bind_some]
       obtain ⟨f,rfl⟩:∃ f:Nat,a1=(f:Int):=⟨a1.toNat,by omega⟩
       obtain ⟨n,rfl⟩:∃ n:Nat,a2=(n:Int):=⟨a2.toNat,by omega⟩
       have hfu:n < Hz f n a3 a5 (Ae) 0 0 0 (Kz a0.1 a0.2.1) [] 0 a4 0 a4 0 (Ae) [] []:=by simp only [Hz]; omega
       generalize hF:Hz f n a3 a5 (Ae) 0 0 0 (Kz a0.1 a0.2.1) [] 0 a4 0 a4 0 (Ae) [] []=F at hfu
       have hfn:f + n≤a0.1.length:=by omega
       have hst:Ac4 0 (0,a4,z0,[],0,a4):=Ac4.zero _ _ _ _
       obtain ⟨y,hy1,hy2⟩:=Ats hd f n hfn a3 a5 0 0 [] n F 0 (0,a4,z0,[],0,a4) 0 (Ae)
        (Nat.zero_add n)
        hfu
        hst
       show (E2 (Hz f n a3 a5 (Ae) 0 0 0 (Kz a0.1 a0.2.1) [] 0 a4 0 a4 0 (Ae) [] []) f n a3 a5 (Ae) 0 0 0 (Kz a0.1 a0.2.1) [] 0 a4 0 a4 0 (Ae) [] []).bind _=_
       rw [hF]
       have hy1':E2 F f n a3 a5 (Ae) 0 0 0 (Kz a0.1 a0.2.1) [] 0 a4 0 a4 0 (Ae) [] []=some y:=hy1
       rw [hy1',Jh]
       simp only [Option.bind_some]
       have hy3:A1b y=Db a5 a3 (seen a0 (f:Int) 0 n) 0 (0,a4,z0,[],0,a4):=hy2
       rw [← hy3]
       cases y<;>rfl
def Aa0 {R:Type} (k:Kt R):=(Eb (Mh (Ku 9) (.exit 0) 2 k) (Mh (Ku 9) .ret 1 k))
def Ald {R:Type}:Lt R Ku:=(Gc (pat:=Ku) 9 (fun d k=>(Aqe d).bind (Aa0 k)) Ky)
theorem Aho:A1 Try.prog Ahn:=Bc ⟨Gi,Jz,Tu,Dj,Qk,Aqd,trivial⟩
theorem Aqf {R:Type}:A7 Try.prog R 118 0 Ku Ald Aaz:=
 Cu (cfg:=⟨Ahn,0,118,Ku⟩) 9 [] (fun NX X d=>(u4 (u4 (u4 (u4 (Ac (Ac Ah)))))) (L4  NX (fun e=>X (.inl (e))) (fun e=>X (.inr (e)))) d) (fun m d=>(u4 (u4 (u4 (u4 (Ac (Ac Ah)))))) (E2 m) d) (fun d=>(u4 (u4 (u4 (u4 (Ac (Ac Ah)))))) Hz d) Aa0 Aho trivial (fun f NX d=>by simp only [u4,Ac,Ah]; unfold L4; simp only [nb])
theorem Avk:Cp Try.prog 125 Ahm:=
 Bd (pat:=Ku) [Aaz] Ald Aho ⟨Aqf,trivial⟩ Try.func125 (de:=fun x=>Z4 x.1 x.2.1 x.2.2.1 x.2.2.2.1 x.2.2.2.2.1 x.2.2.2.2.2.1) (fun x r h=>(Avj x.1 x.2.1 x.2.2.1 x.2.2.2.1 x.2.2.2.2.1 x.2.2.2.2.2.1).trans h) fun _=>by kernel_rfl
def H0 (s:Ab):Ab×Ab×Bool:=((Bk s).1,bif (Bk s).2.2 then (Bk s).2.1 else ⟨#[]⟩,(Bk s).2.2)
def Alz:Ji:=⟨[.rd .str],[none],[.rd .str,.rd .str,.rd .bool],[none,none,none]⟩
def f9:SD:=⟨Alz,fun x=>some (((H0 x.1).1,(H0 x.1).2.1,(H0 x.1).2.2,()),(()))⟩
def Rl (a0:Ab):Option ((((Ab)×(Ab)×(Bool)×Unit)×(Unit))):=
 bif decide (nI a0.size < 1) then some ((Ae,Ae,false,()),()) else bif decide (0 < nI a0.size) then bif decide (nI a0.size < IntKind.i64.wrap (1 + IntKind.i64.wrap (At a0 0))) then some ((Ae,Ae,false,()),()) else bif decide (0 < nI a0.size) then bif decide (1≤IntKind.i64.wrap (1 + IntKind.i64.wrap (At a0 0))) then bif decide (IntKind.i64.wrap (1 + IntKind.i64.wrap (At a0 0))≤nI a0.size) then bif decide (0≤IntKind.i64.wrap (1 + IntKind.i64.wrap (At a0 0))) then bif decide (IntKind.i64.wrap (1 + IntKind.i64.wrap (At a0 0))≤nI a0.size) then some ((Af a0 1 (IntKind.i64.wrap (1 + IntKind.i64.wrap (At a0 0))),Af a0 (IntKind.i64.wrap (1 + IntKind.i64.wrap (At a0 0))) (nI a0.size),true,()),()) else none else none else none else none else none else none
theorem Al0 (a0:Ab):Rl a0=some (((H0 a0).1,(H0 a0).2.1,(H0 a0).2.2,()),(())):=by
 unfold Rl H0 Bk
 obtain ⟨b0,b1⟩:=N5 a0 0
 have hw:IntKind.i64.wrap (1 + IntKind.i64.wrap (At a0 0))=1 + At a0 0:=by
  rw [Al (n:=At a0 0) (by omega) (by omega),Al (by omega) (by omega)]
 rw [hw]
 by_cases h0:(a0.size:Int) < 1
 ·rw [if_pos (Or.inl h0),Ag (show nI a0.size < 1 from h0)]
  rfl
 ·rw [Bh (show ¬ nI a0.size < 1 from h0),Ag (show 0 < nI a0.size by simp only [nI]; omega)]
  by_cases h1:(a0.size:Int) < 1 + At a0 0
  ·rw [if_pos (Or.inr h1),Ag (show nI a0.size < 1 + At a0 0 from h1)]
   rfl
  ·rw [if_neg (by omega),Bh (show ¬ nI a0.size < 1 + At a0 0 from h1),Ag (show 1≤1 + At a0 0 by omega),Ag (show 0≤1 + At a0 0 by omega),Ag (show 1 + At a0 0≤nI a0.size by simp only [nI]; omega)]
   rfl
theorem Al1:Cp Try.prog 130 f9:=
 Bd (pat:=Ge) [] Ky (Bc (l:=[]) trivial) trivial Try.func130 (de:=fun x=>Rl x.1) (fun x r h=>(Al0 x.1).trans h) fun _=>by kernel_rfl
def Dq (s:Ab):List Bp×Bool:=Aov s
def Mx (v0 v5:Ab) (r0:List Bp):Nat:=22
def Ahp:Ji:=⟨[.rd .str],[none],[.own 69 Gu,.rd .bool],[none,none]⟩
def Wb:SD:=⟨Ahp,fun x=>some (((Dq x.1).1,(Dq x.1).2,()),(()))⟩
def Wc:Tb:=tb [(112,I2),(130,f9)]
def E3:Nat→Du×(Nat→Du):=Ix [(4,⟨[.row 4 0 69 Gu],[(0,.lf (.d .str)),(4,.lf (.row 0)),(5,.lf (.d .str))],[.row 69 Gu]⟩,[(2,⟨[.row 4 0 69 Gu],[(0,.lf (.d .str)),(4,.lf (.row 0))],[.row 69 Gu]⟩),(1,⟨[.row 2 0 69 Gu],[(2,.lf (.row 0)),(3,.lf (.d .bool))],[.row 69 Gu]⟩)])]
def R4:Code:=(Av (Bl Try.f129)).getD 0 .skip
def Js {R:Type}  (NX:((Ab)×(Ab)×(List Bp)×Unit)→Option R) (X2:((Ab)×(List Bp)×Unit)→Option R) (X1:((Bool)×(List Bp)×Unit)→Option R) (v0:Ab) (v5:Ab) (r0:List Bp):Option R:=
 bif decide (nI v5.size > 0) then bif decide (nI r0.length≤20) then bif decide (0 < nI v5.size) then bif decide (1≤nI v5.size) then bif !(Bk (Af v5 1 (nI v5.size))).2.2 then X1 (false,[],()) else bif !At v5 0==1 then bif !(Bk (bif (Bk (Af v5 1 (nI v5.size))).2.2 then (Bk (Af v5 1 (nI v5.size))).2.1 else Ae)).2.2 then X1 (false,[],()) else bif decide ((r0.length + [((Bk (Af v5 1 (nI v5.size))).1,(Bk (bif (Bk (Af v5 1 (nI v5.size))).2.2 then (Bk (Af v5 1 (nI v5.size))).2.1 else Ae)).1,At v5 0==1,())].length) * 40≤140737488355328) then NX (v0,bif (Bk (bif (Bk (Af v5 1 (nI v5.size))).2.2 then (Bk (Af v5 1 (nI v5.size))).2.1 else Ae)).2.2 then (Bk (bif (Bk (Af v5 1 (nI v5.size))).2.2 then (Bk (Af v5 1 (nI v5.size))).2.1 else Ae)).2.1 else Ae,r0++[((Bk (Af v5 1 (nI v5.size))).1,(Bk (bif (Bk (Af v5 1 (nI v5.size))).2.2 then (Bk (Af v5 1 (nI v5.size))).2.1 else Ae)).1,At v5 0==1,())],()) else none else bif decide ((r0.length + [((Bk (Af v5 1 (nI v5.size))).1,Ae,At v5 0==1,())].length) * 40≤140737488355328) then NX (v0,bif (Bk (Af v5 1 (nI v5.size))).2.2 then (Bk (Af v5 1 (nI v5.size))).2.1 else Ae,r0++[((Bk (Af v5 1 (nI v5.size))).1,Ae,At v5 0==1,())],()) else none else none else none else X2 (v0,r0,()) else X2 (v0,r0,())
def Fc:Nat→(Ab)→(Ab)→(List Bp) →  Option (((Ab)×(List Bp)×Unit) ⊕ ((Bool)×(List Bp)×Unit))
 | 0,_,_,_=>none
 | m + 1,v0,v5,r0=>Js  (fun d=>Fc m d.1 d.2.1 d.2.2.1) (fun d=>some (.inl (d))) (fun d=>some (.inr (d))) v0 v5 r0
def Ach (d:(Ab)×(Ab)×(List Bp)×Unit):Option (((Ab)×(List Bp)×Unit) ⊕ ((Bool)×(List Bp)×Unit)):=(Ac (Ac (Ac Ah))) (Fc ((Ac (Ac (Ac Ah))) Mx d)) d
def O6 (a0:Ab):Option ((((List Bp)×(Bool)×Unit)×(Unit))):=
 ((fun d=>Fc (Mx d.1 d.2.1 d.2.2.1) d.1 d.2.1 d.2.2.1) (a0,a0,[],())).bind fun val=>Eb (fun d=>bif nI (ByteArray.size d.1)==0 then some (([],false,()),()) else bif !(C1 d.2.1).toList==ByteArray.toList d.1 then some (([],false,()),()) else some ((d.2.1,true,()),())) (fun d=>some ((d.2.1,d.1,()),())) val
def A9y (s0:Ab) (o:Option (List Bp×Ab)):(Ab×List Bp×Unit) ⊕ (Bool×List Bp×Unit):=match o with
 | some (b,t)=>.inl (s0,b,())
 | none=>.inr (false,[],())
theorem Aqg (s0:Ab):∀ (f m:Nat) (r:List Bp) (s:Ab),r.length + f=22→f≤m→1≤f→Fc m s0 s r=some (A9y s0 (Rb false f r s))
 | 0,_,_,_,_,_,h=>by omega
 | f + 1,0,_,_,_,h,_=>by omega
 | f + 1,m + 1,r,s,hf,hm,_=>by
  simp only [Fc,Js,Rb]
  by_cases hs:s.size > 0
  ·rw [Ag (show nI s.size > 0 by simp only [nI]; omega),Ag hs]
   by_cases hr:r.length≤20
   ·rw [Ag (show nI r.length≤20 by simp only [nI]; omega),Ag hr,Ag (show 1≤nI s.size by simp only [nI]; omega)]
    unfold Aou
    generalize Bk (Af s 1 (nI s.size))=p
    simp only [D9,Bool.false_and,cond_true,Bool.and_self,cond_false]
    rw [Ag (show (r.length + 1) * 40≤140737488355328 by omega)]
    obtain ⟨k,t,o⟩:=p
    cases o
    ·rfl
    ·by_cases h2:At s 0=1
     ·rw [h2]
      exact Aqg s0 f m (r++[(k,Ae,true,())]) t (by rw [Fg,D9]; omega) (by omega) (by omega)
     ·have h3:(At s 0==1)=false:=beq_eq_false_iff_ne.2 h2
      rw [h3]
      simp only [Bool.not_true,Bool.not_false,cond_false,cond_true]
      generalize Bk t=q
      obtain ⟨v,u,o⟩:=q
      cases o
      ·rfl
      ·exact Aqg s0 f m (r++[(k,v,false,())]) u (by rw [Fg,D9]; omega) (by omega) (by omega)
   ·rw [Bh (show ¬ nI r.length≤20 by simp only [nI]; omega),Bh hr]
    rfl
  ·rw [Bh (show ¬ nI s.size > 0 by simp only [nI]; omega),Bh hs]
   rfl
theorem Ahq (a0:Ab):O6 a0=some (((Dq a0).1,(Dq a0).2,()),(())):=by
 unfold O6 Dq Aov
 have hL:=Aqg a0 22 22 [] a0 rfl (Nat.le_refl _) (by omega)
 refine bi_ hL ?_
 cases Rb false 22 [] a0 with
 | none=>rfl
 | some bt=>
  obtain ⟨b,t⟩:=bt
  show (bif nI a0.size==0 then _ else (bif !(ByteArray.toList (Fi b)==ByteArray.toList a0) then _ else _))=_
  have e:(nI a0.size==0)=(a0.size==0):=by
   by_cases q:a0.size=0
   ·rw [q]; rfl
   ·rw [beq_eq_false_iff_ne.2 q,beq_eq_false_iff_ne.2 (show nI a0.size≠0 by simp only [nI]; omega)]
  rw [e]
  simp only
  cases (a0.size==0)<;>cases (ByteArray.toList (Fi b)==ByteArray.toList a0)<;>rfl
def R5 {R:Type} (k:Kt R):=(Eb (Mh (E3 4) (.exit 0) 2 k) (Mh (E3 4) .ret 1 k))
def Yw {R:Type}:Lt R E3:=(Gc (pat:=E3) 4 (fun d k=>(Ach d).bind (R5 k)) Ky)
theorem Wd:A1 Try.prog Wc:=Bc ⟨Lg,Al1,trivial⟩
theorem Aci {R:Type}:A7 Try.prog R 70 0 E3 Yw R4:=
 Cu (cfg:=⟨Wc,0,70,E3⟩) 4 [] (fun NX X d=>(Ac (Ac (Ac Ah))) (Js  NX (fun e=>X (.inl (e))) (fun e=>X (.inr (e)))) d) (fun m d=>(Ac (Ac (Ac Ah))) (Fc m) d) (fun d=>(Ac (Ac (Ac Ah))) Mx d) R5 Wd trivial (fun f NX d=>by simp only [u4,Ac,Ah]; unfold Js; simp only [nb])
theorem Ahr:Cp Try.prog 129 Wb:=
 Bd (pat:=E3) [R4] Yw Wd ⟨Aci,trivial⟩ Try.func129 (de:=fun x=>O6 x.1) (fun x r h=>(Ahq x.1).trans h) fun _=>by kernel_rfl
def M7 (es:List Ab):Option (Ki×Bool):=if es.length≤1073741824 then some (A01 es) else none
def Aqh:Ji:=⟨[.rd (.sl .str)],[none],[.own 67 B2,.rd .bool],[some 1,none]⟩
def Aa1:SD:=⟨Aqh,fun x=>(M7 x.1).bind fun r=>some ((r.1.1,r.2,()),(()))⟩
def Aa2:Tb:=tb [(108,W6),(129,Wb)]
def H1:Nat→Du×(Nat→Du):=Ix [(4,⟨[.sl 0 0 .str,.boxRow 2 0 67 B2,.boxRow 4 0 67 B2],[(0,.lf (.d (.sl .str))),(2,.lf (.ptr 0 0)),(4,.lf (.ptr 1 0)),(5,.lf (.d tI))],[.box 30 [.row 2],.box 30 [.row 3],.row 67 B2,.row 67 B2]⟩,[(2,⟨[.boxRow 2 0 67 B2,.boxRow 4 0 67 B2],[(2,.lf (.ptr 0 0)),(4,.lf (.ptr 1 0))],[.box 30 [.row 2],.box 30 [.row 3],.row 67 B2,.row 67 B2]⟩),(1,⟨[.boxRow 2 0 67 B2],[(2,.lf (.ptr 0 0)),(3,.lf (.d .bool))],[.box 30 [.row 1],.row 67 B2]⟩)])]
def Yx:Code:=(Av (Bl Try.f126)).getD 0 .skip
def Kb (v0:List Ab) (v5:Int) (r2 r3:List Bw):Nat:=((v0.length:Int) - v5).toNat + 1
def Kc {R:Type}  (NX:((List Ab)×(Int)×(List Bw)×(List Bw)×Unit)→Option R) (X2:((List Bw)×(List Bw)×Unit)→Option R) (X1:((Bool)×(List Bw)×Unit)→Option R) (v0:List Ab) (v5:Int) (r2:List Bw) (r3:List Bw):Option R:=
 bif decide (v5 < nI v0.length) then bif decide (0≤v5) then bif decide (v5 < nI v0.length) then bif !(Dq (v0.getD v5.toNat (Ae))).2 then X1 (false,[],()) else bif (Eg (r3,()) (Dq (v0.getD v5.toNat (Ae))).1).2 != 0 then X1 (false,[],()) else NX (v0,IntKind.i64.wrap (v5 + 1),r2,(Eg (r3,()) (Dq (v0.getD v5.toNat (Ae))).1).1) else none else none else X2 (r2,r3,())
def Dr:Nat→(List Ab)→(Int)→(List Bw)→(List Bw) →  Option (((List Bw)×(List Bw)×Unit) ⊕ ((Bool)×(List Bw)×Unit))
 | 0,_,_,_,_=>none
 | m + 1,v0,v5,r2,r3=>Kc  (fun d=>Dr m d.1 d.2.1 d.2.2.1 d.2.2.2.1) (fun d=>some (.inl (d))) (fun d=>some (.inr (d))) v0 v5 r2 r3
def Aj9 (d:(List Ab)×(Int)×(List Bw)×(List Bw)×Unit):Option (((List Bw)×(List Bw)×Unit) ⊕ ((Bool)×(List Bw)×Unit)):=(u4 Ah) (Dr ((u4 Ah) Kb d)) d
def Ul (a0:List Ab):Option ((((List Bw)×(Bool)×Unit)×(Unit))):=
 ((fun d=>Dr (Kb d.1 d.2.1 d.2.2.1 d.2.2.2.1) d.1 d.2.1 d.2.2.1 d.2.2.2.1) (a0,0,[],[],())).bind fun val=>Eb (fun d=>some ((d.2.1,true,()),())) (fun d=>some ((d.2.1,d.1,()),())) val
theorem Aqi (a0:List Ab) r (h:M7 a0=some r):Ul a0=some ((r.1.1,r.2,()),(())):=by
 unfold M7 at h
 split at h
 rotate_left
 ·cases h
 rename_i hlen
 cases h
 unfold Ul A01
 have hL:=Ato (xs:=a0) (g:=fun m i r=>Dr m a0 i [] r) (ok:=fun r=>.inl ([],r,())) (bad:=.inr (false,[],())) (fun m i r hi=>by
   show Dr (m + 1) a0 i [] r=_
   simp only [Dr,Kc]
   rw [cLt hi,Mv,wI (show i < 4611686018427387904 by omega),Jh]
   simp only [cond_true,Dq,Eg,A2b]
   rfl) (fun m r=>by
   show Dr (m + 1) a0 (a0.length:Int) [] r=_
   simp only [Dr,Kc]
   rw [W3]
   rfl) (Kb a0 0 [] []) 0 [] (by omega) (by simp [Kb,nI])
 rw [List.drop_zero] at hL
 refine Aev hL ?_
 show Eb _ _ (match Mw a0 zSs with | some st=>_ | none=>_)=_
 cases Mw a0 zSs<;>rfl
def Yy {R:Type} (k:Kt R):=(Eb (Mh (H1 4) (.exit 0) 2 k) (Mh (H1 4) .ret 1 k))
def Adm {R:Type}:Lt R H1:=(Gc (pat:=H1) 4 (fun d k=>(Aj9 d).bind (Yy k)) Ky)
theorem Aa3:A1 Try.prog Aa2:=Bc ⟨Adc,Ahr,trivial⟩
theorem Aka {R:Type}:A7 Try.prog R 39 0 H1 Adm Yx:=
 Cu (cfg:=⟨Aa2,0,39,H1⟩) 4 [] (fun NX X d=>(u4 Ah) (Kc  NX (fun e=>X (.inl (e))) (fun e=>X (.inr (e)))) d) (fun m d=>(u4 Ah) (Dr m) d) (fun d=>(u4 Ah) Kb d) Yy Aa3 trivial (fun f NX d=>by simp only [u4,Ac,Ah]; unfold Kc; simp only [nb])
theorem Aqj:Cp Try.prog 126 Aa1:=
 Bd (pat:=H1) [Yx] Adm Aa3 ⟨Aka,trivial⟩ Try.func126 (de:=fun x=>Ul x.1) (fun x r h=>Ie (Aqi x.1) h) fun _=>by kernel_rfl
def Jn (s:Lp):Option Td:=if Auz s then some (Vt s) else none
def Aqk:Ji:=⟨[.rd Aos],[some 10],[.rd tI,.rd tI,.rd tI,.rd tI,.rd tI,.rd tI,.rd tI,.rd tI,.rd tI,.rd tI,.own 67 B2,.own 49 Fz],[some 12]⟩
def Um:SD:=⟨Aqk,fun x=>(Jn x.1).bind fun r=>some ((r.1,r.2.1.1,r.2.1.2.1,r.2.1.2.2.1,r.2.1.2.2.2.1.1,r.2.1.2.2.2.1.2.1,r.2.1.2.2.2.1.2.2.1,r.2.1.2.2.2.1.2.2.2.1,r.2.1.2.2.2.2.1,r.2.1.2.2.2.2.2.1,r.2.1.2.2.2.2.2.2.1.1,r.2.2.1,()),(()))⟩
def Un:Tb:=tb [(7,Qb),(25,Qh),(56,Hi),(93,Lx),(109,J5),(111,Aap),(112,I2),(113,Qt),(114,O5)]
def Ee:Nat→Du×(Nat→Du):=Ix [(11,⟨[.row 6 0 49 Fz,.sl 7 0 (.sl Gu),.boxSl 1 9 B2,.boxRow 2 10 67 B2,.boxRow 2 11 49 Fz],[(1,.lf (.ptr 0 0)),(2,.lf (.ptr 1 0)),(4,.lf (.ptr 2 0)),(5,.lf (.d tI)),(6,.lf (.row 3)),(7,.lf (.d (.sl (.sl Gu)))),(8,.lf (.d tI)),(9,.lf (.d tI))],[.box 95 [.d Aos],.box 141 [.d tI,.d tI,.d tI,.d tI,.d tI,.d tI,.d tI,.d tI,.d tI,.d tI,.row 4,.row 5],.box 55 [.d yRt],.row 49 Fz,.row 67 B2,.row 49 Fz]⟩,[(2,⟨[.row 6 0 49 Fz,.boxSl 1 9 B2,.boxRow 2 10 67 B2,.boxRow 2 11 49 Fz],[(1,.lf (.ptr 0 0)),(2,.lf (.ptr 1 0)),(4,.lf (.ptr 2 0)),(6,.lf (.row 3)),(8,.lf (.d tI))],[.box 95 [.d Aos],.box 141 [.d tI,.d tI,.d tI,.d tI,.d tI,.d tI,.d tI,.d tI,.d tI,.d tI,.row 4,.row 5],.box 55 [.d yRt],.row 49 Fz,.row 67 B2,.row 49 Fz]⟩)]),(15,⟨[.row 6 0 49 Fz,.sl 7 0 (.sl Gu),.sl 10 0 .str,.boxSl 1 9 B2,.boxRow 2 10 67 B2,.boxRow 2 11 49 Fz],[(1,.lf (.ptr 0 0)),(2,.lf (.ptr 1 0)),(4,.lf (.ptr 2 0)),(5,.lf (.d tI)),(6,.lf (.row 3)),(7,.lf (.d (.sl (.sl Gu)))),(8,.lf (.d tI)),(9,.lf (.d tI)),(10,.lf (.d (.sl .str))),(11,.lf (.d tI))],[.box 95 [.d Aos],.box 141 [.d tI,.d tI,.d tI,.d tI,.d tI,.d tI,.d tI,.d tI,.d tI,.d tI,.row 4,.row 5],.box 55 [.d yRt],.row 49 Fz,.row 67 B2,.row 49 Fz]⟩,[(4,⟨[.row 6 0 49 Fz,.sl 7 0 (.sl Gu),.boxSl 1 9 B2,.boxRow 2 10 67 B2,.boxRow 2 11 49 Fz],[(1,.lf (.ptr 0 0)),(2,.lf (.ptr 1 0)),(4,.lf (.ptr 2 0)),(5,.lf (.d tI)),(6,.lf (.row 3)),(7,.lf (.d (.sl (.sl Gu)))),(8,.lf (.d tI)),(9,.lf (.d tI))],[.box 95 [.d Aos],.box 141 [.d tI,.d tI,.d tI,.d tI,.d tI,.d tI,.d tI,.d tI,.d tI,.d tI,.row 4,.row 5],.box 55 [.d yRt],.row 49 Fz,.row 67 B2,.row 49 Fz]⟩)])]
def O7:Code:=(Av (Bl Try.f127)).getD 0 .skip
def We:Code:=(Av O7).getD 0 .skip
def I5 (v5:Int) (v7:List (List Bp)) (v8 v9:Int) (v10:List Ab) (v11:Int) (b0:Lp) (b1_0 b1_1:Int) (b1_2 b1_3:Int) (b1_4 b1_5:Int) (b1_6 b1_7:Int) (b1_8 b1_9:Int) (b2:Rt) (r3:List D5) (r4:List Bw) (r5:List D5):Nat:=((v10.length:Int) - v11).toNat + 1
def I6 {R:Type}  (NX:((Int)×(List (List Bp))×(Int)×(Int)×(List Ab)×(Int)×Lp×(Int)×(Int)×(Int)×(Int)×(Int)×(Int)×(Int)×(Int)×(Int)×(Int)×Rt×(List D5)×(List Bw)×(List D5)×Unit)→Option R) (X4:((Int)×(List (List Bp))×(Int)×(Int)×Lp×(Int)×(Int)×(Int)×(Int)×(Int)×(Int)×(Int)×(Int)×(Int)×(Int)×Rt×(List D5)×(List Bw)×(List D5)×Unit)→Option R) (v5:Int) (v7:List (List Bp)) (v8:Int) (v9:Int) (v10:List Ab) (v11:Int) (b0:Lp) (b1_0:Int) (b1_1:Int) (b1_2:Int) (b1_3:Int) (b1_4:Int) (b1_5:Int) (b1_6:Int) (b1_7:Int) (b1_8:Int) (b1_9:Int) (b2:Rt) (r3:List D5) (r4:List Bw) (r5:List D5):Option R:=
 bif decide (v11 < nI v10.length) then bif decide (0≤v11) then bif decide (v11 < nI v10.length) then bif decide ((r3.length + [(false,IntKind.i64.wrap (v5 + v8),v10.getD v11.toNat (Ae),())].length) * 32≤140737488355328) then NX (v5,v7,IntKind.i64.wrap (v8 + 1),v9,v10,IntKind.i64.wrap (v11 + 1),b0,b1_0,b1_1,b1_2,b1_3,b1_4,b1_5,b1_6,b1_7,b1_8,b1_9,b2,r3++[(false,IntKind.i64.wrap (v5 + v8),v10.getD v11.toNat (Ae),())],r4,r5,()) else none else none else none else X4 (v5,v7,v8,v9,b0,b1_0,b1_1,b1_2,b1_3,b1_4,b1_5,b1_6,b1_7,b1_8,b1_9,b2,r3,r4,r5,())
def C4:Nat→(Int)→(List (List Bp))→(Int)→(Int)→(List Ab)→(Int)→Lp→(Int)→(Int)→(Int)→(Int)→(Int)→(Int)→(Int)→(Int)→(Int)→(Int)→Rt→(List D5)→(List Bw)→(List D5) →  Option ((Int)×(List (List Bp))×(Int)×(Int)×Lp×(Int)×(Int)×(Int)×(Int)×(Int)×(Int)×(Int)×(Int)×(Int)×(Int)×Rt×(List D5)×(List Bw)×(List D5)×Unit)
 | 0,_,_,_,_,_,_,_,_,_,_,_,_,_,_,_,_,_,_,_,_,_=>none
 | m + 1,v5,v7,v8,v9,v10,v11,b0,b1_0,b1_1,b1_2,b1_3,b1_4,b1_5,b1_6,b1_7,b1_8,b1_9,b2,r3,r4,r5=>I6  (fun d=>C4 m d.1 d.2.1 d.2.2.1 d.2.2.2.1 d.2.2.2.2.1 d.2.2.2.2.2.1 d.2.2.2.2.2.2.1 d.2.2.2.2.2.2.2.1 d.2.2.2.2.2.2.2.2.1 d.2.2.2.2.2.2.2.2.2.1 d.2.2.2.2.2.2.2.2.2.2.1 d.2.2.2.2.2.2.2.2.2.2.2.1 d.2.2.2.2.2.2.2.2.2.2.2.2.1 d.2.2.2.2.2.2.2.2.2.2.2.2.2.1 d.2.2.2.2.2.2.2.2.2.2.2.2.2.2.1 d.2.2.2.2.2.2.2.2.2.2.2.2.2.2.2.1 d.2.2.2.2.2.2.2.2.2.2.2.2.2.2.2.2.1 d.2.2.2.2.2.2.2.2.2.2.2.2.2.2.2.2.2.1 d.2.2.2.2.2.2.2.2.2.2.2.2.2.2.2.2.2.2.1 d.2.2.2.2.2.2.2.2.2.2.2.2.2.2.2.2.2.2.2.1 d.2.2.2.2.2.2.2.2.2.2.2.2.2.2.2.2.2.2.2.2.1) (fun d=>some (d)) v5 v7 v8 v9 v10 v11 b0 b1_0 b1_1 b1_2 b1_3 b1_4 b1_5 b1_6 b1_7 b1_8 b1_9 b2 r3 r4 r5
def I7 (d:(Int)×(List (List Bp))×(Int)×(Int)×(List Ab)×(Int)×Lp×(Int)×(Int)×(Int)×(Int)×(Int)×(Int)×(Int)×(Int)×(Int)×(Int)×Rt×(List D5)×(List Bw)×(List D5)×Unit):Option ((Int)×(List (List Bp))×(Int)×(Int)×Lp×(Int)×(Int)×(Int)×(Int)×(Int)×(Int)×(Int)×(Int)×(Int)×(Int)×Rt×(List D5)×(List Bw)×(List D5)×Unit):=(u4 (u4 (u4 (u4 (u4 (Ac Ah)))))) (C4 ((u4 (u4 (u4 (u4 (u4 (Ac Ah)))))) I5 d)) d
def Gq (v5:Int) (v7:List (List Bp)) (v8 v9:Int) (b0:Lp) (b1_0 b1_1:Int) (b1_2 b1_3:Int) (b1_4 b1_5:Int) (b1_6 b1_7:Int) (b1_8 b1_9:Int) (b2:Rt) (r3:List D5) (r4:List Bw) (r5:List D5):Nat:=((v7.length:Int) - v9).toNat + 1
def I8 {R:Type} (LO15:((Int)×(List (List Bp))×(Int)×(Int)×(List Ab)×(Int)×Lp×(Int)×(Int)×(Int)×(Int)×(Int)×(Int)×(Int)×(Int)×(Int)×(Int)×Rt×(List D5)×(List Bw)×(List D5)×Unit)→Option ((Int)×(List (List Bp))×(Int)×(Int)×Lp×(Int)×(Int)×(Int)×(Int)×(Int)×(Int)×(Int)×(Int)×(Int)×(Int)×Rt×(List D5)×(List Bw)×(List D5)×Unit)) (NX:((Int)×(List (List Bp))×(Int)×(Int)×Lp×(Int)×(Int)×(Int)×(Int)×(Int)×(Int)×(Int)×(Int)×(Int)×(Int)×Rt×(List D5)×(List Bw)×(List D5)×Unit)→Option R) (X2:((Int)×Lp×(Int)×(Int)×(Int)×(Int)×(Int)×(Int)×(Int)×(Int)×(Int)×(Int)×Rt×(List D5)×(List Bw)×(List D5)×Unit)→Option R) (v5:Int) (v7:List (List Bp)) (v8 v9:Int) (b0:Lp) (b1_0 b1_1:Int) (b1_2 b1_3:Int) (b1_4 b1_5:Int) (b1_6 b1_7:Int) (b1_8 b1_9:Int) (b2:Rt) (r3:List D5) (r4:List Bw) (r5:List D5):Option R:=
 bif decide (v9 < nI v7.length) then bif decide (0≤v9) then bif decide (v9 < nI v7.length) then ((Ny (C1 (v7.getD v9.toNat [])) b0.2.2.1 (IntKind.i64.wrap (b2.2.2.1 + v8)) b0.1).bind fun val=>some ((val,()),())).bind fun val=>(LO15 (v5,v7,v8,v9,val.1.1,0,b0,b1_0,b1_1,b1_2,b1_3,b1_4,b1_5,b1_6,b1_7,b1_8,b1_9,b2,r3,r4,r5,())).bind fun val=>NX (val.1,val.2.1,val.2.2.1,IntKind.i64.wrap (val.2.2.2.1 + 1),val.2.2.2.2) else none else none else X2 (v8,b0,b1_0,b1_1,b1_2,b1_3,b1_4,b1_5,b1_6,b1_7,b1_8,b1_9,b2,r3,r4,r5,())
def Cn:Nat→(Int)→(List (List Bp))→(Int)→(Int)→Lp→(Int)→(Int)→(Int)→(Int)→(Int)→(Int)→(Int)→(Int)→(Int)→(Int)→Rt→(List D5)→(List Bw)→(List D5) →  Option ((Int)×Lp×(Int)×(Int)×(Int)×(Int)×(Int)×(Int)×(Int)×(Int)×(Int)×(Int)×Rt×(List D5)×(List Bw)×(List D5)×Unit)
 | 0,_,_,_,_,_,_,_,_,_,_,_,_,_,_,_,_,_,_,_=>none
 | m + 1,v5,v7,v8,v9,b0,b1_0,b1_1,b1_2,b1_3,b1_4,b1_5,b1_6,b1_7,b1_8,b1_9,b2,r3,r4,r5=>I8 I7 (fun d=>Cn m d.1 d.2.1 d.2.2.1 d.2.2.2.1 d.2.2.2.2.1 d.2.2.2.2.2.1 d.2.2.2.2.2.2.1 d.2.2.2.2.2.2.2.1 d.2.2.2.2.2.2.2.2.1 d.2.2.2.2.2.2.2.2.2.1 d.2.2.2.2.2.2.2.2.2.2.1 d.2.2.2.2.2.2.2.2.2.2.2.1 d.2.2.2.2.2.2.2.2.2.2.2.2.1 d.2.2.2.2.2.2.2.2.2.2.2.2.2.1 d.2.2.2.2.2.2.2.2.2.2.2.2.2.2.1 d.2.2.2.2.2.2.2.2.2.2.2.2.2.2.2.1 d.2.2.2.2.2.2.2.2.2.2.2.2.2.2.2.2.1 d.2.2.2.2.2.2.2.2.2.2.2.2.2.2.2.2.2.1 d.2.2.2.2.2.2.2.2.2.2.2.2.2.2.2.2.2.2.1) (fun d=>some (d)) v5 v7 v8 v9 b0 b1_0 b1_1 b1_2 b1_3 b1_4 b1_5 b1_6 b1_7 b1_8 b1_9 b2 r3 r4 r5
def Ahs (d:(Int)×(List (List Bp))×(Int)×(Int)×Lp×(Int)×(Int)×(Int)×(Int)×(Int)×(Int)×(Int)×(Int)×(Int)×(Int)×Rt×(List D5)×(List Bw)×(List D5)×Unit):Option ((Int)×Lp×(Int)×(Int)×(Int)×(Int)×(Int)×(Int)×(Int)×(Int)×(Int)×(Int)×Rt×(List D5)×(List Bw)×(List D5)×Unit):=(u4 (u4 (u4 (u4 (Ac (Ac (Ac Ah))))))) (Cn ((u4 (u4 (u4 (u4 (Ac (Ac (Ac Ah))))))) Gq d)) d
def Uo (a0:Lp):Option ((((Int)×(Int)×(Int)×(Int)×(Int)×(Int)×(Int)×(Int)×(Int)×(Int)×(List Bw)×(List D5)×Unit)×(Unit))):=
 bif decide (IntKind.i64.wrap (a0.2.2.2.1.1 + 1) > 1000000000) then some ((4,0,0,0,0,0,0,0,0,0,[],[],()),()) else bif decide (IntKind.i64.wrap (a0.2.2.2.1.2.2.1 + Au a0.2.1) > 999999000) then some ((4,0,0,0,0,0,0,0,0,0,[],[],()),()) else ((fun d=>Cn (Gq d.1 d.2.1 d.2.2.1 d.2.2.2.1 d.2.2.2.2.1 d.2.2.2.2.2.1 d.2.2.2.2.2.2.1 d.2.2.2.2.2.2.2.1 d.2.2.2.2.2.2.2.2.1 d.2.2.2.2.2.2.2.2.2.1 d.2.2.2.2.2.2.2.2.2.2.1 d.2.2.2.2.2.2.2.2.2.2.2.1 d.2.2.2.2.2.2.2.2.2.2.2.2.1 d.2.2.2.2.2.2.2.2.2.2.2.2.2.1 d.2.2.2.2.2.2.2.2.2.2.2.2.2.2.1 d.2.2.2.2.2.2.2.2.2.2.2.2.2.2.2.1 d.2.2.2.2.2.2.2.2.2.2.2.2.2.2.2.2.1 d.2.2.2.2.2.2.2.2.2.2.2.2.2.2.2.2.2.1 d.2.2.2.2.2.2.2.2.2.2.2.2.2.2.2.2.2.2.1) d.1 d.2.1 d.2.2.1 d.2.2.2.1 d.2.2.2.2.1 d.2.2.2.2.2.1 d.2.2.2.2.2.2.1 d.2.2.2.2.2.2.2.1 d.2.2.2.2.2.2.2.2.1 d.2.2.2.2.2.2.2.2.2.1 d.2.2.2.2.2.2.2.2.2.2.1 d.2.2.2.2.2.2.2.2.2.2.2.1 d.2.2.2.2.2.2.2.2.2.2.2.2.1 d.2.2.2.2.2.2.2.2.2.2.2.2.2.1 d.2.2.2.2.2.2.2.2.2.2.2.2.2.2.1 d.2.2.2.2.2.2.2.2.2.2.2.2.2.2.2.1 d.2.2.2.2.2.2.2.2.2.2.2.2.2.2.2.2.1 d.2.2.2.2.2.2.2.2.2.2.2.2.2.2.2.2.2.1 d.2.2.2.2.2.2.2.2.2.2.2.2.2.2.2.2.2.2.1) (A5 a0.2.1 (IntKind.i64.wrap (1 - a0.2.2.2.1.2.1)),Ip a0.2.2.2.2.2.2.1,1,0,a0,0,0,0,0,0,0,0,0,0,0,(IntKind.i64.wrap (a0.2.2.2.1.1 + 1),IntKind.i64.wrap (1 - a0.2.2.2.1.2.1),IntKind.i64.wrap (a0.2.2.2.1.2.2.1 + Au a0.2.1),a0.2.2.1,()),[(false,A5 a0.2.1 (IntKind.i64.wrap (1 - a0.2.2.2.1.2.1)),Cc (3,a0.2.2.1,IntKind.i64.wrap (a0.2.2.2.1.2.2.1 + Au a0.2.1),Ae,()) a0.1,())],[],[],())).bind fun val=>bif decide ((val.2.2.2.2.2.2.2.2.2.2.2.2.2.1.length + [(true,0,Ae,()),(false,Int.tmod val.2.2.2.2.2.2.2.2.2.2.2.2.1.1 2,Gv val.2.2.2.2.2.2.2.2.2.2.2.2.1 val.2.1.1,()),(true,0,Ae,())].length) * 32≤140737488355328) then ((Cz val.2.1.2.2.2.2.2.2.1).bind fun val=>some (val,())).bind fun val_1=>some ((0,val.2.1.1,val.2.1.2.1,val.2.1.2.2.1,val.2.2.2.2.2.2.2.2.2.2.2.2.1.1,val.2.2.2.2.2.2.2.2.2.2.2.2.1.2.1,val.2.2.2.2.2.2.2.2.2.2.2.2.1.2.2.1,val.2.2.2.2.2.2.2.2.2.2.2.2.1.2.2.2.1,val.1,0,val_1.1.1,val.2.2.2.2.2.2.2.2.2.2.2.2.2.1++[(true,0,Ae,()),(false,Int.tmod val.2.2.2.2.2.2.2.2.2.2.2.2.1.1 2,Gv val.2.2.2.2.2.2.2.2.2.2.2.2.1 val.2.1.1,()),(true,0,Ae,())],()),()) else none
theorem Axv (s:Lp) (R:Rt) (S:List (List Bp)) (v9:Int) (L0 P:List Ab) (hH:0≤R.2.1∧R.2.1≤1) (hL0:L0.length≤500000) (hP:P.length≤4001):
  C4 (I5 (Br R.2.1 s.2.1) S (nI L0.length) v9 P 0 s 0 0 0 0 0 0 0 0 0 0 R (Gf (Br R.2.1 s.2.1) L0) [] []) (Br R.2.1 s.2.1) S (nI L0.length) v9 P 0 s 0 0 0 0 0 0 0 0 0 0 R (Gf (Br R.2.1 s.2.1) L0) [] []=some (Br R.2.1 s.2.1,S,nI (L0++P).length,v9,s,0,0,0,0,0,0,0,0,0,0,R,Gf (Br R.2.1 s.2.1) (L0++P),[],[],()):=by
 have hm:=Anb (n:=s.2.1) hH
 have hB:0≤Br R.2.1 s.2.1∧Br R.2.1 s.2.1≤101:=by unfold Br; omega
 have hL:=Jl (xs:=P) z0 (fun i (L:List Ab)=>i≤4001∧L.length=L0.length + i) (fun (_:Nat) x L=>L++[x]) (g:=fun m i L=>C4 m (Br R.2.1 s.2.1) S (nI L.length) v9 P i s 0 0 0 0 0 0 0 0 0 0 R (Gf (Br R.2.1 s.2.1) L) [] []) (ok:=fun L=>(Br R.2.1 s.2.1,S,nI L.length,v9,s,0,0,0,0,0,0,0,0,0,0,R,Gf (Br R.2.1 s.2.1) L,[],[],())) (fun m i L hi hI=>by
   show C4 (m + 1) (Br R.2.1 s.2.1) S (nI L.length) v9 P i s 0 0 0 0 0 0 0 0 0 0 R (Gf (Br R.2.1 s.2.1) L) [] []=_
   simp only [C4,I6]
   obtain ⟨h1,h2⟩:=hI
   have e1:IntKind.i64.wrap (nI L.length + 1)=nI (L.length + 1):=wI (show L.length < 4611686018427387904 by omega)
   have e2:IntKind.i64.wrap (Br R.2.1 s.2.1 + nI L.length)=Br R.2.1 s.2.1 + (L.length:Int):=by simp only [nI]; exact Al (by omega) (by omega)
   rw [cLt hi,Mv,wI (show i < 4611686018427387904 by omega),Jh,e1,e2,D9,Xx,Ag (show (L.length + 1) * 32≤140737488355328 by omega),Ath,Fg,D9]
   rfl) (fun i L hi hI=>⟨by omega,by rw [Fg,D9,hI.2]; omega⟩) (fun m L hI=>by
   show C4 (m + 1) (Br R.2.1 s.2.1) S (nI L.length) v9 P (P.length:Int) s 0 0 0 0 0 0 0 0 0 0 R (Gf (Br R.2.1 s.2.1) L) [] []=_
   simp only [C4,I6]
   rw [W3]
   rfl) (I5 (Br R.2.1 s.2.1) S (nI L0.length) v9 P 0 s 0 0 0 0 0 0 0 0 0 0 R (Gf (Br R.2.1 s.2.1) L0) [] []) 0 L0 (by omega) (by simp [I5,nI]) ⟨by omega,rfl⟩
 rw [Ao4,List.drop_zero] at hL
 exact hL
theorem Axw (s:Lp) (R:Rt) (S:List (List Bp)) (L:List Ab) (hS:S.length≤101) (hH:0≤R.2.1∧R.2.1≤1) (hF:0≤R.2.2.1∧R.2.2.1≤1000000099) (hL:L.length≤1):
  Cn (Gq (Br R.2.1 s.2.1) S (nI L.length) 0 s 0 0 0 0 0 0 0 0 0 0 R (Gf (Br R.2.1 s.2.1) L) [] []) (Br R.2.1 s.2.1) S (nI L.length) 0 s 0 0 0 0 0 0 0 0 0 0 R (Gf (Br R.2.1 s.2.1) L) [] []=some (nI (F5 (fun _ b L=>Zx s.1 s.2.2.1 R.2.2.1 b L) 0 S L).length,s,0,0,0,0,0,0,0,0,0,0,R,Gf (Br R.2.1 s.2.1) (F5 (fun _ b L=>Zx s.1 s.2.2.1 R.2.2.1 b L) 0 S L),[],[],()):=by
 have hL:=Jl (xs:=S) [] MvI (fun _ b L=>Zx s.1 s.2.2.1 R.2.2.1 b L) (g:=fun m i L=>Cn m (Br R.2.1 s.2.1) S (nI L.length) i s 0 0 0 0 0 0 0 0 0 0 R (Gf (Br R.2.1 s.2.1) L) [] []) (ok:=fun L=>(nI L.length,s,0,0,0,0,0,0,0,0,0,0,R,Gf (Br R.2.1 s.2.1) L,[],[],())) (fun m i L hi hI=>by
   show Cn (m + 1) (Br R.2.1 s.2.1) S (nI L.length) i s 0 0 0 0 0 0 0 0 0 0 R (Gf (Br R.2.1 s.2.1) L) [] []=_
   simp only [Cn,I8,I7,u4,Ac,Ah]
   obtain ⟨h1,h2⟩:=hI
   rw [cLt hi,Mv,Jh]
   have e0:IntKind.i64.wrap (R.2.2.1 + nI L.length)=R.2.2.1 + (L.length:Int):=by simp only [nI]; exact Al (by omega) (by omega)
   have e1:Ny (C1 (List.getD S i [])) s.2.2.1 (R.2.2.1 + (L.length:Int)) s.1=some (Alk (Fi (List.getD S i [])) s.2.2.1 (R.2.2.1 + (L.length:Int)) s.1):=if_pos (Nat.le_trans (Np _) (by decide))
   rw [e0,e1]
   simp only [cond_true,Option.bind_some]
   refine Aev (Axv s R S (i:Int) L (Alk (Fi (List.getD S i [])) s.2.2.1 (R.2.2.1 + (L.length:Int)) s.1) hH (by omega) (Ana _ _ _ _)) ?_
   dsimp only
   rw [wI (show i < 4611686018427387904 by omega)]
   rfl) (fun i L hi hI=>hI.step (by omega) _ _ _ _) (fun m L hI=>by
   show Cn (m + 1) (Br R.2.1 s.2.1) S (nI L.length) (S.length:Int) s 0 0 0 0 0 0 0 0 0 0 R (Gf (Br R.2.1 s.2.1) L) [] []=_
   simp only [Cn,I8,I7,u4,Ac,Ah]
   rw [W3]
   rfl) (Gq (Br R.2.1 s.2.1) S (nI L.length) 0 s 0 0 0 0 0 0 0 0 0 0 R (Gf (Br R.2.1 s.2.1) L) [] []) 0 L (by omega) (by simp [Gq,nI]) ⟨by omega,by omega⟩
 exact hL
theorem Aql (a0:Lp) r (h:Jn a0=some r):Uo a0=some ((r.1,r.2.1.1,r.2.1.2.1,r.2.1.2.2.1,r.2.1.2.2.2.1.1,r.2.1.2.2.2.1.2.1,r.2.1.2.2.2.1.2.2.1,r.2.1.2.2.2.1.2.2.2.1,r.2.1.2.2.2.2.1,r.2.1.2.2.2.2.2.1,r.2.1.2.2.2.2.2.2.1.1,r.2.2.1,()),(())):=by
 unfold Jn at h
 split at h
 rotate_left
 ·cases h
 rename_i hk
 cases h
 obtain ⟨⟨t0,t1⟩,⟨h0,h1⟩,⟨f0,f1⟩,hp⟩:=hk
 have hh:=S0 a0.2.1
 unfold Uo Vt Ao5
 simp only [Au,Ip,Cc,Gv]
 show (bif decide (IntKind.i64.wrap (a0.2.2.2.1.1 + 1) > 1000000000) then _ else bif decide (IntKind.i64.wrap (a0.2.2.2.1.2.2.1 + An a0.2.1) > 999999000) then _ else _)=_
 rw [Al (n:=a0.2.2.2.1.1 + 1) (by omega) (by omega),Al (n:=a0.2.2.2.1.2.2.1 + An a0.2.1) (by omega) (by omega),Al (n:=1 - a0.2.2.2.1.2.1) (by omega) (by omega)]
 cases hc1:decide (a0.2.2.2.1.1 + 1 > 1000000000) with
 | true=>rfl
 | false=>
  cases hc2:decide (a0.2.2.2.1.2.2.1 + An a0.2.1 > 999999000) with
  | true=>rfl
  | false=>
   simp only [cond_false]
   have hm:=Anb (n:=a0.2.1) (show 0≤1 - a0.2.2.2.1.2.1∧1 - a0.2.2.2.1.2.1≤1 by omega)
   have e0:A5 a0.2.1 (1 - a0.2.2.2.1.2.1)=Br (1 - a0.2.2.2.1.2.1) a0.2.1:=by
    show IntKind.i64.wrap (2 + IntKind.i64.wrap ((1 - a0.2.2.2.1.2.1) * An a0.2.1))=2 + (1 - a0.2.2.2.1.2.1) * An a0.2.1
    rw [Al (n:=(1 - a0.2.2.2.1.2.1) * An a0.2.1) (by omega) (by omega),Al (by omega) (by omega)]
   rw [e0]
   have hL1:=Axw a0 ((a0.2.2.2.1.1 + 1),(1 - a0.2.2.2.1.2.1),(a0.2.2.2.1.2.2.1 + An a0.2.1),a0.2.2.1,()) (K0 a0.2.2.2.2.2.2.1) [C6 (3,a0.2.2.1,a0.2.2.2.1.2.2.1 + An a0.2.1,z0,()) a0.1] (Ab0 _) ⟨by dsimp only; omega,by dsimp only; omega⟩ ⟨by dsimp only; omega,by dsimp only; omega⟩ (Nat.le_refl 1)
   have hl:=A0t a0 a0.2.2.1
   have e1:Cz (a0.2.2.2.2.2.2.1.1,())=some (a0.2.2.2.2.2.2.1.1,()):=if_pos hp
   have e2:decide (((Gf (Br (1 - a0.2.2.2.1.2.1) a0.2.1) (mvL a0 a0.2.2.1)).length + 3) * 32≤140737488355328)=true:=Ag (by rw [Xx]; omega)
   refine Aev hL1 ?_
   dsimp only
   simp only [List.length_cons,List.length_nil,Nat.zero_add,Nat.reduceAdd]
   refine (congrArg (fun c=>bif c then _ else none) e2).trans ?_
   simp only [cond_true]
   rw [e1]
   rfl
def Wf {R:Type} (k:Kt R):=(Mh (Ee 11) (.exit 0) 2 k)
def Wg {R:Type} (k:Kt R):=(Mh (Ee 15) (.exit 2) 4 k)
def W9 {R:Type}:Lt R Ee:=(Gc (pat:=Ee) 11 (fun d k=>(Ahs d).bind (Wf k)) (Gc (pat:=Ee) 15 (fun d k=>(I7 d).bind (Wg k)) Ky))
theorem Up:A1 Try.prog Un:=Bc ⟨Yf,Yq,J6,Oo,Lz,Alb,Lg,W8,Ud,trivial⟩
theorem Aht {R:Type}:A7 Try.prog R 125 0 Ee W9 We:=
 Cu (cfg:=⟨Un,0,125,Ee⟩) 15 [] (fun NX X d=>(u4 (u4 (u4 (u4 (u4 (Ac Ah)))))) (I6  NX X) d) (fun m d=>(u4 (u4 (u4 (u4 (u4 (Ac Ah)))))) (C4 m) d) (fun d=>(u4 (u4 (u4 (u4 (u4 (Ac Ah)))))) I5 d) Wg Up trivial (fun f NX d=>by simp only [u4,Ac,Ah]; unfold I6; simp only [nb])
theorem Ahu {R:Type}:A7 Try.prog R 125 0 Ee W9 O7:=
 Cu (cfg:=⟨Un,0,125,Ee⟩) 11 [We] (fun NX X d=>(u4 (u4 (u4 (u4 (Ac (Ac (Ac Ah))))))) (I8 I7 NX X) d) (fun m d=>(u4 (u4 (u4 (u4 (Ac (Ac (Ac Ah))))))) (Cn m) d) (fun d=>(u4 (u4 (u4 (u4 (Ac (Ac (Ac Ah))))))) Gq d) Wf Up ⟨Aht,trivial⟩ (fun f NX d=>by simp only [u4,Ac,Ah]; unfold I8; simp only [nb])
theorem Aa4:Cp Try.prog 127 Um:=
 Bd (pat:=Ee) [O7] W9 Up ⟨Ahu,trivial⟩ Try.func127 (de:=fun x=>Uo x.1) (fun x r h=>Ie (Aql x.1) h) fun _=>by kernel_rfl
def Bb (d:Dk) (w:Int):Td:=w8 d w
def Avl:Ji:=⟨[.rd yDk,.rd tI],[some 2,none],[.rd tI,.rd tI,.rd tI,.rd tI,.rd tI,.rd tI,.rd tI,.rd tI,.rd tI,.rd tI,.own 67 B2,.own 49 Fz],[some 12]⟩
def Ahv:SD:=⟨Avl,fun x=>some (((Bb x.1 x.2.1).1,(Bb x.1 x.2.1).2.1.1,(Bb x.1 x.2.1).2.1.2.1,(Bb x.1 x.2.1).2.1.2.2.1,(Bb x.1 x.2.1).2.1.2.2.2.1.1,(Bb x.1 x.2.1).2.1.2.2.2.1.2.1,(Bb x.1 x.2.1).2.1.2.2.2.1.2.2.1,(Bb x.1 x.2.1).2.1.2.2.2.1.2.2.2.1,(Bb x.1 x.2.1).2.1.2.2.2.2.1,(Bb x.1 x.2.1).2.1.2.2.2.2.2.1,(Bb x.1 x.2.1).2.1.2.2.2.2.2.2.1.1,(Bb x.1 x.2.1).2.2.1,()),(()))⟩
def Z5 (a0:Dk) (a1:Int):Option ((((Int)×(Int)×(Int)×(Int)×(Int)×(Int)×(Int)×(Int)×(Int)×(Int)×(List Bw)×(List D5)×Unit)×(Unit))):=
 bif !C0 a0 then some ((1,0,0,0,0,0,0,0,0,0,[],[],()),()) else (Bz a1).bind fun val=>bif !val.1.1 then some ((1,0,0,0,0,0,0,0,0,0,[],[],()),()) else ((M7 (Ca a0 (A5 (nI (List.length a0.1)) (Aj a0 a1).2.1) (Au (nI (List.length a0.1))) (Aj a0 a1).2.2.1 (Aj a0 a1).2.2.2.1 a1).1).bind fun val=>some ((val.1.1,val.2,()),())).bind fun val=>bif !val.1.2.1 then some ((2,0,0,0,0,0,0,0,0,0,[],[],()),()) else bif decide (IntKind.i64.wrap ((Ca a0 (A5 (nI (List.length a0.1)) (Aj a0 a1).2.1) (Au (nI (List.length a0.1))) (Aj a0 a1).2.2.1 (Aj a0 a1).2.2.2.1 a1).2.2.1 + 1) > 60000) then some ((3,0,0,0,0,0,0,0,0,0,[],[],()),()) else bif decide (Kk (val.1.1,()) a1 > IntKind.i64.wrap (Au (nI (List.length a0.1)) - 1)) then some ((4,0,0,0,0,0,0,0,0,0,[],[],()),()) else bif decide ((Ca a0 (A5 (nI (List.length a0.1)) (Aj a0 a1).2.1) (Au (nI (List.length a0.1))) (Aj a0 a1).2.2.1 (Aj a0 a1).2.2.2.1 a1).2.1≥Au (nI (List.length a0.1))) then ((Jn (a1,nI (List.length a0.1),IntKind.i64.wrap ((Ca a0 (A5 (nI (List.length a0.1)) (Aj a0 a1).2.1) (Au (nI (List.length a0.1))) (Aj a0 a1).2.2.1 (Aj a0 a1).2.2.2.1 a1).2.2.1 + 1),Aj a0 a1,(Ca a0 (A5 (nI (List.length a0.1)) (Aj a0 a1).2.1) (Au (nI (List.length a0.1))) (Aj a0 a1).2.2.1 (Aj a0 a1).2.2.2.1 a1).2.1,0,(val.1.1,()),())).bind fun val=>some ((val.1,val.2.1.1,val.2.1.2.1,val.2.1.2.2.1,val.2.1.2.2.2.1.1,val.2.1.2.2.2.1.2.1,val.2.1.2.2.2.1.2.2.1,val.2.1.2.2.2.1.2.2.2.1,val.2.1.2.2.2.2.1,val.2.1.2.2.2.2.2.1,val.2.1.2.2.2.2.2.2.1.1,val.2.2),())).bind fun val=>some val else some ((0,a1,nI (List.length a0.1),IntKind.i64.wrap ((Ca a0 (A5 (nI (List.length a0.1)) (Aj a0 a1).2.1) (Au (nI (List.length a0.1))) (Aj a0 a1).2.2.1 (Aj a0 a1).2.2.2.1 a1).2.2.1 + 1),(Aj a0 a1).1,(Aj a0 a1).2.1,(Aj a0 a1).2.2.1,(Aj a0 a1).2.2.2.1,IntKind.i64.wrap ((Ca a0 (A5 (nI (List.length a0.1)) (Aj a0 a1).2.1) (Au (nI (List.length a0.1))) (Aj a0 a1).2.2.1 (Aj a0 a1).2.2.2.1 a1).2.1 + 1),0,val.1.1,[(false,IntKind.i64.wrap (A5 (nI (List.length a0.1)) (Aj a0 a1).2.1 + (Ca a0 (A5 (nI (List.length a0.1)) (Aj a0 a1).2.1) (Au (nI (List.length a0.1))) (Aj a0 a1).2.2.1 (Aj a0 a1).2.2.2.1 a1).2.1),Cc (3,IntKind.i64.wrap ((Ca a0 (A5 (nI (List.length a0.1)) (Aj a0 a1).2.1) (Au (nI (List.length a0.1))) (Aj a0 a1).2.2.1 (Aj a0 a1).2.2.2.1 a1).2.2.1 + 1),IntKind.i64.wrap ((Aj a0 a1).2.2.1 + (Ca a0 (A5 (nI (List.length a0.1)) (Aj a0 a1).2.1) (Au (nI (List.length a0.1))) (Aj a0 a1).2.2.1 (Aj a0 a1).2.2.2.1 a1).2.1),Ae,()) a1,()),(true,0,Ae,())],()),())
theorem Avm (a0:Dk) (a1:Int):Z5 a0 a1=some (((Bb a0 a1).1,(Bb a0 a1).2.1.1,(Bb a0 a1).2.1.2.1,(Bb a0 a1).2.1.2.2.1,(Bb a0 a1).2.1.2.2.2.1.1,(Bb a0 a1).2.1.2.2.2.1.2.1,(Bb a0 a1).2.1.2.2.2.1.2.2.1,(Bb a0 a1).2.1.2.2.2.1.2.2.2.1,(Bb a0 a1).2.1.2.2.2.2.1,(Bb a0 a1).2.1.2.2.2.2.2.1,(Bb a0 a1).2.1.2.2.2.2.2.2.1.1,(Bb a0 a1).2.2.1,()),(())):=by
 unfold Z5 Bb w8
 have ew:(bif decide (a1≥1) then (some ((decide (a1≤8),()),()):Option ((Bool×Unit)×Unit)) else some ((false,()),()))=some ((Di a1 1 8,()),()):=by
  unfold Di
  show (bif decide (1≤a1) then _ else _)=_
  cases decide (1≤a1)<;>rfl
 first
  | rw [ew]
  | rw [show Bz a1=some ((Di a1 1 8,()),()) from ew]
 show (bif !As a0 then _ else bif !Di a1 1 8 then _ else _)=_
 cases hv:As a0 with
 | false=>rfl
 | true=>
  cases hw:Di a1 1 8 with
  | false=>rfl
  | true=>
   simp only [Bool.not_true,cond_false]
   have hr:=Axi hv hw
   have hm:=Anb (n:=nI a0.1.length) hr.2.1
   have hh:=S0 (nI a0.1.length)
   have eb:A5 (nI a0.1.length) (Cv a0 a1).2.1=Br (Cv a0 a1).2.1 (nI a0.1.length):=by
    show IntKind.i64.wrap (2 + IntKind.i64.wrap ((Cv a0 a1).2.1 * An (nI a0.1.length)))=2 + (Cv a0 a1).2.1 * An (nI a0.1.length)
    rw [Al (n:=(Cv a0 a1).2.1 * An (nI a0.1.length)) (by omega) (by omega),Al (by omega) (by omega)]
   have ex:Ca a0 (A5 (nI a0.1.length) (Aj a0 a1).2.1) (Au (nI a0.1.length)) (Aj a0 a1).2.2.1 (Aj a0 a1).2.2.2.1 a1=Lc a0 a1:=by
    show Tn a0 (A5 (nI a0.1.length) (Cv a0 a1).2.1) (An (nI a0.1.length)) (Cv a0 a1).2.2.1 (Cv a0 a1).2.2.2.1 a1=_
    rw [eb]
    rfl
   simp only [ex]
   have hx:(Lc a0 a1).1.length≤1073741824:=Hm (Cq (Cq (Ay7 a0 (Br (Cv a0 a1).2.1 (nI a0.1.length)) (An (nI a0.1.length)) (Cv a0 a1).2.2.1 (Cv a0 a1).2.2.2.1 a1)).1).1
   have hs:=A40 a0 (Br (Cv a0 a1).2.1 (nI a0.1.length)) (An (nI a0.1.length)) (Cv a0 a1).2.2.1 (Cv a0 a1).2.2.2.1 a1 hh.1 hr.2.2.2
   have hf:M7 (Lc a0 a1).1=some (A01 (Lc a0 a1).1):=if_pos hx
   rw [hf]
   unfold A01
   cases ho:Mw (Lc a0 a1).1 zSs with
   | none=>rfl
   | some st=>
    have hst:=Ol rfl ho
    replace hs:(0≤(Lc a0 a1).2.1∧(Lc a0 a1).2.1≤An (nI a0.1.length))∧(0≤(Lc a0 a1).2.2.1∧(Lc a0 a1).2.2.1≤60000):=hs
    clear ho hx ex hf
    have eR:Aj a0 a1=Cv a0 a1:=rfl
    have eH:Au (nI a0.1.length)=An (nI a0.1.length):=rfl
    rw [eR,eH]
    generalize Lc a0 a1=x at *
    generalize Cv a0 a1=r at *
    show (bif decide (IntKind.i64.wrap (x.2.2.1 + 1) > 60000) then _ else bif decide (Lv st a1 > IntKind.i64.wrap (An (nI a0.1.length) - 1)) then _ else bif decide (x.2.1≥An (nI a0.1.length)) then _ else _)=_
    dsimp only
    rw [Al (n:=x.2.2.1 + 1) (by omega) (by omega),w5]
    by_cases h1:x.2.2.1 + 1 > 60000
    ·rw [Ag h1,A0x h1]; rfl
    by_cases h2:Lv st a1 > An (nI a0.1.length) - 1
    ·rw [Bh h1,Ag h2,A0y h1 h2]; rfl
    by_cases h3:x.2.1 < An (nI a0.1.length)
    ·rw [Bh h1,Bh h2,Bh (show ¬ x.2.1≥An (nI a0.1.length) by omega),A0z h1 h2 h3]
     simp only [cond_true,cond_false]
     obtain ⟨_,hr1,hr2,hr3⟩:=hr
     have hB:0≤Br r.2.1 (nI a0.1.length)∧Br r.2.1 (nI a0.1.length)≤101:=by unfold Br; omega
     rw [eb,Al (n:=x.2.1 + 1) (by omega) (by omega),Al (n:=Br r.2.1 (nI a0.1.length) + x.2.1) (by omega) (by omega),Al (n:=r.2.2.1 + x.2.1) (by omega) (by omega)]
     rfl
    ·rw [Bh h1,Bh h2,Ag (show x.2.1≥An (nI a0.1.length) by omega),A00 h1 h2 h3]
     simp only [cond_true,cond_false]
     have e1:Jn (a1,nI a0.1.length,x.2.2.1 + 1,r,x.2.1,0,st,())=some (Vt (a1,nI a0.1.length,x.2.2.1 + 1,r,x.2.1,0,st,())):=if_pos ⟨hr.1,hr.2.1,⟨Int.le_trans (by decide) hr.2.2.1.1,Int.le_trans hr.2.2.1.2 (by decide)⟩,Nat.le_trans (Ey hst) (by decide)⟩
     refine (congrArg (fun q=>Option.bind (Option.bind q _) _) e1).trans ?_
     rfl
theorem Avn:Cp Try.prog 116 Ahv:=
 Bd (pat:=Ge) [] Ky (Bc (l:=[(19,Ez),(28,Yt),(56,Hi),(62,Cx),(109,J5),(110,Sv),(113,Qt),(114,O5),(125,Ahm),(126,Aa1),(127,Um)]) ⟨Gi,Aj8,J6,Dj,Lz,Z0,W8,Ud,Avk,Aqj,Aa4,trivial⟩) trivial Try.func116 (de:=fun x=>Z5 x.1 x.2.1) (fun x r h=>(Avm x.1 x.2.1).trans h) fun _=>by kernel_rfl
def A0 (s:Lp):Td:=Tl s
def Arx:Ji:=⟨[.rd Aos],[some 10],[.rd tI,.rd tI,.rd tI,.rd tI,.rd tI,.rd tI,.rd tI,.rd tI,.rd tI,.rd tI,.own 67 B2,.own 49 Fz],[some 12]⟩
def Adn:SD:=⟨Arx,fun x=>some (((A0 x.1).1,(A0 x.1).2.1.1,(A0 x.1).2.1.2.1,(A0 x.1).2.1.2.2.1,(A0 x.1).2.1.2.2.2.1.1,(A0 x.1).2.1.2.2.2.1.2.1,(A0 x.1).2.1.2.2.2.1.2.2.1,(A0 x.1).2.1.2.2.2.1.2.2.2.1,(A0 x.1).2.1.2.2.2.2.1,(A0 x.1).2.1.2.2.2.2.2.1,(A0 x.1).2.1.2.2.2.2.2.2.1.1,(A0 x.1).2.2.1,()),(()))⟩
def Xa (a0:Lp):Option ((((Int)×(Int)×(Int)×(Int)×(Int)×(Int)×(Int)×(Int)×(Int)×(Int)×(List Bw)×(List D5)×Unit)×(Unit))):=
 bif !Gn a0 then some ((1,0,0,0,0,0,0,0,0,0,[],[],()),()) else ((Cz a0.2.2.2.2.2.2.1).bind fun val=>some (val,())).bind fun val=>some ((0,a0.1,a0.2.1,a0.2.2.1,a0.2.2.2.1.1,a0.2.2.2.1.2.1,a0.2.2.2.1.2.2.1,a0.2.2.2.1.2.2.2.1,a0.2.2.2.2.1,0,val.1.1,[(true,0,Ae,())],()),())
theorem Ary (a0:Lp):Xa a0=some (((A0 a0).1,(A0 a0).2.1.1,(A0 a0).2.1.2.1,(A0 a0).2.1.2.2.1,(A0 a0).2.1.2.2.2.1.1,(A0 a0).2.1.2.2.2.1.2.1,(A0 a0).2.1.2.2.2.1.2.2.1,(A0 a0).2.1.2.2.2.1.2.2.2.1,(A0 a0).2.1.2.2.2.2.1,(A0 a0).2.1.2.2.2.2.2.1,(A0 a0).2.1.2.2.2.2.2.2.1.1,(A0 a0).2.2.1,()),(())):=by
 unfold Xa A0 Tl
 show (bif !A4 a0 then _ else _)=_
 cases hv:A4 a0 with
 | false=>rfl
 | true=>
  have e1:Cz (a0.2.2.2.2.2.2.1.1,())=some (a0.2.2.2.2.2.2.1.1,()):=if_pos (Nat.le_trans (Ey (Ab1 hv).2.2.1) (by decide))
  simp only [Bool.not_true,cond_false]
  rw [e1]
  rfl
theorem Arz:Cp Try.prog 117 Adn:=
 Bd (pat:=Ge) [] Ky (Bc (l:=[(93,Lx),(106,Kr)]) ⟨Oo,Nx,trivial⟩) trivial Try.func117 (de:=fun x=>Xa x.1) (fun x r h=>(Ary x.1).trans h) fun _=>by kernel_rfl
def Aw (s:Lp):Td:=Lw s
def Al2:Ji:=⟨[.rd Aos],[some 10],[.rd tI,.rd tI,.rd tI,.rd tI,.rd tI,.rd tI,.rd tI,.rd tI,.rd tI,.rd tI,.own 67 B2,.own 49 Fz],[some 12]⟩
def g6:SD:=⟨Al2,fun x=>some (((Aw x.1).1,(Aw x.1).2.1.1,(Aw x.1).2.1.2.1,(Aw x.1).2.1.2.2.1,(Aw x.1).2.1.2.2.2.1.1,(Aw x.1).2.1.2.2.2.1.2.1,(Aw x.1).2.1.2.2.2.1.2.2.1,(Aw x.1).2.1.2.2.2.1.2.2.2.1,(Aw x.1).2.1.2.2.2.2.1,(Aw x.1).2.1.2.2.2.2.2.1,(Aw x.1).2.1.2.2.2.2.2.2.1.1,(Aw x.1).2.2.1,()),(()))⟩
def Rm (a0:Lp):Option ((((Int)×(Int)×(Int)×(Int)×(Int)×(Int)×(Int)×(Int)×(Int)×(Int)×(List Bw)×(List D5)×Unit)×(Unit))):=
 bif !Gn a0 then some ((1,0,0,0,0,0,0,0,0,0,[],[],()),()) else ((Jn a0).bind fun val=>some ((val.1,val.2.1.1,val.2.1.2.1,val.2.1.2.2.1,val.2.1.2.2.2.1.1,val.2.1.2.2.2.1.2.1,val.2.1.2.2.2.1.2.2.1,val.2.1.2.2.2.1.2.2.2.1,val.2.1.2.2.2.2.1,val.2.1.2.2.2.2.2.1,val.2.1.2.2.2.2.2.2.1.1,val.2.2),())).bind fun val=>some val
theorem Al3 (a0:Lp):Rm a0=some (((Aw a0).1,(Aw a0).2.1.1,(Aw a0).2.1.2.1,(Aw a0).2.1.2.2.1,(Aw a0).2.1.2.2.2.1.1,(Aw a0).2.1.2.2.2.1.2.1,(Aw a0).2.1.2.2.2.1.2.2.1,(Aw a0).2.1.2.2.2.1.2.2.2.1,(Aw a0).2.1.2.2.2.2.1,(Aw a0).2.1.2.2.2.2.2.1,(Aw a0).2.1.2.2.2.2.2.2.1.1,(Aw a0).2.2.1,()),(())):=by
 unfold Rm Aw Lw
 show (bif !A4 a0 then _ else _)=_
 cases hv:A4 a0 with
 | false=>rfl
 | true=>
  have e1:Jn (a0.1,a0.2.1,a0.2.2.1,(a0.2.2.2.1.1,a0.2.2.2.1.2.1,a0.2.2.2.1.2.2.1,a0.2.2.2.1.2.2.2.1,()),a0.2.2.2.2.1,a0.2.2.2.2.2.1,(a0.2.2.2.2.2.2.1.1,()),())=some (Vt a0):=if_pos (A2f hv)
  simp only [Bool.not_true,cond_false,cond_true]
  rw [e1]
  rfl
theorem Al4:Cp Try.prog 118 g6:=
 Bd (pat:=Ge) [] Ky (Bc (l:=[(106,Kr),(127,Um)]) ⟨Nx,Aa4,trivial⟩) trivial Try.func118 (de:=fun x=>Rm x.1) (fun x r h=>(Al3 x.1).trans h) fun _=>by kernel_rfl
def Aqm:Ji:=⟨[.rd Nn,.rd A4f],[some 16,some 4],[.rd A6d,.rd .bool],[some 12,none]⟩
def O8 (a0:C5) (a1:m0):Option (((Td×(Bool)×Unit)×(Unit))):=
 bif a1.1==1 then some ((Bb a0.2.1 a0.1,!a0.2.2.1,()),()) else bif a1.1==2 then some ((Ar a0.2.2.2.1 a1.2.1,a0.2.2.1,()),()) else bif a1.1==3 then some ((A0 a0.2.2.2.1,a0.2.2.1,()),()) else bif a1.1==4 then some ((Aw a0.2.2.2.1,a0.2.2.1,()),()) else some (((0,(0,0,0,(0,0,0,0,()),0,0,([],()),()),[],()),false,()),())
theorem Aa5:∃ f,f=@O8:=⟨_,rfl⟩
def M8:=Classical.choose Aa5
theorem Aa6:@M8=@O8:=Classical.choose_spec Aa5
def Aa7:SD:=⟨Aqm,fun x=>M8 x.1 x.2.1⟩
theorem A6w {w:C5} (h:w9 w) (e:m0):Am (M8 w e) fun q=>q.1=((Rx w e).1,(Rx w e).2,()):=by
 rw [Aa6]
 unfold O8 Rx
 refine Am.cond (fun c=>Am.some ?_) fun c=>Am.cond (fun c2=>Am.some ?_) fun c2=>Am.cond (fun c3=>Am.some ?_) fun c3=>Am.cond (fun c4=>Am.some ?_) fun c4=>Am.some ?_
 ·rw [c]; rfl
 ·rw [c,c2]; rfl
 ·rw [c,c2,c3]; rfl
 ·rw [c,c2,c3,c4]; rfl
 ·rw [c,c2,c3,c4]; rfl
theorem Aqn:Cp Try.prog 98 Aa7:=
 Bd (pat:=Ge) [] Ky (Bc (l:=[(96,Ue),(116,Ahv),(117,Adn),(118,g6)]) ⟨Aau,Avn,Arz,Al4,trivial⟩) trivial Try.func98 (de:=fun x=>O8 x.1 x.2.1) (fun x r h=>by have q:M8 x.1 x.2.1=some r:=h; rw [Aa6] at q; exact q) fun _=>by kernel_rfl
def Avo:Ji:=⟨[.rd Nn,.rd A4f],[some 16,some 4],[.rd Nn],[some 16]⟩
def Ahw:Tb:=tb [(18,Re),(97,c7),(98,Aa7)]
def Mq:Nat→Du×(Nat→Du):=Ix [(13,⟨[.row 9 0 9 .str,.boxSl 2 1 .str,.boxSl 2 2 Cl,.boxSl 2 13 B2,.boxSl 2 14 Ln,.boxSl 2 15 .str,.boxSl 3 1 Gu,.boxSl 3 3 tI,.boxSl 4 1 .str,.boxSl 4 2 Cl,.boxSl 4 13 B2,.boxSl 4 14 Ln,.boxSl 4 15 .str,.boxSl 5 10 B2,.boxSl 5 11 Fz],[(2,.lf (.ptr 0 0)),(3,.lf (.ptr 1 0)),(4,.lf (.ptr 2 0)),(5,.lf (.ptr 3 0)),(7,.lf (.d tI)),(8,.lf (.d .bool)),(9,.lf (.row 4)),(10,.lf (.d tI))],[.box 98 [.d Nn],.box 123 [.d A4f],.box 98 [.d Nn],.box 141 [.d A6d],.row 9 .str]⟩,[(2,⟨[.row 9 0 9 .str,.boxSl 2 1 .str,.boxSl 2 2 Cl,.boxSl 2 13 B2,.boxSl 2 14 Ln,.boxSl 2 15 .str,.boxSl 3 1 Gu,.boxSl 3 3 tI,.boxSl 4 1 .str,.boxSl 4 2 Cl,.boxSl 4 13 B2,.boxSl 4 14 Ln,.boxSl 4 15 .str,.boxSl 5 10 B2,.boxSl 5 11 Fz],[(2,.lf (.ptr 0 0)),(3,.lf (.ptr 1 0)),(4,.lf (.ptr 2 0)),(5,.lf (.ptr 3 0)),(7,.lf (.d tI)),(8,.lf (.d .bool)),(9,.lf (.row 4))],[.box 98 [.d Nn],.box 123 [.d A4f],.box 98 [.d Nn],.box 141 [.d A6d],.row 9 .str]⟩)])]
def g7:Code:=(Av (Bl Try.f81)).getD 0 .skip
def Fj (v7:Int) (v8:Bool) (v10:Int) (b0:C5) (b1:m0) (b2:C5) (b3:Td) (r4:List Ab):Nat:=(v7 - v10).toNat + 1
def K3 {R:Type}  (NX:((Int)×(Bool)×(Int)×C5×m0×C5×Td×(List Ab)×Unit)→Option R) (X2:((Int)×(Bool)×C5×m0×C5×Td×(List Ab)×Unit)→Option R) (v7:Int) (v8:Bool) (v10:Int) (b0:C5) (b1:m0) (b2:C5) (b3:Td) (r4:List Ab):Option R:=
 bif decide (v10 < v7) then bif decide (0≤v10) then bif decide (v10 < nI (List.length b3.2.2.1)) then bif !(List.getD b3.2.2.1 v10.toNat (false,0,Ae,())).1 then bif decide (0≤v10) then bif decide (v10 < nI (List.length b3.2.2.1)) then bif decide ((r4.length + [(List.getD b3.2.2.1 v10.toNat (false,0,Ae,())).2.2.1].length) * 16≤140737488355328) then NX (v7,v8,IntKind.i64.wrap (v10 + 1),b0,b1,b2,b3,r4++[(List.getD b3.2.2.1 v10.toNat (false,0,Ae,())).2.2.1],()) else none else none else none else NX (v7,v8,IntKind.i64.wrap (v10 + 1),b0,b1,b2,b3,r4,()) else none else none else X2 (v7,v8,b0,b1,b2,b3,r4,())
def Dm:Nat→(Int)→(Bool)→(Int)→C5→m0→C5→Td→(List Ab) →  Option ((Int)×(Bool)×C5×m0×C5×Td×(List Ab)×Unit)
 | 0,_,_,_,_,_,_,_,_=>none
 | m + 1,v7,v8,v10,b0,b1,b2,b3,r4=>K3  (fun d=>Dm m d.1 d.2.1 d.2.2.1 d.2.2.2.1 d.2.2.2.2.1 d.2.2.2.2.2.1 d.2.2.2.2.2.2.1 d.2.2.2.2.2.2.2.1) (fun d=>some (d)) v7 v8 v10 b0 b1 b2 b3 r4
def Al5 (d:(Int)×(Bool)×(Int)×C5×m0×C5×Td×(List Ab)×Unit):Option ((Int)×(Bool)×C5×m0×C5×Td×(List Ab)×Unit):=(u4 (u4 Ah)) (Dm ((u4 (u4 Ah)) Fj d)) d
def Sw (a0:C5) (a1:m0):Option (((C5×Unit)×(Unit))):=
 bif a1.1==5 then (Dd a0 a1.2.2.2.1).bind fun val=>some val else (M8 a0 a1).bind fun val=>bif !val.1.2.1 then some ((a0,()),()) else bif val.1.1.1 != 0 then some ((a0,()),()) else bif decide (a1.2.2.1≥0) then bif decide (a1.2.2.1≤nI (List.length val.1.1.2.2.1)) then bif decide ((0 + List.length a0.2.2.2.2.2.1) * 16≤140737488355328) then ((fun d=>Dm (Fj d.1 d.2.1 d.2.2.1 d.2.2.2.1 d.2.2.2.2.1 d.2.2.2.2.2.1 d.2.2.2.2.2.2.1 d.2.2.2.2.2.2.2.1) d.1 d.2.1 d.2.2.1 d.2.2.2.1 d.2.2.2.2.1 d.2.2.2.2.2.1 d.2.2.2.2.2.2.1 d.2.2.2.2.2.2.2.1) (a1.2.2.1,decide (a1.2.2.1≤nI (List.length val.1.1.2.2.1)),0,a0,a1,(0,([],[],()),false,(0,0,0,(0,0,0,0,()),0,0,([],()),()),[],[],()),val.1.1,[]++a0.2.2.2.2.2.1,())).bind fun val=>bif val.2.2.2.1.1==2 then bif decide ((0 + List.length val.2.2.1.2.2.2.2.1) * 24≤140737488355328) then bif decide ((([]++val.2.2.1.2.2.2.2.1).length + [val.2.2.2.2.2.1.2.1.2.2.2.2.2.2.1].length) * 24≤140737488355328) then bif decide (nI val.2.2.2.2.2.2.1.length > 2000) then some ((val.2.2.1,()),()) else bif decide (nI ([]++val.2.2.1.2.2.2.2.1++[val.2.2.2.2.2.1.2.1.2.2.2.2.2.2.1]).length > 200) then some ((val.2.2.1,()),()) else ((Cw val.2.2.1.2.1 val.2.2.2.2.2.1.2.2.1 val.1).bind fun val=>some (val,())).bind fun val_1=>bif val.2.1 then (Dd (val.2.2.1.1,val_1.1,val.2.2.1.2.2.1,val.2.2.1.2.2.2.1,[]++val.2.2.1.2.2.2.2.1++[val.2.2.2.2.2.1.2.1.2.2.2.2.2.2.1],val.2.2.2.2.2.2) val.2.2.2.1.2.2.2.1).bind fun val=>some val else bif val.2.2.2.1.1 != 2 then some (((val.2.2.1.1,val_1.1,true,val.2.2.2.2.2.1.2.1,[val.2.2.2.2.2.1.2.1.2.2.2.2.2.2.1],val.2.2.2.2.2.2),()),()) else some (((val.2.2.1.1,val_1.1,true,val.2.2.2.2.2.1.2.1,[]++val.2.2.1.2.2.2.2.1++[val.2.2.2.2.2.1.2.1.2.2.2.2.2.2.1],val.2.2.2.2.2.2),()),()) else none else none else bif decide (nI val.2.2.2.2.2.2.1.length > 2000) then some ((val.2.2.1,()),()) else bif decide (nI (List.length val.2.2.1.2.2.2.2.1) > 200) then some ((val.2.2.1,()),()) else ((Cw val.2.2.1.2.1 val.2.2.2.2.2.1.2.2.1 val.1).bind fun val=>some (val,())).bind fun val_1=>bif val.2.1 then (Dd (val.2.2.1.1,val_1.1,val.2.2.1.2.2.1,val.2.2.1.2.2.2.1,val.2.2.1.2.2.2.2.1,val.2.2.2.2.2.2) val.2.2.2.1.2.2.2.1).bind fun val=>some val else bif val.2.2.2.1.1 != 2 then some (((val.2.2.1.1,val_1.1,true,val.2.2.2.2.2.1.2.1,[val.2.2.2.2.2.1.2.1.2.2.2.2.2.2.1],val.2.2.2.2.2.2),()),()) else some (((val.2.2.1.1,val_1.1,true,val.2.2.2.2.2.1.2.1,val.2.2.1.2.2.2.2.1,val.2.2.2.2.2.2),()),()) else none else bif decide ((0 + List.length a0.2.2.2.2.2.1) * 16≤140737488355328) then ((fun d=>Dm (Fj d.1 d.2.1 d.2.2.1 d.2.2.2.1 d.2.2.2.2.1 d.2.2.2.2.2.1 d.2.2.2.2.2.2.1 d.2.2.2.2.2.2.2.1) d.1 d.2.1 d.2.2.1 d.2.2.2.1 d.2.2.2.2.1 d.2.2.2.2.2.1 d.2.2.2.2.2.2.1 d.2.2.2.2.2.2.2.1) (nI (List.length val.1.1.2.2.1),decide (a1.2.2.1≤nI (List.length val.1.1.2.2.1)),0,a0,a1,(0,([],[],()),false,(0,0,0,(0,0,0,0,()),0,0,([],()),()),[],[],()),val.1.1,[]++a0.2.2.2.2.2.1,())).bind fun val=>bif val.2.2.2.1.1==2 then bif decide ((0 + List.length val.2.2.1.2.2.2.2.1) * 24≤140737488355328) then bif decide ((([]++val.2.2.1.2.2.2.2.1).length + [val.2.2.2.2.2.1.2.1.2.2.2.2.2.2.1].length) * 24≤140737488355328) then bif decide (nI val.2.2.2.2.2.2.1.length > 2000) then some ((val.2.2.1,()),()) else bif decide (nI ([]++val.2.2.1.2.2.2.2.1++[val.2.2.2.2.2.1.2.1.2.2.2.2.2.2.1]).length > 200) then some ((val.2.2.1,()),()) else ((Cw val.2.2.1.2.1 val.2.2.2.2.2.1.2.2.1 val.1).bind fun val=>some (val,())).bind fun val_1=>bif val.2.1 then (Dd (val.2.2.1.1,val_1.1,val.2.2.1.2.2.1,val.2.2.1.2.2.2.1,[]++val.2.2.1.2.2.2.2.1++[val.2.2.2.2.2.1.2.1.2.2.2.2.2.2.1],val.2.2.2.2.2.2) val.2.2.2.1.2.2.2.1).bind fun val=>some val else bif val.2.2.2.1.1 != 2 then some (((val.2.2.1.1,val_1.1,true,val.2.2.2.2.2.1.2.1,[val.2.2.2.2.2.1.2.1.2.2.2.2.2.2.1],val.2.2.2.2.2.2),()),()) else some (((val.2.2.1.1,val_1.1,true,val.2.2.2.2.2.1.2.1,[]++val.2.2.1.2.2.2.2.1++[val.2.2.2.2.2.1.2.1.2.2.2.2.2.2.1],val.2.2.2.2.2.2),()),()) else none else none else bif decide (nI val.2.2.2.2.2.2.1.length > 2000) then some ((val.2.2.1,()),()) else bif decide (nI (List.length val.2.2.1.2.2.2.2.1) > 200) then some ((val.2.2.1,()),()) else ((Cw val.2.2.1.2.1 val.2.2.2.2.2.1.2.2.1 val.1).bind fun val=>some (val,())).bind fun val_1=>bif val.2.1 then (Dd (val.2.2.1.1,val_1.1,val.2.2.1.2.2.1,val.2.2.1.2.2.2.1,val.2.2.1.2.2.2.2.1,val.2.2.2.2.2.2) val.2.2.2.1.2.2.2.1).bind fun val=>some val else bif val.2.2.2.1.1 != 2 then some (((val.2.2.1.1,val_1.1,true,val.2.2.2.2.2.1.2.1,[val.2.2.2.2.2.1.2.1.2.2.2.2.2.2.1],val.2.2.2.2.2.2),()),()) else some (((val.2.2.1.1,val_1.1,true,val.2.2.2.2.2.1.2.1,val.2.2.1.2.2.2.2.1,val.2.2.2.2.2.2),()),()) else none else bif decide ((0 + List.length a0.2.2.2.2.2.1) * 16≤140737488355328) then ((fun d=>Dm (Fj d.1 d.2.1 d.2.2.1 d.2.2.2.1 d.2.2.2.2.1 d.2.2.2.2.2.1 d.2.2.2.2.2.2.1 d.2.2.2.2.2.2.2.1) d.1 d.2.1 d.2.2.1 d.2.2.2.1 d.2.2.2.2.1 d.2.2.2.2.2.1 d.2.2.2.2.2.2.1 d.2.2.2.2.2.2.2.1) (nI (List.length val.1.1.2.2.1),false,0,a0,a1,(0,([],[],()),false,(0,0,0,(0,0,0,0,()),0,0,([],()),()),[],[],()),val.1.1,[]++a0.2.2.2.2.2.1,())).bind fun val=>bif val.2.2.2.1.1==2 then bif decide ((0 + List.length val.2.2.1.2.2.2.2.1) * 24≤140737488355328) then bif decide ((([]++val.2.2.1.2.2.2.2.1).length + [val.2.2.2.2.2.1.2.1.2.2.2.2.2.2.1].length) * 24≤140737488355328) then bif decide (nI val.2.2.2.2.2.2.1.length > 2000) then some ((val.2.2.1,()),()) else bif decide (nI ([]++val.2.2.1.2.2.2.2.1++[val.2.2.2.2.2.1.2.1.2.2.2.2.2.2.1]).length > 200) then some ((val.2.2.1,()),()) else ((Cw val.2.2.1.2.1 val.2.2.2.2.2.1.2.2.1 val.1).bind fun val=>some (val,())).bind fun val_1=>bif val.2.1 then (Dd (val.2.2.1.1,val_1.1,val.2.2.1.2.2.1,val.2.2.1.2.2.2.1,[]++val.2.2.1.2.2.2.2.1++[val.2.2.2.2.2.1.2.1.2.2.2.2.2.2.1],val.2.2.2.2.2.2) val.2.2.2.1.2.2.2.1).bind fun val=>some val else bif val.2.2.2.1.1 != 2 then some (((val.2.2.1.1,val_1.1,true,val.2.2.2.2.2.1.2.1,[val.2.2.2.2.2.1.2.1.2.2.2.2.2.2.1],val.2.2.2.2.2.2),()),()) else some (((val.2.2.1.1,val_1.1,true,val.2.2.2.2.2.1.2.1,[]++val.2.2.1.2.2.2.2.1++[val.2.2.2.2.2.1.2.1.2.2.2.2.2.2.1],val.2.2.2.2.2.2),()),()) else none else none else bif decide (nI val.2.2.2.2.2.2.1.length > 2000) then some ((val.2.2.1,()),()) else bif decide (nI (List.length val.2.2.1.2.2.2.2.1) > 200) then some ((val.2.2.1,()),()) else ((Cw val.2.2.1.2.1 val.2.2.2.2.2.1.2.2.1 val.1).bind fun val=>some (val,())).bind fun val_1=>bif val.2.1 then (Dd (val.2.2.1.1,val_1.1,val.2.2.1.2.2.1,val.2.2.1.2.2.2.1,val.2.2.1.2.2.2.2.1,val.2.2.2.2.2.2) val.2.2.2.1.2.2.2.1).bind fun val=>some val else bif val.2.2.2.1.1 != 2 then some (((val.2.2.1.1,val_1.1,true,val.2.2.2.2.2.1.2.1,[val.2.2.2.2.2.1.2.1.2.2.2.2.2.2.1],val.2.2.2.2.2.2),()),()) else some (((val.2.2.1.1,val_1.1,true,val.2.2.2.2.2.1.2.1,val.2.2.1.2.2.2.2.1,val.2.2.2.2.2.2),()),()) else none
theorem Ahx:∃ f,f=@Sw:=⟨_,rfl⟩
def Kl:=Classical.choose Ahx
theorem Ahy:@Kl=@Sw:=Classical.choose_spec Ahx
def Z6:SD:=⟨Avo,fun x=>Kl x.1 x.2.1⟩
theorem Avp (v8:Bool) (b0:C5) (b1:m0) (b2:C5) (b3:Td):∀ (k m i:Nat) (n:Int) (r:List Ab),(i:Int) + k=n→k < m→n≤(b3.2.2.1.length:Int)→b3.2.2.1.length≤1073741824→r.length + k≤4000000000→
  ∃ r':List Ab,Dm m n v8 i b0 b1 b2 b3 r=some (n,v8,b0,b1,b2,b3,r',())∧r'.length≤r.length + k∧r'=r++Aex ((b3.2.2.1.drop i).take k)
 | 0,m + 1,i,n,r,hi,_,_,_,_=>by
  refine ⟨r,?_,by omega,by simp [Aex]⟩
  simp only [Dm,K3]
  rw [Bh (show ¬ (i:Int) < n by omega)]
  rfl
 | k + 1,m + 1,i,n,r,hi,hm,hn,hl,hr=>by
  have e1:IntKind.i64.wrap ((i:Int) + 1)=((i + 1:Nat):Int):=wI (by omega)
  have d1:decide ((i:Int) < n)=true:=Ag (by omega)
  have d2:decide ((i:Int) < nI b3.2.2.1.length)=true:=Ag (by simp only [nI]; omega)
  simp only [Dm,K3,d1,d2,Mv,e1,cond_true,D9]
  have d3:decide ((r.length + 1) * 16≤140737488355328)=true:=Ag (by omega)
  rw [d3]
  cases hc:(b3.2.2.1.getD (Int.toNat (i:Int)) (false,0,Ae,())).1 with
  | true=>
   obtain ⟨r',q1,q2,q3⟩:=Avp v8 b0 b1 b2 b3 k m (i + 1) n r (by omega) (by omega) hn hl (by omega)
   have hc':(b3.2.2.1.getD i zOp).1=true:=hc
   exact ⟨r',q1,by omega,by rw [q3,A04 k (by omega),hc']; rfl⟩
  | false=>
   obtain ⟨r',q1,q2,q3⟩:=Avp v8 b0 b1 b2 b3 k m (i + 1) n (r++[(b3.2.2.1.getD (Int.toNat (i:Int)) (false,0,Ae,())).2.2.1]) (by omega) (by omega) hn hl (by rw [Fg,D9]; omega)
   rw [Fg,D9] at q2
   have hc':(b3.2.2.1.getD i zOp).1=false:=hc
   exact ⟨r',q1,by omega,by rw [q3,A04 k (by omega),hc',List.append_assoc]; rfl⟩
theorem Azk {v8:Bool} {b0:C5} {b1:m0} {b2:C5} {b3:Td} {n:Int} {r:List Ab} (h0:0≤n) (hn:n≤(b3.2.2.1.length:Int)) (hl:b3.2.2.1.length≤1073741824) (hr:r.length≤2000000000):
  Am (Dm (Fj n v8 0 b0 b1 b2 b3 r) n v8 0 b0 b1 b2 b3 r) fun q=>∃ r':List Ab,q=(n,v8,b0,b1,b2,b3,r',())∧r'=r++Aex (b3.2.2.1.take n.toNat):=by
 obtain ⟨k,rfl⟩:∃ k:Nat,n=(k:Int):=⟨n.toNat,by omega⟩
 obtain ⟨r',q1,_,q3⟩:=Avp v8 b0 b1 b2 b3 k (Fj k v8 0 b0 b1 b2 b3 r) 0 k r (by omega) (by simp only [Fj]; omega) hn hl (by omega)
 exact ⟨_,q1,r',rfl,q3⟩
theorem A1c {w:C5} (h:w9 w) (e:m0):Am (Kl w e) fun q=>q.1.1=doS w e:=by
 rw [Ahy]
 unfold Sw
 refine Am.cond (fun c0=>Am.bind (Aab w _) fun q hq=>Am.some ?_) fun c0=>?_
 ·rw [hq]; unfold doS; rw [c0]; rfl
 refine Am.bind (A6w h e) fun q hx=>?_
 obtain ⟨⟨x,asked,⟨⟩⟩,⟨⟩⟩:=q
 dsimp only at hx ⊢
 have hx1:x=(Rx w e).1:=congrArg (fun z=>z.1) hx
 have hx2:asked=(Rx w e).2:=congrArg (fun z=>z.2.1) hx
 have hX:XOk x:=by rw [hx1]; exact XOk.calls h e
 have hS:doS w e=bif !asked || x.1 != 0 then w else Vw w e x:=by unfold doS; rw [c0,hx1,hx2]; rfl
 rw [hS]
 refine Am.cond (fun c1=>Am.some ?_) fun c1=>Am.cond (fun c2=>Am.some ?_) fun c2=>?_
 ·rw [c1]; rfl
 ·rw [c1,c2]; rfl
 rw [show (bif !asked || x.1 != 0 then w else Vw w e x)=Vw w e x by rw [c1,c2]; rfl]
 have ho:=hX.ops
 have hl:=h.l
 have hp:=h.n
 have hd:=Ig h.v
 have hperf:∀ n:Int,Am (((Cw (w.2.1.1,w.2.1.2.1,()) x.2.2.1 n).bind fun val=>some (val,()))) fun q=>q=(Bg w.2.1 x.2.2.1 n,()):=fun n=>Am.bind ⟨_,if_pos (by omega),rfl⟩ fun a ha=>Am.some (by rw [ha])
 have fin:∀ (v8:Bool) (m:Int),Aln e x=v8→Aji e x=m→∀ (pst:List Ki) (wr:List Ab),wr=Pt w e x→pst=Il w e x→Ac5 w e x=false→∀ (y:Option (((C5×Unit)×Unit))),
   (v8=true→Am y fun q=>q.1.1=(w.1,D6 (Bg w.2.1 x.2.2.1 m) e.2.2.2.1,false,zSt,pst,wr,()))→(v8=false→Am y fun q=>q.1.1=(w.1,Bg w.2.1 x.2.2.1 m,true,x.2.1,(bif e.1==2 then pst else [x.2.1.2.2.2.2.2.2.1]),wr,()))→Am y fun q=>q.1.1=Vw w e x:=fun v8 m h1 h2 pst wr h3 h4 h5 y k1 k2=>by
  cases v8 with
  | true=>rw [A2p h5 h1,h2,← h3,← h4]; exact k1 rfl
  | false=>rw [A44 h5 h1,h2,← h3,← h4]; exact k2 rfl
 have full1:decide ((Pt w e x).length > 2000)=true→Vw w e x=w:=fun g=>Api (Au4 g rfl)
 have full2:∀ {a},decide ((Pt w e x).length > 2000)=a→decide ((Il w e x).length > 200)=true→Vw w e x=w:=fun g1 g2=>Api (by rw [Au4 g1 g2,Bool.or_true])
 have full3:decide ((Pt w e x).length > 2000)=false→decide ((Il w e x).length > 200)=false→Ac5 w e x=false:=fun g1 g2=>by rw [Au4 g1 g2]; rfl
 have n2:∀ {α:Type} (l:List α),decide (nI l.length > 2000)=decide (l.length > 2000):=fun l=>by
  by_cases q:l.length > 2000
  ·rw [Ag q]; exact Ag (by simp only [nI]; omega)
  ·rw [Bh q]; exact Bh (by simp only [nI]; omega)
 have n1:∀ {α:Type} (l:List α),decide (nI l.length > 200)=decide (l.length > 200):=fun l=>by
  by_cases q:l.length > 200
  ·rw [Ag q]; exact Ag (by simp only [nI]; omega)
  ·rw [Bh q]; exact Bh (by simp only [nI]; omega)
 refine Am.cond (fun c3=>Am.cond (fun c4=>?_) fun c4=>?_) fun c3=>?_
 ·have c3':=Hm c3
  have c4':=Hm c4
  have hcb:Aln e x=decide (e.2.2.1≤nI x.2.2.1.length):=by unfold Aln; rw [Ag (show 0≤e.2.2.1 from c3'),Bool.true_and]
  have hcn:Aji e x=e.2.2.1:=by unfold Aji; rw [hcb,c4]; rfl
  refine Am.go (Ag (by omega)) ?_
  refine Am.bind (Azk c3' c4' ho (by rw [List.nil_append]; omega)) fun q hq=>?_
  obtain ⟨r',rfl,hr⟩:=hq
  dsimp only
  have hw:r'=Pt w e x:=by rw [hr]; unfold Pt; rw [hcn,List.nil_append]
  refine Am.cond (fun k=>Am.go (Ag (by omega)) (Am.go (Ag (by rw [List.nil_append,D9]; omega)) ?_)) fun k=>?_
  ·have hpast:[]++w.2.2.2.2.1++[(x.2.1.2.2.2.2.2.2.1.1,())]=Il w e x:=by unfold Il; rw [k]; rfl
   rw [hpast,n2 r',n1 (Il w e x),hw]
   refine Am.cond (fun d1=>Am.some (full1 d1).symm) fun d1=>Am.cond (fun d2=>Am.some (full2 d1 d2).symm) fun d2=>?_
   refine Am.bind (hperf _) fun q hq=>fin _ _ hcb hcn _ _ rfl rfl (full3 d1 d2) _ (fun g=>?_) fun g=>?_
   ·rw [g,hq]
    exact Am.bind (Aab _ _) fun q hq=>Am.some (by rw [hq]; rfl)
   ·rw [g,hq]
    refine Am.no rfl (Am.cond (fun z=>?_) fun _=>Am.some (by rw [k]; rfl))
    rw [beq_iff_eq.1 k] at z; cases z
  ·have hpast:w.2.2.2.2.1=Il w e x:=by unfold Il; rw [k]; rfl
   rw [n2 r',n1 w.2.2.2.2.1,hw,hpast]
   refine Am.cond (fun d1=>Am.some (full1 d1).symm) fun d1=>Am.cond (fun d2=>Am.some (full2 d1 d2).symm) fun d2=>?_
   refine Am.bind (hperf _) fun q hq=>fin _ _ hcb hcn _ _ rfl rfl (full3 d1 d2) _ (fun g=>?_) fun g=>?_
   ·rw [g,hq]
    exact Am.bind (Aab _ _) fun q hq=>Am.some (by rw [hq]; rfl)
   ·rw [g,hq]
    refine Am.no rfl (Am.cond (fun z=>Am.some (by rw [k]; rfl)) fun z=>?_)
    have:(e.1 != 2)=true:=by rw [bne,k]; rfl
    rw [this] at z; cases z
 ·have c3':=Hm c3
  have hcb:Aln e x=decide (e.2.2.1≤nI x.2.2.1.length):=by unfold Aln; rw [Ag (show 0≤e.2.2.1 from c3'),Bool.true_and]
  have hcn:Aji e x=nI x.2.2.1.length:=by unfold Aji; rw [hcb,c4]; rfl
  refine Am.go (Ag (by omega)) ?_
  refine Am.bind (Azk (by simp only [nI]; omega) (Int.le_refl _) ho (by rw [List.nil_append]; omega)) fun q hq=>?_
  obtain ⟨r',rfl,hr⟩:=hq
  dsimp only
  have hw:r'=Pt w e x:=by rw [hr]; unfold Pt; rw [hcn,List.nil_append]
  refine Am.cond (fun k=>Am.go (Ag (by omega)) (Am.go (Ag (by rw [List.nil_append,D9]; omega)) ?_)) fun k=>?_
  ·have hpast:[]++w.2.2.2.2.1++[(x.2.1.2.2.2.2.2.2.1.1,())]=Il w e x:=by unfold Il; rw [k]; rfl
   rw [hpast,n2 r',n1 (Il w e x),hw]
   refine Am.cond (fun d1=>Am.some (full1 d1).symm) fun d1=>Am.cond (fun d2=>Am.some (full2 d1 d2).symm) fun d2=>?_
   refine Am.bind (hperf _) fun q hq=>fin _ _ hcb hcn _ _ rfl rfl (full3 d1 d2) _ (fun g=>?_) fun g=>?_
   ·rw [g,hq]
    exact Am.bind (Aab _ _) fun q hq=>Am.some (by rw [hq]; rfl)
   ·rw [g,hq]
    refine Am.no rfl (Am.cond (fun z=>?_) fun _=>Am.some (by rw [k]; rfl))
    rw [beq_iff_eq.1 k] at z; cases z
  ·have hpast:w.2.2.2.2.1=Il w e x:=by unfold Il; rw [k]; rfl
   rw [n2 r',n1 w.2.2.2.2.1,hw,hpast]
   refine Am.cond (fun d1=>Am.some (full1 d1).symm) fun d1=>Am.cond (fun d2=>Am.some (full2 d1 d2).symm) fun d2=>?_
   refine Am.bind (hperf _) fun q hq=>fin _ _ hcb hcn _ _ rfl rfl (full3 d1 d2) _ (fun g=>?_) fun g=>?_
   ·rw [g,hq]
    exact Am.bind (Aab _ _) fun q hq=>Am.some (by rw [hq]; rfl)
   ·rw [g,hq]
    refine Am.no rfl (Am.cond (fun z=>Am.some (by rw [k]; rfl)) fun z=>?_)
    have:(e.1 != 2)=true:=by rw [bne,k]; rfl
    rw [this] at z; cases z
 ·have c3':=of_decide_eq_false c3
  have hcb:Aln e x=false:=by unfold Aln; rw [Bh (show ¬ 0≤e.2.2.1 from c3')]; rfl
  have hcn:Aji e x=nI x.2.2.1.length:=by unfold Aji; rw [hcb]; rfl
  refine Am.go (Ag (by omega)) ?_
  refine Am.bind (Azk (by simp only [nI]; omega) (Int.le_refl _) ho (by rw [List.nil_append]; omega)) fun q hq=>?_
  obtain ⟨r',rfl,hr⟩:=hq
  dsimp only
  have hw:r'=Pt w e x:=by rw [hr]; unfold Pt; rw [hcn,List.nil_append]
  refine Am.cond (fun k=>Am.go (Ag (by omega)) (Am.go (Ag (by rw [List.nil_append,D9]; omega)) ?_)) fun k=>?_
  ·have hpast:[]++w.2.2.2.2.1++[(x.2.1.2.2.2.2.2.2.1.1,())]=Il w e x:=by unfold Il; rw [k]; rfl
   rw [hpast,n2 r',n1 (Il w e x),hw]
   refine Am.cond (fun d1=>Am.some (full1 d1).symm) fun d1=>Am.cond (fun d2=>Am.some (full2 d1 d2).symm) fun d2=>?_
   refine Am.bind (hperf _) fun q hq=>fin _ _ hcb hcn _ _ rfl rfl (full3 d1 d2) _ (fun g=>?_) fun g=>?_
   ·cases g
   ·rw [hq]
    refine Am.no rfl (Am.cond (fun z=>?_) fun _=>Am.some (by rw [k]; rfl))
    rw [beq_iff_eq.1 k] at z; cases z
  ·have hpast:w.2.2.2.2.1=Il w e x:=by unfold Il; rw [k]; rfl
   rw [n2 r',n1 w.2.2.2.2.1,hw,hpast]
   refine Am.cond (fun d1=>Am.some (full1 d1).symm) fun d1=>Am.cond (fun d2=>Am.some (full2 d1 d2).symm) fun d2=>?_
   refine Am.bind (hperf _) fun q hq=>fin _ _ hcb hcn _ _ rfl rfl (full3 d1 d2) _ (fun g=>?_) fun g=>?_
   ·cases g
   ·rw [hq]
    refine Am.no rfl (Am.cond (fun z=>Am.some (by rw [k]; rfl)) fun z=>?_)
    have:(e.1 != 2)=true:=by rw [bne,k]; rfl
    rw [this] at z; cases z
def g8 {R:Type} (k:Kt R):=(Mh (Mq 13) (.exit 0) 2 k)
def Ale {R:Type}:Lt R Mq:=(Gc (pat:=Mq) 13 (fun d k=>(Al5 d).bind (g8 k)) Ky)
theorem Ahz:A1 Try.prog Ahw:=Bc ⟨b6,Alr,Aqn,trivial⟩
theorem Al6 {R:Type}:A7 Try.prog R 124 0 Mq Ale g7:=
 Cu (cfg:=⟨Ahw,0,124,Mq⟩) 13 [] (fun NX X (d:(Int)×(Bool)×(Int)×C5×m0×C5×Td×(List Ab)×Unit)=>(u4 (u4 Ah)) (K3  NX X) d) (fun m d=>(u4 (u4 Ah)) (Dm m) d) (fun d=>(u4 (u4 Ah)) Fj d) g8 Ahz trivial (fun f NX (d:(Int)×(Bool)×(Int)×C5×m0×C5×Td×(List Ab)×Unit)=>by simp only [u4,Ac,Ah]; unfold K3; simp only [nb])
theorem Ah0:Cp Try.prog 81 Z6:=
 Bd (pat:=Mq) [g7] Ale Ahz ⟨Al6,trivial⟩ Try.func81 (de:=fun x=>Sw x.1 x.2.1) (fun x r h=>by have q:Kl x.1 x.2.1=some r:=h; rw [Ahy] at q; exact q) fun _=>by kernel_rfl
def Cj:Ab:=zS
def Al7:Ji:=⟨[],[],[.rd .str],[none]⟩
def Nc:SD:=⟨Al7,fun x=>some (((Cj),()),(()))⟩
def g9  : Option ((((Ab)×Unit)×(Unit))):=
 some ((strOfNums (List.replicate (Int.toNat 64) 0),()),())
theorem Al8  : g9  = some ((Cj,()),(())):=rfl
theorem Rn:Cp Try.prog 43 Nc:=
 Bd (pat:=Ge) [] Ky (Bc (l:=[]) trivial) trivial Try.func43 (de:=fun x=>g9 ) (fun x r h=>(Al8 ).trans h) fun _=>by kernel_rfl
end Go.Proofs.Ytfkefgbihlfjmaa.V
end
