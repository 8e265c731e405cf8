/- What the functions that FnForged reaches come to: part 1. No condition. -/
import Derived.Test.YtfkefgbihlfjmaaGreatQBase
import Derived.Test.YtfkefgbihlfjmaaGreatTLay
import Derived.Test.YtfkefgbihlfjmaaGreatProg
import Derived.Test.YtfkefgbihlfjmaaGreatQS
import Derived.Test.YtfkefgbihlfjmaaGreatQD
import Derived.Test.YtfkefgbihlfjmaaGreatQA
import Derived.Test.YtfkefgbihlfjmaaGreatQO
import Derived.Test.YtfkefgbihlfjmaaGreatQL
import Derived.Test.YtfkefgbihlfjmaaGreatQW
import Derived.KernelRfl
namespace Go.Proofs.YtfkefgbihlfjmaaGreat.V
open Go Go.Proofs.YtfkefgbihlfjmaaGreat.R Go.Proofs
set_option maxRecDepth 100000
set_option linter.unusedVariables false
set_option linter.unusedSimpArgs false
def Al0:Sig:=⟨[.rd (.sl (.int .u8))],[none],[.bx 176 (.pair (.sl (.int .u8)) (.pair tI .unit))],[none]⟩
noncomputable def Np (a0:List Int):Option (((((List Int)×Int×Unit)×Unit)×(Unit))):=
 bif decide (nI a0.length > 2000) then bif decide (2000≤nI a0.length) then some (((List.drop (Int.toNat 0) (List.take (Int.toNat 2000) a0),0,()),()),()) else none else some (((a0,0,()),()),())
theorem Zk:∃ f,f=@Np:=⟨_,rfl⟩
noncomputable def m_spec_l1Open:=Classical.choose Zk
theorem Zl:@m_spec_l1Open=@Np:=Classical.choose_spec Zk
noncomputable def sd_spec_l1Open:SD:=⟨Al0,fun x=>m_spec_l1Open x.1⟩
theorem A3r (b:List Int) (h:o9 (.sl (.int .u8)) b):Ai (m_spec_l1Open b) fun r=>Kz 0 r.1.1:=by
 obtain ⟨_,h⟩:=h
 have hb:∀ l:List Int,(∀ x∈l,x∈b)→l.length≤2000→rdB l=true:=fun l h1 h2=>by
  unfold rdB
  rw [decide_eq_true h2,Bool.true_and,List.all_eq_true]
  intro x hx
  obtain ⟨i,hi,e⟩:=List.getElem_of_mem (h1 x hx)
  have q:=h i x (by rw [← e]; exact List.getElem?_eq_getElem hi)
  have q:(Lit.int .u8 x).wf=true:=q
  simp only [Lit.wf,Bool.and_eq_true,decide_eq_true_eq] at q
  simp only [Bool.and_eq_true,decide_eq_true_eq]
  have q1:(0:Int)≤x:=q.1
  have q2:x≤255:=q.2
  omega
 rw [Zl]
 unfold Np
 refine Ai.cond (fun c=>?_) fun c=>?_
 ·simp only [decide_eq_true_eq,nI] at c
  refine Ai.go (decide_eq_true (by simp only [nI]; omega)) (Ai.some ⟨hb _ (fun x hx=>List.mem_of_mem_take (List.mem_of_mem_drop hx)) ?_,Int.le_refl 0,Int.le_refl 0⟩)
  simp only [List.drop_zero,List.length_take,Int.toNat_zero]
  omega
 ·simp only [decide_eq_false_iff_not,nI] at c
  exact Ai.some ⟨hb _ (fun x hx=>hx) (by show b.length≤2000; omega),Int.le_refl 0,Int.le_refl 0⟩
theorem Al1:B2 Tryz.prog 61 sd_spec_l1Open:=
 A6 (pat:=D3) [] Hu (A7 (l:=[]) trivial) trivial Tryz.func61 (de:=fun x=>Np x.1) (fun x r h=>by have q:m_spec_l1Open x.1=some r:=h; rw [Zl] at q; exact q) fun _=>by kernel_rfl
def Ada (b:List Int) (p:Int):Int:=IntKind.i64.wrap (IntKind.i64.wrap (IntKind.i64.wrap (IntKind.i64.wrap (IntKind.i64.wrap (b.getD (p.tmod (nI b.length)).toNat 0) * 131) + IntKind.i64.wrap (IntKind.i64.wrap (b.getD ((IntKind.i64.wrap (IntKind.i64.wrap (p * 7) + 3)).tmod (nI b.length)).toNat 0) * 1117)) + IntKind.i64.wrap (p * 29)) + IntKind.i64.wrap (IntKind.i64.wrap (p.tdiv (nI b.length)) * 53))
def Al2 (b:List Int) (p n:Int):Int:=bif decide (n < 1) then 0 else bif nI b.length==0 then 0 else bif decide (p < nI b.length) then (IntKind.i64.wrap (b.getD p.toNat 0)).tmod n else
 (IntKind.i64.wrap (nI (BitVec.ofInt 64 (Ada b p) ^^^ BitVec.ofInt 64 (IntKind.i64.wrap ((Ada b p).tdiv 64))).toNat)).tmod n
theorem Ayd:∃ f:Rd→Int→Option (Int×Rd),f=fun r n=>if rdB r.1=true∧0≤r.2.1∧r.2.1 < 1099511627776 then some (Al2 r.1 r.2.1 n,(r.1,r.2.1 + 1,())) else none:=⟨_,rfl⟩
noncomputable def Aa (r:Rd) (n:Int):Option (Int×Rd):=Classical.choose Ayd r n
theorem Aye (r:Rd) (n:Int):Aa r n=if rdB r.1=true∧0≤r.2.1∧r.2.1 < 1099511627776 then some (Al2 r.1 r.2.1 n,(r.1,r.2.1 + 1,())) else none:=by
 unfold Aa
 rw [Classical.choose_spec Ayd]
def Aay:Sig:=⟨[.bx 176 (.pair (.sl (.int .u8)) (.pair tI .unit)),.rd tI],[none,none],[.rd tI],[none]⟩
noncomputable def sd_spec_l1Rd__pick:SD:=⟨Aay,fun x=>(Aa x.1 x.2.1).bind fun r=>some ((r.1,()),(r.2,()))⟩
noncomputable def Mo (a0:(List Int)×Int×Unit) (a1:Int):Option ((((Int)×Unit)×(((List Int)×Int×Unit)×Unit))):=
 bif decide (a1 < 1) then some ((0,()),(a0.1,IntKind.i64.wrap (a0.2.1 + 1),()),()) else bif nI (List.length a0.1)==0 then some ((0,()),(a0.1,IntKind.i64.wrap (a0.2.1 + 1),()),()) else bif decide (IntKind.i64.wrap (IntKind.i64.wrap (a0.2.1 + 1) - 1) < nI (List.length a0.1)) then bif decide (0≤IntKind.i64.wrap (IntKind.i64.wrap (a0.2.1 + 1) - 1)) then bif decide (IntKind.i64.wrap (IntKind.i64.wrap (a0.2.1 + 1) - 1) < nI (List.length a0.1)) then bif !decide (a1=0) then some (((IntKind.i64.wrap (List.getD a0.1 (IntKind.i64.wrap (IntKind.i64.wrap (a0.2.1 + 1) - 1)).toNat 0)).tmod a1,()),(a0.1,IntKind.i64.wrap (a0.2.1 + 1),()),()) else none else none else none else bif !decide (nI (List.length a0.1)=0) then bif decide (0≤(IntKind.i64.wrap (IntKind.i64.wrap (a0.2.1 + 1) - 1)).tmod (nI (List.length a0.1))) then bif decide ((IntKind.i64.wrap (IntKind.i64.wrap (a0.2.1 + 1) - 1)).tmod (nI (List.length a0.1)) < nI (List.length a0.1)) then bif !decide (nI (List.length a0.1)=0) then bif decide (0≤(IntKind.i64.wrap (IntKind.i64.wrap (IntKind.i64.wrap (IntKind.i64.wrap (a0.2.1 + 1) - 1) * 7) + 3)).tmod (nI (List.length a0.1))) then bif decide ((IntKind.i64.wrap (IntKind.i64.wrap (IntKind.i64.wrap (IntKind.i64.wrap (a0.2.1 + 1) - 1) * 7) + 3)).tmod (nI (List.length a0.1)) < nI (List.length a0.1)) then bif !decide (nI (List.length a0.1)=0) then bif !decide (a1=0) then some (((IntKind.i64.wrap (nI (BitVec.ofInt 64 (IntKind.i64.wrap (IntKind.i64.wrap (IntKind.i64.wrap (IntKind.i64.wrap (IntKind.i64.wrap (List.getD a0.1 ((IntKind.i64.wrap (IntKind.i64.wrap (a0.2.1 + 1) - 1)).tmod (nI (List.length a0.1))).toNat 0) * 131) + IntKind.i64.wrap (IntKind.i64.wrap (List.getD a0.1 ((IntKind.i64.wrap (IntKind.i64.wrap (IntKind.i64.wrap (IntKind.i64.wrap (a0.2.1 + 1) - 1) * 7) + 3)).tmod (nI (List.length a0.1))).toNat 0) * 1117)) + IntKind.i64.wrap (IntKind.i64.wrap (IntKind.i64.wrap (a0.2.1 + 1) - 1) * 29)) + IntKind.i64.wrap (IntKind.i64.wrap ((IntKind.i64.wrap (IntKind.i64.wrap (a0.2.1 + 1) - 1)).tdiv (nI (List.length a0.1))) * 53))) ^^^ BitVec.ofInt 64 (IntKind.i64.wrap ((IntKind.i64.wrap (IntKind.i64.wrap (IntKind.i64.wrap (IntKind.i64.wrap (IntKind.i64.wrap (List.getD a0.1 ((IntKind.i64.wrap (IntKind.i64.wrap (a0.2.1 + 1) - 1)).tmod (nI (List.length a0.1))).toNat 0) * 131) + IntKind.i64.wrap (IntKind.i64.wrap (List.getD a0.1 ((IntKind.i64.wrap (IntKind.i64.wrap (IntKind.i64.wrap (IntKind.i64.wrap (a0.2.1 + 1) - 1) * 7) + 3)).tmod (nI (List.length a0.1))).toNat 0) * 1117)) + IntKind.i64.wrap (IntKind.i64.wrap (IntKind.i64.wrap (a0.2.1 + 1) - 1) * 29)) + IntKind.i64.wrap (IntKind.i64.wrap ((IntKind.i64.wrap (IntKind.i64.wrap (a0.2.1 + 1) - 1)).tdiv (nI (List.length a0.1))) * 53))).tdiv 64))).toNat)).tmod a1,()),(a0.1,IntKind.i64.wrap (a0.2.1 + 1),()),()) else none else none else none else none else none else none else none else none
theorem A16 {b:List Int} {p:Int} (hb:rdB b=true) (h0:0≤p) (h1:p < 1099511627776) (hn:0 < b.length):0≤Ada b p∧Ada b p < 1125899906842624:=by
 have c1:=Awf hb (p.tmod (nI b.length)).toNat
 have c2:=Awf hb ((IntKind.i64.wrap (IntKind.i64.wrap (p * 7) + 3)).tmod (nI b.length)).toNat
 have c3:0≤p.tdiv (nI b.length)∧p.tdiv (nI b.length)≤p:=by
  rw [Int.tdiv_eq_ediv_of_nonneg h0]
  exact ⟨Int.ediv_nonneg h0 (by simp [nI]),Int.ediv_le_self _ h0⟩
 unfold Ada
 generalize b.getD (p.tmod (nI b.length)).toNat 0=x at *
 generalize b.getD ((IntKind.i64.wrap (IntKind.i64.wrap (p * 7) + 3)).tmod (nI b.length)).toNat 0=y at *
 generalize p.tdiv (nI b.length)=z at *
 rw [Ag (n:=x) (by omega) (by omega),Ag (n:=y) (by omega) (by omega),Ag (n:=z) (by omega) (by omega),Ag (n:=y * 1117) (by omega) (by omega),Ag (n:=x * 131) (by omega) (by omega),Ag (n:=p * 29) (by omega) (by omega),Ag (n:=z * 53) (by omega) (by omega),Ag (n:=x * 131 + y * 1117) (by omega) (by omega),Ag (n:=x * 131 + y * 1117 + p * 29) (by omega) (by omega),Ag (by omega) (by omega)]
 omega
theorem A17 {b:List Int} {p n:Int} (hb:rdB b=true) (h0:0≤p) (h1:p < 1099511627776):0≤Al2 b p n∧(1≤n→Al2 b p n < n)∧(n < 1→Al2 b p n=0):=by
 unfold Al2
 by_cases hn:n < 1
 ·rw [decide_eq_true hn]
  exact ⟨Int.le_refl 0,fun q=>by omega,fun _=>rfl⟩
 ·rw [decide_eq_false hn,cond_false]
  refine ⟨?_,fun _=>?_,fun q=>absurd q hn⟩
  all_goals
   by_cases hl:b.length=0
   ·rw [show (nI b.length==0)=true by simp [nI,hl]]
    simp only [cond_true]
    omega
   ·rw [show (nI b.length==0)=false by simp only [nI,beq_eq_false_iff_ne]; omega,cond_false]
    by_cases hp:p < nI b.length
    ·rw [decide_eq_true hp,cond_true]
     have c:=Awf hb p.toNat
     rw [Ag (by omega) (by omega)]
     have:=Ajv (x:=b.getD p.toNat 0) (n:=n) c.1 (by omega)
     omega
    ·rw [decide_eq_false hp,cond_false]
     obtain ⟨x0,x1⟩:=A16 hb h0 h1 (by omega)
     have t:0≤(Ada b p).tdiv 64∧(Ada b p).tdiv 64≤Ada b p:=by
      rw [Int.tdiv_eq_ediv_of_nonneg x0]
      omega
     rw [Ag (n:=(Ada b p).tdiv 64) (by omega) (by omega)]
     have:=Ajv (n:=n) (Azk x0 (by omega) t.1 (by omega)) (by omega)
     omega
theorem A3s {k:Nat} {r:Rd} (n:Int) (h:Kz k r) (hk:k < 1099511627776):∃ v,Aa r n=some (v,(r.1,r.2.1 + 1,()))∧0≤v∧(1≤n→v < n)∧(n < 1→v=0)∧Kz (k + 1) (r.1,r.2.1 + 1,()):=by
 obtain ⟨h1,h2,h3⟩:=h
 have hn:=A17 (n:=n) h1 h2 (by omega)
 exact ⟨_,by rw [Aye,if_pos ⟨h1,h2,by omega⟩],hn.1,hn.2.1,hn.2.2,h1,by show 0≤r.2.1 + 1; omega,by show r.2.1 + 1≤((k + 1:Nat):Int); omega⟩
theorem At {α:Type} {k:Nat} {r:Rd} {n:Int} {f:(Int×Unit)×Rd×Unit→Option α} {S:α→Prop} (h:Kz k r) (hk:k < 1099511627776) (hn:1≤n) (q:∀ v r',0≤v→v < n→Kz (k + 1) r'→Ai (f ((v,()),r',())) S):
  Ai (((Aa r n).bind fun val=>some ((val.1,()),val.2,())).bind f) S:=by
 obtain ⟨v,e,v0,v1,_,h'⟩:=A3s n h hk
 rw [e]
 exact q v _ v0 (v1 hn) h'
theorem Aaz (a0:(List Int)×Int×Unit) (a1:Int) r (h:Aa a0 a1=some r):Mo a0 a1=some ((r.1,()),(r.2,())):=by
 rw [Aye] at h
 split at h
 ·rename_i hc
  obtain ⟨hb,h0,h1⟩:=hc
  cases h
  unfold Mo
  have e1:IntKind.i64.wrap (a0.2.1 + 1)=a0.2.1 + 1:=Ag (by omega) (by omega)
  have e2:IntKind.i64.wrap (a0.2.1 + 1 - 1)=a0.2.1:=by rw [Ag (by omega) (by omega)]; omega
  simp only [e1,e2]
  unfold Al2
  by_cases hn:a1 < 1
  ·rw [decide_eq_true hn]; rfl
  ·rw [decide_eq_false hn]
   have hn0:decide (a1=0)=false:=decide_eq_false (by omega)
   simp only [cond_false]
   by_cases hl:a0.1.length=0
   ·rw [show (nI a0.1.length==0)=true by simp [nI,hl]]; rfl
   ·rw [show (nI a0.1.length==0)=false by simp only [nI,beq_eq_false_iff_ne]; omega]
    have hl0:decide (nI a0.1.length=0)=false:=decide_eq_false (by simp only [nI]; omega)
    simp only [cond_false]
    by_cases hp:a0.2.1 < nI a0.1.length
    ·rw [decide_eq_true hp,decide_eq_true h0,hn0]; rfl
    ·have t1:=Ajv (n:=nI a0.1.length) h0 (by simp only [nI]; omega)
     have w7:IntKind.i64.wrap (IntKind.i64.wrap (a0.2.1 * 7) + 3)=a0.2.1 * 7 + 3:=by rw [Ag (n:=a0.2.1 * 7) (by omega) (by omega),Ag (by omega) (by omega)]
     have t2:=Ajv (x:=a0.2.1 * 7 + 3) (n:=nI a0.1.length) (by omega) (by simp only [nI]; omega)
     rw [← w7] at t2
     rw [decide_eq_false hp,hl0,hn0,decide_eq_true t1.1,decide_eq_true t1.2,decide_eq_true t2.1,decide_eq_true t2.2]
     rfl
 ·cases h
theorem Bm:B2 Tryz.prog 63 sd_spec_l1Rd__pick:=
 A6 (pat:=D3) [] Hu (A7 (l:=[]) trivial) trivial Tryz.func63 (de:=fun x=>Mo x.1 x.2.1) (fun x r h=>Hv (Aaz x.1 x.2.1) h) fun _=>by kernel_rfl
def C1 (s:Stt):Option Stt:=if s.1.length≤1000000 then some (s.1,()) else none
def Al3:Sig:=⟨[.rd Ci],[some 1],[.own 157 Av],[some 1]⟩
noncomputable def sd_spec_l4Copy:SD:=⟨Al3,fun x=>(C1 x.1).bind fun r=>some ((r.1,()),(()))⟩
noncomputable def Rw (a0:Stt):Option ((Stt×(Unit))):=
 bif decide ((0 + List.length a0.1) * 32≤140737488355328) then some (([]++a0.1,()),()) else none
theorem Al4 (a0:Stt) r (h:C1 a0=some r):Rw a0=some ((r.1,()),(())):=by
 unfold C1 at h
 split at h
 ·rename_i hc
  cases h
  unfold Rw
  rw [decide_eq_true (show (0 + a0.1.length) * 32≤140737488355328 by omega)]
  rfl
 ·cases h
theorem Nq:B2 Tryz.prog 77 sd_spec_l4Copy:=
 A6 (pat:=D3) [] Hu (A7 (l:=[]) trivial) trivial Tryz.func77 (de:=fun x=>Rw x.1) (fun x r h=>Hv (Al4 x.1) h) fun _=>by kernel_rfl
def Cr (d:Dk):Option Dk:=if d.1.length≤1099511627776∧d.2.1.length≤1099511627776 then some d else none
def Al5:Sig:=⟨[.rd yDk],[some 2],[.own 9 .str,.own 174 Da],[some 2]⟩
noncomputable def sd_spec_l2Copy:SD:=⟨Al5,fun x=>(Cr x.1).bind fun r=>some ((r.1,r.2.1,()),(()))⟩
noncomputable def Rx (a0:Dk):Option ((Dk×(Unit))):=
 bif decide ((0 + List.length a0.1) * 16≤140737488355328) then bif decide ((0 + List.length a0.2.1) * 24≤140737488355328) then some (([]++a0.1,[]++a0.2.1,()),()) else none else none
theorem Al6 (a0:Dk) r (h:Cr a0=some r):Rx a0=some ((r.1,r.2.1,()),(())):=by
 unfold Cr at h
 split at h
 ·rename_i hc
  cases h
  unfold Rx
  have c1:(0 + List.length a0.1) * 16≤140737488355328:=by omega
  have c2:(0 + List.length a0.2.1) * 24≤140737488355328:=by omega
  rw [decide_eq_true c1,decide_eq_true c2]
  rfl
 ·cases h
theorem I8:B2 Tryz.prog 187 sd_spec_l2Copy:=
 A6 (pat:=D3) [] Hu (A7 (l:=[]) trivial) trivial Tryz.func187 (de:=fun x=>Rx x.1) (fun x r h=>Hv (Al6 x.1) h) fun _=>by kernel_rfl
def Al7:Sig:=⟨[.rd Fr],[some 16],[.rd tI,.own 9 .str,.own 174 Da,.rd .bool,.rd tI,.rd tI,.rd tI,.rd tI,.rd tI,.rd tI,.rd tI,.rd tI,.rd tI,.rd (.sl Av),.own 31 Ci,.own 9 .str],[some 16]⟩
noncomputable def ta_spec_l7Copy:Tb:=tb [(77,sd_spec_l4Copy),(187,sd_spec_l2Copy)]
def pa_spec_l7Copy:Nat→Pat×(Nat→Pat):=Gf [(7,⟨[.boxSl 1 1 .str,.boxSl 1 2 Da,.boxSl 1 13 Av,.boxSl 1 14 Ci,.boxSl 1 15 .str,.boxSl 2 1 .str,.boxSl 2 2 Da,.boxSl 2 13 Av,.boxSl 2 14 Ci,.boxSl 2 15 .str,.boxRow 3 1 9 .str,.boxRow 3 2 174 Da,.boxSl 3 13 Av,.boxRow 3 14 31 Ci,.boxSl 3 15 .str],[(1,.lf (.ptr 0 0)),(2,.lf (.ptr 1 0)),(3,.lf (.ptr 2 0)),(4,.lf (.d tI))],[.box 36 [.d Fr],.box 36 [.d Fr],.box 36 [.d tI,.row 3,.row 4,.d .bool,.d tI,.d tI,.d tI,.d tI,.d tI,.d tI,.d tI,.d tI,.d tI,.d (.sl Av),.row 5,.d (.sl .str)],.row 9 .str,.row 174 Da,.row 31 Ci]⟩,[(2,⟨[.boxSl 1 1 .str,.boxSl 1 2 Da,.boxSl 1 13 Av,.boxSl 1 14 Ci,.boxSl 1 15 .str,.boxSl 2 1 .str,.boxSl 2 2 Da,.boxSl 2 13 Av,.boxSl 2 14 Ci,.boxSl 2 15 .str,.boxRow 3 1 9 .str,.boxRow 3 2 174 Da,.boxSl 3 13 Av,.boxRow 3 14 31 Ci,.boxSl 3 15 .str],[(1,.lf (.ptr 0 0)),(2,.lf (.ptr 1 0)),(3,.lf (.ptr 2 0))],[.box 36 [.d Fr],.box 36 [.d Fr],.box 36 [.d tI,.row 3,.row 4,.d .bool,.d tI,.d tI,.d tI,.d tI,.d tI,.d tI,.d tI,.d tI,.d tI,.d (.sl Av),.row 5,.d (.sl .str)],.row 9 .str,.row 174 Da,.row 31 Ci]⟩)])]
noncomputable def co_spec_l7Copy_7:Code:=(As (Ba Tryz.f130)).getD 0 .skip
def G1 (v4:Int) (b0:Wld) (b1:Wld) (b2_0:Int) (b2_3:Bool) (b2_4:Int) (b2_5:Int) (b2_6:Int) (b2_7:Int) (b2_8:Int) (b2_9:Int) (b2_10:Int) (b2_11:Int) (b2_12:Int) (b2_13:List Pr2) (b2_15:List ByteArray) (r3:List ByteArray) (r4:List Wr) (r5:List Stt):Nat:=((List.length b0.2.2.2.2.1:Int) - v4).toNat + 1
noncomputable def I9 {R:Type}  (NX:((Int)×Wld×Wld×(Int)×(Bool)×(Int)×(Int)×(Int)×(Int)×(Int)×(Int)×(Int)×(Int)×(Int)×(List Pr2)×(List ByteArray)×(List ByteArray)×(List Wr)×(List Stt)×Unit)→Option R) (X2:(Wld×Wld×(Int)×(Bool)×(Int)×(Int)×(Int)×(Int)×(Int)×(Int)×(Int)×(Int)×(Int)×(List Pr2)×(List ByteArray)×(List ByteArray)×(List Wr)×(List Stt)×Unit)→Option R) (v4:Int) (b0:Wld) (b1:Wld) (b2_0:Int) (b2_3:Bool) (b2_4:Int) (b2_5:Int) (b2_6:Int) (b2_7:Int) (b2_8:Int) (b2_9:Int) (b2_10:Int) (b2_11:Int) (b2_12:Int) (b2_13:List Pr2) (b2_15:List ByteArray) (r3:List ByteArray) (r4:List Wr) (r5:List Stt):Option R:=
 bif decide (v4 < nI (List.length b0.2.2.2.2.1)) then bif decide (0≤v4) then bif decide (v4 < nI (List.length b0.2.2.2.2.1)) then ((C1 (List.getD b0.2.2.2.2.1 v4.toNat ([],()))).bind fun val=>some (val,())).bind fun val=>bif decide ((r5.length + [val.1].length) * 24≤140737488355328) then NX (IntKind.i64.wrap (v4 + 1),b0,b1,b2_0,b2_3,b2_4,b2_5,b2_6,b2_7,b2_8,b2_9,b2_10,b2_11,b2_12,b2_13,b2_15,r3,r4,r5++[val.1],()) else none else none else none else X2 (b0,b1,b2_0,b2_3,b2_4,b2_5,b2_6,b2_7,b2_8,b2_9,b2_10,b2_11,b2_12,b2_13,b2_15,r3,r4,r5,())
noncomputable def Er:Nat→(Int)→Wld→Wld→(Int)→(Bool)→(Int)→(Int)→(Int)→(Int)→(Int)→(Int)→(Int)→(Int)→(Int)→(List Pr2)→(List ByteArray)→(List ByteArray)→(List Wr)→(List Stt) →  Option (Wld×Wld×(Int)×(Bool)×(Int)×(Int)×(Int)×(Int)×(Int)×(Int)×(Int)×(Int)×(Int)×(List Pr2)×(List ByteArray)×(List ByteArray)×(List Wr)×(List Stt)×Unit)
 | 0,_,_,_,_,_,_,_,_,_,_,_,_,_,_,_,_,_,_,_=>none
 | m + 1,v4,b0,b1,b2_0,b2_3,b2_4,b2_5,b2_6,b2_7,b2_8,b2_9,b2_10,b2_11,b2_12,b2_13,b2_15,r3,r4,r5=>I9  (fun d=>Er m d.1 d.2.1 d.2.2.1 d.2.2.2.1 d.2.2.2.2.1 d.2.2.2.2.2.1 d.2.2.2.2.2.2.1 d.2.2.2.2.2.2.2.1 d.2.2.2.2.2.2.2.2.1 d.2.2.2.2.2.2.2.2.2.1 d.2.2.2.2.2.2.2.2.2.2.1 d.2.2.2.2.2.2.2.2.2.2.2.1 d.2.2.2.2.2.2.2.2.2.2.2.2.1 d.2.2.2.2.2.2.2.2.2.2.2.2.2.1 d.2.2.2.2.2.2.2.2.2.2.2.2.2.2.1 d.2.2.2.2.2.2.2.2.2.2.2.2.2.2.2.1 d.2.2.2.2.2.2.2.2.2.2.2.2.2.2.2.2.1 d.2.2.2.2.2.2.2.2.2.2.2.2.2.2.2.2.2.1 d.2.2.2.2.2.2.2.2.2.2.2.2.2.2.2.2.2.2.1) (fun d=>some (d)) v4 b0 b1 b2_0 b2_3 b2_4 b2_5 b2_6 b2_7 b2_8 b2_9 b2_10 b2_11 b2_12 b2_13 b2_15 r3 r4 r5
noncomputable def Nr (a0:Wld):Option ((((Int)×(List ByteArray)×(List Wr)×(Bool)×(Int)×(Int)×(Int)×(Int)×(Int)×(Int)×(Int)×(Int)×(Int)×(List Pr2)×(List Stt)×(List ByteArray)×Unit)×(Unit))):=
 ((Cr a0.2.1).bind fun val=>some (val,())).bind fun val=>((C1 a0.2.2.2.1.2.2.2.2.2.2.1).bind fun val=>some (val,())).bind fun val_1=>((fun d=>Er (G1 d.1 d.2.1 d.2.2.1 d.2.2.2.1 d.2.2.2.2.1 d.2.2.2.2.2.1 d.2.2.2.2.2.2.1 d.2.2.2.2.2.2.2.1 d.2.2.2.2.2.2.2.2.1 d.2.2.2.2.2.2.2.2.2.1 d.2.2.2.2.2.2.2.2.2.2.1 d.2.2.2.2.2.2.2.2.2.2.2.1 d.2.2.2.2.2.2.2.2.2.2.2.2.1 d.2.2.2.2.2.2.2.2.2.2.2.2.2.1 d.2.2.2.2.2.2.2.2.2.2.2.2.2.2.1 d.2.2.2.2.2.2.2.2.2.2.2.2.2.2.2.1 d.2.2.2.2.2.2.2.2.2.2.2.2.2.2.2.2.1 d.2.2.2.2.2.2.2.2.2.2.2.2.2.2.2.2.2.1 d.2.2.2.2.2.2.2.2.2.2.2.2.2.2.2.2.2.2.1) d.1 d.2.1 d.2.2.1 d.2.2.2.1 d.2.2.2.2.1 d.2.2.2.2.2.1 d.2.2.2.2.2.2.1 d.2.2.2.2.2.2.2.1 d.2.2.2.2.2.2.2.2.1 d.2.2.2.2.2.2.2.2.2.1 d.2.2.2.2.2.2.2.2.2.2.1 d.2.2.2.2.2.2.2.2.2.2.2.1 d.2.2.2.2.2.2.2.2.2.2.2.2.1 d.2.2.2.2.2.2.2.2.2.2.2.2.2.1 d.2.2.2.2.2.2.2.2.2.2.2.2.2.2.1 d.2.2.2.2.2.2.2.2.2.2.2.2.2.2.2.1 d.2.2.2.2.2.2.2.2.2.2.2.2.2.2.2.2.1 d.2.2.2.2.2.2.2.2.2.2.2.2.2.2.2.2.2.1 d.2.2.2.2.2.2.2.2.2.2.2.2.2.2.2.2.2.2.1) (0,a0,(0,([],[],()),false,(0,0,0,(0,0,0,0,()),0,0,([],()),()),[],[],()),a0.1,a0.2.2.1,a0.2.2.2.1.1,a0.2.2.2.1.2.1,a0.2.2.2.1.2.2.1,a0.2.2.2.1.2.2.2.1.1,a0.2.2.2.1.2.2.2.1.2.1,a0.2.2.2.1.2.2.2.1.2.2.1,a0.2.2.2.1.2.2.2.1.2.2.2.1,a0.2.2.2.1.2.2.2.2.1,a0.2.2.2.1.2.2.2.2.2.1,val_1.1.1,a0.2.2.2.2.2.1,val.1.1,val.1.2.1,[],())).bind fun val=>bif decide ((0 + List.length val.1.2.2.2.2.2.1) * 16≤140737488355328) then some ((val.2.2.1,val.2.2.2.2.2.2.2.2.2.2.2.2.2.2.2.1,val.2.2.2.2.2.2.2.2.2.2.2.2.2.2.2.2.1,val.2.2.2.1,val.2.2.2.2.1,val.2.2.2.2.2.1,val.2.2.2.2.2.2.1,val.2.2.2.2.2.2.2.1,val.2.2.2.2.2.2.2.2.1,val.2.2.2.2.2.2.2.2.2.1,val.2.2.2.2.2.2.2.2.2.2.1,val.2.2.2.2.2.2.2.2.2.2.2.1,val.2.2.2.2.2.2.2.2.2.2.2.2.1,val.2.2.2.2.2.2.2.2.2.2.2.2.2.1,val.2.2.2.2.2.2.2.2.2.2.2.2.2.2.2.2.2.1,[]++val.1.2.2.2.2.2.1,()),()) else none
theorem Zm:∃ f,f=@Nr:=⟨_,rfl⟩
noncomputable def m_spec_l7Copy:=Classical.choose Zm
theorem Zn:@m_spec_l7Copy=@Nr:=Classical.choose_spec Zm
noncomputable def sd_spec_l7Copy:SD:=⟨Al7,fun x=>m_spec_l7Copy x.1⟩
theorem Ayf (b0:Wld) (b1:Wld) (b2_0:Int) (b2_3:Bool) (b2_4:Int) (b2_5:Int) (b2_6:Int) (b2_7:Int) (b2_8:Int) (b2_9:Int) (b2_10:Int) (b2_11:Int) (b2_12:Int) (b2_13:List Pr2) (b2_15:List ByteArray) (r3:List ByteArray) (r4:List Wr) (hs:∀ x∈b0.2.2.2.2.1,Aj x=true) (hn:b0.2.2.2.2.1.length≤200):∀ (k m i:Nat) (r:List Stt),i + k=b0.2.2.2.2.1.length→k < m→r.length=i→r=b0.2.2.2.2.1.take i→
  ∃ r':List Stt,Er m i b0 b1 b2_0 b2_3 b2_4 b2_5 b2_6 b2_7 b2_8 b2_9 b2_10 b2_11 b2_12 b2_13 b2_15 r3 r4 r=some (b0,b1,b2_0,b2_3,b2_4,b2_5,b2_6,b2_7,b2_8,b2_9,b2_10,b2_11,b2_12,b2_13,b2_15,r3,r4,r',())∧r'=b0.2.2.2.2.1
 | 0,m + 1,i,r,hi,_,hr,hv=>by
  refine ⟨r,?_,by rw [hv,List.take_of_length_le (by omega)]⟩
  simp only [Er,I9]
  rw [decide_eq_false (show ¬ (i:Int) < nI b0.2.2.2.2.1.length by simp only [nI]; omega)]
  rfl
 | k + 1,m + 1,i,r,hi,hm,hr,hv=>by
  have e1:IntKind.i64.wrap ((i:Int) + 1)=((i + 1:Nat):Int):=wI (by omega)
  have d2:decide ((i:Int) < nI b0.2.2.2.2.1.length)=true:=decide_eq_true (by simp only [nI]; omega)
  have hx:Aj (b0.2.2.2.2.1.getD i s5)=true:=Awg (l:=b0.2.2.2.2.1) (d:=s5) (v:=(i:Int)) (Q:=fun x=>Aj x=true) hs (by omega) (by simp only [nI]; omega)
  have e2:C1 (b0.2.2.2.2.1.getD (Int.toNat (i:Int)) ([],()))=some (b0.2.2.2.2.1.getD i s5):=(if_pos (show (b0.2.2.2.2.1.getD i s5).1.length≤1000000 from Nat.le_trans (De hx) (by decide)))
  simp only [Er,I9,d2,H2,e1,e2,cond_true,List.length_singleton,Option.bind_some]
  have d3:decide ((r.length + 1) * 24≤140737488355328)=true:=decide_eq_true (by omega)
  rw [d3]
  exact Ayf b0 b1 b2_0 b2_3 b2_4 b2_5 b2_6 b2_7 b2_8 b2_9 b2_10 b2_11 b2_12 b2_13 b2_15 r3 r4 hs hn k m (i + 1) (r++[b0.2.2.2.2.1.getD i s5]) (by omega) (by omega) (by rw [List.length_append,List.length_singleton,hr]) (by rw [hv]; exact (Aui (by omega)).symm)
theorem A5h {b0:Wld} {b1:Wld} {b2_0:Int} {b2_3:Bool} {b2_4:Int} {b2_5:Int} {b2_6:Int} {b2_7:Int} {b2_8:Int} {b2_9:Int} {b2_10:Int} {b2_11:Int} {b2_12:Int} {b2_13:List Pr2} {b2_15:List ByteArray} {r3:List ByteArray} {r4:List Wr} (hs:∀ x∈b0.2.2.2.2.1,Aj x=true) (hn:b0.2.2.2.2.1.length≤200):
  Ai (Er (G1 0 b0 b1 b2_0 b2_3 b2_4 b2_5 b2_6 b2_7 b2_8 b2_9 b2_10 b2_11 b2_12 b2_13 b2_15 r3 r4 []) 0 b0 b1 b2_0 b2_3 b2_4 b2_5 b2_6 b2_7 b2_8 b2_9 b2_10 b2_11 b2_12 b2_13 b2_15 r3 r4 []) fun q=>∃ r':List Stt,q=(b0,b1,b2_0,b2_3,b2_4,b2_5,b2_6,b2_7,b2_8,b2_9,b2_10,b2_11,b2_12,b2_13,b2_15,r3,r4,r',())∧r'=b0.2.2.2.2.1:=by
 obtain ⟨r',q1,q2⟩:=Ayf b0 b1 b2_0 b2_3 b2_4 b2_5 b2_6 b2_7 b2_8 b2_9 b2_10 b2_11 b2_12 b2_13 b2_15 r3 r4 hs hn b0.2.2.2.2.1.length (G1 0 b0 b1 b2_0 b2_3 b2_4 b2_5 b2_6 b2_7 b2_8 b2_9 b2_10 b2_11 b2_12 b2_13 b2_15 r3 r4 []) 0 [] (by omega) (by simp only [G1]; omega) rfl rfl
 exact ⟨_,q1,r',rfl,q2⟩
theorem Ajw {w:Wld} (h:Yp w):Ai (m_spec_l7Copy w) fun q=>unW q.1=w:=by
 rw [Zn]
 unfold Nr
 have hd:=h.d
 simp only [G0,Bool.and_eq_true,decide_eq_true_eq] at hd
 have c1:Ai ((Cr w.2.1).bind fun val=>some (val,())) fun q=>q=(w.2.1,()):=Ai.bind ⟨_,if_pos ⟨Nat.le_trans hd.1.1 (by decide),Nat.le_trans hd.2.1.1 (by decide)⟩,rfl⟩ fun a ha=>Ai.some (by rw [ha])
 have c2:Ai ((C1 w.2.2.2.1.2.2.2.2.2.2.1).bind fun val=>some (val,())) fun q=>q=(w.2.2.2.1.2.2.2.2.2.2.1,()):=Ai.bind ⟨_,if_pos (Nat.le_trans (De h.s) (by decide)),rfl⟩ fun a ha=>Ai.some (by subst ha; rfl)
 refine Ai.bind c1 fun q hq=>?_
 subst hq
 refine Ai.bind c2 fun q hq=>?_
 subst hq
 refine Ai.bind (A5h h.p h.n) fun q hq=>?_
 obtain ⟨r',rfl,q2⟩:=hq
 subst q2
 dsimp only
 have hl:=h.l
 exact Ai.go (decide_eq_true (by omega)) (Ai.some rfl)
noncomputable def Vn {R:Type} (k:Kt R):=(I1 (pa_spec_l7Copy 7) (.exit 0) 2 k)
noncomputable def s7 {R:Type}:Lt R pa_spec_l7Copy:=(Ed (pat:=pa_spec_l7Copy) 7 (fun d k=>(Er (G1 d.1 d.2.1 d.2.2.1 d.2.2.2.1 d.2.2.2.2.1 d.2.2.2.2.2.1 d.2.2.2.2.2.2.1 d.2.2.2.2.2.2.2.1 d.2.2.2.2.2.2.2.2.1 d.2.2.2.2.2.2.2.2.2.1 d.2.2.2.2.2.2.2.2.2.2.1 d.2.2.2.2.2.2.2.2.2.2.2.1 d.2.2.2.2.2.2.2.2.2.2.2.2.1 d.2.2.2.2.2.2.2.2.2.2.2.2.2.1 d.2.2.2.2.2.2.2.2.2.2.2.2.2.2.1 d.2.2.2.2.2.2.2.2.2.2.2.2.2.2.2.1 d.2.2.2.2.2.2.2.2.2.2.2.2.2.2.2.2.1 d.2.2.2.2.2.2.2.2.2.2.2.2.2.2.2.2.2.1 d.2.2.2.2.2.2.2.2.2.2.2.2.2.2.2.2.2.2.1) d.1 d.2.1 d.2.2.1 d.2.2.2.1 d.2.2.2.2.1 d.2.2.2.2.2.1 d.2.2.2.2.2.2.1 d.2.2.2.2.2.2.2.1 d.2.2.2.2.2.2.2.2.1 d.2.2.2.2.2.2.2.2.2.1 d.2.2.2.2.2.2.2.2.2.2.1 d.2.2.2.2.2.2.2.2.2.2.2.1 d.2.2.2.2.2.2.2.2.2.2.2.2.1 d.2.2.2.2.2.2.2.2.2.2.2.2.2.1 d.2.2.2.2.2.2.2.2.2.2.2.2.2.2.1 d.2.2.2.2.2.2.2.2.2.2.2.2.2.2.2.1 d.2.2.2.2.2.2.2.2.2.2.2.2.2.2.2.2.1 d.2.2.2.2.2.2.2.2.2.2.2.2.2.2.2.2.2.1 d.2.2.2.2.2.2.2.2.2.2.2.2.2.2.2.2.2.2.1).bind (Vn k)) Hu)
theorem Zo:A2 Tryz.prog ta_spec_l7Copy:=A7 ⟨Nq,I8,trivial⟩
theorem Afs {R:Type}:A3 Tryz.prog R 42 0 pa_spec_l7Copy s7 co_spec_l7Copy_7:=
 B3 (cfg:=⟨ta_spec_l7Copy,0,42,pa_spec_l7Copy⟩) 7 [] (fun NX X (d:(Int)×Wld×Wld×(Int)×(Bool)×(Int)×(Int)×(Int)×(Int)×(Int)×(Int)×(Int)×(Int)×(Int)×(List Pr2)×(List ByteArray)×(List ByteArray)×(List Wr)×(List Stt)×Unit)=>I9  NX X d.1 d.2.1 d.2.2.1 d.2.2.2.1 d.2.2.2.2.1 d.2.2.2.2.2.1 d.2.2.2.2.2.2.1 d.2.2.2.2.2.2.2.1 d.2.2.2.2.2.2.2.2.1 d.2.2.2.2.2.2.2.2.2.1 d.2.2.2.2.2.2.2.2.2.2.1 d.2.2.2.2.2.2.2.2.2.2.2.1 d.2.2.2.2.2.2.2.2.2.2.2.2.1 d.2.2.2.2.2.2.2.2.2.2.2.2.2.1 d.2.2.2.2.2.2.2.2.2.2.2.2.2.2.1 d.2.2.2.2.2.2.2.2.2.2.2.2.2.2.2.1 d.2.2.2.2.2.2.2.2.2.2.2.2.2.2.2.2.1 d.2.2.2.2.2.2.2.2.2.2.2.2.2.2.2.2.2.1 d.2.2.2.2.2.2.2.2.2.2.2.2.2.2.2.2.2.2.1) (fun m d=>Er m d.1 d.2.1 d.2.2.1 d.2.2.2.1 d.2.2.2.2.1 d.2.2.2.2.2.1 d.2.2.2.2.2.2.1 d.2.2.2.2.2.2.2.1 d.2.2.2.2.2.2.2.2.1 d.2.2.2.2.2.2.2.2.2.1 d.2.2.2.2.2.2.2.2.2.2.1 d.2.2.2.2.2.2.2.2.2.2.2.1 d.2.2.2.2.2.2.2.2.2.2.2.2.1 d.2.2.2.2.2.2.2.2.2.2.2.2.2.1 d.2.2.2.2.2.2.2.2.2.2.2.2.2.2.1 d.2.2.2.2.2.2.2.2.2.2.2.2.2.2.2.1 d.2.2.2.2.2.2.2.2.2.2.2.2.2.2.2.2.1 d.2.2.2.2.2.2.2.2.2.2.2.2.2.2.2.2.2.1 d.2.2.2.2.2.2.2.2.2.2.2.2.2.2.2.2.2.2.1) (fun d=>G1 d.1 d.2.1 d.2.2.1 d.2.2.2.1 d.2.2.2.2.1 d.2.2.2.2.2.1 d.2.2.2.2.2.2.1 d.2.2.2.2.2.2.2.1 d.2.2.2.2.2.2.2.2.1 d.2.2.2.2.2.2.2.2.2.1 d.2.2.2.2.2.2.2.2.2.2.1 d.2.2.2.2.2.2.2.2.2.2.2.1 d.2.2.2.2.2.2.2.2.2.2.2.2.1 d.2.2.2.2.2.2.2.2.2.2.2.2.2.1 d.2.2.2.2.2.2.2.2.2.2.2.2.2.2.1 d.2.2.2.2.2.2.2.2.2.2.2.2.2.2.2.1 d.2.2.2.2.2.2.2.2.2.2.2.2.2.2.2.2.1 d.2.2.2.2.2.2.2.2.2.2.2.2.2.2.2.2.2.1 d.2.2.2.2.2.2.2.2.2.2.2.2.2.2.2.2.2.2.1) Vn Zo trivial (fun f NX (d:(Int)×Wld×Wld×(Int)×(Bool)×(Int)×(Int)×(Int)×(Int)×(Int)×(Int)×(Int)×(Int)×(Int)×(List Pr2)×(List ByteArray)×(List ByteArray)×(List Wr)×(List Stt)×Unit)=>by unfold I9; simp only [Al,Ar,Ak,Option.bind_assoc,Option.bind_none,Option.bind_some]) (fun _ _ _=>by kernel_rfl)
theorem Zp:B2 Tryz.prog 130 sd_spec_l7Copy:=
 A6 (pat:=pa_spec_l7Copy) [co_spec_l7Copy_7] s7 Zo ⟨Afs,trivial⟩ Tryz.func130 (de:=fun x=>Nr x.1) (fun x r h=>by have q:m_spec_l7Copy x.1=some r:=h; rw [Zn] at q; exact q) fun _=>by kernel_rfl
def G2 (d:Dk) (at_:Int) (data:ByteArray):Bool:=l6 d.1.length (at_,data,())
def Adb:Sig:=⟨[.rd yDk,.rd tI,.rd .str],[some 2,none,none],[.rd .bool],[none]⟩
noncomputable def sd_spec_l2WriteOk:SD:=⟨Adb,fun x=>some (((G2 x.1 x.2.1 x.2.2.1),()),(()))⟩
noncomputable def Ns (a0:Dk) (a1:Int) (a2:ByteArray):Option ((((Bool)×Unit)×(Unit))):=
 bif decide (a1≥0) then bif decide (a1 < nI (List.length a0.1)) then some ((nI a2.size==64,()),()) else some ((false,()),()) else some ((false,()),())
theorem Adc (a0:Dk) (a1:Int) (a2:ByteArray):Ns a0 a1 a2=some ((G2 a0 a1 a2,()),()):=by
 unfold Ns G2 l6
 have e:(nI (ByteArray.size a2)==64)=decide (a2.size=64):=by
  have:=Aza a2.size 64
  simp only [bne] at this
  cases h:(nI (ByteArray.size a2)==((64:Nat):Int))<;>rw [h] at this<;>cases h2:decide (a2.size=64)<;>rw [h2] at this<;>first | (cases this; done) | exact h
 rw [e]
 by_cases h1:a1≥0
 ·have:decide (0≤a1)=true:=by simpa using h1
  rw [decide_eq_true h1]
  simp only [this,cond_true,Bool.true_and,nI]
  cases decide (a1 < (a0.1.length:Int))<;>rfl
 ·have:decide (0≤a1)=false:=by simpa using h1
  rw [decide_eq_false h1]
  simp only [this]
  rfl
theorem Tu:B2 Tryz.prog 157 sd_spec_l2WriteOk:=
 A6 (pat:=D3) [] Hu (A7 (l:=[]) trivial) trivial Tryz.func157 (de:=fun x=>Ns x.1 x.2.1 x.2.2.1) (fun x r h=>(Adc x.1 x.2.1 x.2.2.1).trans h) fun _=>by kernel_rfl
def Dr (d:Dk):Bool:=A0 d
def Ade:Sig:=⟨[.rd yDk],[some 2],[.rd .bool],[none]⟩
noncomputable def sd_spec_ValidDisk:SD:=⟨Ade,fun x=>some (((Dr x.1),()),(()))⟩
noncomputable def ta_spec_ValidDisk:Tb:=tb [(157,sd_spec_l2WriteOk)]
def pa_spec_ValidDisk:Nat→Pat×(Nat→Pat):=Gf [(5,⟨[.boxSl 1 0 .str,.boxSl 1 1 Da],[(1,.lf (.ptr 0 0)),(3,.lf (.d tI))],[.box 26 [.d (.sl .str),.d (.sl Da)]]⟩,[(2,⟨[.boxSl 1 0 .str,.boxSl 1 1 Da],[(1,.lf (.ptr 0 0))],[.box 26 [.d (.sl .str),.d (.sl Da)]]⟩),(1,⟨[],[(2,.lf (.d .bool))],[]⟩)]),(10,⟨[.boxSl 1 0 .str,.boxSl 1 1 Da],[(1,.lf (.ptr 0 0)),(4,.lf (.d tI))],[.box 26 [.d (.sl .str),.d (.sl Da)]]⟩,[(4,p0),(1,⟨[],[(2,.lf (.d .bool))],[]⟩)])]
noncomputable def co_spec_ValidDisk_5:Code:=(As (Ba Tryz.f66)).getD 0 .skip
noncomputable def co_spec_ValidDisk_10:Code:=(As (Ba Tryz.f66)).getD 1 .skip
def Dh (v4:Int) (b0_0:List ByteArray) (b0_1:List Wr):Nat:=((b0_1.length:Int) - v4).toNat + 1
noncomputable def Fs {R:Type}  (NX:((Int)×(List ByteArray)×(List Wr)×Unit)→Option R) (X4:(Unit)→Option R) (X1:((Bool)×Unit)→Option R) (v4:Int) (b0_0:List ByteArray) (b0_1:List Wr):Option R:=
 bif decide (v4 < nI b0_1.length) then bif decide (0≤v4) then bif decide (v4 < nI b0_1.length) then bif decide (0≤v4) then bif decide (v4 < nI b0_1.length) then bif !G2 (b0_0,b0_1,()) (b0_1.getD v4.toNat (0,ByteArray.mk #[],())).1 (b0_1.getD v4.toNat (0,ByteArray.mk #[],())).2.1 then X1 (false,()) else NX (IntKind.i64.wrap (v4 + 1),b0_0,b0_1,()) else none else none else none else none else X4 PUnit.unit
noncomputable def Br:Nat→(Int)→(List ByteArray)→(List Wr) →  Option ((Unit) ⊕ ((Bool)×Unit))
 | 0,_,_,_=>none
 | m + 1,v4,b0_0,b0_1=>Fs  (fun d=>Br m d.1 d.2.1 d.2.2.1) (fun d=>some (.inl (d))) (fun d=>some (.inr (d))) v4 b0_0 b0_1
def Dx (v3:Int) (b0_0:List ByteArray) (b0_1:List Wr):Nat:=((b0_0.length:Int) - v3).toNat + 1
noncomputable def Gm {R:Type}  (NX:((Int)×(List ByteArray)×(List Wr)×Unit)→Option R) (X2:Dk→Option R) (X1:((Bool)×Unit)→Option R) (v3:Int) (b0_0:List ByteArray) (b0_1:List Wr):Option R:=
 bif decide (v3 < nI b0_0.length) then bif decide (0≤v3) then bif decide (v3 < nI b0_0.length) then bif nI (ByteArray.size (b0_0.getD v3.toNat (ByteArray.mk #[]))) != 64 then X1 (false,()) else NX (IntKind.i64.wrap (v3 + 1),b0_0,b0_1,()) else none else none else X2 (b0_0,b0_1,())
noncomputable def By:Nat→(Int)→(List ByteArray)→(List Wr) →  Option (Dk ⊕ ((Bool)×Unit))
 | 0,_,_,_=>none
 | m + 1,v3,b0_0,b0_1=>Gm  (fun d=>By m d.1 d.2.1 d.2.2.1) (fun d=>some (.inl (d))) (fun d=>some (.inr (d))) v3 b0_0 b0_1
noncomputable def Nt (a0:Dk):Option ((((Bool)×Unit)×(Unit))):=
 bif decide (nI (List.length a0.1) < 8) then some ((false,()),()) else bif decide (nI (List.length a0.1) > 200) then some ((false,()),()) else bif decide (nI (List.length a0.2.1) > 300) then some ((false,()),()) else ((fun d=>By (Dx d.1 d.2.1 d.2.2.1) d.1 d.2.1 d.2.2.1) (0,a0)).bind fun val=>Cj (fun d=>((fun d=>Br (Dh d.1 d.2.1 d.2.2.1) d.1 d.2.1 d.2.2.1) (0,d)).bind fun val=>Cj (fun d=>some ((true,()),())) (fun d=>some (d,())) val) (fun d=>some (d,())) val
theorem Adf (a0:Dk):Nt a0=some ((Dr a0,()),()):=by
 unfold Nt Dr A0
 have c1:decide (nI a0.2.1.length > 300)=!decide (a0.2.1.length≤300):=Zf _ 300
 have c2:decide (nI a0.1.length > 200)=!decide ((a0.1.length:Int)≤200):=by
  rw [show decide (nI a0.1.length > 200)=!decide (a0.1.length≤200) from Zf _ 200]
  congr 1
  exact decide_eq_decide.2 (by omega)
 have c3:decide (nI a0.1.length < 8)=!decide (8≤(a0.1.length:Int)):=by
  by_cases q:8≤(a0.1.length:Int)
  ·rw [decide_eq_true q,decide_eq_false (by simp [nI]; omega)]; rfl
  ·rw [decide_eq_false q,decide_eq_true (by simp [nI]; omega)]; rfl
 rw [c1,c2,c3]
 unfold Ch
 by_cases h8:8≤(a0.1.length:Int)
 ·rw [decide_eq_true h8]
  by_cases h2:(a0.1.length:Int)≤200
  ·rw [decide_eq_true h2]
   by_cases hp:a0.2.1.length≤300
   ·rw [decide_eq_true hp]
    have hL:=I3 (n:=a0.1.length) (fun i=>decide ((a0.1.getD i z0).size=64)) (g:=fun m i=>By m i a0.1 a0.2.1) (ok:=.inl (a0.1,a0.2.1,())) (bad:=.inr (false,())) (fun m i hi=>by
     show By (m + 1) i a0.1 a0.2.1=_
     simp only [By,Gm]
     have g1:(nI (ByteArray.size (List.getD a0.1 i (ByteArray.mk #[]))) != 64)=!decide ((a0.1.getD i z0).size=64):=Aza _ 64
     rw [W1 hi,H2,wI (show i < 4611686018427387904 by omega),Int.toNat_natCast,g1]
     cases decide ((a0.1.getD i z0).size=64)<;>rfl) (fun m=>by
     show By (m + 1) (a0.1.length:Int) a0.1 a0.2.1=_
     simp only [By,Gm]
     rw [Mm]
     rfl) (Dx 0 a0.1 a0.2.1) 0 (by omega) (by simp [Dx])
    have hL':By (Dx 0 a0.1 a0.2.1) 0 a0.1 a0.2.1=_:=hL
    have hM:=I3 (n:=a0.2.1.length) (fun i=>l6 a0.1.length (a0.2.1.getD i zW)) (g:=fun m i=>Br m i a0.1 a0.2.1) (ok:=.inl ()) (bad:=.inr (false,())) (fun m i hi=>by
     show Br (m + 1) i a0.1 a0.2.1=_
     simp only [Br,Fs]
     rw [W1 hi,H2,wI (show i < 4611686018427387904 by omega),Int.toNat_natCast]
     show (bif !l6 a0.1.length (a0.2.1.getD i zW) then _ else _)=_
     cases l6 a0.1.length (a0.2.1.getD i zW)<;>rfl) (fun m=>by
     show Br (m + 1) (a0.2.1.length:Int) a0.1 a0.2.1=_
     simp only [Br,Fs]
     rw [Mm]
     rfl) (Dh 0 a0.1 a0.2.1) 0 (by omega) (by simp [Dh])
    have hM':Br (Dh 0 a0.1 a0.2.1) 0 a0.1 a0.2.1=_:=hM
    show (By (Dx 0 a0.1 a0.2.1) 0 a0.1 a0.2.1).bind _=_
    rw [hL']
    rw [Nat.sub_zero] at hM' ⊢
    cases (List.range' 0 a0.1.length).all (fun i=>decide ((a0.1.getD i z0).size=64)) with
    | false=>rfl
    | true=>
     show (Br (Dh 0 a0.1 a0.2.1) 0 a0.1 a0.2.1).bind _=_
     rw [hM']
     cases (List.range' 0 a0.2.1.length).all (fun i=>l6 a0.1.length (a0.2.1.getD i zW))<;>rfl
   ·rw [decide_eq_false hp]
    rfl
  ·rw [decide_eq_false h2]
   rfl
 ·rw [decide_eq_false h8]
  rfl
noncomputable def Qi {R:Type} (k:Kt R):=(Cj (I1 (pa_spec_ValidDisk 5) (.exit 0) 2 k) (I1 (pa_spec_ValidDisk 5) .ret 1 k))
noncomputable def Pq {R:Type} (k:Kt R):=(Cj (I1 (pa_spec_ValidDisk 10) (.exit 2) 4 k) (I1 (pa_spec_ValidDisk 10) .ret 1 k))
noncomputable def Oz {R:Type}:Lt R pa_spec_ValidDisk:=(Ed (pat:=pa_spec_ValidDisk) 5 (fun d k=>(By (Dx d.1 d.2.1 d.2.2.1) d.1 d.2.1 d.2.2.1).bind (Qi k)) (Ed (pat:=pa_spec_ValidDisk) 10 (fun d k=>(Br (Dh d.1 d.2.1 d.2.2.1) d.1 d.2.1 d.2.2.1).bind (Pq k)) Hu))
theorem Nu:A2 Tryz.prog ta_spec_ValidDisk:=A7 ⟨Tu,trivial⟩
theorem Zq {R:Type}:A3 Tryz.prog R 57 0 pa_spec_ValidDisk Oz co_spec_ValidDisk_10:=
 B3 (cfg:=⟨ta_spec_ValidDisk,0,57,pa_spec_ValidDisk⟩) 10 [] (fun NX X d=>Fs  NX (fun e=>X (.inl (e))) (fun e=>X (.inr (e))) d.1 d.2.1 d.2.2.1) (fun m d=>Br m d.1 d.2.1 d.2.2.1) (fun d=>Dh d.1 d.2.1 d.2.2.1) Pq Nu trivial (fun f NX d=>by unfold Fs; simp only [Al,Ar,Ak,Option.bind_assoc,Option.bind_none,Option.bind_some]) (fun _ _ _=>by kernel_rfl)
theorem l9 {R:Type}:A3 Tryz.prog R 57 0 pa_spec_ValidDisk Oz co_spec_ValidDisk_5:=
 B3 (cfg:=⟨ta_spec_ValidDisk,0,57,pa_spec_ValidDisk⟩) 5 [] (fun NX X d=>Gm  NX (fun e=>X (.inl (e))) (fun e=>X (.inr (e))) d.1 d.2.1 d.2.2.1) (fun m d=>By m d.1 d.2.1 d.2.2.1) (fun d=>Dx d.1 d.2.1 d.2.2.1) Qi Nu trivial (fun f NX d=>by unfold Gm; simp only [Al,Ar,Ak,Option.bind_assoc,Option.bind_none,Option.bind_some]) (fun _ _ _=>by kernel_rfl)
theorem F7:B2 Tryz.prog 66 sd_spec_ValidDisk:=
 A6 (pat:=pa_spec_ValidDisk) [co_spec_ValidDisk_5,co_spec_ValidDisk_10] Oz Nu ⟨l9,Zq,trivial⟩ Tryz.func66 (de:=fun x=>Nt x.1) (fun x r h=>(Adf x.1).trans h) fun _=>by kernel_rfl
def Fm (d:Dk):Option Dk:=if d.2.1.length≤1099511627776∧∀ i,i < d.2.1.length→0≤(d.2.1.getD i zW).1∧(d.2.1.getD i zW).1 < (d.1.length:Int) then some (Aps d) else none
def Al8:Sig:=⟨[.own 9 .str,.rd (.sl Da)],[some 2],[.own 9 .str,.own 174 Da],[some 2]⟩
noncomputable def sd_spec_l2Sync:SD:=⟨Al8,fun x=>(Fm (x.1,x.2.1,())).bind fun r=>some ((r.1,r.2.1,()),(()))⟩
noncomputable def ta_spec_l2Sync:Tb:=tb []
def pa_spec_l2Sync:Nat→Pat×(Nat→Pat):=Gf [(3,⟨[.boxSl 1 1 Da,.boxRow 2 0 9 .str,.boxRow 2 1 174 Da],[(1,.lf (.ptr 1 0)),(2,.lf (.ptr 2 0)),(3,.lf (.d tI))],[.row 9 .str,.box 26 [.row 0,.d (.sl Da)],.box 26 [.row 3,.row 4],.row 9 .str,.row 174 Da]⟩,[(2,⟨[.boxSl 1 1 Da,.boxRow 2 0 9 .str,.boxRow 2 1 174 Da],[(1,.lf (.ptr 1 0)),(2,.lf (.ptr 2 0))],[.row 9 .str,.box 26 [.row 0,.d (.sl Da)],.box 26 [.row 3,.row 4],.row 9 .str,.row 174 Da]⟩)])]
noncomputable def co_spec_l2Sync_3:Code:=(As (Ba Tryz.f186)).getD 0 .skip
def Fh (v3:Int) (r0:List ByteArray) (b1_1:List Wr) (r3:List ByteArray) (r4:List Wr):Nat:=((b1_1.length:Int) - v3).toNat + 1
noncomputable def Ja {R:Type}  (NX:((Int)×(List ByteArray)×(List Wr)×(List ByteArray)×(List Wr)×Unit)→Option R) (X2:((List ByteArray)×(List Wr)×(List ByteArray)×(List Wr)×Unit)→Option R) (v3:Int) (r0:List ByteArray) (b1_1:List Wr) (r3:List ByteArray) (r4:List Wr):Option R:=
 bif decide (v3 < nI b1_1.length) then bif decide (0≤v3) then bif decide (v3 < nI b1_1.length) then bif decide (0≤v3) then bif decide (v3 < nI b1_1.length) then bif decide (0≤(b1_1.getD v3.toNat (0,ByteArray.mk #[],())).1) then bif decide ((b1_1.getD v3.toNat (0,ByteArray.mk #[],())).1 < nI r0.length) then bif decide (Int.toNat (b1_1.getD v3.toNat (0,ByteArray.mk #[],())).1 < r0.length) then NX (IntKind.i64.wrap (v3 + 1),r0.set (Int.toNat (b1_1.getD v3.toNat (0,ByteArray.mk #[],())).1) (b1_1.getD v3.toNat (0,ByteArray.mk #[],())).2.1,b1_1,r3,r4,()) else none else none else none else none else none else none else none else X2 (r0,b1_1,r3,r4,())
noncomputable def Cq:Nat→(Int)→(List ByteArray)→(List Wr)→(List ByteArray)→(List Wr) →  Option ((List ByteArray)×(List Wr)×(List ByteArray)×(List Wr)×Unit)
 | 0,_,_,_,_,_=>none
 | m + 1,v3,r0,b1_1,r3,r4=>Ja  (fun d=>Cq m d.1 d.2.1 d.2.2.1 d.2.2.2.1 d.2.2.2.2.1) (fun d=>some (d)) v3 r0 b1_1 r3 r4
noncomputable def Ry (a0:List ByteArray) (a1:List Wr):Option ((Dk×(Unit))):=
 ((fun d=>Cq (Fh d.1 d.2.1 d.2.2.1 d.2.2.2.1 d.2.2.2.2.1) d.1 d.2.1 d.2.2.1 d.2.2.2.1 d.2.2.2.2.1) (0,a0,a1,[],[],())).bind fun val=>some ((val.1,[],()),())
theorem Al9 (a0:List ByteArray) (a1:List Wr) r (h:Fm (a0,a1,())=some r):Ry a0 a1=some ((r.1,r.2.1,()),(())):=by
 unfold Fm at h
 split at h
 ·rename_i hc
  obtain ⟨hp,hw⟩:=hc
  cases h
  have hL:=Afh (xs:=a1) zW (fun s:List ByteArray=>s.length=a0.length) (fun _ w s=>s.set w.1.toNat w.2.1) (g:=fun m i s=>Cq m i s a1 [] []) (ok:=fun s=>(s,a1,[],[],())) (fun m i s hi hs=>by
   show Cq (m + 1) i s a1 [] []=_
   simp only [Cq,Ja]
   obtain ⟨h0,h1⟩:=hw i hi
   have c1:decide (0≤(List.getD a1 i (0,ByteArray.mk #[],())).1)=true:=decide_eq_true h0
   have c2:decide ((List.getD a1 i (0,ByteArray.mk #[],())).1 < nI s.length)=true:=decide_eq_true (by rw [hs]; exact h1)
   have c3:decide (Int.toNat (List.getD a1 i (0,ByteArray.mk #[],())).1 < s.length)=true:=decide_eq_true (by
    rw [hs]
    have:(a1.getD i zW).1.toNat < a0.length:=by
     have h0:0≤(a1.getD i zW).1:=h0
     have h1:(a1.getD i zW).1 < (a0.length:Int):=h1
     omega
    exact this)
   rw [W1 hi,H2,wI (show i < 4611686018427387904 by have hp:a1.length≤1099511627776:=hp; omega),Int.toNat_natCast,c1,c2,c3]
   rfl) (fun i s hi hs=>by rw [List.length_set]; exact hs) (fun m s hs=>by
   show Cq (m + 1) (a1.length:Int) s a1 [] []=_
   simp only [Cq,Ja]
   rw [Mm]
   rfl) (Fh 0 a0 a1 [] []) 0 a0 (by omega) (by simp [Fh]) rfl
  have hL':Cq (Fh 0 a0 a1 [] []) 0 a0 a1 [] []=_:=hL
  unfold Ry
  show (Cq (Fh 0 a0 a1 [] []) 0 a0 a1 [] []).bind _=_
  rw [hL']
  rfl
 ·cases h
noncomputable def Vo {R:Type} (k:Kt R):=(I1 (pa_spec_l2Sync 3) (.exit 0) 2 k)
noncomputable def s8 {R:Type}:Lt R pa_spec_l2Sync:=(Ed (pat:=pa_spec_l2Sync) 3 (fun d k=>(Cq (Fh d.1 d.2.1 d.2.2.1 d.2.2.2.1 d.2.2.2.2.1) d.1 d.2.1 d.2.2.1 d.2.2.2.1 d.2.2.2.2.1).bind (Vo k)) Hu)
theorem Zr:A2 Tryz.prog ta_spec_l2Sync:=A7 trivial
theorem Aft {R:Type}:A3 Tryz.prog R 29 1 pa_spec_l2Sync s8 co_spec_l2Sync_3:=
 B3 (cfg:=⟨ta_spec_l2Sync,1,29,pa_spec_l2Sync⟩) 3 [] (fun NX X d=>Ja  NX X d.1 d.2.1 d.2.2.1 d.2.2.2.1 d.2.2.2.2.1) (fun m d=>Cq m d.1 d.2.1 d.2.2.1 d.2.2.2.1 d.2.2.2.2.1) (fun d=>Fh d.1 d.2.1 d.2.2.1 d.2.2.2.1 d.2.2.2.2.1) Vo Zr trivial (fun f NX d=>by unfold Ja; simp only [Al,Ar,Ak,Option.bind_assoc,Option.bind_none,Option.bind_some]) (fun _ _ _=>by kernel_rfl)
theorem Rz:B2 Tryz.prog 186 sd_spec_l2Sync:=
 A6 (pat:=pa_spec_l2Sync) [co_spec_l2Sync_3] s8 Zr ⟨Aft,trivial⟩ Tryz.func186 (de:=fun x=>Ry x.1 x.2.1) (fun x r h=>Hv (Al9 x.1 x.2.1) h) fun _=>by kernel_rfl
def Ec (d:Dk) (ops:List Opn) (n:Int):Option Dk:=if ops.length≤1099511627776 then some (Fa d ops n) else none
def Ah3:Sig:=⟨[.rd yDk,.rd (.sl Kg),.rd tI],[some 2,none,none],[.own 9 .str,.own 174 Da],[some 2]⟩
noncomputable def sd_spec_Perform:SD:=⟨Ah3,fun x=>(Ec x.1 x.2.1 x.2.2.1).bind fun r=>some ((r.1,r.2.1,()),(()))⟩
noncomputable def ta_spec_Perform:Tb:=tb [(66,sd_spec_ValidDisk),(157,sd_spec_l2WriteOk),(186,sd_spec_l2Sync),(187,sd_spec_l2Copy)]
def pa_spec_Perform:Nat→Pat×(Nat→Pat):=Gf [(6,⟨[.sl 1 0 Kg,.boxRow 6 0 9 .str,.boxRow 6 1 174 Da,.boxRow 7 0 9 .str,.boxRow 7 1 174 Da],[(1,.lf (.d (.sl Kg))),(2,.lf (.d tI)),(6,.lf (.ptr 0 0)),(7,.lf (.ptr 1 0)),(8,.lf (.d tI))],[.box 26 [.row 2,.row 3],.box 26 [.row 4,.row 5],.row 9 .str,.row 174 Da,.row 9 .str,.row 174 Da]⟩,[(2,⟨[.boxRow 6 0 9 .str,.boxRow 6 1 174 Da,.boxRow 7 0 9 .str,.boxRow 7 1 174 Da],[(6,.lf (.ptr 0 0)),(7,.lf (.ptr 1 0))],[.box 26 [.row 2,.row 3],.box 26 [.row 4,.row 5],.row 9 .str,.row 174 Da,.row 9 .str,.row 174 Da]⟩)])]
noncomputable def co_spec_Perform_6:Code:=(As (Ba Tryz.f152)).getD 0 .skip
def Ew (v1:List Opn) (v2:Int) (v8:Int) (r2:List ByteArray) (r3:List Wr) (r4:List ByteArray) (r5:List Wr):Nat:=((v1.length:Int) - v8).toNat + 1
noncomputable def Ia {R:Type}  (NX:((List Opn)×(Int)×(Int)×(List ByteArray)×(List Wr)×(List ByteArray)×(List Wr)×Unit)→Option R) (X2:((List ByteArray)×(List Wr)×(List ByteArray)×(List Wr)×Unit)→Option R) (v1:List Opn) (v2:Int) (v8:Int) (r2:List ByteArray) (r3:List Wr) (r4:List ByteArray) (r5:List Wr):Option R:=
 bif decide (v8 < nI v1.length) then bif decide (v8 < v2) then bif decide (0≤v8) then bif decide (v8 < nI v1.length) then bif (v1.getD v8.toNat (false,0,ByteArray.mk #[],())).1 then ((Fm (r4,r5,())).bind fun val=>some (val,())).bind fun val=>NX (v1,v2,IntKind.i64.wrap (v8 + 1),r2,r3,val.1) else bif decide (0≤v8) then bif decide (v8 < nI v1.length) then bif decide (0≤v8) then bif decide (v8 < nI v1.length) then bif G2 (r4,r5,()) (v1.getD v8.toNat (false,0,ByteArray.mk #[],())).2.1 (v1.getD v8.toNat (false,0,ByteArray.mk #[],())).2.2.1 then bif decide (nI r5.length < 300) then bif decide (0≤v8) then bif decide (v8 < nI v1.length) then bif decide (0≤v8) then bif decide (v8 < nI v1.length) then bif decide ((r5.length + [(v1.getD v8.toNat (false,0,ByteArray.mk #[],())).2].length) * 24≤140737488355328) then NX (v1,v2,IntKind.i64.wrap (v8 + 1),r2,r3,r4,r5++[(v1.getD v8.toNat (false,0,ByteArray.mk #[],())).2],()) else none else none else none else none else none else NX (v1,v2,IntKind.i64.wrap (v8 + 1),r2,r3,r4,r5,()) else NX (v1,v2,IntKind.i64.wrap (v8 + 1),r2,r3,r4,r5,()) else none else none else none else none else none else none else X2 (r2,r3,r4,r5,()) else X2 (r2,r3,r4,r5,())
noncomputable def B4:Nat→(List Opn)→(Int)→(Int)→(List ByteArray)→(List Wr)→(List ByteArray)→(List Wr) →  Option ((List ByteArray)×(List Wr)×(List ByteArray)×(List Wr)×Unit)
 | 0,_,_,_,_,_,_,_=>none
 | m + 1,v1,v2,v8,r2,r3,r4,r5=>Ia  (fun d=>B4 m d.1 d.2.1 d.2.2.1 d.2.2.2.1 d.2.2.2.2.1 d.2.2.2.2.2.1 d.2.2.2.2.2.2.1) (fun d=>some (d)) v1 v2 v8 r2 r3 r4 r5
noncomputable def P6 (a0:Dk) (a1:List Opn) (a2:Int):Option ((Dk×(Unit))):=
 bif !Dr a0 then some (([],[],()),()) else ((Cr a0).bind fun val=>some (val,())).bind fun val=>((fun d=>B4 (Ew d.1 d.2.1 d.2.2.1 d.2.2.2.1 d.2.2.2.2.1 d.2.2.2.2.2.1 d.2.2.2.2.2.2.1) d.1 d.2.1 d.2.2.1 d.2.2.2.1 d.2.2.2.2.1 d.2.2.2.2.2.1 d.2.2.2.2.2.2.1) (a1,a2,0,[],[],val.1)).bind fun val=>some (val.2.2,())
theorem Ah4 (a0:Dk) (a1:List Opn) (a2:Int) r (h:Ec a0 a1 a2=some r):P6 a0 a1 a2=some ((r.1,r.2.1,()),(())):=by
 unfold Ec at h
 split at h
 rotate_left
 ·cases h
 rename_i hlen
 cases h
 unfold P6 Fa
 show (bif !A0 a0 then _ else _)=_
 cases hv:A0 a0 with
 | false=>rfl
 | true=>
  have hok:=Jv hv
  have e1:Cr (a0.1,a0.2.1,())=some (a0.1,a0.2.1,()):=if_pos ⟨Nat.le_trans hok.n200 (by decide),Nat.le_trans hok.p300 (by decide)⟩
  have hxl:(a1.take a2.toNat).length=min a2.toNat a1.length:=List.length_take
  have hL:=Gi (xs:=a1.take a2.toNat) zOp (fun _ d=>G8 d) (fun _ o d=>opS d o) (g:=fun m i d=>B4 m a1 a2 i [] [] d.1 d.2.1) (ok:=fun d:Dk=>([],[],d.1,d.2.1,())) (fun m i d hi hI=>by
   show B4 (m + 1) a1 a2 i [] [] d.1 d.2.1=_
   simp only [B4,Ia]
   rw [hxl] at hi
   have hi1:i < a1.length:=by omega
   have hi2:decide ((i:Int) < a2)=true:=decide_eq_true (by omega)
   have hg:(a1.take a2.toNat).getD i zOp=List.getD a1 i (false,0,ByteArray.mk #[],()):=by
    rw [List.getD_eq_getElem?_getD,List.getElem?_take,if_pos (by omega),← List.getD_eq_getElem?_getD]
    rfl
   rw [hg,hi2,W1 hi1,H2,wI (show i < 4611686018427387904 by omega),Int.toNat_natCast]
   simp only [cond_true]
   generalize List.getD a1 i (false,0,ByteArray.mk #[],())=o
   unfold opS
   cases ho:o.1 with
   | true=>
    simp only [cond_true]
    have e2:Fm (d.1,d.2.1,())=some (Aps d):=if_pos ⟨Nat.le_trans hI.p300 (by decide),fun k hk=>⟨(hI.pen k hk).1,(hI.pen k hk).2.1⟩⟩
    rw [e2]
    rfl
   | false=>
    simp only [cond_false]
    have hn:=hI.n8
    have hn2:=hI.n200
    have hp:=hI.p300
    have e4:decide (nI d.2.1.length < 300)=decide (d.2.1.length < 300):=decide_eq_decide.2 (by simp only [nI]; omega)
    have e5:decide ((d.2.1.length + 1) * 24≤140737488355328)=true:=decide_eq_true (by omega)
    simp only [List.length_singleton,e4,e5,G2,l6,cond_true]
    show _=B4 m a1 a2 _ [] [] (bif (decide (0≤o.2.1)&&(decide (o.2.1 < (d.1.length:Int))&&decide (o.2.2.1.size=64)))&&decide (d.2.1.length < 300) then (d.1,d.2.1++[(o.2.1,o.2.2.1,())],()) else d).1 (bif (decide (0≤o.2.1)&&(decide (o.2.1 < (d.1.length:Int))&&decide (o.2.2.1.size=64)))&&decide (d.2.1.length < 300) then (d.1,d.2.1++[(o.2.1,o.2.2.1,())],()) else d).2.1
    cases decide (0≤o.2.1)<;>cases decide (o.2.1 < (d.1.length:Int))<;>cases decide (o.2.2.1.size=64)<;>cases decide (d.2.1.length < 300)<;>rfl) (fun i d hi hI=>hI.op _) (fun m d hI=>by
   show B4 (m + 1) a1 a2 (((a1.take a2.toNat).length:Nat):Int) [] [] d.1 d.2.1=_
   simp only [B4,Ia]
   rw [hxl]
   by_cases q:((min a2.toNat a1.length:Nat):Int) < a2
   ·rw [decide_eq_false (show ¬ ((min a2.toNat a1.length:Nat):Int) < nI a1.length by simp only [nI]; omega)]
    rfl
   ·rw [decide_eq_false q]
    cases decide (((min a2.toNat a1.length:Nat):Int) < nI a1.length)<;>rfl) (Ew a1 a2 0 [] [] a0.1 a0.2.1) 0 a0 (by omega) (by rw [hxl]; simp only [Ew,nI]; omega) hok
  have hL':B4 (Ew a1 a2 0 [] [] a0.1 a0.2.1) a1 a2 0 [] [] a0.1 a0.2.1=_:=hL
  simp only [Bool.not_true,cond_false]
  rw [e1]
  show (B4 (Ew a1 a2 0 [] [] a0.1 a0.2.1) a1 a2 0 [] [] a0.1 a0.2.1).bind _=_
  rw [hL',List.drop_zero]
  have hf:∀ (l:List Opn) (i:Nat) (d:Dk),F3 (fun _ o d=>opS d o) i l d=l.foldl opS d:=fun l=>by
   induction l with
   | nil=>intro i d; rfl
   | cons o r ih=>intro i d; exact ih _ _
  rw [hf]
  rfl
noncomputable def Tv {R:Type} (k:Kt R):=(I1 (pa_spec_Perform 6) (.exit 0) 2 k)
noncomputable def Zs {R:Type}:Lt R pa_spec_Perform:=(Ed (pat:=pa_spec_Perform) 6 (fun d k=>(B4 (Ew d.1 d.2.1 d.2.2.1 d.2.2.2.1 d.2.2.2.2.1 d.2.2.2.2.2.1 d.2.2.2.2.2.2.1) d.1 d.2.1 d.2.2.1 d.2.2.2.1 d.2.2.2.2.1 d.2.2.2.2.2.1 d.2.2.2.2.2.2.1).bind (Tv k)) Hu)
theorem Xk:A2 Tryz.prog ta_spec_Perform:=A7 ⟨F7,Tu,Rz,I8,trivial⟩
theorem Adg {R:Type}:A3 Tryz.prog R 68 0 pa_spec_Perform Zs co_spec_Perform_6:=
 B3 (cfg:=⟨ta_spec_Perform,0,68,pa_spec_Perform⟩) 6 [] (fun NX X d=>Ia  NX X d.1 d.2.1 d.2.2.1 d.2.2.2.1 d.2.2.2.2.1 d.2.2.2.2.2.1 d.2.2.2.2.2.2.1) (fun m d=>B4 m d.1 d.2.1 d.2.2.1 d.2.2.2.1 d.2.2.2.2.1 d.2.2.2.2.2.1 d.2.2.2.2.2.2.1) (fun d=>Ew d.1 d.2.1 d.2.2.1 d.2.2.2.1 d.2.2.2.2.1 d.2.2.2.2.2.1 d.2.2.2.2.2.2.1) Tv Xk trivial (fun f NX d=>by unfold Ia; simp only [Al,Ar,Ak,Option.bind_assoc,Option.bind_none,Option.bind_some]) (fun _ _ _=>by kernel_rfl)
theorem Ah5:B2 Tryz.prog 152 sd_spec_Perform:=
 A6 (pat:=pa_spec_Perform) [co_spec_Perform_6] Zs Xk ⟨Adg,trivial⟩ Tryz.func152 (de:=fun x=>P6 x.1 x.2.1 x.2.2.1) (fun x r h=>Hv (Ah4 x.1 x.2.1 x.2.2.1) h) fun _=>by kernel_rfl
def G3 (d:Dk) (f:List Int):Dk:=I2 d f
def Dy (v1:List Int) (v6:Int) (r2:List ByteArray) (r3:List Wr) (r4:List ByteArray) (r5:List Wr):Nat:=((r5.length:Int) - v6).toNat + 1
def Adh:Sig:=⟨[.rd yDk,.rd (.sl tI)],[some 2,none],[.own 9 .str,.own 174 Da],[some 2]⟩
noncomputable def sd_spec_PowerLoss:SD:=⟨Adh,fun x=>some (((G3 x.1 x.2.1).1,(G3 x.1 x.2.1).2.1,()),(()))⟩
noncomputable def ta_spec_PowerLoss:Tb:=tb [(66,sd_spec_ValidDisk),(187,sd_spec_l2Copy)]
def pa_spec_PowerLoss:Nat→Pat×(Nat→Pat):=Gf [(6,⟨[.sl 1 0 tI,.boxRow 4 0 9 .str,.boxRow 4 1 174 Da,.boxRow 5 0 9 .str,.boxRow 5 1 174 Da],[(1,.lf (.d (.sl tI))),(4,.lf (.ptr 0 0)),(5,.lf (.ptr 1 0)),(6,.lf (.d tI))],[.box 26 [.row 2,.row 3],.box 26 [.row 4,.row 5],.row 9 .str,.row 174 Da,.row 9 .str,.row 174 Da]⟩,[(2,⟨[.boxRow 4 0 9 .str,.boxRow 4 1 174 Da,.boxRow 5 0 9 .str,.boxRow 5 1 174 Da],[(4,.lf (.ptr 0 0)),(5,.lf (.ptr 1 0))],[.box 26 [.row 2,.row 3],.box 26 [.row 4,.row 5],.row 9 .str,.row 174 Da,.row 9 .str,.row 174 Da]⟩)])]
noncomputable def co_spec_PowerLoss_6:Code:=(As (Ba Tryz.f228)).getD 0 .skip
noncomputable def Gn {R:Type}  (NX:((List Int)×(Int)×(List ByteArray)×(List Wr)×(List ByteArray)×(List Wr)×Unit)→Option R) (X2:((List ByteArray)×(List Wr)×(List ByteArray)×(List Wr)×Unit)→Option R) (v1:List Int) (v6:Int) (r2:List ByteArray) (r3:List Wr) (r4:List ByteArray) (r5:List Wr):Option R:=
 bif decide (v6 < nI r5.length) then bif decide (v6 < nI v1.length) then bif decide (0≤v6) then bif decide (v6 < nI v1.length) then bif decide (v1.getD v6.toNat 0 < 0) then bif decide (0≤v6) then bif decide (v6 < nI r5.length) then bif decide (0≤(r5.getD v6.toNat (0,ByteArray.mk #[],())).1) then bif decide ((r5.getD v6.toNat (0,ByteArray.mk #[],())).1 < nI r4.length) then bif decide ((Ac (r5.getD v6.toNat (0,ByteArray.mk #[],())).2.1 0 0).size + (Ac (r4.getD (Int.toNat (r5.getD v6.toNat (0,ByteArray.mk #[],())).1) (ByteArray.mk #[])) 0 (nI (ByteArray.size (r4.getD (Int.toNat (r5.getD v6.toNat (0,ByteArray.mk #[],())).1) (ByteArray.mk #[]))))).size≤9223372036854775807) then bif decide (0≤(r5.getD v6.toNat (0,ByteArray.mk #[],())).1) then bif decide ((r5.getD v6.toNat (0,ByteArray.mk #[],())).1 < nI r4.length) then bif decide (Int.toNat (r5.getD v6.toNat (0,ByteArray.mk #[],())).1 < r4.length) then NX (v1,IntKind.i64.wrap (v6 + 1),r2,r3,r4.set (Int.toNat (r5.getD v6.toNat (0,ByteArray.mk #[],())).1) (Ac (r5.getD v6.toNat (0,ByteArray.mk #[],())).2.1 0 0++Ac (r4.getD (Int.toNat (r5.getD v6.toNat (0,ByteArray.mk #[],())).1) (ByteArray.mk #[])) 0 (nI (ByteArray.size (r4.getD (Int.toNat (r5.getD v6.toNat (0,ByteArray.mk #[],())).1) (ByteArray.mk #[]))))),r5,()) else none else none else none else none else none else none else none else none else bif decide (v1.getD v6.toNat 0 > 64) then bif decide (0≤v6) then bif decide (v6 < nI r5.length) then bif decide (64≤nI (ByteArray.size (r5.getD v6.toNat (0,ByteArray.mk #[],())).2.1)) then bif decide (0≤(r5.getD v6.toNat (0,ByteArray.mk #[],())).1) then bif decide ((r5.getD v6.toNat (0,ByteArray.mk #[],())).1 < nI r4.length) then bif decide (64≤nI (ByteArray.size (r4.getD (Int.toNat (r5.getD v6.toNat (0,ByteArray.mk #[],())).1) (ByteArray.mk #[])))) then bif decide ((Ac (r5.getD v6.toNat (0,ByteArray.mk #[],())).2.1 0 64).size + (Ac (r4.getD (Int.toNat (r5.getD v6.toNat (0,ByteArray.mk #[],())).1) (ByteArray.mk #[])) 64 (nI (ByteArray.size (r4.getD (Int.toNat (r5.getD v6.toNat (0,ByteArray.mk #[],())).1) (ByteArray.mk #[]))))).size≤9223372036854775807) then bif decide (0≤(r5.getD v6.toNat (0,ByteArray.mk #[],())).1) then bif decide ((r5.getD v6.toNat (0,ByteArray.mk #[],())).1 < nI r4.length) then bif decide (Int.toNat (r5.getD v6.toNat (0,ByteArray.mk #[],())).1 < r4.length) then NX (v1,IntKind.i64.wrap (v6 + 1),r2,r3,r4.set (Int.toNat (r5.getD v6.toNat (0,ByteArray.mk #[],())).1) (Ac (r5.getD v6.toNat (0,ByteArray.mk #[],())).2.1 0 64++Ac (r4.getD (Int.toNat (r5.getD v6.toNat (0,ByteArray.mk #[],())).1) (ByteArray.mk #[])) 64 (nI (ByteArray.size (r4.getD (Int.toNat (r5.getD v6.toNat (0,ByteArray.mk #[],())).1) (ByteArray.mk #[]))))),r5,()) else none else none else none else none else none else none else none else none else none else none else bif decide (0≤v6) then bif decide (v6 < nI r5.length) then bif decide (0≤v1.getD v6.toNat 0) then bif decide (v1.getD v6.toNat 0≤nI (ByteArray.size (r5.getD v6.toNat (0,ByteArray.mk #[],())).2.1)) then bif decide (0≤(r5.getD v6.toNat (0,ByteArray.mk #[],())).1) then bif decide ((r5.getD v6.toNat (0,ByteArray.mk #[],())).1 < nI r4.length) then bif decide (0≤v1.getD v6.toNat 0) then bif decide (v1.getD v6.toNat 0≤nI (ByteArray.size (r4.getD (Int.toNat (r5.getD v6.toNat (0,ByteArray.mk #[],())).1) (ByteArray.mk #[])))) then bif decide ((Ac (r5.getD v6.toNat (0,ByteArray.mk #[],())).2.1 0 (v1.getD v6.toNat 0)).size + (Ac (r4.getD (Int.toNat (r5.getD v6.toNat (0,ByteArray.mk #[],())).1) (ByteArray.mk #[])) (v1.getD v6.toNat 0) (nI (ByteArray.size (r4.getD (Int.toNat (r5.getD v6.toNat (0,ByteArray.mk #[],())).1) (ByteArray.mk #[]))))).size≤9223372036854775807) then bif decide (0≤(r5.getD v6.toNat (0,ByteArray.mk #[],())).1) then bif decide ((r5.getD v6.toNat (0,ByteArray.mk #[],())).1 < nI r4.length) then bif decide (Int.toNat (r5.getD v6.toNat (0,ByteArray.mk #[],())).1 < r4.length) then NX (v1,IntKind.i64.wrap (v6 + 1),r2,r3,r4.set (Int.toNat (r5.getD v6.toNat (0,ByteArray.mk #[],())).1) (Ac (r5.getD v6.toNat (0,ByteArray.mk #[],())).2.1 0 (v1.getD v6.toNat 0)++Ac (r4.getD (Int.toNat (r5.getD v6.toNat (0,ByteArray.mk #[],())).1) (ByteArray.mk #[])) (v1.getD v6.toNat 0) (nI (ByteArray.size (r4.getD (Int.toNat (r5.getD v6.toNat (0,ByteArray.mk #[],())).1) (ByteArray.mk #[]))))),r5,()) else none else none else none else none else none else none else none else none else none else none else none else none else none else none else bif decide (0≤v6) then bif decide (v6 < nI r5.length) then bif decide (0≤(r5.getD v6.toNat (0,ByteArray.mk #[],())).1) then bif decide ((r5.getD v6.toNat (0,ByteArray.mk #[],())).1 < nI r4.length) then bif decide ((Ac (r5.getD v6.toNat (0,ByteArray.mk #[],())).2.1 0 0).size + (Ac (r4.getD (Int.toNat (r5.getD v6.toNat (0,ByteArray.mk #[],())).1) (ByteArray.mk #[])) 0 (nI (ByteArray.size (r4.getD (Int.toNat (r5.getD v6.toNat (0,ByteArray.mk #[],())).1) (ByteArray.mk #[]))))).size≤9223372036854775807) then bif decide (0≤(r5.getD v6.toNat (0,ByteArray.mk #[],())).1) then bif decide ((r5.getD v6.toNat (0,ByteArray.mk #[],())).1 < nI r4.length) then bif decide (Int.toNat (r5.getD v6.toNat (0,ByteArray.mk #[],())).1 < r4.length) then NX (v1,IntKind.i64.wrap (v6 + 1),r2,r3,r4.set (Int.toNat (r5.getD v6.toNat (0,ByteArray.mk #[],())).1) (Ac (r5.getD v6.toNat (0,ByteArray.mk #[],())).2.1 0 0++Ac (r4.getD (Int.toNat (r5.getD v6.toNat (0,ByteArray.mk #[],())).1) (ByteArray.mk #[])) 0 (nI (ByteArray.size (r4.getD (Int.toNat (r5.getD v6.toNat (0,ByteArray.mk #[],())).1) (ByteArray.mk #[]))))),r5,()) else none else none else none else none else none else none else none else none else X2 (r2,r3,r4,r5,())
noncomputable def Bz:Nat→(List Int)→(Int)→(List ByteArray)→(List Wr)→(List ByteArray)→(List Wr) →  Option ((List ByteArray)×(List Wr)×(List ByteArray)×(List Wr)×Unit)
 | 0,_,_,_,_,_,_=>none
 | m + 1,v1,v6,r2,r3,r4,r5=>Gn  (fun d=>Bz m d.1 d.2.1 d.2.2.1 d.2.2.2.1 d.2.2.2.2.1 d.2.2.2.2.2.1) (fun d=>some (d)) v1 v6 r2 r3 r4 r5
noncomputable def Nv (a0:Dk) (a1:List Int):Option ((Dk×(Unit))):=
 bif !Dr a0 then some (([],[],()),()) else ((Cr a0).bind fun val=>some (val,())).bind fun val=>((fun d=>Bz (Dy d.1 d.2.1 d.2.2.1 d.2.2.2.1 d.2.2.2.2.1 d.2.2.2.2.2.1) d.1 d.2.1 d.2.2.1 d.2.2.2.1 d.2.2.2.2.1 d.2.2.2.2.2.1) (a1,0,[],[],val.1)).bind fun val=>some ((val.2.2.1,[],()),())
theorem Adi (a0:Dk) (a1:List Int):Nv a0 a1=some (((G3 a0 a1).1,(G3 a0 a1).2.1,()),(())):=by
 unfold Nv G3 I2
 show (bif !A0 a0 then _ else _)=_
 cases hv:A0 a0 with
 | false=>rfl
 | true=>
  obtain ⟨k1,k2,k3,k4,k5⟩:=Jv hv
  have e1:Cr (a0.1,a0.2.1,())=some (a0.1,a0.2.1,()):=if_pos ⟨by show a0.1.length≤_; omega,by show a0.2.1.length≤_; omega⟩
  have hL:=Afh (xs:=a0.2.1) zW (Ahc a0.1.length) (fun i w s=>s.set w.1.toNat (A3a w.2.1 (s.getD w.1.toNat z0) (Uo a1 i))) (g:=fun m i s=>Bz m a1 i [] [] s a0.2.1) (ok:=fun s=>([],[],s,a0.2.1,())) (fun m i s hi hI=>by
   show Bz (m + 1) a1 i [] [] s a0.2.1=_
   simp only [Bz,Gn]
   obtain ⟨w0,w1,w2⟩:=k5 i hi
   have h0:0≤(List.getD a0.2.1 i (0,ByteArray.mk #[],())).1:=w0
   have h1:(List.getD a0.2.1 i (0,ByteArray.mk #[],())).1 < nI s.length:=by rw [hI.1]; exact w1
   have hsz:ByteArray.size (List.getD a0.2.1 i (0,ByteArray.mk #[],())).2.1=64:=w2
   have hj:Int.toNat (List.getD a0.2.1 i (0,ByteArray.mk #[],())).1 < s.length:=by
    have h1:(List.getD a0.2.1 i (0,ByteArray.mk #[],())).1 < (s.length:Int):=h1
    omega
   have hs2:ByteArray.size (List.getD s (Int.toNat (List.getD a0.2.1 i (0,ByteArray.mk #[],())).1) (ByteArray.mk #[]))=64:=hI.2 _ (by rw [← hI.1]; exact hj)
   have hsum:∀ k:Int,0≤k→k≤64→ByteArray.size (Ac (List.getD a0.2.1 i (0,ByteArray.mk #[],())).2.1 0 k) + ByteArray.size (Ac (List.getD s (Int.toNat (List.getD a0.2.1 i (0,ByteArray.mk #[],())).1) (ByteArray.mk #[])) k (nI (ByteArray.size (List.getD s (Int.toNat (List.getD a0.2.1 i (0,ByteArray.mk #[],())).1) (ByteArray.mk #[])))))≤9223372036854775807:=by
    intro k q0 q1
    rw [C6 (by omega) q0 (by rw [hsz]; omega),C6 q0 (by rw [hs2]; simp only [nI]; omega) (by rw [hs2]; simp [nI])]
    rw [hs2]
    simp only [nI]
    omega
   rw [W1 hi,H2,wI (show i < 4611686018427387904 by omega),Int.toNat_natCast]
   by_cases hf:i < a1.length
   ·have hfa:Uo a1 i=Rl (List.getD a1 i 0):=if_pos hf
    rw [W1 hf,hfa]
    by_cases q0:(List.getD a1 i 0) < 0
    ·have hz:Rl (List.getD a1 i 0)=0:=if_pos q0
     rw [decide_eq_true q0,decide_eq_true h0,decide_eq_true h1,decide_eq_true (hsum 0 (by omega) (by omega)),decide_eq_true hj,hz]
     rfl
    ·rw [decide_eq_false q0]
     by_cases q1:(List.getD a1 i 0) > 64
     ·have hz:Rl (List.getD a1 i 0)=64:=(if_neg q0).trans (if_pos q1)
      have c2:(64:Int)≤nI (ByteArray.size (List.getD a0.2.1 i (0,ByteArray.mk #[],())).2.1):=by rw [hsz]; exact Int.le_refl _
      have c5:(64:Int)≤nI (ByteArray.size (List.getD s (Int.toNat (List.getD a0.2.1 i (0,ByteArray.mk #[],())).1) (ByteArray.mk #[]))):=by rw [hs2]; exact Int.le_refl _
      rw [decide_eq_true q1,decide_eq_true c2,decide_eq_true h0,decide_eq_true h1,decide_eq_true c5,decide_eq_true (hsum 64 (by omega) (by omega)),decide_eq_true hj,hz]
      rfl
     ·have hz:Rl (List.getD a1 i 0)=(List.getD a1 i 0):=(if_neg q0).trans (if_neg q1)
      have c1:0≤(List.getD a1 i 0):=by omega
      have c2:(List.getD a1 i 0)≤nI (ByteArray.size (List.getD a0.2.1 i (0,ByteArray.mk #[],())).2.1):=by rw [hsz]; simp only [nI]; omega
      have c5:(List.getD a1 i 0)≤nI (ByteArray.size (List.getD s (Int.toNat (List.getD a0.2.1 i (0,ByteArray.mk #[],())).1) (ByteArray.mk #[]))):=by rw [hs2]; simp only [nI]; omega
      rw [decide_eq_false q1,decide_eq_true c1,decide_eq_true c2,decide_eq_true h0,decide_eq_true h1,decide_eq_true c5,decide_eq_true (hsum _ c1 (by omega)),decide_eq_true hj,hz]
      rfl
   ·have hfa:Uo a1 i=0:=if_neg hf
    have nf:¬ (i:Int) < nI a1.length:=by simp only [nI]; omega
    rw [decide_eq_false nf,decide_eq_true h0,decide_eq_true h1,decide_eq_true (hsum 0 (by omega) (by omega)),decide_eq_true hj,hfa]
    rfl) (fun i s hi hI=>hI.set (Apv (k5 i hi).2.2 (hI.2 _ (by
   have q:=k5 i hi
   omega)) (Ac2 a1 i).1 (Ac2 a1 i).2)) (fun m s hI=>by
   show Bz (m + 1) a1 (a0.2.1.length:Int) [] [] s a0.2.1=_
   simp only [Bz,Gn]
   rw [Mm]
   rfl) (Dy a1 0 [] [] a0.1 a0.2.1) 0 a0.1 (by omega) (by simp [Dy]) ⟨rfl,k4⟩
  have hL':Bz (Dy a1 0 [] [] a0.1 a0.2.1) a1 0 [] [] a0.1 a0.2.1=_:=hL
  rw [e1]
  show (Bz (Dy a1 0 [] [] a0.1 a0.2.1) a1 0 [] [] a0.1 a0.2.1).bind _=_
  rw [hL']
  rfl
noncomputable def Qj {R:Type} (k:Kt R):=(I1 (pa_spec_PowerLoss 6) (.exit 0) 2 k)
noncomputable def Vp {R:Type}:Lt R pa_spec_PowerLoss:=(Ed (pat:=pa_spec_PowerLoss) 6 (fun d k=>(Bz (Dy d.1 d.2.1 d.2.2.1 d.2.2.2.1 d.2.2.2.2.1 d.2.2.2.2.2.1) d.1 d.2.1 d.2.2.1 d.2.2.2.1 d.2.2.2.2.1 d.2.2.2.2.2.1).bind (Qj k)) Hu)
theorem Tw:A2 Tryz.prog ta_spec_PowerLoss:=A7 ⟨F7,I8,trivial⟩
theorem m0 {R:Type}:A3 Tryz.prog R 60 0 pa_spec_PowerLoss Vp co_spec_PowerLoss_6:=
 B3 (cfg:=⟨ta_spec_PowerLoss,0,60,pa_spec_PowerLoss⟩) 6 [] (fun NX X d=>Gn  NX X d.1 d.2.1 d.2.2.1 d.2.2.2.1 d.2.2.2.2.1 d.2.2.2.2.2.1) (fun m d=>Bz m d.1 d.2.1 d.2.2.1 d.2.2.2.1 d.2.2.2.2.1 d.2.2.2.2.2.1) (fun d=>Dy d.1 d.2.1 d.2.2.1 d.2.2.2.1 d.2.2.2.2.1 d.2.2.2.2.2.1) Qj Tw trivial (fun f NX d=>by unfold Gn; simp only [Al,Ar,Ak,Option.bind_assoc,Option.bind_none,Option.bind_some]) (fun _ _ _=>by kernel_rfl)
theorem Adj:B2 Tryz.prog 228 sd_spec_PowerLoss:=
 A6 (pat:=pa_spec_PowerLoss) [co_spec_PowerLoss_6] Vp Tw ⟨m0,trivial⟩ Tryz.func228 (de:=fun x=>Nv x.1 x.2.1) (fun x r h=>(Adi x.1 x.2.1).trans h) fun _=>by kernel_rfl
def Ah6:Sig:=⟨[.rd Fr,.rd (.sl tI)],[some 16,none],[.rd Fr],[some 16]⟩
noncomputable def P7 (a0:Wld) (a1:List Int):Option (((Wld×Unit)×(Unit))):=
 some (((a0.1,G3 a0.2.1 a1,false,(0,0,0,(0,0,0,0,()),0,0,([],()),()),a0.2.2.2.2),()),())
theorem Xl:∃ f,f=@P7:=⟨_,rfl⟩
noncomputable def m_spec_l7Power:=Classical.choose Xl
theorem Xm:@m_spec_l7Power=@P7:=Classical.choose_spec Xl
noncomputable def sd_spec_l7Power:SD:=⟨Ah6,fun x=>m_spec_l7Power x.1 x.2.1⟩
theorem Zt (w:Wld) (f:List Int):Ai (m_spec_l7Power w f) fun q=>q=((Ax8 w f,()),()):=by
 rw [Xm]
 exact Ai.some rfl
theorem Ah7:B2 Tryz.prog 202 sd_spec_l7Power:=
 A6 (pat:=D3) [] Hu (A7 (l:=[(228,sd_spec_PowerLoss)]) ⟨Adj,trivial⟩) trivial Tryz.func202 (de:=fun x=>P7 x.1 x.2.1) (fun x r h=>by have q:m_spec_l7Power x.1 x.2.1=some r:=h; rw [Xm] at q; exact q) fun _=>by kernel_rfl
def Ap (n:Int):Int:=Am n
def Ama:Sig:=⟨[.rd tI],[none],[.rd tI],[none]⟩
noncomputable def sd_spec_Halves:SD:=⟨Ama,fun x=>some (((Ap x.1),()),(()))⟩
noncomputable def R0 (a0:Int):Option ((((Int)×Unit)×(Unit))):=
 bif decide (a0 < 8) then some ((0,()),()) else bif decide (a0 > 200) then some ((0,()),()) else some ((IntKind.i64.wrap ((IntKind.i64.wrap (a0 - 2)).tdiv 2),()),())
theorem Amb (a0:Int):R0 a0=some (((Ap a0),()),(())):=by
 unfold R0 Ap Am
 rw [Ale]
 cases h:Ch a0 8 200 with
 | false=>rfl
 | true=>
  obtain ⟨h1,h2⟩:=Cy h
  rw [Ahg h1 h2]
  rfl
theorem Jb:B2 Tryz.prog 40 sd_spec_Halves:=
 A6 (pat:=D3) [] Hu (A7 (l:=[]) trivial) trivial Tryz.func40 (de:=fun x=>R0 x.1) (fun x r h=>(Amb x.1).trans h) fun _=>by kernel_rfl
def K1 (k:ByteArray):Bool:=M9 k
def Ah8:Sig:=⟨[.rd .str],[none],[.rd .bool],[none]⟩
noncomputable def sd_spec_l4KeyOk:SD:=⟨Ah8,fun x=>some (((K1 x.1),()),(()))⟩
noncomputable def P8 (a0:ByteArray):Option ((((Bool)×Unit)×(Unit))):=
 bif decide (nI a0.size≥1) then some ((decide (nI a0.size≤20),()),()) else some ((false,()),())
theorem Ah9 (a0:ByteArray):P8 a0=some ((K1 a0,()),()):=by
 unfold P8 K1 M9 Ch
 by_cases h:(a0.size:Int)≥1
 ·have:decide ((1:Int)≤(a0.size:Int))=true:=by simpa using h
  simp [nI,this]
 ·have h':¬ (1:Int)≤(a0.size:Int):=h
  simp [nI,h']
theorem Xn:B2 Tryz.prog 158 sd_spec_l4KeyOk:=
 A6 (pat:=D3) [] Hu (A7 (l:=[]) trivial) trivial Tryz.func158 (de:=fun x=>P8 x.1) (fun x r h=>(Ah9 x.1).trans h) fun _=>by kernel_rfl
def F8 (b:List Chg):Bool:=Bb b
def Aa0:Sig:=⟨[.rd (.sl D7)],[none],[.rd .bool],[none]⟩
noncomputable def sd_spec_ValidBatch:SD:=⟨Aa0,fun x=>some (((F8 x.1),()),(()))⟩
noncomputable def ta_spec_ValidBatch:Tb:=tb [(158,sd_spec_l4KeyOk)]
def pa_spec_ValidBatch:Nat→Pat×(Nat→Pat):=Gf [(5,⟨[.sl 0 0 D7],[(0,.lf (.d (.sl D7))),(3,.lf (.d tI))],[]⟩,[(2,p0),(1,⟨[],[(2,.lf (.d .bool))],[]⟩)])]
noncomputable def co_spec_ValidBatch_5:Code:=(As (Ba Tryz.f122)).getD 0 .skip
def Ft (v0:List Chg) (v3:Int):Nat:=((v0.length:Int) - v3).toNat + 1
noncomputable def Fu {R:Type}  (NX:((List Chg)×(Int)×Unit)→Option R) (X2:(Unit)→Option R) (X1:((Bool)×Unit)→Option R) (v0:List Chg) (v3:Int):Option R:=
 bif decide (v3 < nI v0.length) then bif decide (0≤v3) then bif decide (v3 < nI v0.length) then bif !K1 (v0.getD v3.toNat (ByteArray.mk #[],ByteArray.mk #[],false,())).1 then X1 (false,()) else bif decide (0≤v3) then bif decide (v3 < nI v0.length) then bif decide (nI (ByteArray.size (v0.getD v3.toNat (ByteArray.mk #[],ByteArray.mk #[],false,())).2.1) > 100) then X1 (false,()) else bif decide (0≤v3) then bif decide (v3 < nI v0.length) then bif (v0.getD v3.toNat (ByteArray.mk #[],ByteArray.mk #[],false,())).2.2.1 then bif decide (0≤v3) then bif decide (v3 < nI v0.length) then bif !ByteArray.toList (v0.getD v3.toNat (ByteArray.mk #[],ByteArray.mk #[],false,())).2.1==(ByteArray.mk #[]).toList then X1 (false,()) else NX (v0,IntKind.i64.wrap (v3 + 1),()) else none else none else NX (v0,IntKind.i64.wrap (v3 + 1),()) else none else none else none else none else none else none else X2 PUnit.unit
noncomputable def B9:Nat→(List Chg)→(Int) →  Option ((Unit) ⊕ ((Bool)×Unit))
 | 0,_,_=>none
 | m + 1,v0,v3=>Fu  (fun d=>B9 m d.1 d.2.1) (fun d=>some (.inl (d))) (fun d=>some (.inr (d))) v0 v3
noncomputable def Mq (a0:List Chg):Option ((((Bool)×Unit)×(Unit))):=
 bif decide (nI a0.length < 1) then some ((false,()),()) else bif decide (nI a0.length > 20) then some ((false,()),()) else ((fun d=>B9 (Ft d.1 d.2.1) d.1 d.2.1) (a0,0,())).bind fun val=>Cj (fun d=>some ((true,()),())) (fun d=>some (d,())) val
theorem Aa1 (a0:List Chg):Mq a0=some (((F8 a0),()),(())):=by
 unfold Mq F8 Bb
 have tl:ByteArray.toList (ByteArray.mk #[])=[]:=by decide +kernel
 rw [Ale (nI (List.length a0))]
 show (bif Ch (a0.length:Int) 1 20 then _ else _)=_
 cases hin:Ch (a0.length:Int) 1 20 with
 | false=>rfl
 | true=>
  have hlen:a0.length≤20:=by have:=(Cy hin).2; omega
  have hL:=I3 (n:=a0.length) (fun i=>Nl (a0.getD i zC)) (g:=fun m i=>B9 m a0 i) (ok:=.inl ()) (bad:=.inr (false,())) (fun m i hi=>by
   show B9 (m + 1) a0 i=_
   simp only [B9,Fu]
   rw [tl,W1 hi,H2,wI (show i < 4611686018427387904 by omega),Int.toNat_natCast]
   have g1:decide (nI (ByteArray.size (List.getD a0 i (ByteArray.mk #[],ByteArray.mk #[],false,())).2.1) > 100)=!decide ((a0.getD i zC).2.1.size≤100):=Zf _ 100
   rw [g1]
   show (bif !M9 (a0.getD i zC).1 then _ else (bif _ then _ else (bif (a0.getD i zC).2.2.1 then (bif !((a0.getD i zC).2.1.toList==[]) then _ else _) else _)))=_
   unfold Nl
   cases M9 (a0.getD i zC).1<;>cases decide ((a0.getD i zC).2.1.size≤100)<;>cases (a0.getD i zC).2.2.1<;>cases ((a0.getD i zC).2.1.toList==[])<;>rfl) (fun m=>by
   show B9 (m + 1) a0 (a0.length:Int)=_
   simp only [B9,Fu]
   rw [Mm]
   rfl) (Ft a0 0) 0 (by omega) (by simp [Ft,nI])
  refine l8 hL ?_
  rw [Nat.sub_zero]
  cases (List.range' 0 a0.length).all (fun i=>Nl (a0.getD i zC))<;>rfl
noncomputable def Ps {R:Type} (k:Kt R):=(Cj (I1 (pa_spec_ValidBatch 5) (.exit 0) 2 k) (I1 (pa_spec_ValidBatch 5) .ret 1 k))
noncomputable def Tx {R:Type}:Lt R pa_spec_ValidBatch:=(Ed (pat:=pa_spec_ValidBatch) 5 (fun d k=>(B9 (Ft d.1 d.2.1) d.1 d.2.1).bind (Ps k)) Hu)
theorem R1:A2 Tryz.prog ta_spec_ValidBatch:=A7 ⟨Xn,trivial⟩
theorem Zu {R:Type}:A3 Tryz.prog R 49 0 pa_spec_ValidBatch Tx co_spec_ValidBatch_5:=
 B3 (cfg:=⟨ta_spec_ValidBatch,0,49,pa_spec_ValidBatch⟩) 5 [] (fun NX X d=>Fu  NX (fun e=>X (.inl (e))) (fun e=>X (.inr (e))) d.1 d.2.1) (fun m d=>B9 m d.1 d.2.1) (fun d=>Ft d.1 d.2.1) Ps R1 trivial (fun f NX d=>by unfold Fu; simp only [Al,Ar,Ak,Option.bind_assoc,Option.bind_none,Option.bind_some]) (fun _ _ _=>by kernel_rfl)
theorem Mr:B2 Tryz.prog 122 sd_spec_ValidBatch:=
 A6 (pat:=pa_spec_ValidBatch) [co_spec_ValidBatch_5] Tx R1 ⟨Zu,trivial⟩ Tryz.func122 (de:=fun x=>Mq x.1) (fun x r h=>(Aa1 x.1).trans h) fun _=>by kernel_rfl
def C2 (b:List Chg):ByteArray:=Ee b
def Adk:Sig:=⟨[.rd (.sl D7)],[none],[.rd .str],[none]⟩
noncomputable def sd_spec_FormBatch:SD:=⟨Adk,fun x=>some (((C2 x.1),()),(()))⟩
noncomputable def ta_spec_FormBatch:Tb:=tb [(122,sd_spec_ValidBatch)]
def pa_spec_FormBatch:Nat→Pat×(Nat→Pat):=Gf [(6,⟨[.sl 0 0 D7,.row 3 0 5 (.int .u8)],[(0,.lf (.d (.sl D7))),(3,.lf (.row 0)),(4,.lf (.d tI))],[.row 5 (.int .u8)]⟩,[(2,⟨[.row 3 0 5 (.int .u8)],[(3,.lf (.row 0))],[.row 5 (.int .u8)]⟩)])]
noncomputable def co_spec_FormBatch_6:Code:=(As (Ba Tryz.f125)).getD 0 .skip
def Gp (v0:List Chg) (v4:Int) (r0:List Int):Nat:=((v0.length:Int) - v4).toNat + 1
noncomputable def Gq {R:Type}  (NX:((List Chg)×(Int)×(List Int)×Unit)→Option R) (X2:((List Int)×Unit)→Option R) (v0:List Chg) (v4:Int) (r0:List Int):Option R:=
 bif decide (v4 < nI v0.length) then bif decide (0≤v4) then bif decide (v4 < nI v0.length) then bif (v0.getD v4.toNat (ByteArray.mk #[],ByteArray.mk #[],false,())).2.2.1 then bif decide (0≤v4) then bif decide (v4 < nI v0.length) then bif decide ((r0.length + [1,IntKind.u8.wrap (nI (ByteArray.size (v0.getD v4.toNat (ByteArray.mk #[],ByteArray.mk #[],false,())).1))].length) * 1≤140737488355328) then bif decide (0≤v4) then bif decide (v4 < nI v0.length) then bif decide ((r0++[1,IntKind.u8.wrap (nI (ByteArray.size (v0.getD v4.toNat (ByteArray.mk #[],ByteArray.mk #[],false,())).1))]).length + ByteArray.size (v0.getD v4.toNat (ByteArray.mk #[],ByteArray.mk #[],false,())).1≤140737488355328) then NX (v0,IntKind.i64.wrap (v4 + 1),r0++[1,IntKind.u8.wrap (nI (ByteArray.size (v0.getD v4.toNat (ByteArray.mk #[],ByteArray.mk #[],false,())).1))]++Ab (v0.getD v4.toNat (ByteArray.mk #[],ByteArray.mk #[],false,())).1,()) else none else none else none else none else none else none else bif decide (0≤v4) then bif decide (v4 < nI v0.length) then bif decide ((r0.length + [0,IntKind.u8.wrap (nI (ByteArray.size (v0.getD v4.toNat (ByteArray.mk #[],ByteArray.mk #[],false,())).1))].length) * 1≤140737488355328) then bif decide (0≤v4) then bif decide (v4 < nI v0.length) then bif decide ((r0++[0,IntKind.u8.wrap (nI (ByteArray.size (v0.getD v4.toNat (ByteArray.mk #[],ByteArray.mk #[],false,())).1))]).length + ByteArray.size (v0.getD v4.toNat (ByteArray.mk #[],ByteArray.mk #[],false,())).1≤140737488355328) then bif decide (0≤v4) then bif decide (v4 < nI v0.length) then bif decide (((r0++[0,IntKind.u8.wrap (nI (ByteArray.size (v0.getD v4.toNat (ByteArray.mk #[],ByteArray.mk #[],false,())).1))]++Ab (v0.getD v4.toNat (ByteArray.mk #[],ByteArray.mk #[],false,())).1).length + [IntKind.u8.wrap (nI (ByteArray.size (v0.getD v4.toNat (ByteArray.mk #[],ByteArray.mk #[],false,())).2.1))].length) * 1≤140737488355328) then bif decide (0≤v4) then bif decide (v4 < nI v0.length) then bif decide ((r0++[0,IntKind.u8.wrap (nI (ByteArray.size (v0.getD v4.toNat (ByteArray.mk #[],ByteArray.mk #[],false,())).1))]++Ab (v0.getD v4.toNat (ByteArray.mk #[],ByteArray.mk #[],false,())).1++[IntKind.u8.wrap (nI (ByteArray.size (v0.getD v4.toNat (ByteArray.mk #[],ByteArray.mk #[],false,())).2.1))]).length + ByteArray.size (v0.getD v4.toNat (ByteArray.mk #[],ByteArray.mk #[],false,())).2.1≤140737488355328) then NX (v0,IntKind.i64.wrap (v4 + 1),r0++[0,IntKind.u8.wrap (nI (ByteArray.size (v0.getD v4.toNat (ByteArray.mk #[],ByteArray.mk #[],false,())).1))]++Ab (v0.getD v4.toNat (ByteArray.mk #[],ByteArray.mk #[],false,())).1++[IntKind.u8.wrap (nI (ByteArray.size (v0.getD v4.toNat (ByteArray.mk #[],ByteArray.mk #[],false,())).2.1))]++Ab (v0.getD v4.toNat (ByteArray.mk #[],ByteArray.mk #[],false,())).2.1,()) else none else none else none else none else none else none else none else none else none else none else none else none else none else none else X2 (r0,())
noncomputable def Cl:Nat→(List Chg)→(Int)→(List Int) →  Option ((List Int)×Unit)
 | 0,_,_,_=>none
 | m + 1,v0,v4,r0=>Gq  (fun d=>Cl m d.1 d.2.1 d.2.2.1) (fun d=>some (d)) v0 v4 r0
noncomputable def Nw (a0:List Chg):Option ((((ByteArray)×Unit)×(Unit))):=
 bif !F8 a0 then some ((ByteArray.mk #[],()),()) else ((fun d=>Cl (Gp d.1 d.2.1 d.2.2.1) d.1 d.2.1 d.2.2.1) (a0,0,[],())).bind fun val=>some ((strOfNums val.1,()),())
theorem Adl (a0:List Chg):Nw a0=some ((C2 a0,()),(())):=by
 unfold Nw C2 Ee
 show (bif !Bb a0 then _ else _)=_
 cases hv:Bb a0 with
 | false=>rfl
 | true=>
  obtain ⟨hlen,hok⟩:=Ph hv
  have hL:=j8 a0.length Alg (fun i r=>r++Qy (a0.getD i zC)) (g:=fun m i r=>Cl m a0 i r) (ok:=fun r=>(r,())) (fun m i r hi hr=>by
   show Cl (m + 1) a0 i r=_
   simp only [Cl,Gq]
   have hc:=hok i hi
   obtain ⟨k1,k2,k3⟩:=j9 hc
   rw [W1 hi,H2,wI (show i < 4611686018427387904 by omega),Int.toNat_natCast]
   have hr1:=hr.1
   have eC:List.getD a0 i (ByteArray.mk #[],ByteArray.mk #[],false,())=a0.getD i zC:=rfl
   rw [eC]
   generalize a0.getD i zC=c at *
   rw [A4i _ (show c.1.size < 256 by omega),A4i _ (show c.2.1.size < 256 by omega)]
   simp only [List.length_append,List.length_cons,List.length_nil,C0]
   rw [decide_eq_true (show (r.length + (0 + 1 + 1)) * 1≤140737488355328 by omega),decide_eq_true (show r.length + (0 + 1 + 1) + c.1.size≤140737488355328 by omega),decide_eq_true (show (r.length + (0 + 1 + 1) + c.1.size + (0 + 1)) * 1≤140737488355328 by omega),decide_eq_true (show r.length + (0 + 1 + 1) + c.1.size + (0 + 1) + c.2.1.size≤140737488355328 by omega)]
   unfold Qy
   simp only [cond_true]
   cases c.2.2.1<;>simp only [cond_true,cond_false,List.append_assoc]) (fun m r _=>by
   show Cl (m + 1) a0 (a0.length:Int) r=_
   simp only [Cl,Gq]
   rw [Mm]
   rfl) (fun i r hi hr=>hr.step (hok i hi)) a0.length (Gp a0 0 []) 0 [] (by omega) (by simp [Gp,nI]) ⟨by simp,rfl⟩
  rw [Alf Qy zC a0 a0.length 0 [] (by omega),List.nil_append,List.drop_zero] at hL
  refine l8 hL ?_
  rfl
noncomputable def Qk {R:Type} (k:Kt R):=(I1 (pa_spec_FormBatch 6) (.exit 0) 2 k)
noncomputable def Vq {R:Type}:Lt R pa_spec_FormBatch:=(Ed (pat:=pa_spec_FormBatch) 6 (fun d k=>(Cl (Gp d.1 d.2.1 d.2.2.1) d.1 d.2.1 d.2.2.1).bind (Qk k)) Hu)
theorem Tz:A2 Tryz.prog ta_spec_FormBatch:=A7 ⟨Mr,trivial⟩
theorem m5 {R:Type}:A3 Tryz.prog R 70 0 pa_spec_FormBatch Vq co_spec_FormBatch_6:=
 B3 (cfg:=⟨ta_spec_FormBatch,0,70,pa_spec_FormBatch⟩) 6 [] (fun NX X d=>Gq  NX X d.1 d.2.1 d.2.2.1) (fun m d=>Cl m d.1 d.2.1 d.2.2.1) (fun d=>Gp d.1 d.2.1 d.2.2.1) Qk Tz trivial (fun f NX d=>by unfold Gq; simp only [Al,Ar,Ak,Option.bind_assoc,Option.bind_none,Option.bind_some]) (fun _ _ _=>by kernel_rfl)
theorem Kk:B2 Tryz.prog 125 sd_spec_FormBatch:=
 A6 (pat:=pa_spec_FormBatch) [co_spec_FormBatch_6] Vq Tz ⟨m5,trivial⟩ Tryz.func125 (de:=fun x=>Nw x.1) (fun x r h=>(Adl x.1).trans h) fun _=>by kernel_rfl
def D4 (s:Stt):Bool:=Aj s
def Aa2:Sig:=⟨[.rd Ci],[some 1],[.rd .bool],[none]⟩
noncomputable def sd_spec_ValidState:SD:=⟨Aa2,fun x=>some (((D4 x.1),()),(()))⟩
noncomputable def ta_spec_ValidState:Tb:=tb [(158,sd_spec_l4KeyOk)]
def pa_spec_ValidState:Nat→Pat×(Nat→Pat):=Gf [(5,⟨[.boxSl 1 0 Av],[(1,.lf (.ptr 0 0)),(3,.lf (.d tI))],[.box 31 [.d (.sl Av)]]⟩,[(2,p0),(1,⟨[],[(2,.lf (.d .bool))],[]⟩)])]
noncomputable def co_spec_ValidState_5:Code:=(As (Ba Tryz.f69)).getD 0 .skip
def Di (v3:Int) (b0_0:List Pr2):Nat:=((b0_0.length:Int) - v3).toNat + 1
noncomputable def Fv {R:Type}  (NX:((Int)×(List Pr2)×Unit)→Option R) (X2:(Unit)→Option R) (X1:((Bool)×Unit)→Option R) (v3:Int) (b0_0:List Pr2):Option R:=
 bif decide (v3 < nI b0_0.length) then bif decide (0≤v3) then bif decide (v3 < nI b0_0.length) then bif !K1 (b0_0.getD v3.toNat (ByteArray.mk #[],ByteArray.mk #[],())).1 then X1 (false,()) else bif decide (0≤v3) then bif decide (v3 < nI b0_0.length) then bif decide (nI (ByteArray.size (b0_0.getD v3.toNat (ByteArray.mk #[],ByteArray.mk #[],())).2.1) > 100) then X1 (false,()) else bif decide (v3 > 0) then bif decide (0≤IntKind.i64.wrap (v3 - 1)) then bif decide (IntKind.i64.wrap (v3 - 1) < nI b0_0.length) then bif decide (0≤v3) then bif decide (v3 < nI b0_0.length) then bif !Op.bytesLess (ByteArray.toList (b0_0.getD (IntKind.i64.wrap (v3 - 1)).toNat (ByteArray.mk #[],ByteArray.mk #[],())).1) (ByteArray.toList (b0_0.getD v3.toNat (ByteArray.mk #[],ByteArray.mk #[],())).1) then X1 (false,()) else NX (IntKind.i64.wrap (v3 + 1),b0_0,()) else none else none else none else none else NX (IntKind.i64.wrap (v3 + 1),b0_0,()) else none else none else none else none else X2 PUnit.unit
noncomputable def Bs:Nat→(Int)→(List Pr2) →  Option ((Unit) ⊕ ((Bool)×Unit))
 | 0,_,_=>none
 | m + 1,v3,b0_0=>Fv  (fun d=>Bs m d.1 d.2.1) (fun d=>some (.inl (d))) (fun d=>some (.inr (d))) v3 b0_0
noncomputable def Ms (a0:Stt):Option ((((Bool)×Unit)×(Unit))):=
 bif decide (nI (List.length a0.1) > 100) then some ((false,()),()) else ((fun d=>Bs (Di d.1 d.2.1) d.1 d.2.1) (0,a0)).bind fun val=>Cj (fun d=>some ((true,()),())) (fun d=>some (d,())) val
theorem Aa3 (a0:Stt):Ms a0=some ((D4 a0,()),()):=by
 unfold Ms D4 Aj
 have c1:decide (nI a0.1.length > 100)=!decide (a0.1.length≤100):=Zf _ 100
 by_cases hl:a0.1.length≤100
 ·have hL:=I3 (n:=a0.1.length) (J7 a0.1) (g:=fun m i=>Bs m i a0.1) (ok:=.inl ()) (bad:=.inr (false,())) (fun m i hi=>by
   show Bs (m + 1) i a0.1=_
   simp only [Bs,Fv]
   have g1:decide (nI (ByteArray.size (List.getD a0.1 i (ByteArray.mk #[],ByteArray.mk #[],())).2.1) > 100)=!decide (ByteArray.size (List.getD a0.1 i zP).2.1≤100):=Zf _ 100
   rw [W1 hi,H2,wI (show i < 4611686018427387904 by omega),Int.toNat_natCast,gt0,g1]
   simp only [cond_true]
   unfold J7 bl
   show (bif !M9 (List.getD a0.1 i zP).1 then _ else _)=_
   cases i with
   | zero=>
    show (bif !M9 (List.getD a0.1 0 zP).1 then _ else bif !decide (ByteArray.size (List.getD a0.1 0 zP).2.1≤100) then _ else _)=_
    cases M9 (List.getD a0.1 0 zP).1<;>cases decide (ByteArray.size (List.getD a0.1 0 zP).2.1≤100)<;>rfl
   | succ j=>
    rw [wP j (by omega),H2,W1 (show j < a0.1.length by omega)]
    show (bif !M9 (List.getD a0.1 (j + 1) zP).1 then _ else bif !decide (ByteArray.size (List.getD a0.1 (j + 1) zP).2.1≤100) then _ else bif !Op.bytesLess (ByteArray.toList (List.getD a0.1 j zP).1) (ByteArray.toList (List.getD a0.1 (j + 1) zP).1) then _ else _)=_
    rw [Nat.add_sub_cancel]
    cases M9 (List.getD a0.1 (j + 1) zP).1<;>cases decide (ByteArray.size (List.getD a0.1 (j + 1) zP).2.1≤100)<;>cases Op.bytesLess (ByteArray.toList (List.getD a0.1 j zP).1) (ByteArray.toList (List.getD a0.1 (j + 1) zP).1)<;>rfl) (fun m=>by
   show Bs (m + 1) (a0.1.length:Int) a0.1=_
   simp only [Bs,Fv]
   rw [Mm]
   rfl) (Di 0 a0.1) 0 (by omega) (by simp [Di,nI])
  have hL':Bs (Di 0 a0.1) 0 a0.1=_:=hL
  rw [c1,decide_eq_true hl]
  show (Bs (Di 0 a0.1) 0 a0.1).bind _=_
  rw [hL']
  cases (List.range' 0 (a0.1.length - 0)).all (J7 a0.1)<;>rfl
 ·rw [c1,decide_eq_false hl]
  rfl
noncomputable def Pt {R:Type} (k:Kt R):=(Cj (I1 (pa_spec_ValidState 5) (.exit 0) 2 k) (I1 (pa_spec_ValidState 5) .ret 1 k))
noncomputable def T1 {R:Type}:Lt R pa_spec_ValidState:=(Ed (pat:=pa_spec_ValidState) 5 (fun d k=>(Bs (Di d.1 d.2.1) d.1 d.2.1).bind (Pt k)) Hu)
theorem R2:A2 Tryz.prog ta_spec_ValidState:=A7 ⟨Xn,trivial⟩
theorem Zv {R:Type}:A3 Tryz.prog R 53 0 pa_spec_ValidState T1 co_spec_ValidState_5:=
 B3 (cfg:=⟨ta_spec_ValidState,0,53,pa_spec_ValidState⟩) 5 [] (fun NX X d=>Fv  NX (fun e=>X (.inl (e))) (fun e=>X (.inr (e))) d.1 d.2.1) (fun m d=>Bs m d.1 d.2.1) (fun d=>Di d.1 d.2.1) Pt R2 trivial (fun f NX d=>by unfold Fv; simp only [Al,Ar,Ak,Option.bind_assoc,Option.bind_none,Option.bind_some]) (fun _ _ _=>by kernel_rfl)
theorem Jw:B2 Tryz.prog 69 sd_spec_ValidState:=
 A6 (pat:=pa_spec_ValidState) [co_spec_ValidState_5] T1 R2 ⟨Zv,trivial⟩ Tryz.func69 (de:=fun x=>Ms x.1) (fun x r h=>(Aa3 x.1).trans h) fun _=>by kernel_rfl
def H4 (s:Stt):List (List Chg):=Dd s
def Afu:Sig:=⟨[.rd Ci],[some 1],[.rd (.sl (.sl D7))],[none]⟩
noncomputable def sd_spec_Snapshot:SD:=⟨Afu,fun x=>some (((H4 x.1),()),(()))⟩
noncomputable def ta_spec_Snapshot:Tb:=tb [(69,sd_spec_ValidState)]
def pa_spec_Snapshot:Nat→Pat×(Nat→Pat):=Gf [(6,⟨[.last 3 99 D7,.boxSl 1 0 Av],[(1,.lf (.ptr 0 0)),(3,.lf (.row 1)),(4,.lf (.d tI))],[.box 31 [.d (.sl Av)],.last 73 D7 2,.row 99 D7]⟩,[(2,⟨[.last 3 99 D7],[(3,.lf (.row 0))],[.last 73 D7 1,.row 99 D7]⟩)])]
noncomputable def co_spec_Snapshot_6:Code:=(As (Ba Tryz.f126)).getD 0 .skip
def Ef (v4:Int) (b0_0:List Pr2) (r1:List (List Chg)) (c1:Bool) (r2:List Chg):Nat:=((b0_0.length:Int) - v4).toNat + 1
noncomputable def G9 {R:Type}  (NX:((Int)×(List Pr2)×(List (List Chg))×(Bool)×(List Chg)×Unit)→Option R) (X2:((List (List Chg))×(Bool)×(List Chg)×Unit)→Option R) (v4:Int) (b0_0:List Pr2) (r1:List (List Chg)) (c1:Bool) (r2:List Chg):Option R:=
 bif decide (v4 < nI b0_0.length) then bif v4.tmod 20==0 then bif decide ((r1.length + c1.toNat + 1) * 24≤140737488355328) then bif decide (0≤IntKind.i64.wrap (nI ((bif c1 then r1++[r2] else r1).length + true.toNat) - 1)) then bif decide (IntKind.i64.wrap (nI ((bif c1 then r1++[r2] else r1).length + true.toNat) - 1) < nI ((bif c1 then r1++[r2] else r1).length + true.toNat)) then bif decide ((IntKind.i64.wrap (nI ((bif c1 then r1++[r2] else r1).length + true.toNat) - 1)).toNat=(bif c1 then r1++[r2] else r1).length) then bif decide (0≤v4) then bif decide (v4 < nI b0_0.length) then bif decide (0≤v4) then bif decide (v4 < nI b0_0.length) then bif decide (0≤IntKind.i64.wrap (nI ((bif c1 then r1++[r2] else r1).length + true.toNat) - 1)) then bif decide (IntKind.i64.wrap (nI ((bif c1 then r1++[r2] else r1).length + true.toNat) - 1) < nI ((bif c1 then r1++[r2] else r1).length + true.toNat)) then bif decide ((IntKind.i64.wrap (nI ((bif c1 then r1++[r2] else r1).length + true.toNat) - 1)).toNat=(bif c1 then r1++[r2] else r1).length) then NX (IntKind.i64.wrap (v4 + 1),b0_0,bif c1 then r1++[r2] else r1,true,[]++[((b0_0.getD v4.toNat (ByteArray.mk #[],ByteArray.mk #[],())).1,(b0_0.getD v4.toNat (ByteArray.mk #[],ByteArray.mk #[],())).2.1,false,())],()) else none else none else none else none else none else none else none else none else none else none else none else bif decide (0≤IntKind.i64.wrap (nI (r1.length + c1.toNat) - 1)) then bif decide (IntKind.i64.wrap (nI (r1.length + c1.toNat) - 1) < nI (r1.length + c1.toNat)) then bif c1 then bif decide ((IntKind.i64.wrap (nI (r1.length + c1.toNat) - 1)).toNat=r1.length) then bif decide (0≤v4) then bif decide (v4 < nI b0_0.length) then bif decide (0≤v4) then bif decide (v4 < nI b0_0.length) then bif decide ((r2.length + [((b0_0.getD v4.toNat (ByteArray.mk #[],ByteArray.mk #[],())).1,(b0_0.getD v4.toNat (ByteArray.mk #[],ByteArray.mk #[],())).2.1,false,())].length) * 40≤140737488355328) then bif decide (0≤IntKind.i64.wrap (nI (r1.length + c1.toNat) - 1)) then bif decide (IntKind.i64.wrap (nI (r1.length + c1.toNat) - 1) < nI (r1.length + c1.toNat)) then bif c1 then bif decide ((IntKind.i64.wrap (nI (r1.length + c1.toNat) - 1)).toNat=r1.length) then NX (IntKind.i64.wrap (v4 + 1),b0_0,r1,c1,r2++[((b0_0.getD v4.toNat (ByteArray.mk #[],ByteArray.mk #[],())).1,(b0_0.getD v4.toNat (ByteArray.mk #[],ByteArray.mk #[],())).2.1,false,())],()) else none else none else none else none else none else none else none else none else none else none else none else none else none else X2 (r1,c1,r2,())
noncomputable def B5:Nat→(Int)→(List Pr2)→(List (List Chg))→(Bool)→(List Chg) →  Option ((List (List Chg))×(Bool)×(List Chg)×Unit)
 | 0,_,_,_,_,_=>none
 | m + 1,v4,b0_0,r1,c1,r2=>G9  (fun d=>B5 m d.1 d.2.1 d.2.2.1 d.2.2.2.1 d.2.2.2.2.1) (fun d=>some (d)) v4 b0_0 r1 c1 r2
noncomputable def O0 (a0:Stt):Option ((((List (List Chg))×Unit)×(Unit))):=
 bif !D4 a0 then some (([],()),()) else ((fun d=>B5 (Ef d.1 d.2.1 d.2.2.1 d.2.2.2.1 d.2.2.2.2.1) d.1 d.2.1 d.2.2.1 d.2.2.2.1 d.2.2.2.2.1) (0,a0.1,[],false,[],())).bind fun val=>some ((bif val.2.1 then val.1++[val.2.2.1] else val.1,()),())
theorem Afv (a0:Stt):O0 a0=some (((H4 a0),()),(())):=by
 unfold O0 H4 Dd
 show (bif !Aj a0 then _ else _)=_
 cases hv:Aj a0 with
 | false=>rfl
 | true=>
  have hl:=De hv
  have hL:=Gi (xs:=a0.1) zP Ap1 Pp (g:=fun m i s=>B5 m i a0.1 s.1 s.2.1 s.2.2) (ok:=fun s=>(s.1,s.2.1,s.2.2,())) (fun m i s hi hI=>by
   show B5 (m + 1) i a0.1 s.1 s.2.1 s.2.2=_
   obtain ⟨r0,c0,r1⟩:=s
   obtain ⟨h1,h2,h3,h4⟩:=hI
   simp only at h2 h3 h4 ⊢
   simp only [B5,G9]
   rw [W1 hi,H2,wI (show i < 4611686018427387904 by omega),Int.toNat_natCast,A1q]
   unfold Pp
   cases hc:(i % 20==0)
   ·have hp:0 < i:=Nat.pos_of_ne_zero fun q=>by subst q; cases hc
    have hc0:=h3 hp
    subst hc0
    have e1:=Ali r0.length (by omega)
    have e2:decide ((r0.length:Int) < nI (r0.length + 1))=true:=W1 (Nat.lt_succ_self _)
    have e3:decide ((r1.length + 1) * 40≤140737488355328)=true:=decide_eq_true (by omega)
    simp only [Bool.toNat_true,List.length_singleton,cond_true,cond_false,e1,e2,e3,H2,Int.toNat_natCast,decide_true]
    rfl
   ·have hL:List.length (bif c0 then r0++[r1] else r0)≤i + 1:=by cases c0<;>simp<;>omega
    have e1:=Ali (List.length (bif c0 then r0++[r1] else r0)) (by omega)
    have e2:decide (((List.length (bif c0 then r0++[r1] else r0):Nat):Int) < nI (List.length (bif c0 then r0++[r1] else r0) + 1))=true:=W1 (Nat.lt_succ_self _)
    have e3:decide ((r0.length + Bool.toNat c0 + 1) * 24≤140737488355328)=true:=decide_eq_true (by cases c0<;>simp<;>omega)
    simp only [Bool.toNat_true,cond_true,e1,e2,e3,H2,Int.toNat_natCast,decide_true]
    rfl) (fun i s hi hI=>hI.step (by omega) _) (fun m s hI=>by
   show B5 (m + 1) (a0.1.length:Int) a0.1 s.1 s.2.1 s.2.2=_
   simp only [B5,G9]
   rw [Mm]
   rfl) (Ef 0 a0.1 [] false []) 0 ([],false,[]) (by omega) (by simp [Ef,nI]) ⟨by omega,by simp,fun q=>by omega,by simp⟩
  have hL':B5 (Ef 0 a0.1 [] false []) 0 a0.1 [] false []=_:=hL
  show (B5 (Ef 0 a0.1 [] false []) 0 a0.1 [] false []).bind _=_
  rw [hL']
  rfl
noncomputable def R3 {R:Type} (k:Kt R):=(I1 (pa_spec_Snapshot 6) (.exit 0) 2 k)
noncomputable def Xo {R:Type}:Lt R pa_spec_Snapshot:=(Ed (pat:=pa_spec_Snapshot) 6 (fun d k=>(B5 (Ef d.1 d.2.1 d.2.2.1 d.2.2.2.1 d.2.2.2.2.1) d.1 d.2.1 d.2.2.1 d.2.2.2.1 d.2.2.2.2.1).bind (R3 k)) Hu)
theorem Vr:A2 Tryz.prog ta_spec_Snapshot:=A7 ⟨Jw,trivial⟩
theorem Aa4 {R:Type}:A3 Tryz.prog R 51 0 pa_spec_Snapshot Xo co_spec_Snapshot_6:=
 B3 (cfg:=⟨ta_spec_Snapshot,0,51,pa_spec_Snapshot⟩) 6 [] (fun NX X (d:(Int)×(List Pr2)×(List (List Chg))×(Bool)×(List Chg)×Unit)=>G9  NX X d.1 d.2.1 d.2.2.1 d.2.2.2.1 d.2.2.2.2.1) (fun m d=>B5 m d.1 d.2.1 d.2.2.1 d.2.2.2.1 d.2.2.2.2.1) (fun d=>Ef d.1 d.2.1 d.2.2.1 d.2.2.2.1 d.2.2.2.2.1) R3 Vr trivial (fun f NX (d:(Int)×(List Pr2)×(List (List Chg))×(Bool)×(List Chg)×Unit)=>by unfold G9; simp only [Al,Ar,Ak,Option.bind_assoc,Option.bind_none,Option.bind_some]) (fun _ _ _=>by kernel_rfl)
theorem Vs:B2 Tryz.prog 126 sd_spec_Snapshot:=
 A6 (pat:=pa_spec_Snapshot) [co_spec_Snapshot_6] Xo Vr ⟨Aa4,trivial⟩ Tryz.func126 (de:=fun x=>O0 x.1) (fun x r h=>(Afv x.1).trans h) fun _=>by kernel_rfl
def Aia:Sig:=⟨[.rd tI],[none],[.rd .bool],[none]⟩
noncomputable def Bv (a0:Int):Option ((((Bool)×Unit)×(Unit))):=
 bif decide (a0≥1) then some ((decide (a0≤8),()),()) else some ((false,()),())
noncomputable def sd_spec_l1Width:SD:=⟨Aia,fun x=>Bv x.1⟩
theorem Cz:B2 Tryz.prog 65 sd_spec_l1Width:=
 A6 (pat:=D3) [] Hu (A7 (l:=[]) trivial) trivial Tryz.func65 (de:=fun x=>Bv x.1) (fun x r h=>h) fun _=>by kernel_rfl
def Amc:Sig:=⟨[.rd tI],[none],[.rd tI],[none]⟩
noncomputable def Zw (a0:Int):Option ((((Int)×Unit)×(Unit))):=
 some ((IntKind.i64.wrap (IntKind.i64.wrap (64 - a0) - 8),()),())
noncomputable def sd_spec_l1Part:SD:=⟨Amc,fun x=>Zw x.1⟩
theorem R4:B2 Tryz.prog 70 sd_spec_l1Part:=
 A6 (pat:=D3) [] Hu (A7 (l:=[]) trivial) trivial Tryz.func70 (de:=fun x=>Zw x.1) (fun x r h=>h) fun _=>by kernel_rfl
def Ha (s:ByteArray) (w:Int):Option (List ByteArray):=if s.size≤1099511627776∧1≤w∧w≤8 then some (Bj s w) else none
def Ib (v0:ByteArray) (v6:Int) (r0:List ByteArray):Nat:=v0.size + 1
def Aib:Sig:=⟨[.rd .str,.rd tI],[none,none],[.own 9 .str],[none]⟩
noncomputable def sd_spec_l3Parts:SD:=⟨Aib,fun x=>(Ha x.1 x.2.1).bind fun r=>some ((r,()),(()))⟩
noncomputable def ta_spec_l3Parts:Tb:=tb [(70,sd_spec_l1Part)]
def pa_spec_l3Parts:Nat→Pat×(Nat→Pat):=Gf [(4,⟨[.row 5 0 9 .str],[(0,.lf (.d .str)),(5,.lf (.row 0)),(6,.lf (.d tI))],[.row 9 .str]⟩,[(2,⟨[.row 5 0 9 .str],[(0,.lf (.d .str)),(5,.lf (.row 0))],[.row 9 .str]⟩)])]
noncomputable def co_spec_l3Parts_4:Code:=(As (Ba Tryz.f200)).getD 0 .skip
noncomputable def F9 {R:Type}  (NX:((ByteArray)×(Int)×(List ByteArray)×Unit)→Option R) (X2:((ByteArray)×(List ByteArray)×Unit)→Option R) (v0:ByteArray) (v6:Int) (r0:List ByteArray):Option R:=
 bif decide (nI v0.size > v6) then bif decide (0≤v6) then bif decide (v6≤nI v0.size) then bif decide ((r0.length + [Ac v0 0 v6].length) * 16≤140737488355328) then bif decide (0≤v6) then bif decide (v6≤nI v0.size) then NX (Ac v0 v6 (nI v0.size),v6,r0++[Ac v0 0 v6],()) else none else none else none else none else none else X2 (v0,r0,())
noncomputable def D5:Nat→(ByteArray)→(Int)→(List ByteArray) →  Option ((ByteArray)×(List ByteArray)×Unit)
 | 0,_,_,_=>none
 | m + 1,v0,v6,r0=>F9  (fun d=>D5 m d.1 d.2.1 d.2.2.1) (fun d=>some (d)) v0 v6 r0
noncomputable def P9 (a0:ByteArray) (a1:Int):Option ((((List ByteArray)×Unit)×(Unit))):=
 ((fun d=>D5 (Ib d.1 d.2.1 d.2.2.1) d.1 d.2.1 d.2.2.1) (a0,IntKind.i64.wrap (IntKind.i64.wrap (64 - a1) - 8),[],())).bind fun val=>bif decide ((val.2.1.length + [val.1].length) * 16≤140737488355328) then some ((val.2.1++[val.1],()),()) else none
theorem Amd (n:Nat) (hn:1≤n) (hn2:n≤64):∀ (k m:Nat) (s:ByteArray) (r:List ByteArray),s.size≤k→k < m→r.length + s.size≤1099511627777→
  ∃ q t,D5 m s n r=some (t,q,())∧q++[t]=r++Hw n k s∧q.length + 1≤1099511627778
 | 0,m + 1,s,r,hs,hm,hr=>by
  refine ⟨r,s,?_,rfl,by omega⟩
  simp only [D5,F9]
  rw [decide_eq_false (show ¬ (nI s.size > (n:Int)) by simp only [nI]; omega)]
  rfl
 | k + 1,m + 1,s,r,hs,hm,hr=>by
  by_cases q:s.size > n
  ·have hc:(Ac s n (nI s.size)).size=s.size - n:=by rw [C6 (by omega) (by simp only [nI]; omega) (by simp [nI])]; simp only [nI]; omega
   obtain ⟨q',t',e1,e2,e3⟩:=Amd n hn hn2 k m (Ac s n (nI s.size)) (r++[Ac s 0 n]) (by omega) (by omega) (by rw [List.length_append,List.length_singleton]; omega)
   refine ⟨q',t',?_,?_,e3⟩
   ·simp only [D5,F9]
    rw [decide_eq_true (show nI s.size > (n:Int) by simp only [nI]; omega),H2,decide_eq_true (show (n:Int)≤nI s.size by simp only [nI]; omega),decide_eq_true (show (r.length + [Ac s 0 n].length) * 16≤140737488355328 by rw [List.length_singleton]; omega)]
    exact e1
   ·rw [e2,List.append_assoc]
    simp only [Hw,if_pos q]
    rfl
  ·refine ⟨r,s,?_,by simp only [Hw,if_neg q],by omega⟩
   simp only [D5,F9]
   rw [decide_eq_false (show ¬ (nI s.size > (n:Int)) by simp only [nI]; omega)]
   rfl
theorem Aic (a0:ByteArray) (a1:Int) r (h:Ha a0 a1=some r):P9 a0 a1=some ((r,()),(())):=by
 unfold Ha at h
 split at h
 ·rename_i hc
  cases h
  obtain ⟨h0,h1,h2⟩:=hc
  obtain ⟨n,hn⟩:∃ n:Nat,56 - a1=(n:Int):=⟨(56 - a1).toNat,by omega⟩
  unfold P9 Bj
  rw [Ag (n:=64 - a1) (by omega) (by omega),Ag (n:=64 - a1 - 8) (by omega) (by omega),show 64 - a1 - 8=56 - a1 by omega,hn,Int.toNat_natCast]
  obtain ⟨q,t,e1,e2,e3⟩:=Amd n (by omega) (by omega) a0.size (Ib a0 n []) a0 [] (by omega) (by simp only [Ib]; omega) (by rw [List.length_nil]; omega)
  rw [List.nil_append] at e2
  refine l8 e1 ?_
  show (bif decide ((q.length + [t].length) * 16≤140737488355328) then some ((q++[t],()),()) else none)=_
  rw [decide_eq_true (by rw [List.length_singleton]; omega),e2]
  rfl
 ·cases h
noncomputable def T3 {R:Type} (k:Kt R):=(I1 (pa_spec_l3Parts 4) (.exit 0) 2 k)
noncomputable def Zx {R:Type}:Lt R pa_spec_l3Parts:=(Ed (pat:=pa_spec_l3Parts) 4 (fun d k=>(D5 (Ib d.1 d.2.1 d.2.2.1) d.1 d.2.1 d.2.2.1).bind (T3 k)) Hu)
theorem Xp:A2 Tryz.prog ta_spec_l3Parts:=A7 ⟨R4,trivial⟩
theorem Adm {R:Type}:A3 Tryz.prog R 27 0 pa_spec_l3Parts Zx co_spec_l3Parts_4:=
 B3 (cfg:=⟨ta_spec_l3Parts,0,27,pa_spec_l3Parts⟩) 4 [] (fun NX X d=>F9  NX X d.1 d.2.1 d.2.2.1) (fun m d=>D5 m d.1 d.2.1 d.2.2.1) (fun d=>Ib d.1 d.2.1 d.2.2.1) T3 Xp trivial (fun f NX d=>by unfold F9; simp only [Al,Ar,Ak,Option.bind_assoc,Option.bind_none,Option.bind_some]) (fun _ _ _=>by kernel_rfl)
theorem Xq:B2 Tryz.prog 200 sd_spec_l3Parts:=
 A6 (pat:=pa_spec_l3Parts) [co_spec_l3Parts_4] Zx Xp ⟨Adm,trivial⟩ Tryz.func200 (de:=fun x=>P9 x.1 x.2.1) (fun x r h=>Hv (Aic x.1 x.2.1) h) fun _=>by kernel_rfl
def Nx (s:ByteArray) (w:Int):Option Int:=if s.size≤1099511627776 then some (bif Ch w 1 8 then ((Bj s w).length:Int) else 0) else none
def An3:Sig:=⟨[.rd .str,.rd tI],[none,none],[.rd tI],[none]⟩
noncomputable def sd_spec_Pages:SD:=⟨An3,fun x=>(Nx x.1 x.2.1).bind fun r=>some ((r,()),(()))⟩
noncomputable def Up (a0:ByteArray) (a1:Int):Option ((((Int)×Unit)×(Unit))):=
 (Bv a1).bind fun val=>bif !val.1.1 then some ((0,()),()) else ((Ha a0 a1).bind fun val=>some ((val,()),())).bind fun val=>some ((nI (List.length val.1.1),()),())
theorem An4 (a0:ByteArray) (a1:Int) r (h:Nx a0 a1=some r):Up a0 a1=some ((r,()),(())):=by
 unfold Nx at h
 split at h
 ·rename_i hc
  cases h
  unfold Up
  refine l8 (wid a1) ?_
  show (bif !Ch a1 1 8 then _ else _)=_
  cases hw:Ch a1 1 8 with
  | false=>rfl
  | true=>
   have n1:Ha a0 a1=some (Bj a0 a1):=if_pos ⟨hc,Cy hw⟩
   simp only [n1,Option.bind_some,Bool.not_true,cond_false,cond_true]
   try rfl
 ·cases h
theorem An5:B2 Tryz.prog 127 sd_spec_Pages:=
 A6 (pat:=D3) [] Hu (A7 (l:=[(65,sd_spec_l1Width),(200,sd_spec_l3Parts)]) ⟨Cz,Xq,trivial⟩) trivial Tryz.func127 (de:=fun x=>Up x.1 x.2.1) (fun x r h=>Hv (An4 x.1 x.2.1) h) fun _=>by kernel_rfl
def Jt (s:Stt) (w:Int):Int:=Kj s w
def Aru:Sig:=⟨[.rd Ci,.rd tI],[some 1,none],[.rd tI],[none]⟩
noncomputable def sd_spec_Room:SD:=⟨Aru,fun x=>some (((Jt x.1 x.2.1),()),(()))⟩
noncomputable def ta_spec_Room:Tb:=tb [(125,sd_spec_FormBatch),(126,sd_spec_Snapshot),(127,sd_spec_Pages)]
def pa_spec_Room:Nat→Pat×(Nat→Pat):=Gf [(5,⟨[.sl 6 0 (.sl D7)],[(1,.lf (.d tI)),(5,.lf (.d tI)),(6,.lf (.d (.sl (.sl D7)))),(7,.lf (.d tI))],[]⟩,[(2,⟨[],[(5,.lf (.d tI))],[]⟩)])]
noncomputable def co_spec_Room_5:Code:=(As (Ba Tryz.f41)).getD 0 .skip
def Hb (v1:Int) (v5:Int) (v6:List (List Chg)) (v7:Int):Nat:=((v6.length:Int) - v7).toNat + 1
noncomputable def K2 {R:Type}  (NX:((Int)×(Int)×(List (List Chg))×(Int)×Unit)→Option R) (X2:((Int)×Unit)→Option R) (v1:Int) (v5:Int) (v6:List (List Chg)) (v7:Int):Option R:=
 bif decide (v7 < nI v6.length) then bif decide (0≤v7) then bif decide (v7 < nI v6.length) then ((Nx (C2 (v6.getD v7.toNat [])) v1).bind fun val=>some ((val,()),())).bind fun val=>NX (v1,IntKind.i64.wrap (v5 + val.1.1),v6,IntKind.i64.wrap (v7 + 1),()) else none else none else X2 (v5,())
noncomputable def Dj:Nat→(Int)→(Int)→(List (List Chg))→(Int) →  Option ((Int)×Unit)
 | 0,_,_,_,_=>none
 | m + 1,v1,v5,v6,v7=>K2  (fun d=>Dj m d.1 d.2.1 d.2.2.1 d.2.2.2.1) (fun d=>some (d)) v1 v5 v6 v7
noncomputable def W8 (a0:Stt) (a1:Int):Option ((((Int)×Unit)×(Unit))):=
 ((fun d=>Dj (Hb d.1 d.2.1 d.2.2.1 d.2.2.2.1) d.1 d.2.1 d.2.2.1 d.2.2.2.1) (a1,0,H4 a0,0,())).bind fun val=>some (val,())
theorem Arv (a0:Stt) (a1:Int):W8 a0 a1=some (((Jt a0 a1),()),(())):=by
 unfold W8 Jt
 have hl:=Vg a0
 have hL:=Gi (xs:=Dd a0) [] Azh (fun _ b a=>a + Gw (Ee b).size a1) (g:=fun m i a=>Dj m a1 a (Dd a0) i) (ok:=fun a=>(a,())) (fun m i a hi hI=>by
  show Dj (m + 1) a1 a (Dd a0) i=_
  simp only [Dj,K2]
  rw [W1 hi,H2,wI (show i < 4611686018427387904 by omega),Int.toNat_natCast]
  have e1:Nx (C2 (List.getD (Dd a0) i [])) a1=some (Gw (Ee (List.getD (Dd a0) i [])).size a1):=by
    rw [← Ac5]
    exact if_pos (Nat.le_trans (Kx _) (by decide))
  rw [e1]
  simp only [cond_true,Option.bind_some]
  rw [Alj hI]) (fun i a hi hI=>hI.step (by omega) _ _) (fun m a hI=>by
  show Dj (m + 1) a1 a (Dd a0) ((Dd a0).length:Int)=_
  simp only [Dj,K2]
  rw [Mm]
  rfl) (Hb a1 0 (Dd a0) 0) 0 0 (by omega) (by simp [Hb,nI]) ⟨by omega,by omega,by omega⟩
 have hL':Dj (Hb a1 0 (Dd a0) 0) a1 0 (Dd a0) 0=_:=hL
 show (Dj (Hb a1 0 (Dd a0) 0) a1 0 (Dd a0) 0).bind _=_
 rw [hL',Afk,List.drop_zero,At5,Int.zero_add]
 rfl
noncomputable def Zy {R:Type} (k:Kt R):=(I1 (pa_spec_Room 5) (.exit 0) 2 k)
noncomputable def Ahm {R:Type}:Lt R pa_spec_Room:=(Ed (pat:=pa_spec_Room) 5 (fun d k=>(Dj (Hb d.1 d.2.1 d.2.2.1 d.2.2.2.1) d.1 d.2.1 d.2.2.1 d.2.2.2.1).bind (Zy k)) Hu)
theorem Adn:A2 Tryz.prog ta_spec_Room:=A7 ⟨Kk,Vs,An5,trivial⟩
theorem Ame {R:Type}:A3 Tryz.prog R 26 0 pa_spec_Room Ahm co_spec_Room_5:=
 B3 (cfg:=⟨ta_spec_Room,0,26,pa_spec_Room⟩) 5 [] (fun NX X d=>K2  NX X d.1 d.2.1 d.2.2.1 d.2.2.2.1) (fun m d=>Dj m d.1 d.2.1 d.2.2.1 d.2.2.2.1) (fun d=>Hb d.1 d.2.1 d.2.2.1 d.2.2.2.1) Zy Adn trivial (fun f NX d=>by unfold K2; simp only [Al,Ar,Ak,Option.bind_assoc,Option.bind_none,Option.bind_some]) (fun _ _ _=>by kernel_rfl)
theorem W9:B2 Tryz.prog 41 sd_spec_Room:=
 A6 (pat:=pa_spec_Room) [co_spec_Room_5] Ahm Adn ⟨Ame,trivial⟩ Tryz.func41 (de:=fun x=>W8 x.1 x.2.1) (fun x r h=>(Arv x.1 x.2.1).trans h) fun _=>by kernel_rfl
def T4 (p:Pg) (w:Int):Bool:=Fg p w
def Arw:Sig:=⟨[.rd yPg,.rd tI],[some 4,none],[.rd .bool],[none]⟩
noncomputable def sd_spec_l1Ok:SD:=⟨Arw,fun x=>some (((T4 x.1 x.2.1),()),(()))⟩
noncomputable def Xa (a0:Pg) (a1:Int):Option ((((Bool)×Unit)×(Unit))):=
 (Bv a1).bind fun val=>bif !val.1.1 then some ((false,()),()) else bif decide (a0.1 < 1) then some ((false,()),()) else bif decide (a0.1 > 4) then some ((false,()),()) else bif decide (a0.2.1 < 1) then some ((false,()),()) else bif decide (a0.2.1 > 60000) then some ((false,()),()) else bif decide (a0.2.2.1 < 1) then some ((false,()),()) else bif decide (a0.2.2.1 > 1000000000) then some ((false,()),()) else bif decide (nI (ByteArray.size a0.2.2.2.1)≤IntKind.i64.wrap (IntKind.i64.wrap (64 - a1) - 8)) then bif a0.1 != 3 then some ((true,()),()) else some ((ByteArray.toList a0.2.2.2.1==(ByteArray.mk #[]).toList,()),()) else some ((false,()),())
theorem Arx (a0:Pg) (a1:Int):Xa a0 a1=some (((T4 a0 a1),()),(())):=by
 unfold Xa T4 Fg
 have tl:ByteArray.toList (ByteArray.mk #[])=[]:=by decide +kernel
 rw [tl]
 refine l8 (wid a1) ?_
 show (bif !Ch a1 1 8 then _ else _)=_
 cases hw:Ch a1 1 8 with
 | false=>rfl
 | true=>
  have k1:=of_decide_eq_true (B7 hw).1
  have k2:=of_decide_eq_true (B7 hw).2
  rw [Ag (n:=64 - a1) (by omega) (by omega),Ag (by omega) (by omega),show 64 - a1 - 8=56 - a1 by omega]
  have e:∀ (x lo hi:Int) {ρ:Type} (f t:ρ),(bif decide (x < lo) then f else bif decide (x > hi) then f else t)=bif Ch x lo hi then t else f:=by
   intro x lo hi ρ f t
   unfold Ch
   by_cases h1:x < lo
   ·rw [decide_eq_true h1,decide_eq_false (show ¬ lo≤x by omega)]; rfl
   ·rw [decide_eq_false h1,decide_eq_true (show lo≤x by omega)]
    by_cases h2:x > hi
    ·rw [decide_eq_true h2,decide_eq_false (show ¬ x≤hi by omega)]; rfl
    ·rw [decide_eq_false h2,decide_eq_true (show x≤hi by omega)]; rfl
  rw [e a0.1,e a0.2.1,e a0.2.2.1]
  cases Ch a0.1 1 4<;>cases Ch a0.2.1 1 60000<;>cases Ch a0.2.2.1 1 1000000000<;>try rfl
  show (bif decide ((ByteArray.size a0.2.2.2.1:Int)≤56 - a1) then _ else _)=_
  cases decide ((ByteArray.size a0.2.2.2.1:Int)≤56 - a1)<;>cases (a0.1 != 3)<;>rfl
theorem Ary:B2 Tryz.prog 159 sd_spec_l1Ok:=
 A6 (pat:=D3) [] Hu (A7 (l:=[(65,sd_spec_l1Width),(70,sd_spec_l1Part)]) ⟨Cz,R4,trivial⟩) trivial Tryz.func159 (de:=fun x=>Xa x.1 x.2.1) (fun x r h=>(Arx x.1 x.2.1).trans h) fun _=>by kernel_rfl
theorem Vt:∃ f:Int→Int→Option ByteArray,f=fun v n=>if 0≤v∧v < 9223372036854775808∧0≤n∧n≤1000 then some (C9 v n.toNat) else none:=⟨_,rfl⟩
noncomputable def Bn (v n:Int):Option ByteArray:=Classical.choose Vt v n
theorem Fi (v n:Int):Bn v n=if 0≤v∧v < 9223372036854775808∧0≤n∧n≤1000 then some (C9 v n.toNat) else none:=by
 unfold Bn
 rw [Classical.choose_spec Vt]
def Hc (v0 v1:Int) (v5:ByteArray) (v6:Int):Nat:=(v1 - v6).toNat + 1
def Afw:Sig:=⟨[.rd tI,.rd tI],[none,none],[.rd .str],[none]⟩
noncomputable def sd_spec_l1Number:SD:=⟨Afw,fun x=>(Bn x.1 x.2.1).bind fun r=>some ((r,()),(()))⟩
noncomputable def ta_spec_l1Number:Tb:=tb []
def pa_spec_l1Number:Nat→Pat×(Nat→Pat):=Gf [(4,⟨[],[(0,.lf (.d tI)),(1,.lf (.d tI)),(5,.lf (.d .str)),(6,.lf (.d tI))],[]⟩,[(2,⟨[],[(5,.lf (.d .str))],[]⟩)])]
noncomputable def co_spec_l1Number_4:Code:=(As (Ba Tryz.f160)).getD 0 .skip
noncomputable def Hd {R:Type}  (NX:((Int)×(Int)×(ByteArray)×(Int)×Unit)→Option R) (X2:((ByteArray)×Unit)→Option R) (v0:Int) (v1:Int) (v5:ByteArray) (v6:Int):Option R:=
 bif decide (v6 < v1) then bif decide ((strOfNums [IntKind.u8.wrap (v0.tmod 256)]).size + v5.size≤9223372036854775807) then NX (IntKind.i64.wrap (v0.tdiv 256),v1,strOfNums [IntKind.u8.wrap (v0.tmod 256)]++v5,IntKind.i64.wrap (v6 + 1),()) else none else X2 (v5,())
noncomputable def Eg:Nat→(Int)→(Int)→(ByteArray)→(Int) →  Option ((ByteArray)×Unit)
 | 0,_,_,_,_=>none
 | m + 1,v0,v1,v5,v6=>Hd  (fun d=>Eg m d.1 d.2.1 d.2.2.1 d.2.2.2.1) (fun d=>some (d)) v0 v1 v5 v6
noncomputable def O1 (a0:Int) (a1:Int):Option ((((ByteArray)×Unit)×(Unit))):=
 ((fun d=>Eg (Hc d.1 d.2.1 d.2.2.1 d.2.2.2.1) d.1 d.2.1 d.2.2.1 d.2.2.2.1) (a0,a1,ByteArray.mk #[],0,())).bind fun val=>some (val,())
theorem s9:∀ (k m i:Nat) (v:Int) (out:ByteArray),i + k≤1000→k < m→out.size=i→0≤v→v < 9223372036854775808→Eg m v ((i + k:Nat):Int) out i=some (C9 v k++out,())
 | 0,m + 1,i,v,out,hi,hm,ho,h0,h1=>by
  simp only [Eg,Hd]
  rw [decide_eq_false (by omega),Atu]
  rfl
 | k + 1,m + 1,i,v,out,hi,hm,ho,h0,h1=>by
  simp only [Eg,Hd]
  have e1:IntKind.wrap IntKind.u8 (Int.tmod v 256)=v % 256:=by
   rw [Int.tmod_eq_emod_of_nonneg h0]
   show v % 256 % 256=v % 256
   omega
  have e2:IntKind.i64.wrap (Int.tdiv v 256)=v / 256:=by
   rw [Int.tdiv_eq_ediv_of_nonneg h0]
   exact Ag (by omega) (by omega)
  rw [decide_eq_true (show (i:Int) < ((i + (k + 1):Nat):Int) by omega),e1,e2,decide_eq_true (show ByteArray.size (strOfNums [v % 256]) + ByteArray.size out≤9223372036854775807 by rw [ho,Cp]; simp; omega),wI (show i < 4611686018427387904 by omega)]
  have hL:=s9 k m (i + 1) (v / 256) (strOfNums [v % 256]++out) (by omega) (by omega) (by rw [ByteArray.size_append,ho,Cp]; simp; omega) (by omega) (by omega)
  rw [show i + 1 + k=i + (k + 1) by omega] at hL
  refine hL.trans ?_
  rw [← ByteArray.append_assoc,← Atv]
theorem Afx (a0:Int) (a1:Int) r (h:Bn a0 a1=some r):O1 a0 a1=some ((r,()),(())):=by
 rw [Fi] at h
 split at h
 ·rename_i hc
  cases h
  obtain ⟨n,rfl⟩:∃ n:Nat,a1=(n:Int):=⟨a1.toNat,by omega⟩
  unfold O1
  have hL:=s9 n (Hc a0 n (ByteArray.mk #[]) 0) 0 a0 (ByteArray.mk #[]) (by omega) (by simp only [Hc]; omega) rfl hc.1 hc.2.1
  rw [Nat.zero_add] at hL
  rw [A1j] at hL
  exact l8 hL rfl
 ·cases h
noncomputable def R5 {R:Type} (k:Kt R):=(I1 (pa_spec_l1Number 4) (.exit 0) 2 k)
noncomputable def Xr {R:Type}:Lt R pa_spec_l1Number:=(Ed (pat:=pa_spec_l1Number) 4 (fun d k=>(Eg (Hc d.1 d.2.1 d.2.2.1 d.2.2.2.1) d.1 d.2.1 d.2.2.1 d.2.2.2.1).bind (R5 k)) Hu)
theorem Vu:A2 Tryz.prog ta_spec_l1Number:=A7 trivial
theorem Aa5 {R:Type}:A3 Tryz.prog R 22 0 pa_spec_l1Number Xr co_spec_l1Number_4:=
 B3 (cfg:=⟨ta_spec_l1Number,0,22,pa_spec_l1Number⟩) 4 [] (fun NX X d=>Hd  NX X d.1 d.2.1 d.2.2.1 d.2.2.2.1) (fun m d=>Eg m d.1 d.2.1 d.2.2.1 d.2.2.2.1) (fun d=>Hc d.1 d.2.1 d.2.2.1 d.2.2.2.1) R5 Vu trivial (fun f NX d=>by unfold Hd; simp only [Al,Ar,Ak,Option.bind_assoc,Option.bind_none,Option.bind_some]) (fun _ _ _=>by kernel_rfl)
theorem Vv:B2 Tryz.prog 160 sd_spec_l1Number:=
 A6 (pat:=pa_spec_l1Number) [co_spec_l1Number_4] Xr Vu ⟨Aa5,trivial⟩ Tryz.func160 (de:=fun x=>O1 x.1 x.2.1) (fun x r h=>Hv (Afx x.1 x.2.1) h) fun _=>by kernel_rfl
def R6 (s:ByteArray) (w:Int):Option ByteArray:=if s.size < 4611686018427387904 then some (Ac1 s w) else none
def Lv (v0:ByteArray) (v1 v5 v6:Int):Nat:=(nI v0.size - v6).toNat + 1
def K3 (v1 v5:Int) (v7:ByteArray) (v8:Int):Nat:=(v1 - v8).toNat + 1
def Auk:Sig:=⟨[.rd .str,.rd tI],[none,none],[.rd .str],[none]⟩
noncomputable def sd_spec_Sum:SD:=⟨Auk,fun x=>(R6 x.1 x.2.1).bind fun r=>some ((r,()),(()))⟩
noncomputable def ta_spec_Sum:Tb:=tb [(65,sd_spec_l1Width)]
def pa_spec_Sum:Nat→Pat×(Nat→Pat):=Gf [(6,⟨[],[(0,.lf (.d .str)),(1,.lf (.d tI)),(5,.lf (.d (.int .u64))),(6,.lf (.d tI))],[]⟩,[(2,⟨[],[(1,.lf (.d tI)),(5,.lf (.d (.int .u64)))],[]⟩)]),(11,⟨[],[(1,.lf (.d tI)),(5,.lf (.d (.int .u64))),(7,.lf (.d .str)),(8,.lf (.d tI))],[]⟩,[(4,⟨[],[(7,.lf (.d .str))],[]⟩)])]
noncomputable def co_spec_Sum_6:Code:=(As (Ba Tryz.f161)).getD 0 .skip
noncomputable def co_spec_Sum_11:Code:=(As (Ba Tryz.f161)).getD 1 .skip
noncomputable def K4 {R:Type}  (NX:((Int)×(Int)×(ByteArray)×(Int)×Unit)→Option R) (X4:((ByteArray)×Unit)→Option R) (v1:Int) (v5:Int) (v7:ByteArray) (v8:Int):Option R:=
 bif decide (v8 < v1) then bif decide ((strOfNums [IntKind.u8.wrap (v5.tmod 256)]).size + v7.size≤9223372036854775807) then NX (v1,IntKind.u64.wrap (v5.tdiv 256),strOfNums [IntKind.u8.wrap (v5.tmod 256)]++v7,IntKind.i64.wrap (v8 + 1),()) else none else X4 (v7,())
noncomputable def He:Nat→(Int)→(Int)→(ByteArray)→(Int) →  Option ((ByteArray)×Unit)
 | 0,_,_,_,_=>none
 | m + 1,v1,v5,v7,v8=>K4  (fun d=>He m d.1 d.2.1 d.2.2.1 d.2.2.2.1) (fun d=>some (d)) v1 v5 v7 v8
noncomputable def Lw {R:Type}  (NX:((ByteArray)×(Int)×(Int)×(Int)×Unit)→Option R) (X2:((Int)×(Int)×Unit)→Option R) (v0:ByteArray) (v1:Int) (v5:Int) (v6:Int):Option R:=
 bif decide (v6 < nI v0.size) then bif decide (0≤v6) then bif decide (v6 < nI v0.size) then NX (v0,v1,IntKind.u64.wrap (IntKind.u64.wrap (nI (BitVec.ofInt 64 v5 ^^^ BitVec.ofInt 64 (IntKind.u64.wrap (An v0 v6))).toNat) * 1099511628211),IntKind.i64.wrap (v6 + 1),()) else none else none else X2 (v1,v5,())
noncomputable def Fo:Nat→(ByteArray)→(Int)→(Int)→(Int) →  Option ((Int)×(Int)×Unit)
 | 0,_,_,_,_=>none
 | m + 1,v0,v1,v5,v6=>Lw  (fun d=>Fo m d.1 d.2.1 d.2.2.1 d.2.2.2.1) (fun d=>some (d)) v0 v1 v5 v6
noncomputable def Zz (a0:ByteArray) (a1:Int):Option ((((ByteArray)×Unit)×(Unit))):=
 (Bv a1).bind fun val=>bif !val.1.1 then some ((ByteArray.mk #[],()),()) else ((fun d=>Fo (Lv d.1 d.2.1 d.2.2.1 d.2.2.2.1) d.1 d.2.1 d.2.2.1 d.2.2.2.1) (a0,a1,14695981039346656037,0,())).bind fun val=>((fun d=>He (K3 d.1 d.2.1 d.2.2.1 d.2.2.2.1) d.1 d.2.1 d.2.2.1 d.2.2.2.1) (val.1,val.2.1,ByteArray.mk #[],0,())).bind fun val=>some (val,())
theorem Amf:∀ (k m i:Nat) (v:Int) (out:ByteArray),i + k≤1000→k < m→out.size=i→U64 v→He m ((i + k:Nat):Int) v out i=some (C9 v k++out,())
 | 0,m + 1,i,v,out,hi,hm,ho,hv=>by
  simp only [He,K4]
  rw [decide_eq_false (by omega),Atu]
  rfl
 | k + 1,m + 1,i,v,out,hi,hm,ho,hv=>by
  have h0:=hv.1
  have h1:=hv.2
  simp only [He,K4]
  have e1:IntKind.wrap IntKind.u8 (Int.tmod v 256)=v % 256:=by
   rw [Int.tmod_eq_emod_of_nonneg h0]
   show v % 256 % 256=v % 256
   omega
  have e2:IntKind.wrap IntKind.u64 (Int.tdiv v 256)=v / 256:=by
   rw [Int.tdiv_eq_ediv_of_nonneg h0,A4h]
   omega
  rw [decide_eq_true (show (i:Int) < ((i + (k + 1):Nat):Int) by omega),e1,e2,decide_eq_true (show ByteArray.size (strOfNums [v % 256]) + ByteArray.size out≤9223372036854775807 by rw [ho,Cp]; simp; omega),wI (show i < 4611686018427387904 by omega)]
  have hL:=Amf k m (i + 1) (v / 256) (strOfNums [v % 256]++out) (by omega) (by omega) (by rw [ByteArray.size_append,ho,Cp]; simp; omega) ⟨by omega,by omega⟩
  rw [show i + 1 + k=i + (k + 1) by omega] at hL
  refine hL.trans ?_
  rw [← ByteArray.append_assoc,← Atv]
theorem Aul (a0:ByteArray) (a1:Int) r (h:R6 a0 a1=some r):Zz a0 a1=some ((r,()),(())):=by
 unfold R6 at h
 split at h
 rotate_left
 ·cases h
 rename_i hsz
 cases h
 unfold Zz Ac1
 generalize hC:(14695981039346656037:Int)=C
 have h0:U64 C:=by rw [← hC]; exact ⟨by decide,by decide⟩
 refine l8 (wid a1) ?_
 show (bif !Ch a1 1 8 then _ else _)=_
 cases hw:Ch a1 1 8 with
 | false=>rfl
 | true=>
  have k1:=of_decide_eq_true (B7 hw).1
  have k2:=of_decide_eq_true (B7 hw).2
  ·simp only [Bool.not_true,cond_false,cond_true]
   have hL:=j8 a0.size (fun _ _=>True) (fun i h=>Ze h (An a0 i)) (g:=fun m i h=>Fo m a0 a1 h i) (ok:=fun h=>(a1,h,())) (fun m i h hi _=>by
    show Fo (m + 1) a0 a1 h i=_
    simp only [Fo,Lw]
    have c1:(i:Int) < nI a0.size:=by simp only [nI]; omega
    rw [decide_eq_true c1,H2,wI (show i < 4611686018427387904 by omega)]
    rfl) (fun m h _=>by
    show Fo (m + 1) a0 a1 h a0.size=_
    simp only [Fo,Lw]
    rw [decide_eq_false (show ¬ ((a0.size:Int) < nI a0.size) by simp only [nI]; omega)]
    rfl) (fun _ _ _ _=>trivial) a0.size (Lv a0 a1 C 0) 0 C (by omega) (by simp only [Lv,nI]; omega) trivial
   rw [show ((0:Nat):Int)=0 from rfl] at hL
   refine l8 hL ?_
   obtain ⟨n,rfl⟩:∃ n:Nat,a1=(n:Int):=⟨a1.toNat,by omega⟩
   have hM:=Amf n (K3 n (Aff a0 a0.size 0 C) (ByteArray.mk #[]) 0) 0 (Aff a0 a0.size 0 C) (ByteArray.mk #[]) (by omega) (by simp only [K3]; omega) rfl (Axs a0 _ _ h0)
   rw [Nat.zero_add,A1j] at hM
   exact l8 hM rfl
noncomputable def u4 {R:Type} (k:Kt R):=(I1 (pa_spec_Sum 6) (.exit 0) 2 k)
noncomputable def Z0 {R:Type} (k:Kt R):=(I1 (pa_spec_Sum 11) (.exit 2) 4 k)
noncomputable def Aa6 {R:Type}:Lt R pa_spec_Sum:=(Ed (pat:=pa_spec_Sum) 6 (fun d k=>(Fo (Lv d.1 d.2.1 d.2.2.1 d.2.2.2.1) d.1 d.2.1 d.2.2.1 d.2.2.2.1).bind (u4 k)) (Ed (pat:=pa_spec_Sum) 11 (fun d k=>(He (K3 d.1 d.2.1 d.2.2.1 d.2.2.2.1) d.1 d.2.1 d.2.2.1 d.2.2.2.1).bind (Z0 k)) Hu))
theorem Z1:A2 Tryz.prog ta_spec_Sum:=A7 ⟨Cz,trivial⟩
theorem Amg {R:Type}:A3 Tryz.prog R 40 0 pa_spec_Sum Aa6 co_spec_Sum_11:=
 B3 (cfg:=⟨ta_spec_Sum,0,40,pa_spec_Sum⟩) 11 [] (fun NX X d=>K4  NX X d.1 d.2.1 d.2.2.1 d.2.2.2.1) (fun m d=>He m d.1 d.2.1 d.2.2.1 d.2.2.2.1) (fun d=>K3 d.1 d.2.1 d.2.2.1 d.2.2.2.1) Z0 Z1 trivial (fun f NX d=>by unfold K4; simp only [Al,Ar,Ak,Option.bind_assoc,Option.bind_none,Option.bind_some]) (fun _ _ _=>by kernel_rfl)
theorem An6 {R:Type}:A3 Tryz.prog R 40 0 pa_spec_Sum Aa6 co_spec_Sum_6:=
 B3 (cfg:=⟨ta_spec_Sum,0,40,pa_spec_Sum⟩) 6 [] (fun NX X d=>Lw  NX X d.1 d.2.1 d.2.2.1 d.2.2.2.1) (fun m d=>Fo m d.1 d.2.1 d.2.2.1 d.2.2.2.1) (fun d=>Lv d.1 d.2.1 d.2.2.1 d.2.2.2.1) u4 Z1 trivial (fun f NX d=>by unfold Lw; simp only [Al,Ar,Ak,Option.bind_assoc,Option.bind_none,Option.bind_some]) (fun _ _ _=>by kernel_rfl)
theorem Aum:B2 Tryz.prog 161 sd_spec_Sum:=
 A6 (pat:=pa_spec_Sum) [co_spec_Sum_6,co_spec_Sum_11] Aa6 Z1 ⟨An6,Amg,trivial⟩ Tryz.func161 (de:=fun x=>Zz x.1 x.2.1) (fun x r h=>Hv (Aul x.1 x.2.1) h) fun _=>by kernel_rfl
def Cm (p:Pg) (w:Int):ByteArray:=Cx p w
def Hf (v1:Int) (v5:ByteArray):Nat:=(64 - v1 - nI v5.size).toNat + 1
def Afy:Sig:=⟨[.rd yPg,.rd tI],[some 4,none],[.rd .str],[none]⟩
noncomputable def sd_spec_FormPage:SD:=⟨Afy,fun x=>some (((Cm x.1 x.2.1),()),(()))⟩
noncomputable def ta_spec_FormPage:Tb:=tb [(159,sd_spec_l1Ok),(160,sd_spec_l1Number),(161,sd_spec_Sum)]
def pa_spec_FormPage:Nat→Pat×(Nat→Pat):=Gf [(5,⟨[],[(1,.lf (.d tI)),(5,.lf (.d .str))],[]⟩,[(2,⟨[],[(1,.lf (.d tI)),(5,.lf (.d .str))],[]⟩)])]
noncomputable def co_spec_FormPage_5:Code:=(As (Ba Tryz.f72)).getD 0 .skip
noncomputable def Hg {R:Type}  (NX:((Int)×(ByteArray)×Unit)→Option R) (X2:((Int)×(ByteArray)×Unit)→Option R) (v1:Int) (v5:ByteArray):Option R:=
 bif decide (IntKind.i64.wrap (nI v5.size + v1) < 64) then bif decide (v5.size + (ByteArray.mk #[0]).size≤9223372036854775807) then NX (v1,v5++ByteArray.mk #[0],()) else none else X2 (v1,v5,())
noncomputable def Eh:Nat→(Int)→(ByteArray) →  Option ((Int)×(ByteArray)×Unit)
 | 0,_,_=>none
 | m + 1,v1,v5=>Hg  (fun d=>Eh m d.1 d.2.1) (fun d=>some (d)) v1 v5
noncomputable def O2 (a0:Pg) (a1:Int):Option ((((ByteArray)×Unit)×(Unit))):=
 bif !T4 a0 a1 then some ((ByteArray.mk #[],()),()) else ((Bn a0.1 1).bind fun val=>some ((val,()),())).bind fun val=>((Bn a0.2.1 2).bind fun val=>some ((val,()),())).bind fun val_1=>bif decide (ByteArray.size val.1.1 + ByteArray.size val_1.1.1≤9223372036854775807) then ((Bn a0.2.2.1 4).bind fun val=>some ((val,()),())).bind fun val_2=>bif decide ((val.1.1++val_1.1.1).size + ByteArray.size val_2.1.1≤9223372036854775807) then ((Bn (nI (ByteArray.size a0.2.2.2.1)) 1).bind fun val=>some ((val,()),())).bind fun val_3=>bif decide ((val.1.1++val_1.1.1++val_2.1.1).size + ByteArray.size val_3.1.1≤9223372036854775807) then bif decide ((val.1.1++val_1.1.1++val_2.1.1++val_3.1.1).size + ByteArray.size a0.2.2.2.1≤9223372036854775807) then ((fun d=>Eh (Hf d.1 d.2.1) d.1 d.2.1) (a1,val.1.1++val_1.1.1++val_2.1.1++val_3.1.1++a0.2.2.2.1,())).bind fun val=>((R6 val.2.1 val.1).bind fun val=>some ((val,()),())).bind fun val_4=>bif decide (ByteArray.size val_4.1.1 + ByteArray.size val.2.1≤9223372036854775807) then some ((val_4.1.1++val.2.1,()),()) else none else none else none else none else none
theorem Aun (w:Int):∀ (k m:Nat) (b:ByteArray),(b.size:Int) + w + k=64→0≤w→k < m→Eh m w b=some (w,b++strOfNums (List.replicate k 0),())
 | 0,m + 1,b,h,h0,hm=>by
  simp only [Eh,Hg]
  rw [Ag (by simp only [nI]; omega) (by simp only [nI]; omega),decide_eq_false (show ¬ (nI b.size + w < 64) by simp only [nI]; omega),show strOfNums (List.replicate 0 0)=ByteArray.mk #[] from rfl,A1j]
  rfl
 | k + 1,m + 1,b,h,h0,hm=>by
  simp only [Eh,Hg]
  have hz:(ByteArray.mk #[0]).size=1:=rfl
  rw [Ag (by simp only [nI]; omega) (by simp only [nI]; omega),decide_eq_true (show nI b.size + w < 64 by simp only [nI]; omega),hz,decide_eq_true (show b.size + 1≤9223372036854775807 by omega)]
  have:=Aun w k m (b++ByteArray.mk #[0]) (by rw [ByteArray.size_append,hz]; omega) h0 (by omega)
  refine this.trans ?_
  rw [ByteArray.append_assoc,show ByteArray.mk #[0]=strOfNums [0] from rfl,← q9]
  rfl
theorem Afz (a0:Pg) (a1:Int):O2 a0 a1=some (((Cm a0 a1),()),(())):=by
 unfold O2 Cm Cx
 show (bif !Fg a0 a1 then _ else _)=_
 cases hp:Fg a0 a1 with
 | false=>rfl
 | true=>
  obtain ⟨hw,k1,k2,kp⟩:=Rn hp
  obtain ⟨r1,r2,r3⟩:=Ac3 hp
  have n1:Bn a0.1 1=some (C9 a0.1 1):=(Fi _ _).trans (if_pos (by omega))
  have n2:Bn a0.2.1 2=some (C9 a0.2.1 2):=(Fi _ _).trans (if_pos (by omega))
  have n3:Bn a0.2.2.1 4=some (C9 a0.2.2.1 4):=(Fi _ _).trans (if_pos (by omega))
  have n4:Bn (nI a0.2.2.2.1.size) 1=some (C9 (nI a0.2.2.2.1.size) 1):=(Fi _ _).trans (if_pos (by simp only [nI]; omega))
  simp only [Bool.not_true,cond_false,cond_true,n1,n2,n3,n4,Option.bind_some]
  have hb:F4 a0 a1=C9 a0.1 1++C9 a0.2.1 2++C9 a0.2.2.1 4++C9 (nI a0.2.2.2.1.size) 1++a0.2.2.2.1++strOfNums (List.replicate (56 - a1 - a0.2.2.2.1.size).toNat 0):=rfl
  have hs4:(C9 a0.1 1++C9 a0.2.1 2++C9 a0.2.2.1 4++C9 (nI a0.2.2.2.1.size) 1).size=8:=by simp only [ByteArray.size_append,I4]
  have hs3:(C9 a0.1 1++C9 a0.2.1 2++C9 a0.2.2.1 4).size=7:=by simp only [ByteArray.size_append,I4]
  have hs2:(C9 a0.1 1++C9 a0.2.1 2).size=3:=by simp only [ByteArray.size_append,I4]
  have hs5:(C9 a0.1 1++C9 a0.2.1 2++C9 a0.2.2.1 4++C9 (nI a0.2.2.2.1.size) 1++a0.2.2.2.1).size=8 + a0.2.2.2.1.size:=by rw [ByteArray.size_append,hs4]
  rw [hs4,hs3,hs2,I4,I4,I4,I4,decide_eq_true (show 1 + 2≤9223372036854775807 by decide),decide_eq_true (show 3 + 4≤9223372036854775807 by decide),decide_eq_true (show 7 + 1≤9223372036854775807 by decide),decide_eq_true (show 8 + a0.2.2.2.1.size≤9223372036854775807 by omega)]
  simp only [cond_true]
  generalize hB:C9 a0.1 1++C9 a0.2.1 2++C9 a0.2.2.1 4++C9 (nI a0.2.2.2.1.size) 1++a0.2.2.2.1=B at *
  have hL:=Aun a1 (56 - a1 - a0.2.2.2.1.size).toNat (Hf a1 B) B (by rw [hs5]; omega) (by omega) (by simp only [Hf,nI,hs5]; omega)
  have hz:(strOfNums (List.replicate (56 - a1 - a0.2.2.2.1.size).toNat 0)).size=(56 - a1 - a0.2.2.2.1.size).toNat:=by rw [Cp,List.length_replicate]
  rw [← hb] at hL
  have hbs:(F4 a0 a1).size≤64:=by rw [hb,ByteArray.size_append,hs5,hz]; omega
  have hm:R6 (F4 a0 a1) a1=some (Ac1 (F4 a0 a1) a1):=if_pos (by omega)
  refine l8 hL (l8 (l8 hm rfl) ?_)
  show (bif decide (ByteArray.size (Ac1 (F4 a0 a1) a1) + ByteArray.size (F4 a0 a1)≤9223372036854775807) then some ((Ac1 (F4 a0 a1) a1++F4 a0 a1,()),()) else none)=_
  rw [Ve hw,decide_eq_true (by omega)]
  rfl
noncomputable def R7 {R:Type} (k:Kt R):=(I1 (pa_spec_FormPage 5) (.exit 0) 2 k)
noncomputable def Xs {R:Type}:Lt R pa_spec_FormPage:=(Ed (pat:=pa_spec_FormPage) 5 (fun d k=>(Eh (Hf d.1 d.2.1) d.1 d.2.1).bind (R7 k)) Hu)
theorem Vw:A2 Tryz.prog ta_spec_FormPage:=A7 ⟨Ary,Vv,Aum,trivial⟩
theorem Aa7 {R:Type}:A3 Tryz.prog R 41 0 pa_spec_FormPage Xs co_spec_FormPage_5:=
 B3 (cfg:=⟨ta_spec_FormPage,0,41,pa_spec_FormPage⟩) 5 [] (fun NX X d=>Hg  NX X d.1 d.2.1) (fun m d=>Eh m d.1 d.2.1) (fun d=>Hf d.1 d.2.1) R7 Vw trivial (fun f NX d=>by unfold Hg; simp only [Al,Ar,Ak,Option.bind_assoc,Option.bind_none,Option.bind_some]) (fun _ _ _=>by kernel_rfl)
theorem Jc:B2 Tryz.prog 72 sd_spec_FormPage:=
 A6 (pat:=pa_spec_FormPage) [co_spec_FormPage_5] Xs Vw ⟨Aa7,trivial⟩ Tryz.func72 (de:=fun x=>O2 x.1 x.2.1) (fun x r h=>(Afz x.1 x.2.1).trans h) fun _=>by kernel_rfl
def Fp (s:ByteArray):Option Int:=if s.size≤7 then some (l7 s) else none
def Jd (v0:ByteArray) (v3 v4:Int):Nat:=(nI v0.size - v4).toNat + 1
def Amh:Sig:=⟨[.rd .str],[none],[.rd tI],[none]⟩
noncomputable def sd_spec_l1Read:SD:=⟨Amh,fun x=>(Fp x.1).bind fun r=>some ((r,()),(()))⟩
noncomputable def ta_spec_l1Read:Tb:=tb []
def pa_spec_l1Read:Nat→Pat×(Nat→Pat):=Gf [(4,⟨[],[(0,.lf (.d .str)),(3,.lf (.d tI)),(4,.lf (.d tI))],[]⟩,[(2,⟨[],[(3,.lf (.d tI))],[]⟩)])]
noncomputable def co_spec_l1Read_4:Code:=(As (Ba Tryz.f71)).getD 0 .skip
noncomputable def Je {R:Type}  (NX:((ByteArray)×(Int)×(Int)×Unit)→Option R) (X2:((Int)×Unit)→Option R) (v0:ByteArray) (v3:Int) (v4:Int):Option R:=
 bif decide (v4 < nI v0.size) then bif decide (0≤v4) then bif decide (v4 < nI v0.size) then NX (v0,IntKind.i64.wrap (IntKind.i64.wrap (v3 * 256) + IntKind.i64.wrap (An v0 v4)),IntKind.i64.wrap (v4 + 1),()) else none else none else X2 (v3,())
noncomputable def Fj:Nat→(ByteArray)→(Int)→(Int) →  Option ((Int)×Unit)
 | 0,_,_,_=>none
 | m + 1,v0,v3,v4=>Je  (fun d=>Fj m d.1 d.2.1 d.2.2.1) (fun d=>some (d)) v0 v3 v4
noncomputable def R8 (a0:ByteArray):Option ((((Int)×Unit)×(Unit))):=
 ((fun d=>Fj (Jd d.1 d.2.1 d.2.2.1) d.1 d.2.1 d.2.2.1) (a0,0,0,())).bind fun val=>some (val,())
theorem Ahn (s:ByteArray) (hs:s.size≤7):∀ (k m i:Nat) (v:Int),i + k=s.size→k < m→0≤v→v < 256 ^ i→Fj m s v i=some (Atr s k i v,())
 | 0,m + 1,i,v,hi,hm,h0,h1=>by
  simp only [Fj,Je]
  rw [decide_eq_false (show ¬ ((i:Int) < nI s.size) by simp only [nI]; omega)]
  rfl
 | k + 1,m + 1,i,v,hi,hm,h0,h1=>by
  obtain ⟨hb,hs',e⟩:=A1k s i hi (by omega) h0 h1
  simp only [Fj,Je]
  have c1:(i:Int) < nI s.size:=by simp only [nI]; omega
  rw [decide_eq_true c1,decide_eq_true (show (0:Int)≤(i:Int) by omega),wI (show i < 4611686018427387904 by omega),e]
  exact Ahn s hs k m (i + 1) _ (by omega) (by omega) hb hs'
theorem Ami (a0:ByteArray) r (h:Fp a0=some r):R8 a0=some ((r,()),(())):=by
 unfold Fp at h
 split at h
 ·rename_i hc
  cases h
  unfold R8
  have hL:=Ahn a0 hc a0.size (Jd a0 0 0) 0 0 (by omega) (by simp only [Jd,nI]; omega) (by omega) (by decide)
  exact l8 hL rfl
 ·cases h
noncomputable def Vx {R:Type} (k:Kt R):=(I1 (pa_spec_l1Read 4) (.exit 0) 2 k)
noncomputable def u6 {R:Type}:Lt R pa_spec_l1Read:=(Ed (pat:=pa_spec_l1Read) 4 (fun d k=>(Fj (Jd d.1 d.2.1 d.2.2.1) d.1 d.2.1 d.2.2.1).bind (Vx k)) Hu)
theorem Z2:A2 Tryz.prog ta_spec_l1Read:=A7 trivial
theorem Af0 {R:Type}:A3 Tryz.prog R 19 0 pa_spec_l1Read u6 co_spec_l1Read_4:=
 B3 (cfg:=⟨ta_spec_l1Read,0,19,pa_spec_l1Read⟩) 4 [] (fun NX X d=>Je  NX X d.1 d.2.1 d.2.2.1) (fun m d=>Fj m d.1 d.2.1 d.2.2.1) (fun d=>Jd d.1 d.2.1 d.2.2.1) Vx Z2 trivial (fun f NX d=>by unfold Je; simp only [Al,Ar,Ak,Option.bind_assoc,Option.bind_none,Option.bind_some]) (fun _ _ _=>by kernel_rfl)
theorem Z3:B2 Tryz.prog 71 sd_spec_l1Read:=
 A6 (pat:=pa_spec_l1Read) [co_spec_l1Read_4] u6 Z2 ⟨Af0,trivial⟩ Tryz.func71 (de:=fun x=>R8 x.1) (fun x r h=>Hv (Ami x.1) h) fun _=>by kernel_rfl
def Af (s:ByteArray) (w:Int):Pg×Bool:=Bw s w
def Af1:Sig:=⟨[.rd .str,.rd tI],[none,none],[.rd yPg,.rd .bool],[some 4,none]⟩
noncomputable def sd_spec_ReadPage:SD:=⟨Af1,fun x=>some (((Af x.1 x.2.1).1,(Af x.1 x.2.1).2,()),(()))⟩
noncomputable def O3 (a0:ByteArray) (a1:Int):Option (((Pg×(Bool)×Unit)×(Unit))):=
 (Bv a1).bind fun val=>bif !val.1.1 then some (((0,0,0,ByteArray.mk #[],()),false,()),()) else bif nI a0.size != 64 then some (((0,0,0,ByteArray.mk #[],()),false,()),()) else bif decide (0≤a1) then bif decide (a1≤nI a0.size) then bif decide (7 < nI (Ac a0 a1 (nI a0.size)).size) then bif decide (IntKind.i64.wrap (An (Ac a0 a1 (nI a0.size)) 7) > IntKind.i64.wrap (IntKind.i64.wrap (64 - a1) - 8)) then some (((0,0,0,ByteArray.mk #[],()),false,()),()) else bif decide (0 < nI (Ac a0 a1 (nI a0.size)).size) then bif decide (3≤nI (Ac a0 a1 (nI a0.size)).size) then ((Fp (Ac (Ac a0 a1 (nI a0.size)) 1 3)).bind fun val=>some ((val,()),())).bind fun val=>bif decide (7≤nI (Ac a0 a1 (nI a0.size)).size) then ((Fp (Ac (Ac a0 a1 (nI a0.size)) 3 7)).bind fun val=>some ((val,()),())).bind fun val_1=>bif decide (8≤IntKind.i64.wrap (8 + IntKind.i64.wrap (An (Ac a0 a1 (nI a0.size)) 7))) then bif decide (IntKind.i64.wrap (8 + IntKind.i64.wrap (An (Ac a0 a1 (nI a0.size)) 7))≤nI (Ac a0 a1 (nI a0.size)).size) then bif !(Cm (IntKind.i64.wrap (An (Ac a0 a1 (nI a0.size)) 0),val.1.1,val_1.1.1,Ac (Ac a0 a1 (nI a0.size)) 8 (IntKind.i64.wrap (8 + IntKind.i64.wrap (An (Ac a0 a1 (nI a0.size)) 7))),()) a1).toList==a0.toList then some (((0,0,0,ByteArray.mk #[],()),false,()),()) else some (((IntKind.i64.wrap (An (Ac a0 a1 (nI a0.size)) 0),val.1.1,val_1.1.1,Ac (Ac a0 a1 (nI a0.size)) 8 (IntKind.i64.wrap (8 + IntKind.i64.wrap (An (Ac a0 a1 (nI a0.size)) 7))),()),true,()),()) else none else none else none else none else none else none else none else none
theorem Af2 (a0:ByteArray) (a1:Int):O3 a0 a1=some (((Af a0 a1).1,(Af a0 a1).2,()),(())):=by
 unfold O3 Af Bw
 refine l8 (wid a1) ?_
 show (bif !Ch a1 1 8 then _ else (bif nI a0.size != 64 then _ else _))=_
 cases hz:nI a0.size != 64 with
 | true=>cases Ch a1 1 8<;>rfl
 | false=>
   cases hw:Ch a1 1 8 with
   | false=>rfl
   | true=>
    have k1:=(Cy hw).1
    have k2:=(Cy hw).2
    have hs:a0.size=64:=by
     by_cases q:nI a0.size=64
     ·simp only [nI] at q; omega
     ·rw [(bne_iff_ne).2 q] at hz; cases hz
    have hb:(Ac a0 a1 (nI a0.size)).size=(64 - a1).toNat:=by rw [C6 (by omega) (by simp only [nI]; omega) (by simp [nI])]; simp only [nI,hs]; omega
    simp only [Bool.not_true,cond_false,cond_true]
    rw [decide_eq_true (show (0:Int)≤a1 by omega),decide_eq_true (show a1≤nI a0.size by simp only [nI]; omega)]
    unfold Av5
    generalize Ac a0 a1 (nI a0.size)=b at *
    obtain ⟨b0,b1⟩:=I5 b 7
    obtain ⟨c0,c1⟩:=I5 b 0
    have hB:nI b.size=64 - a1:=by simp only [nI]; omega
    rw [hB,decide_eq_true (show (7:Int) < 64 - a1 by omega),decide_eq_true (show (0:Int) < 64 - a1 by omega),decide_eq_true (show (3:Int)≤64 - a1 by omega),decide_eq_true (show (7:Int)≤64 - a1 by omega),Ag (n:=An b 7) (by omega) (by omega),Ag (n:=An b 0) (by omega) (by omega),Ag (n:=64 - a1) (by omega) (by omega),Ag (n:=64 - a1 - 8) (by omega) (by omega),Ag (n:=8 + An b 7) (by omega) (by omega),show 64 - a1 - 8=56 - a1 by omega]
    by_cases q:An b 7 > 56 - a1
    ·rw [decide_eq_true q]; rfl
    ·rw [decide_eq_false q]
     have n1:Fp (Ac b 1 3)=some (l7 (Ac b 1 3)):=if_pos (by rw [C6 (by omega) (by omega) (by omega)]; decide)
     have n2:Fp (Ac b 3 7)=some (l7 (Ac b 3 7)):=if_pos (by rw [C6 (by omega) (by omega) (by omega)]; decide)
     simp only [n1,n2,Option.bind_some,cond_true,cond_false]
     rw [decide_eq_true (show 8≤8 + An b 7 by omega),decide_eq_true (show 8 + An b 7≤64 - a1 by omega)]
     show (bif !(ByteArray.toList (Cx (Av4 b) a1)==ByteArray.toList a0) then _ else _)=_
     cases (ByteArray.toList (Cx (Av4 b) a1)==ByteArray.toList a0)<;>rfl
theorem Jf:B2 Tryz.prog 16 sd_spec_ReadPage:=
 A6 (pat:=D3) [] Hu (A7 (l:=[(65,sd_spec_l1Width),(70,sd_spec_l1Part),(71,sd_spec_l1Read),(72,sd_spec_FormPage)]) ⟨Cz,R4,Z3,Jc,trivial⟩) trivial Tryz.func16 (de:=fun x=>O3 x.1 x.2.1) (fun x r h=>(Af2 x.1 x.2.1).trans h) fun _=>by kernel_rfl
def Gj (r:Rt) (w:Int):ByteArray:=Vc r w
def Af3:Sig:=⟨[.rd yRt,.rd tI],[some 4,none],[.rd .str],[none]⟩
noncomputable def sd_spec_RootPage:SD:=⟨Af3,fun x=>some (((Gj x.1 x.2.1),()),(()))⟩
noncomputable def O4 (a0:Rt) (a1:Int):Option ((((ByteArray)×Unit)×(Unit))):=
 bif decide (a0.2.1 < 0) then some ((ByteArray.mk #[],()),()) else bif decide (a0.2.1 > 1) then some ((ByteArray.mk #[],()),()) else bif decide (a0.2.2.1 < 1) then some ((ByteArray.mk #[],()),()) else bif decide (a0.2.2.1 > 999999000) then some ((ByteArray.mk #[],()),()) else ((Bn a0.2.1 1).bind fun val=>some ((val,()),())).bind fun val=>((Bn a0.2.2.1 4).bind fun val=>some ((val,()),())).bind fun val_1=>bif decide (ByteArray.size val.1.1 + ByteArray.size val_1.1.1≤9223372036854775807) then some ((Cm (4,a0.2.2.2.1,a0.1,val.1.1++val_1.1.1,()) a1,()),()) else none
theorem Af4 (a0:Rt) (a1:Int):O4 a0 a1=some (((Gj a0 a1),()),(())):=by
 unfold O4 Gj Vc Ox
 rw [Ale a0.2.1,Ale a0.2.2.1]
 cases h1:Ch a0.2.1 0 1 with
 | false=>rfl
 | true=>
  cases h2:Ch a0.2.2.1 1 999999000 with
  | false=>rfl
  | true=>
   have q1:=Cy h1
   have q2:=Cy h2
   have n1:Bn a0.2.1 1=some (C9 a0.2.1 1):=(Fi _ _).trans (if_pos (by omega))
   have n2:Bn a0.2.2.1 4=some (C9 a0.2.2.1 4):=(Fi _ _).trans (if_pos (by omega))
   simp only [n1,n2,Option.bind_some,cond_true]
   rw [I4,I4,decide_eq_true (show 1 + 4≤9223372036854775807 by decide)]
   rfl
theorem Vy:B2 Tryz.prog 191 sd_spec_RootPage:=
 A6 (pat:=D3) [] Hu (A7 (l:=[(72,sd_spec_FormPage),(160,sd_spec_l1Number)]) ⟨Jc,Vv,trivial⟩) trivial Tryz.func191 (de:=fun x=>O4 x.1 x.2.1) (fun x r h=>(Af4 x.1 x.2.1).trans h) fun _=>by kernel_rfl
def C5 (s:ByteArray) (at' w:Int):Rt×Bool:=
 bif (Bw s w).2&&decide ((Bw s w).1.2.2.2.1.size=5) then (Lq (Bw s w).1,((Vc (Lq (Bw s w).1) w).toList==s.toList)&&(Int.tmod (Bw s w).1.2.2.1 2==at')) else ((0,0,0,0,()),false)
def Arz:Sig:=⟨[.rd .str,.rd tI,.rd tI],[none,none,none],[.rd yRt,.rd .bool],[some 4,none]⟩
noncomputable def sd_spec_l5At:SD:=⟨Arz,fun x=>some (((C5 x.1 x.2.1 x.2.2.1).1,(C5 x.1 x.2.1 x.2.2.1).2,()),(()))⟩
noncomputable def Xb (a0:ByteArray) (a1:Int) (a2:Int):Option (((Rt×(Bool)×Unit)×(Unit))):=
 bif !(Af a0 a2).2 then some (((0,0,0,0,()),false,()),()) else bif nI (ByteArray.size (Af a0 a2).1.2.2.2.1) != 5 then some (((0,0,0,0,()),false,()),()) else bif decide (0 < nI (ByteArray.size (Af a0 a2).1.2.2.2.1)) then bif decide (1≤nI (ByteArray.size (Af a0 a2).1.2.2.2.1)) then ((Fp (Ac (Af a0 a2).1.2.2.2.1 1 (nI (ByteArray.size (Af a0 a2).1.2.2.2.1)))).bind fun val=>some ((val,()),())).bind fun val=>bif (Gj ((Af a0 a2).1.2.2.1,IntKind.i64.wrap (An (Af a0 a2).1.2.2.2.1 0),val.1.1,(Af a0 a2).1.2.1,()) a2).toList==a0.toList then some ((((Af a0 a2).1.2.2.1,IntKind.i64.wrap (An (Af a0 a2).1.2.2.2.1 0),val.1.1,(Af a0 a2).1.2.1,()),Int.tmod (Af a0 a2).1.2.2.1 2==a1,()),()) else some ((((Af a0 a2).1.2.2.1,IntKind.i64.wrap (An (Af a0 a2).1.2.2.2.1 0),val.1.1,(Af a0 a2).1.2.1,()),false,()),()) else none else none
theorem Ar0 (a0:ByteArray) (a1:Int) (a2:Int):Xb a0 a1 a2=some (((C5 a0 a1 a2).1,(C5 a0 a1 a2).2,()),(())):=by
 unfold Xb C5
 have e:Af a0 a2=Bw a0 a2:=rfl
 rw [e]
 generalize Bw a0 a2=p
 obtain ⟨g,o⟩:=p
 cases o
 ·rfl
 ·by_cases h5:g.2.2.2.1.size=5
  ·have n1:Fp (Ac g.2.2.2.1 1 (nI g.2.2.2.1.size))=some (l7 (Ac g.2.2.2.1 1 (nI g.2.2.2.1.size))):=if_pos (by rw [C6 (by omega) (by simp only [nI]; omega) (by simp [nI])]; simp only [nI]; omega)
   obtain ⟨b0,b1⟩:=I5 g.2.2.2.1 0
   simp only [n1,Option.bind_some,Bool.not_true,cond_false,Bool.true_and]
   rw [bne_eq_false_iff_eq.2 (show nI g.2.2.2.1.size=5 by simp only [nI]; omega),decide_eq_true h5,decide_eq_true (show 0 < nI g.2.2.2.1.size by simp only [nI]; omega),decide_eq_true (show 1≤nI g.2.2.2.1.size by simp only [nI]; omega),Ag (n:=An g.2.2.2.1 0) (by omega) (by omega)]
   show (bif (ByteArray.toList (Vc (Lq g) a2)==ByteArray.toList a0) then _ else _)=_
   cases hq:(ByteArray.toList (Vc (Lq g) a2)==ByteArray.toList a0)<;>rfl
  ·simp only [Bool.not_true,cond_false,Bool.true_and]
   rw [bne_iff_ne.2 (show nI g.2.2.2.1.size≠5 by simp only [nI]; omega),decide_eq_false h5]
   rfl
theorem Ar1:B2 Tryz.prog 188 sd_spec_l5At:=
 A6 (pat:=D3) [] Hu (A7 (l:=[(16,sd_spec_ReadPage),(71,sd_spec_l1Read),(191,sd_spec_RootPage)]) ⟨Jf,Z3,Vy,trivial⟩) trivial Tryz.func188 (de:=fun x=>Xb x.1 x.2.1 x.2.2.1) (fun x r h=>(Ar0 x.1 x.2.1 x.2.2.1).trans h) fun _=>by kernel_rfl
def Ah (d:Dk) (w:Int):Rt:=C7 d w
def Mt (v1 v7:Int) (b0_0 b0_1 b0_2 b0_3:Int) (b1_0:List ByteArray) (b1_1:List Wr) (b2_0 b2_1 b2_2 b2_3:Int):Nat:=3
def Af5:Sig:=⟨[.rd yDk,.rd tI],[some 2,none],[.rd yRt],[some 4]⟩
noncomputable def sd_spec_FindRoot:SD:=⟨Af5,fun x=>some (((Ah x.1 x.2.1),()),(()))⟩
noncomputable def ta_spec_FindRoot:Tb:=tb [(65,sd_spec_l1Width),(66,sd_spec_ValidDisk),(186,sd_spec_l2Sync),(187,sd_spec_l2Copy),(188,sd_spec_l5At)]
def pa_spec_FindRoot:Nat→Pat×(Nat→Pat):=Gf [(7,⟨[.boxSl 5 0 .str,.boxSl 5 1 Da],[(1,.lf (.d tI)),(4,.lf (.ptr 0 0)),(5,.lf (.ptr 1 0)),(6,.lf (.ptr 2 0)),(7,.lf (.d tI))],[.box 28 [.d tI,.d tI,.d tI,.d tI],.box 26 [.d (.sl .str),.d (.sl Da)],.box 28 [.d tI,.d tI,.d tI,.d tI]]⟩,[(2,⟨[],[(4,.lf (.ptr 0 0)),(6,.lf (.ptr 1 0))],[.box 28 [.d tI,.d tI,.d tI,.d tI],.box 28 [.d tI,.d tI,.d tI,.d tI]]⟩)])]
noncomputable def co_spec_FindRoot_7:Code:=(As (Ba Tryz.f107)).getD 0 .skip
noncomputable def Jx {R:Type}  (NX:((Int)×(Int)×(Int)×(Int)×(Int)×(Int)×(List ByteArray)×(List Wr)×(Int)×(Int)×(Int)×(Int)×Unit)→Option R) (X2:((Int)×(Int)×(Int)×(Int)×(Int)×(Int)×(Int)×(Int)×Unit)→Option R) (v1:Int) (v7:Int) (b0_0:Int) (b0_1:Int) (b0_2:Int) (b0_3:Int) (b1_0:List ByteArray) (b1_1:List Wr) (b2_0:Int) (b2_1:Int) (b2_2:Int) (b2_3:Int):Option R:=
 bif decide (v7 < 2) then bif decide (0≤v7) then bif decide (v7 < nI b1_0.length) then bif (C5 (b1_0.getD v7.toNat (ByteArray.mk #[])) v7 v1).2 then bif decide ((C5 (b1_0.getD v7.toNat (ByteArray.mk #[])) v7 v1).1.1 > b2_0) then NX (v1,IntKind.i64.wrap (v7 + 1),b0_0,b0_1,b0_2,b0_3,b1_0,b1_1,(C5 (b1_0.getD v7.toNat (ByteArray.mk #[])) v7 v1).1) else NX (v1,IntKind.i64.wrap (v7 + 1),b0_0,b0_1,b0_2,b0_3,b1_0,b1_1,b2_0,b2_1,b2_2,b2_3,()) else NX (v1,IntKind.i64.wrap (v7 + 1),b0_0,b0_1,b0_2,b0_3,b1_0,b1_1,b2_0,b2_1,b2_2,b2_3,()) else none else none else X2 (b0_0,b0_1,b0_2,b0_3,b2_0,b2_1,b2_2,b2_3,())
noncomputable def Ei:Nat→(Int)→(Int)→(Int)→(Int)→(Int)→(Int)→(List ByteArray)→(List Wr)→(Int)→(Int)→(Int)→(Int) →  Option ((Int)×(Int)×(Int)×(Int)×(Int)×(Int)×(Int)×(Int)×Unit)
 | 0,_,_,_,_,_,_,_,_,_,_,_,_=>none
 | m + 1,v1,v7,b0_0,b0_1,b0_2,b0_3,b1_0,b1_1,b2_0,b2_1,b2_2,b2_3=>Jx  (fun d=>Ei m d.1 d.2.1 d.2.2.1 d.2.2.2.1 d.2.2.2.2.1 d.2.2.2.2.2.1 d.2.2.2.2.2.2.1 d.2.2.2.2.2.2.2.1 d.2.2.2.2.2.2.2.2.1 d.2.2.2.2.2.2.2.2.2.1 d.2.2.2.2.2.2.2.2.2.2.1 d.2.2.2.2.2.2.2.2.2.2.2.1) (fun d=>some (d)) v1 v7 b0_0 b0_1 b0_2 b0_3 b1_0 b1_1 b2_0 b2_1 b2_2 b2_3
noncomputable def O5 (a0:Dk) (a1:Int):Option (((Rt×Unit)×(Unit))):=
 bif !Dr a0 then some (((0,0,0,0,()),()),()) else (Bv a1).bind fun val=>bif !val.1.1 then some (((0,0,0,0,()),()),()) else ((Cr a0).bind fun val=>some (val,())).bind fun val=>((Fm val.1).bind fun val=>some (val,())).bind fun val=>((fun d=>Ei (Mt d.1 d.2.1 d.2.2.1 d.2.2.2.1 d.2.2.2.2.1 d.2.2.2.2.2.1 d.2.2.2.2.2.2.1 d.2.2.2.2.2.2.2.1 d.2.2.2.2.2.2.2.2.1 d.2.2.2.2.2.2.2.2.2.1 d.2.2.2.2.2.2.2.2.2.2.1 d.2.2.2.2.2.2.2.2.2.2.2.1) d.1 d.2.1 d.2.2.1 d.2.2.2.1 d.2.2.2.2.1 d.2.2.2.2.2.1 d.2.2.2.2.2.2.1 d.2.2.2.2.2.2.2.1 d.2.2.2.2.2.2.2.2.1 d.2.2.2.2.2.2.2.2.2.1 d.2.2.2.2.2.2.2.2.2.2.1 d.2.2.2.2.2.2.2.2.2.2.2.1) (a1,0,0,0,0,0,val.1.1,val.1.2.1,0,0,1,0,())).bind fun val=>some ((val.2.2.2.2,()),())
theorem A3t (s:ByteArray) (w:Int) (i:Nat) (b:Rt):(bif (C5 s i w).2 then (bif decide ((C5 s i w).1.1 > b.1) then (C5 s i w).1 else b) else b)=Kw s w i b:=by
 unfold C5 Kw
 have hf:=@Rq s w
 have hr:=@Azf s w
 generalize Bw s w=p at *
 obtain ⟨g,o⟩:=p
 cases o
 ·rfl
 ·obtain ⟨_,_,_,hp⟩:=hf rfl
  obtain ⟨_,_,r3,_⟩:=Ac3 hp
  by_cases h5:g.2.2.2.1.size=5
  ·have hr:=hr rfl h5
   simp only [decide_eq_true h5,Bool.true_and,cond_true,hr]
   rw [Int.tmod_eq_emod_of_nonneg (by omega)]
   have e:(Lq g).1=g.2.2.1:=rfl
   rw [e]
   cases (g.1==4)<;>cases Ox (Lq g)<;>cases (g.2.2.1 % 2==(i:Int))<;>cases decide (g.2.2.1 > b.1)<;>rfl
  ·simp only [decide_eq_false h5,Bool.true_and,cond_false,Bool.and_false,Bool.false_and]
theorem Auo (X:List ByteArray) (P:List Wr) (w:Int) (i:Nat) (hi:i < 2) (hX:2≤X.length) (m:Nat) (x1 x2 x3 x4:Int) (b:Rt):
  Ei (m + 1) w i x1 x2 x3 x4 X P b.1 b.2.1 b.2.2.1 b.2.2.2.1=Ei m w ((i + 1:Nat):Int) x1 x2 x3 x4 X P (Kw (X.getD i z0) w i b).1 (Kw (X.getD i z0) w i b).2.1 (Kw (X.getD i z0) w i b).2.2.1 (Kw (X.getD i z0) w i b).2.2.2.1:=by
 simp only [Ei,Jx]
 rw [decide_eq_true (show (i:Int) < 2 by omega),H2,decide_eq_true (show (i:Int) < nI X.length by simp only [nI]; omega),wI (show i < 4611686018427387904 by omega),Int.toNat_natCast,← A3t]
 show (bif (C5 (X.getD i z0) i w).2 then (bif decide ((C5 (X.getD i z0) i w).1.1 > b.1) then _ else _) else _)=_
 cases (C5 (X.getD i z0) i w).2
 ·rfl
 ·cases decide ((C5 (X.getD i z0) i w).1.1 > b.1)<;>rfl
theorem Af6 (a0:Dk) (a1:Int):O5 a0 a1=some (((Ah a0 a1),()),(())):=by
 unfold O5 Ah C7
 show (bif !A0 a0 then _ else _)=_
 cases hv:A0 a0 with
 | false=>rfl
 | true=>
  refine l8 (wid a1) ?_
  show (bif !Ch a1 1 8 then _ else _)=_
  cases hw:Ch a1 1 8 with
  | false=>rfl
  | true=>
   obtain ⟨k1,k2,k3,k4,k5⟩:=Jv hv
   have e1:Cr (a0.1,a0.2.1,())=some a0:=if_pos ⟨by show a0.1.length≤_; omega,by show a0.2.1.length≤_; omega⟩
   have e2:Fm (a0.1,a0.2.1,())=some (Aps a0):=if_pos ⟨by show a0.2.1.length≤_; omega,fun i hi=>⟨(k5 i hi).1,(k5 i hi).2.1⟩⟩
   have hlen:(Lp a0.1 a0.2.1).length=a0.1.length:=Nn _ _
   have hg:∀ i:Nat,i < 2→(Lp a0.1 a0.2.1).getD i z0=Ahy a0 i:=fun i hi=>Att a0.1 i (by omega) a0.2.1 (fun w hw=>by
    obtain ⟨j,hj,rfl⟩:=Zg zW hw
    exact (k5 j hj).1)
   have h1:=Auo (Lp a0.1 a0.2.1) [] a1 0 (by omega) (by omega) 2 0 0 0 0 (0,0,1,0,())
   have h2:=Auo (Lp a0.1 a0.2.1) [] a1 1 (by omega) (by omega) 1 0 0 0 0 (Kw ((Lp a0.1 a0.2.1).getD 0 z0) a1 (0:Nat) (0,0,1,0,()))
   have h3:=h1.trans h2
   rw [hg 0 (by omega),hg 1 (by omega)] at h3
   simp only [e1,e2,Option.bind_some,Bool.not_true,cond_false]
   exact l8 h3 rfl
noncomputable def R9 {R:Type} (k:Kt R):=(I1 (pa_spec_FindRoot 7) (.exit 0) 2 k)
noncomputable def Xt {R:Type}:Lt R pa_spec_FindRoot:=(Ed (pat:=pa_spec_FindRoot) 7 (fun d k=>(Ei (Mt d.1 d.2.1 d.2.2.1 d.2.2.2.1 d.2.2.2.2.1 d.2.2.2.2.2.1 d.2.2.2.2.2.2.1 d.2.2.2.2.2.2.2.1 d.2.2.2.2.2.2.2.2.1 d.2.2.2.2.2.2.2.2.2.1 d.2.2.2.2.2.2.2.2.2.2.1 d.2.2.2.2.2.2.2.2.2.2.2.1) d.1 d.2.1 d.2.2.1 d.2.2.2.1 d.2.2.2.2.1 d.2.2.2.2.2.1 d.2.2.2.2.2.2.1 d.2.2.2.2.2.2.2.1 d.2.2.2.2.2.2.2.2.1 d.2.2.2.2.2.2.2.2.2.1 d.2.2.2.2.2.2.2.2.2.2.1 d.2.2.2.2.2.2.2.2.2.2.2.1).bind (R9 k)) Hu)
theorem Vz:A2 Tryz.prog ta_spec_FindRoot:=A7 ⟨Cz,F7,Rz,I8,Ar1,trivial⟩
theorem Aa8 {R:Type}:A3 Tryz.prog R 48 0 pa_spec_FindRoot Xt co_spec_FindRoot_7:=
 B3 (cfg:=⟨ta_spec_FindRoot,0,48,pa_spec_FindRoot⟩) 7 [] (fun NX X d=>Jx  NX X d.1 d.2.1 d.2.2.1 d.2.2.2.1 d.2.2.2.2.1 d.2.2.2.2.2.1 d.2.2.2.2.2.2.1 d.2.2.2.2.2.2.2.1 d.2.2.2.2.2.2.2.2.1 d.2.2.2.2.2.2.2.2.2.1 d.2.2.2.2.2.2.2.2.2.2.1 d.2.2.2.2.2.2.2.2.2.2.2.1) (fun m d=>Ei m d.1 d.2.1 d.2.2.1 d.2.2.2.1 d.2.2.2.2.1 d.2.2.2.2.2.1 d.2.2.2.2.2.2.1 d.2.2.2.2.2.2.2.1 d.2.2.2.2.2.2.2.2.1 d.2.2.2.2.2.2.2.2.2.1 d.2.2.2.2.2.2.2.2.2.2.1 d.2.2.2.2.2.2.2.2.2.2.2.1) (fun d=>Mt d.1 d.2.1 d.2.2.1 d.2.2.2.1 d.2.2.2.2.1 d.2.2.2.2.2.1 d.2.2.2.2.2.2.1 d.2.2.2.2.2.2.2.1 d.2.2.2.2.2.2.2.2.1 d.2.2.2.2.2.2.2.2.2.1 d.2.2.2.2.2.2.2.2.2.2.1 d.2.2.2.2.2.2.2.2.2.2.2.1) R9 Vz trivial (fun f NX d=>by unfold Jx; simp only [Al,Ar,Ak,Option.bind_assoc,Option.bind_none,Option.bind_some]) (fun _ _ _=>by kernel_rfl)
theorem Af7:B2 Tryz.prog 107 sd_spec_FindRoot:=
 A6 (pat:=pa_spec_FindRoot) [co_spec_FindRoot_7] Xt Vz ⟨Aa8,trivial⟩ Tryz.func107 (de:=fun x=>O5 x.1 x.2.1) (fun x r h=>(Af6 x.1 x.2.1).trans h) fun _=>by kernel_rfl
def Lx (was p:Pg):Bool:=Ac6 was.1 was.2.1 p
def Amj:Sig:=⟨[.rd yPg,.rd yPg],[some 4,some 4],[.rd .bool],[none]⟩
noncomputable def sd_spec_l3Goes:SD:=⟨Amj,fun x=>some (((Lx x.1 x.2.1),()),(()))⟩
noncomputable def Sa (a0:Pg) (a1:Pg):Option ((((Bool)×Unit)×(Unit))):=
 bif decide (a1.2.1 < a0.2.1) then some ((false,()),()) else bif a1.1==3 then some ((a0.1 != 1,()),()) else bif a1.1==1 then bif a0.1 != 1 then some ((true,()),()) else some ((a0.2.1==a1.2.1,()),()) else bif a1.1==2 then bif a0.1 != 1 then some ((true,()),()) else some ((a0.2.1==a1.2.1,()),()) else some ((false,()),())
theorem Amk (a0:Pg) (a1:Pg):Sa a0 a1=some (((Lx a0 a1),()),(())):=by
 unfold Sa Lx Ac6
 cases decide (a1.2.1 < a0.2.1)<;>cases (a1.1==3)<;>cases (a1.1==1)<;>cases (a1.1==2)<;>cases (a0.1 != 1)<;>rfl
theorem Aml:B2 Tryz.prog 189 sd_spec_l3Goes:=
 A6 (pat:=D3) [] Hu (A7 (l:=[]) trivial) trivial Tryz.func189 (de:=fun x=>Sa x.1 x.2.1) (fun x r h=>(Amk x.1 x.2.1).trans h) fun _=>by kernel_rfl
def Ck (d:Dk) (from_ size first life w:Int):Scd:=Ru d from_ size first life w
def Ar2:Sig:=⟨[.rd yDk,.rd tI,.rd tI,.rd tI,.rd tI,.rd tI],[some 2,none,none,none,none,none],[.own 9 .str,.rd tI,.rd tI],[some 3]⟩
noncomputable def sd_spec_Scan:SD:=⟨Ar2,fun x=>some (((Ck x.1 x.2.1 x.2.2.1 x.2.2.2.1 x.2.2.2.2.1 x.2.2.2.2.2.1).1,(Ck x.1 x.2.1 x.2.2.1 x.2.2.2.1 x.2.2.2.2.1 x.2.2.2.2.2.1).2.1,(Ck x.1 x.2.1 x.2.2.1 x.2.2.2.1 x.2.2.2.2.1 x.2.2.2.2.2.1).2.2.1,()),(()))⟩
noncomputable def ta_spec_Scan:Tb:=tb [(16,sd_spec_ReadPage),(65,sd_spec_l1Width),(66,sd_spec_ValidDisk),(186,sd_spec_l2Sync),(187,sd_spec_l2Copy),(189,sd_spec_l3Goes)]
def pa_spec_Scan:Nat→Pat×(Nat→Pat):=Gf [(9,⟨[.boxRow 12 0 9 .str,.boxSl 13 0 .str,.boxSl 13 1 Da,.boxRow 14 0 9 .str],[(1,.lf (.d tI)),(2,.lf (.d tI)),(3,.lf (.d tI)),(5,.lf (.d tI)),(12,.lf (.ptr 0 0)),(13,.lf (.ptr 1 0)),(14,.lf (.ptr 2 0)),(15,.lf (.ptr 3 0)),(16,.lf (.d .str)),(17,.lf (.d tI))],[.box 135 [.row 4,.d tI,.d tI],.box 26 [.d (.sl .str),.d (.sl Da)],.box 135 [.row 5,.d tI,.d tI],.box 41 [.d tI,.d tI,.d tI,.d .str],.row 9 .str,.row 9 .str]⟩,[(2,⟨[.boxRow 12 0 9 .str,.boxRow 14 0 9 .str],[(12,.lf (.ptr 0 0)),(14,.lf (.ptr 1 0))],[.box 135 [.row 2,.d tI,.d tI],.box 135 [.row 3,.d tI,.d tI],.row 9 .str,.row 9 .str]⟩),(1,⟨[.boxRow 12 0 9 .str],[(12,.lf (.ptr 0 0))],[.box 135 [.row 1,.d tI,.d tI],.row 9 .str]⟩)])]
noncomputable def co_spec_Scan_9:Code:=(As (Ba Tryz.f108)).getD 0 .skip
def Hh (v1:Int) (v2:Int) (v3:Int) (v5:Int) (v16:ByteArray) (v17:Int) (b0_1:Int) (b0_2:Int) (b1_0:List ByteArray) (b1_1:List Wr) (b2_1:Int) (b2_2:Int) (b3_0:Int) (b3_1:Int) (b3_2:Int) (b3_3:ByteArray) (r4:List ByteArray) (r5:List ByteArray):Nat:=(v2 - v17).toNat + 1
noncomputable def K5 {R:Type}  (NX:((Int)×(Int)×(Int)×(Int)×(ByteArray)×(Int)×(Int)×(Int)×(List ByteArray)×(List Wr)×(Int)×(Int)×(Int)×(Int)×(Int)×(ByteArray)×(List ByteArray)×(List ByteArray)×Unit)→Option R) (X2:((Int)×(Int)×(Int)×(Int)×(List ByteArray)×(List ByteArray)×Unit)→Option R) (X1:((Int)×(Int)×(List ByteArray)×Unit)→Option R) (v1:Int) (v2:Int) (v3:Int) (v5:Int) (v16:ByteArray) (v17:Int) (b0_1:Int) (b0_2:Int) (b1_0:List ByteArray) (b1_1:List Wr) (b2_1:Int) (b2_2:Int) (b3_0:Int) (b3_1:Int) (b3_2:Int) (b3_3:ByteArray) (r4:List ByteArray) (r5:List ByteArray):Option R:=
 bif decide (v17 < v2) then bif decide (0≤IntKind.i64.wrap (v1 + v17)) then bif decide (IntKind.i64.wrap (v1 + v17) < nI b1_0.length) then bif !(Af (b1_0.getD (IntKind.i64.wrap (v1 + v17)).toNat (ByteArray.mk #[])) v5).2 then X1 (b2_1,b2_2,r5,()) else bif IntKind.i64.wrap ((Af (b1_0.getD (IntKind.i64.wrap (v1 + v17)).toNat (ByteArray.mk #[])) v5).1.2.2.1 - v17) != v3 then X1 (b2_1,b2_2,r5,()) else bif !Lx (b3_0,b3_1,b3_2,b3_3,()) (Af (b1_0.getD (IntKind.i64.wrap (v1 + v17)).toNat (ByteArray.mk #[])) v5).1 then X1 (b2_1,b2_2,r5,()) else bif decide (v16.size + ByteArray.size (Af (b1_0.getD (IntKind.i64.wrap (v1 + v17)).toNat (ByteArray.mk #[])) v5).1.2.2.2.1≤9223372036854775807) then bif (Af (b1_0.getD (IntKind.i64.wrap (v1 + v17)).toNat (ByteArray.mk #[])) v5).1.1==1 then NX (v1,v2,v3,v5,v16++(Af (b1_0.getD (IntKind.i64.wrap (v1 + v17)).toNat (ByteArray.mk #[])) v5).1.2.2.2.1,IntKind.i64.wrap (v17 + 1),b0_1,b0_2,b1_0,b1_1,b2_1,b2_2,(Af (b1_0.getD (IntKind.i64.wrap (v1 + v17)).toNat (ByteArray.mk #[])) v5).1.1,(Af (b1_0.getD (IntKind.i64.wrap (v1 + v17)).toNat (ByteArray.mk #[])) v5).1.2.1,(Af (b1_0.getD (IntKind.i64.wrap (v1 + v17)).toNat (ByteArray.mk #[])) v5).1.2.2.1,(Af (b1_0.getD (IntKind.i64.wrap (v1 + v17)).toNat (ByteArray.mk #[])) v5).1.2.2.2.1,r4,r5,()) else bif (Af (b1_0.getD (IntKind.i64.wrap (v1 + v17)).toNat (ByteArray.mk #[])) v5).1.1==2 then bif decide ((r5.length + [v16++(Af (b1_0.getD (IntKind.i64.wrap (v1 + v17)).toNat (ByteArray.mk #[])) v5).1.2.2.2.1].length) * 16≤140737488355328) then NX (v1,v2,v3,v5,ByteArray.mk #[],IntKind.i64.wrap (v17 + 1),b0_1,b0_2,b1_0,b1_1,IntKind.i64.wrap (v17 + 1),(Af (b1_0.getD (IntKind.i64.wrap (v1 + v17)).toNat (ByteArray.mk #[])) v5).1.2.1,(Af (b1_0.getD (IntKind.i64.wrap (v1 + v17)).toNat (ByteArray.mk #[])) v5).1.1,(Af (b1_0.getD (IntKind.i64.wrap (v1 + v17)).toNat (ByteArray.mk #[])) v5).1.2.1,(Af (b1_0.getD (IntKind.i64.wrap (v1 + v17)).toNat (ByteArray.mk #[])) v5).1.2.2.1,(Af (b1_0.getD (IntKind.i64.wrap (v1 + v17)).toNat (ByteArray.mk #[])) v5).1.2.2.2.1,r4,r5++[v16++(Af (b1_0.getD (IntKind.i64.wrap (v1 + v17)).toNat (ByteArray.mk #[])) v5).1.2.2.2.1],()) else none else NX (v1,v2,v3,v5,ByteArray.mk #[],IntKind.i64.wrap (v17 + 1),b0_1,b0_2,b1_0,b1_1,IntKind.i64.wrap (v17 + 1),(Af (b1_0.getD (IntKind.i64.wrap (v1 + v17)).toNat (ByteArray.mk #[])) v5).1.2.1,(Af (b1_0.getD (IntKind.i64.wrap (v1 + v17)).toNat (ByteArray.mk #[])) v5).1.1,(Af (b1_0.getD (IntKind.i64.wrap (v1 + v17)).toNat (ByteArray.mk #[])) v5).1.2.1,(Af (b1_0.getD (IntKind.i64.wrap (v1 + v17)).toNat (ByteArray.mk #[])) v5).1.2.2.1,(Af (b1_0.getD (IntKind.i64.wrap (v1 + v17)).toNat (ByteArray.mk #[])) v5).1.2.2.2.1,r4,r5,()) else none else none else none else X2 (b0_1,b0_2,b2_1,b2_2,r4,r5,())
noncomputable def Ey:Nat→(Int)→(Int)→(Int)→(Int)→(ByteArray)→(Int)→(Int)→(Int)→(List ByteArray)→(List Wr)→(Int)→(Int)→(Int)→(Int)→(Int)→(ByteArray)→(List ByteArray)→(List ByteArray) →  Option (((Int)×(Int)×(Int)×(Int)×(List ByteArray)×(List ByteArray)×Unit) ⊕ ((Int)×(Int)×(List ByteArray)×Unit))
 | 0,_,_,_,_,_,_,_,_,_,_,_,_,_,_,_,_,_,_=>none
 | m + 1,v1,v2,v3,v5,v16,v17,b0_1,b0_2,b1_0,b1_1,b2_1,b2_2,b3_0,b3_1,b3_2,b3_3,r4,r5=>K5  (fun d=>Ey m d.1 d.2.1 d.2.2.1 d.2.2.2.1 d.2.2.2.2.1 d.2.2.2.2.2.1 d.2.2.2.2.2.2.1 d.2.2.2.2.2.2.2.1 d.2.2.2.2.2.2.2.2.1 d.2.2.2.2.2.2.2.2.2.1 d.2.2.2.2.2.2.2.2.2.2.1 d.2.2.2.2.2.2.2.2.2.2.2.1 d.2.2.2.2.2.2.2.2.2.2.2.2.1 d.2.2.2.2.2.2.2.2.2.2.2.2.2.1 d.2.2.2.2.2.2.2.2.2.2.2.2.2.2.1 d.2.2.2.2.2.2.2.2.2.2.2.2.2.2.2.1 d.2.2.2.2.2.2.2.2.2.2.2.2.2.2.2.2.1 d.2.2.2.2.2.2.2.2.2.2.2.2.2.2.2.2.2.1) (fun d=>some (.inl (d))) (fun d=>some (.inr (d))) v1 v2 v3 v5 v16 v17 b0_1 b0_2 b1_0 b1_1 b2_1 b2_2 b3_0 b3_1 b3_2 b3_3 r4 r5
noncomputable def Xc (a0:Dk) (a1:Int) (a2:Int) (a3:Int) (a4:Int) (a5:Int):Option ((((List ByteArray)×(Int)×(Int)×Unit)×(Unit))):=
 bif !Dr a0 then some (([],0,0,()),()) else (Bv a5).bind fun val=>bif !val.1.1 then some (([],0,0,()),()) else bif decide (a1 < 0) then some (([],0,0,()),()) else bif decide (a2 < 0) then some (([],0,0,()),()) else bif decide (a1 > nI (List.length a0.1)) then some (([],0,0,()),()) else bif decide (a2 > IntKind.i64.wrap (nI (List.length a0.1) - a1)) then some (([],0,0,()),()) else ((Cr a0).bind fun val=>some (val,())).bind fun val=>((Fm val.1).bind fun val=>some (val,())).bind fun val=>((fun d=>Ey (Hh d.1 d.2.1 d.2.2.1 d.2.2.2.1 d.2.2.2.2.1 d.2.2.2.2.2.1 d.2.2.2.2.2.2.1 d.2.2.2.2.2.2.2.1 d.2.2.2.2.2.2.2.2.1 d.2.2.2.2.2.2.2.2.2.1 d.2.2.2.2.2.2.2.2.2.2.1 d.2.2.2.2.2.2.2.2.2.2.2.1 d.2.2.2.2.2.2.2.2.2.2.2.2.1 d.2.2.2.2.2.2.2.2.2.2.2.2.2.1 d.2.2.2.2.2.2.2.2.2.2.2.2.2.2.1 d.2.2.2.2.2.2.2.2.2.2.2.2.2.2.2.1 d.2.2.2.2.2.2.2.2.2.2.2.2.2.2.2.2.1 d.2.2.2.2.2.2.2.2.2.2.2.2.2.2.2.2.2.1) d.1 d.2.1 d.2.2.1 d.2.2.2.1 d.2.2.2.2.1 d.2.2.2.2.2.1 d.2.2.2.2.2.2.1 d.2.2.2.2.2.2.2.1 d.2.2.2.2.2.2.2.2.1 d.2.2.2.2.2.2.2.2.2.1 d.2.2.2.2.2.2.2.2.2.2.1 d.2.2.2.2.2.2.2.2.2.2.2.1 d.2.2.2.2.2.2.2.2.2.2.2.2.1 d.2.2.2.2.2.2.2.2.2.2.2.2.2.1 d.2.2.2.2.2.2.2.2.2.2.2.2.2.2.1 d.2.2.2.2.2.2.2.2.2.2.2.2.2.2.2.1 d.2.2.2.2.2.2.2.2.2.2.2.2.2.2.2.2.1 d.2.2.2.2.2.2.2.2.2.2.2.2.2.2.2.2.2.1) (a1,a2,a3,a5,ByteArray.mk #[],0,0,0,val.1.1,val.1.2.1,0,a4,0,a4,0,ByteArray.mk #[],[],[],())).bind fun val=>Cj (fun d=>some ((d.2.2.2.2.2.1,d.2.2.1,d.2.2.2.1,()),())) (fun d=>some ((d.2.2.1,d.1,d.2.1,()),())) val
def Ayg (y:(Int×Int×Int×Int×List ByteArray×List ByteArray×Unit) ⊕ (Int×Int×List ByteArray×Unit)):Scd:=match y with
 | .inl v=>(v.2.2.2.2.2.1,v.2.2.1,v.2.2.2.1,())
 | .inr v=>(v.2.2.1,v.1,v.2.1,())
theorem Aqg {d:Dk} (hd:G8 d) (f n:Nat) (hfn:f + n≤d.1.length) (first w b1 b2:Int) (r4:List ByteArray):∀ (k m i:Nat) (st:ScT) (num:Int) (part:ByteArray),i + k=n→k < m→s4 i st→
  ∃ y,Ey m f n first w st.2.2.1 i b1 b2 (Lp d.1 d.2.1) [] st.2.2.2.2.1 st.2.2.2.2.2 st.1 st.2.1 num part r4 st.2.2.2.1=some y∧Ayg y=Df w first (seen d f i k) i st
 | 0,m + 1,i,st,num,part,hi,_,_=>by
  simp only [Ey,K5]
  rw [decide_eq_false (show ¬ (i:Int) < (n:Int) by omega)]
  exact ⟨_,rfl,rfl⟩
 | k + 1,m + 1,i,st,num,part,hi,hm,hI=>by
  have h200:=hd.n200
  have e1:IntKind.i64.wrap ((f:Int) + (i:Int))=((f + i:Nat):Int):=by rw [Ag (by omega) (by omega)]; omega
  have e2:List.getD (Lp d.1 d.2.1) (f + i) (ByteArray.mk #[])=Ahy d ((f:Int) + (i:Int)):=A1s hd (by omega)
  have e3:decide (((f + i:Nat):Int) < nI (Lp d.1 d.2.1).length)=true:=decide_eq_true (by rw [Nn]; simp only [nI]; omega)
  have e4:IntKind.i64.wrap ((i:Int) + 1)=((i + 1:Nat):Int):=wI (by omega)
  have es:seen d f i (k + 1)=Ahy d ((f:Int) + (i:Int))::seen d f (i + 1) k:=rfl
  simp only [Ey,K5]
  rw [es,decide_eq_true (show (i:Int) < (n:Int) by omega)]
  simp only [e1,e2,e3,e4,H2,cond_true,Int.toNat_natCast,Af,Lx]
  unfold Df P4
  generalize hx:Ahy d ((f:Int) + (i:Int))=x
  generalize hR:Bw x w=R
  obtain ⟨p,ok⟩:=R
  cases ok with
  | false=>exact ⟨_,rfl,rfl⟩
  | true=>
   obtain ⟨q1,q2,q3⟩:=Arl hR
   have e5:IntKind.i64.wrap (p.2.2.1 - (i:Int))=p.2.2.1 - (i:Int):=Ag (by omega) (by omega)
   simp only [e5,Bool.not_true,cond_false,Bool.true_and,bne]
   cases hn:(p.2.2.1 - (i:Int)==first) with
   | false=>exact ⟨_,rfl,rfl⟩
   | true=>
    simp only [Bool.not_true,cond_false,Bool.true_and]
    have hg:Ac6 st.1 st.2.1 (p.1,p.2.1,p.2.2.1,p.2.2.2.1,())=Ac6 st.1 st.2.1 p:=rfl
    try simp only [hg]
    cases hgo:Ac6 st.1 st.2.1 p with
    | false=>exact ⟨_,rfl,rfl⟩
    | true=>
     have hN:=hI.next (by omega) q3
     have e6:decide (ByteArray.size st.2.2.1 + ByteArray.size p.2.2.2.1≤9223372036854775807)=true:=decide_eq_true (by have:=hI.2.1; omega)
     have e7:decide ((List.length st.2.2.2.1 + 1) * 16≤140737488355328)=true:=decide_eq_true (by have:=hI.2.2; omega)
     simp only [e6,Bool.not_true,cond_false,cond_true,List.length_singleton,e7]
     have ih:=fun num part=>Aqg hd f n hfn first w b1 b2 r4 k m (i + 1) (I6 i p st) num part (by omega) (by omega) hN
     have ei:(i:Int) + 1=((i + 1:Nat):Int):=by omega
     rw [ei]
     unfold I6 at ih ⊢
     cases h1:(p.1==1) with
     | true=>
      have hp:p.1=1:=eq_of_beq h1
      rw [h1] at ih
      have:=ih p.2.2.1 p.2.2.2.1
      rw [hp]
      exact this
     | false=>
      rw [h1] at ih
      cases h2:(p.1==2) with
      | true=>
       have hp:p.1=2:=eq_of_beq h2
       rw [h2] at ih
       have:=ih p.2.2.1 p.2.2.2.1
       rw [hp]
       simp only [cond_false,cond_true,ei] at this ⊢
       exact this
      | false=>
       rw [h2] at ih
       have:=ih p.2.2.1 p.2.2.2.1
       simp only [cond_false,ei] at this ⊢
       exact this
theorem Ar3 (a0:Dk) (a1:Int) (a2:Int) (a3:Int) (a4:Int) (a5:Int):Xc a0 a1 a2 a3 a4 a5=some (((Ck a0 a1 a2 a3 a4 a5).1,(Ck a0 a1 a2 a3 a4 a5).2.1,(Ck a0 a1 a2 a3 a4 a5).2.2.1,()),(())):=by
 unfold Xc Ck Ru
 show (bif !A0 a0 then _ else _)=_
 cases hv:A0 a0 with
 | false=>rfl
 | true=>
  have hd:=Jv hv
  simp only [Bool.not_true,cond_false]
  refine l8 (wid a5) ?_
  cases hw:Ch a5 1 8 with
  | false=>rfl
  | true=>
   simp only [Bool.not_true,cond_false]
   have h200:=hd.n200
   by_cases h1:a1 < 0
   ·rw [decide_eq_true h1,decide_eq_false (show ¬ 0≤a1 by omega)]; rfl
   ·rw [decide_eq_false h1,decide_eq_true (show 0≤a1 by omega)]
    by_cases h2:a2 < 0
    ·rw [decide_eq_true h2,decide_eq_false (show ¬ 0≤a2 by omega)]; rfl
    ·rw [decide_eq_false h2,decide_eq_true (show 0≤a2 by omega)]
     by_cases h3:a1 > nI a0.1.length
     ·rw [decide_eq_true h3,decide_eq_false (show ¬ a1≤(a0.1.length:Int) by simp only [nI] at h3; omega)]; rfl
     ·have h3':a1≤(a0.1.length:Int):=by simp only [nI] at h3; omega
      rw [decide_eq_false h3,decide_eq_true h3']
      rw [Ag (n:=nI a0.1.length - a1) (by simp only [nI]; omega) (by simp only [nI]; omega)]
      by_cases h4:a2 > nI a0.1.length - a1
      ·rw [decide_eq_true h4,decide_eq_false (show ¬ a2≤(a0.1.length:Int) - a1 by simp only [nI] at h4; omega)]; rfl
      ·have h4':a2≤(a0.1.length:Int) - a1:=by simp only [nI] at h4; omega
       rw [decide_eq_false h4,decide_eq_true h4']
       simp only [cond_false,cond_true,Bool.true_and,Bool.and_self]
       have c1:Cr (a0.1,a0.2.1,())=some (a0.1,a0.2.1,()):=if_pos ⟨Nat.le_trans hd.n200 (by decide),Nat.le_trans hd.p300 (by decide)⟩
       have c2:Fm (a0.1,a0.2.1,())=some (Aps a0):=if_pos ⟨Nat.le_trans hd.p300 (by decide),fun k hk=>⟨(hd.pen k hk).1,(hd.pen k hk).2.1⟩⟩
       rw [c1]
       simp only [Option.bind_some]
       rw [c2]
       simp only [Option.bind_some]
       obtain ⟨f,rfl⟩:∃ f:Nat,a1=(f:Int):=⟨a1.toNat,by omega⟩
       obtain ⟨n,rfl⟩:∃ n:Nat,a2=(n:Int):=⟨a2.toNat,by omega⟩
       have hfu:n < Hh f n a3 a5 (ByteArray.mk #[]) 0 0 0 (Lp a0.1 a0.2.1) [] 0 a4 0 a4 0 (ByteArray.mk #[]) [] []:=by simp only [Hh]; omega
       generalize hF:Hh f n a3 a5 (ByteArray.mk #[]) 0 0 0 (Lp a0.1 a0.2.1) [] 0 a4 0 a4 0 (ByteArray.mk #[]) [] []=F at hfu
       have hfn:f + n≤a0.1.length:=by omega
       have hst:s4 0 (0,a4,z0,[],0,a4):=s4.zero _ _ _ _
       obtain ⟨y,hy1,hy2⟩:=Aqg hd f n hfn a3 a5 0 0 [] n F 0 (0,a4,z0,[],0,a4) 0 (ByteArray.mk #[])
        (Nat.zero_add n)
        hfu
        hst
       show (Ey (Hh f n a3 a5 (ByteArray.mk #[]) 0 0 0 (Lp a0.1 a0.2.1) [] 0 a4 0 a4 0 (ByteArray.mk #[]) [] []) f n a3 a5 (ByteArray.mk #[]) 0 0 0 (Lp a0.1 a0.2.1) [] 0 a4 0 a4 0 (ByteArray.mk #[]) [] []).bind _=_
       rw [hF]
       have hy1':Ey F f n a3 a5 (ByteArray.mk #[]) 0 0 0 (Lp a0.1 a0.2.1) [] 0 a4 0 a4 0 (ByteArray.mk #[]) [] []=some y:=hy1
       rw [hy1',Int.toNat_natCast]
       simp only [Option.bind_some]
       have hy3:Ayg y=Df a5 a3 (seen a0 (f:Int) 0 n) 0 (0,a4,z0,[],0,a4):=hy2
       rw [← hy3]
       cases y<;>rfl
noncomputable def Z4 {R:Type} (k:Kt R):=(Cj (I1 (pa_spec_Scan 9) (.exit 0) 2 k) (I1 (pa_spec_Scan 9) .ret 1 k))
noncomputable def Aho {R:Type}:Lt R pa_spec_Scan:=(Ed (pat:=pa_spec_Scan) 9 (fun d k=>(Ey (Hh d.1 d.2.1 d.2.2.1 d.2.2.2.1 d.2.2.2.2.1 d.2.2.2.2.2.1 d.2.2.2.2.2.2.1 d.2.2.2.2.2.2.2.1 d.2.2.2.2.2.2.2.2.1 d.2.2.2.2.2.2.2.2.2.1 d.2.2.2.2.2.2.2.2.2.2.1 d.2.2.2.2.2.2.2.2.2.2.2.1 d.2.2.2.2.2.2.2.2.2.2.2.2.1 d.2.2.2.2.2.2.2.2.2.2.2.2.2.1 d.2.2.2.2.2.2.2.2.2.2.2.2.2.2.1 d.2.2.2.2.2.2.2.2.2.2.2.2.2.2.2.1 d.2.2.2.2.2.2.2.2.2.2.2.2.2.2.2.2.1 d.2.2.2.2.2.2.2.2.2.2.2.2.2.2.2.2.2.1) d.1 d.2.1 d.2.2.1 d.2.2.2.1 d.2.2.2.2.1 d.2.2.2.2.2.1 d.2.2.2.2.2.2.1 d.2.2.2.2.2.2.2.1 d.2.2.2.2.2.2.2.2.1 d.2.2.2.2.2.2.2.2.2.1 d.2.2.2.2.2.2.2.2.2.2.1 d.2.2.2.2.2.2.2.2.2.2.2.1 d.2.2.2.2.2.2.2.2.2.2.2.2.1 d.2.2.2.2.2.2.2.2.2.2.2.2.2.1 d.2.2.2.2.2.2.2.2.2.2.2.2.2.2.1 d.2.2.2.2.2.2.2.2.2.2.2.2.2.2.2.1 d.2.2.2.2.2.2.2.2.2.2.2.2.2.2.2.2.1 d.2.2.2.2.2.2.2.2.2.2.2.2.2.2.2.2.2.1).bind (Z4 k)) Hu)
theorem Ado:A2 Tryz.prog ta_spec_Scan:=A7 ⟨Jf,Cz,F7,Rz,I8,Aml,trivial⟩
theorem Amm {R:Type}:A3 Tryz.prog R 118 0 pa_spec_Scan Aho co_spec_Scan_9:=
 B3 (cfg:=⟨ta_spec_Scan,0,118,pa_spec_Scan⟩) 9 [] (fun NX X d=>K5  NX (fun e=>X (.inl (e))) (fun e=>X (.inr (e))) d.1 d.2.1 d.2.2.1 d.2.2.2.1 d.2.2.2.2.1 d.2.2.2.2.2.1 d.2.2.2.2.2.2.1 d.2.2.2.2.2.2.2.1 d.2.2.2.2.2.2.2.2.1 d.2.2.2.2.2.2.2.2.2.1 d.2.2.2.2.2.2.2.2.2.2.1 d.2.2.2.2.2.2.2.2.2.2.2.1 d.2.2.2.2.2.2.2.2.2.2.2.2.1 d.2.2.2.2.2.2.2.2.2.2.2.2.2.1 d.2.2.2.2.2.2.2.2.2.2.2.2.2.2.1 d.2.2.2.2.2.2.2.2.2.2.2.2.2.2.2.1 d.2.2.2.2.2.2.2.2.2.2.2.2.2.2.2.2.1 d.2.2.2.2.2.2.2.2.2.2.2.2.2.2.2.2.2.1) (fun m d=>Ey m d.1 d.2.1 d.2.2.1 d.2.2.2.1 d.2.2.2.2.1 d.2.2.2.2.2.1 d.2.2.2.2.2.2.1 d.2.2.2.2.2.2.2.1 d.2.2.2.2.2.2.2.2.1 d.2.2.2.2.2.2.2.2.2.1 d.2.2.2.2.2.2.2.2.2.2.1 d.2.2.2.2.2.2.2.2.2.2.2.1 d.2.2.2.2.2.2.2.2.2.2.2.2.1 d.2.2.2.2.2.2.2.2.2.2.2.2.2.1 d.2.2.2.2.2.2.2.2.2.2.2.2.2.2.1 d.2.2.2.2.2.2.2.2.2.2.2.2.2.2.2.1 d.2.2.2.2.2.2.2.2.2.2.2.2.2.2.2.2.1 d.2.2.2.2.2.2.2.2.2.2.2.2.2.2.2.2.2.1) (fun d=>Hh d.1 d.2.1 d.2.2.1 d.2.2.2.1 d.2.2.2.2.1 d.2.2.2.2.2.1 d.2.2.2.2.2.2.1 d.2.2.2.2.2.2.2.1 d.2.2.2.2.2.2.2.2.1 d.2.2.2.2.2.2.2.2.2.1 d.2.2.2.2.2.2.2.2.2.2.1 d.2.2.2.2.2.2.2.2.2.2.2.1 d.2.2.2.2.2.2.2.2.2.2.2.2.1 d.2.2.2.2.2.2.2.2.2.2.2.2.2.1 d.2.2.2.2.2.2.2.2.2.2.2.2.2.2.1 d.2.2.2.2.2.2.2.2.2.2.2.2.2.2.2.1 d.2.2.2.2.2.2.2.2.2.2.2.2.2.2.2.2.1 d.2.2.2.2.2.2.2.2.2.2.2.2.2.2.2.2.2.1) Z4 Ado trivial (fun f NX d=>by unfold K5; simp only [Al,Ar,Ak,Option.bind_assoc,Option.bind_none,Option.bind_some]) (fun _ _ _=>by kernel_rfl)
theorem Ar4:B2 Tryz.prog 108 sd_spec_Scan:=
 A6 (pat:=pa_spec_Scan) [co_spec_Scan_9] Aho Ado ⟨Amm,trivial⟩ Tryz.func108 (de:=fun x=>Xc x.1 x.2.1 x.2.2.1 x.2.2.2.1 x.2.2.2.2.1 x.2.2.2.2.2.1) (fun x r h=>(Ar3 x.1 x.2.1 x.2.2.1 x.2.2.2.1 x.2.2.2.2.1 x.2.2.2.2.2.1).trans h) fun _=>by kernel_rfl
def Bd (n h:Int):Int:=IntKind.i64.wrap (2 + IntKind.i64.wrap (h * Ap n))
def Amn:Sig:=⟨[.rd tI,.rd tI],[none,none],[.rd tI],[none]⟩
noncomputable def sd_spec_l6Base:SD:=⟨Amn,fun x=>some (((Bd x.1 x.2.1),()),(()))⟩
noncomputable def Z5 (a0:Int) (a1:Int):Option ((((Int)×Unit)×(Unit))):=
 some ((IntKind.i64.wrap (2 + IntKind.i64.wrap (a1 * Ap a0)),()),())
theorem Amo (a0:Int) (a1:Int):Z5 a0 a1=some (((Bd a0 a1),()),(())):=rfl
theorem Sb:B2 Tryz.prog 109 sd_spec_l6Base:=
 A6 (pat:=D3) [] Hu (A7 (l:=[(40,sd_spec_Halves)]) ⟨Jb,trivial⟩) trivial Tryz.func109 (de:=fun x=>Z5 x.1 x.2.1) (fun x r h=>(Amo x.1 x.2.1).trans h) fun _=>by kernel_rfl
def J8 (s:Stt) (c:Chg):Option Stt:=if s.1.length≤1000000 then some (An1 c s.1,()) else none
def Af8:Sig:=⟨[.rd Ci,.rd D7],[some 1,some 3],[.own 157 Av],[some 1]⟩
noncomputable def sd_spec_l4Change:SD:=⟨Af8,fun x=>(J8 x.1 x.2.1).bind fun r=>some ((r.1,()),(()))⟩
noncomputable def ta_spec_l4Change:Tb:=tb []
def pa_spec_l4Change:Nat→Pat×(Nat→Pat):=Gf [(5,⟨[.boxSl 2 0 Av,.boxRow 4 0 157 Av,.boxRow 5 0 157 Av],[(2,.lf (.ptr 0 0)),(3,.lf (.ptr 1 0)),(4,.lf (.ptr 2 0)),(5,.lf (.ptr 3 0)),(6,.lf (.d .bool)),(7,.lf (.d tI))],[.box 31 [.d (.sl Av)],.box 99 [.d .str,.d .str,.d .bool],.box 31 [.row 4],.box 31 [.row 5],.row 157 Av,.row 157 Av]⟩,[(2,⟨[.boxRow 4 0 157 Av,.boxRow 5 0 157 Av],[(3,.lf (.ptr 0 0)),(4,.lf (.ptr 1 0)),(5,.lf (.ptr 2 0)),(6,.lf (.d .bool))],[.box 99 [.d .str,.d .str,.d .bool],.box 31 [.row 3],.box 31 [.row 4],.row 157 Av,.row 157 Av]⟩)])]
noncomputable def co_spec_l4Change_5:Code:=(As (Ba Tryz.f199)).getD 0 .skip
def Hi (v6:Bool) (v7:Int) (b0_0:List Pr2) (b1_0:ByteArray) (b1_1:ByteArray) (b1_2:Bool) (r4:List Pr2) (r5:List Pr2):Nat:=((b0_0.length:Int) - v7).toNat + 1
noncomputable def Hj {R:Type}  (NX:((Bool)×(Int)×(List Pr2)×(ByteArray)×(ByteArray)×(Bool)×(List Pr2)×(List Pr2)×Unit)→Option R) (X2:((Bool)×(ByteArray)×(ByteArray)×(Bool)×(List Pr2)×(List Pr2)×Unit)→Option R) (v6:Bool) (v7:Int) (b0_0:List Pr2) (b1_0:ByteArray) (b1_1:ByteArray) (b1_2:Bool) (r4:List Pr2) (r5:List Pr2):Option R:=
 bif decide (v7 < nI b0_0.length) then bif !v6 then bif decide (0≤v7) then bif decide (v7 < nI b0_0.length) then bif !(Op.bytesLess (ByteArray.toList (b0_0.getD v7.toNat (ByteArray.mk #[],ByteArray.mk #[],())).1) b1_0.toList || ByteArray.toList (b0_0.getD v7.toNat (ByteArray.mk #[],ByteArray.mk #[],())).1==b1_0.toList) then bif decide ((r5.length + [(b1_0,b1_1,())].length) * 32≤140737488355328) then bif decide (0≤v7) then bif decide (v7 < nI b0_0.length) then bif !ByteArray.toList (b0_0.getD v7.toNat (ByteArray.mk #[],ByteArray.mk #[],())).1==b1_0.toList then bif decide (0≤v7) then bif decide (v7 < nI b0_0.length) then bif decide (((r5++[(b1_0,b1_1,())]).length + [b0_0.getD v7.toNat (ByteArray.mk #[],ByteArray.mk #[],())].length) * 32≤140737488355328) then NX (true,IntKind.i64.wrap (v7 + 1),b0_0,b1_0,b1_1,b1_2,r4,r5++[(b1_0,b1_1,())]++[b0_0.getD v7.toNat (ByteArray.mk #[],ByteArray.mk #[],())],()) else none else none else none else NX (true,IntKind.i64.wrap (v7 + 1),b0_0,b1_0,b1_1,b1_2,r4,r5++[(b1_0,b1_1,())],()) else none else none else none else bif decide (0≤v7) then bif decide (v7 < nI b0_0.length) then bif !ByteArray.toList (b0_0.getD v7.toNat (ByteArray.mk #[],ByteArray.mk #[],())).1==b1_0.toList then bif decide (0≤v7) then bif decide (v7 < nI b0_0.length) then bif decide ((r5.length + [b0_0.getD v7.toNat (ByteArray.mk #[],ByteArray.mk #[],())].length) * 32≤140737488355328) then NX (v6,IntKind.i64.wrap (v7 + 1),b0_0,b1_0,b1_1,b1_2,r4,r5++[b0_0.getD v7.toNat (ByteArray.mk #[],ByteArray.mk #[],())],()) else none else none else none else NX (v6,IntKind.i64.wrap (v7 + 1),b0_0,b1_0,b1_1,b1_2,r4,r5,()) else none else none else none else none else bif decide (0≤v7) then bif decide (v7 < nI b0_0.length) then bif !ByteArray.toList (b0_0.getD v7.toNat (ByteArray.mk #[],ByteArray.mk #[],())).1==b1_0.toList then bif decide (0≤v7) then bif decide (v7 < nI b0_0.length) then bif decide ((r5.length + [b0_0.getD v7.toNat (ByteArray.mk #[],ByteArray.mk #[],())].length) * 32≤140737488355328) then NX (v6,IntKind.i64.wrap (v7 + 1),b0_0,b1_0,b1_1,b1_2,r4,r5++[b0_0.getD v7.toNat (ByteArray.mk #[],ByteArray.mk #[],())],()) else none else none else none else NX (v6,IntKind.i64.wrap (v7 + 1),b0_0,b1_0,b1_1,b1_2,r4,r5,()) else none else none else X2 (v6,b1_0,b1_1,b1_2,r4,r5,())
noncomputable def Cv:Nat→(Bool)→(Int)→(List Pr2)→(ByteArray)→(ByteArray)→(Bool)→(List Pr2)→(List Pr2) →  Option ((Bool)×(ByteArray)×(ByteArray)×(Bool)×(List Pr2)×(List Pr2)×Unit)
 | 0,_,_,_,_,_,_,_,_=>none
 | m + 1,v6,v7,b0_0,b1_0,b1_1,b1_2,r4,r5=>Hj  (fun d=>Cv m d.1 d.2.1 d.2.2.1 d.2.2.2.1 d.2.2.2.2.1 d.2.2.2.2.2.1 d.2.2.2.2.2.2.1 d.2.2.2.2.2.2.2.1) (fun d=>some (d)) v6 v7 b0_0 b1_0 b1_1 b1_2 r4 r5
noncomputable def O6 (a0:Stt) (a1:Chg):Option ((Stt×(Unit))):=
 ((fun d=>Cv (Hi d.1 d.2.1 d.2.2.1 d.2.2.2.1 d.2.2.2.2.1 d.2.2.2.2.2.1 d.2.2.2.2.2.2.1 d.2.2.2.2.2.2.2.1) d.1 d.2.1 d.2.2.1 d.2.2.2.1 d.2.2.2.2.1 d.2.2.2.2.2.1 d.2.2.2.2.2.2.1 d.2.2.2.2.2.2.2.1) (a1.2.2.1,0,a0.1,a1.1,a1.2.1,a1.2.2.1,[],[],())).bind fun val=>bif !val.1 then bif decide ((val.2.2.2.2.2.1.length + [(val.2.1,val.2.2.1,())].length) * 32≤140737488355328) then some ((val.2.2.2.2.2.1++[(val.2.1,val.2.2.1,())],()),()) else none else some (val.2.2.2.2.2,())
theorem Af9 (a0:Stt) (a1:Chg) r (h:J8 a0 a1=some r):O6 a0 a1=some ((r.1,()),(())):=by
 unfold J8 at h
 split at h
 rotate_left
 ·cases h
 rename_i hlen
 cases h
 unfold O6
 have hL:=Gi (xs:=a0.1) zP (fun i (s:Bool×List Pr2)=>i≤1000000∧s.2.length≤2 * i) (fun _ p s=>Rv a1.1 a1.2.1 p s) (g:=fun m i s=>Cv m s.1 i a0.1 a1.1 a1.2.1 a1.2.2.1 [] s.2) (ok:=fun s=>(s.1,a1.1,a1.2.1,a1.2.2.1,[],s.2,())) (fun m i s hi hI=>by
   show Cv (m + 1) s.1 i a0.1 a1.1 a1.2.1 a1.2.2.1 [] s.2=_
   obtain ⟨d,out⟩:=s
   obtain ⟨h1,h2⟩:=hI
   simp only at h2 ⊢
   simp only [Cv,Hj]
   have e1:decide ((out.length + 1) * 32≤140737488355328)=true:=decide_eq_true (by omega)
   have e2:decide ((out.length + 1 + 1) * 32≤140737488355328)=true:=decide_eq_true (by omega)
   rw [W1 hi,H2,wI (show i < 4611686018427387904 by omega),Int.toNat_natCast]
   simp only [cond_true,List.length_singleton,List.length_append,e1,e2]
   unfold Rv gtS bl
   show (bif !d then (bif !(Op.bytesLess (List.getD a0.1 i zP).1.toList a1.1.toList || (List.getD a0.1 i zP).1.toList==a1.1.toList) then _ else _) else _)=_
   cases d with
   | true=>
    simp only [Bool.not_true,Bool.false_and,cond_false]
    show (bif !((List.getD a0.1 i zP).1.toList==a1.1.toList) then _ else _)=_
    cases ((List.getD a0.1 i zP).1.toList==a1.1.toList)<;>rfl
   | false=>
    simp only [Bool.not_false,Bool.true_and,cond_true]
    cases hq:!(Op.bytesLess (List.getD a0.1 i zP).1.toList a1.1.toList || (List.getD a0.1 i zP).1.toList==a1.1.toList) with
    | true=>
     simp only [cond_true]
     show (bif !((List.getD a0.1 i zP).1.toList==a1.1.toList) then _ else _)=_
     cases ((List.getD a0.1 i zP).1.toList==a1.1.toList)<;>rfl
    | false=>
     simp only [cond_false]
     show (bif !((List.getD a0.1 i zP).1.toList==a1.1.toList) then _ else _)=_
     cases ((List.getD a0.1 i zP).1.toList==a1.1.toList)<;>rfl) (fun i s hi hI=>⟨by omega,by have:=Alv a1.1 a1.2.1 (a0.1.getD i zP) s; omega⟩) (fun m s hI=>by
   show Cv (m + 1) s.1 (a0.1.length:Int) a0.1 a1.1 a1.2.1 a1.2.2.1 [] s.2=_
   simp only [Cv,Hj]
   rw [Mm]
   rfl) (Hi a1.2.2.1 0 a0.1 a1.1 a1.2.1 a1.2.2.1 [] []) 0 (a1.2.2.1,[]) (by omega) (by simp [Hi,nI]) ⟨by omega,Nat.le_refl _⟩
 have hE:=Ax1 a1.1 a1.2.1 a0.1 0 (a1.2.2.1,[])
 have hB:(F3 (fun _ p s=>Rv a1.1 a1.2.1 p s) 0 a0.1 (a1.2.2.1,[])).2.length≤2 * a0.1.length:=by
  have:=Vf zP (fun i (s:Bool×List Pr2)=>s.2.length≤2 * i) (fun _ p s=>Rv a1.1 a1.2.1 p s) (xs:=a0.1) (fun i s hi hI=>by have:=Alv a1.1 a1.2.1 (a0.1.getD i zP) s; omega) a0.1.length 0 (a1.2.2.1,[]) (by omega) (Nat.le_refl _)
  exact this
 rw [List.drop_zero] at hL
 refine W5 hL ?_
 dsimp only
 generalize F3 (fun _ p s=>Rv a1.1 a1.2.1 p s) 0 a0.1 (a1.2.2.1,[])=q at hE hB
 obtain ⟨d,out⟩:=q
 simp only at hB
 simp only [List.nil_append] at hE
 show _=some ((Na a1.1 a1.2.1 a1.2.2.1 a0.1,()),())
 rw [← hE]
 unfold Aub
 have e1:decide ((out.length + 1) * 32≤140737488355328)=true:=decide_eq_true (by omega)
 cases d with
 | true=>rfl
 | false=>
  simp only [Bool.not_false,cond_true,cond_false,List.length_singleton,e1]
noncomputable def Sc {R:Type} (k:Kt R):=(I1 (pa_spec_l4Change 5) (.exit 0) 2 k)
noncomputable def Xu {R:Type}:Lt R pa_spec_l4Change:=(Ed (pat:=pa_spec_l4Change) 5 (fun d k=>(Cv (Hi d.1 d.2.1 d.2.2.1 d.2.2.2.1 d.2.2.2.2.1 d.2.2.2.2.2.1 d.2.2.2.2.2.2.1 d.2.2.2.2.2.2.2.1) d.1 d.2.1 d.2.2.1 d.2.2.2.1 d.2.2.2.2.1 d.2.2.2.2.2.1 d.2.2.2.2.2.2.1 d.2.2.2.2.2.2.2.1).bind (Sc k)) Hu)
theorem V0:A2 Tryz.prog ta_spec_l4Change:=A7 trivial
theorem Aa9 {R:Type}:A3 Tryz.prog R 73 0 pa_spec_l4Change Xu co_spec_l4Change_5:=
 B3 (cfg:=⟨ta_spec_l4Change,0,73,pa_spec_l4Change⟩) 5 [] (fun NX X (d:(Bool)×(Int)×(List Pr2)×(ByteArray)×(ByteArray)×(Bool)×(List Pr2)×(List Pr2)×Unit)=>Hj  NX X d.1 d.2.1 d.2.2.1 d.2.2.2.1 d.2.2.2.2.1 d.2.2.2.2.2.1 d.2.2.2.2.2.2.1 d.2.2.2.2.2.2.2.1) (fun m d=>Cv m d.1 d.2.1 d.2.2.1 d.2.2.2.1 d.2.2.2.2.1 d.2.2.2.2.2.1 d.2.2.2.2.2.2.1 d.2.2.2.2.2.2.2.1) (fun d=>Hi d.1 d.2.1 d.2.2.1 d.2.2.2.1 d.2.2.2.2.1 d.2.2.2.2.2.1 d.2.2.2.2.2.2.1 d.2.2.2.2.2.2.2.1) Sc V0 trivial (fun f NX (d:(Bool)×(Int)×(List Pr2)×(ByteArray)×(ByteArray)×(Bool)×(List Pr2)×(List Pr2)×Unit)=>by unfold Hj; simp only [Al,Ar,Ak,Option.bind_assoc,Option.bind_none,Option.bind_some]) (fun _ _ _=>by kernel_rfl)
theorem Aga:B2 Tryz.prog 199 sd_spec_l4Change:=
 A6 (pat:=pa_spec_l4Change) [co_spec_l4Change_5] Xu V0 ⟨Aa9,trivial⟩ Tryz.func199 (de:=fun x=>O6 x.1 x.2.1) (fun x r h=>Hv (Af9 x.1 x.2.1) h) fun _=>by kernel_rfl
def Cw (s:Stt) (b:List Chg):Stt×Int:=Dw s b
def An7:Sig:=⟨[.rd Ci,.rd (.sl D7)],[some 1,none],[.own 157 Av,.rd tI],[some 1,none]⟩
noncomputable def sd_spec_Apply:SD:=⟨An7,fun x=>some (((Cw x.1 x.2.1).1.1,(Cw x.1 x.2.1).2,()),(()))⟩
noncomputable def ta_spec_Apply:Tb:=tb [(69,sd_spec_ValidState),(77,sd_spec_l4Copy),(122,sd_spec_ValidBatch),(199,sd_spec_l4Change)]
def pa_spec_Apply:Nat→Pat×(Nat→Pat):=Gf [(6,⟨[.sl 1 0 D7,.boxRow 4 0 157 Av,.boxRow 6 0 157 Av],[(1,.lf (.d (.sl D7))),(4,.lf (.ptr 0 0)),(6,.lf (.ptr 1 0)),(7,.lf (.d tI))],[.box 31 [.row 2],.box 31 [.row 3],.row 157 Av,.row 157 Av]⟩,[(2,⟨[.boxRow 4 0 157 Av,.boxRow 6 0 157 Av],[(4,.lf (.ptr 0 0)),(6,.lf (.ptr 1 0))],[.box 31 [.row 2],.box 31 [.row 3],.row 157 Av,.row 157 Av]⟩)])]
noncomputable def co_spec_Apply_6:Code:=(As (Ba Tryz.f123)).getD 0 .skip
def H5 (v1:List Chg) (v7:Int) (r2:List Pr2) (r3:List Pr2):Nat:=((v1.length:Int) - v7).toNat + 1
noncomputable def J9 {R:Type}  (NX:((List Chg)×(Int)×(List Pr2)×(List Pr2)×Unit)→Option R) (X2:((List Pr2)×(List Pr2)×Unit)→Option R) (v1:List Chg) (v7:Int) (r2:List Pr2) (r3:List Pr2):Option R:=
 bif decide (v7 < nI v1.length) then bif decide (0≤v7) then bif decide (v7 < nI v1.length) then ((J8 (r3,()) (v1.getD v7.toNat (ByteArray.mk #[],ByteArray.mk #[],false,()))).bind fun val=>some (val,())).bind fun val=>NX (v1,IntKind.i64.wrap (v7 + 1),r2,val.1) else none else none else X2 (r2,r3,())
noncomputable def Do:Nat→(List Chg)→(Int)→(List Pr2)→(List Pr2) →  Option ((List Pr2)×(List Pr2)×Unit)
 | 0,_,_,_,_=>none
 | m + 1,v1,v7,r2,r3=>J9  (fun d=>Do m d.1 d.2.1 d.2.2.1 d.2.2.2.1) (fun d=>some (d)) v1 v7 r2 r3
noncomputable def Uq (a0:Stt) (a1:List Chg):Option ((((List Pr2)×(Int)×Unit)×(Unit))):=
 bif !D4 a0 then some (([],1,()),()) else bif !F8 a1 then some (([],1,()),()) else ((C1 a0).bind fun val=>some (val,())).bind fun val=>((fun d=>Do (H5 d.1 d.2.1 d.2.2.1 d.2.2.2.1) d.1 d.2.1 d.2.2.1 d.2.2.2.1) (a1,0,[],val.1)).bind fun val=>bif decide (nI val.2.1.length > 100) then some (([],2,()),()) else some ((val.2.1,0,()),())
theorem Ar5 (b:List Chg) (xs:List Pr2) (hb:b.length≤20) (hx:xs.length≤100):Do (H5 b 0 [] xs) b 0 [] xs=some ([],Tq xs b,()):=by
 have hL:=Gi (xs:=b) zC (fun i (l:List Pr2)=>i≤20∧l.length≤100 + i) (fun _ c l=>An1 c l) (g:=fun m i l=>Do m b i [] l) (ok:=fun l=>([],l,())) (fun m i l hi hI=>by
   show Do (m + 1) b i [] l=_
   simp only [Do,J9]
   rw [W1 hi,H2,wI (show i < 4611686018427387904 by omega),Int.toNat_natCast]
   simp only [cond_true]
   have e1:J8 (l,()) ((List.getD b i zC).1,(List.getD b i zC).2.1,(List.getD b i zC).2.2.1,())=some (An1 (List.getD b i zC) l,()):=if_pos (by show l.length≤1000000; omega)
   refine (congrArg (fun y=>Option.bind (Option.bind y _) _) e1).trans ?_
   rfl) (fun i l hi hI=>⟨by omega,by have:=A3k (b.getD i zC) l; omega⟩) (fun m l hI=>by
   show Do (m + 1) b (b.length:Int) [] l=_
   simp only [Do,J9]
   rw [Mm]
   rfl) (H5 b 0 [] xs) 0 xs (by omega) (by simp [H5,nI]) ⟨by omega,by omega⟩
 rw [List.drop_zero] at hL
 exact hL
theorem An8 (a0:Stt) (a1:List Chg):Uq a0 a1=some (((Cw a0 a1).1.1,(Cw a0 a1).2,()),(())):=by
 unfold Uq Cw Dw
 show (bif !Aj a0 then _ else bif !Bb a1 then _ else _)=_
 cases hv:Aj a0 with
 | false=>rfl
 | true=>
  cases hb:Bb a1 with
  | false=>rfl
  | true=>
   simp only [Bool.not_true,cond_false]
   have hl:=De hv
   have hb2:=Cy (B7 hb).1
   have e1:C1 (a0.1,())=some (a0.1,()):=if_pos (Nat.le_trans hl (by decide))
   rw [e1]
   simp only [Option.bind_some]
   refine W5 (Ar5 a1 a0.1 (by omega) hl) ?_
   dsimp only
   by_cases q:(Tq a0.1 a1).length > 100
   ·rw [decide_eq_true (show nI (Tq a0.1 a1).length > 100 by simp only [nI]; omega),decide_eq_true q]
    rfl
   ·rw [decide_eq_false (show ¬ nI (Tq a0.1 a1).length > 100 by simp only [nI]; omega),decide_eq_false q]
    rfl
noncomputable def Xv {R:Type} (k:Kt R):=(I1 (pa_spec_Apply 6) (.exit 0) 2 k)
noncomputable def Adp {R:Type}:Lt R pa_spec_Apply:=(Ed (pat:=pa_spec_Apply) 6 (fun d k=>(Do (H5 d.1 d.2.1 d.2.2.1 d.2.2.2.1) d.1 d.2.1 d.2.2.1 d.2.2.2.1).bind (Xv k)) Hu)
theorem u7:A2 Tryz.prog ta_spec_Apply:=A7 ⟨Jw,Nq,Mr,Aga,trivial⟩
theorem Aid {R:Type}:A3 Tryz.prog R 37 0 pa_spec_Apply Adp co_spec_Apply_6:=
 B3 (cfg:=⟨ta_spec_Apply,0,37,pa_spec_Apply⟩) 6 [] (fun NX X d=>J9  NX X d.1 d.2.1 d.2.2.1 d.2.2.2.1) (fun m d=>Do m d.1 d.2.1 d.2.2.1 d.2.2.2.1) (fun d=>H5 d.1 d.2.1 d.2.2.1 d.2.2.2.1) Xv u7 trivial (fun f NX d=>by unfold J9; simp only [Al,Ar,Ak,Option.bind_assoc,Option.bind_none,Option.bind_some]) (fun _ _ _=>by kernel_rfl)
theorem Ur:B2 Tryz.prog 123 sd_spec_Apply:=
 A6 (pat:=pa_spec_Apply) [co_spec_Apply_6] Adp u7 ⟨Aid,trivial⟩ Tryz.func123 (de:=fun x=>Uq x.1 x.2.1) (fun x r h=>(An8 x.1 x.2.1).trans h) fun _=>by kernel_rfl
def Hk (s:ByteArray):ByteArray×ByteArray×Bool:=((Bq s).1,bif (Bq s).2.2 then (Bq s).2.1 else ⟨#[]⟩,(Bq s).2.2)
def Aie:Sig:=⟨[.rd .str],[none],[.rd .str,.rd .str,.rd .bool],[none,none,none]⟩
noncomputable def sd_spec_l4Piece:SD:=⟨Aie,fun x=>some (((Hk x.1).1,(Hk x.1).2.1,(Hk x.1).2.2,()),(()))⟩
noncomputable def Qa (a0:ByteArray):Option ((((ByteArray)×(ByteArray)×(Bool)×Unit)×(Unit))):=
 bif decide (nI a0.size < 1) then some ((ByteArray.mk #[],ByteArray.mk #[],false,()),()) else bif decide (0 < nI a0.size) then bif decide (nI a0.size < IntKind.i64.wrap (1 + IntKind.i64.wrap (An a0 0))) then some ((ByteArray.mk #[],ByteArray.mk #[],false,()),()) else bif decide (0 < nI a0.size) then bif decide (1≤IntKind.i64.wrap (1 + IntKind.i64.wrap (An a0 0))) then bif decide (IntKind.i64.wrap (1 + IntKind.i64.wrap (An a0 0))≤nI a0.size) then bif decide (0≤IntKind.i64.wrap (1 + IntKind.i64.wrap (An a0 0))) then bif decide (IntKind.i64.wrap (1 + IntKind.i64.wrap (An a0 0))≤nI a0.size) then some ((Ac a0 1 (IntKind.i64.wrap (1 + IntKind.i64.wrap (An a0 0))),Ac a0 (IntKind.i64.wrap (1 + IntKind.i64.wrap (An a0 0))) (nI a0.size),true,()),()) else none else none else none else none else none else none
theorem Aif (a0:ByteArray):Qa a0=some (((Hk a0).1,(Hk a0).2.1,(Hk a0).2.2,()),(())):=by
 unfold Qa Hk Bq
 obtain ⟨b0,b1⟩:=I5 a0 0
 have hw:IntKind.i64.wrap (1 + IntKind.i64.wrap (An a0 0))=1 + An a0 0:=by
  rw [Ag (n:=An a0 0) (by omega) (by omega),Ag (by omega) (by omega)]
 rw [hw]
 by_cases h0:(a0.size:Int) < 1
 ·rw [if_pos (Or.inl h0),decide_eq_true (show nI a0.size < 1 from h0)]
  rfl
 ·rw [decide_eq_false (show ¬ nI a0.size < 1 from h0),decide_eq_true (show 0 < nI a0.size by simp only [nI]; omega)]
  by_cases h1:(a0.size:Int) < 1 + An a0 0
  ·rw [if_pos (Or.inr h1),decide_eq_true (show nI a0.size < 1 + An a0 0 from h1)]
   rfl
  ·rw [if_neg (by omega),decide_eq_false (show ¬ nI a0.size < 1 + An a0 0 from h1),decide_eq_true (show 1≤1 + An a0 0 by omega),decide_eq_true (show 0≤1 + An a0 0 by omega),decide_eq_true (show 1 + An a0 0≤nI a0.size by simp only [nI]; omega)]
   rfl
theorem Aig:B2 Tryz.prog 226 sd_spec_l4Piece:=
 A6 (pat:=D3) [] Hu (A7 (l:=[]) trivial) trivial Tryz.func226 (de:=fun x=>Qa x.1) (fun x r h=>(Aif x.1).trans h) fun _=>by kernel_rfl
def Ds (s:ByteArray):List Chg×Bool:=Alb s
def Lr (v0 v5:ByteArray) (r0:List Chg):Nat:=22
def Adq:Sig:=⟨[.rd .str],[none],[.own 99 D7,.rd .bool],[none,none]⟩
noncomputable def sd_spec_ReadBatch:SD:=⟨Adq,fun x=>some (((Ds x.1).1,(Ds x.1).2,()),(()))⟩
noncomputable def ta_spec_ReadBatch:Tb:=tb [(125,sd_spec_FormBatch),(226,sd_spec_l4Piece)]
def pa_spec_ReadBatch:Nat→Pat×(Nat→Pat):=Gf [(4,⟨[.row 4 0 99 D7],[(0,.lf (.d .str)),(4,.lf (.row 0)),(5,.lf (.d .str))],[.row 99 D7]⟩,[(2,⟨[.row 4 0 99 D7],[(0,.lf (.d .str)),(4,.lf (.row 0))],[.row 99 D7]⟩),(1,⟨[.row 2 0 99 D7],[(2,.lf (.row 0)),(3,.lf (.d .bool))],[.row 99 D7]⟩)])]
noncomputable def co_spec_ReadBatch_4:Code:=(As (Ba Tryz.f190)).getD 0 .skip
noncomputable def Iw {R:Type}  (NX:((ByteArray)×(ByteArray)×(List Chg)×Unit)→Option R) (X2:((ByteArray)×(List Chg)×Unit)→Option R) (X1:((Bool)×(List Chg)×Unit)→Option R) (v0:ByteArray) (v5:ByteArray) (r0:List Chg):Option R:=
 bif decide (nI v5.size > 0) then bif decide (nI r0.length≤20) then bif decide (0 < nI v5.size) then bif decide (1≤nI v5.size) then bif !(Bq (Ac v5 1 (nI v5.size))).2.2 then X1 (false,[],()) else bif !An v5 0==1 then bif !(Bq (bif (Bq (Ac v5 1 (nI v5.size))).2.2 then (Bq (Ac v5 1 (nI v5.size))).2.1 else ByteArray.mk #[])).2.2 then X1 (false,[],()) else bif decide ((r0.length + [((Bq (Ac v5 1 (nI v5.size))).1,(Bq (bif (Bq (Ac v5 1 (nI v5.size))).2.2 then (Bq (Ac v5 1 (nI v5.size))).2.1 else ByteArray.mk #[])).1,An v5 0==1,())].length) * 40≤140737488355328) then NX (v0,bif (Bq (bif (Bq (Ac v5 1 (nI v5.size))).2.2 then (Bq (Ac v5 1 (nI v5.size))).2.1 else ByteArray.mk #[])).2.2 then (Bq (bif (Bq (Ac v5 1 (nI v5.size))).2.2 then (Bq (Ac v5 1 (nI v5.size))).2.1 else ByteArray.mk #[])).2.1 else ByteArray.mk #[],r0++[((Bq (Ac v5 1 (nI v5.size))).1,(Bq (bif (Bq (Ac v5 1 (nI v5.size))).2.2 then (Bq (Ac v5 1 (nI v5.size))).2.1 else ByteArray.mk #[])).1,An v5 0==1,())],()) else none else bif decide ((r0.length + [((Bq (Ac v5 1 (nI v5.size))).1,ByteArray.mk #[],An v5 0==1,())].length) * 40≤140737488355328) then NX (v0,bif (Bq (Ac v5 1 (nI v5.size))).2.2 then (Bq (Ac v5 1 (nI v5.size))).2.1 else ByteArray.mk #[],r0++[((Bq (Ac v5 1 (nI v5.size))).1,ByteArray.mk #[],An v5 0==1,())],()) else none else none else none else X2 (v0,r0,()) else X2 (v0,r0,())
noncomputable def E4:Nat→(ByteArray)→(ByteArray)→(List Chg) →  Option (((ByteArray)×(List Chg)×Unit) ⊕ ((Bool)×(List Chg)×Unit))
 | 0,_,_,_=>none
 | m + 1,v0,v5,r0=>Iw  (fun d=>E4 m d.1 d.2.1 d.2.2.1) (fun d=>some (.inl (d))) (fun d=>some (.inr (d))) v0 v5 r0
noncomputable def Ny (a0:ByteArray):Option ((((List Chg)×(Bool)×Unit)×(Unit))):=
 ((fun d=>E4 (Lr d.1 d.2.1 d.2.2.1) d.1 d.2.1 d.2.2.1) (a0,a0,[],())).bind fun val=>Cj (fun d=>bif nI (ByteArray.size d.1)==0 then some (([],false,()),()) else bif !(C2 d.2.1).toList==ByteArray.toList d.1 then some (([],false,()),()) else some ((d.2.1,true,()),())) (fun d=>some ((d.2.1,d.1,()),())) val
def A6q (s0:ByteArray) (o:Option (List Chg×ByteArray)):(ByteArray×List Chg×Unit) ⊕ (Bool×List Chg×Unit):=match o with
 | some (b,t)=>.inl (s0,b,())
 | none=>.inr (false,[],())
theorem Amp (s0:ByteArray):∀ (f m:Nat) (r:List Chg) (s:ByteArray),r.length + f=22→f≤m→1≤f→E4 m s0 s r=some (A6q s0 (P2 false f r s))
 | 0,_,_,_,_,_,h=>by omega
 | f + 1,0,_,_,_,h,_=>by omega
 | f + 1,m + 1,r,s,hf,hm,_=>by
  simp only [E4,Iw,P2]
  by_cases hs:s.size > 0
  ·rw [decide_eq_true (show nI s.size > 0 by simp only [nI]; omega),decide_eq_true hs]
   by_cases hr:r.length≤20
   ·rw [decide_eq_true (show nI r.length≤20 by simp only [nI]; omega),decide_eq_true hr,decide_eq_true (show 1≤nI s.size by simp only [nI]; omega)]
    unfold Ala
    generalize Bq (Ac s 1 (nI s.size))=p
    simp only [List.length_singleton,Bool.false_and,cond_true,Bool.and_self,cond_false]
    rw [decide_eq_true (show (r.length + 1) * 40≤140737488355328 by omega)]
    obtain ⟨k,t,o⟩:=p
    cases o
    ·rfl
    ·by_cases h2:An s 0=1
     ·rw [h2]
      exact Amp s0 f m (r++[(k,ByteArray.mk #[],true,())]) t (by rw [List.length_append,List.length_singleton]; omega) (by omega) (by omega)
     ·have h3:(An s 0==1)=false:=beq_eq_false_iff_ne.2 h2
      rw [h3]
      simp only [Bool.not_true,Bool.not_false,cond_false,cond_true]
      generalize Bq t=q
      obtain ⟨v,u,o⟩:=q
      cases o
      ·rfl
      ·exact Amp s0 f m (r++[(k,v,false,())]) u (by rw [List.length_append,List.length_singleton]; omega) (by omega) (by omega)
   ·rw [decide_eq_false (show ¬ nI r.length≤20 by simp only [nI]; omega),decide_eq_false hr]
    rfl
  ·rw [decide_eq_false (show ¬ nI s.size > 0 by simp only [nI]; omega),decide_eq_false hs]
   rfl
theorem Adr (a0:ByteArray):Ny a0=some (((Ds a0).1,(Ds a0).2,()),(())):=by
 unfold Ny Ds Alb
 have hL:=Amp a0 22 22 [] a0 rfl (Nat.le_refl _) (by omega)
 refine l8 hL ?_
 cases P2 false 22 [] a0 with
 | none=>rfl
 | some bt=>
  obtain ⟨b,t⟩:=bt
  show (bif nI a0.size==0 then _ else (bif !(ByteArray.toList (Ee b)==ByteArray.toList a0) then _ else _))=_
  have e:(nI a0.size==0)=(a0.size==0):=by
   by_cases q:a0.size=0
   ·rw [q]; rfl
   ·rw [beq_eq_false_iff_ne.2 q,beq_eq_false_iff_ne.2 (show nI a0.size≠0 by simp only [nI]; omega)]
  rw [e]
  simp only
  cases (a0.size==0)<;>cases (ByteArray.toList (Ee b)==ByteArray.toList a0)<;>rfl
noncomputable def Ql {R:Type} (k:Kt R):=(Cj (I1 (pa_spec_ReadBatch 4) (.exit 0) 2 k) (I1 (pa_spec_ReadBatch 4) .ret 1 k))
noncomputable def V1 {R:Type}:Lt R pa_spec_ReadBatch:=(Ed (pat:=pa_spec_ReadBatch) 4 (fun d k=>(E4 (Lr d.1 d.2.1 d.2.2.1) d.1 d.2.1 d.2.2.1).bind (Ql k)) Hu)
theorem T5:A2 Tryz.prog ta_spec_ReadBatch:=A7 ⟨Kk,Aig,trivial⟩
theorem m6 {R:Type}:A3 Tryz.prog R 70 0 pa_spec_ReadBatch V1 co_spec_ReadBatch_4:=
 B3 (cfg:=⟨ta_spec_ReadBatch,0,70,pa_spec_ReadBatch⟩) 4 [] (fun NX X d=>Iw  NX (fun e=>X (.inl (e))) (fun e=>X (.inr (e))) d.1 d.2.1 d.2.2.1) (fun m d=>E4 m d.1 d.2.1 d.2.2.1) (fun d=>Lr d.1 d.2.1 d.2.2.1) Ql T5 trivial (fun f NX d=>by unfold Iw; simp only [Al,Ar,Ak,Option.bind_assoc,Option.bind_none,Option.bind_some]) (fun _ _ _=>by kernel_rfl)
theorem Ads:B2 Tryz.prog 190 sd_spec_ReadBatch:=
 A6 (pat:=pa_spec_ReadBatch) [co_spec_ReadBatch_4] V1 T5 ⟨m6,trivial⟩ Tryz.func190 (de:=fun x=>Ny x.1) (fun x r h=>(Adr x.1).trans h) fun _=>by kernel_rfl
def Ly (es:List ByteArray):Option (Stt×Bool):=if es.length≤1073741824 then some (Ax6 es) else none
def Amq:Sig:=⟨[.rd (.sl .str)],[none],[.own 157 Av,.rd .bool],[some 1,none]⟩
noncomputable def sd_spec_l6Fold:SD:=⟨Amq,fun x=>(Ly x.1).bind fun r=>some ((r.1.1,r.2,()),(()))⟩
noncomputable def ta_spec_l6Fold:Tb:=tb [(123,sd_spec_Apply),(190,sd_spec_ReadBatch)]
def pa_spec_l6Fold:Nat→Pat×(Nat→Pat):=Gf [(4,⟨[.sl 0 0 .str,.boxRow 2 0 157 Av,.boxRow 4 0 157 Av],[(0,.lf (.d (.sl .str))),(2,.lf (.ptr 0 0)),(4,.lf (.ptr 1 0)),(5,.lf (.d tI))],[.box 31 [.row 2],.box 31 [.row 3],.row 157 Av,.row 157 Av]⟩,[(2,⟨[.boxRow 2 0 157 Av,.boxRow 4 0 157 Av],[(2,.lf (.ptr 0 0)),(4,.lf (.ptr 1 0))],[.box 31 [.row 2],.box 31 [.row 3],.row 157 Av,.row 157 Av]⟩),(1,⟨[.boxRow 2 0 157 Av],[(2,.lf (.ptr 0 0)),(3,.lf (.d .bool))],[.box 31 [.row 1],.row 157 Av]⟩)])]
noncomputable def co_spec_l6Fold_4:Code:=(As (Ba Tryz.f110)).getD 0 .skip
def Jg (v0:List ByteArray) (v5:Int) (r2:List Pr2) (r3:List Pr2):Nat:=((v0.length:Int) - v5).toNat + 1
noncomputable def Jh {R:Type}  (NX:((List ByteArray)×(Int)×(List Pr2)×(List Pr2)×Unit)→Option R) (X2:((List Pr2)×(List Pr2)×Unit)→Option R) (X1:((Bool)×(List Pr2)×Unit)→Option R) (v0:List ByteArray) (v5:Int) (r2:List Pr2) (r3:List Pr2):Option R:=
 bif decide (v5 < nI v0.length) then bif decide (0≤v5) then bif decide (v5 < nI v0.length) then bif !(Ds (v0.getD v5.toNat (ByteArray.mk #[]))).2 then X1 (false,[],()) else bif (Cw (r3,()) (Ds (v0.getD v5.toNat (ByteArray.mk #[]))).1).2 != 0 then X1 (false,[],()) else NX (v0,IntKind.i64.wrap (v5 + 1),r2,(Cw (r3,()) (Ds (v0.getD v5.toNat (ByteArray.mk #[]))).1).1) else none else none else X2 (r2,r3,())
noncomputable def Dt:Nat→(List ByteArray)→(Int)→(List Pr2)→(List Pr2) →  Option (((List Pr2)×(List Pr2)×Unit) ⊕ ((Bool)×(List Pr2)×Unit))
 | 0,_,_,_,_=>none
 | m + 1,v0,v5,r2,r3=>Jh  (fun d=>Dt m d.1 d.2.1 d.2.2.1 d.2.2.2.1) (fun d=>some (.inl (d))) (fun d=>some (.inr (d))) v0 v5 r2 r3
noncomputable def Sd (a0:List ByteArray):Option ((((List Pr2)×(Bool)×Unit)×(Unit))):=
 ((fun d=>Dt (Jg d.1 d.2.1 d.2.2.1 d.2.2.2.1) d.1 d.2.1 d.2.2.1 d.2.2.2.1) (a0,0,[],[],())).bind fun val=>Cj (fun d=>some ((d.2.1,true,()),())) (fun d=>some ((d.2.1,d.1,()),())) val
theorem Amr (a0:List ByteArray) r (h:Ly a0=some r):Sd a0=some ((r.1.1,r.2,()),(())):=by
 unfold Ly at h
 split at h
 rotate_left
 ·cases h
 rename_i hlen
 cases h
 unfold Sd Ax6
 have hL:=Aqc (xs:=a0) (g:=fun m i r=>Dt m a0 i [] r) (ok:=fun r=>.inl ([],r,())) (bad:=.inr (false,[],())) (fun m i r hi=>by
   show Dt (m + 1) a0 i [] r=_
   simp only [Dt,Jh]
   rw [W1 hi,H2,wI (show i < 4611686018427387904 by omega),Int.toNat_natCast]
   simp only [cond_true,Ds,Cw,Azd]
   rfl) (fun m r=>by
   show Dt (m + 1) a0 (a0.length:Int) [] r=_
   simp only [Dt,Jh]
   rw [Mm]
   rfl) (Jg a0 0 [] []) 0 [] (by omega) (by simp [Jg,nI])
 rw [List.drop_zero] at hL
 refine W5 hL ?_
 show Cj _ _ (match Oy a0 s5 with | some st=>_ | none=>_)=_
 cases Oy a0 s5<;>rfl
noncomputable def V2 {R:Type} (k:Kt R):=(Cj (I1 (pa_spec_l6Fold 4) (.exit 0) 2 k) (I1 (pa_spec_l6Fold 4) .ret 1 k))
noncomputable def w5 {R:Type}:Lt R pa_spec_l6Fold:=(Ed (pat:=pa_spec_l6Fold) 4 (fun d k=>(Dt (Jg d.1 d.2.1 d.2.2.1 d.2.2.2.1) d.1 d.2.1 d.2.2.1 d.2.2.2.1).bind (V2 k)) Hu)
theorem Z6:A2 Tryz.prog ta_spec_l6Fold:=A7 ⟨Ur,Ads,trivial⟩
theorem Agb {R:Type}:A3 Tryz.prog R 39 0 pa_spec_l6Fold w5 co_spec_l6Fold_4:=
 B3 (cfg:=⟨ta_spec_l6Fold,0,39,pa_spec_l6Fold⟩) 4 [] (fun NX X d=>Jh  NX (fun e=>X (.inl (e))) (fun e=>X (.inr (e))) d.1 d.2.1 d.2.2.1 d.2.2.2.1) (fun m d=>Dt m d.1 d.2.1 d.2.2.1 d.2.2.2.1) (fun d=>Jg d.1 d.2.1 d.2.2.1 d.2.2.2.1) V2 Z6 trivial (fun f NX d=>by unfold Jh; simp only [Al,Ar,Ak,Option.bind_assoc,Option.bind_none,Option.bind_some]) (fun _ _ _=>by kernel_rfl)
theorem Ams:B2 Tryz.prog 110 sd_spec_l6Fold:=
 A6 (pat:=pa_spec_l6Fold) [co_spec_l6Fold_4] w5 Z6 ⟨Agb,trivial⟩ Tryz.func110 (de:=fun x=>Sd x.1) (fun x r h=>Hv (Amr x.1) h) fun _=>by kernel_rfl
def Adt (a:Int) (d:ByteArray):Opn:=(false,a,d,())
def An9:Sig:=⟨[.rd tI,.rd .str],[none,none],[.rd Kg],[some 3]⟩
noncomputable def sd_spec_l6Put:SD:=⟨An9,fun x=>some (((Adt x.1 x.2.1),()),(()))⟩
noncomputable def w6 (a0:Int) (a1:ByteArray):Option (((Opn×Unit)×(Unit))):=
 some (((false,a0,a1,()),()),())
theorem Aoa (a0:Int) (a1:ByteArray):w6 a0 a1=some (((Adt a0 a1),()),(())):=rfl
theorem Us:B2 Tryz.prog 112 sd_spec_l6Put:=
 A6 (pat:=D3) [] Hu (A7 (l:=[]) trivial) trivial Tryz.func112 (de:=fun x=>w6 x.1 x.2.1) (fun x r h=>(Aoa x.1 x.2.1).trans h) fun _=>by kernel_rfl
def Mu (e:ByteArray) (life first w:Int):Option (List ByteArray):=if e.size≤1048576 then some (Ahz e life first w) else none
def Kf (v1 v2 v3:Int) (v10:List ByteArray) (v11:Int) (r0:List ByteArray):Nat:=(nI v10.length - v11).toNat + 1
def Aup:Sig:=⟨[.rd .str,.rd tI,.rd tI,.rd tI],[none,none,none,none],[.own 9 .str],[none]⟩
noncomputable def sd_spec_Cut:SD:=⟨Aup,fun x=>(Mu x.1 x.2.1 x.2.2.1 x.2.2.2.1).bind fun r=>some ((r,()),(()))⟩
noncomputable def ta_spec_Cut:Tb:=tb [(65,sd_spec_l1Width),(72,sd_spec_FormPage),(200,sd_spec_l3Parts)]
def pa_spec_Cut:Nat→Pat×(Nat→Pat):=Gf [(9,⟨[.row 9 0 9 .str,.sl 10 0 .str],[(1,.lf (.d tI)),(2,.lf (.d tI)),(3,.lf (.d tI)),(9,.lf (.row 0)),(10,.lf (.d (.sl .str))),(11,.lf (.d tI))],[.row 9 .str]⟩,[(2,⟨[.row 9 0 9 .str],[(9,.lf (.row 0))],[.row 9 .str]⟩)])]
noncomputable def co_spec_Cut_9:Code:=(As (Ba Tryz.f124)).getD 0 .skip
noncomputable def Lz {R:Type}  (NX:((Int)×(Int)×(Int)×(List ByteArray)×(Int)×(List ByteArray)×Unit)→Option R) (X2:((List ByteArray)×Unit)→Option R) (v1:Int) (v2:Int) (v3:Int) (v10:List ByteArray) (v11:Int) (r0:List ByteArray):Option R:=
 bif decide (v11 < nI v10.length) then bif v11==IntKind.i64.wrap (nI v10.length - 1) then bif decide (0≤v11) then bif decide (v11 < nI v10.length) then bif decide ((r0.length + [Cm (2,v1,IntKind.i64.wrap (v2 + v11),v10.getD v11.toNat (ByteArray.mk #[]),()) v3].length) * 16≤140737488355328) then NX (v1,v2,v3,v10,IntKind.i64.wrap (v11 + 1),r0++[Cm (2,v1,IntKind.i64.wrap (v2 + v11),v10.getD v11.toNat (ByteArray.mk #[]),()) v3],()) else none else none else none else bif decide (0≤v11) then bif decide (v11 < nI v10.length) then bif decide ((r0.length + [Cm (1,v1,IntKind.i64.wrap (v2 + v11),v10.getD v11.toNat (ByteArray.mk #[]),()) v3].length) * 16≤140737488355328) then NX (v1,v2,v3,v10,IntKind.i64.wrap (v11 + 1),r0++[Cm (1,v1,IntKind.i64.wrap (v2 + v11),v10.getD v11.toNat (ByteArray.mk #[]),()) v3],()) else none else none else none else X2 (r0,())
noncomputable def Ev:Nat→(Int)→(Int)→(Int)→(List ByteArray)→(Int)→(List ByteArray) →  Option ((List ByteArray)×Unit)
 | 0,_,_,_,_,_,_=>none
 | m + 1,v1,v2,v3,v10,v11,r0=>Lz  (fun d=>Ev m d.1 d.2.1 d.2.2.1 d.2.2.2.1 d.2.2.2.2.1 d.2.2.2.2.2.1) (fun d=>some (d)) v1 v2 v3 v10 v11 r0
noncomputable def Z7 (a0:ByteArray) (a1:Int) (a2:Int) (a3:Int):Option ((((List ByteArray)×Unit)×(Unit))):=
 (Bv a3).bind fun val=>bif !val.1.1 then some (([],()),()) else bif decide (a1 < 1) then some (([],()),()) else bif decide (a1 > 60000) then some (([],()),()) else bif decide (a2 < 1) then some (([],()),()) else bif decide (a2 > 1000000000) then some (([],()),()) else ((Ha a0 a3).bind fun val=>some ((val,()),())).bind fun val=>bif decide (nI (List.length val.1.1) > IntKind.i64.wrap (IntKind.i64.wrap (1000000000 - a2) + 1)) then some (([],()),()) else ((fun d=>Ev (Kf d.1 d.2.1 d.2.2.1 d.2.2.2.1 d.2.2.2.2.1 d.2.2.2.2.2.1) d.1 d.2.1 d.2.2.1 d.2.2.2.1 d.2.2.2.2.1 d.2.2.2.2.2.1) (a1,a2,a3,val.1.1,0,[],())).bind fun val=>some (val,())
theorem Auq (a0:ByteArray) (a1:Int) (a2:Int) (a3:Int) r (h:Mu a0 a1 a2 a3=some r):Z7 a0 a1 a2 a3=some ((r,()),(())):=by
 unfold Mu at h
 split at h
 rotate_left
 ·cases h
 rename_i hc
 cases h
 unfold Z7 Ahz
 refine l8 (wid a3) ?_
 rw [Ale a1]
 show (bif !Ch a3 1 8 then _ else (bif Ch a1 1 60000 then _ else _))=_
 cases hw:Ch a3 1 8 with
 | false=>rfl
 | true=>
  obtain ⟨k1,k2⟩:=Cy hw
  have hp:=W3 (s:=a0) hw
  have hP:Gw a0.size a3=((Bj a0 a3).length:Int):=by unfold Gw; rw [hw]; exact hp.symm
  have hlen:(Bj a0 a3).length≤a0.size + 1:=Ahf _ _ _
  have h1:1≤(Bj a0 a3).length:=by
   have:(1:Int)≤((Bj a0 a3).length:Int):=by rw [hp]; split<;>omega
   omega
  have n1:Ha a0 a3=some (Bj a0 a3):=if_pos ⟨by omega,k1,k2⟩
  rw [hP]
  cases hl:Ch a1 1 60000 with
  | false=>rfl
  | true=>
   by_cases q1:a2 < 1
   ·rw [decide_eq_true q1,decide_eq_false (show ¬ 1≤a2 by omega)]; rfl
   ·rw [decide_eq_false q1,decide_eq_true (show 1≤a2 by omega)]
    by_cases q0:a2 > 1000000000
    ·rw [decide_eq_true q0,decide_eq_false (show ¬ a2≤1000000000 - ((Bj a0 a3).length:Int) + 1 by omega)]; rfl
    ·rw [decide_eq_false q0]
     refine l8 (l8 n1 rfl) ?_
     show (bif decide (nI (Bj a0 a3).length > IntKind.i64.wrap (IntKind.i64.wrap (1000000000 - a2) + 1)) then _ else (Option.bind (Ev (Kf a1 a2 a3 (Bj a0 a3) 0 []) a1 a2 a3 (Bj a0 a3) 0 []) _))=_
     rw [Ag (n:=1000000000 - a2) (by omega) (by omega),Ag (n:=1000000000 - a2 + 1) (by omega) (by omega)]
     simp only [nI]
     by_cases q2:a2 > 1000000000 - ((Bj a0 a3).length:Int) + 1
     ·rw [decide_eq_true (show ((Bj a0 a3).length:Int) > 1000000000 - a2 + 1 by omega),decide_eq_false (show ¬ a2≤1000000000 - ((Bj a0 a3).length:Int) + 1 by omega)]; rfl
     ·rw [decide_eq_false (show ¬ ((Bj a0 a3).length:Int) > 1000000000 - a2 + 1 by omega),decide_eq_true (show a2≤1000000000 - ((Bj a0 a3).length:Int) + 1 by omega)]
      generalize Bj a0 a3=P at *
      have hL:=j8 P.length (fun i r=>r.length=i) (fun i r=>r++[Cx ((if i + 1=P.length then 2 else 1),a1,a2 + (i:Int),P.getD i z0,()) a3]) (g:=fun m i r=>Ev m a1 a2 a3 P i r) (ok:=fun r=>(r,())) (fun m i r hi hr=>by
       show Ev (m + 1) a1 a2 a3 P i r=_
       simp only [Ev,Lz]
       rw [W1 hi,H2,wI (show i < 4611686018427387904 by omega),Int.toNat_natCast,Ag (n:=a2 + (i:Int)) (by omega) (by omega),Ag (n:=nI P.length - 1) (by simp only [nI]; omega) (by simp only [nI]; omega),List.length_singleton,List.length_singleton,decide_eq_true (show (r.length + 1) * 16≤140737488355328 by omega)]
       by_cases e:i + 1=P.length
       ·rw [show ((i:Int)==nI P.length - 1)=true from beq_iff_eq.2 (by simp only [nI]; omega),if_pos e]; rfl
       ·rw [show ((i:Int)==nI P.length - 1)=false from beq_eq_false_iff_ne.2 (by simp only [nI]; omega),if_neg e]; rfl) (fun m r _=>by
       show Ev (m + 1) a1 a2 a3 P (P.length:Int) r=_
       simp only [Ev,Lz]
       rw [Mm]
       rfl) (fun i r hi hr=>by rw [List.length_append,List.length_singleton,hr]) P.length (Kf a1 a2 a3 P 0 []) 0 [] (by omega) (by simp only [Kf,nI]; omega) rfl
      rw [Ap0 (fun i=>Cx ((if i + 1=P.length then 2 else 1),a1,a2 + (i:Int),P.getD i z0,()) a3),List.nil_append,← Tm] at hL
      exact l8 hL rfl
noncomputable def w8 {R:Type} (k:Kt R):=(I1 (pa_spec_Cut 9) (.exit 0) 2 k)
noncomputable def Amt {R:Type}:Lt R pa_spec_Cut:=(Ed (pat:=pa_spec_Cut) 9 (fun d k=>(Ev (Kf d.1 d.2.1 d.2.2.1 d.2.2.2.1 d.2.2.2.2.1 d.2.2.2.2.2.1) d.1 d.2.1 d.2.2.1 d.2.2.2.1 d.2.2.2.2.1 d.2.2.2.2.2.1).bind (w8 k)) Hu)
theorem Ahp:A2 Tryz.prog ta_spec_Cut:=A7 ⟨Cz,Jc,Xq,trivial⟩
theorem Aob {R:Type}:A3 Tryz.prog R 71 0 pa_spec_Cut Amt co_spec_Cut_9:=
 B3 (cfg:=⟨ta_spec_Cut,0,71,pa_spec_Cut⟩) 9 [] (fun NX X d=>Lz  NX X d.1 d.2.1 d.2.2.1 d.2.2.2.1 d.2.2.2.2.1 d.2.2.2.2.2.1) (fun m d=>Ev m d.1 d.2.1 d.2.2.1 d.2.2.2.1 d.2.2.2.2.1 d.2.2.2.2.2.1) (fun d=>Kf d.1 d.2.1 d.2.2.1 d.2.2.2.1 d.2.2.2.2.1 d.2.2.2.2.2.1) w8 Ahp trivial (fun f NX d=>by unfold Lz; simp only [Al,Ar,Ak,Option.bind_assoc,Option.bind_none,Option.bind_some]) (fun _ _ _=>by kernel_rfl)
theorem Ahq:B2 Tryz.prog 124 sd_spec_Cut:=
 A6 (pat:=pa_spec_Cut) [co_spec_Cut_9] Amt Ahp ⟨Aob,trivial⟩ Tryz.func124 (de:=fun x=>Z7 x.1 x.2.1 x.2.2.1 x.2.2.2.1) (fun x r h=>Hv (Auq x.1 x.2.1 x.2.2.1 x.2.2.2.1) h) fun _=>by kernel_rfl
def Ip (s:Sto):Option Don:=if Arm s then some (To s) else none
def Amu:Sig:=⟨[.rd Ahx],[some 10],[.rd tI,.rd tI,.rd tI,.rd tI,.rd tI,.rd tI,.rd tI,.rd tI,.rd tI,.rd tI,.own 157 Av,.own 142 Kg],[some 12]⟩
noncomputable def sd_spec_l6Move:SD:=⟨Amu,fun x=>(Ip x.1).bind fun r=>some ((r.1,r.2.1.1,r.2.1.2.1,r.2.1.2.2.1,r.2.1.2.2.2.1.1,r.2.1.2.2.2.1.2.1,r.2.1.2.2.2.1.2.2.1,r.2.1.2.2.2.1.2.2.2.1,r.2.1.2.2.2.2.1,r.2.1.2.2.2.2.2.1,r.2.1.2.2.2.2.2.2.1.1,r.2.2.1,()),(()))⟩
noncomputable def ta_spec_l6Move:Tb:=tb [(40,sd_spec_Halves),(72,sd_spec_FormPage),(77,sd_spec_l4Copy),(109,sd_spec_l6Base),(112,sd_spec_l6Put),(124,sd_spec_Cut),(125,sd_spec_FormBatch),(126,sd_spec_Snapshot),(191,sd_spec_RootPage)]
def pa_spec_l6Move:Nat→Pat×(Nat→Pat):=Gf [(11,⟨[.row 6 0 142 Kg,.sl 7 0 (.sl D7),.boxSl 1 9 Av,.boxRow 2 10 157 Av,.boxRow 2 11 142 Kg],[(1,.lf (.ptr 0 0)),(2,.lf (.ptr 1 0)),(4,.lf (.ptr 2 0)),(5,.lf (.d tI)),(6,.lf (.row 3)),(7,.lf (.d (.sl (.sl D7)))),(8,.lf (.d tI)),(9,.lf (.d tI))],[.box 33 [.d tI,.d tI,.d tI,.d tI,.d tI,.d tI,.d tI,.d tI,.d tI,.d (.sl Av)],.box 68 [.d tI,.d tI,.d tI,.d tI,.d tI,.d tI,.d tI,.d tI,.d tI,.d tI,.row 4,.row 5],.box 28 [.d tI,.d tI,.d tI,.d tI],.row 142 Kg,.row 157 Av,.row 142 Kg]⟩,[(2,⟨[.row 6 0 142 Kg,.boxSl 1 9 Av,.boxRow 2 10 157 Av,.boxRow 2 11 142 Kg],[(1,.lf (.ptr 0 0)),(2,.lf (.ptr 1 0)),(4,.lf (.ptr 2 0)),(6,.lf (.row 3)),(8,.lf (.d tI))],[.box 33 [.d tI,.d tI,.d tI,.d tI,.d tI,.d tI,.d tI,.d tI,.d tI,.d (.sl Av)],.box 68 [.d tI,.d tI,.d tI,.d tI,.d tI,.d tI,.d tI,.d tI,.d tI,.d tI,.row 4,.row 5],.box 28 [.d tI,.d tI,.d tI,.d tI],.row 142 Kg,.row 157 Av,.row 142 Kg]⟩)]),(15,⟨[.row 6 0 142 Kg,.sl 7 0 (.sl D7),.sl 10 0 .str,.boxSl 1 9 Av,.boxRow 2 10 157 Av,.boxRow 2 11 142 Kg],[(1,.lf (.ptr 0 0)),(2,.lf (.ptr 1 0)),(4,.lf (.ptr 2 0)),(5,.lf (.d tI)),(6,.lf (.row 3)),(7,.lf (.d (.sl (.sl D7)))),(8,.lf (.d tI)),(9,.lf (.d tI)),(10,.lf (.d (.sl .str))),(11,.lf (.d tI))],[.box 33 [.d tI,.d tI,.d tI,.d tI,.d tI,.d tI,.d tI,.d tI,.d tI,.d (.sl Av)],.box 68 [.d tI,.d tI,.d tI,.d tI,.d tI,.d tI,.d tI,.d tI,.d tI,.d tI,.row 4,.row 5],.box 28 [.d tI,.d tI,.d tI,.d tI],.row 142 Kg,.row 157 Av,.row 142 Kg]⟩,[(4,⟨[.row 6 0 142 Kg,.sl 7 0 (.sl D7),.boxSl 1 9 Av,.boxRow 2 10 157 Av,.boxRow 2 11 142 Kg],[(1,.lf (.ptr 0 0)),(2,.lf (.ptr 1 0)),(4,.lf (.ptr 2 0)),(5,.lf (.d tI)),(6,.lf (.row 3)),(7,.lf (.d (.sl (.sl D7)))),(8,.lf (.d tI)),(9,.lf (.d tI))],[.box 33 [.d tI,.d tI,.d tI,.d tI,.d tI,.d tI,.d tI,.d tI,.d tI,.d (.sl Av)],.box 68 [.d tI,.d tI,.d tI,.d tI,.d tI,.d tI,.d tI,.d tI,.d tI,.d tI,.row 4,.row 5],.box 28 [.d tI,.d tI,.d tI,.d tI],.row 142 Kg,.row 157 Av,.row 142 Kg]⟩)])]
noncomputable def co_spec_l6Move_11:Code:=(As (Ba Tryz.f111)).getD 0 .skip
noncomputable def co_spec_l6Move_15:Code:=(As co_spec_l6Move_11).getD 0 .skip
def Ic (v5:Int) (v7:List (List Chg)) (v8:Int) (v9:Int) (v10:List ByteArray) (v11:Int) (b0_0:Int) (b0_1:Int) (b0_2:Int) (b0_3:Int) (b0_4:Int) (b0_5:Int) (b0_6:Int) (b0_7:Int) (b0_8:Int) (b0_9:List Pr2) (b1_0:Int) (b1_1:Int) (b1_2:Int) (b1_3:Int) (b1_4:Int) (b1_5:Int) (b1_6:Int) (b1_7:Int) (b1_8:Int) (b1_9:Int) (b2_0:Int) (b2_1:Int) (b2_2:Int) (b2_3:Int) (r3:List Opn) (r4:List Pr2) (r5:List Opn):Nat:=((v10.length:Int) - v11).toNat + 1
noncomputable def Ie {R:Type}  (NX:((Int)×(List (List Chg))×(Int)×(Int)×(List ByteArray)×(Int)×(Int)×(Int)×(Int)×(Int)×(Int)×(Int)×(Int)×(Int)×(Int)×(List Pr2)×(Int)×(Int)×(Int)×(Int)×(Int)×(Int)×(Int)×(Int)×(Int)×(Int)×(Int)×(Int)×(Int)×(Int)×(List Opn)×(List Pr2)×(List Opn)×Unit)→Option R) (X4:((Int)×(List (List Chg))×(Int)×(Int)×(Int)×(Int)×(Int)×(Int)×(Int)×(Int)×(Int)×(Int)×(Int)×(List Pr2)×(Int)×(Int)×(Int)×(Int)×(Int)×(Int)×(Int)×(Int)×(Int)×(Int)×(Int)×(Int)×(Int)×(Int)×(List Opn)×(List Pr2)×(List Opn)×Unit)→Option R) (v5:Int) (v7:List (List Chg)) (v8:Int) (v9:Int) (v10:List ByteArray) (v11:Int) (b0_0:Int) (b0_1:Int) (b0_2:Int) (b0_3:Int) (b0_4:Int) (b0_5:Int) (b0_6:Int) (b0_7:Int) (b0_8:Int) (b0_9:List Pr2) (b1_0:Int) (b1_1:Int) (b1_2:Int) (b1_3:Int) (b1_4:Int) (b1_5:Int) (b1_6:Int) (b1_7:Int) (b1_8:Int) (b1_9:Int) (b2_0:Int) (b2_1:Int) (b2_2:Int) (b2_3:Int) (r3:List Opn) (r4:List Pr2) (r5:List Opn):Option R:=
 bif decide (v11 < nI v10.length) then bif decide (0≤v11) then bif decide (v11 < nI v10.length) then bif decide ((r3.length + [(false,IntKind.i64.wrap (v5 + v8),v10.getD v11.toNat (ByteArray.mk #[]),())].length) * 32≤140737488355328) then NX (v5,v7,IntKind.i64.wrap (v8 + 1),v9,v10,IntKind.i64.wrap (v11 + 1),b0_0,b0_1,b0_2,b0_3,b0_4,b0_5,b0_6,b0_7,b0_8,b0_9,b1_0,b1_1,b1_2,b1_3,b1_4,b1_5,b1_6,b1_7,b1_8,b1_9,b2_0,b2_1,b2_2,b2_3,r3++[(false,IntKind.i64.wrap (v5 + v8),v10.getD v11.toNat (ByteArray.mk #[]),())],r4,r5,()) else none else none else none else X4 (v5,v7,v8,v9,b0_0,b0_1,b0_2,b0_3,b0_4,b0_5,b0_6,b0_7,b0_8,b0_9,b1_0,b1_1,b1_2,b1_3,b1_4,b1_5,b1_6,b1_7,b1_8,b1_9,b2_0,b2_1,b2_2,b2_3,r3,r4,r5,())
noncomputable def C8:Nat→(Int)→(List (List Chg))→(Int)→(Int)→(List ByteArray)→(Int)→(Int)→(Int)→(Int)→(Int)→(Int)→(Int)→(Int)→(Int)→(Int)→(List Pr2)→(Int)→(Int)→(Int)→(Int)→(Int)→(Int)→(Int)→(Int)→(Int)→(Int)→(Int)→(Int)→(Int)→(Int)→(List Opn)→(List Pr2)→(List Opn) →  Option ((Int)×(List (List Chg))×(Int)×(Int)×(Int)×(Int)×(Int)×(Int)×(Int)×(Int)×(Int)×(Int)×(Int)×(List Pr2)×(Int)×(Int)×(Int)×(Int)×(Int)×(Int)×(Int)×(Int)×(Int)×(Int)×(Int)×(Int)×(Int)×(Int)×(List Opn)×(List Pr2)×(List Opn)×Unit)
 | 0,_,_,_,_,_,_,_,_,_,_,_,_,_,_,_,_,_,_,_,_,_,_,_,_,_,_,_,_,_,_,_,_,_=>none
 | m + 1,v5,v7,v8,v9,v10,v11,b0_0,b0_1,b0_2,b0_3,b0_4,b0_5,b0_6,b0_7,b0_8,b0_9,b1_0,b1_1,b1_2,b1_3,b1_4,b1_5,b1_6,b1_7,b1_8,b1_9,b2_0,b2_1,b2_2,b2_3,r3,r4,r5=>Ie  (fun d=>C8 m d.1 d.2.1 d.2.2.1 d.2.2.2.1 d.2.2.2.2.1 d.2.2.2.2.2.1 d.2.2.2.2.2.2.1 d.2.2.2.2.2.2.2.1 d.2.2.2.2.2.2.2.2.1 d.2.2.2.2.2.2.2.2.2.1 d.2.2.2.2.2.2.2.2.2.2.1 d.2.2.2.2.2.2.2.2.2.2.2.1 d.2.2.2.2.2.2.2.2.2.2.2.2.1 d.2.2.2.2.2.2.2.2.2.2.2.2.2.1 d.2.2.2.2.2.2.2.2.2.2.2.2.2.2.1 d.2.2.2.2.2.2.2.2.2.2.2.2.2.2.2.1 d.2.2.2.2.2.2.2.2.2.2.2.2.2.2.2.2.1 d.2.2.2.2.2.2.2.2.2.2.2.2.2.2.2.2.2.1 d.2.2.2.2.2.2.2.2.2.2.2.2.2.2.2.2.2.2.1 d.2.2.2.2.2.2.2.2.2.2.2.2.2.2.2.2.2.2.2.1 d.2.2.2.2.2.2.2.2.2.2.2.2.2.2.2.2.2.2.2.2.1 d.2.2.2.2.2.2.2.2.2.2.2.2.2.2.2.2.2.2.2.2.2.1 d.2.2.2.2.2.2.2.2.2.2.2.2.2.2.2.2.2.2.2.2.2.2.1 d.2.2.2.2.2.2.2.2.2.2.2.2.2.2.2.2.2.2.2.2.2.2.2.1 d.2.2.2.2.2.2.2.2.2.2.2.2.2.2.2.2.2.2.2.2.2.2.2.2.1 d.2.2.2.2.2.2.2.2.2.2.2.2.2.2.2.2.2.2.2.2.2.2.2.2.2.1 d.2.2.2.2.2.2.2.2.2.2.2.2.2.2.2.2.2.2.2.2.2.2.2.2.2.2.1 d.2.2.2.2.2.2.2.2.2.2.2.2.2.2.2.2.2.2.2.2.2.2.2.2.2.2.2.1 d.2.2.2.2.2.2.2.2.2.2.2.2.2.2.2.2.2.2.2.2.2.2.2.2.2.2.2.2.1 d.2.2.2.2.2.2.2.2.2.2.2.2.2.2.2.2.2.2.2.2.2.2.2.2.2.2.2.2.2.1 d.2.2.2.2.2.2.2.2.2.2.2.2.2.2.2.2.2.2.2.2.2.2.2.2.2.2.2.2.2.2.1 d.2.2.2.2.2.2.2.2.2.2.2.2.2.2.2.2.2.2.2.2.2.2.2.2.2.2.2.2.2.2.2.1 d.2.2.2.2.2.2.2.2.2.2.2.2.2.2.2.2.2.2.2.2.2.2.2.2.2.2.2.2.2.2.2.2.1) (fun d=>some (d)) v5 v7 v8 v9 v10 v11 b0_0 b0_1 b0_2 b0_3 b0_4 b0_5 b0_6 b0_7 b0_8 b0_9 b1_0 b1_1 b1_2 b1_3 b1_4 b1_5 b1_6 b1_7 b1_8 b1_9 b2_0 b2_1 b2_2 b2_3 r3 r4 r5
noncomputable def If (d:(Int)×(List (List Chg))×(Int)×(Int)×(List ByteArray)×(Int)×(Int)×(Int)×(Int)×(Int)×(Int)×(Int)×(Int)×(Int)×(Int)×(List Pr2)×(Int)×(Int)×(Int)×(Int)×(Int)×(Int)×(Int)×(Int)×(Int)×(Int)×(Int)×(Int)×(Int)×(Int)×(List Opn)×(List Pr2)×(List Opn)×Unit):Option ((Int)×(List (List Chg))×(Int)×(Int)×(Int)×(Int)×(Int)×(Int)×(Int)×(Int)×(Int)×(Int)×(Int)×(List Pr2)×(Int)×(Int)×(Int)×(Int)×(Int)×(Int)×(Int)×(Int)×(Int)×(Int)×(Int)×(Int)×(Int)×(Int)×(List Opn)×(List Pr2)×(List Opn)×Unit):=C8 (Ic d.1 d.2.1 d.2.2.1 d.2.2.2.1 d.2.2.2.2.1 d.2.2.2.2.2.1 d.2.2.2.2.2.2.1 d.2.2.2.2.2.2.2.1 d.2.2.2.2.2.2.2.2.1 d.2.2.2.2.2.2.2.2.2.1 d.2.2.2.2.2.2.2.2.2.2.1 d.2.2.2.2.2.2.2.2.2.2.2.1 d.2.2.2.2.2.2.2.2.2.2.2.2.1 d.2.2.2.2.2.2.2.2.2.2.2.2.2.1 d.2.2.2.2.2.2.2.2.2.2.2.2.2.2.1 d.2.2.2.2.2.2.2.2.2.2.2.2.2.2.2.1 d.2.2.2.2.2.2.2.2.2.2.2.2.2.2.2.2.1 d.2.2.2.2.2.2.2.2.2.2.2.2.2.2.2.2.2.1 d.2.2.2.2.2.2.2.2.2.2.2.2.2.2.2.2.2.2.1 d.2.2.2.2.2.2.2.2.2.2.2.2.2.2.2.2.2.2.2.1 d.2.2.2.2.2.2.2.2.2.2.2.2.2.2.2.2.2.2.2.2.1 d.2.2.2.2.2.2.2.2.2.2.2.2.2.2.2.2.2.2.2.2.2.1 d.2.2.2.2.2.2.2.2.2.2.2.2.2.2.2.2.2.2.2.2.2.2.1 d.2.2.2.2.2.2.2.2.2.2.2.2.2.2.2.2.2.2.2.2.2.2.2.1 d.2.2.2.2.2.2.2.2.2.2.2.2.2.2.2.2.2.2.2.2.2.2.2.2.1 d.2.2.2.2.2.2.2.2.2.2.2.2.2.2.2.2.2.2.2.2.2.2.2.2.2.1 d.2.2.2.2.2.2.2.2.2.2.2.2.2.2.2.2.2.2.2.2.2.2.2.2.2.2.1 d.2.2.2.2.2.2.2.2.2.2.2.2.2.2.2.2.2.2.2.2.2.2.2.2.2.2.2.1 d.2.2.2.2.2.2.2.2.2.2.2.2.2.2.2.2.2.2.2.2.2.2.2.2.2.2.2.2.1 d.2.2.2.2.2.2.2.2.2.2.2.2.2.2.2.2.2.2.2.2.2.2.2.2.2.2.2.2.2.1 d.2.2.2.2.2.2.2.2.2.2.2.2.2.2.2.2.2.2.2.2.2.2.2.2.2.2.2.2.2.2.1 d.2.2.2.2.2.2.2.2.2.2.2.2.2.2.2.2.2.2.2.2.2.2.2.2.2.2.2.2.2.2.2.1 d.2.2.2.2.2.2.2.2.2.2.2.2.2.2.2.2.2.2.2.2.2.2.2.2.2.2.2.2.2.2.2.2.1) d.1 d.2.1 d.2.2.1 d.2.2.2.1 d.2.2.2.2.1 d.2.2.2.2.2.1 d.2.2.2.2.2.2.1 d.2.2.2.2.2.2.2.1 d.2.2.2.2.2.2.2.2.1 d.2.2.2.2.2.2.2.2.2.1 d.2.2.2.2.2.2.2.2.2.2.1 d.2.2.2.2.2.2.2.2.2.2.2.1 d.2.2.2.2.2.2.2.2.2.2.2.2.1 d.2.2.2.2.2.2.2.2.2.2.2.2.2.1 d.2.2.2.2.2.2.2.2.2.2.2.2.2.2.1 d.2.2.2.2.2.2.2.2.2.2.2.2.2.2.2.1 d.2.2.2.2.2.2.2.2.2.2.2.2.2.2.2.2.1 d.2.2.2.2.2.2.2.2.2.2.2.2.2.2.2.2.2.1 d.2.2.2.2.2.2.2.2.2.2.2.2.2.2.2.2.2.2.1 d.2.2.2.2.2.2.2.2.2.2.2.2.2.2.2.2.2.2.2.1 d.2.2.2.2.2.2.2.2.2.2.2.2.2.2.2.2.2.2.2.2.1 d.2.2.2.2.2.2.2.2.2.2.2.2.2.2.2.2.2.2.2.2.2.1 d.2.2.2.2.2.2.2.2.2.2.2.2.2.2.2.2.2.2.2.2.2.2.1 d.2.2.2.2.2.2.2.2.2.2.2.2.2.2.2.2.2.2.2.2.2.2.2.1 d.2.2.2.2.2.2.2.2.2.2.2.2.2.2.2.2.2.2.2.2.2.2.2.2.1 d.2.2.2.2.2.2.2.2.2.2.2.2.2.2.2.2.2.2.2.2.2.2.2.2.2.1 d.2.2.2.2.2.2.2.2.2.2.2.2.2.2.2.2.2.2.2.2.2.2.2.2.2.2.1 d.2.2.2.2.2.2.2.2.2.2.2.2.2.2.2.2.2.2.2.2.2.2.2.2.2.2.2.1 d.2.2.2.2.2.2.2.2.2.2.2.2.2.2.2.2.2.2.2.2.2.2.2.2.2.2.2.2.1 d.2.2.2.2.2.2.2.2.2.2.2.2.2.2.2.2.2.2.2.2.2.2.2.2.2.2.2.2.2.1 d.2.2.2.2.2.2.2.2.2.2.2.2.2.2.2.2.2.2.2.2.2.2.2.2.2.2.2.2.2.2.1 d.2.2.2.2.2.2.2.2.2.2.2.2.2.2.2.2.2.2.2.2.2.2.2.2.2.2.2.2.2.2.2.1 d.2.2.2.2.2.2.2.2.2.2.2.2.2.2.2.2.2.2.2.2.2.2.2.2.2.2.2.2.2.2.2.2.1
def Ga (v5:Int) (v7:List (List Chg)) (v8:Int) (v9:Int) (b0_0:Int) (b0_1:Int) (b0_2:Int) (b0_3:Int) (b0_4:Int) (b0_5:Int) (b0_6:Int) (b0_7:Int) (b0_8:Int) (b0_9:List Pr2) (b1_0:Int) (b1_1:Int) (b1_2:Int) (b1_3:Int) (b1_4:Int) (b1_5:Int) (b1_6:Int) (b1_7:Int) (b1_8:Int) (b1_9:Int) (b2_0:Int) (b2_1:Int) (b2_2:Int) (b2_3:Int) (r3:List Opn) (r4:List Pr2) (r5:List Opn):Nat:=((v7.length:Int) - v9).toNat + 1
noncomputable def Ig {R:Type} (LO15:((Int)×(List (List Chg))×(Int)×(Int)×(List ByteArray)×(Int)×(Int)×(Int)×(Int)×(Int)×(Int)×(Int)×(Int)×(Int)×(Int)×(List Pr2)×(Int)×(Int)×(Int)×(Int)×(Int)×(Int)×(Int)×(Int)×(Int)×(Int)×(Int)×(Int)×(Int)×(Int)×(List Opn)×(List Pr2)×(List Opn)×Unit)→Option ((Int)×(List (List Chg))×(Int)×(Int)×(Int)×(Int)×(Int)×(Int)×(Int)×(Int)×(Int)×(Int)×(Int)×(List Pr2)×(Int)×(Int)×(Int)×(Int)×(Int)×(Int)×(Int)×(Int)×(Int)×(Int)×(Int)×(Int)×(Int)×(Int)×(List Opn)×(List Pr2)×(List Opn)×Unit)) (NX:((Int)×(List (List Chg))×(Int)×(Int)×(Int)×(Int)×(Int)×(Int)×(Int)×(Int)×(Int)×(Int)×(Int)×(List Pr2)×(Int)×(Int)×(Int)×(Int)×(Int)×(Int)×(Int)×(Int)×(Int)×(Int)×(Int)×(Int)×(Int)×(Int)×(List Opn)×(List Pr2)×(List Opn)×Unit)→Option R) (X2:((Int)×(Int)×(Int)×(Int)×(Int)×(Int)×(Int)×(Int)×(Int)×(Int)×(List Pr2)×(Int)×(Int)×(Int)×(Int)×(Int)×(Int)×(Int)×(Int)×(Int)×(Int)×(Int)×(Int)×(Int)×(Int)×(List Opn)×(List Pr2)×(List Opn)×Unit)→Option R) (v5:Int) (v7:List (List Chg)) (v8:Int) (v9:Int) (b0_0:Int) (b0_1:Int) (b0_2:Int) (b0_3:Int) (b0_4:Int) (b0_5:Int) (b0_6:Int) (b0_7:Int) (b0_8:Int) (b0_9:List Pr2) (b1_0:Int) (b1_1:Int) (b1_2:Int) (b1_3:Int) (b1_4:Int) (b1_5:Int) (b1_6:Int) (b1_7:Int) (b1_8:Int) (b1_9:Int) (b2_0:Int) (b2_1:Int) (b2_2:Int) (b2_3:Int) (r3:List Opn) (r4:List Pr2) (r5:List Opn):Option R:=
 bif decide (v9 < nI v7.length) then bif decide (0≤v9) then bif decide (v9 < nI v7.length) then ((Mu (C2 (v7.getD v9.toNat [])) b0_2 (IntKind.i64.wrap (b2_2 + v8)) b0_0).bind fun val=>some ((val,()),())).bind fun val=>(LO15 (v5,v7,v8,v9,val.1.1,0,b0_0,b0_1,b0_2,b0_3,b0_4,b0_5,b0_6,b0_7,b0_8,b0_9,b1_0,b1_1,b1_2,b1_3,b1_4,b1_5,b1_6,b1_7,b1_8,b1_9,b2_0,b2_1,b2_2,b2_3,r3,r4,r5,())).bind fun val=>NX (val.1,val.2.1,val.2.2.1,IntKind.i64.wrap (val.2.2.2.1 + 1),val.2.2.2.2) else none else none else X2 (v8,b0_0,b0_1,b0_2,b0_3,b0_4,b0_5,b0_6,b0_7,b0_8,b0_9,b1_0,b1_1,b1_2,b1_3,b1_4,b1_5,b1_6,b1_7,b1_8,b1_9,b2_0,b2_1,b2_2,b2_3,r3,r4,r5,())
noncomputable def Cs:Nat→(Int)→(List (List Chg))→(Int)→(Int)→(Int)→(Int)→(Int)→(Int)→(Int)→(Int)→(Int)→(Int)→(Int)→(List Pr2)→(Int)→(Int)→(Int)→(Int)→(Int)→(Int)→(Int)→(Int)→(Int)→(Int)→(Int)→(Int)→(Int)→(Int)→(List Opn)→(List Pr2)→(List Opn) →  Option ((Int)×(Int)×(Int)×(Int)×(Int)×(Int)×(Int)×(Int)×(Int)×(Int)×(List Pr2)×(Int)×(Int)×(Int)×(Int)×(Int)×(Int)×(Int)×(Int)×(Int)×(Int)×(Int)×(Int)×(Int)×(Int)×(List Opn)×(List Pr2)×(List Opn)×Unit)
 | 0,_,_,_,_,_,_,_,_,_,_,_,_,_,_,_,_,_,_,_,_,_,_,_,_,_,_,_,_,_,_,_=>none
 | m + 1,v5,v7,v8,v9,b0_0,b0_1,b0_2,b0_3,b0_4,b0_5,b0_6,b0_7,b0_8,b0_9,b1_0,b1_1,b1_2,b1_3,b1_4,b1_5,b1_6,b1_7,b1_8,b1_9,b2_0,b2_1,b2_2,b2_3,r3,r4,r5=>Ig If (fun d=>Cs m d.1 d.2.1 d.2.2.1 d.2.2.2.1 d.2.2.2.2.1 d.2.2.2.2.2.1 d.2.2.2.2.2.2.1 d.2.2.2.2.2.2.2.1 d.2.2.2.2.2.2.2.2.1 d.2.2.2.2.2.2.2.2.2.1 d.2.2.2.2.2.2.2.2.2.2.1 d.2.2.2.2.2.2.2.2.2.2.2.1 d.2.2.2.2.2.2.2.2.2.2.2.2.1 d.2.2.2.2.2.2.2.2.2.2.2.2.2.1 d.2.2.2.2.2.2.2.2.2.2.2.2.2.2.1 d.2.2.2.2.2.2.2.2.2.2.2.2.2.2.2.1 d.2.2.2.2.2.2.2.2.2.2.2.2.2.2.2.2.1 d.2.2.2.2.2.2.2.2.2.2.2.2.2.2.2.2.2.1 d.2.2.2.2.2.2.2.2.2.2.2.2.2.2.2.2.2.2.1 d.2.2.2.2.2.2.2.2.2.2.2.2.2.2.2.2.2.2.2.1 d.2.2.2.2.2.2.2.2.2.2.2.2.2.2.2.2.2.2.2.2.1 d.2.2.2.2.2.2.2.2.2.2.2.2.2.2.2.2.2.2.2.2.2.1 d.2.2.2.2.2.2.2.2.2.2.2.2.2.2.2.2.2.2.2.2.2.2.1 d.2.2.2.2.2.2.2.2.2.2.2.2.2.2.2.2.2.2.2.2.2.2.2.1 d.2.2.2.2.2.2.2.2.2.2.2.2.2.2.2.2.2.2.2.2.2.2.2.2.1 d.2.2.2.2.2.2.2.2.2.2.2.2.2.2.2.2.2.2.2.2.2.2.2.2.2.1 d.2.2.2.2.2.2.2.2.2.2.2.2.2.2.2.2.2.2.2.2.2.2.2.2.2.2.1 d.2.2.2.2.2.2.2.2.2.2.2.2.2.2.2.2.2.2.2.2.2.2.2.2.2.2.2.1 d.2.2.2.2.2.2.2.2.2.2.2.2.2.2.2.2.2.2.2.2.2.2.2.2.2.2.2.2.1 d.2.2.2.2.2.2.2.2.2.2.2.2.2.2.2.2.2.2.2.2.2.2.2.2.2.2.2.2.2.1 d.2.2.2.2.2.2.2.2.2.2.2.2.2.2.2.2.2.2.2.2.2.2.2.2.2.2.2.2.2.2.1) (fun d=>some (d)) v5 v7 v8 v9 b0_0 b0_1 b0_2 b0_3 b0_4 b0_5 b0_6 b0_7 b0_8 b0_9 b1_0 b1_1 b1_2 b1_3 b1_4 b1_5 b1_6 b1_7 b1_8 b1_9 b2_0 b2_1 b2_2 b2_3 r3 r4 r5
noncomputable def Se (a0:Sto):Option ((((Int)×(Int)×(Int)×(Int)×(Int)×(Int)×(Int)×(Int)×(Int)×(Int)×(List Pr2)×(List Opn)×Unit)×(Unit))):=
 bif decide (IntKind.i64.wrap (a0.2.2.2.1.1 + 1) > 1000000000) then some ((4,0,0,0,0,0,0,0,0,0,[],[],()),()) else bif decide (IntKind.i64.wrap (a0.2.2.2.1.2.2.1 + Ap a0.2.1) > 999999000) then some ((4,0,0,0,0,0,0,0,0,0,[],[],()),()) else ((fun d=>Cs (Ga d.1 d.2.1 d.2.2.1 d.2.2.2.1 d.2.2.2.2.1 d.2.2.2.2.2.1 d.2.2.2.2.2.2.1 d.2.2.2.2.2.2.2.1 d.2.2.2.2.2.2.2.2.1 d.2.2.2.2.2.2.2.2.2.1 d.2.2.2.2.2.2.2.2.2.2.1 d.2.2.2.2.2.2.2.2.2.2.2.1 d.2.2.2.2.2.2.2.2.2.2.2.2.1 d.2.2.2.2.2.2.2.2.2.2.2.2.2.1 d.2.2.2.2.2.2.2.2.2.2.2.2.2.2.1 d.2.2.2.2.2.2.2.2.2.2.2.2.2.2.2.1 d.2.2.2.2.2.2.2.2.2.2.2.2.2.2.2.2.1 d.2.2.2.2.2.2.2.2.2.2.2.2.2.2.2.2.2.1 d.2.2.2.2.2.2.2.2.2.2.2.2.2.2.2.2.2.2.1 d.2.2.2.2.2.2.2.2.2.2.2.2.2.2.2.2.2.2.2.1 d.2.2.2.2.2.2.2.2.2.2.2.2.2.2.2.2.2.2.2.2.1 d.2.2.2.2.2.2.2.2.2.2.2.2.2.2.2.2.2.2.2.2.2.1 d.2.2.2.2.2.2.2.2.2.2.2.2.2.2.2.2.2.2.2.2.2.2.1 d.2.2.2.2.2.2.2.2.2.2.2.2.2.2.2.2.2.2.2.2.2.2.2.1 d.2.2.2.2.2.2.2.2.2.2.2.2.2.2.2.2.2.2.2.2.2.2.2.2.1 d.2.2.2.2.2.2.2.2.2.2.2.2.2.2.2.2.2.2.2.2.2.2.2.2.2.1 d.2.2.2.2.2.2.2.2.2.2.2.2.2.2.2.2.2.2.2.2.2.2.2.2.2.2.1 d.2.2.2.2.2.2.2.2.2.2.2.2.2.2.2.2.2.2.2.2.2.2.2.2.2.2.2.1 d.2.2.2.2.2.2.2.2.2.2.2.2.2.2.2.2.2.2.2.2.2.2.2.2.2.2.2.2.1 d.2.2.2.2.2.2.2.2.2.2.2.2.2.2.2.2.2.2.2.2.2.2.2.2.2.2.2.2.2.1 d.2.2.2.2.2.2.2.2.2.2.2.2.2.2.2.2.2.2.2.2.2.2.2.2.2.2.2.2.2.2.1) d.1 d.2.1 d.2.2.1 d.2.2.2.1 d.2.2.2.2.1 d.2.2.2.2.2.1 d.2.2.2.2.2.2.1 d.2.2.2.2.2.2.2.1 d.2.2.2.2.2.2.2.2.1 d.2.2.2.2.2.2.2.2.2.1 d.2.2.2.2.2.2.2.2.2.2.1 d.2.2.2.2.2.2.2.2.2.2.2.1 d.2.2.2.2.2.2.2.2.2.2.2.2.1 d.2.2.2.2.2.2.2.2.2.2.2.2.2.1 d.2.2.2.2.2.2.2.2.2.2.2.2.2.2.1 d.2.2.2.2.2.2.2.2.2.2.2.2.2.2.2.1 d.2.2.2.2.2.2.2.2.2.2.2.2.2.2.2.2.1 d.2.2.2.2.2.2.2.2.2.2.2.2.2.2.2.2.2.1 d.2.2.2.2.2.2.2.2.2.2.2.2.2.2.2.2.2.2.1 d.2.2.2.2.2.2.2.2.2.2.2.2.2.2.2.2.2.2.2.1 d.2.2.2.2.2.2.2.2.2.2.2.2.2.2.2.2.2.2.2.2.1 d.2.2.2.2.2.2.2.2.2.2.2.2.2.2.2.2.2.2.2.2.2.1 d.2.2.2.2.2.2.2.2.2.2.2.2.2.2.2.2.2.2.2.2.2.2.1 d.2.2.2.2.2.2.2.2.2.2.2.2.2.2.2.2.2.2.2.2.2.2.2.1 d.2.2.2.2.2.2.2.2.2.2.2.2.2.2.2.2.2.2.2.2.2.2.2.2.1 d.2.2.2.2.2.2.2.2.2.2.2.2.2.2.2.2.2.2.2.2.2.2.2.2.2.1 d.2.2.2.2.2.2.2.2.2.2.2.2.2.2.2.2.2.2.2.2.2.2.2.2.2.2.1 d.2.2.2.2.2.2.2.2.2.2.2.2.2.2.2.2.2.2.2.2.2.2.2.2.2.2.2.1 d.2.2.2.2.2.2.2.2.2.2.2.2.2.2.2.2.2.2.2.2.2.2.2.2.2.2.2.2.1 d.2.2.2.2.2.2.2.2.2.2.2.2.2.2.2.2.2.2.2.2.2.2.2.2.2.2.2.2.2.1 d.2.2.2.2.2.2.2.2.2.2.2.2.2.2.2.2.2.2.2.2.2.2.2.2.2.2.2.2.2.2.1) (Bd a0.2.1 (IntKind.i64.wrap (1 - a0.2.2.2.1.2.1)),H4 a0.2.2.2.2.2.2.1,1,0,a0.1,a0.2.1,a0.2.2.1,a0.2.2.2.1.1,a0.2.2.2.1.2.1,a0.2.2.2.1.2.2.1,a0.2.2.2.1.2.2.2.1,a0.2.2.2.2.1,a0.2.2.2.2.2.1,a0.2.2.2.2.2.2.1.1,0,0,0,0,0,0,0,0,0,0,IntKind.i64.wrap (a0.2.2.2.1.1 + 1),IntKind.i64.wrap (1 - a0.2.2.2.1.2.1),IntKind.i64.wrap (a0.2.2.2.1.2.2.1 + Ap a0.2.1),a0.2.2.1,[(false,Bd a0.2.1 (IntKind.i64.wrap (1 - a0.2.2.2.1.2.1)),Cm (3,a0.2.2.1,IntKind.i64.wrap (a0.2.2.2.1.2.2.1 + Ap a0.2.1),ByteArray.mk #[],()) a0.1,())],[],[],())).bind fun val=>bif decide ((val.2.2.2.2.2.2.2.2.2.2.2.2.2.2.2.2.2.2.2.2.2.2.2.2.2.1.length + [(true,0,ByteArray.mk #[],()),(false,Int.tmod val.2.2.2.2.2.2.2.2.2.2.2.2.2.2.2.2.2.2.2.2.2.1 2,Gj (val.2.2.2.2.2.2.2.2.2.2.2.2.2.2.2.2.2.2.2.2.2.1,val.2.2.2.2.2.2.2.2.2.2.2.2.2.2.2.2.2.2.2.2.2.2.1,val.2.2.2.2.2.2.2.2.2.2.2.2.2.2.2.2.2.2.2.2.2.2.2.1,val.2.2.2.2.2.2.2.2.2.2.2.2.2.2.2.2.2.2.2.2.2.2.2.2.1,()) val.2.1,()),(true,0,ByteArray.mk #[],())].length) * 32≤140737488355328) then ((C1 (val.2.2.2.2.2.2.2.2.2.2.1,())).bind fun val=>some (val,())).bind fun val_1=>some ((0,val.2.1,val.2.2.1,val.2.2.2.1,val.2.2.2.2.2.2.2.2.2.2.2.2.2.2.2.2.2.2.2.2.2.1,val.2.2.2.2.2.2.2.2.2.2.2.2.2.2.2.2.2.2.2.2.2.2.1,val.2.2.2.2.2.2.2.2.2.2.2.2.2.2.2.2.2.2.2.2.2.2.2.1,val.2.2.2.2.2.2.2.2.2.2.2.2.2.2.2.2.2.2.2.2.2.2.2.2.1,val.1,0,val_1.1.1,val.2.2.2.2.2.2.2.2.2.2.2.2.2.2.2.2.2.2.2.2.2.2.2.2.2.1++[(true,0,ByteArray.mk #[],()),(false,Int.tmod val.2.2.2.2.2.2.2.2.2.2.2.2.2.2.2.2.2.2.2.2.2.1 2,Gj (val.2.2.2.2.2.2.2.2.2.2.2.2.2.2.2.2.2.2.2.2.2.1,val.2.2.2.2.2.2.2.2.2.2.2.2.2.2.2.2.2.2.2.2.2.2.1,val.2.2.2.2.2.2.2.2.2.2.2.2.2.2.2.2.2.2.2.2.2.2.2.1,val.2.2.2.2.2.2.2.2.2.2.2.2.2.2.2.2.2.2.2.2.2.2.2.2.1,()) val.2.1,()),(true,0,ByteArray.mk #[],())],()),()) else none
theorem Aur (b0 b1 b2 b3 b4 b5 b6 b7 b8 T H F l:Int) (b9:List Pr2) (S:List (List Chg)) (v9:Int) (L0 P:List ByteArray) (hH:0≤H∧H≤1) (hL0:L0.length≤500000) (hP:P.length≤4001):
  C8 (Ic (Bx H b1) S (nI L0.length) v9 P 0 b0 b1 b2 b3 b4 b5 b6 b7 b8 b9 0 0 0 0 0 0 0 0 0 0 T H F l (F5 (Bx H b1) L0) [] []) (Bx H b1) S (nI L0.length) v9 P 0 b0 b1 b2 b3 b4 b5 b6 b7 b8 b9 0 0 0 0 0 0 0 0 0 0 T H F l (F5 (Bx H b1) L0) [] []=some (Bx H b1,S,nI (L0++P).length,v9,b0,b1,b2,b3,b4,b5,b6,b7,b8,b9,0,0,0,0,0,0,0,0,0,0,T,H,F,l,F5 (Bx H b1) (L0++P),[],[],()):=by
 have hm:=Ajt (n:=b1) hH
 have hB:0≤Bx H b1∧Bx H b1≤101:=by unfold Bx; omega
 have hL:=Gi (xs:=P) z0 (fun i (L:List ByteArray)=>i≤4001∧L.length=L0.length + i) (fun (_:Nat) x L=>L++[x]) (g:=fun m i L=>C8 m (Bx H b1) S (nI L.length) v9 P i b0 b1 b2 b3 b4 b5 b6 b7 b8 b9 0 0 0 0 0 0 0 0 0 0 T H F l (F5 (Bx H b1) L) [] []) (ok:=fun L=>(Bx H b1,S,nI L.length,v9,b0,b1,b2,b3,b4,b5,b6,b7,b8,b9,0,0,0,0,0,0,0,0,0,0,T,H,F,l,F5 (Bx H b1) L,[],[],())) (fun m i L hi hI=>by
   show C8 (m + 1) (Bx H b1) S (nI L.length) v9 P i b0 b1 b2 b3 b4 b5 b6 b7 b8 b9 0 0 0 0 0 0 0 0 0 0 T H F l (F5 (Bx H b1) L) [] []=_
   simp only [C8,Ie]
   obtain ⟨h1,h2⟩:=hI
   have e1:IntKind.i64.wrap (nI L.length + 1)=nI (L.length + 1):=wI (show L.length < 4611686018427387904 by omega)
   have e2:IntKind.i64.wrap (Bx H b1 + nI L.length)=Bx H b1 + (L.length:Int):=by simp only [nI]; exact Ag (by omega) (by omega)
   rw [W1 hi,H2,wI (show i < 4611686018427387904 by omega),Int.toNat_natCast,e1,e2,List.length_singleton,Vi,decide_eq_true (show (L.length + 1) * 32≤140737488355328 by omega),Ap2,List.length_append,List.length_singleton]
   rfl) (fun i L hi hI=>⟨by omega,by rw [List.length_append,List.length_singleton,hI.2]; omega⟩) (fun m L hI=>by
   show C8 (m + 1) (Bx H b1) S (nI L.length) v9 P (P.length:Int) b0 b1 b2 b3 b4 b5 b6 b7 b8 b9 0 0 0 0 0 0 0 0 0 0 T H F l (F5 (Bx H b1) L) [] []=_
   simp only [C8,Ie]
   rw [Mm]
   rfl) (Ic (Bx H b1) S (nI L0.length) v9 P 0 b0 b1 b2 b3 b4 b5 b6 b7 b8 b9 0 0 0 0 0 0 0 0 0 0 T H F l (F5 (Bx H b1) L0) [] []) 0 L0 (by omega) (by simp [Ic,nI]) ⟨by omega,rfl⟩
 rw [All,List.drop_zero] at hL
 exact hL
theorem Aus (b0 b1 b2 b3 b4 b5 b6 b7 b8 T H F l:Int) (b9:List Pr2) (S:List (List Chg)) (L:List ByteArray) (hS:S.length≤101) (hH:0≤H∧H≤1) (hF:0≤F∧F≤1000000099) (hL:L.length≤1):
  Cs (Ga (Bx H b1) S (nI L.length) 0 b0 b1 b2 b3 b4 b5 b6 b7 b8 b9 0 0 0 0 0 0 0 0 0 0 T H F l (F5 (Bx H b1) L) [] []) (Bx H b1) S (nI L.length) 0 b0 b1 b2 b3 b4 b5 b6 b7 b8 b9 0 0 0 0 0 0 0 0 0 0 T H F l (F5 (Bx H b1) L) [] []=some (nI (F3 (fun _ b L=>W6 b0 b2 F b L) 0 S L).length,b0,b1,b2,b3,b4,b5,b6,b7,b8,b9,0,0,0,0,0,0,0,0,0,0,T,H,F,l,F5 (Bx H b1) (F3 (fun _ b L=>W6 b0 b2 F b L) 0 S L),[],[],()):=by
 have hL:=Gi (xs:=S) [] MvI (fun _ b L=>W6 b0 b2 F b L) (g:=fun m i L=>Cs m (Bx H b1) S (nI L.length) i b0 b1 b2 b3 b4 b5 b6 b7 b8 b9 0 0 0 0 0 0 0 0 0 0 T H F l (F5 (Bx H b1) L) [] []) (ok:=fun L=>(nI L.length,b0,b1,b2,b3,b4,b5,b6,b7,b8,b9,0,0,0,0,0,0,0,0,0,0,T,H,F,l,F5 (Bx H b1) L,[],[],())) (fun m i L hi hI=>by
   show Cs (m + 1) (Bx H b1) S (nI L.length) i b0 b1 b2 b3 b4 b5 b6 b7 b8 b9 0 0 0 0 0 0 0 0 0 0 T H F l (F5 (Bx H b1) L) [] []=_
   simp only [Cs,Ig,If]
   obtain ⟨h1,h2⟩:=hI
   rw [W1 hi,H2,Int.toNat_natCast]
   have e0:IntKind.i64.wrap (F + nI L.length)=F + (L.length:Int):=by simp only [nI]; exact Ag (by omega) (by omega)
   have e1:Mu (C2 (List.getD S i [])) b2 (F + (L.length:Int)) b0=some (Ahz (Ee (List.getD S i [])) b2 (F + (L.length:Int)) b0):=if_pos (Nat.le_trans (Kx _) (by decide))
   rw [e0,e1]
   simp only [cond_true,Option.bind_some]
   refine W5 (Aur b0 b1 b2 b3 b4 b5 b6 b7 b8 T H F l b9 S (i:Int) L (Ahz (Ee (List.getD S i [])) b2 (F + (L.length:Int)) b0) hH (by omega) (Ajs _ _ _ _)) ?_
   dsimp only
   rw [wI (show i < 4611686018427387904 by omega)]
   rfl) (fun i L hi hI=>hI.step (by omega) _ _ _ _) (fun m L hI=>by
   show Cs (m + 1) (Bx H b1) S (nI L.length) (S.length:Int) b0 b1 b2 b3 b4 b5 b6 b7 b8 b9 0 0 0 0 0 0 0 0 0 0 T H F l (F5 (Bx H b1) L) [] []=_
   simp only [Cs,Ig,If]
   rw [Mm]
   rfl) (Ga (Bx H b1) S (nI L.length) 0 b0 b1 b2 b3 b4 b5 b6 b7 b8 b9 0 0 0 0 0 0 0 0 0 0 T H F l (F5 (Bx H b1) L) [] []) 0 L (by omega) (by simp [Ga,nI]) ⟨by omega,by omega⟩
 exact hL
theorem Amv (a0:Sto) r (h:Ip a0=some r):Se a0=some ((r.1,r.2.1.1,r.2.1.2.1,r.2.1.2.2.1,r.2.1.2.2.2.1.1,r.2.1.2.2.2.1.2.1,r.2.1.2.2.2.1.2.2.1,r.2.1.2.2.2.1.2.2.2.1,r.2.1.2.2.2.2.1,r.2.1.2.2.2.2.2.1,r.2.1.2.2.2.2.2.2.1.1,r.2.2.1,()),(())):=by
 unfold Ip at h
 split at h
 rotate_left
 ·cases h
 rename_i hk
 cases h
 obtain ⟨⟨t0,t1⟩,⟨h0,h1⟩,⟨f0,f1⟩,hp⟩:=hk
 have hh:=Q7 a0.2.1
 unfold Se To Alm
 simp only [Ap,H4,Cm,Gj]
 show (bif decide (IntKind.i64.wrap (a0.2.2.2.1.1 + 1) > 1000000000) then _ else bif decide (IntKind.i64.wrap (a0.2.2.2.1.2.2.1 + Am a0.2.1) > 999999000) then _ else _)=_
 rw [Ag (n:=a0.2.2.2.1.1 + 1) (by omega) (by omega),Ag (n:=a0.2.2.2.1.2.2.1 + Am a0.2.1) (by omega) (by omega),Ag (n:=1 - a0.2.2.2.1.2.1) (by omega) (by omega)]
 cases hc1:decide (a0.2.2.2.1.1 + 1 > 1000000000) with
 | true=>rfl
 | false=>
  cases hc2:decide (a0.2.2.2.1.2.2.1 + Am a0.2.1 > 999999000) with
  | true=>rfl
  | false=>
   simp only [cond_false]
   have hm:=Ajt (n:=a0.2.1) (show 0≤1 - a0.2.2.2.1.2.1∧1 - a0.2.2.2.1.2.1≤1 by omega)
   have e0:Bd a0.2.1 (1 - a0.2.2.2.1.2.1)=Bx (1 - a0.2.2.2.1.2.1) a0.2.1:=by
    show IntKind.i64.wrap (2 + IntKind.i64.wrap ((1 - a0.2.2.2.1.2.1) * Am a0.2.1))=2 + (1 - a0.2.2.2.1.2.1) * Am a0.2.1
    rw [Ag (n:=(1 - a0.2.2.2.1.2.1) * Am a0.2.1) (by omega) (by omega),Ag (by omega) (by omega)]
   rw [e0]
   have hL1:=Aus a0.1 a0.2.1 a0.2.2.1 a0.2.2.2.1.1 a0.2.2.2.1.2.1 a0.2.2.2.1.2.2.1 a0.2.2.2.1.2.2.2.1 a0.2.2.2.2.1 a0.2.2.2.2.2.1 (a0.2.2.2.1.1 + 1) (1 - a0.2.2.2.1.2.1) (a0.2.2.2.1.2.2.1 + Am a0.2.1) a0.2.2.1 a0.2.2.2.2.2.2.1.1 (Dd a0.2.2.2.2.2.2.1) [Cx (3,a0.2.2.1,a0.2.2.2.1.2.2.1 + Am a0.2.1,z0,()) a0.1] (Vg _) ⟨by omega,by omega⟩ ⟨by omega,by omega⟩ (Nat.le_refl 1)
   have hl:=Axx a0 a0.2.2.1
   have e1:C1 (a0.2.2.2.2.2.2.1.1,())=some (a0.2.2.2.2.2.2.1.1,()):=if_pos hp
   have e2:decide (((F5 (Bx (1 - a0.2.2.2.1.2.1) a0.2.1) (mvL a0 a0.2.2.1)).length + 3) * 32≤140737488355328)=true:=decide_eq_true (by rw [Vi]; omega)
   refine W5 hL1 ?_
   dsimp only
   simp only [List.length_cons,List.length_nil,Nat.zero_add,Nat.reduceAdd]
   refine (congrArg (fun c=>bif c then _ else none) e2).trans ?_
   simp only [cond_true]
   rw [e1]
   rfl
noncomputable def T6 {R:Type} (k:Kt R):=(I1 (pa_spec_l6Move 11) (.exit 0) 2 k)
noncomputable def T7 {R:Type} (k:Kt R):=(I1 (pa_spec_l6Move 15) (.exit 2) 4 k)
noncomputable def Ut {R:Type}:Lt R pa_spec_l6Move:=(Ed (pat:=pa_spec_l6Move) 11 (fun d k=>(Cs (Ga d.1 d.2.1 d.2.2.1 d.2.2.2.1 d.2.2.2.2.1 d.2.2.2.2.2.1 d.2.2.2.2.2.2.1 d.2.2.2.2.2.2.2.1 d.2.2.2.2.2.2.2.2.1 d.2.2.2.2.2.2.2.2.2.1 d.2.2.2.2.2.2.2.2.2.2.1 d.2.2.2.2.2.2.2.2.2.2.2.1 d.2.2.2.2.2.2.2.2.2.2.2.2.1 d.2.2.2.2.2.2.2.2.2.2.2.2.2.1 d.2.2.2.2.2.2.2.2.2.2.2.2.2.2.1 d.2.2.2.2.2.2.2.2.2.2.2.2.2.2.2.1 d.2.2.2.2.2.2.2.2.2.2.2.2.2.2.2.2.1 d.2.2.2.2.2.2.2.2.2.2.2.2.2.2.2.2.2.1 d.2.2.2.2.2.2.2.2.2.2.2.2.2.2.2.2.2.2.1 d.2.2.2.2.2.2.2.2.2.2.2.2.2.2.2.2.2.2.2.1 d.2.2.2.2.2.2.2.2.2.2.2.2.2.2.2.2.2.2.2.2.1 d.2.2.2.2.2.2.2.2.2.2.2.2.2.2.2.2.2.2.2.2.2.1 d.2.2.2.2.2.2.2.2.2.2.2.2.2.2.2.2.2.2.2.2.2.2.1 d.2.2.2.2.2.2.2.2.2.2.2.2.2.2.2.2.2.2.2.2.2.2.2.1 d.2.2.2.2.2.2.2.2.2.2.2.2.2.2.2.2.2.2.2.2.2.2.2.2.1 d.2.2.2.2.2.2.2.2.2.2.2.2.2.2.2.2.2.2.2.2.2.2.2.2.2.1 d.2.2.2.2.2.2.2.2.2.2.2.2.2.2.2.2.2.2.2.2.2.2.2.2.2.2.1 d.2.2.2.2.2.2.2.2.2.2.2.2.2.2.2.2.2.2.2.2.2.2.2.2.2.2.2.1 d.2.2.2.2.2.2.2.2.2.2.2.2.2.2.2.2.2.2.2.2.2.2.2.2.2.2.2.2.1 d.2.2.2.2.2.2.2.2.2.2.2.2.2.2.2.2.2.2.2.2.2.2.2.2.2.2.2.2.2.1 d.2.2.2.2.2.2.2.2.2.2.2.2.2.2.2.2.2.2.2.2.2.2.2.2.2.2.2.2.2.2.1) d.1 d.2.1 d.2.2.1 d.2.2.2.1 d.2.2.2.2.1 d.2.2.2.2.2.1 d.2.2.2.2.2.2.1 d.2.2.2.2.2.2.2.1 d.2.2.2.2.2.2.2.2.1 d.2.2.2.2.2.2.2.2.2.1 d.2.2.2.2.2.2.2.2.2.2.1 d.2.2.2.2.2.2.2.2.2.2.2.1 d.2.2.2.2.2.2.2.2.2.2.2.2.1 d.2.2.2.2.2.2.2.2.2.2.2.2.2.1 d.2.2.2.2.2.2.2.2.2.2.2.2.2.2.1 d.2.2.2.2.2.2.2.2.2.2.2.2.2.2.2.1 d.2.2.2.2.2.2.2.2.2.2.2.2.2.2.2.2.1 d.2.2.2.2.2.2.2.2.2.2.2.2.2.2.2.2.2.1 d.2.2.2.2.2.2.2.2.2.2.2.2.2.2.2.2.2.2.1 d.2.2.2.2.2.2.2.2.2.2.2.2.2.2.2.2.2.2.2.1 d.2.2.2.2.2.2.2.2.2.2.2.2.2.2.2.2.2.2.2.2.1 d.2.2.2.2.2.2.2.2.2.2.2.2.2.2.2.2.2.2.2.2.2.1 d.2.2.2.2.2.2.2.2.2.2.2.2.2.2.2.2.2.2.2.2.2.2.1 d.2.2.2.2.2.2.2.2.2.2.2.2.2.2.2.2.2.2.2.2.2.2.2.1 d.2.2.2.2.2.2.2.2.2.2.2.2.2.2.2.2.2.2.2.2.2.2.2.2.1 d.2.2.2.2.2.2.2.2.2.2.2.2.2.2.2.2.2.2.2.2.2.2.2.2.2.1 d.2.2.2.2.2.2.2.2.2.2.2.2.2.2.2.2.2.2.2.2.2.2.2.2.2.2.1 d.2.2.2.2.2.2.2.2.2.2.2.2.2.2.2.2.2.2.2.2.2.2.2.2.2.2.2.1 d.2.2.2.2.2.2.2.2.2.2.2.2.2.2.2.2.2.2.2.2.2.2.2.2.2.2.2.2.1 d.2.2.2.2.2.2.2.2.2.2.2.2.2.2.2.2.2.2.2.2.2.2.2.2.2.2.2.2.2.1 d.2.2.2.2.2.2.2.2.2.2.2.2.2.2.2.2.2.2.2.2.2.2.2.2.2.2.2.2.2.2.1).bind (T6 k)) (Ed (pat:=pa_spec_l6Move) 15 (fun d k=>(If d).bind (T7 k)) Hu))
theorem Sf:A2 Tryz.prog ta_spec_l6Move:=A7 ⟨Jb,Jc,Nq,Sb,Us,Ahq,Kk,Vs,Vy,trivial⟩
theorem Adu {R:Type}:A3 Tryz.prog R 125 0 pa_spec_l6Move Ut co_spec_l6Move_15:=
 B3 (cfg:=⟨ta_spec_l6Move,0,125,pa_spec_l6Move⟩) 15 [] (fun NX X d=>Ie  NX X d.1 d.2.1 d.2.2.1 d.2.2.2.1 d.2.2.2.2.1 d.2.2.2.2.2.1 d.2.2.2.2.2.2.1 d.2.2.2.2.2.2.2.1 d.2.2.2.2.2.2.2.2.1 d.2.2.2.2.2.2.2.2.2.1 d.2.2.2.2.2.2.2.2.2.2.1 d.2.2.2.2.2.2.2.2.2.2.2.1 d.2.2.2.2.2.2.2.2.2.2.2.2.1 d.2.2.2.2.2.2.2.2.2.2.2.2.2.1 d.2.2.2.2.2.2.2.2.2.2.2.2.2.2.1 d.2.2.2.2.2.2.2.2.2.2.2.2.2.2.2.1 d.2.2.2.2.2.2.2.2.2.2.2.2.2.2.2.2.1 d.2.2.2.2.2.2.2.2.2.2.2.2.2.2.2.2.2.1 d.2.2.2.2.2.2.2.2.2.2.2.2.2.2.2.2.2.2.1 d.2.2.2.2.2.2.2.2.2.2.2.2.2.2.2.2.2.2.2.1 d.2.2.2.2.2.2.2.2.2.2.2.2.2.2.2.2.2.2.2.2.1 d.2.2.2.2.2.2.2.2.2.2.2.2.2.2.2.2.2.2.2.2.2.1 d.2.2.2.2.2.2.2.2.2.2.2.2.2.2.2.2.2.2.2.2.2.2.1 d.2.2.2.2.2.2.2.2.2.2.2.2.2.2.2.2.2.2.2.2.2.2.2.1 d.2.2.2.2.2.2.2.2.2.2.2.2.2.2.2.2.2.2.2.2.2.2.2.2.1 d.2.2.2.2.2.2.2.2.2.2.2.2.2.2.2.2.2.2.2.2.2.2.2.2.2.1 d.2.2.2.2.2.2.2.2.2.2.2.2.2.2.2.2.2.2.2.2.2.2.2.2.2.2.1 d.2.2.2.2.2.2.2.2.2.2.2.2.2.2.2.2.2.2.2.2.2.2.2.2.2.2.2.1 d.2.2.2.2.2.2.2.2.2.2.2.2.2.2.2.2.2.2.2.2.2.2.2.2.2.2.2.2.1 d.2.2.2.2.2.2.2.2.2.2.2.2.2.2.2.2.2.2.2.2.2.2.2.2.2.2.2.2.2.1 d.2.2.2.2.2.2.2.2.2.2.2.2.2.2.2.2.2.2.2.2.2.2.2.2.2.2.2.2.2.2.1 d.2.2.2.2.2.2.2.2.2.2.2.2.2.2.2.2.2.2.2.2.2.2.2.2.2.2.2.2.2.2.2.1 d.2.2.2.2.2.2.2.2.2.2.2.2.2.2.2.2.2.2.2.2.2.2.2.2.2.2.2.2.2.2.2.2.1) (fun m d=>C8 m d.1 d.2.1 d.2.2.1 d.2.2.2.1 d.2.2.2.2.1 d.2.2.2.2.2.1 d.2.2.2.2.2.2.1 d.2.2.2.2.2.2.2.1 d.2.2.2.2.2.2.2.2.1 d.2.2.2.2.2.2.2.2.2.1 d.2.2.2.2.2.2.2.2.2.2.1 d.2.2.2.2.2.2.2.2.2.2.2.1 d.2.2.2.2.2.2.2.2.2.2.2.2.1 d.2.2.2.2.2.2.2.2.2.2.2.2.2.1 d.2.2.2.2.2.2.2.2.2.2.2.2.2.2.1 d.2.2.2.2.2.2.2.2.2.2.2.2.2.2.2.1 d.2.2.2.2.2.2.2.2.2.2.2.2.2.2.2.2.1 d.2.2.2.2.2.2.2.2.2.2.2.2.2.2.2.2.2.1 d.2.2.2.2.2.2.2.2.2.2.2.2.2.2.2.2.2.2.1 d.2.2.2.2.2.2.2.2.2.2.2.2.2.2.2.2.2.2.2.1 d.2.2.2.2.2.2.2.2.2.2.2.2.2.2.2.2.2.2.2.2.1 d.2.2.2.2.2.2.2.2.2.2.2.2.2.2.2.2.2.2.2.2.2.1 d.2.2.2.2.2.2.2.2.2.2.2.2.2.2.2.2.2.2.2.2.2.2.1 d.2.2.2.2.2.2.2.2.2.2.2.2.2.2.2.2.2.2.2.2.2.2.2.1 d.2.2.2.2.2.2.2.2.2.2.2.2.2.2.2.2.2.2.2.2.2.2.2.2.1 d.2.2.2.2.2.2.2.2.2.2.2.2.2.2.2.2.2.2.2.2.2.2.2.2.2.1 d.2.2.2.2.2.2.2.2.2.2.2.2.2.2.2.2.2.2.2.2.2.2.2.2.2.2.1 d.2.2.2.2.2.2.2.2.2.2.2.2.2.2.2.2.2.2.2.2.2.2.2.2.2.2.2.1 d.2.2.2.2.2.2.2.2.2.2.2.2.2.2.2.2.2.2.2.2.2.2.2.2.2.2.2.2.1 d.2.2.2.2.2.2.2.2.2.2.2.2.2.2.2.2.2.2.2.2.2.2.2.2.2.2.2.2.2.1 d.2.2.2.2.2.2.2.2.2.2.2.2.2.2.2.2.2.2.2.2.2.2.2.2.2.2.2.2.2.2.1 d.2.2.2.2.2.2.2.2.2.2.2.2.2.2.2.2.2.2.2.2.2.2.2.2.2.2.2.2.2.2.2.1 d.2.2.2.2.2.2.2.2.2.2.2.2.2.2.2.2.2.2.2.2.2.2.2.2.2.2.2.2.2.2.2.2.1) (fun d=>Ic d.1 d.2.1 d.2.2.1 d.2.2.2.1 d.2.2.2.2.1 d.2.2.2.2.2.1 d.2.2.2.2.2.2.1 d.2.2.2.2.2.2.2.1 d.2.2.2.2.2.2.2.2.1 d.2.2.2.2.2.2.2.2.2.1 d.2.2.2.2.2.2.2.2.2.2.1 d.2.2.2.2.2.2.2.2.2.2.2.1 d.2.2.2.2.2.2.2.2.2.2.2.2.1 d.2.2.2.2.2.2.2.2.2.2.2.2.2.1 d.2.2.2.2.2.2.2.2.2.2.2.2.2.2.1 d.2.2.2.2.2.2.2.2.2.2.2.2.2.2.2.1 d.2.2.2.2.2.2.2.2.2.2.2.2.2.2.2.2.1 d.2.2.2.2.2.2.2.2.2.2.2.2.2.2.2.2.2.1 d.2.2.2.2.2.2.2.2.2.2.2.2.2.2.2.2.2.2.1 d.2.2.2.2.2.2.2.2.2.2.2.2.2.2.2.2.2.2.2.1 d.2.2.2.2.2.2.2.2.2.2.2.2.2.2.2.2.2.2.2.2.1 d.2.2.2.2.2.2.2.2.2.2.2.2.2.2.2.2.2.2.2.2.2.1 d.2.2.2.2.2.2.2.2.2.2.2.2.2.2.2.2.2.2.2.2.2.2.1 d.2.2.2.2.2.2.2.2.2.2.2.2.2.2.2.2.2.2.2.2.2.2.2.1 d.2.2.2.2.2.2.2.2.2.2.2.2.2.2.2.2.2.2.2.2.2.2.2.2.1 d.2.2.2.2.2.2.2.2.2.2.2.2.2.2.2.2.2.2.2.2.2.2.2.2.2.1 d.2.2.2.2.2.2.2.2.2.2.2.2.2.2.2.2.2.2.2.2.2.2.2.2.2.2.1 d.2.2.2.2.2.2.2.2.2.2.2.2.2.2.2.2.2.2.2.2.2.2.2.2.2.2.2.1 d.2.2.2.2.2.2.2.2.2.2.2.2.2.2.2.2.2.2.2.2.2.2.2.2.2.2.2.2.1 d.2.2.2.2.2.2.2.2.2.2.2.2.2.2.2.2.2.2.2.2.2.2.2.2.2.2.2.2.2.1 d.2.2.2.2.2.2.2.2.2.2.2.2.2.2.2.2.2.2.2.2.2.2.2.2.2.2.2.2.2.2.1 d.2.2.2.2.2.2.2.2.2.2.2.2.2.2.2.2.2.2.2.2.2.2.2.2.2.2.2.2.2.2.2.1 d.2.2.2.2.2.2.2.2.2.2.2.2.2.2.2.2.2.2.2.2.2.2.2.2.2.2.2.2.2.2.2.2.1) T7 Sf trivial (fun f NX d=>by unfold Ie; simp only [Al,Ar,Ak,Option.bind_assoc,Option.bind_none,Option.bind_some]) (fun _ _ _=>by kernel_rfl)
theorem Adv {R:Type}:A3 Tryz.prog R 125 0 pa_spec_l6Move Ut co_spec_l6Move_11:=
 B3 (cfg:=⟨ta_spec_l6Move,0,125,pa_spec_l6Move⟩) 11 [co_spec_l6Move_15] (fun NX X d=>Ig If NX X d.1 d.2.1 d.2.2.1 d.2.2.2.1 d.2.2.2.2.1 d.2.2.2.2.2.1 d.2.2.2.2.2.2.1 d.2.2.2.2.2.2.2.1 d.2.2.2.2.2.2.2.2.1 d.2.2.2.2.2.2.2.2.2.1 d.2.2.2.2.2.2.2.2.2.2.1 d.2.2.2.2.2.2.2.2.2.2.2.1 d.2.2.2.2.2.2.2.2.2.2.2.2.1 d.2.2.2.2.2.2.2.2.2.2.2.2.2.1 d.2.2.2.2.2.2.2.2.2.2.2.2.2.2.1 d.2.2.2.2.2.2.2.2.2.2.2.2.2.2.2.1 d.2.2.2.2.2.2.2.2.2.2.2.2.2.2.2.2.1 d.2.2.2.2.2.2.2.2.2.2.2.2.2.2.2.2.2.1 d.2.2.2.2.2.2.2.2.2.2.2.2.2.2.2.2.2.2.1 d.2.2.2.2.2.2.2.2.2.2.2.2.2.2.2.2.2.2.2.1 d.2.2.2.2.2.2.2.2.2.2.2.2.2.2.2.2.2.2.2.2.1 d.2.2.2.2.2.2.2.2.2.2.2.2.2.2.2.2.2.2.2.2.2.1 d.2.2.2.2.2.2.2.2.2.2.2.2.2.2.2.2.2.2.2.2.2.2.1 d.2.2.2.2.2.2.2.2.2.2.2.2.2.2.2.2.2.2.2.2.2.2.2.1 d.2.2.2.2.2.2.2.2.2.2.2.2.2.2.2.2.2.2.2.2.2.2.2.2.1 d.2.2.2.2.2.2.2.2.2.2.2.2.2.2.2.2.2.2.2.2.2.2.2.2.2.1 d.2.2.2.2.2.2.2.2.2.2.2.2.2.2.2.2.2.2.2.2.2.2.2.2.2.2.1 d.2.2.2.2.2.2.2.2.2.2.2.2.2.2.2.2.2.2.2.2.2.2.2.2.2.2.2.1 d.2.2.2.2.2.2.2.2.2.2.2.2.2.2.2.2.2.2.2.2.2.2.2.2.2.2.2.2.1 d.2.2.2.2.2.2.2.2.2.2.2.2.2.2.2.2.2.2.2.2.2.2.2.2.2.2.2.2.2.1 d.2.2.2.2.2.2.2.2.2.2.2.2.2.2.2.2.2.2.2.2.2.2.2.2.2.2.2.2.2.2.1) (fun m d=>Cs m d.1 d.2.1 d.2.2.1 d.2.2.2.1 d.2.2.2.2.1 d.2.2.2.2.2.1 d.2.2.2.2.2.2.1 d.2.2.2.2.2.2.2.1 d.2.2.2.2.2.2.2.2.1 d.2.2.2.2.2.2.2.2.2.1 d.2.2.2.2.2.2.2.2.2.2.1 d.2.2.2.2.2.2.2.2.2.2.2.1 d.2.2.2.2.2.2.2.2.2.2.2.2.1 d.2.2.2.2.2.2.2.2.2.2.2.2.2.1 d.2.2.2.2.2.2.2.2.2.2.2.2.2.2.1 d.2.2.2.2.2.2.2.2.2.2.2.2.2.2.2.1 d.2.2.2.2.2.2.2.2.2.2.2.2.2.2.2.2.1 d.2.2.2.2.2.2.2.2.2.2.2.2.2.2.2.2.2.1 d.2.2.2.2.2.2.2.2.2.2.2.2.2.2.2.2.2.2.1 d.2.2.2.2.2.2.2.2.2.2.2.2.2.2.2.2.2.2.2.1 d.2.2.2.2.2.2.2.2.2.2.2.2.2.2.2.2.2.2.2.2.1 d.2.2.2.2.2.2.2.2.2.2.2.2.2.2.2.2.2.2.2.2.2.1 d.2.2.2.2.2.2.2.2.2.2.2.2.2.2.2.2.2.2.2.2.2.2.1 d.2.2.2.2.2.2.2.2.2.2.2.2.2.2.2.2.2.2.2.2.2.2.2.1 d.2.2.2.2.2.2.2.2.2.2.2.2.2.2.2.2.2.2.2.2.2.2.2.2.1 d.2.2.2.2.2.2.2.2.2.2.2.2.2.2.2.2.2.2.2.2.2.2.2.2.2.1 d.2.2.2.2.2.2.2.2.2.2.2.2.2.2.2.2.2.2.2.2.2.2.2.2.2.2.1 d.2.2.2.2.2.2.2.2.2.2.2.2.2.2.2.2.2.2.2.2.2.2.2.2.2.2.2.1 d.2.2.2.2.2.2.2.2.2.2.2.2.2.2.2.2.2.2.2.2.2.2.2.2.2.2.2.2.1 d.2.2.2.2.2.2.2.2.2.2.2.2.2.2.2.2.2.2.2.2.2.2.2.2.2.2.2.2.2.1 d.2.2.2.2.2.2.2.2.2.2.2.2.2.2.2.2.2.2.2.2.2.2.2.2.2.2.2.2.2.2.1) (fun d=>Ga d.1 d.2.1 d.2.2.1 d.2.2.2.1 d.2.2.2.2.1 d.2.2.2.2.2.1 d.2.2.2.2.2.2.1 d.2.2.2.2.2.2.2.1 d.2.2.2.2.2.2.2.2.1 d.2.2.2.2.2.2.2.2.2.1 d.2.2.2.2.2.2.2.2.2.2.1 d.2.2.2.2.2.2.2.2.2.2.2.1 d.2.2.2.2.2.2.2.2.2.2.2.2.1 d.2.2.2.2.2.2.2.2.2.2.2.2.2.1 d.2.2.2.2.2.2.2.2.2.2.2.2.2.2.1 d.2.2.2.2.2.2.2.2.2.2.2.2.2.2.2.1 d.2.2.2.2.2.2.2.2.2.2.2.2.2.2.2.2.1 d.2.2.2.2.2.2.2.2.2.2.2.2.2.2.2.2.2.1 d.2.2.2.2.2.2.2.2.2.2.2.2.2.2.2.2.2.2.1 d.2.2.2.2.2.2.2.2.2.2.2.2.2.2.2.2.2.2.2.1 d.2.2.2.2.2.2.2.2.2.2.2.2.2.2.2.2.2.2.2.2.1 d.2.2.2.2.2.2.2.2.2.2.2.2.2.2.2.2.2.2.2.2.2.1 d.2.2.2.2.2.2.2.2.2.2.2.2.2.2.2.2.2.2.2.2.2.2.1 d.2.2.2.2.2.2.2.2.2.2.2.2.2.2.2.2.2.2.2.2.2.2.2.1 d.2.2.2.2.2.2.2.2.2.2.2.2.2.2.2.2.2.2.2.2.2.2.2.2.1 d.2.2.2.2.2.2.2.2.2.2.2.2.2.2.2.2.2.2.2.2.2.2.2.2.2.1 d.2.2.2.2.2.2.2.2.2.2.2.2.2.2.2.2.2.2.2.2.2.2.2.2.2.2.1 d.2.2.2.2.2.2.2.2.2.2.2.2.2.2.2.2.2.2.2.2.2.2.2.2.2.2.2.1 d.2.2.2.2.2.2.2.2.2.2.2.2.2.2.2.2.2.2.2.2.2.2.2.2.2.2.2.2.1 d.2.2.2.2.2.2.2.2.2.2.2.2.2.2.2.2.2.2.2.2.2.2.2.2.2.2.2.2.2.1 d.2.2.2.2.2.2.2.2.2.2.2.2.2.2.2.2.2.2.2.2.2.2.2.2.2.2.2.2.2.2.1) T6 Sf ⟨Adu,trivial⟩ (fun f NX d=>by unfold Ig; simp only [Al,Ar,Ak,Option.bind_assoc,Option.bind_none,Option.bind_some]) (fun _ _ _=>by kernel_rfl)
theorem Z8:B2 Tryz.prog 111 sd_spec_l6Move:=
 A6 (pat:=pa_spec_l6Move) [co_spec_l6Move_11] Ut Sf ⟨Adv,trivial⟩ Tryz.func111 (de:=fun x=>Se x.1) (fun x r h=>Hv (Amv x.1) h) fun _=>by kernel_rfl
def Bi (d:Dk) (w:Int):Don:=Zj d w
def Ar6:Sig:=⟨[.rd yDk,.rd tI],[some 2,none],[.rd tI,.rd tI,.rd tI,.rd tI,.rd tI,.rd tI,.rd tI,.rd tI,.rd tI,.rd tI,.own 157 Av,.own 142 Kg],[some 12]⟩
noncomputable def sd_spec_Open:SD:=⟨Ar6,fun x=>some (((Bi x.1 x.2.1).1,(Bi x.1 x.2.1).2.1.1,(Bi x.1 x.2.1).2.1.2.1,(Bi x.1 x.2.1).2.1.2.2.1,(Bi x.1 x.2.1).2.1.2.2.2.1.1,(Bi x.1 x.2.1).2.1.2.2.2.1.2.1,(Bi x.1 x.2.1).2.1.2.2.2.1.2.2.1,(Bi x.1 x.2.1).2.1.2.2.2.1.2.2.2.1,(Bi x.1 x.2.1).2.1.2.2.2.2.1,(Bi x.1 x.2.1).2.1.2.2.2.2.2.1,(Bi x.1 x.2.1).2.1.2.2.2.2.2.2.1.1,(Bi x.1 x.2.1).2.2.1,()),(()))⟩
noncomputable def Xd (a0:Dk) (a1:Int):Option ((((Int)×(Int)×(Int)×(Int)×(Int)×(Int)×(Int)×(Int)×(Int)×(Int)×(List Pr2)×(List Opn)×Unit)×(Unit))):=
 bif !Dr a0 then some ((1,0,0,0,0,0,0,0,0,0,[],[],()),()) else (Bv a1).bind fun val=>bif !val.1.1 then some ((1,0,0,0,0,0,0,0,0,0,[],[],()),()) else ((Ly (Ck a0 (Bd (nI (List.length a0.1)) (Ah a0 a1).2.1) (Ap (nI (List.length a0.1))) (Ah a0 a1).2.2.1 (Ah a0 a1).2.2.2.1 a1).1).bind fun val=>some ((val.1.1,val.2,()),())).bind fun val=>bif !val.1.2.1 then some ((2,0,0,0,0,0,0,0,0,0,[],[],()),()) else bif decide (IntKind.i64.wrap ((Ck a0 (Bd (nI (List.length a0.1)) (Ah a0 a1).2.1) (Ap (nI (List.length a0.1))) (Ah a0 a1).2.2.1 (Ah a0 a1).2.2.2.1 a1).2.2.1 + 1) > 60000) then some ((3,0,0,0,0,0,0,0,0,0,[],[],()),()) else bif decide (Jt (val.1.1,()) a1 > IntKind.i64.wrap (Ap (nI (List.length a0.1)) - 1)) then some ((4,0,0,0,0,0,0,0,0,0,[],[],()),()) else bif decide ((Ck a0 (Bd (nI (List.length a0.1)) (Ah a0 a1).2.1) (Ap (nI (List.length a0.1))) (Ah a0 a1).2.2.1 (Ah a0 a1).2.2.2.1 a1).2.1≥Ap (nI (List.length a0.1))) then ((Ip (a1,nI (List.length a0.1),IntKind.i64.wrap ((Ck a0 (Bd (nI (List.length a0.1)) (Ah a0 a1).2.1) (Ap (nI (List.length a0.1))) (Ah a0 a1).2.2.1 (Ah a0 a1).2.2.2.1 a1).2.2.1 + 1),Ah a0 a1,(Ck a0 (Bd (nI (List.length a0.1)) (Ah a0 a1).2.1) (Ap (nI (List.length a0.1))) (Ah a0 a1).2.2.1 (Ah a0 a1).2.2.2.1 a1).2.1,0,(val.1.1,()),())).bind fun val=>some ((val.1,val.2.1.1,val.2.1.2.1,val.2.1.2.2.1,val.2.1.2.2.2.1.1,val.2.1.2.2.2.1.2.1,val.2.1.2.2.2.1.2.2.1,val.2.1.2.2.2.1.2.2.2.1,val.2.1.2.2.2.2.1,val.2.1.2.2.2.2.2.1,val.2.1.2.2.2.2.2.2.1.1,val.2.2),())).bind fun val=>some val else some ((0,a1,nI (List.length a0.1),IntKind.i64.wrap ((Ck a0 (Bd (nI (List.length a0.1)) (Ah a0 a1).2.1) (Ap (nI (List.length a0.1))) (Ah a0 a1).2.2.1 (Ah a0 a1).2.2.2.1 a1).2.2.1 + 1),(Ah a0 a1).1,(Ah a0 a1).2.1,(Ah a0 a1).2.2.1,(Ah a0 a1).2.2.2.1,IntKind.i64.wrap ((Ck a0 (Bd (nI (List.length a0.1)) (Ah a0 a1).2.1) (Ap (nI (List.length a0.1))) (Ah a0 a1).2.2.1 (Ah a0 a1).2.2.2.1 a1).2.1 + 1),0,val.1.1,[(false,IntKind.i64.wrap (Bd (nI (List.length a0.1)) (Ah a0 a1).2.1 + (Ck a0 (Bd (nI (List.length a0.1)) (Ah a0 a1).2.1) (Ap (nI (List.length a0.1))) (Ah a0 a1).2.2.1 (Ah a0 a1).2.2.2.1 a1).2.1),Cm (3,IntKind.i64.wrap ((Ck a0 (Bd (nI (List.length a0.1)) (Ah a0 a1).2.1) (Ap (nI (List.length a0.1))) (Ah a0 a1).2.2.1 (Ah a0 a1).2.2.2.1 a1).2.2.1 + 1),IntKind.i64.wrap ((Ah a0 a1).2.2.1 + (Ck a0 (Bd (nI (List.length a0.1)) (Ah a0 a1).2.1) (Ap (nI (List.length a0.1))) (Ah a0 a1).2.2.1 (Ah a0 a1).2.2.2.1 a1).2.1),ByteArray.mk #[],()) a1,()),(true,0,ByteArray.mk #[],())],()),())
theorem Ar7 (a0:Dk) (a1:Int):Xd a0 a1=some (((Bi a0 a1).1,(Bi a0 a1).2.1.1,(Bi a0 a1).2.1.2.1,(Bi a0 a1).2.1.2.2.1,(Bi a0 a1).2.1.2.2.2.1.1,(Bi a0 a1).2.1.2.2.2.1.2.1,(Bi a0 a1).2.1.2.2.2.1.2.2.1,(Bi a0 a1).2.1.2.2.2.1.2.2.2.1,(Bi a0 a1).2.1.2.2.2.2.1,(Bi a0 a1).2.1.2.2.2.2.2.1,(Bi a0 a1).2.1.2.2.2.2.2.2.1.1,(Bi a0 a1).2.2.1,()),(())):=by
 unfold Xd Bi Zj
 have ew:(bif decide (a1≥1) then (some ((decide (a1≤8),()),()):Option ((Bool×Unit)×Unit)) else some ((false,()),()))=some ((Ch a1 1 8,()),()):=by
  unfold Ch
  show (bif decide (1≤a1) then _ else _)=_
  cases decide (1≤a1)<;>rfl
 first
  | rw [ew]
  | rw [show Bv a1=some ((Ch a1 1 8,()),()) from ew]
 show (bif !A0 a0 then _ else bif !Ch a1 1 8 then _ else _)=_
 cases hv:A0 a0 with
 | false=>rfl
 | true=>
  cases hw:Ch a1 1 8 with
  | false=>rfl
  | true=>
   simp only [Bool.not_true,cond_false]
   have hr:=Aue hv hw
   have hm:=Ajt (n:=nI a0.1.length) hr.2.1
   have hh:=Q7 (nI a0.1.length)
   have eb:Bd (nI a0.1.length) (C7 a0 a1).2.1=Bx (C7 a0 a1).2.1 (nI a0.1.length):=by
    show IntKind.i64.wrap (2 + IntKind.i64.wrap ((C7 a0 a1).2.1 * Am (nI a0.1.length)))=2 + (C7 a0 a1).2.1 * Am (nI a0.1.length)
    rw [Ag (n:=(C7 a0 a1).2.1 * Am (nI a0.1.length)) (by omega) (by omega),Ag (by omega) (by omega)]
   have ex:Ck a0 (Bd (nI a0.1.length) (Ah a0 a1).2.1) (Ap (nI a0.1.length)) (Ah a0 a1).2.2.1 (Ah a0 a1).2.2.2.1 a1=K0 a0 a1:=by
    show Ru a0 (Bd (nI a0.1.length) (C7 a0 a1).2.1) (Am (nI a0.1.length)) (C7 a0 a1).2.2.1 (C7 a0 a1).2.2.2.1 a1=_
    rw [eb]
    rfl
   simp only [ex]
   have hx:(K0 a0 a1).1.length≤1073741824:=of_decide_eq_true (B7 (B7 (Awc a0 (Bx (C7 a0 a1).2.1 (nI a0.1.length)) (Am (nI a0.1.length)) (C7 a0 a1).2.2.1 (C7 a0 a1).2.2.2.1 a1)).1).1
   have hs:=A1y a0 (Bx (C7 a0 a1).2.1 (nI a0.1.length)) (Am (nI a0.1.length)) (C7 a0 a1).2.2.1 (C7 a0 a1).2.2.2.1 a1 hh.1 hr.2.2.2
   have hf:Ly (K0 a0 a1).1=some (Ax6 (K0 a0 a1).1):=if_pos hx
   rw [hf]
   unfold Ax6
   cases ho:Oy (K0 a0 a1).1 s5 with
   | none=>rfl
   | some st=>
    have hst:=Q1 rfl ho
    replace hs:(0≤(K0 a0 a1).2.1∧(K0 a0 a1).2.1≤Am (nI a0.1.length))∧(0≤(K0 a0 a1).2.2.1∧(K0 a0 a1).2.2.1≤60000):=hs
    clear ho hx ex hf
    have eR:Ah a0 a1=C7 a0 a1:=rfl
    have eH:Ap (nI a0.1.length)=Am (nI a0.1.length):=rfl
    rw [eR,eH]
    generalize K0 a0 a1=x at *
    generalize C7 a0 a1=r at *
    show (bif decide (IntKind.i64.wrap (x.2.2.1 + 1) > 60000) then _ else bif decide (Kj st a1 > IntKind.i64.wrap (Am (nI a0.1.length) - 1)) then _ else bif decide (x.2.1≥Am (nI a0.1.length)) then _ else _)=_
    dsimp only
    rw [Ag (n:=x.2.2.1 + 1) (by omega) (by omega),Tn]
    by_cases h1:x.2.2.1 + 1 > 60000
    ·rw [decide_eq_true h1,Ax2 h1]; rfl
    by_cases h2:Kj st a1 > Am (nI a0.1.length) - 1
    ·rw [decide_eq_false h1,decide_eq_true h2,Ax3 h1 h2]; rfl
    by_cases h3:x.2.1 < Am (nI a0.1.length)
    ·rw [decide_eq_false h1,decide_eq_false h2,decide_eq_false (show ¬ x.2.1≥Am (nI a0.1.length) by omega),Ax4 h1 h2 h3]
     simp only [cond_true,cond_false]
     obtain ⟨_,hr1,hr2,hr3⟩:=hr
     have hB:0≤Bx r.2.1 (nI a0.1.length)∧Bx r.2.1 (nI a0.1.length)≤101:=by unfold Bx; omega
     rw [eb,Ag (n:=x.2.1 + 1) (by omega) (by omega),Ag (n:=Bx r.2.1 (nI a0.1.length) + x.2.1) (by omega) (by omega),Ag (n:=r.2.2.1 + x.2.1) (by omega) (by omega)]
     rfl
    ·rw [decide_eq_false h1,decide_eq_false h2,decide_eq_true (show x.2.1≥Am (nI a0.1.length) by omega),Ax5 h1 h2 h3]
     simp only [cond_true,cond_false]
     have e1:Ip (a1,nI a0.1.length,x.2.2.1 + 1,r,x.2.1,0,st,())=some (To (a1,nI a0.1.length,x.2.2.1 + 1,r,x.2.1,0,st,())):=if_pos ⟨hr.1,hr.2.1,⟨Int.le_trans (by decide) hr.2.2.1.1,Int.le_trans hr.2.2.1.2 (by decide)⟩,Nat.le_trans (De hst) (by decide)⟩
     refine (congrArg (fun q=>Option.bind (Option.bind q _) _) e1).trans ?_
     rfl
theorem Ar8:B2 Tryz.prog 29 sd_spec_Open:=
 A6 (pat:=D3) [] Hu (A7 (l:=[(40,sd_spec_Halves),(41,sd_spec_Room),(65,sd_spec_l1Width),(66,sd_spec_ValidDisk),(72,sd_spec_FormPage),(107,sd_spec_FindRoot),(108,sd_spec_Scan),(109,sd_spec_l6Base),(110,sd_spec_l6Fold),(111,sd_spec_l6Move),(112,sd_spec_l6Put)]) ⟨Jb,W9,Cz,F7,Jc,Af7,Ar4,Sb,Ams,Z8,Us,trivial⟩) trivial Tryz.func29 (de:=fun x=>Xd x.1 x.2.1) (fun x r h=>(Ar7 x.1 x.2.1).trans h) fun _=>by kernel_rfl
def E6 (v lo hi:Int):Bool:=Ch v lo hi
def Ar9:Sig:=⟨[.rd tI,.rd tI,.rd tI],[none,none,none],[.rd .bool],[none]⟩
noncomputable def sd_spec_l6In:SD:=⟨Ar9,fun x=>some (((E6 x.1 x.2.1 x.2.2.1),()),(()))⟩
noncomputable def Xe (a0:Int) (a1:Int) (a2:Int):Option ((((Bool)×Unit)×(Unit))):=
 bif decide (a0≥a1) then some ((decide (a0≤a2),()),()) else some ((false,()),())
theorem Asa (a0 a1 a2:Int):Xe a0 a1 a2=some ((E6 a0 a1 a2,()),()):=by
 unfold Xe E6 Ch
 by_cases h:a0≥a1
 ·have:decide (a1≤a0)=true:=by simpa using h
  simp [h,this]
 ·have:decide (a1≤a0)=false:=by simpa using h
  simp [h,this]
theorem Adw:B2 Tryz.prog 67 sd_spec_l6In:=
 A6 (pat:=D3) [] Hu (A7 (l:=[]) trivial) trivial Tryz.func67 (de:=fun x=>Xe x.1 x.2.1 x.2.2.1) (fun x r h=>(Asa x.1 x.2.1 x.2.2.1).trans h) fun _=>by kernel_rfl
def Ez (s:Sto):Bool:=Ax s
def Aba:Sig:=⟨[.rd Ahx],[some 10],[.rd .bool],[none]⟩
noncomputable def sd_spec_ValidStore:SD:=⟨Aba,fun x=>some (((Ez x.1),()),(()))⟩
noncomputable def Mv (a0:Sto):Option ((((Bool)×Unit)×(Unit))):=
 (Bv a0.1).bind fun val=>bif !val.1.1 then some ((false,()),()) else bif Ap a0.2.1==0 then some ((false,()),()) else bif !E6 a0.2.2.1 1 60000 then some ((false,()),()) else bif !E6 a0.2.2.2.1.1 0 1000000000 then some ((false,()),()) else bif !E6 a0.2.2.2.1.2.1 0 1 then some ((false,()),()) else bif !E6 a0.2.2.2.1.2.2.1 1 999999000 then some ((false,()),()) else bif !E6 a0.2.2.2.1.2.2.2.1 0 60000 then some ((false,()),()) else bif E6 a0.2.2.2.2.1 0 (Ap a0.2.1) then bif E6 a0.2.2.2.2.2.1 0 a0.2.2.2.2.1 then bif D4 a0.2.2.2.2.2.2.1 then some ((decide (Jt a0.2.2.2.2.2.2.1 a0.1≤IntKind.i64.wrap (Ap a0.2.1 - 1)),()),()) else some ((false,()),()) else some ((false,()),()) else some ((false,()),())
theorem Abb (a0:Sto):Mv a0=some (((Ez a0),()),(())):=by
 unfold Mv Ez Ax
 refine l8 (wid a0.1) ?_
 simp only [Ap,E6,D4,Jt,Tn,A3h,A6o,At6]
 simp only [Ox,Bool.and_assoc]
 rw [Bool.and_left_comm]
theorem Jy:B2 Tryz.prog 30 sd_spec_ValidStore:=
 A6 (pat:=D3) [] Hu (A7 (l:=[(40,sd_spec_Halves),(41,sd_spec_Room),(65,sd_spec_l1Width),(67,sd_spec_l6In),(69,sd_spec_ValidState)]) ⟨Jb,W9,Cz,Adw,Jw,trivial⟩) trivial Tryz.func30 (de:=fun x=>Mv x.1) (fun x r h=>(Abb x.1).trans h) fun _=>by kernel_rfl
def Au (s:Sto) (b:List Chg):Don:=F6 s b
def Amw:Sig:=⟨[.rd Ahx,.rd (.sl D7)],[some 10,none],[.rd tI,.rd tI,.rd tI,.rd tI,.rd tI,.rd tI,.rd tI,.rd tI,.rd tI,.rd tI,.own 157 Av,.own 142 Kg],[some 12]⟩
noncomputable def sd_spec_Commit:SD:=⟨Amw,fun x=>some (((Au x.1 x.2.1).1,(Au x.1 x.2.1).2.1.1,(Au x.1 x.2.1).2.1.2.1,(Au x.1 x.2.1).2.1.2.2.1,(Au x.1 x.2.1).2.1.2.2.2.1.1,(Au x.1 x.2.1).2.1.2.2.2.1.2.1,(Au x.1 x.2.1).2.1.2.2.2.1.2.2.1,(Au x.1 x.2.1).2.1.2.2.2.1.2.2.2.1,(Au x.1 x.2.1).2.1.2.2.2.2.1,(Au x.1 x.2.1).2.1.2.2.2.2.2.1,(Au x.1 x.2.1).2.1.2.2.2.2.2.2.1.1,(Au x.1 x.2.1).2.2.1,()),(()))⟩
noncomputable def ta_spec_Commit:Tb:=tb [(30,sd_spec_ValidStore),(40,sd_spec_Halves),(41,sd_spec_Room),(109,sd_spec_l6Base),(112,sd_spec_l6Put),(122,sd_spec_ValidBatch),(123,sd_spec_Apply),(124,sd_spec_Cut),(125,sd_spec_FormBatch)]
def pa_spec_Commit:Nat→Pat×(Nat→Pat):=Gf [(17,⟨[.sl 8 0 .str,.row 10 0 142 Kg,.boxSl 2 9 Av,.boxRow 4 10 157 Av,.boxRow 4 11 142 Kg,.boxRow 9 9 157 Av],[(2,.lf (.ptr 0 0)),(4,.lf (.ptr 1 0)),(8,.lf (.d (.sl .str))),(9,.lf (.ptr 2 0)),(10,.lf (.row 3)),(11,.lf (.d tI))],[.box 33 [.d tI,.d tI,.d tI,.d tI,.d tI,.d tI,.d tI,.d tI,.d tI,.d (.sl Av)],.box 68 [.d tI,.d tI,.d tI,.d tI,.d tI,.d tI,.d tI,.d tI,.d tI,.d tI,.row 4,.row 5],.box 33 [.d tI,.d tI,.d tI,.d tI,.d tI,.d tI,.d tI,.d tI,.d tI,.row 6],.row 142 Kg,.row 157 Av,.row 142 Kg,.row 157 Av]⟩,[(2,⟨[.row 10 0 142 Kg,.boxRow 4 10 157 Av,.boxRow 4 11 142 Kg,.boxRow 9 9 157 Av],[(4,.lf (.ptr 0 0)),(9,.lf (.ptr 1 0)),(10,.lf (.row 2))],[.box 68 [.d tI,.d tI,.d tI,.d tI,.d tI,.d tI,.d tI,.d tI,.d tI,.d tI,.row 3,.row 4],.box 33 [.d tI,.d tI,.d tI,.d tI,.d tI,.d tI,.d tI,.d tI,.d tI,.row 5],.row 142 Kg,.row 157 Av,.row 142 Kg,.row 157 Av]⟩)])]
noncomputable def co_spec_Commit_17:Code:=(As (Ba Tryz.f36)).getD 0 .skip
def Gb (v8:List ByteArray) (v11:Int) (b0_0:Int) (b0_1:Int) (b0_2:Int) (b0_3:Int) (b0_4:Int) (b0_5:Int) (b0_6:Int) (b0_7:Int) (b0_8:Int) (b0_9:List Pr2) (b1_0:Int) (b1_1:Int) (b1_2:Int) (b1_3:Int) (b1_4:Int) (b1_5:Int) (b1_6:Int) (b1_7:Int) (b1_8:Int) (b1_9:Int) (b2_0:Int) (b2_1:Int) (b2_2:Int) (b2_3:Int) (b2_4:Int) (b2_5:Int) (b2_6:Int) (b2_7:Int) (b2_8:Int) (r3:List Opn) (r4:List Pr2) (r5:List Opn) (r6:List Pr2):Nat:=((v8.length:Int) - v11).toNat + 1
noncomputable def Ih {R:Type}  (NX:((List ByteArray)×(Int)×(Int)×(Int)×(Int)×(Int)×(Int)×(Int)×(Int)×(Int)×(Int)×(List Pr2)×(Int)×(Int)×(Int)×(Int)×(Int)×(Int)×(Int)×(Int)×(Int)×(Int)×(Int)×(Int)×(Int)×(Int)×(Int)×(Int)×(Int)×(Int)×(Int)×(List Opn)×(List Pr2)×(List Opn)×(List Pr2)×Unit)→Option R) (X2:((Int)×(Int)×(Int)×(Int)×(Int)×(Int)×(Int)×(Int)×(Int)×(Int)×(Int)×(Int)×(Int)×(Int)×(Int)×(Int)×(Int)×(Int)×(Int)×(List Opn)×(List Pr2)×(List Opn)×(List Pr2)×Unit)→Option R) (v8:List ByteArray) (v11:Int) (b0_0:Int) (b0_1:Int) (b0_2:Int) (b0_3:Int) (b0_4:Int) (b0_5:Int) (b0_6:Int) (b0_7:Int) (b0_8:Int) (b0_9:List Pr2) (b1_0:Int) (b1_1:Int) (b1_2:Int) (b1_3:Int) (b1_4:Int) (b1_5:Int) (b1_6:Int) (b1_7:Int) (b1_8:Int) (b1_9:Int) (b2_0:Int) (b2_1:Int) (b2_2:Int) (b2_3:Int) (b2_4:Int) (b2_5:Int) (b2_6:Int) (b2_7:Int) (b2_8:Int) (r3:List Opn) (r4:List Pr2) (r5:List Opn) (r6:List Pr2):Option R:=
 bif decide (v11 < nI v8.length) then bif decide (0≤v11) then bif decide (v11 < nI v8.length) then bif decide ((r3.length + [(false,IntKind.i64.wrap (Bd b0_1 b0_4 + b2_7),v8.getD v11.toNat (ByteArray.mk #[]),())].length) * 32≤140737488355328) then NX (v8,IntKind.i64.wrap (v11 + 1),b0_0,b0_1,b0_2,b0_3,b0_4,b0_5,b0_6,b0_7,b0_8,b0_9,b1_0,b1_1,b1_2,b1_3,b1_4,b1_5,b1_6,b1_7,b1_8,b1_9,b2_0,b2_1,b2_2,b2_3,b2_4,b2_5,b2_6,IntKind.i64.wrap (b2_7 + 1),IntKind.i64.wrap (b2_8 + 1),r3++[(false,IntKind.i64.wrap (Bd b0_1 b0_4 + b2_7),v8.getD v11.toNat (ByteArray.mk #[]),())],r4,r5,r6,()) else none else none else none else X2 (b1_0,b1_1,b1_2,b1_3,b1_4,b1_5,b1_6,b1_7,b1_8,b1_9,b2_0,b2_1,b2_2,b2_3,b2_4,b2_5,b2_6,b2_7,b2_8,r3,r4,r5,r6,())
noncomputable def Ca:Nat→(List ByteArray)→(Int)→(Int)→(Int)→(Int)→(Int)→(Int)→(Int)→(Int)→(Int)→(Int)→(List Pr2)→(Int)→(Int)→(Int)→(Int)→(Int)→(Int)→(Int)→(Int)→(Int)→(Int)→(Int)→(Int)→(Int)→(Int)→(Int)→(Int)→(Int)→(Int)→(Int)→(List Opn)→(List Pr2)→(List Opn)→(List Pr2) →  Option ((Int)×(Int)×(Int)×(Int)×(Int)×(Int)×(Int)×(Int)×(Int)×(Int)×(Int)×(Int)×(Int)×(Int)×(Int)×(Int)×(Int)×(Int)×(Int)×(List Opn)×(List Pr2)×(List Opn)×(List Pr2)×Unit)
 | 0,_,_,_,_,_,_,_,_,_,_,_,_,_,_,_,_,_,_,_,_,_,_,_,_,_,_,_,_,_,_,_,_,_,_,_=>none
 | m + 1,v8,v11,b0_0,b0_1,b0_2,b0_3,b0_4,b0_5,b0_6,b0_7,b0_8,b0_9,b1_0,b1_1,b1_2,b1_3,b1_4,b1_5,b1_6,b1_7,b1_8,b1_9,b2_0,b2_1,b2_2,b2_3,b2_4,b2_5,b2_6,b2_7,b2_8,r3,r4,r5,r6=>Ih  (fun d=>Ca m d.1 d.2.1 d.2.2.1 d.2.2.2.1 d.2.2.2.2.1 d.2.2.2.2.2.1 d.2.2.2.2.2.2.1 d.2.2.2.2.2.2.2.1 d.2.2.2.2.2.2.2.2.1 d.2.2.2.2.2.2.2.2.2.1 d.2.2.2.2.2.2.2.2.2.2.1 d.2.2.2.2.2.2.2.2.2.2.2.1 d.2.2.2.2.2.2.2.2.2.2.2.2.1 d.2.2.2.2.2.2.2.2.2.2.2.2.2.1 d.2.2.2.2.2.2.2.2.2.2.2.2.2.2.1 d.2.2.2.2.2.2.2.2.2.2.2.2.2.2.2.1 d.2.2.2.2.2.2.2.2.2.2.2.2.2.2.2.2.1 d.2.2.2.2.2.2.2.2.2.2.2.2.2.2.2.2.2.1 d.2.2.2.2.2.2.2.2.2.2.2.2.2.2.2.2.2.2.1 d.2.2.2.2.2.2.2.2.2.2.2.2.2.2.2.2.2.2.2.1 d.2.2.2.2.2.2.2.2.2.2.2.2.2.2.2.2.2.2.2.2.1 d.2.2.2.2.2.2.2.2.2.2.2.2.2.2.2.2.2.2.2.2.2.1 d.2.2.2.2.2.2.2.2.2.2.2.2.2.2.2.2.2.2.2.2.2.2.1 d.2.2.2.2.2.2.2.2.2.2.2.2.2.2.2.2.2.2.2.2.2.2.2.1 d.2.2.2.2.2.2.2.2.2.2.2.2.2.2.2.2.2.2.2.2.2.2.2.2.1 d.2.2.2.2.2.2.2.2.2.2.2.2.2.2.2.2.2.2.2.2.2.2.2.2.2.1 d.2.2.2.2.2.2.2.2.2.2.2.2.2.2.2.2.2.2.2.2.2.2.2.2.2.2.1 d.2.2.2.2.2.2.2.2.2.2.2.2.2.2.2.2.2.2.2.2.2.2.2.2.2.2.2.1 d.2.2.2.2.2.2.2.2.2.2.2.2.2.2.2.2.2.2.2.2.2.2.2.2.2.2.2.2.1 d.2.2.2.2.2.2.2.2.2.2.2.2.2.2.2.2.2.2.2.2.2.2.2.2.2.2.2.2.2.1 d.2.2.2.2.2.2.2.2.2.2.2.2.2.2.2.2.2.2.2.2.2.2.2.2.2.2.2.2.2.2.1 d.2.2.2.2.2.2.2.2.2.2.2.2.2.2.2.2.2.2.2.2.2.2.2.2.2.2.2.2.2.2.2.1 d.2.2.2.2.2.2.2.2.2.2.2.2.2.2.2.2.2.2.2.2.2.2.2.2.2.2.2.2.2.2.2.2.1 d.2.2.2.2.2.2.2.2.2.2.2.2.2.2.2.2.2.2.2.2.2.2.2.2.2.2.2.2.2.2.2.2.2.1 d.2.2.2.2.2.2.2.2.2.2.2.2.2.2.2.2.2.2.2.2.2.2.2.2.2.2.2.2.2.2.2.2.2.2.1) (fun d=>some (d)) v8 v11 b0_0 b0_1 b0_2 b0_3 b0_4 b0_5 b0_6 b0_7 b0_8 b0_9 b1_0 b1_1 b1_2 b1_3 b1_4 b1_5 b1_6 b1_7 b1_8 b1_9 b2_0 b2_1 b2_2 b2_3 b2_4 b2_5 b2_6 b2_7 b2_8 r3 r4 r5 r6
noncomputable def Sg (a0:Sto) (a1:List Chg):Option ((((Int)×(Int)×(Int)×(Int)×(Int)×(Int)×(Int)×(Int)×(Int)×(Int)×(List Pr2)×(List Opn)×Unit)×(Unit))):=
 bif !Ez a0 then some ((1,0,0,0,0,0,0,0,0,0,[],[],()),()) else bif !F8 a1 then some ((1,0,0,0,0,0,0,0,0,0,[],[],()),()) else bif (Cw a0.2.2.2.2.2.2.1 a1).2 != 0 then some ((2,0,0,0,0,0,0,0,0,0,[],[],()),()) else bif decide (Jt (Cw a0.2.2.2.2.2.2.1 a1).1 a0.1 > IntKind.i64.wrap (Ap a0.2.1 - 1)) then some ((3,0,0,0,0,0,0,0,0,0,[],[],()),()) else ((Mu (C2 a1) a0.2.2.1 (IntKind.i64.wrap (a0.2.2.2.1.2.2.1 + a0.2.2.2.2.1)) a0.1).bind fun val=>some ((val,()),())).bind fun val=>bif decide (nI (List.length val.1.1) > IntKind.i64.wrap (Ap a0.2.1 - a0.2.2.2.2.1)) then some ((4,0,0,0,0,0,0,0,0,0,[],[],()),()) else ((fun d=>Ca (Gb d.1 d.2.1 d.2.2.1 d.2.2.2.1 d.2.2.2.2.1 d.2.2.2.2.2.1 d.2.2.2.2.2.2.1 d.2.2.2.2.2.2.2.1 d.2.2.2.2.2.2.2.2.1 d.2.2.2.2.2.2.2.2.2.1 d.2.2.2.2.2.2.2.2.2.2.1 d.2.2.2.2.2.2.2.2.2.2.2.1 d.2.2.2.2.2.2.2.2.2.2.2.2.1 d.2.2.2.2.2.2.2.2.2.2.2.2.2.1 d.2.2.2.2.2.2.2.2.2.2.2.2.2.2.1 d.2.2.2.2.2.2.2.2.2.2.2.2.2.2.2.1 d.2.2.2.2.2.2.2.2.2.2.2.2.2.2.2.2.1 d.2.2.2.2.2.2.2.2.2.2.2.2.2.2.2.2.2.1 d.2.2.2.2.2.2.2.2.2.2.2.2.2.2.2.2.2.2.1 d.2.2.2.2.2.2.2.2.2.2.2.2.2.2.2.2.2.2.2.1 d.2.2.2.2.2.2.2.2.2.2.2.2.2.2.2.2.2.2.2.2.1 d.2.2.2.2.2.2.2.2.2.2.2.2.2.2.2.2.2.2.2.2.2.1 d.2.2.2.2.2.2.2.2.2.2.2.2.2.2.2.2.2.2.2.2.2.2.1 d.2.2.2.2.2.2.2.2.2.2.2.2.2.2.2.2.2.2.2.2.2.2.2.1 d.2.2.2.2.2.2.2.2.2.2.2.2.2.2.2.2.2.2.2.2.2.2.2.2.1 d.2.2.2.2.2.2.2.2.2.2.2.2.2.2.2.2.2.2.2.2.2.2.2.2.2.1 d.2.2.2.2.2.2.2.2.2.2.2.2.2.2.2.2.2.2.2.2.2.2.2.2.2.2.1 d.2.2.2.2.2.2.2.2.2.2.2.2.2.2.2.2.2.2.2.2.2.2.2.2.2.2.2.1 d.2.2.2.2.2.2.2.2.2.2.2.2.2.2.2.2.2.2.2.2.2.2.2.2.2.2.2.2.1 d.2.2.2.2.2.2.2.2.2.2.2.2.2.2.2.2.2.2.2.2.2.2.2.2.2.2.2.2.2.1 d.2.2.2.2.2.2.2.2.2.2.2.2.2.2.2.2.2.2.2.2.2.2.2.2.2.2.2.2.2.2.1 d.2.2.2.2.2.2.2.2.2.2.2.2.2.2.2.2.2.2.2.2.2.2.2.2.2.2.2.2.2.2.2.1 d.2.2.2.2.2.2.2.2.2.2.2.2.2.2.2.2.2.2.2.2.2.2.2.2.2.2.2.2.2.2.2.2.1 d.2.2.2.2.2.2.2.2.2.2.2.2.2.2.2.2.2.2.2.2.2.2.2.2.2.2.2.2.2.2.2.2.2.1 d.2.2.2.2.2.2.2.2.2.2.2.2.2.2.2.2.2.2.2.2.2.2.2.2.2.2.2.2.2.2.2.2.2.2.1) d.1 d.2.1 d.2.2.1 d.2.2.2.1 d.2.2.2.2.1 d.2.2.2.2.2.1 d.2.2.2.2.2.2.1 d.2.2.2.2.2.2.2.1 d.2.2.2.2.2.2.2.2.1 d.2.2.2.2.2.2.2.2.2.1 d.2.2.2.2.2.2.2.2.2.2.1 d.2.2.2.2.2.2.2.2.2.2.2.1 d.2.2.2.2.2.2.2.2.2.2.2.2.1 d.2.2.2.2.2.2.2.2.2.2.2.2.2.1 d.2.2.2.2.2.2.2.2.2.2.2.2.2.2.1 d.2.2.2.2.2.2.2.2.2.2.2.2.2.2.2.1 d.2.2.2.2.2.2.2.2.2.2.2.2.2.2.2.2.1 d.2.2.2.2.2.2.2.2.2.2.2.2.2.2.2.2.2.1 d.2.2.2.2.2.2.2.2.2.2.2.2.2.2.2.2.2.2.1 d.2.2.2.2.2.2.2.2.2.2.2.2.2.2.2.2.2.2.2.1 d.2.2.2.2.2.2.2.2.2.2.2.2.2.2.2.2.2.2.2.2.1 d.2.2.2.2.2.2.2.2.2.2.2.2.2.2.2.2.2.2.2.2.2.1 d.2.2.2.2.2.2.2.2.2.2.2.2.2.2.2.2.2.2.2.2.2.2.1 d.2.2.2.2.2.2.2.2.2.2.2.2.2.2.2.2.2.2.2.2.2.2.2.1 d.2.2.2.2.2.2.2.2.2.2.2.2.2.2.2.2.2.2.2.2.2.2.2.2.1 d.2.2.2.2.2.2.2.2.2.2.2.2.2.2.2.2.2.2.2.2.2.2.2.2.2.1 d.2.2.2.2.2.2.2.2.2.2.2.2.2.2.2.2.2.2.2.2.2.2.2.2.2.2.1 d.2.2.2.2.2.2.2.2.2.2.2.2.2.2.2.2.2.2.2.2.2.2.2.2.2.2.2.1 d.2.2.2.2.2.2.2.2.2.2.2.2.2.2.2.2.2.2.2.2.2.2.2.2.2.2.2.2.1 d.2.2.2.2.2.2.2.2.2.2.2.2.2.2.2.2.2.2.2.2.2.2.2.2.2.2.2.2.2.1 d.2.2.2.2.2.2.2.2.2.2.2.2.2.2.2.2.2.2.2.2.2.2.2.2.2.2.2.2.2.2.1 d.2.2.2.2.2.2.2.2.2.2.2.2.2.2.2.2.2.2.2.2.2.2.2.2.2.2.2.2.2.2.2.1 d.2.2.2.2.2.2.2.2.2.2.2.2.2.2.2.2.2.2.2.2.2.2.2.2.2.2.2.2.2.2.2.2.1 d.2.2.2.2.2.2.2.2.2.2.2.2.2.2.2.2.2.2.2.2.2.2.2.2.2.2.2.2.2.2.2.2.2.1 d.2.2.2.2.2.2.2.2.2.2.2.2.2.2.2.2.2.2.2.2.2.2.2.2.2.2.2.2.2.2.2.2.2.2.1) (val.1.1,0,a0.1,a0.2.1,a0.2.2.1,a0.2.2.2.1.1,a0.2.2.2.1.2.1,a0.2.2.2.1.2.2.1,a0.2.2.2.1.2.2.2.1,a0.2.2.2.2.1,a0.2.2.2.2.2.1,a0.2.2.2.2.2.2.1.1,0,0,0,0,0,0,0,0,0,0,a0.1,a0.2.1,a0.2.2.1,a0.2.2.2.1.1,a0.2.2.2.1.2.1,a0.2.2.2.1.2.2.1,a0.2.2.2.1.2.2.2.1,a0.2.2.2.2.1,a0.2.2.2.2.2.1,[],[],[],(Cw a0.2.2.2.2.2.2.1 a1).1)).bind fun val=>some ((0,val.2.2.2.2.2.2.2.2.2.2.1,val.2.2.2.2.2.2.2.2.2.2.2.1,val.2.2.2.2.2.2.2.2.2.2.2.2.1,val.2.2.2.2.2.2.2.2.2.2.2.2.2.1,val.2.2.2.2.2.2.2.2.2.2.2.2.2.2.1,val.2.2.2.2.2.2.2.2.2.2.2.2.2.2.2.1,val.2.2.2.2.2.2.2.2.2.2.2.2.2.2.2.2.1,val.2.2.2.2.2.2.2.2.2.2.2.2.2.2.2.2.2.1,val.2.2.2.2.2.2.2.2.2.2.2.2.2.2.2.2.2.2.1,val.2.2.2.2.2.2.2.2.2.2.2.2.2.2.2.2.2.2.2.2.2.2.1,val.2.2.2.2.2.2.2.2.2.2.2.2.2.2.2.2.2.2.2.1,()),())
theorem Aoc (p0 p1 p2 p3 p4 p5 p6 p7 p8 q0 q1 q2 q3 q4 q5 q6 q7 q8:Int) (p9 r6:List Pr2) (L:List ByteArray) (hL:L.length≤4001) (hH:0≤p4∧p4≤1) (hU:0≤q7∧q7≤99) (hV:0≤q8∧q8≤99):
  Ca (Gb L 0 p0 p1 p2 p3 p4 p5 p6 p7 p8 p9 0 0 0 0 0 0 0 0 0 0 q0 q1 q2 q3 q4 q5 q6 q7 q8 [] [] [] r6) L 0 p0 p1 p2 p3 p4 p5 p6 p7 p8 p9 0 0 0 0 0 0 0 0 0 0 q0 q1 q2 q3 q4 q5 q6 q7 q8 [] [] [] r6=some (0,0,0,0,0,0,0,0,0,0,q0,q1,q2,q3,q4,q5,q6,q7 + nI L.length,q8 + nI L.length,(F5 (Bx p4 p1 + q7) L),[],[],r6,()):=by
 have hm:=Ajt (n:=p1) hH
 have e0:Bd p1 p4=Bx p4 p1:=by
  show IntKind.i64.wrap (2 + IntKind.i64.wrap (p4 * Am p1))=2 + p4 * Am p1
  rw [Ag (n:=p4 * Am p1) (by omega) (by omega),Ag (by omega) (by omega)]
 have hB:0≤Bx p4 p1∧Bx p4 p1≤101:=by unfold Bx; omega
 have hL:=Gi (xs:=L) z0 (fun i (r:List Opn)=>i≤4001∧r.length=i) (fun (i:Nat) x r=>r++[Afl (Bx p4 p1 + q7 + (i:Int)) x]) (g:=fun m (i:Int) r=>Ca m L i p0 p1 p2 p3 p4 p5 p6 p7 p8 p9 0 0 0 0 0 0 0 0 0 0 q0 q1 q2 q3 q4 q5 q6 (q7 + i) (q8 + i) r [] [] r6) (ok:=fun r=>(0,0,0,0,0,0,0,0,0,0,q0,q1,q2,q3,q4,q5,q6,q7 + nI L.length,q8 + nI L.length,r,[],[],r6,())) (fun m i r hi hI=>by
   show Ca (m + 1) L i p0 p1 p2 p3 p4 p5 p6 p7 p8 p9 0 0 0 0 0 0 0 0 0 0 q0 q1 q2 q3 q4 q5 q6 (q7 + (i:Int)) (q8 + (i:Int)) r [] [] r6=Ca m L ((i + 1:Nat):Int) p0 p1 p2 p3 p4 p5 p6 p7 p8 p9 0 0 0 0 0 0 0 0 0 0 q0 q1 q2 q3 q4 q5 q6 (q7 + ((i + 1:Nat):Int)) (q8 + ((i + 1:Nat):Int)) _ [] [] r6
   simp only [Ca,Ih]
   obtain ⟨h1,h2⟩:=hI
   rw [W1 hi,H2,wI (show i < 4611686018427387904 by omega),Int.toNat_natCast,e0,Ag (n:=Bx p4 p1 + (q7 + (i:Int))) (by omega) (by omega),Ag (n:=q7 + (i:Int) + 1) (by omega) (by omega),Ag (n:=q8 + (i:Int) + 1) (by omega) (by omega),List.length_singleton,decide_eq_true (show (r.length + 1) * 32≤140737488355328 by omega),
    show q7 + (i:Int) + 1=q7 + ((i + 1:Nat):Int) by omega,show q8 + (i:Int) + 1=q8 + ((i + 1:Nat):Int) by omega,show Bx p4 p1 + (q7 + (i:Int))=Bx p4 p1 + q7 + (i:Int) by omega]
   rfl) (fun i r hi hI=>⟨by omega,by rw [List.length_append,List.length_singleton,hI.2]⟩) (fun m r hI=>by
   show Ca (m + 1) L (L.length:Int) p0 p1 p2 p3 p4 p5 p6 p7 p8 p9 0 0 0 0 0 0 0 0 0 0 q0 q1 q2 q3 q4 q5 q6 (q7 + (L.length:Int)) (q8 + (L.length:Int)) r [] [] r6=_
   simp only [Ca,Ih]
   rw [Mm]
   rfl) (Gb L 0 p0 p1 p2 p3 p4 p5 p6 p7 p8 p9 0 0 0 0 0 0 0 0 0 0 q0 q1 q2 q3 q4 q5 q6 q7 q8 [] [] [] r6) 0 [] (by omega) (by simp [Gb,nI]) ⟨by omega,rfl⟩
 rw [Ap3,List.drop_zero,List.nil_append,show Bx p4 p1 + q7 + ((0:Nat):Int)=Bx p4 p1 + q7 by omega] at hL
 simp only [show q7 + ((0:Nat):Int)=q7 by omega,show q8 + ((0:Nat):Int)=q8 by omega] at hL
 exact hL
theorem Amx (a0:Sto) (a1:List Chg):Sg a0 a1=some (((Au a0 a1).1,(Au a0 a1).2.1.1,(Au a0 a1).2.1.2.1,(Au a0 a1).2.1.2.2.1,(Au a0 a1).2.1.2.2.2.1.1,(Au a0 a1).2.1.2.2.2.1.2.1,(Au a0 a1).2.1.2.2.2.1.2.2.1,(Au a0 a1).2.1.2.2.2.1.2.2.2.1,(Au a0 a1).2.1.2.2.2.2.1,(Au a0 a1).2.1.2.2.2.2.2.1,(Au a0 a1).2.1.2.2.2.2.2.2.1.1,(Au a0 a1).2.2.1,()),(())):=by
 unfold Sg Au F6
 simp only [Ap,C2,Cw,Jt]
 show (bif !Ax a0 then _ else bif !Bb a1 then _ else _)=_
 cases hv:Ax a0 with
 | false=>rfl
 | true=>
  cases hb:Bb a1 with
  | false=>rfl
  | true=>
   simp only [Bool.not_true,cond_false]
   obtain ⟨_,_,h3,_,_,h6,_,h8,h9,_⟩:=k7 hv
   obtain ⟨r1,r2⟩:=B7 h6
   have r1:=Cy r1
   have r2:=Cy r2
   have hh:=Q7 a0.2.1
   show (bif (Dw a0.2.2.2.2.2.2.1 a1).2 != 0 then _ else _)=_
   rcases Awk h3 hb with hc | hc
   ·rw [hc]
    show (bif decide (Kj (Dw a0.2.2.2.2.2.2.1 a1).1 a0.1 > IntKind.i64.wrap (Am a0.2.1 - 1)) then _ else _)=(_:Option _)
    rw [Tn]
    show _=some (((bif decide (Kj (Dw a0.2.2.2.2.2.2.1 a1).1 a0.1 > Am a0.2.1 - 1) then Yo 3 else _:Don).1,_),_)
    cases hr:decide (Kj (Dw a0.2.2.2.2.2.2.1 a1).1 a0.1 > Am a0.2.1 - 1) with
    | true=>simp only [cond_true,bne_self_eq_false,cond_false]; rfl
    | false=>
     simp only [cond_false,bne_self_eq_false]
     have hl:=Ajs a1 a0.2.2.1 (a0.2.2.2.1.2.2.1 + a0.2.2.2.2.1) a0.1
     have e1:Mu (Ee a1) a0.2.2.1 (a0.2.2.2.1.2.2.1 + a0.2.2.2.2.1) a0.1=some (Gz a0 a1):=if_pos (Nat.le_trans (Kx _) (by decide))
     rw [Ag (n:=a0.2.2.2.1.2.2.1 + a0.2.2.2.2.1) (by omega) (by omega),e1]
     simp only [Option.bind_some]
     have hw:IntKind.i64.wrap (Am a0.2.1 - a0.2.2.2.2.1)=Am a0.2.1 - a0.2.2.2.2.1:=Ag (by omega) (by omega)
     simp only [hw]
     cases hq:decide (nI (Gz a0 a1).length > Am a0.2.1 - a0.2.2.2.2.1) with
     | true=>rfl
     | false=>
      simp only [cond_false]
      have hl:(Gz a0 a1).length≤4001:=hl
      refine W5 (Aoc a0.1 a0.2.1 a0.2.2.1 a0.2.2.2.1.1 a0.2.2.2.1.2.1 a0.2.2.2.1.2.2.1 a0.2.2.2.1.2.2.2.1 a0.2.2.2.2.1 a0.2.2.2.2.2.1 a0.1 a0.2.1 a0.2.2.1 a0.2.2.2.1.1 a0.2.2.2.1.2.1 a0.2.2.2.1.2.2.1 a0.2.2.2.1.2.2.2.1 a0.2.2.2.2.1 a0.2.2.2.2.2.1 a0.2.2.2.2.2.2.1.1 (Dw a0.2.2.2.2.2.2.1 a1).1.1 (Gz a0 a1) hl r1 ⟨by omega,by omega⟩ ⟨by omega,by omega⟩) ?_
      rfl
   ·rw [hc]
    rfl
noncomputable def T8 {R:Type} (k:Kt R):=(I1 (pa_spec_Commit 17) (.exit 0) 2 k)
noncomputable def w9 {R:Type}:Lt R pa_spec_Commit:=(Ed (pat:=pa_spec_Commit) 17 (fun d k=>(Ca (Gb d.1 d.2.1 d.2.2.1 d.2.2.2.1 d.2.2.2.2.1 d.2.2.2.2.2.1 d.2.2.2.2.2.2.1 d.2.2.2.2.2.2.2.1 d.2.2.2.2.2.2.2.2.1 d.2.2.2.2.2.2.2.2.2.1 d.2.2.2.2.2.2.2.2.2.2.1 d.2.2.2.2.2.2.2.2.2.2.2.1 d.2.2.2.2.2.2.2.2.2.2.2.2.1 d.2.2.2.2.2.2.2.2.2.2.2.2.2.1 d.2.2.2.2.2.2.2.2.2.2.2.2.2.2.1 d.2.2.2.2.2.2.2.2.2.2.2.2.2.2.2.1 d.2.2.2.2.2.2.2.2.2.2.2.2.2.2.2.2.1 d.2.2.2.2.2.2.2.2.2.2.2.2.2.2.2.2.2.1 d.2.2.2.2.2.2.2.2.2.2.2.2.2.2.2.2.2.2.1 d.2.2.2.2.2.2.2.2.2.2.2.2.2.2.2.2.2.2.2.1 d.2.2.2.2.2.2.2.2.2.2.2.2.2.2.2.2.2.2.2.2.1 d.2.2.2.2.2.2.2.2.2.2.2.2.2.2.2.2.2.2.2.2.2.1 d.2.2.2.2.2.2.2.2.2.2.2.2.2.2.2.2.2.2.2.2.2.2.1 d.2.2.2.2.2.2.2.2.2.2.2.2.2.2.2.2.2.2.2.2.2.2.2.1 d.2.2.2.2.2.2.2.2.2.2.2.2.2.2.2.2.2.2.2.2.2.2.2.2.1 d.2.2.2.2.2.2.2.2.2.2.2.2.2.2.2.2.2.2.2.2.2.2.2.2.2.1 d.2.2.2.2.2.2.2.2.2.2.2.2.2.2.2.2.2.2.2.2.2.2.2.2.2.2.1 d.2.2.2.2.2.2.2.2.2.2.2.2.2.2.2.2.2.2.2.2.2.2.2.2.2.2.2.1 d.2.2.2.2.2.2.2.2.2.2.2.2.2.2.2.2.2.2.2.2.2.2.2.2.2.2.2.2.1 d.2.2.2.2.2.2.2.2.2.2.2.2.2.2.2.2.2.2.2.2.2.2.2.2.2.2.2.2.2.1 d.2.2.2.2.2.2.2.2.2.2.2.2.2.2.2.2.2.2.2.2.2.2.2.2.2.2.2.2.2.2.1 d.2.2.2.2.2.2.2.2.2.2.2.2.2.2.2.2.2.2.2.2.2.2.2.2.2.2.2.2.2.2.2.1 d.2.2.2.2.2.2.2.2.2.2.2.2.2.2.2.2.2.2.2.2.2.2.2.2.2.2.2.2.2.2.2.2.1 d.2.2.2.2.2.2.2.2.2.2.2.2.2.2.2.2.2.2.2.2.2.2.2.2.2.2.2.2.2.2.2.2.2.1 d.2.2.2.2.2.2.2.2.2.2.2.2.2.2.2.2.2.2.2.2.2.2.2.2.2.2.2.2.2.2.2.2.2.2.1) d.1 d.2.1 d.2.2.1 d.2.2.2.1 d.2.2.2.2.1 d.2.2.2.2.2.1 d.2.2.2.2.2.2.1 d.2.2.2.2.2.2.2.1 d.2.2.2.2.2.2.2.2.1 d.2.2.2.2.2.2.2.2.2.1 d.2.2.2.2.2.2.2.2.2.2.1 d.2.2.2.2.2.2.2.2.2.2.2.1 d.2.2.2.2.2.2.2.2.2.2.2.2.1 d.2.2.2.2.2.2.2.2.2.2.2.2.2.1 d.2.2.2.2.2.2.2.2.2.2.2.2.2.2.1 d.2.2.2.2.2.2.2.2.2.2.2.2.2.2.2.1 d.2.2.2.2.2.2.2.2.2.2.2.2.2.2.2.2.1 d.2.2.2.2.2.2.2.2.2.2.2.2.2.2.2.2.2.1 d.2.2.2.2.2.2.2.2.2.2.2.2.2.2.2.2.2.2.1 d.2.2.2.2.2.2.2.2.2.2.2.2.2.2.2.2.2.2.2.1 d.2.2.2.2.2.2.2.2.2.2.2.2.2.2.2.2.2.2.2.2.1 d.2.2.2.2.2.2.2.2.2.2.2.2.2.2.2.2.2.2.2.2.2.1 d.2.2.2.2.2.2.2.2.2.2.2.2.2.2.2.2.2.2.2.2.2.2.1 d.2.2.2.2.2.2.2.2.2.2.2.2.2.2.2.2.2.2.2.2.2.2.2.1 d.2.2.2.2.2.2.2.2.2.2.2.2.2.2.2.2.2.2.2.2.2.2.2.2.1 d.2.2.2.2.2.2.2.2.2.2.2.2.2.2.2.2.2.2.2.2.2.2.2.2.2.1 d.2.2.2.2.2.2.2.2.2.2.2.2.2.2.2.2.2.2.2.2.2.2.2.2.2.2.1 d.2.2.2.2.2.2.2.2.2.2.2.2.2.2.2.2.2.2.2.2.2.2.2.2.2.2.2.1 d.2.2.2.2.2.2.2.2.2.2.2.2.2.2.2.2.2.2.2.2.2.2.2.2.2.2.2.2.1 d.2.2.2.2.2.2.2.2.2.2.2.2.2.2.2.2.2.2.2.2.2.2.2.2.2.2.2.2.2.1 d.2.2.2.2.2.2.2.2.2.2.2.2.2.2.2.2.2.2.2.2.2.2.2.2.2.2.2.2.2.2.1 d.2.2.2.2.2.2.2.2.2.2.2.2.2.2.2.2.2.2.2.2.2.2.2.2.2.2.2.2.2.2.2.1 d.2.2.2.2.2.2.2.2.2.2.2.2.2.2.2.2.2.2.2.2.2.2.2.2.2.2.2.2.2.2.2.2.1 d.2.2.2.2.2.2.2.2.2.2.2.2.2.2.2.2.2.2.2.2.2.2.2.2.2.2.2.2.2.2.2.2.2.1 d.2.2.2.2.2.2.2.2.2.2.2.2.2.2.2.2.2.2.2.2.2.2.2.2.2.2.2.2.2.2.2.2.2.2.1).bind (T8 k)) Hu)
theorem Z9:A2 Tryz.prog ta_spec_Commit:=A7 ⟨Jy,Jb,W9,Sb,Us,Mr,Ur,Ahq,Kk,trivial⟩
theorem Adx {R:Type}:A3 Tryz.prog R 101 0 pa_spec_Commit w9 co_spec_Commit_17:=
 B3 (cfg:=⟨ta_spec_Commit,0,101,pa_spec_Commit⟩) 17 [] (fun NX X d=>Ih  NX X d.1 d.2.1 d.2.2.1 d.2.2.2.1 d.2.2.2.2.1 d.2.2.2.2.2.1 d.2.2.2.2.2.2.1 d.2.2.2.2.2.2.2.1 d.2.2.2.2.2.2.2.2.1 d.2.2.2.2.2.2.2.2.2.1 d.2.2.2.2.2.2.2.2.2.2.1 d.2.2.2.2.2.2.2.2.2.2.2.1 d.2.2.2.2.2.2.2.2.2.2.2.2.1 d.2.2.2.2.2.2.2.2.2.2.2.2.2.1 d.2.2.2.2.2.2.2.2.2.2.2.2.2.2.1 d.2.2.2.2.2.2.2.2.2.2.2.2.2.2.2.1 d.2.2.2.2.2.2.2.2.2.2.2.2.2.2.2.2.1 d.2.2.2.2.2.2.2.2.2.2.2.2.2.2.2.2.2.1 d.2.2.2.2.2.2.2.2.2.2.2.2.2.2.2.2.2.2.1 d.2.2.2.2.2.2.2.2.2.2.2.2.2.2.2.2.2.2.2.1 d.2.2.2.2.2.2.2.2.2.2.2.2.2.2.2.2.2.2.2.2.1 d.2.2.2.2.2.2.2.2.2.2.2.2.2.2.2.2.2.2.2.2.2.1 d.2.2.2.2.2.2.2.2.2.2.2.2.2.2.2.2.2.2.2.2.2.2.1 d.2.2.2.2.2.2.2.2.2.2.2.2.2.2.2.2.2.2.2.2.2.2.2.1 d.2.2.2.2.2.2.2.2.2.2.2.2.2.2.2.2.2.2.2.2.2.2.2.2.1 d.2.2.2.2.2.2.2.2.2.2.2.2.2.2.2.2.2.2.2.2.2.2.2.2.2.1 d.2.2.2.2.2.2.2.2.2.2.2.2.2.2.2.2.2.2.2.2.2.2.2.2.2.2.1 d.2.2.2.2.2.2.2.2.2.2.2.2.2.2.2.2.2.2.2.2.2.2.2.2.2.2.2.1 d.2.2.2.2.2.2.2.2.2.2.2.2.2.2.2.2.2.2.2.2.2.2.2.2.2.2.2.2.1 d.2.2.2.2.2.2.2.2.2.2.2.2.2.2.2.2.2.2.2.2.2.2.2.2.2.2.2.2.2.1 d.2.2.2.2.2.2.2.2.2.2.2.2.2.2.2.2.2.2.2.2.2.2.2.2.2.2.2.2.2.2.1 d.2.2.2.2.2.2.2.2.2.2.2.2.2.2.2.2.2.2.2.2.2.2.2.2.2.2.2.2.2.2.2.1 d.2.2.2.2.2.2.2.2.2.2.2.2.2.2.2.2.2.2.2.2.2.2.2.2.2.2.2.2.2.2.2.2.1 d.2.2.2.2.2.2.2.2.2.2.2.2.2.2.2.2.2.2.2.2.2.2.2.2.2.2.2.2.2.2.2.2.2.1 d.2.2.2.2.2.2.2.2.2.2.2.2.2.2.2.2.2.2.2.2.2.2.2.2.2.2.2.2.2.2.2.2.2.2.1) (fun m d=>Ca m d.1 d.2.1 d.2.2.1 d.2.2.2.1 d.2.2.2.2.1 d.2.2.2.2.2.1 d.2.2.2.2.2.2.1 d.2.2.2.2.2.2.2.1 d.2.2.2.2.2.2.2.2.1 d.2.2.2.2.2.2.2.2.2.1 d.2.2.2.2.2.2.2.2.2.2.1 d.2.2.2.2.2.2.2.2.2.2.2.1 d.2.2.2.2.2.2.2.2.2.2.2.2.1 d.2.2.2.2.2.2.2.2.2.2.2.2.2.1 d.2.2.2.2.2.2.2.2.2.2.2.2.2.2.1 d.2.2.2.2.2.2.2.2.2.2.2.2.2.2.2.1 d.2.2.2.2.2.2.2.2.2.2.2.2.2.2.2.2.1 d.2.2.2.2.2.2.2.2.2.2.2.2.2.2.2.2.2.1 d.2.2.2.2.2.2.2.2.2.2.2.2.2.2.2.2.2.2.1 d.2.2.2.2.2.2.2.2.2.2.2.2.2.2.2.2.2.2.2.1 d.2.2.2.2.2.2.2.2.2.2.2.2.2.2.2.2.2.2.2.2.1 d.2.2.2.2.2.2.2.2.2.2.2.2.2.2.2.2.2.2.2.2.2.1 d.2.2.2.2.2.2.2.2.2.2.2.2.2.2.2.2.2.2.2.2.2.2.1 d.2.2.2.2.2.2.2.2.2.2.2.2.2.2.2.2.2.2.2.2.2.2.2.1 d.2.2.2.2.2.2.2.2.2.2.2.2.2.2.2.2.2.2.2.2.2.2.2.2.1 d.2.2.2.2.2.2.2.2.2.2.2.2.2.2.2.2.2.2.2.2.2.2.2.2.2.1 d.2.2.2.2.2.2.2.2.2.2.2.2.2.2.2.2.2.2.2.2.2.2.2.2.2.2.1 d.2.2.2.2.2.2.2.2.2.2.2.2.2.2.2.2.2.2.2.2.2.2.2.2.2.2.2.1 d.2.2.2.2.2.2.2.2.2.2.2.2.2.2.2.2.2.2.2.2.2.2.2.2.2.2.2.2.1 d.2.2.2.2.2.2.2.2.2.2.2.2.2.2.2.2.2.2.2.2.2.2.2.2.2.2.2.2.2.1 d.2.2.2.2.2.2.2.2.2.2.2.2.2.2.2.2.2.2.2.2.2.2.2.2.2.2.2.2.2.2.1 d.2.2.2.2.2.2.2.2.2.2.2.2.2.2.2.2.2.2.2.2.2.2.2.2.2.2.2.2.2.2.2.1 d.2.2.2.2.2.2.2.2.2.2.2.2.2.2.2.2.2.2.2.2.2.2.2.2.2.2.2.2.2.2.2.2.1 d.2.2.2.2.2.2.2.2.2.2.2.2.2.2.2.2.2.2.2.2.2.2.2.2.2.2.2.2.2.2.2.2.2.1 d.2.2.2.2.2.2.2.2.2.2.2.2.2.2.2.2.2.2.2.2.2.2.2.2.2.2.2.2.2.2.2.2.2.2.1) (fun d=>Gb d.1 d.2.1 d.2.2.1 d.2.2.2.1 d.2.2.2.2.1 d.2.2.2.2.2.1 d.2.2.2.2.2.2.1 d.2.2.2.2.2.2.2.1 d.2.2.2.2.2.2.2.2.1 d.2.2.2.2.2.2.2.2.2.1 d.2.2.2.2.2.2.2.2.2.2.1 d.2.2.2.2.2.2.2.2.2.2.2.1 d.2.2.2.2.2.2.2.2.2.2.2.2.1 d.2.2.2.2.2.2.2.2.2.2.2.2.2.1 d.2.2.2.2.2.2.2.2.2.2.2.2.2.2.1 d.2.2.2.2.2.2.2.2.2.2.2.2.2.2.2.1 d.2.2.2.2.2.2.2.2.2.2.2.2.2.2.2.2.1 d.2.2.2.2.2.2.2.2.2.2.2.2.2.2.2.2.2.1 d.2.2.2.2.2.2.2.2.2.2.2.2.2.2.2.2.2.2.1 d.2.2.2.2.2.2.2.2.2.2.2.2.2.2.2.2.2.2.2.1 d.2.2.2.2.2.2.2.2.2.2.2.2.2.2.2.2.2.2.2.2.1 d.2.2.2.2.2.2.2.2.2.2.2.2.2.2.2.2.2.2.2.2.2.1 d.2.2.2.2.2.2.2.2.2.2.2.2.2.2.2.2.2.2.2.2.2.2.1 d.2.2.2.2.2.2.2.2.2.2.2.2.2.2.2.2.2.2.2.2.2.2.2.1 d.2.2.2.2.2.2.2.2.2.2.2.2.2.2.2.2.2.2.2.2.2.2.2.2.1 d.2.2.2.2.2.2.2.2.2.2.2.2.2.2.2.2.2.2.2.2.2.2.2.2.2.1 d.2.2.2.2.2.2.2.2.2.2.2.2.2.2.2.2.2.2.2.2.2.2.2.2.2.2.1 d.2.2.2.2.2.2.2.2.2.2.2.2.2.2.2.2.2.2.2.2.2.2.2.2.2.2.2.1 d.2.2.2.2.2.2.2.2.2.2.2.2.2.2.2.2.2.2.2.2.2.2.2.2.2.2.2.2.1 d.2.2.2.2.2.2.2.2.2.2.2.2.2.2.2.2.2.2.2.2.2.2.2.2.2.2.2.2.2.1 d.2.2.2.2.2.2.2.2.2.2.2.2.2.2.2.2.2.2.2.2.2.2.2.2.2.2.2.2.2.2.1 d.2.2.2.2.2.2.2.2.2.2.2.2.2.2.2.2.2.2.2.2.2.2.2.2.2.2.2.2.2.2.2.1 d.2.2.2.2.2.2.2.2.2.2.2.2.2.2.2.2.2.2.2.2.2.2.2.2.2.2.2.2.2.2.2.2.1 d.2.2.2.2.2.2.2.2.2.2.2.2.2.2.2.2.2.2.2.2.2.2.2.2.2.2.2.2.2.2.2.2.2.1 d.2.2.2.2.2.2.2.2.2.2.2.2.2.2.2.2.2.2.2.2.2.2.2.2.2.2.2.2.2.2.2.2.2.2.1) T8 Z9 trivial (fun f NX d=>by unfold Ih; simp only [Al,Ar,Ak,Option.bind_assoc,Option.bind_none,Option.bind_some]) (fun _ _ _=>by kernel_rfl)
theorem a7:B2 Tryz.prog 36 sd_spec_Commit:=
 A6 (pat:=pa_spec_Commit) [co_spec_Commit_17] w9 Z9 ⟨Adx,trivial⟩ Tryz.func36 (de:=fun x=>Sg x.1 x.2.1) (fun x r h=>(Amx x.1 x.2.1).trans h) fun _=>by kernel_rfl
def A8 (s:Sto):Don:=Rr s
def Aod:Sig:=⟨[.rd Ahx],[some 10],[.rd tI,.rd tI,.rd tI,.rd tI,.rd tI,.rd tI,.rd tI,.rd tI,.rd tI,.rd tI,.own 157 Av,.own 142 Kg],[some 12]⟩
noncomputable def sd_spec_Flush:SD:=⟨Aod,fun x=>some (((A8 x.1).1,(A8 x.1).2.1.1,(A8 x.1).2.1.2.1,(A8 x.1).2.1.2.2.1,(A8 x.1).2.1.2.2.2.1.1,(A8 x.1).2.1.2.2.2.1.2.1,(A8 x.1).2.1.2.2.2.1.2.2.1,(A8 x.1).2.1.2.2.2.1.2.2.2.1,(A8 x.1).2.1.2.2.2.2.1,(A8 x.1).2.1.2.2.2.2.2.1,(A8 x.1).2.1.2.2.2.2.2.2.1.1,(A8 x.1).2.2.1,()),(()))⟩
noncomputable def Uu (a0:Sto):Option ((((Int)×(Int)×(Int)×(Int)×(Int)×(Int)×(Int)×(Int)×(Int)×(Int)×(List Pr2)×(List Opn)×Unit)×(Unit))):=
 bif !Ez a0 then some ((1,0,0,0,0,0,0,0,0,0,[],[],()),()) else ((C1 a0.2.2.2.2.2.2.1).bind fun val=>some (val,())).bind fun val=>some ((0,a0.1,a0.2.1,a0.2.2.1,a0.2.2.2.1.1,a0.2.2.2.1.2.1,a0.2.2.2.1.2.2.1,a0.2.2.2.1.2.2.2.1,a0.2.2.2.2.1,0,val.1.1,[(true,0,ByteArray.mk #[],())],()),())
theorem Aoe (a0:Sto):Uu a0=some (((A8 a0).1,(A8 a0).2.1.1,(A8 a0).2.1.2.1,(A8 a0).2.1.2.2.1,(A8 a0).2.1.2.2.2.1.1,(A8 a0).2.1.2.2.2.1.2.1,(A8 a0).2.1.2.2.2.1.2.2.1,(A8 a0).2.1.2.2.2.1.2.2.2.1,(A8 a0).2.1.2.2.2.2.1,(A8 a0).2.1.2.2.2.2.2.1,(A8 a0).2.1.2.2.2.2.2.2.1.1,(A8 a0).2.2.1,()),(())):=by
 unfold Uu A8 Rr
 show (bif !Ax a0 then _ else _)=_
 cases hv:Ax a0 with
 | false=>rfl
 | true=>
  have e1:C1 (a0.2.2.2.2.2.2.1.1,())=some (a0.2.2.2.2.2.2.1.1,()):=if_pos (Nat.le_trans (De (k7 hv).2.2.1) (by decide))
  simp only [Bool.not_true,cond_false]
  rw [e1]
  rfl
theorem Aof:B2 Tryz.prog 37 sd_spec_Flush:=
 A6 (pat:=D3) [] Hu (A7 (l:=[(30,sd_spec_ValidStore),(77,sd_spec_l4Copy)]) ⟨Jy,Nq,trivial⟩) trivial Tryz.func37 (de:=fun x=>Uu x.1) (fun x r h=>(Aoe x.1).trans h) fun _=>by kernel_rfl
def Aw (s:Sto):Don:=Ky s
def Aih:Sig:=⟨[.rd Ahx],[some 10],[.rd tI,.rd tI,.rd tI,.rd tI,.rd tI,.rd tI,.rd tI,.rd tI,.rd tI,.rd tI,.own 157 Av,.own 142 Kg],[some 12]⟩
noncomputable def sd_spec_Compact:SD:=⟨Aih,fun x=>some (((Aw x.1).1,(Aw x.1).2.1.1,(Aw x.1).2.1.2.1,(Aw x.1).2.1.2.2.1,(Aw x.1).2.1.2.2.2.1.1,(Aw x.1).2.1.2.2.2.1.2.1,(Aw x.1).2.1.2.2.2.1.2.2.1,(Aw x.1).2.1.2.2.2.1.2.2.2.1,(Aw x.1).2.1.2.2.2.2.1,(Aw x.1).2.1.2.2.2.2.2.1,(Aw x.1).2.1.2.2.2.2.2.2.1.1,(Aw x.1).2.2.1,()),(()))⟩
noncomputable def Qb (a0:Sto):Option ((((Int)×(Int)×(Int)×(Int)×(Int)×(Int)×(Int)×(Int)×(Int)×(Int)×(List Pr2)×(List Opn)×Unit)×(Unit))):=
 bif !Ez a0 then some ((1,0,0,0,0,0,0,0,0,0,[],[],()),()) else ((Ip a0).bind fun val=>some ((val.1,val.2.1.1,val.2.1.2.1,val.2.1.2.2.1,val.2.1.2.2.2.1.1,val.2.1.2.2.2.1.2.1,val.2.1.2.2.2.1.2.2.1,val.2.1.2.2.2.1.2.2.2.1,val.2.1.2.2.2.2.1,val.2.1.2.2.2.2.2.1,val.2.1.2.2.2.2.2.2.1.1,val.2.2),())).bind fun val=>some val
theorem Aii (a0:Sto):Qb a0=some (((Aw a0).1,(Aw a0).2.1.1,(Aw a0).2.1.2.1,(Aw a0).2.1.2.2.1,(Aw a0).2.1.2.2.2.1.1,(Aw a0).2.1.2.2.2.1.2.1,(Aw a0).2.1.2.2.2.1.2.2.1,(Aw a0).2.1.2.2.2.1.2.2.2.1,(Aw a0).2.1.2.2.2.2.1,(Aw a0).2.1.2.2.2.2.2.1,(Aw a0).2.1.2.2.2.2.2.2.1.1,(Aw a0).2.2.1,()),(())):=by
 unfold Qb Aw Ky
 show (bif !Ax a0 then _ else _)=_
 cases hv:Ax a0 with
 | false=>rfl
 | true=>
  have e1:Ip (a0.1,a0.2.1,a0.2.2.1,(a0.2.2.2.1.1,a0.2.2.2.1.2.1,a0.2.2.2.1.2.2.1,a0.2.2.2.1.2.2.2.1,()),a0.2.2.2.2.1,a0.2.2.2.2.2.1,(a0.2.2.2.2.2.2.1.1,()),())=some (To a0):=if_pos (Azi hv)
  simp only [Bool.not_true,cond_false,cond_true]
  rw [e1]
  rfl
theorem Aij:B2 Tryz.prog 38 sd_spec_Compact:=
 A6 (pat:=D3) [] Hu (A7 (l:=[(30,sd_spec_ValidStore),(111,sd_spec_l6Move)]) ⟨Jy,Z8,trivial⟩) trivial Tryz.func38 (de:=fun x=>Qb x.1) (fun x r h=>(Aii x.1).trans h) fun _=>by kernel_rfl
def Amy:Sig:=⟨[.rd Fr,.rd A1h],[some 16,some 4],[.rd A29,.rd .bool],[some 12,none]⟩
noncomputable def Nz (a0:Wld) (a1:Evt):Option (((Don×(Bool)×Unit)×(Unit))):=
 bif a1.1==1 then some ((Bi a0.2.1 a0.1,!a0.2.2.1,()),()) else bif a1.1==2 then some ((Au a0.2.2.2.1 a1.2.1,a0.2.2.1,()),()) else bif a1.1==3 then some ((A8 a0.2.2.2.1,a0.2.2.1,()),()) else bif a1.1==4 then some ((Aw a0.2.2.2.1,a0.2.2.1,()),()) else some (((0,(0,0,0,(0,0,0,0,()),0,0,([],()),()),[],()),false,()),())
theorem a8:∃ f,f=@Nz:=⟨_,rfl⟩
noncomputable def m_spec_l7Call:=Classical.choose a8
theorem c7:@m_spec_l7Call=@Nz:=Classical.choose_spec a8
noncomputable def sd_spec_l7Call:SD:=⟨Amy,fun x=>m_spec_l7Call x.1 x.2.1⟩
theorem A3u {w:Wld} (h:Yp w) (e:Evt):Ai (m_spec_l7Call w e) fun q=>q.1=((Qh w e).1,(Qh w e).2,()):=by
 rw [c7]
 unfold Nz Qh
 refine Ai.cond (fun c=>Ai.some ?_) fun c=>Ai.cond (fun c2=>Ai.some ?_) fun c2=>Ai.cond (fun c3=>Ai.some ?_) fun c3=>Ai.cond (fun c4=>Ai.some ?_) fun c4=>Ai.some ?_
 ·rw [c]; rfl
 ·rw [c,c2]; rfl
 ·rw [c,c2,c3]; rfl
 ·rw [c,c2,c3,c4]; rfl
 ·rw [c,c2,c3,c4]; rfl
theorem Amz:B2 Tryz.prog 203 sd_spec_l7Call:=
 A6 (pat:=D3) [] Hu (A7 (l:=[(29,sd_spec_Open),(36,sd_spec_Commit),(37,sd_spec_Flush),(38,sd_spec_Compact)]) ⟨Ar8,a7,Aof,Aij,trivial⟩) trivial Tryz.func203 (de:=fun x=>Nz x.1 x.2.1) (fun x r h=>by have q:m_spec_l7Call x.1 x.2.1=some r:=h; rw [c7] at q; exact q) fun _=>by kernel_rfl
end Go.Proofs.YtfkefgbihlfjmaaGreat.V

