/- Pairs in the order of their keys. No condition. -/
import Derived.Test.YtfkefgbihlfjmaaGreatQS
namespace Go.Proofs.YtfkefgbihlfjmaaGreat.V
open Go Go.Proofs.YtfkefgbihlfjmaaGreat.R
set_option linter.unusedVariables false
set_option linter.unusedSimpArgs false
theorem Alp:∀ x:List UInt8,Op.bytesLess x x=false
 | []=>rfl
 | a::x=>by simp [Op.bytesLess,Alp x]
theorem Ap8:∀ {x y z:List UInt8},Op.bytesLess x y=true→Op.bytesLess y z=true→Op.bytesLess x z=true
 | [],[],_,h,_=>by simp [Op.bytesLess] at h
 | [],_::_,[],_,k=>by simp [Op.bytesLess] at k
 | [],_::_,_::_,_,_=>rfl
 | _::_,[],_,h,_=>by simp [Op.bytesLess] at h
 | _::_,_::_,[],_,k=>by simp [Op.bytesLess] at k
 | a::x,b::y,c::z,h,k=>by
  simp only [Op.bytesLess,Bool.or_eq_true,decide_eq_true_eq,Bool.and_eq_true,beq_iff_eq] at h k ⊢
  rcases h with h | ⟨rfl,h⟩
  ·rcases k with k | ⟨rfl,k⟩
   ·exact .inl (UInt8.lt_trans h k)
   ·exact .inl h
  ·rcases k with k | ⟨rfl,k⟩
   ·exact .inl k
   ·exact .inr ⟨rfl,Ap8 h k⟩
theorem Axz:∀ {x y:List UInt8},Op.bytesLess x y=false→Op.bytesLess y x=false→x=y
 | [],[],_,_=>rfl
 | [],_::_,h,_=>by simp [Op.bytesLess] at h
 | _::_,[],_,k=>by simp [Op.bytesLess] at k
 | a::x,b::y,h,k=>by
  simp only [Op.bytesLess,Bool.or_eq_false_iff,decide_eq_false_iff_not,Bool.and_eq_false_iff] at h k
  have hab:a=b:=by
   apply UInt8.le_antisymm
   ·exact UInt8.not_lt.1 k.1
   ·exact UInt8.not_lt.1 h.1
  subst hab
  have h2:Op.bytesLess x y=false:=by rcases h.2 with q | q<;>simp_all
  have k2:Op.bytesLess y x=false:=by rcases k.2 with q | q<;>simp_all
  rw [Axz h2 k2]
theorem k9 (a:ByteArray):bl a a=false:=Alp _
theorem Ac7 {a b c:ByteArray} (h:bl a b=true) (k:bl b c=true):bl a c=true:=Ap8 h k
theorem A1v {a b:ByteArray} (h:bl a b=false) (k:bl b a=false):a=b:=D8.1 (beq_iff_eq.2 (Axz h k))
theorem A54 {a b:ByteArray} (h:bl a b=true):a≠b:=fun q=>by rw [q,k9] at h; cases h
def Srt (l:List Pr2):Prop:=l.Pairwise fun a b=>bl a.1 b.1=true
theorem Ax0:∀ {l m:List Pr2},Srt l→Srt m→(∀ x,x∈l↔x∈m)→l=m
 | [],[],_,_,_=>rfl
 | [],b::m,_,_,h=>by have:=(h b).2 List.mem_cons_self; cases this
 | a::l,[],_,_,h=>by have:=(h a).1 List.mem_cons_self; cases this
 | a::l,b::m,hl,hm,h=>by
  obtain ⟨l1,l2⟩:=List.pairwise_cons.1 hl
  obtain ⟨m1,m2⟩:=List.pairwise_cons.1 hm
  have hab:a=b:=by
   rcases List.mem_cons.1 ((h a).1 List.mem_cons_self) with q | q
   ·exact q
   ·rcases List.mem_cons.1 ((h b).2 List.mem_cons_self) with q2 | q2
    ·exact q2.symm
    ·have:=Ac7 (m1 a q) (l1 b q2)
     rw [k9] at this
     cases this
  subst hab
  rw [Ax0 l2 m2 fun x=>⟨fun q=>?_,fun q=>?_⟩]
  ·rcases List.mem_cons.1 ((h x).1 (List.mem_cons_of_mem _ q)) with rfl | q2
   ·have:=l1 x q; rw [k9] at this; cases this
   ·exact q2
  ·rcases List.mem_cons.1 ((h x).2 (List.mem_cons_of_mem _ q)) with rfl | q2
   ·have:=m1 x q; rw [k9] at this; cases this
   ·exact q2
theorem Alq (p x:Pr2):∀ l:List Pr2,x∈Akm p l↔x=p∨x∈l
 | []=>by simp [Akm]
 | q::r=>by
  simp only [Akm]
  cases ltK q p with
  | true=>simp only [cond_true,List.mem_cons,Alq p x r]; constructor<;>(rintro (h | h | h)<;>simp [h])
  | false=>simp only [cond_false,List.mem_cons]
theorem Afm (x:Pr2):∀ l:List Pr2,x∈U8 l↔x∈l
 | []=>Iff.rfl
 | p::r=>by
  show x∈Akm p (U8 r)↔_
  rw [Alq,Afm x r,List.mem_cons]
theorem Aua {p:Pr2}:∀ {l:List Pr2},Srt l→(∀ q∈l,q.1≠p.1)→Srt (Akm p l)
 | [],_,_=>List.pairwise_singleton _ _
 | q::r,hl,hp=>by
  obtain ⟨l1,l2⟩:=List.pairwise_cons.1 hl
  simp only [Akm]
  cases hq:ltK q p with
  | true=>
   refine List.pairwise_cons.2 ⟨fun x hx=>?_,Aua l2 fun y hy=>hp y (List.mem_cons_of_mem _ hy)⟩
   rcases (Alq p x r).1 hx with rfl | h
   ·exact hq
   ·exact l1 x h
  | false=>
   have hpq:bl p.1 q.1=true:=by
    cases h:bl p.1 q.1 with
    | true=>rfl
    | false=>exact absurd (A1v hq h) (hp q List.mem_cons_self)
   refine List.pairwise_cons.2 ⟨fun x hx=>?_,hl⟩
   rcases List.mem_cons.1 hx with rfl | h
   ·exact hpq
   ·exact Ac7 hpq (l1 x h)
theorem Js {p:Pr2} {r:List Pr2}:Io (p::r)=true↔(∀ q∈r,q.1≠p.1)∧Io r=true:=by
 simp only [Io,Bool.and_eq_true,Bool.not_eq_true',List.any_eq_false]
 constructor
 ·rintro ⟨h1,h2⟩
  exact ⟨fun q hq e=>h1 q hq (by rw [e]; simp),h2⟩
 ·rintro ⟨h1,h2⟩
  exact ⟨fun q hq e=>h1 q hq (D8.1 e),h2⟩
theorem Ap9:∀ {l:List Pr2},Io l=true→Srt (U8 l)
 | [],_=>List.Pairwise.nil
 | p::r,h=>by
  obtain ⟨h1,h2⟩:=Js.1 h
  exact Aua (Ap9 h2) fun q hq=>h1 q ((Afm q r).1 hq)
abbrev Mp:=List (ByteArray×ByteArray)
def prs (m:Mp):List Pr2:=m.map fun p=>(p.1,p.2,())
theorem Alr {k v:ByteArray} (x:Pr2):∀ {m:Mp},Io (prs m)=true→(x∈prs (Pn k v m)↔(x∈prs m∧x.1≠k)∨x=(k,v,()))
 | [],_=>by simp [Pn,prs]
 | p::r,h=>by
  obtain ⟨h1,h2⟩:=Js.1 (show Io ((p.1,p.2,())::prs r)=true from h)
  simp only [Pn]
  cases hk:Ki p.1 k with
  | true=>
   have hk:=D8.1 hk
   simp only [cond_true]
   show x∈(k,v,())::prs r↔(x∈(p.1,p.2,())::prs r∧_)∨_
   rw [List.mem_cons,List.mem_cons]
   constructor
   ·rintro (rfl | q)
    ·exact .inr rfl
    ·exact .inl ⟨.inr q,fun e=>h1 x q (by rw [e,hk])⟩
   ·rintro (⟨q | q,e⟩ | q)
    ·subst q
     exact absurd hk e
    ·exact .inr q
    ·exact .inl q
  | false=>
   have hk:p.1≠k:=fun q=>by rw [D8.2 q] at hk; cases hk
   simp only [cond_false]
   show x∈(p.1,p.2,())::prs (Pn k v r)↔(x∈(p.1,p.2,())::prs r∧_)∨_
   rw [List.mem_cons,List.mem_cons,Alr x h2]
   constructor
   ·rintro (rfl | ⟨q,e⟩ | q)
    ·exact .inl ⟨.inl rfl,hk⟩
    ·exact .inl ⟨.inr q,e⟩
    ·exact .inr q
   ·rintro (⟨q | q,e⟩ | q)
    ·exact .inl q
    ·exact .inr (.inl ⟨q,e⟩)
    ·exact .inr (.inr q)
theorem Als {k v:ByteArray}:∀ {m:Mp},Io (prs m)=true→Io (prs (Pn k v m))=true
 | [],_=>rfl
 | p::r,h=>by
  obtain ⟨h1,h2⟩:=Js.1 (show Io ((p.1,p.2,())::prs r)=true from h)
  simp only [Pn]
  cases hk:Ki p.1 k with
  | true=>
   have hk:=D8.1 hk
   simp only [cond_true]
   exact Js.2 ⟨fun q hq=>by rw [← hk]; exact h1 q hq,h2⟩
  | false=>
   have hk:p.1≠k:=fun q=>by rw [D8.2 q] at hk; cases hk
   simp only [cond_false]
   refine Js.2 ⟨fun q hq=>?_,Als h2⟩
   rcases (Alr q h2).1 hq with ⟨a,_⟩ | rfl
   ·exact h1 q a
   ·exact fun e=>hk e.symm
theorem Alt {k:ByteArray} (x:Pr2):∀ {m:Mp},Io (prs m)=true→(x∈prs (l5 k m)↔x∈prs m∧x.1≠k)
 | [],_=>by simp [l5,prs]
 | p::r,h=>by
  obtain ⟨h1,h2⟩:=Js.1 (show Io ((p.1,p.2,())::prs r)=true from h)
  simp only [l5]
  cases hk:Ki p.1 k with
  | true=>
   have hk:=D8.1 hk
   simp only [cond_true]
   show x∈prs r↔x∈(p.1,p.2,())::prs r∧_
   rw [List.mem_cons]
   constructor
   ·intro q
    exact ⟨.inr q,fun e=>h1 x q (by rw [e,hk])⟩
   ·rintro ⟨q | q,e⟩
    ·subst q
     exact absurd hk e
    ·exact q
  | false=>
   have hk:p.1≠k:=fun q=>by rw [D8.2 q] at hk; cases hk
   simp only [cond_false]
   show x∈(p.1,p.2,())::prs (l5 k r)↔x∈(p.1,p.2,())::prs r∧_
   rw [List.mem_cons,List.mem_cons,Alt x h2]
   constructor
   ·rintro (rfl | ⟨q,e⟩)
    ·exact ⟨.inl rfl,hk⟩
    ·exact ⟨.inr q,e⟩
   ·rintro ⟨q | q,e⟩
    ·exact .inl q
    ·exact .inr ⟨q,e⟩
theorem Alu {k:ByteArray}:∀ {m:Mp},Io (prs m)=true→Io (prs (l5 k m))=true
 | [],_=>rfl
 | p::r,h=>by
  obtain ⟨h1,h2⟩:=Js.1 (show Io ((p.1,p.2,())::prs r)=true from h)
  simp only [l5]
  cases hk:Ki p.1 k with
  | true=>exact h2
  | false=>
   simp only [cond_false]
   exact Js.2 ⟨fun q hq=>h1 q ((Alt q h2).1 hq).1,Alu h2⟩
def gtS (a k:ByteArray):Bool:=!(bl a k || a.toList==k.toList)
def Na (k v:ByteArray):Bool→List Pr2→List Pr2
 | d,[]=>bif d then [] else [(k,v,())]
 | d,p::r=>bif !d&&gtS p.1 k then (k,v,())::p::Na k v true r else bif p.1.toList==k.toList then Na k v d r else p::Na k v d r
def An1 (c:Chg) (l:List Pr2):List Pr2:=Na c.1 c.2.1 c.2.2.1 l
theorem A4k {a k:ByteArray} (h:gtS a k=true):bl k a=true:=by
 unfold gtS at h
 rw [Bool.not_eq_true',Bool.or_eq_false_iff] at h
 cases q:bl k a with
 | true=>rfl
 | false=>exact absurd (A1v h.1 q) (fun e=>by rw [e] at h; simp at h)
theorem Tp {k v:ByteArray} (x:Pr2):∀ (l:List Pr2) (d:Bool),x∈Na k v d l↔(x∈l∧x.1≠k)∨(d=false∧x=(k,v,()))
 | [],d=>by cases d<;>simp [Na]
 | p::r,d=>by
  simp only [Na]
  cases hg:!d&&gtS p.1 k with
  | true=>
   obtain ⟨hd,hg⟩:=B7 hg
   have hd:d=false:=by cases d<;>simp_all
   have hp:p.1≠k:=fun e=>A54 (A4k hg) e.symm
   subst hd
   simp only [cond_true,List.mem_cons,Tp x r true]
   constructor
   ·rintro (q | q | q | q)
    ·exact .inr ⟨by simp,q⟩
    ·exact .inl ⟨.inl q,by rw [q]; exact hp⟩
    ·exact .inl ⟨.inr q.1,q.2⟩
    ·cases q.1
   ·rintro (⟨q | q,e⟩ | q)
    ·exact .inr (.inl q)
    ·exact .inr (.inr (.inl ⟨q,e⟩))
    ·exact .inl q.2
  | false=>
   simp only [cond_false]
   cases he:p.1.toList==k.toList with
   | true=>
    have he:p.1=k:=D8.1 he
    simp only [cond_true,List.mem_cons,Tp x r d]
    constructor
    ·rintro (q | q)
     ·exact .inl ⟨.inr q.1,q.2⟩
     ·exact .inr q
    ·rintro (⟨q | q,e⟩ | q)
     ·exact absurd (by rw [q]; exact he) e
     ·exact .inl ⟨q,e⟩
     ·exact .inr q
   | false=>
    have he:p.1≠k:=fun q=>by rw [show (p.1.toList==k.toList)=true from D8.2 q] at he; cases he
    simp only [cond_false,List.mem_cons,Tp x r d]
    constructor
    ·rintro (q | q | q)
     ·exact .inl ⟨.inl q,by rw [q]; exact he⟩
     ·exact .inl ⟨.inr q.1,q.2⟩
     ·exact .inr q
    ·rintro (⟨q | q,e⟩ | q)
     ·exact .inl q
     ·exact .inr (.inl ⟨q,e⟩)
     ·exact .inr (.inr q)
theorem l3 {k v:ByteArray}:∀ (l:List Pr2) (d:Bool),Srt l→Srt (Na k v d l)
 | [],d,_=>by cases d<;>simp [Na,Srt]
 | p::r,d,h=>by
  obtain ⟨h1,h2⟩:=List.pairwise_cons.1 h
  simp only [Na]
  cases hg:!d&&gtS p.1 k with
  | true=>
   obtain ⟨hd,hg⟩:=B7 hg
   have hkp:=A4k hg
   simp only [cond_true]
   have hall:∀ x∈Na k v true r,x∈r:=fun x hx=>by
    rcases (Tp x r true).1 hx with q | q
    ·exact q.1
    ·cases q.1
   refine List.pairwise_cons.2 ⟨fun x hx=>?_,List.pairwise_cons.2 ⟨fun x hx=>h1 x (hall x hx),l3 r true h2⟩⟩
   rcases List.mem_cons.1 hx with rfl | q
   ·exact hkp
   ·exact Ac7 hkp (h1 x (hall x q))
  | false=>
   simp only [cond_false]
   cases he:p.1.toList==k.toList with
   | true=>exact l3 r d h2
   | false=>
    simp only [cond_false]
    refine List.pairwise_cons.2 ⟨fun x hx=>?_,l3 r d h2⟩
    rcases (Tp x r d).1 hx with q | ⟨hd,rfl⟩
    ·exact h1 x q.1
    ·subst hd
     have hn:gtS p.1 k=false:=by simpa using hg
     unfold gtS at hn
     rw [he,Bool.or_false,Bool.not_eq_false'] at hn
     exact hn
def A4l (c:Chg) (m:Mp):Mp:=bif c.2.2.1 then l5 c.1 m else Pn c.1 c.2.1 m
def Awi (m:Mp) (l:List Pr2):Prop:=Io (prs m)=true∧Srt l∧∀ x,x∈prs m↔x∈l
theorem Awi.step {m:Mp} {l:List Pr2} (h:Awi m l) (c:Chg):Awi (A4l c m) (An1 c l):=by
 obtain ⟨h1,h2,h3⟩:=h
 unfold A4l An1
 cases hc:c.2.2.1 with
 | true=>
  refine ⟨Alu h1,l3 _ _ h2,fun x=>?_⟩
  simp only [cond_true]
  rw [Alt x h1,Tp,h3]
  simp
 | false=>
  refine ⟨Als h1,l3 _ _ h2,fun x=>?_⟩
  simp only [cond_false]
  rw [Alr x h1,Tp,h3]
  simp
theorem Awi.sort {m:Mp} {l ys:List Pr2} (h:Awi m l) (hn:Io ys=true) (hy:∀ x,x∈ys↔x∈prs m):U8 ys=l:=
 Ax0 (Ap9 hn) h.2.1 fun x=>by rw [Afm,hy,h.2.2]
theorem Awi.len {m:Mp} {l:List Pr2} (h:Awi m l):m.length=l.length:=by
 have:=congrArg List.length (h.sort h.1 fun _=>Iff.rfl)
 rw [j6] at this
 simpa [prs] using this
def Tq (l:List Pr2) (b:List Chg):List Pr2:=F3 (fun _ c l=>An1 c l) 0 b l
def Dw (s:Stt) (b:List Chg):Stt×Int:=
 bif !Aj s then (s5,1) else bif !Bb b then (s5,1) else bif decide ((Tq s.1 b).length > 100) then (s5,2) else ((Tq s.1 b,()),0)
theorem A1w:∀ {l:List Pr2},(∀ i,i + 1 < l.length→bl (l.getD i zP).1 (l.getD (i + 1) zP).1=true)→Srt l
 | [],_=>List.Pairwise.nil
 | [p],_=>List.pairwise_singleton _ _
 | p::q::r,h=>by
  have hr:Srt (q::r):=A1w fun i hi=>h (i + 1) (by simp only [List.length_cons] at hi ⊢; omega)
  have h0:bl p.1 q.1=true:=h 0 (by simp)
  refine List.pairwise_cons.2 ⟨fun x hx=>?_,hr⟩
  rcases List.mem_cons.1 hx with rfl | hx
  ·exact h0
  ·exact Ac7 h0 ((List.pairwise_cons.1 hr).1 x hx)
theorem Azm {s:Stt} (h:Aj s=true):Srt s.1:=A1w fun i hi=>by
 have:=Vd (B7 h).2 (i + 1) hi
 unfold J7 at this
 obtain ⟨_,this⟩:=B7 this
 obtain ⟨_,this⟩:=B7 this
 simpa using this
def Rv (k v:ByteArray) (p:Pr2) (s:Bool×List Pr2):Bool×List Pr2:=
 bif !s.1&&gtS p.1 k then (true,bif !(p.1.toList==k.toList) then s.2++[(k,v,())]++[(p.1,p.2.1,())] else s.2++[(k,v,())])
 else (s.1,bif !(p.1.toList==k.toList) then s.2++[(p.1,p.2.1,())] else s.2)
def Aub (k v:ByteArray) (s:Bool×List Pr2):List Pr2:=bif s.1 then s.2 else s.2++[(k,v,())]
theorem Ax1 (k v:ByteArray):∀ (l:List Pr2) (i:Nat) (s:Bool×List Pr2),Aub k v (F3 (fun _ p s=>Rv k v p s) i l s)=s.2++Na k v s.1 l
 | [],i,s=>by
  show Aub k v s=_
  unfold Aub Na
  cases s.1<;>simp
 | p::r,i,s=>by
  show Aub k v (F3 (fun _ p s=>Rv k v p s) (i + 1) r (Rv k v p s))=_
  rw [Ax1 k v r (i + 1)]
  unfold Rv
  simp only [Na]
  cases hg:!s.1&&gtS p.1 k with
  | true=>
   obtain ⟨_,h2⟩:=B7 hg
   have he:(p.1.toList==k.toList)=false:=by
    unfold gtS at h2
    rw [Bool.not_eq_true',Bool.or_eq_false_iff] at h2
    exact h2.2
   rw [he]
   simp only [cond_true,Bool.not_false]
   rw [List.append_assoc,List.append_assoc]
   rfl
  | false=>
   simp only [cond_false]
   cases he:p.1.toList==k.toList with
   | true=>rfl
   | false=>
    simp only [cond_true,cond_false,Bool.not_false]
    rw [List.append_assoc]
    rfl
theorem Alv (k v:ByteArray) (p:Pr2) (s:Bool×List Pr2):(Rv k v p s).2.length≤s.2.length + 2:=by
 unfold Rv
 cases !s.1&&gtS p.1 k<;>cases !(p.1.toList==k.toList)<;>simp
theorem A3k (c:Chg) (l:List Pr2):(An1 c l).length≤l.length + 1:=by
 unfold An1
 generalize c.2.2.1=d
 induction l generalizing d with
 | nil=>cases d<;>simp [Na]
 | cons p r ih=>
  simp only [Na]
  have ht:∀ r:List Pr2,(Na c.1 c.2.1 true r).length≤r.length:=fun r=>by
   induction r with
   | nil=>simp [Na]
   | cons q r ih2=>
    simp only [Na,Bool.not_true,Bool.false_and,cond_false]
    cases q.1.toList==c.1.toList with
    | true=>simp only [cond_true,List.length_cons]; omega
    | false=>simp only [cond_false,List.length_cons]; omega
  cases !d&&gtS p.1 c.1 with
  | true=>simp only [cond_true,List.length_cons]; have:=ht r; omega
  | false=>
   simp only [cond_false]
   cases p.1.toList==c.1.toList with
   | true=>simp only [cond_true,List.length_cons]; have:=ih d; omega
   | false=>simp only [cond_false,List.length_cons]; have:=ih d; omega
theorem Ahi {q:Pr2→Prop}:∀ {b:List Chg} {i:Nat} {l:List Pr2},(∀ x∈l,q x)→(∀ c∈b,q (c.1,c.2.1,()))→∀ x∈F3 (fun _ c l=>An1 c l) i b l,q x
 | [],_,_,h,_=>h
 | c::b,i,l,h,hb=>Ahi (b:=b) (i:=i + 1) (fun x hx=>by
  rcases (Tp x l c.2.2.1).1 hx with q1 | q1
  ·exact h x q1.1
  ·rw [q1.2]; exact hb c List.mem_cons_self) (fun c' hc'=>hb c' (List.mem_cons_of_mem _ hc'))
def A5d (x:Pr2):Prop:=M9 x.1=true∧x.2.1.size≤100
theorem A1x {l:List Pr2} (hl:l.length≤100) (hm:∀ x∈l,A5d x) (hs:Srt l):Aj (l,())=true:=by
 unfold Aj
 rw [decide_eq_true (show (l,()).1.length≤100 from hl),Bool.true_and]
 refine List.all_eq_true.2 fun i hi=>?_
 have hi:i < l.length:=by simpa [List.mem_range'] using hi
 have hx:l.getD i zP=l[i]:=by simp [hi]
 obtain ⟨h1,h2⟩:=hm l[i] (List.getElem_mem hi)
 show J7 l i=true
 unfold J7
 rw [hx,h1,decide_eq_true h2,Bool.true_and,Bool.true_and]
 cases i with
 | zero=>rfl
 | succ i=>
  have hx2:l.getD i zP=l[i]:=by simp [show i < l.length by omega]
  have:=(List.pairwise_iff_getElem.1 hs) i (i + 1) (by omega) hi (Nat.lt_succ_self i)
  show ((i + 1==0) || bl (l.getD (i + 1 - 1) zP).1 l[i + 1].1)=true
  rw [show i + 1 - 1=i from rfl,hx2,this,Bool.or_true]
theorem Azn {s:Stt} (h:Aj s=true):∀ x∈s.1,A5d x:=fun x hx=>by
 obtain ⟨i,hi,rfl⟩:=Zg zP hx
 have:=Vd (B7 h).2 i hi
 unfold J7 at this
 obtain ⟨h1,h2⟩:=B7 this
 exact ⟨h1,of_decide_eq_true (B7 h2).1⟩
theorem A3l {b:List Chg} (h:Bb b=true):∀ c∈b,A5d (c.1,c.2.1,()):=fun c hc=>by
 obtain ⟨i,hi,rfl⟩:=Zg zC hc
 have:=(Ph h).2 i hi
 unfold Nl at this
 obtain ⟨h1,h2⟩:=B7 this
 exact ⟨h1,of_decide_eq_true (B7 h2).1⟩
theorem Auc:∀ {b:List Chg} {i:Nat} {l:List Pr2},Srt l→Srt (F3 (fun _ c l=>An1 c l) i b l)
 | [],_,_,h=>h
 | c::b,i,l,h=>Auc (b:=b) (i:=i + 1) (l3 _ _ h)
theorem Tr (s:Stt) (b:List Chg):Aj (Dw s b).1=true:=by
 unfold Dw
 cases hv:Aj s with
 | false=>rfl
 | true=>
  cases hb:Bb b with
  | false=>rfl
  | true=>
   simp only [Bool.not_true,cond_false]
   by_cases q:(Tq s.1 b).length > 100
   ·rw [decide_eq_true q]; rfl
   ·rw [decide_eq_false q]
    exact A1x (by omega) (Ahi (Azn hv) (A3l hb)) (Auc (Azm hv))
theorem Awj (s:Stt) (b:List Chg):G0 tSt (Dw s b).1=true:=Rs (Tr s b)
def Gz (s:Sto) (b:List Chg):List ByteArray:=Ahz (Ee b) s.2.2.1 (s.2.2.2.1.2.2.1 + s.2.2.2.2.1) s.1
def F6 (s:Sto) (b:List Chg):Don:=
 bif !Ax s then Yo 1 else bif !Bb b then Yo 1 else
 bif (Dw s.2.2.2.2.2.2.1 b).2 != 0 then Yo 2 else
 bif decide (Kj (Dw s.2.2.2.2.2.2.1 b).1 s.1 > Am s.2.1 - 1) then Yo 3 else
 bif decide (nI (Gz s b).length > Am s.2.1 - s.2.2.2.2.1) then Yo 4 else
 (0,(s.1,s.2.1,s.2.2.1,s.2.2.2.1,s.2.2.2.2.1 + nI (Gz s b).length,s.2.2.2.2.2.1 + nI (Gz s b).length,(Dw s.2.2.2.2.2.2.1 b).1,()),F5 (Bx s.2.2.2.1.2.1 s.2.1 + s.2.2.2.2.1) (Gz s b),())
theorem Aud (s:Sto) (b:List Chg):G0 At8 (F6 s b)=true:=by
 unfold F6
 cases Ax s with
 | false=>rfl
 | true=>
  cases Bb b with
  | false=>rfl
  | true=>
   simp only [Bool.not_true,cond_false]
   cases (Dw s.2.2.2.2.2.2.1 b).2 != 0 with
   | true=>rfl
   | false=>
    simp only [cond_false]
    cases decide (Kj (Dw s.2.2.2.2.2.2.1 b).1 s.1 > Am s.2.1 - 1) with
    | true=>rfl
    | false=>
     simp only [cond_false]
     cases decide (nI (Gz s b).length > Am s.2.1 - s.2.2.2.2.1) with
     | true=>rfl
     | false=>
      refine k8 (Awj _ _) (Aln ?_ (Aav _ _ fun x hx=>Ap4 hx))
      have:=Ajs b s.2.2.1 (s.2.2.2.1.2.2.1 + s.2.2.2.2.1) s.1
      rw [Vi]
      unfold Gz
      omega
theorem Awk {s:Stt} {b:List Chg} (hv:Aj s=true) (hb:Bb b=true):(Dw s b).2=0∨(Dw s b).2=2:=by
 unfold Dw
 rw [hv,hb]
 simp only [Bool.not_true,cond_false]
 cases decide ((Tq s.1 b).length > 100) with
 | true=>exact .inr rfl
 | false=>exact .inl rfl
end Go.Proofs.YtfkefgbihlfjmaaGreat.V

