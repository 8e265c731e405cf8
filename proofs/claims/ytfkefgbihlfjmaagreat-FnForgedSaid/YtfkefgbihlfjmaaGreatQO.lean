/- A disk is opened. No condition. -/
import Derived.Test.YtfkefgbihlfjmaaGreatQA
namespace Go.Proofs.YtfkefgbihlfjmaaGreat.V
open Go Go.Proofs.YtfkefgbihlfjmaaGreat.R
set_option linter.unusedVariables false
set_option linter.unusedSimpArgs false
def A5e (r:Rt):Prop:=(0≤r.1∧r.1≤1000000000)∧(0≤r.2.1∧r.2.1≤1)∧(1≤r.2.2.1∧r.2.2.1≤999999000)∧(0≤r.2.2.2.1∧r.2.2.2.1≤60000)
theorem Aqa {x:ByteArray} {w:Int} {p:Pg} (h:Bw x w=(p,true)):1≤p.2.1∧p.2.1≤60000:=by
 obtain ⟨_,_,_,h4⟩:=Rq h
 unfold Fg at h4
 obtain ⟨_,h4⟩:=B7 h4
 obtain ⟨_,h4⟩:=B7 h4
 exact Cy (B7 h4).1
theorem Ahj {s:ByteArray} {w a:Int} {best:Rt} (h:A5e best):A5e (Kw s w a best):=by
 unfold Kw
 cases hc:(Bw s w).2&&((Bw s w).1.1==4)&&decide ((Bw s w).1.2.2.2.1.size=5)&&((Bw s w).1.2.2.1 % 2==a)&&Ox (Lq (Bw s w).1)&&decide ((Bw s w).1.2.2.1 > best.1) with
 | false=>exact h
 | true=>
  simp only [Bool.and_eq_true] at hc
  obtain ⟨⟨⟨⟨⟨h1,_⟩,_⟩,_⟩,h5⟩,_⟩:=hc
  have hp:Bw s w=((Bw s w).1,true):=by rw [← h1]
  obtain ⟨_,hn,_⟩:=Arl hp
  have hl:=Aqa hp
  obtain ⟨r1,r2⟩:=B7 h5
  have r1:=Cy r1
  have r2:=Cy r2
  simp only [cond_true]
  exact ⟨⟨by show 0≤(Bw s w).1.2.2.1; omega,hn.2⟩,r1,r2,⟨by show 0≤(Bw s w).1.2.1; omega,hl.2⟩⟩
theorem Aue {d:Dk} {w:Int} (h:A0 d=true) (hw:Ch w 1 8=true):A5e (C7 d w):=by
 unfold C7
 rw [h,hw]
 exact Ahj (Ahj ⟨⟨by decide,by decide⟩,⟨by decide,by decide⟩,⟨by decide,by decide⟩,by decide,by decide⟩)
theorem Aqb (w first:Int):∀ (l:List ByteArray) (i:Int) (st:ScT),0≤i→(0≤st.2.2.2.2.1∧st.2.2.2.2.1≤i)→(0≤st.2.2.2.2.2∧st.2.2.2.2.2≤60000)→
  (0≤(Df w first l i st).2.1∧(Df w first l i st).2.1≤i + l.length)∧(0≤(Df w first l i st).2.2.1∧(Df w first l i st).2.2.1≤60000)
 | [],i,st,h0,h1,h2=>⟨⟨h1.1,by show st.2.2.2.2.1≤i + ((0:Nat):Int); omega⟩,h2⟩
 | x::l,i,st,h0,h1,h2=>by
  unfold Df
  cases hc:P4 w first i st x with
  | false=>exact ⟨⟨h1.1,by show st.2.2.2.2.1≤i + ((l.length + 1:Nat):Int); omega⟩,h2⟩
  | true=>
   simp only [cond_true]
   unfold P4 at hc
   have hp:Bw x w=((Bw x w).1,true):=by rw [← (B7 hc).1]
   have hl:=Aqa hp
   have:=Aqb w first l (i + 1) (I6 i (Bw x w).1 st) (by omega) (by
    unfold I6
    cases (Bw x w).1.1==1<;>cases (Bw x w).1.1==2<;>simp only [cond_true,cond_false]<;>omega) (by
    unfold I6
    cases (Bw x w).1.1==1<;>cases (Bw x w).1.1==2<;>simp only [cond_true,cond_false]<;>omega)
   refine ⟨⟨this.1.1,?_⟩,this.2⟩
   have h3:=this.1.2
   simp only [List.length_cons]
   omega
theorem A1y (d:Dk) (f n first life w:Int) (hn:0≤n) (hl:0≤life∧life≤60000):(0≤(Ru d f n first life w).2.1∧(Ru d f n first life w).2.1≤n)∧(0≤(Ru d f n first life w).2.2.1∧(Ru d f n first life w).2.2.1≤60000):=by
 unfold Ru
 cases hc:A0 d&&(Ch w 1 8&&(decide (0≤f)&&(decide (0≤n)&&(decide (f≤(d.1.length:Int))&&decide (n≤(d.1.length:Int) - f))))) with
 | false=>exact ⟨⟨Int.le_refl 0,hn⟩,Int.le_refl 0,show (0:Int)≤60000 by omega⟩
 | true=>
  simp only [cond_true]
  have:=Aqb w first (seen d f 0 n.toNat) 0 (0,life,z0,[],0,life) (by omega) ⟨by show (0:Int)≤0; omega,by show (0:Int)≤0; omega⟩ hl
  rw [Vh] at this
  exact ⟨⟨this.1.1,by have:=this.1.2; omega⟩,this.2⟩
def Oy:List ByteArray→Stt→Option Stt
 | [],s=>some s
 | e::r,s=>bif (Lo e).2 then (bif (Dw s (Lo e).1).2==0 then Oy r (Dw s (Lo e).1).1 else none) else none
theorem Q1:∀ {l:List ByteArray} {s st:Stt},Aj s=true→Oy l s=some st→Aj st=true
 | [],s,st,h,e=>by cases e; exact h
 | x::r,s,st,h,e=>by
  unfold Oy at e
  cases h1:(Lo x).2 with
  | false=>rw [h1] at e; cases e
  | true=>
   rw [h1] at e
   simp only [cond_true] at e
   cases h2:(Dw s (Lo x).1).2==0 with
   | false=>rw [h2] at e; cases e
   | true=>
    rw [h2] at e
    exact Q1 (Tr s (Lo x).1) e
def Vj (d:Dk) (w:Int) (r:Rt) (x:Scd) (st:Stt):Don:=
 bif decide (x.2.2.1 + 1 > 60000) then Yo 3 else bif decide (Kj st w > Am d.1.length - 1) then Yo 4 else
 bif decide (x.2.1 < Am d.1.length) then (0,(w,nI d.1.length,x.2.2.1 + 1,r,x.2.1 + 1,0,st,()),[Afl (Bx r.2.1 d.1.length + x.2.1) (Cx (3,x.2.2.1 + 1,r.2.2.1 + x.2.1,z0,()) w),At7],())
 else To (w,nI d.1.length,x.2.2.1 + 1,r,x.2.1,0,st,())
def K0 (d:Dk) (w:Int):Scd:=Ru d (Bx (C7 d w).2.1 d.1.length) (Am d.1.length) (C7 d w).2.2.1 (C7 d w).2.2.2.1 w
def Zj (d:Dk) (w:Int):Don:=
 bif !A0 d then Yo 1 else bif !Ch w 1 8 then Yo 1 else
 match Oy (K0 d w).1 s5 with
 | none=>Yo 2
 | some st=>Vj d w (C7 d w) (K0 d w) st
theorem Ax2 {d:Dk} {w:Int} {r:Rt} {x:Scd} {st:Stt} (h:x.2.2.1 + 1 > 60000):Vj d w r x st=Yo 3:=by unfold Vj; rw [decide_eq_true h]; rfl
theorem Ax3 {d:Dk} {w:Int} {r:Rt} {x:Scd} {st:Stt} (h:¬ x.2.2.1 + 1 > 60000) (h2:Kj st w > Am d.1.length - 1):Vj d w r x st=Yo 4:=by unfold Vj; rw [decide_eq_false h,decide_eq_true h2]; rfl
theorem Ax4 {d:Dk} {w:Int} {r:Rt} {x:Scd} {st:Stt} (h:¬ x.2.2.1 + 1 > 60000) (h2:¬ Kj st w > Am d.1.length - 1) (h3:x.2.1 < Am d.1.length):Vj d w r x st=(0,(w,nI d.1.length,x.2.2.1 + 1,r,x.2.1 + 1,0,st,()),[Afl (Bx r.2.1 d.1.length + x.2.1) (Cx (3,x.2.2.1 + 1,r.2.2.1 + x.2.1,z0,()) w),At7],()):=by unfold Vj; rw [decide_eq_false h,decide_eq_false h2,decide_eq_true h3]; rfl
theorem Ax5 {d:Dk} {w:Int} {r:Rt} {x:Scd} {st:Stt} (h:¬ x.2.2.1 + 1 > 60000) (h2:¬ Kj st w > Am d.1.length - 1) (h3:¬ x.2.1 < Am d.1.length):Vj d w r x st=To (w,nI d.1.length,x.2.2.1 + 1,r,x.2.1,0,st,()):=by unfold Vj; rw [decide_eq_false h,decide_eq_false h2,decide_eq_false h3]; rfl
theorem Awl {d:Dk} {w:Int} {r:Rt} {x:Scd} {st:Stt} (h:Aj st=true):G0 At8 (Vj d w r x st)=true:=by
 unfold Vj
 cases decide (x.2.2.1 + 1 > 60000) with
 | true=>rfl
 | false=>
  cases decide (Kj st w > Am d.1.length - 1) with
  | true=>rfl
  | false=>
   simp only [cond_false]
   cases decide (x.2.1 < Am d.1.length) with
   | true=>
    refine k8 (Rs h) (Aln (show 2≤1073741824 by omega) fun o ho=>?_)
    simp only [List.mem_cons,List.not_mem_nil,or_false] at ho
    rcases ho with rfl | rfl
    ·exact W4 _ _
    ·exact Nat.zero_le _
   | false=>exact Alo (Rs h)
theorem Azo (d:Dk) (w:Int):G0 At8 (Zj d w)=true:=by
 unfold Zj
 cases A0 d with
 | false=>rfl
 | true=>
  cases Ch w 1 8 with
  | false=>rfl
  | true=>
   simp only [Bool.not_true,cond_false]
   cases ho:Oy (K0 d w).1 s5 with
   | none=>rfl
   | some st=>exact Awl (Q1 rfl ho)
theorem Ahk {s:Sto} (h:Aj s.2.2.2.2.2.2.1=true):Aj (To s).2.1.2.2.2.2.2.2.1=true:=by
 unfold To Alm
 cases decide (s.2.2.2.1.1 + 1 > 1000000000) with
 | true=>rfl
 | false=>
  cases decide (s.2.2.2.1.2.2.1 + Am s.2.1 > 999999000) with
  | true=>rfl
  | false=>exact h
theorem Auf {d:Dk} {w:Int} {r:Rt} {x:Scd} {st:Stt} (h:Aj st=true):Aj (Vj d w r x st).2.1.2.2.2.2.2.2.1=true:=by
 unfold Vj
 cases decide (x.2.2.1 + 1 > 60000) with
 | true=>rfl
 | false=>
  cases decide (Kj st w > Am d.1.length - 1) with
  | true=>rfl
  | false=>
   simp only [cond_false]
   cases decide (x.2.1 < Am d.1.length) with
   | true=>exact h
   | false=>exact Ahk h
theorem Awm (d:Dk) (w:Int):Aj (Zj d w).2.1.2.2.2.2.2.2.1=true:=by
 unfold Zj
 cases A0 d with
 | false=>rfl
 | true=>
  cases Ch w 1 8 with
  | false=>rfl
  | true=>
   simp only [Bool.not_true,cond_false]
   cases ho:Oy (K0 d w).1 s5 with
   | none=>rfl
   | some st=>exact Auf (Q1 rfl ho)
theorem Aqc {E:Type} {xs:List ByteArray} {g:Nat→Int→List Pr2→Option E} {ok:List Pr2→E} {bad:E}
  (hs:∀ m (i:Nat) r,i < xs.length→g (m + 1) i r=bif !(Lo (xs.getD i z0)).2 then some bad else bif (Dw (r,()) (Lo (xs.getD i z0)).1).2 != 0 then some bad else g m ((i + 1:Nat):Int) (Dw (r,()) (Lo (xs.getD i z0)).1).1.1)
  (he:∀ m r,g (m + 1) (xs.length:Int) r=some (ok r)):
  ∀ (m i:Nat) (r:List Pr2),i≤xs.length→xs.length - i < m→g m i r=some (match Oy (xs.drop i) (r,()) with
   | some st=>ok st.1
   | none=>bad)
 | 0,i,r,_,hm=>by omega
 | m + 1,i,r,hl,hm=>by
  by_cases h:i < xs.length
  ·rw [hs m i r h,Lc xs i z0 h,Aqc hs he m (i + 1) _ (by omega) (by omega)]
   simp only [Oy]
   cases (Lo (xs.getD i z0)).2 with
   | false=>rfl
   | true=>
    simp only [Bool.not_true,cond_false,cond_true]
    by_cases hc:(Dw (r,()) (Lo (xs.getD i z0)).1).2=0
    ·rw [hc]; rfl
    ·rw [show ((Dw (r,()) (Lo (xs.getD i z0)).1).2 != 0)=true from bne_iff_ne.2 hc,show ((Dw (r,()) (Lo (xs.getD i z0)).1).2==0)=false from beq_eq_false_iff_ne.2 hc]
     rfl
  ·have:i=xs.length:=by omega
   subst this
   rw [he,List.drop_length]
   rfl
def Ax6 (es:List ByteArray):Stt×Bool:=match Oy es s5 with
 | some st=>(st,true)
 | none=>(s5,false)
end Go.Proofs.YtfkefgbihlfjmaaGreat.V

