/- Worlds that events have led to: what the draws keep. No condition. -/
import Derived.Test.YtfkefgbihlfjmaaGreatQS
import Derived.Test.YtfkefgbihlfjmaaGreatQA
import Derived.Test.YtfkefgbihlfjmaaGreatQO
import Derived.Test.YtfkefgbihlfjmaaGreatQD
import Derived.Test.YtfkefgbihlfjmaaGreatQL
namespace Go.Proofs.YtfkefgbihlfjmaaGreat.V
open Go Go.Proofs.YtfkefgbihlfjmaaGreat.R
set_option linter.unusedVariables false
set_option linter.unusedSimpArgs false
theorem Arr (s:Sto) (b:List Chg):Aj (F6 s b).2.1.2.2.2.2.2.2.1=true:=by
 unfold F6
 cases Ax s with
 | false=>rfl
 | true=>
  cases Bb b with
  | false=>rfl
  | true=>
   simp only [Bool.not_true,cond_false]
   cases (Dw s.2.2.2.2.2.2.1 b).2 != 0 with
   | true=>rfl
   | false=>
    simp only [cond_false]
    cases decide (Kj (Dw s.2.2.2.2.2.2.1 b).1 s.1 > Am s.2.1 - 1) with
    | true=>rfl
    | false=>
     simp only [cond_false]
     cases decide (nI (Gz s b).length > Am s.2.1 - s.2.2.2.2.1) with
     | true=>rfl
     | false=>exact Tr _ _
theorem Auh {s:Sto} (h:Aj s.2.2.2.2.2.2.1=true):Aj (Rr s).2.1.2.2.2.2.2.2.1=true:=by
 unfold Rr
 cases Ax s with
 | false=>rfl
 | true=>exact h
theorem An2 {s:Sto} (h:Aj s.2.2.2.2.2.2.1=true):Aj (Ky s).2.1.2.2.2.2.2.2.1=true:=by
 unfold Ky
 cases Ax s with
 | false=>rfl
 | true=>exact Ahk h
structure XOk (x:Don):Prop where
 g:G0 At8 x=true
 s:Aj x.2.1.2.2.2.2.2.2.1=true
theorem XOk.opens (d:Dk) (w:Int):XOk (Zj d w):=⟨Azo d w,Awm d w⟩
theorem XOk.commits (s:Sto) (b:List Chg):XOk (F6 s b):=⟨Aud s b,Arr s b⟩
theorem XOk.flushs {s:Sto} (h:Aj s.2.2.2.2.2.2.1=true):XOk (Rr s):=⟨Awb s,Auh h⟩
theorem XOk.compacts {s:Sto} (h:Aj s.2.2.2.2.2.2.1=true):XOk (Ky s):=⟨Arn s,An2 h⟩
theorem XOk.none:XOk (Yo 0):=⟨rfl,rfl⟩
theorem XOk.ops {x:Don} (h:XOk x):x.2.2.1.length≤1073741824:=by
 have hg:=h.g
 simp only [G0,Bool.and_eq_true,decide_eq_true_eq] at hg
 exact hg.2.2.1.1
def Aaw (ops:List Opn):List ByteArray:=(ops.filter fun o=>!o.1).map fun o=>o.2.2.1
def Qh (w:Wld) (e:Evt):Don×Bool:=
 bif e.1==1 then (Zj w.2.1 w.1,!w.2.2.1) else bif e.1==2 then (F6 w.2.2.2.1 e.2.1,w.2.2.1) else bif e.1==3 then (Rr w.2.2.2.1,w.2.2.1) else bif e.1==4 then (Ky w.2.2.2.1,w.2.2.1) else (Yo 0,false)
def Ah2 (e:Evt) (x:Don):Bool:=decide (0≤e.2.2.1)&&decide (e.2.2.1≤(x.2.2.1.length:Int))
def Afq (e:Evt) (x:Don):Int:=bif Ah2 e x then e.2.2.1 else (x.2.2.1.length:Int)
def Oi (w:Wld) (e:Evt) (x:Don):List ByteArray:=w.2.2.2.2.2.1++Aaw (x.2.2.1.take (Afq e x).toNat)
def H0 (w:Wld) (e:Evt) (x:Don):List Stt:=bif e.1==2 then w.2.2.2.2.1++[x.2.1.2.2.2.2.2.2.1] else w.2.2.2.2.1
def s6 (w:Wld) (e:Evt) (x:Don):Bool:=decide ((Oi w e x).length > 2000) || decide ((H0 w e x).length > 200)
def Tt (w:Wld) (e:Evt) (x:Don):Wld:=
 bif s6 w e x then w else
 bif Ah2 e x then (w.1,I2 (Fa w.2.1 x.2.2.1 (Afq e x)) e.2.2.2.1,false,zSt,H0 w e x,Oi w e x,())
 else (w.1,Fa w.2.1 x.2.2.1 (Afq e x),true,x.2.1,(bif e.1==2 then H0 w e x else [x.2.1.2.2.2.2.2.2.1]),Oi w e x,())
def Ax8 (w:Wld) (f:List Int):Wld:=(w.1,I2 w.2.1 f,false,zSt,w.2.2.2.2)
def doS (w:Wld) (e:Evt):Wld:=bif e.1==5 then Ax8 w e.2.2.2.1 else bif !(Qh w e).2 || (Qh w e).1.1 != 0 then w else Tt w e (Qh w e).1
theorem Ax9 {ops:List Opn} {i:Nat} (k:Nat) (h:i < ops.length):Aaw ((ops.drop i).take (k + 1))=(bif (ops.getD i zOp).1 then [] else [(ops.getD i zOp).2.2.1])++Aaw ((ops.drop (i + 1)).take k):=by
 rw [Lc ops i zOp h,List.take_succ_cons]
 unfold Aaw
 rw [List.filter_cons]
 cases (ops.getD i zOp).1<;>rfl
theorem Alz {w:Wld} {e:Evt} {x:Don} (h:s6 w e x=true):Tt w e x=w:=by unfold Tt; rw [h]; rfl
theorem Azt {w:Wld} {e:Evt} {x:Don} (h:s6 w e x=false) (hc:Ah2 e x=true):Tt w e x=(w.1,I2 (Fa w.2.1 x.2.2.1 (Afq e x)) e.2.2.2.1,false,zSt,H0 w e x,Oi w e x,()):=by unfold Tt; rw [h,hc]; rfl
theorem A13 {w:Wld} {e:Evt} {x:Don} (h:s6 w e x=false) (hc:Ah2 e x=false):Tt w e x=(w.1,Fa w.2.1 x.2.2.1 (Afq e x),true,x.2.1,(bif e.1==2 then H0 w e x else [x.2.1.2.2.2.2.2.2.1]),Oi w e x,()):=by unfold Tt; rw [h,hc]; rfl
theorem Ars {w:Wld} {e:Evt} {x:Don} {a b:Bool} (h1:decide ((Oi w e x).length > 2000)=a) (h2:decide ((H0 w e x).length > 200)=b):s6 w e x=(a || b):=by unfold s6; rw [h1,h2]
theorem Aui {α:Type} {l:List α} {i:Nat} {z:α} (h:i < l.length):l.take (i + 1)=l.take i++[l.getD i z]:=by
 rw [List.take_add_one]
 simp [List.getD,h]
def unW (x:Int×List ByteArray×List Wr×Bool×Int×Int×Int×Int×Int×Int×Int×Int×Int×List Pr2×List Stt×List ByteArray×Unit):Wld:=
 (x.1,(x.2.1,x.2.2.1,()),x.2.2.2.1,(x.2.2.2.2.1,x.2.2.2.2.2.1,x.2.2.2.2.2.2.1,(x.2.2.2.2.2.2.2.1,x.2.2.2.2.2.2.2.2.1,x.2.2.2.2.2.2.2.2.2.1,x.2.2.2.2.2.2.2.2.2.2.1,()),x.2.2.2.2.2.2.2.2.2.2.2.1,x.2.2.2.2.2.2.2.2.2.2.2.2.1,(x.2.2.2.2.2.2.2.2.2.2.2.2.2.1,()),()),x.2.2.2.2.2.2.2.2.2.2.2.2.2.2.1,x.2.2.2.2.2.2.2.2.2.2.2.2.2.2.2.1,())
theorem Aya:∀ (l:List Opn) (d:Dk),(l.foldl opS d).1.length=d.1.length
 | [],_=>rfl
 | o::l,d=>by
  show (l.foldl opS (opS d o)).1.length=_
  rw [Aya l]
  unfold opS
  cases o.1 with
  | true=>exact Nn _ _
  | false=>
   simp only [cond_false]
   cases l6 d.1.length (o.2.1,o.2.2.1,())&&decide (d.2.1.length < 300)<;>rfl
theorem Art {d:Dk} (h:A0 d=true) (ops:List Opn) (m:Int):A0 (Fa d ops m)=true∧(Fa d ops m).1.length=d.1.length:=by
 unfold Fa
 rw [h]
 exact ⟨(G8.ops _ (Jv h)).valid,Aya _ _⟩
theorem Afr {d:Dk} (h:A0 d=true) (f:List Int):A0 (I2 d f)=true∧(I2 d f).1.length=d.1.length:=by
 have hd:=Jv h
 have ht:=A3b h f
 unfold I2
 rw [h]
 have hl:(Apt f d.1 d.2.1).length=d.1.length:=ht.1
 have n8:=hd.n8
 have n2:=hd.n200
 refine ⟨G8.valid ⟨?_,?_,Nat.zero_le _,fun i hi=>?_,fun i hi=>by cases hi⟩,hl⟩
 ·show 8≤(Apt f d.1 d.2.1).length; omega
 ·show (Apt f d.1 d.2.1).length≤200; omega
 ·exact ht.2 i (by have hi:i < (Apt f d.1 d.2.1).length:=hi; omega)
structure Yp (w:Wld):Prop where
 v:A0 w.2.1=true
 hw:Ch w.1 1 8=true
 n40:w.2.1.1.length≤40
 s:Aj w.2.2.2.1.2.2.2.2.2.2.1=true
 n:w.2.2.2.2.1.length≤200
 p:∀ x∈w.2.2.2.2.1,Aj x=true
 l:w.2.2.2.2.2.1.length≤2000
 f:Ax w.2.2.2.1=true→w.2.2.2.1.2.1=(w.2.1.1.length:Int)
theorem Awo:Ax zSt=false:=by decide +kernel
theorem Aqf (s:Sto) (h:(To s).1=0):(To s).2.1.2.1=s.2.1:=by
 unfold To Alm at *
 cases h1:decide (s.2.2.2.1.1 + 1 > 1000000000) with
 | true=>rw [h1] at h; cases h
 | false=>
  rw [h1] at h
  cases h2:decide (s.2.2.2.1.2.2.1 + Am s.2.1 > 999999000) with
  | true=>rw [h2] at h; cases h
  | false=>rfl
theorem A14 (d:Dk) (w:Int) (h:(Zj d w).1=0):(Zj d w).2.1.2.1=(d.1.length:Int):=by
 unfold Zj at *
 cases h1:A0 d with
 | false=>rw [h1] at h; cases h
 | true=>
  rw [h1] at h
  cases h2:Ch w 1 8 with
  | false=>rw [h2] at h; cases h
  | true=>
   rw [h2] at h
   simp only [Bool.not_true,cond_false] at h ⊢
   cases h3:Oy (K0 d w).1 s5 with
   | none=>rw [h3] at h; cases h
   | some st=>
    rw [h3] at h
    simp only at h ⊢
    by_cases q1:(K0 d w).2.2.1 + 1 > 60000
    ·rw [Ax2 q1] at h; cases h
    ·by_cases q2:Kj st w > Am d.1.length - 1
     ·rw [Ax3 q1 q2] at h; cases h
     ·by_cases q3:(K0 d w).2.1 < Am d.1.length
      ·rw [Ax4 q1 q2 q3]
      ·rw [Ax5 q1 q2 q3] at h ⊢
       rw [Aqf _ h]
theorem Aax (s:Sto) (b:List Chg) (h:(F6 s b).1=0):Ax s=true∧(F6 s b).2.1.2.1=s.2.1:=by
 unfold F6 at *
 cases h1:Ax s with
 | false=>rw [h1] at h; cases h
 | true=>
  rw [h1] at h
  cases h2:Bb b with
  | false=>rw [h2] at h; cases h
  | true=>
   rw [h2] at h
   simp only [Bool.not_true,cond_false] at h ⊢
   cases h3:(Dw s.2.2.2.2.2.2.1 b).2 != 0 with
   | true=>rw [h3] at h; cases h
   | false=>
    rw [h3] at h
    cases h4:decide (Kj (Dw s.2.2.2.2.2.2.1 b).1 s.1 > Am s.2.1 - 1) with
    | true=>rw [h4] at h; cases h
    | false=>
     rw [h4] at h
     simp only [cond_false] at h ⊢
     cases h5:decide (nI (Gz s b).length > Am s.2.1 - s.2.2.2.2.1) with
     | true=>rw [h5] at h; cases h
     | false=>exact ⟨trivial,rfl⟩
theorem Azu (s:Sto) (h:(Rr s).1=0):Ax s=true∧(Rr s).2.1.2.1=s.2.1:=by
 unfold Rr at *
 cases h1:Ax s with
 | false=>rw [h1] at h; cases h
 | true=>exact ⟨rfl,rfl⟩
theorem Auj (s:Sto) (h:(Ky s).1=0):Ax s=true∧(Ky s).2.1.2.1=s.2.1:=by
 unfold Ky at *
 cases h1:Ax s with
 | false=>rw [h1] at h; cases h
 | true=>rw [h1] at h; exact ⟨rfl,Aqf s h⟩
theorem A15 {w:Wld} (hf:Ax w.2.2.2.1=true→w.2.2.2.1.2.1=(w.2.1.1.length:Int)) (e:Evt) (h2:(Qh w e).2=true) (h:(Qh w e).1.1=0):(Qh w e).1.2.1.2.1=(w.2.1.1.length:Int):=by
 unfold Qh at *
 cases h1:(e.1==1) with
 | true=>rw [h1] at h; exact A14 _ _ h
 | false=>
  rw [h1] at h h2
  cases h3:(e.1==2) with
  | true=>rw [h3] at h; have:=Aax _ _ h; exact this.2.trans (hf this.1)
  | false=>
   rw [h3] at h h2
   cases h4:(e.1==3) with
   | true=>rw [h4] at h; have:=Azu _ h; exact this.2.trans (hf this.1)
   | false=>
    rw [h4] at h h2
    cases h5:(e.1==4) with
    | true=>rw [h5] at h; have:=Auj _ h; exact this.2.trans (hf this.1)
    | false=>rw [h5] at h2; cases h2
theorem Yp.d {w:Wld} (h:Yp w):G0 tDk w.2.1=true:=(Jv h.v).good
theorem XOk.calls {w:Wld} (h:Yp w) (e:Evt):XOk (Qh w e).1:=by
 unfold Qh
 cases e.1==1 with
 | true=>exact XOk.opens _ _
 | false=>
  cases e.1==2 with
  | true=>exact XOk.commits _ _
  | false=>
   cases e.1==3 with
   | true=>exact XOk.flushs h.s
   | false=>
    cases e.1==4 with
    | true=>exact XOk.compacts h.s
    | false=>exact XOk.none
theorem Yp.loss {w:Wld} (h:Yp w) (f:List Int):Yp (Ax8 w f):=
 ⟨(Afr h.v f).1,h.hw,by show (I2 w.2.1 f).1.length≤40; rw [(Afr h.v f).2]; exact h.n40,rfl,h.n,h.p,h.l,fun q=>by rw [show (Ax8 w f).2.2.2.1=zSt from rfl,Awo] at q; cases q⟩
theorem Ayb {w:Wld} (h:Yp w) (e:Evt) {x:Don} (hx:XOk x):∀ y∈H0 w e x,Aj y=true:=fun y hy=>by
 unfold H0 at hy
 cases hk:(e.1==2) with
 | true=>
  rw [hk] at hy
  rcases List.mem_append.1 hy with q | q
  ·exact h.p y q
  ·rw [List.mem_singleton.1 q]; exact hx.s
 | false=>rw [hk] at hy; exact h.p y hy
theorem Yp.doI {w:Wld} (h:Yp w) (e:Evt):Yp (doS w e):=by
 unfold doS
 cases (e.1==5) with
 | true=>exact h.loss _
 | false=>
  simp only [cond_false]
  have hx:=XOk.calls h e
  have hfit:=A15 h.f e
  generalize (Qh w e).1=x at *
  generalize (Qh w e).2=a at *
  cases ha:!a || x.1 != 0 with
  | true=>exact h
  | false=>
   simp only [cond_false]
   rw [Bool.or_eq_false_iff] at ha
   have hfit:=hfit (by simpa using ha.1) (by simpa using ha.2)
   unfold Tt
   cases hf:s6 w e x with
   | true=>exact h
   | false=>
    unfold s6 at hf
    simp only [Bool.or_eq_false_iff,decide_eq_false_iff_not] at hf
    obtain ⟨f1,f2⟩:=hf
    have k:=Art h.v x.2.2.1 (Afq e x)
    cases Ah2 e x with
    | true=>
     have k2:=Afr k.1 e.2.2.2.1
     exact ⟨k2.1,h.hw,by show (I2 _ _).1.length≤40; rw [k2.2,k.2]; exact h.n40,rfl,by show (H0 w e x).length≤200; omega,Ayb h e hx,by show (Oi w e x).length≤2000; omega,fun q=>by have q:Ax zSt=true:=q; rw [Awo] at q; cases q⟩
    | false=>
     refine ⟨k.1,h.hw,by show (Fa _ _ _).1.length≤40; rw [k.2]; exact h.n40,hx.s,?_,?_,by show (Oi w e x).length≤2000; omega,fun _=>by show x.2.1.2.1=((Fa _ _ _).1.length:Int); rw [k.2]; exact hfit⟩
     ·show (bif e.1==2 then H0 w e x else [_]).length≤200
      cases (e.1==2)
      ·show 1≤200; omega
      ·show (H0 w e x).length≤200; omega
     ·intro y hy
      have hy:y∈(bif e.1==2 then H0 w e x else [x.2.1.2.2.2.2.2.2.1]):=hy
      cases hk:(e.1==2) with
      | true=>rw [hk] at hy; exact Ayb h e hx y hy
      | false=>rw [hk] at hy; rw [List.mem_singleton.1 hy]; exact hx.s
theorem A3p {a:Int} (h:Ch a 8 200=true):Nm a=(List.replicate a.toNat zS,[],()):=by unfold Nm; rw [h]; rfl
theorem Ayc {a:Int} (h:Ch a 8 200=true):A0 (Nm a)=true∧(Nm a).1.length=a.toNat:=by
 obtain ⟨h1,h2⟩:=Cy h
 rw [A3p h]
 have hl:(List.replicate a.toNat zS).length=a.toNat:=by simp
 refine ⟨G8.valid ⟨?_,?_,Nat.zero_le _,fun i hi=>?_,fun i hi=>by cases hi⟩,hl⟩
 ·show 8≤(List.replicate a.toNat zS).length; omega
 ·show (List.replicate a.toNat zS).length≤200; omega
 ·have hi:i < (List.replicate a.toNat zS).length:=hi
  have hi:i < a.toNat:=by rw [← hl]; exact hi
  have e:(List.replicate a.toNat zS).getD i z0=zS:=by simp [List.getD,hi]
  show ((List.replicate a.toNat zS).getD i z0).size=64
  rw [e]
  decide +kernel
def A3q (a w:Int):Wld:=(w,Nm a,false,zSt,[([],())],[],())
theorem Yp.new {a w:Int} (h:Ch a 8 40=true) (hw:Ch w 1 8=true):Yp (A3q a w):=by
 obtain ⟨h1,h2⟩:=Cy h
 have k:=Ayc (a:=a) (by unfold Ch; rw [decide_eq_true h1,decide_eq_true (show a≤200 by omega)]; rfl)
 exact ⟨k.1,hw,by show (Nm a).1.length≤40; rw [k.2]; omega,rfl,by show 1≤200; omega,fun x hx=>by rw [List.mem_singleton.1 hx]; rfl,Nat.zero_le _,fun q=>by have q:Ax zSt=true:=q; rw [Awo] at q; cases q⟩
theorem Azv {s:Sto} {b:List Chg} (h:(F6 s b).1=0):0 < (F6 s b).2.2.1.length∧0≤((F6 s b).2.2.1.getD 0 zOp).2.1∧((F6 s b).2.2.1.getD 0 zOp).2.1 < s.2.1∧((F6 s b).2.2.1.getD 0 zOp).2.2.1.size=64:=by
 have hv:=(Aax s b h).1
 obtain ⟨h1,h2,h3,h4,h5,h6,h7,h8,h9,h10⟩:=k7 hv
 obtain ⟨r1,r2⟩:=B7 h6
 have r1:=Cy r1
 have r2:=Cy r2
 have n1:=Cy h1
 have hN:Am s.2.1=(s.2.1 - 2) / 2:=by unfold Am; rw [h1]; rfl
 have hp:1≤(Bj (Ee b) s.1).length∧(Bj (Ee b) s.1).length≤101:=by
  have k1:=Ac5 (Ee b) s.1
  rw [h2,cond_true] at k1
  have k3:=Kx b
  obtain ⟨w1,w2⟩:=Cy h2
  unfold Gw at k1
  rw [h2,cond_true] at k1
  have hc:s.1=1∨s.1=2∨s.1=3∨s.1=4∨s.1=5∨s.1=6∨s.1=7∨s.1=8:=by omega
  rcases hc with q | q | q | q | q | q | q | q<;>rw [q] at k1 ⊢<;>split at k1<;>omega
 have hl:Ch s.2.2.1 1 60000=true:=by unfold Ch; rw [decide_eq_true h4.1,decide_eq_true h4.2]; rfl
 have eP:Gz s b=Po s.2.2.1 s.1 (s.2.2.2.1.2.2.1 + s.2.2.2.2.1) (Bj (Ee b) s.1):=A5g h2 hl (by omega) (by omega)
 unfold F6 at *
 rw [hv] at h ⊢
 cases g2:Bb b with
 | false=>rw [g2] at h; cases h
 | true=>
  rw [g2] at h
  simp only [Bool.not_true,cond_false] at h ⊢
  cases g3:(Dw s.2.2.2.2.2.2.1 b).2 != 0 with
  | true=>rw [g3] at h; cases h
  | false=>
   rw [g3] at h
   cases g4:decide (Kj (Dw s.2.2.2.2.2.2.1 b).1 s.1 > Am s.2.1 - 1) with
   | true=>rw [g4] at h; cases h
   | false=>
    rw [g4] at h
    simp only [cond_false] at h ⊢
    cases g5:decide (nI (Gz s b).length > Am s.2.1 - s.2.2.2.2.1) with
    | true=>rw [g5] at h; cases h
    | false=>
     have g5:=of_decide_eq_false g5
     obtain ⟨k1,k2,k3⟩:=Alw (Ee b) h2
     have hall:=Ax7 h2 hl (Bj (Ee b) s.1) (s.2.2.2.1.2.2.1 + s.2.2.2.2.1) k1 (by omega) (by omega)
     have hlen:=(Aau s.2.2.1 s.1 (Bj (Ee b) s.1) (s.2.2.2.1.2.2.1 + s.2.2.2.2.1)).1
     rw [← eP] at hall hlen
     simp only [nI] at g5
     show 0 < (F5 (Bx s.2.2.2.1.2.1 s.2.1 + s.2.2.2.2.1) (Gz s b)).length∧0≤((F5 (Bx s.2.2.2.1.2.1 s.2.1 + s.2.2.2.2.1) (Gz s b)).getD 0 zOp).2.1∧((F5 (Bx s.2.2.2.1.2.1 s.2.1 + s.2.2.2.2.1) (Gz s b)).getD 0 zOp).2.1 < s.2.1∧((F5 (Bx s.2.2.2.1.2.1 s.2.1 + s.2.2.2.2.1) (Gz s b)).getD 0 zOp).2.2.1.size=64
     cases hc:Gz s b with
     | nil=>rw [hc] at hlen; simp at hlen; omega
     | cons x L=>
      rw [hc] at hall
      have hb:0≤Bx s.2.2.2.1.2.1 s.2.1 + s.2.2.2.2.1∧Bx s.2.2.2.1.2.1 s.2.1 + s.2.2.2.2.1 < s.2.1:=by
       unfold Bx
       have:s.2.2.2.1.2.1=0∨s.2.2.2.1.2.1=1:=by omega
       rcases this with q | q<;>rw [q]<;>omega
      exact ⟨by simp [F5],hb.1,hb.2,hall x List.mem_cons_self⟩
end Go.Proofs.YtfkefgbihlfjmaaGreat.V

