/- Plain facts, second part. No condition. -/
import Derived.Test.YtfkefgbihlfjmaaGreatQBase
namespace Go.Proofs.YtfkefgbihlfjmaaGreat.V
open Go Go.Proofs.YtfkefgbihlfjmaaGreat.R
set_option linter.unusedVariables false
set_option linter.unusedSimpArgs false
theorem Gi {α σ E:Type} {xs:List α} (z:α) (Inv:Nat→σ→Prop) (step:Nat→α→σ→σ) {g:Nat→Int→σ→Option E} {ok:σ→E}
  (hs:∀ m (i:Nat) s,i < xs.length→Inv i s→g (m + 1) i s=g m ((i + 1:Nat):Int) (step i (xs.getD i z) s))
  (hi:∀ i s,i < xs.length→Inv i s→Inv (i + 1) (step i (xs.getD i z) s))
  (he:∀ m s,Inv xs.length s→g (m + 1) (xs.length:Int) s=some (ok s)):
  ∀ (m i:Nat) s,i≤xs.length→xs.length - i < m→Inv i s→g m i s=some (ok (F3 step i (xs.drop i) s))
 | 0,i,s,_,hm,_=>by omega
 | m + 1,i,s,hl,hm,hI=>by
  by_cases h:i < xs.length
  ·rw [hs m i s h hI,Gi z Inv step hs hi he m (i + 1) _ (by omega) (by omega) (hi i s h hI),Lc xs i z h]
   rfl
  ·have:i=xs.length:=by omega
   subst this
   rw [he _ _ hI,List.drop_length]
   rfl
theorem Ali (n:Nat) (h:n < 1099511627776):IntKind.wrap IntKind.i64 (nI (n + 1) - 1)=(n:Int):=by
 simp only [nI]
 rw [Ag (by omega) (by omega)]
 omega
theorem A1q (i:Nat):(Int.tmod (i:Int) 20==0)=(i % 20==0):=by
 have:Int.tmod (i:Int) 20=((i % 20:Nat):Int):=by rw [Int.tmod_eq_emod_of_nonneg (by omega)]; omega
 rw [this]
 by_cases h:i % 20=0
 ·rw [h]; rfl
 ·rw [beq_eq_false_iff_ne.2 h]
  exact beq_eq_false_iff_ne.2 (by omega)
theorem At4 {α:Type} (c:Bool) (xs:List α) (y:α):(Wf c xs y).length=xs.length + c.toNat:=by cases c<;>simp [Wf]
def Ap1 (i:Nat) (s:List (List Chg)×Bool×List Chg):Prop:=i≤100∧s.1.length≤i∧(0 < i→s.2.1=true)∧s.2.2.length≤i
theorem Ap1.step {i:Nat} {s:List (List Chg)×Bool×List Chg} (h:Ap1 i s) (h1:i < 100) (p:Pr2):Ap1 (i + 1) (Pp i p s):=by
 obtain ⟨_,h2,h3,h4⟩:=h
 unfold Pp
 cases hc:(i % 20==0)
 ·have:0 < i:=Nat.pos_of_ne_zero fun q=>by subst q; cases hc
  refine ⟨by omega,by simp only [cond_false]; omega,fun _=>h3 this,?_⟩
  simp only [cond_false,List.length_append,List.length_singleton]
  omega
 ·refine ⟨by omega,?_,fun _=>rfl,by simp⟩
  simp only [cond_true]
  rw [At4]
  by_cases q:0 < i
  ·rw [h3 q]; simp; omega
  ·cases s.2.1<;>simp<;>omega
theorem De {s:Stt} (h:Aj s=true):s.1.length≤100:=of_decide_eq_true (B7 h).1
theorem Ac5 (s:ByteArray) (w:Int):(bif Ch w 1 8 then ((Bj s w).length:Int) else 0)=Gw s.size w:=by
 unfold Gw
 cases hw:Ch w 1 8 with
 | false=>rfl
 | true=>exact W3 hw
theorem Afj (n:Nat) (w:Int):0≤Gw n w∧Gw n w≤(n:Int) + 1:=by
 unfold Gw
 cases hw:Ch w 1 8 with
 | false=>exact ⟨Int.le_refl _,by simp only [cond_false]; omega⟩
 | true=>
  obtain ⟨h1,h2⟩:=Cy hw
  simp only [cond_true]
  have hc:w=1∨w=2∨w=3∨w=4∨w=5∨w=6∨w=7∨w=8:=by omega
  rcases hc with rfl | rfl | rfl | rfl | rfl | rfl | rfl | rfl<;>split<;>omega
theorem Av9 {b:List Chg} (h:∀ c∈b,Nl c=true):(Gg b).length≤200 * b.length:=by
 induction b with
 | nil=>simp [Gg]
 | cons c r ih=>
  have h1:=(Tl (h c (by simp))).2
  have h2:=ih fun c hc=>h c (by simp [hc])
  have e:Gg (c::r)=Qy c++Gg r:=rfl
  rw [e,List.length_append,List.length_cons]
  omega
theorem Kx (b:List Chg):(Ee b).size≤4000:=by
 unfold Ee
 cases hv:Bb b with
 | false=>exact Nat.zero_le _
 | true=>
  obtain ⟨_,h2,h3⟩:=Afi hv
  have:=Av9 h3
  show (strOfNums (Gg b)).size≤4000
  rw [Cp]
  omega
theorem Vf {α σ:Type} (z:α) (Inv:Nat→σ→Prop) (step:Nat→α→σ→σ) {xs:List α} (hi:∀ i s,i < xs.length→Inv i s→Inv (i + 1) (step i (xs.getD i z) s)):
  ∀ (k i:Nat) s,i + k=xs.length→Inv i s→Inv xs.length (F3 step i (xs.drop i) s)
 | 0,i,s,h,hI=>by
  have:i=xs.length:=by omega
  subst this
  rw [List.drop_length]
  exact hI
 | k + 1,i,s,h,hI=>by
  rw [Lc xs i z (by omega)]
  exact Vf z Inv step hi k (i + 1) _ (by omega) (hi i s (by omega) hI)
theorem Vg (s:Stt):(Dd s).length≤101:=by
 unfold Dd
 cases hv:Aj s with
 | false=>simp
 | true=>
  have hl:=De hv
  have:=Vf zP Ap1 Pp (xs:=s.1) (fun i r hi hI=>hI.step (by omega) _) s.1.length 0 ([],false,[]) (by omega) ⟨by omega,by simp,fun q=>by omega,by simp⟩
  simp only [cond_true]
  rw [At4]
  have h1:=this.2.1
  show (Alc 0 s.1 ([],false,[])).1.length + _≤101
  have h2:(Alc 0 s.1 ([],false,[])).2.1.toNat≤1:=by cases (Alc 0 s.1 ([],false,[])).2.1<;>decide
  have h3:(Alc 0 s.1 ([],false,[])).1.length≤s.1.length:=h1
  omega
def Kj (s:Stt) (w:Int):Int:=bif Ch w 1 8 then (((Dd s).map fun b=>Gw (Ee b).size w).sum) else 0
theorem Afk {α:Type} (f:α→Int):∀ (l:List α) (i:Nat) (a:Int),F3 (fun _ b a=>a + f b) i l a=a + (l.map f).sum
 | [],_,a=>by simp [F3]
 | x::r,i,a=>by
  show F3 _ (i + 1) r (a + f x)=_
  rw [Afk f r,List.map_cons,List.sum_cons]
  omega
theorem A1r {α:Type} (l:List α):(l.map fun _=>(0:Int)).sum=0:=by
 induction l with
 | nil=>rfl
 | cons x r ih=>rw [List.map_cons,List.sum_cons,ih]; rfl
theorem At5 (s:Stt) (w:Int):((Dd s).map fun b=>Gw (Ee b).size w).sum=Kj s w:=by
 unfold Kj
 cases hw:Ch w 1 8 with
 | true=>rfl
 | false=>
  have:(fun b:List Chg=>Gw (Ee b).size w)=fun _=>0:=by funext b; unfold Gw; rw [hw]; rfl
  rw [this,A1r]
  rfl
def Azh (i:Nat) (a:Int):Prop:=i≤101∧0≤a∧a≤5000 * (i:Int)
theorem Azh.step {i:Nat} {a:Int} (h:Azh i a) (hi:i < 101) (b:List Chg) (w:Int):Azh (i + 1) (a + Gw (Ee b).size w):=by
 have h1:=Afj (Ee b).size w
 have h2:=Kx b
 obtain ⟨_,h3,h4⟩:=h
 exact ⟨by omega,by omega,by omega⟩
theorem Alj {i:Nat} {a:Int} (h:Azh i a) (b:List Chg) (w:Int):IntKind.wrap IntKind.i64 (a + Gw (Ee b).size w)=a + Gw (Ee b).size w:=by
 have h1:=Afj (Ee b).size w
 have h2:=Kx b
 obtain ⟨_,h3,h4⟩:=h
 exact Ag (by omega) (by omega)
def Am (n:Int):Int:=bif Ch n 8 200 then (n - 2) / 2 else 0
theorem Ahg {n:Int} (h1:8≤n) (h2:n≤200):IntKind.wrap IntKind.i64 (Int.tdiv (IntKind.wrap IntKind.i64 (n - 2)) 2)=(n - 2) / 2:=by
 rw [Ag (n:=n - 2) (by omega) (by omega),Int.tdiv_eq_ediv_of_nonneg (by omega)]
 exact Ag (by omega) (by omega)
theorem Q7 (n:Int):0≤Am n∧Am n≤99:=by
 unfold Am
 cases h:Ch n 8 200 with
 | false=>simp only [cond_false]; omega
 | true=>
  obtain ⟨h1,h2⟩:=Cy h
  simp only [cond_true]
  omega
theorem Awa (n:Int):decide (0 < Am n)=Ch n 8 200:=by
 unfold Am
 cases h:Ch n 8 200 with
 | false=>rfl
 | true=>
  obtain ⟨h1,h2⟩:=Cy h
  simp only [cond_true]
  exact decide_eq_true (by omega)
def Ax (s:Sto):Bool:=decide (0 < Am s.2.1)&&(Ch s.1 1 8&&(Ch s.2.2.1 1 60000&&(Ch s.2.2.2.1.1 0 1000000000&&(Ox s.2.2.2.1&&(Ch s.2.2.2.1.2.2.2.1 0 60000&&(Ch s.2.2.2.2.1 0 (Am s.2.1)&&(Ch s.2.2.2.2.2.1 0 s.2.2.2.2.1&&(Aj s.2.2.2.2.2.2.1&&decide (Kj s.2.2.2.2.2.2.1 s.1≤Am s.2.1 - 1)))))))))
theorem A3h (a b:Bool):(bif a then some ((b,()),()) else some ((false,()),()))=(some ((a&&b,()),()):Option ((Bool×Unit)×Unit)):=by cases a<;>rfl
theorem A6o (a b:Bool):(bif !a then some ((false,()),()) else some ((b,()),()))=(some ((a&&b,()),()):Option ((Bool×Unit)×Unit)):=by cases a<;>rfl
theorem Tn (n:Int):IntKind.wrap IntKind.i64 (Am n - 1)=Am n - 1:=by
 have:=Q7 n
 exact Ag (by omega) (by omega)
theorem At6 (n:Int) (b:Bool):(bif Am n==0 then some ((false,()),()) else some ((b,()),()))=(some ((decide (0 < Am n)&&b,()),()):Option ((Bool×Unit)×Unit)):=by
 have:=Q7 n
 by_cases h:Am n=0
 ·rw [h]; rfl
 ·rw [beq_eq_false_iff_ne.2 h,decide_eq_true (by omega)]; rfl
def zSt:Sto:=(0,0,0,(0,0,0,0,()),0,0,([],()),())
def Yo (c:Int):Don:=(c,zSt,[],())
def zOp:Opn:=(false,0,⟨#[]⟩,())
def At7:Opn:=(true,0,⟨#[]⟩,())
def Afl (at':Int) (data:ByteArray):Opn:=(false,at',data,())
def Rr (s:Sto):Don:=bif Ax s then (0,(s.1,s.2.1,s.2.2.1,s.2.2.2.1,s.2.2.2.2.1,0,s.2.2.2.2.2.2.1,()),[At7],()) else Yo 1
theorem k7 {s:Sto} (h:Ax s=true):Ch s.2.1 8 200=true∧Ch s.1 1 8=true∧Aj s.2.2.2.2.2.2.1=true∧(1≤s.2.2.1∧s.2.2.1≤60000)∧(0≤s.2.2.2.1.1∧s.2.2.2.1.1≤1000000000)∧Ox s.2.2.2.1=true∧
  (0≤s.2.2.2.1.2.2.2.1∧s.2.2.2.1.2.2.2.1≤60000)∧(0≤s.2.2.2.2.1∧s.2.2.2.2.1≤Am s.2.1)∧(0≤s.2.2.2.2.2.1∧s.2.2.2.2.2.1≤s.2.2.2.2.1)∧Kj s.2.2.2.2.2.2.1 s.1≤Am s.2.1 - 1:=by
 unfold Ax at h
 obtain ⟨h1,h⟩:=B7 h
 obtain ⟨h2,h⟩:=B7 h
 obtain ⟨h3,h⟩:=B7 h
 obtain ⟨h4,h⟩:=B7 h
 obtain ⟨h5,h⟩:=B7 h
 obtain ⟨h6,h⟩:=B7 h
 obtain ⟨h7,h⟩:=B7 h
 obtain ⟨h8,h⟩:=B7 h
 obtain ⟨h9,h⟩:=B7 h
 rw [Awa] at h1
 exact ⟨h1,h2,h9,Cy h3,Cy h4,h5,Cy h6,Cy h7,Cy h8,of_decide_eq_true h⟩
abbrev tSt:Ty:=.pair (.sl (.pair .str (.pair .str .unit))) .unit
abbrev tRt:Ty:=.pair (.int .i64) (.pair (.int .i64) (.pair (.int .i64) (.pair (.int .i64) .unit)))
abbrev A6p:Ty:=.pair (.int .i64) (.pair (.int .i64) (.pair (.int .i64) (.pair tRt (.pair (.int .i64) (.pair (.int .i64) (.pair tSt .unit))))))
abbrev tOp:Ty:=.pair .bool (.pair (.int .i64) (.pair .str .unit))
abbrev At8:Ty:=.pair (.int .i64) (.pair A6p (.pair (.sl tOp) .unit))
theorem Ah1 {s:Stt} (h:Aj s=true):∀ p∈s.1,1≤p.1.size∧p.1.size≤20∧p.2.1.size≤100:=fun p hp=>by
 obtain ⟨i,hi,rfl⟩:=Zg zP hp
 have:=Vd (B7 h).2 i hi
 unfold J7 at this
 obtain ⟨h1,h2⟩:=B7 this
 obtain ⟨h2,_⟩:=B7 h2
 have h3:=Cy h1
 exact ⟨by omega,by omega,of_decide_eq_true h2⟩
theorem Rs {s:Stt} (h:Aj s=true):G0 tSt s=true:=by
 have hl:=De h
 show ((decide (s.1.length≤1073741824)&&List.all s.1 (G0 (.pair .str (.pair .str .unit))))&&true)=true
 rw [decide_eq_true (show s.1.length≤1073741824 by omega),Bool.true_and,Bool.and_true]
 refine List.all_eq_true.2 fun p hp=>?_
 obtain ⟨_,h1,h2⟩:=Ah1 h p hp
 show (decide (p.1.size≤1073741824)&&(decide (p.2.1.size≤1073741824)&&true))=true
 rw [decide_eq_true (show p.1.size≤1073741824 by omega),decide_eq_true (show p.2.1.size≤1073741824 by omega)]
 rfl
theorem k8 {c w n l u o:Int} {r:Rt} {s:Stt} {ops:List Opn} (hs:G0 tSt s=true) (ho:G0 (.sl tOp) ops=true):G0 At8 (c,(w,n,l,r,u,o,s,()),ops,())=true:=by
 show ((G0 tSt s&&true)&&(G0 (.sl tOp) ops&&true))=true
 rw [hs,ho]
 rfl
theorem Awb (s:Sto):G0 At8 (Rr s)=true:=by
 unfold Rr
 cases hv:Ax s with
 | false=>rfl
 | true=>exact k8 (Rs (k7 hv).2.2.1) rfl
abbrev ScT:=Int×Int×ByteArray×List ByteArray×Int×Int
def Ac6 (wk wl:Int) (p:Pg):Bool:=bif decide (p.2.1 < wl) then false else bif p.1==3 then wk != 1 else bif p.1==1 || p.1==2 then wk != 1 || wl==p.2.1 else false
def I6 (i:Int) (p:Pg) (s:ScT):ScT:=
 bif p.1==1 then (1,p.2.1,s.2.2.1++p.2.2.2.1,s.2.2.2.1,s.2.2.2.2.1,s.2.2.2.2.2)
 else bif p.1==2 then (2,p.2.1,z0,s.2.2.2.1++[s.2.2.1++p.2.2.2.1],i + 1,p.2.1)
 else (p.1,p.2.1,z0,s.2.2.2.1,i + 1,p.2.1)
def Qz (s:ScT):Scd:=(s.2.2.2.1,s.2.2.2.2.1,s.2.2.2.2.2,())
def P4 (w first i:Int) (s:ScT) (x:ByteArray):Bool:=(Bw x w).2&&(((Bw x w).1.2.2.1 - i==first)&&Ac6 s.1 s.2.1 (Bw x w).1)
def Df (w first:Int):List ByteArray→Int→ScT→Scd
 | [],_,s=>Qz s
 | x::r,i,s=>bif P4 w first i s x then Df w first r (i + 1) (I6 i (Bw x w).1 s) else Qz s
def seen (d:Dk) (a:Int) (k n:Nat):List ByteArray:=(List.range' k n).map fun k:Nat=>Ahy d (a + (k:Int))
def Ru (d:Dk) (from_ size first life w:Int):Scd:=
 bif A0 d&&(Ch w 1 8&&(decide (0≤from_)&&(decide (0≤size)&&(decide (from_≤(d.1.length:Int))&&decide (size≤(d.1.length:Int) - from_))))) then Df w first (seen d from_ 0 size.toNat) 0 (0,life,z0,[],0,life) else ([],0,0,())
theorem A1s {d:Dk} (hd:G8 d) {a:Int} {j:Nat} (hj:j < d.1.length) (ha:a=(j:Int):=by omega):List.getD (Lp d.1 d.2.1) j (ByteArray.mk #[])=Ahy d a:=by
 subst ha
 have:=Att d.1 j hj d.2.1 (fun w hw=>by
  obtain ⟨i,hi,rfl⟩:=Zg zW hw
  exact (hd.pen i hi).1)
 unfold Ahy
 rw [Int.toNat_natCast]
 exact this
theorem Arl {x:ByteArray} {w:Int} {p:Pg} (h:Bw x w=(p,true)):(1≤p.1∧p.1≤4)∧(1≤p.2.2.1∧p.2.2.1≤1000000000)∧p.2.2.2.1.size≤64:=by
 obtain ⟨_,_,_,h4⟩:=Rq h
 obtain ⟨k1,_,k3⟩:=Ac3 h4
 obtain ⟨_,w1,w2,k4⟩:=Rn h4
 exact ⟨k1,k3,by omega⟩
def s4 (i:Nat) (s:ScT):Prop:=i≤200∧s.2.2.1.size≤64 * i∧s.2.2.2.1.length≤i
theorem s4.zero (a b c l:Int):s4 0 (a,b,z0,[],c,l):=⟨by omega,Nat.le_refl 0,Nat.le_refl 0⟩
theorem s4.next {i:Nat} {s:ScT} {p:Pg} (h:s4 i s) (hi:i < 200) (hp:p.2.2.2.1.size≤64):s4 (i + 1) (I6 i p s):=by
 obtain ⟨_,h2,h3⟩:=h
 unfold I6
 cases (p.1==1)
 ·cases (p.1==2)
  ·exact ⟨by omega,Nat.zero_le _,by simp only [cond_false]; omega⟩
  ·refine ⟨by omega,Nat.zero_le _,?_⟩
   simp only [cond_false,cond_true,List.length_append,List.length_singleton]
   omega
 ·refine ⟨by omega,?_,by simp only [cond_true]; omega⟩
  simp only [cond_true,ByteArray.size_append]
  omega
abbrev tSc:Ty:=.pair (.sl .str) (.pair (.int .i64) (.pair (.int .i64) .unit))
theorem Alk {l:List ByteArray} {n:Nat} (h1:l.length≤1000000) (h2:∀ x∈l,x.size≤n) (hn:n≤1000000):G0 (.sl .str) l=true:=by
 show (decide (l.length≤1073741824)&&List.all l (fun x=>decide (ByteArray.size x≤1073741824)))=true
 rw [decide_eq_true (by omega),Bool.true_and]
 exact List.all_eq_true.2 fun x hx=>decide_eq_true (by have:=h2 x hx; omega)
theorem Ahh (w first:Int):∀ (l:List ByteArray) (i:Nat) (st:ScT),i + l.length≤200→s4 i st→(∀ x∈st.2.2.2.1,x.size≤12864)→G0 tSc (Df w first l i st)=true
 | [],i,st,h,hI,he=>by
  show (G0 (.sl .str) st.2.2.2.1&&true)=true
  rw [Alk (by have:=hI.2.2; omega) he (by decide)]
  rfl
 | x::r,i,st,h,hI,he=>by
  rw [List.length_cons] at h
  unfold Df
  cases hs:P4 w first i st x with
  | false=>
   show (G0 (.sl .str) st.2.2.2.1&&true)=true
   rw [Alk (by have:=hI.2.2; omega) he (by decide)]
   rfl
  | true=>
   obtain ⟨hr,_⟩:=B7 hs
   obtain ⟨p,ok,hR⟩:∃ p ok,Bw x w=(p,ok):=⟨_,_,rfl⟩
   rw [hR] at hr
   have hr:ok=true:=hr
   subst hr
   obtain ⟨_,_,q3⟩:=Arl hR
   rw [hR]
   have hN:=hI.next (p:=p) (by omega) q3
   refine Ahh w first r (i + 1) _ (by omega) hN fun y hy=>?_
   unfold I6 at hy
   cases h1:(p.1==1) with
   | true=>rw [h1] at hy; exact he y hy
   | false=>
    rw [h1] at hy
    cases h2:(p.1==2) with
    | false=>rw [h2] at hy; exact he y hy
    | true=>
     rw [h2] at hy
     simp only [cond_false,cond_true,List.mem_append,List.mem_singleton] at hy
     rcases hy with hy | rfl
     ·exact he y hy
     ·rw [ByteArray.size_append]
      have:=hI.2.1
      omega
theorem Vh (d:Dk) (a:Int) (k n:Nat):(seen d a k n).length=n:=by simp [seen]
theorem Awc (d:Dk) (f n first life w:Int):G0 tSc (Ru d f n first life w)=true:=by
 unfold Ru
 cases hc:(A0 d&&(Ch w 1 8&&(decide (0≤f)&&(decide (0≤n)&&(decide (f≤(d.1.length:Int))&&decide (n≤(d.1.length:Int) - f)))))) with
 | false=>rfl
 | true=>
  obtain ⟨hv,h⟩:=B7 hc
  obtain ⟨_,h⟩:=B7 h
  obtain ⟨h1,h⟩:=B7 h
  obtain ⟨h2,h⟩:=B7 h
  obtain ⟨h3,h4⟩:=B7 h
  have h1:=of_decide_eq_true h1
  have h2:=of_decide_eq_true h2
  have h4:=of_decide_eq_true h4
  have:=(Jv hv).n200
  exact Ahh w first _ 0 _ (by rw [Vh]; omega) (s4.zero _ _ _ _) (fun x hx=>by cases hx)
def Q0 (s:Sto):Bool:=s.1==0&&(s.2.1==0&&(s.2.2.1==0&&((s.2.2.2.1.1==0&&(s.2.2.2.1.2.1==0&&(s.2.2.2.1.2.2.1==0&&s.2.2.2.1.2.2.2.1==0)))&&(s.2.2.2.2.1==0&&(s.2.2.2.2.2.1==0&&(nI s.2.2.2.2.2.2.1.1.length==0))))))
def s5:Stt:=([],())
def Q8 (w:Wld):Bool:=bif w.2.2.1 then Ax w.2.2.2.1&&(w.2.2.2.1.1==w.1&&w.2.2.2.1.2.1==nI w.2.1.1.length) else Q0 w.2.2.2.1
def P5 (w:Wld):Bool:=(List.range' 0 w.2.2.2.2.1.length).all fun i=>Aj (w.2.2.2.2.1.getD i s5)
def I7 (w:Wld):Bool:=(List.range' 0 w.2.2.2.2.2.1.length).all fun i=>decide ((w.2.2.2.2.2.1.getD i z0).size=64)
def Dg (w:Wld):Bool:=Ch w.1 1 8&&(A0 w.2.1&&(Ch w.2.2.2.2.1.length 1 200&&(decide (w.2.2.2.2.2.1.length≤2000)&&(Q8 w&&(P5 w&&I7 w)))))
theorem W5 {α β:Type} {x:Option α} {y:α} {f:α→Option β} {z:Option β} (h:x=some y) (k:f y=z):x.bind f=z:=by rw [h]; exact k
def F5:Int→List ByteArray→List Opn
 | _,[]=>[]
 | a,x::r=>Afl a x::F5 (a + 1) r
theorem Ap2 (x:ByteArray):∀ (L:List ByteArray) (a:Int),F5 a (L++[x])=F5 a L++[Afl (a + (L.length:Int)) x]
 | [],a=>by show [Afl a x]=[Afl (a + (0:Int)) x]; rw [Int.add_zero]
 | y::L,a=>by
  show Afl a y::F5 (a + 1) (L++[x])=Afl a y::(F5 (a + 1) L++[Afl (a + ((L.length + 1:Nat):Int)) x])
  rw [Ap2 x L (a + 1),show a + 1 + (L.length:Int)=a + ((L.length + 1:Nat):Int) by omega]
theorem Vi:∀ (L:List ByteArray) (a:Int),(F5 a L).length=L.length
 | [],_=>rfl
 | _::L,a=>by show (F5 (a + 1) L).length + 1=L.length + 1; rw [Vi L]
theorem Ap3 (a:Int):∀ (L:List ByteArray) (i:Nat) (r:List Opn),F3 (fun (i:Nat) x r=>r++[Afl (a + (i:Int)) x]) i L r=r++F5 (a + (i:Int)) L
 | [],i,r=>(List.append_nil r).symm
 | x::L,i,r=>by
  show F3 _ (i + 1) L (r++[Afl (a + (i:Int)) x])=_
  rw [Ap3 a L (i + 1),List.append_assoc,show a + ((i + 1:Nat):Int)=a + (i:Int) + 1 by omega]
  rfl
theorem All {α:Type}:∀ (L:List α) (i:Nat) (r:List α),F3 (fun (_:Nat) x r=>r++[x]) i L r=r++L
 | [],i,r=>(List.append_nil r).symm
 | x::L,i,r=>by
  show F3 _ (i + 1) L (r++[x])=_
  rw [All L (i + 1),List.append_assoc]
  rfl
def Bx (h n:Int):Int:=2 + h * Am n
def A4j (s:Sto) (life:Int):Rt:=(s.2.2.2.1.1 + 1,1 - s.2.2.2.1.2.1,s.2.2.2.1.2.2.1 + Am s.2.1,life,())
def W6 (w life first:Int) (b:List Chg) (L:List ByteArray):List ByteArray:=L++Ahz (Ee b) life (first + (L.length:Int)) w
def mvL (s:Sto) (life:Int):List ByteArray:=F3 (fun _ b L=>W6 s.1 life (s.2.2.2.1.2.2.1 + Am s.2.1) b L) 0 (Dd s.2.2.2.2.2.2.1) [Cx (3,life,s.2.2.2.1.2.2.1 + Am s.2.1,z0,()) s.1]
def At9 (s:Sto) (life:Int):List Opn:=F5 (Bx (1 - s.2.2.2.1.2.1) s.2.1) (mvL s life)++[At7,Afl (Int.tmod (s.2.2.2.1.1 + 1) 2) (Vc (A4j s life) s.1),At7]
def Alm (s:Sto) (life:Int):Sto×List Opn×Bool:=
 bif decide (s.2.2.2.1.1 + 1 > 1000000000) then (zSt,[],false) else bif decide (s.2.2.2.1.2.2.1 + Am s.2.1 > 999999000) then (zSt,[],false) else
 ((s.1,s.2.1,life,A4j s life,nI (mvL s life).length,0,s.2.2.2.2.2.2.1,()),At9 s life,true)
def Arm (s:Sto):Prop:=(0≤s.2.2.2.1.1∧s.2.2.2.1.1≤1000000000)∧(0≤s.2.2.2.1.2.1∧s.2.2.2.1.2.1≤1)∧(0≤s.2.2.2.1.2.2.1∧s.2.2.2.1.2.2.1≤1000000000)∧s.2.2.2.2.2.2.1.1.length≤1000000
instance (s:Sto):Decidable (Arm s):=by unfold Arm; infer_instance
theorem Ajs (b:List Chg) (life f w:Int):(Ahz (Ee b) life f w).length≤4001:=by
 unfold Ahz
 cases hw:Ch w 1 8 with
 | false=>simp
 | true=>
  cases hc:(true&&(Ch life 1 60000&&(decide (1≤f)&&decide (f≤1000000000 - Gw (Ee b).size w + 1)))) with
  | false=>simp
  | true=>
   simp only [cond_true]
   rw [Tm,List.length_map,List.length_range']
   have h1:=Ac5 (Ee b) w
   rw [hw,cond_true] at h1
   have h2:=(Afj (Ee b).size w).2
   have h3:=Kx b
   omega
def MvI (i:Nat) (L:List ByteArray):Prop:=i≤101∧L.length≤1 + 4001 * i
theorem MvI.step {i:Nat} {L:List ByteArray} (h:MvI i L) (hi:i < 101) (w life first:Int) (b:List Chg):MvI (i + 1) (W6 w life first b L):=by
 obtain ⟨h1,h2⟩:=h
 refine ⟨by omega,?_⟩
 unfold W6
 have:=Ajs b life (first + (L.length:Int)) w
 rw [List.length_append]
 omega
theorem Axx (s:Sto) (life:Int):(mvL s life).length≤500000:=by
 have h:=Vf ([]:List Chg) MvI (fun _ b L=>W6 s.1 life (s.2.2.2.1.2.2.1 + Am s.2.1) b L) (xs:=Dd s.2.2.2.2.2.2.1) (fun i L hi hI=>hI.step (Nat.lt_of_lt_of_le hi (Vg _)) _ _ _ _) (Dd s.2.2.2.2.2.2.1).length 0 [Cx (3,life,s.2.2.2.1.2.2.1 + Am s.2.1,z0,()) s.1] (by omega) ⟨by omega,by simp⟩
 have h2:=Vg s.2.2.2.2.2.2.1
 have h3:=h.2
 have h4:(mvL s life).length≤1 + 4001 * (Dd s.2.2.2.2.2.2.1).length:=h3
 omega
def To (s:Sto):Don:=bif (Alm s s.2.2.1).2.2 then (0,(Alm s s.2.2.1).1,(Alm s s.2.2.1).2.1,()) else Yo 4
theorem Ajt {H n:Int} (hH:0≤H∧H≤1):0≤H * Am n∧H * Am n≤99:=by
 have hh:=Q7 n
 have:H=0∨H=1:=by omega
 rcases this with rfl | rfl<;>omega
theorem Azi {s:Sto} (h:Ax s=true):Arm s:=by
 obtain ⟨_,_,h3,_,h5,h6,_⟩:=k7 h
 obtain ⟨r1,r2⟩:=B7 h6
 have r1:=Cy r1
 have r2:=Cy r2
 have:=De h3
 exact ⟨h5,r1,⟨by omega,by omega⟩,by omega⟩
def Ky (s:Sto):Don:=bif Ax s then To s else Yo 1
theorem Aav:∀ (L:List ByteArray) (a:Int),(∀ x∈L,x.size≤64)→∀ o∈F5 a L,o.2.2.1.size≤64
 | [],_,_,o,ho=>by cases ho
 | x::L,a,h,o,ho=>by
  rcases List.mem_cons.1 ho with rfl | q
  ·exact h x List.mem_cons_self
  ·exact Aav L (a + 1) (fun y hy=>h y (List.mem_cons_of_mem _ hy)) o q
theorem A3i {o:Opn} (h:o.2.2.1.size≤1073741824):G0 tOp o=true:=by
 show (true&&(true&&(decide (o.2.2.1.size≤1073741824)&&true)))=true
 rw [decide_eq_true h]
 rfl
theorem Aln {L:List Opn} (h1:L.length≤1073741824) (h2:∀ o∈L,o.2.2.1.size≤64):G0 (.sl tOp) L=true:=by
 show (decide (L.length≤1073741824)&&List.all L (G0 tOp))=true
 rw [decide_eq_true h1,Bool.true_and]
 exact List.all_eq_true.2 fun o ho=>A3i (Nat.le_trans (h2 o ho) (by decide))
theorem Awd (r:Rt) (w:Int):(Vc r w).size≤64:=by
 unfold Vc
 cases Ox r with
 | false=>exact Nat.zero_le _
 | true=>exact W4 _ _
theorem Ap4 {e:ByteArray} {life f w:Int} {x:ByteArray} (h:x∈Ahz e life f w):x.size≤64:=by
 unfold Ahz at h
 cases hc:Ch w 1 8&&(Ch life 1 60000&&(decide (1≤f)&&decide (f≤1000000000 - Gw e.size w + 1))) with
 | false=>rw [hc] at h; simp at h
 | true=>rw [hc] at h; exact (Aau _ _ _ _).2 x h
theorem A1t (s:Sto) (life:Int):∀ x∈mvL s life,x.size≤64:=by
 have h:=Vf ([]:List Chg) (fun _ (L:List ByteArray)=>∀ x∈L,x.size≤64) (fun _ b L=>W6 s.1 life (s.2.2.2.1.2.2.1 + Am s.2.1) b L) (xs:=Dd s.2.2.2.2.2.2.1) (fun i L _ hI x hx=>by
  unfold W6 at hx
  rcases List.mem_append.1 hx with q | q
  ·exact hI x q
  ·exact Ap4 q) (Dd s.2.2.2.2.2.2.1).length 0 [Cx (3,life,s.2.2.2.1.2.2.1 + Am s.2.1,z0,()) s.1] (by omega) (fun x hx=>by rw [List.mem_singleton.1 hx]; exact W4 _ _)
 exact h
theorem Awe (s:Sto) (life:Int):G0 (.sl tOp) (At9 s life)=true:=by
 have hl:=Axx s life
 have h1:(At9 s life).length=(mvL s life).length + 3:=by unfold At9; rw [List.length_append,Vi]; rfl
 refine Aln (by omega) fun o ho=>?_
 unfold At9 at ho
 rcases List.mem_append.1 ho with q | q
 ·exact Aav _ _ (A1t s life) o q
 ·simp only [List.mem_cons,List.not_mem_nil,or_false] at q
  rcases q with rfl | rfl | rfl
  ·exact Nat.zero_le _
  ·exact Awd _ _
  ·exact Nat.zero_le _
theorem Alo {s:Sto} (h:G0 tSt s.2.2.2.2.2.2.1=true):G0 At8 (To s)=true:=by
 unfold To Alm
 cases decide (s.2.2.2.1.1 + 1 > 1000000000) with
 | true=>rfl
 | false=>
  cases decide (s.2.2.2.1.2.2.1 + Am s.2.1 > 999999000) with
  | true=>rfl
  | false=>exact k8 h (Awe s s.2.2.1)
theorem Arn (s:Sto):G0 At8 (Ky s)=true:=by
 unfold Ky
 cases hv:Ax s with
 | false=>rfl
 | true=>exact Alo (Rs (k7 hv).2.2.1)
theorem Ap5 {α E:Type} {xs:List α} (z:α) (p:α→Bool) {g:Nat→Bool→Int→Option E} {ok:Bool→E}
  (hs:∀ m (i:Nat),i < xs.length→g (m + 1) true i=g m (p (xs.getD i z)) ((i + 1:Nat):Int)) (hf:∀ m (i:Nat),i≤xs.length→g (m + 1) false i=some (ok false)) (he:∀ m b,g (m + 1) b (xs.length:Int)=some (ok b)):
  ∀ (m i:Nat) (b:Bool),i≤xs.length→xs.length - i < m→g m b i=some (ok (b&&(xs.drop i).all p))
 | 0,i,b,_,hm=>by omega
 | m + 1,i,false,hl,hm=>by rw [hf m i hl]; rfl
 | m + 1,i,true,hl,hm=>by
  by_cases h:i < xs.length
  ·rw [hs m i h,Ap5 z p hs hf he m (i + 1) _ (by omega) (by omega),Lc xs i z h,List.all_cons,Bool.true_and]
  ·have:i=xs.length:=by omega
   subst this
   rw [he,List.drop_length]
   rfl
def inL (ws:List ByteArray) (x:ByteArray):Bool:=ws.any fun y=>Ki y x
theorem Axy (x:ByteArray):∀ ws:List ByteArray,(ws.all fun y=>!Ki y x)=!inL ws x
 | []=>rfl
 | y::ws=>by
  show ((!Ki y x)&&ws.all fun y=>!Ki y x)=!(Ki y x || inL ws x)
  rw [Axy x ws,Bool.not_or]
theorem Ap6 (x k:ByteArray) (v:Bool):∀ m:List (ByteArray×Bool),Ku x (Pn k v m)=bif Ki k x then v else Ku x m
 | []=>by simp only [Pn,Ku]
 | p::m=>by
  simp only [Pn]
  cases hp:Ki p.1 k with
  | true=>
   simp only [cond_true,Ku]
   rw [D8.1 hp]
   cases Ki k x<;>rfl
  | false=>
   simp only [cond_false,Ku]
   rw [Ap6 x k v m]
   cases hx:Ki p.1 x with
   | false=>rfl
   | true=>
    cases hk:Ki k x with
    | false=>rfl
    | true=>rw [D8.1 hx,D8.1 hk,D8.2 rfl] at hp; cases hp
theorem Ap7 (x:ByteArray):∀ (ws:List ByteArray) (i:Nat) (m:List (ByteArray×Bool)),Ku x (F3 (fun _ y m=>Pn y true m) i ws m)=(inL ws x || Ku x m)
 | [],_,_=>rfl
 | y::ws,i,m=>by
  show Ku x (F3 (fun _ y m=>Pn y true m) (i + 1) ws (Pn y true m))=((Ki y x || inL ws x) || Ku x m)
  rw [Ap7 x ws,Ap6]
  cases Ki y x<;>cases inL ws x<;>rfl
def Pi (w:Wld):ByteArray:=bif Dg w then H1 (fun x=>(Bw x w.1).2&&!inL w.2.2.2.2.2.1 x) (fun x=>x) z0 w.2.1.1 else z0
theorem Aro {w:Wld} (h:Dg w=true):A0 w.2.1=true∧w.2.2.2.2.2.1.length≤2000∧(1≤w.2.2.2.2.1.length∧w.2.2.2.2.1.length≤200):=by
 unfold Dg at h
 obtain ⟨_,h⟩:=B7 h
 obtain ⟨h1,h⟩:=B7 h
 obtain ⟨h2,h⟩:=B7 h
 obtain ⟨h3,h⟩:=B7 h
 have h2:=Cy h2
 exact ⟨h1,of_decide_eq_true h3,by omega⟩
theorem G8.valid {d:Dk} (h:G8 d):A0 d=true:=by
 unfold A0 Ch
 have h8:=h.n8
 have h2:=h.n200
 rw [decide_eq_true (show (8:Int)≤(d.1.length:Int) by omega),decide_eq_true (show (d.1.length:Int)≤200 by omega),decide_eq_true h.p300]
 simp only [Bool.true_and,Bool.and_eq_true,List.all_eq_true,decide_eq_true_eq,List.mem_range']
 refine ⟨fun i hi=>h.sec i (by omega),fun i hi=>?_⟩
 obtain ⟨k1,k2,k3⟩:=h.pen i (by omega)
 unfold l6
 rw [decide_eq_true k1,decide_eq_true k2,decide_eq_true k3]
 rfl
end Go.Proofs.YtfkefgbihlfjmaaGreat.V

