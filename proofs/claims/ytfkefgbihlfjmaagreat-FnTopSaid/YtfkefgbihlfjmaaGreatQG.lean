/- What is found on a disk that lost power. No condition. -/
import Derived.Test.YtfkefgbihlfjmaaGreatRCode
import Derived.Shelf.Lay
import Derived.Deep.QuietTactic
import Derived.Test.YtfkefgbihlfjmaaGreatProg
noncomputable section
set_option linter.unusedVariables false
set_option linter.unusedSimpArgs false
namespace Go.Proofs.YtfkefgbihlfjmaaGreat.V
open Go Go.Proofs.YtfkefgbihlfjmaaGreat.R
section
def hN (n:Nat):Nat:=(n - 2) / 2
def bN (n:Nat) (H:Int):Nat:=2 + H.toNat * hN n
theorem Vs {n:Nat} (h8:8≤n) (h2:n≤200):Al (n:Int)=(hN n:Int):=by
 unfold Al hN
 have:Bw (n:Int) 8 200=true:=by unfold Bw; rw [Ag (by omega),Ag (by omega)]; rfl
 rw [this,cond_true]
 omega
theorem Oq {n:Nat} (h8:8≤n) (h2:n≤200):3≤hN n∧hN n≤99∧2 + 2 * hN n≤n:=by unfold hN; omega
theorem A68 {n:Nat} (h8:8≤n) (h2:n≤200) {H:Int} (hH:0≤H∧H≤1):Bn H (n:Int)=(bN n H:Int):=by
 unfold Bn bN
 rw [Vs h8 h2]
 have:H=0∨H=1:=by omega
 rcases this with rfl | rfl
 ·simp
 ·simp
theorem Bfv {n:Nat} (h8:8≤n) (h2:n≤200) {H:Int} (hH:0≤H∧H≤1):2≤bN n H∧bN n H + hN n≤n:=by
 have:=Oq h8 h2
 unfold bN
 have:H=0∨H=1:=by omega
 rcases this with rfl | rfl
 ·simp; omega
 ·simp; omega
theorem A9j {n:Nat} (h8:8≤n) (h2:n≤200) {H:Int} (hH:0≤H∧H≤1):bN n (1 - H) + hN n≤bN n H∨bN n H + hN n≤bN n (1 - H):=by
 have:=Oq h8 h2
 unfold bN
 have:H=0∨H=1:=by omega
 rcases this with rfl | rfl
 ·right; simp
 ·left; simp
def rg (D:List Aa) (b k m:Nat):List Aa:=(List.range' k m).map fun i=>D.getD (b + i) z0
theorem Afr (D:List Aa) (b k m:Nat):(rg D b k m).length=m:=by simp [rg]
theorem Ag4 (D:List Aa) (b k m m':Nat):rg D b k (m + m')=rg D b k m++rg D b (k + m) m':=by
 unfold rg
 rw [← List.map_append]
 congr 1
 rw [← List.range'_append]
 simp
theorem Bkr {D D':List Aa} {b k m:Nat} (h:∀ i,k≤i→i < k + m→D.getD (b + i) z0=D'.getD (b + i) z0):rg D b k m=rg D' b k m:=by
 unfold rg
 refine List.map_congr_left fun i hi=>?_
 rw [List.mem_range'_1] at hi
 exact h i hi.1 hi.2
theorem Bpj {D:List Aa} {b k m i:Nat} (h:i < m):(rg D b k m).getD i z0=D.getD (b + (k + i)) z0:=by
 unfold rg
 simp [List.getD,h]
theorem Bxu {D:List Aa} {b k m:Nat} {x:Aa} (h:x∈rg D b k m):∃ i,k≤i∧i < k + m∧x=D.getD (b + i) z0:=by
 unfold rg at h
 obtain ⟨i,h1,h2⟩:=List.mem_map.1 h
 rw [List.mem_range'_1] at h1
 exact ⟨i,h1.1,h1.2,h2.symm⟩
theorem Bxv {D:List Aa} {b k m:Nat} {A R:List Aa} (h:rg D b k m=A++R):A=rg D b k A.length∧A.length≤m:=by
 have hl:m=A.length + R.length:=by rw [← Ef,← h,Afr]
 refine ⟨?_,by omega⟩
 rw [hl,Ag4] at h
 exact ((List.append_inj h (by rw [Afr])).1).symm
theorem Bvy {D:List Aa} {b:Nat} {a:Int} (ha:a=(b:Int)) (k m:Nat):seen (D,[],()) a k m=rg D b k m:=by
 subst ha
 unfold seen rg
 refine List.map_congr_left fun i _=>?_
 show D.getD (((b:Int) + (i:Int)).toNat) z0=_
 rw [show ((b:Int) + (i:Int)).toNat=b + i by omega]
def sc0 (r:Rt):Yk:=(0,r.2.2.2.1,z0,[],0,r.2.2.2.1)
theorem Bvz (r:Rt):Clo 0 (sc0 r):=⟨by show (0:Int)≠1; decide,rfl,rfl,rfl⟩
theorem Ajw:∀ {a b:List Aa} {s:B5},E8 (a++b) s=(E8 a s).bind (E8 b)
 | [],b,s=>rfl
 | e::a,b,s=>by
  show (bif (Hv e).2 then (bif (B7 s (Hv e).1).2==0 then E8 (a++b) (B7 s (Hv e).1).1 else none) else none)=(bif (Hv e).2 then (bif (B7 s (Hv e).1).2==0 then E8 a (B7 s (Hv e).1).1 else none) else none).bind _
  cases (Hv e).2 with
  | false=>rfl
  | true=>
   cases (B7 s (Hv e).1).2==0 with
   | false=>rfl
   | true=>exact Ajw
theorem A07 {w first i:Int} {s:Yk} {x:Aa} {p:Pg} (h:Bt0 w first i s x p):p.1≠4:=by
 rcases Bq6 h.g with q | q | q<;>omega
theorem Bfw {w first L:Int}:∀ (B:List Aa) (i:Int) (s:Yk),L < s.2.1→(∀ m,m < B.length→∀ p,Av (B.getD m z0) w=(p,true)→p.1≠4→p.2.2.1=first + (i + (m:Int))→L < p.2.1→p.1=3)→
  (Cw w first B i s).1=s.2.2.2.1
 | [],_,_,_,_=>rfl
 | x::B,i,s,hs,hB=>by
  cases hx:G1 w first i s x with
  | false=>rw [Ark hx]; rfl
  | true=>
   have ho:=Arl hx
   have hl:=A05 ho.g
   have h3:(Av x w).1.1=3:=hB 0 (by simp) _ ho.r (A07 ho) (by rw [ho.n]; simp) (by omega)
   rw [Yl hx,Bfw B (i + 1) _ (by rw [Wb]; omega) fun m hm p hp h4 hn hl'=>hB (m + 1) (by simp only [List.length_cons]; omega) p hp h4 (by rw [hn]; omega) hl']
   unfold C3
   rw [h3]
   rfl
theorem Bq8 {α:Type} {Q:List α} {j:Nat} {z:α} (h:j < Q.length):Q.take (j + 1)=Q.take j++[Q.getD j z]:=by
 rw [List.take_add_one]
 simp [List.getD,h]
theorem Bpk {w first L:Int} {Q:List Aa} {es:List Aa} {E:List Aa} {u:Nat} {s0:Yk}
  (hq:∀ j,j≤Q.length→∃ st n,n≤E.length∧Jf w first (Q.take j) u s0=some st∧st.2.1=L∧st.2.2.2.1=es++E.take n):
  ∀ (B:List Aa) (j:Nat) (s:Yk),j≤Q.length→Jf w first (Q.take j) u s0=some s→
   (∀ m,m < B.length→∀ p,Av (B.getD m z0) w=(p,true)→p.1≠4→p.2.2.1=first + ((u + (j + m):Nat):Int)→L≤p.2.1→(p.2.1=L→j + m < Q.length∧B.getD m z0=Q.getD (j + m) z0)∧(L < p.2.1→p.1=3))→
   ∃ n,n≤E.length∧(Cw w first B ((u + j:Nat):Int) s).1=es++E.take n
 | [],j,s,hj,hr,_=>by
  obtain ⟨st,n,h1,h2,_,h4⟩:=hq j hj
  rw [hr] at h2
  cases h2
  exact ⟨n,h1,h4⟩
 | x::B,j,s,hj,hr,hB=>by
  obtain ⟨st,n,h1,h2,h3,h4⟩:=hq j hj
  rw [hr] at h2
  cases h2
  cases hx:G1 w first ((u + j:Nat):Int) s x with
  | false=>exact ⟨n,h1,by rw [Ark hx]; exact h4⟩
  | true=>
   have ho:=Arl hx
   have hl:=A05 ho.g
   rw [h3] at hl
   obtain ⟨k1,k2⟩:=hB 0 (by simp) _ ho.r (A07 ho) (by rw [ho.n]; rfl) hl
   rw [Yl hx]
   by_cases q:(Av x w).1.2.1=L
   ·obtain ⟨q1,q2⟩:=k1 q
    have q1:j < Q.length:=q1
    have q2:x=Q.getD j z0:=q2
    have hr':Jf w first (Q.take (j + 1)) u s0=some (C3 ((u + j:Nat):Int) (Av x w).1 s):=by
     rw [Bq8 (z:=z0) q1,Ajv,hr,Option.bind_some,List.length_take,Nat.min_eq_left (by omega),← q2]
     rw [show ((u:Int) + (j:Int))=((u + j:Nat):Int) by omega,Tu hx]
     rfl
    obtain ⟨n',m1,m2⟩:=Bpk hq B (j + 1) _ q1 hr' fun m hm p hp h4 hn hl'=>by
     obtain ⟨z1,z2⟩:=hB (m + 1) (by simp only [List.length_cons]; omega) p hp h4 (by rw [hn]; congr 2; omega) hl'
     refine ⟨fun z=>?_,z2⟩
     obtain ⟨y1,y2⟩:=z1 z
     exact ⟨by omega,by rw [show j + 1 + m=j + (m + 1) by omega]; exact y2⟩
    refine ⟨n',m1,?_⟩
    rw [show ((u + j:Nat):Int) + 1=((u + (j + 1):Nat):Int) by omega]
    exact m2
   ·have hk:=k2 (by omega)
    refine ⟨n,h1,?_⟩
    rw [Bfw (L:=L) B _ _ (by rw [Wb]; omega) fun m hm p hp h4 hn hl'=>(hB (m + 1) (by simp only [List.length_cons]; omega) p hp h4 (by rw [hn]; omega) (by omega)).2 hl']
    unfold C3
    rw [hk]
    exact h4
theorem Bks {w first:Int}:∀ {A:List Aa} {i:Int} {s t:Yk},Jf w first A i s=some t→t.2.1=s.2.1∨∃ x∈A,∃ p,Av x w=(p,true)∧p.1≠4∧p.2.1=t.2.1
 | [],i,s,t,h=>by cases h; exact .inl rfl
 | x::A,i,s,t,h=>by
  cases hx:G1 w first i s x with
  | false=>
   have:Jf w first (x::A) i s=none:=by show (bif G1 w first i s x then _ else _)=_; rw [hx]; rfl
   rw [this] at h; cases h
  | true=>
   rw [Tu hx] at h
   have ho:=Arl hx
   rcases Bks h with q | ⟨y,hy,p,q⟩
   ·exact .inr ⟨x,List.mem_cons_self,_,ho.r,A07 ho,by rw [q,Wb]⟩
   ·exact .inr ⟨y,List.mem_cons_of_mem _ hy,p,q⟩
structure Pre (w:Int) (n:Nat) (D:List Aa) (r:Rt) (u:Nat) (L:Int) (s:B5):Prop where
 hu:u≤hN n
 run:∃ t,Jf w r.2.2.1 (rg D (bN n r.2.1) 0 u) 0 (sc0 r)=some t∧Clo u t∧t.2.1=L∧E8 t.2.2.2.1 Ut=some s
theorem Pre.congr {w:Int} {n:Nat} {D D':List Aa} {r:Rt} {u:Nat} {L:Int} {s:B5} (h:Pre w n D r u L s) (hd:∀ i,i < u→D'.getD (bN n r.2.1 + i) z0=D.getD (bN n r.2.1 + i) z0):Pre w n D' r u L s:=by
 obtain ⟨h1,t,h2⟩:=h
 refine ⟨h1,t,?_⟩
 rw [Bkr (D:=D') (D':=D) fun i _ hi=>hd i (by omega)]
 exact h2
theorem Pre.valid {w:Int} {n:Nat} {D:List Aa} {r:Rt} {u:Nat} {L:Int} {s:B5} (h:Pre w n D r u L s):Ak s=true:=by
 obtain ⟨_,t,_,_,_,h⟩:=h
 exact Sz (by decide) h
structure Afs (w:Int) (n:Nat) (D W:List Aa) (past:List B5) (r:Rt) (u0:Nat) (L:Int) (s0:B5) (E:List Aa):Prop where
 n8:8≤n
 n2:n≤200
 hw:Bw w 1 8=true
 len:D.length=n
 sz:∀ i,i < n→(D.getD i z0).size=64
 nf:∀ i,i < n→(Av (D.getD i z0) w).2=true→D.getD i z0∈W
 root:Aw (D,[],()) w=r
 fb:r.2.2.1 + 200≤999999000
 pre:Pre w n D r u0 L s0
 st:∀ j,j≤E.length→∃ s∈past,E8 (E.take j) s0=some s
 rm:∀ s∈past,D4 s w≤(hN n:Int) - 1
 lb:E≠[]→Bw L 1 60000=true
 qh:u0 + (qP L w (r.2.2.1 + u0) E).length≤hN n
 q:∀ x∈W,∀ p,Av x w=(p,true)→p.1≠4→p.2.1=L→r.2.2.1 + (u0:Int)≤p.2.2.1→p.2.2.1 < r.2.2.1 + (hN n:Int)→∃ j,j < (qP L w (r.2.2.1 + u0) E).length∧p.2.2.1=r.2.2.1 + ((u0 + j:Nat):Int)∧x=(qP L w (r.2.2.1 + u0) E).getD j z0
 e:∀ x∈W,∀ p,Av x w=(p,true)→p.1≠4→L < p.2.1→r.2.2.1 + (u0:Int)≤p.2.2.1→p.2.2.1 < r.2.2.1 + (hN n:Int)→p.1=3
theorem Bpl {n:Nat} {D:List Aa} (n8:8≤n) (n2:n≤200) (len:D.length=n) (sz:∀ i,i < n→(D.getD i z0).size=64):Iw (D,[],()) where
 n8:=by show 8≤D.length; omega
 n200:=by show D.length≤200; omega
 p300:=Nat.zero_le _
 sec:=fun i hi=>sz i (by rw [← len]; exact hi)
 pen:=fun i hi=>by cases hi
variable {w:Int} {n:Nat} {D W:List Aa} {past:List B5} {r:Rt} {u0:Nat} {L:Int} {s0:B5} {E:List Aa}
theorem Afs.ok (c:Afs w n D W past r u0 L s0 E):Ar (D,[],())=true:=(Bpl c.n8 c.n2 c.len c.sz).valid
theorem Afs.rok (c:Afs w n D W past r u0 L s0 E):Bhc r:=by
 rw [← c.root]
 exact Vr c.ok c.hw
theorem Axg (n8:8≤n) (n2:n≤200) (hw:Bw w 1 8=true) (len:D.length=n) (ok:Ar (D,[],())=true) (root:Aw (D,[],()) w=r):
  F3 (D,[],()) w=Cw w r.2.2.1 (rg D (bN n r.2.1) 0 (hN n)) 0 (sc0 r):=by
 have hr:Bhc r:=by rw [← root]; exact Vr ok hw
 have hb:=Bfv n8 n2 hr.2.1
 unfold F3
 rw [root]
 unfold V9
 have e1:((D,([]:List Wr),()).1.length:Int)=(n:Int):=by show (D.length:Int)=_; rw [len]
 rw [ok,hw,e1,A68 n8 n2 hr.2.1,Vs n8 n2,Ag (by omega),Ag (by omega),Ag (by omega),Ag (by omega)]
 simp only [Bool.and_self,cond_true]
 rw [Bvy rfl]
 rfl
structure Bpm (w:Int) (n:Nat) (D W:List Aa) (past:List B5) (r:Rt) (u0:Nat) (L:Int) (es:List Aa) (u:Nat) (l:Int) (s:B5):Prop where
 scan:F3 (D,[],()) w=(es,(u:Int),l,())
 op:E8 es Ut=some s
 mem:s∈past
 pre:Pre w n D r u l s
 hu:u0≤u
 hl:L≤l
 lf:l=L∨∃ x∈W,∃ p,Av x w=(p,true)∧p.1≠4∧p.2.1=l
theorem Afs.found (c:Afs w n D W past r u0 L s0 E):∃ es u l s,Bpm w n D W past r u0 L es u l s:=by
 obtain ⟨hu,t,t1,t2,t3,t4⟩:=c.pre
 have hr:=c.rok
 have hb:=Bfv c.n8 c.n2 hr.2.1
 have hh:=Oq c.n8 c.n2
 have hf:=c.fb
 have hreg:rg D (bN n r.2.1) 0 (hN n)=rg D (bN n r.2.1) 0 u0++rg D (bN n r.2.1) u0 (hN n - u0):=by
  rw [← Nat.zero_add u0,Nat.zero_add u0,show hN n=u0 + (hN n - u0) by omega,Ag4,show u0 + (hN n - u0) - u0=hN n - u0 by omega,Nat.zero_add]
 have hsc:=Axg c.n8 c.n2 c.hw c.len c.ok c.root
 rw [hreg,A9i t1,Afr,show (0:Int) + (u0:Int)=(u0:Int) by omega] at hsc
 have hq:∀ j,j≤(qP L w (r.2.2.1 + u0) E).length→∃ st k,k≤E.length∧Jf w r.2.2.1 ((qP L w (r.2.2.1 + u0) E).take j) u0 t=some st∧st.2.1=L∧st.2.2.2.1=t.2.2.2.1++E.take k:=fun j hj=>by
  by_cases hE:E=[]
  ·subst hE
   exact ⟨t,0,Nat.le_refl 0,by simp [qP,Jf],t3,by simp⟩
  ·exact Bkq c.hw (c.lb hE) E u0 t j t2 hj (by have:=hr.2.2.1.1; omega) (by have:=c.qh; omega) t3
 obtain ⟨k,hk,he⟩:=Bpk hq (rg D (bN n r.2.1) u0 (hN n - u0)) 0 t (Nat.zero_le _) (by simp [Jf]) fun m hm p hp h4 hn hl'=>by
  rw [Afr] at hm
  rw [Bpj hm] at hp ⊢
  have hi:bN n r.2.1 + (u0 + m) < n:=by omega
  have hW:=c.nf _ hi (by rw [hp])
  rw [Nat.zero_add] at hn ⊢
  refine ⟨fun z=>?_,fun z=>c.e _ hW p hp h4 z (by omega) (by omega)⟩
  obtain ⟨j,j1,j2,j3⟩:=c.q _ hW p hp h4 z (by omega) (by omega)
  have:j=m:=by omega
  subst this
  exact ⟨j1,j3⟩
 rw [show ((u0 + 0:Nat):Int)=(u0:Int) by omega,← hsc] at he
 obtain ⟨s,hs1,hs2⟩:=c.st k hk
 have hop:E8 (F3 (D,[],()) w).1 Ut=some s:=by rw [he,Ajw,t4]; exact hs2
 have key:∃ (A R:List Aa) (t':Yk),rg D (bN n r.2.1) u0 (hN n - u0)=A++R∧Jf w r.2.2.1 A u0 t=some t'∧Clo ((u0:Int) + A.length) t'∧Cw w r.2.2.1 (rg D (bN n r.2.1) u0 (hN n - u0)) u0 t=Uh t':=by
  rcases Au4 (w:=w) (first:=r.2.2.1) (rg D (bN n r.2.1) u0 (hN n - u0)) u0 t with ⟨A,R,t',q1,q2,q3,q4⟩ | q
  ·exact ⟨A,R,t',q1,q2,q3,q4⟩
  ·exact ⟨[],_,t,rfl,rfl,by simpa using t2,q⟩
 obtain ⟨A,R,t',q1,q2,q3,q4⟩:=key
 obtain ⟨p1,p2⟩:=Bxv q1
 rw [q4] at hsc
 have hrun:Jf w r.2.2.1 (rg D (bN n r.2.1) 0 (u0 + A.length)) 0 (sc0 r)=some t':=by
  rw [Ag4,Ajv,t1,Option.bind_some,Afr,Nat.zero_add,← p1,show (0:Int) + (u0:Int)=(u0:Int) by omega]
  exact q2
 have hclo:Clo ((u0 + A.length:Nat):Int) t':=by rw [show ((u0 + A.length:Nat):Int)=(u0:Int) + A.length by omega]; exact q3
 have hes:(F3 (D,[],()) w).1=t'.2.2.2.1:=by rw [hsc]; rfl
 rw [hes] at hop
 refine ⟨t'.2.2.2.1,u0 + A.length,t'.2.1,s,?_,hop,hs1,⟨by omega,t',hrun,hclo,rfl,hop⟩,by omega,?_,?_⟩
 ·rw [hsc]
  show (t'.2.2.2.1,t'.2.2.2.2.1,t'.2.2.2.2.2,())=_
  rw [hclo.u,hclo.l]
 ·have:=Ag3 q2
  omega
 ·rcases Bks q2 with z | ⟨x,hx,p,hp,h4,hl'⟩
  ·exact .inl (by rw [z,t3])
  ·refine .inr ⟨x,?_,p,hp,h4,hl'⟩
   have hx':x∈rg D (bN n r.2.1) u0 (hN n - u0):=by rw [q1]; exact List.mem_append_left _ hx
   obtain ⟨i,i1,i2,rfl⟩:=Bxu hx'
   exact c.nf _ (by omega) (by rw [hp])
end
def Tm:Int→List Aa→List Wr
 | _,[]=>[]
 | a,x::r=>(a,x,())::Tm (a + 1) r
theorem Ag5:∀ (L:List Aa) (a:Int),(Tm a L).length=L.length
 | [],_=>rfl
 | _::L,a=>by show (Tm (a + 1) L).length + 1=L.length + 1; rw [Ag5 L]
theorem Bkt:∀ (L M:List Aa) (a:Int),Tm a (L++M)=Tm a L++Tm (a + L.length) M
 | [],M,a=>by show Tm a M=Tm (a + ((0:Nat):Int)) M; rw [show a + ((0:Nat):Int)=a by omega]
 | x::L,M,a=>by
  show (a,x,())::Tm (a + 1) (L++M)=(a,x,())::(Tm (a + 1) L++Tm (a + ((L.length + 1:Nat):Int)) M)
  rw [Bkt L M,show a + 1 + (L.length:Int)=a + ((L.length + 1:Nat):Int) by omega]
theorem Ag6 {v:Wr}:∀ {L:List Aa} {a:Int},v∈Tm a L→a≤v.1∧v.1 < a + (L.length:Int)
 | [],_,h=>by cases h
 | x::L,a,h=>by
  rcases List.mem_cons.1 h with rfl | h
  ·exact ⟨Int.le_refl _,by simp only [List.length_cons]; omega⟩
  ·have:=Ag6 h
   simp only [List.length_cons]
   omega
theorem Ajx:∀ (L:List Aa) (a:Int) (k:Nat),(C7 a L).take k=C7 a (L.take k)
 | [],_,k=>by simp [C7]
 | x::L,a,0=>rfl
 | x::L,a,k + 1=>by
  show L6 a x::(C7 (a + 1) L).take k=L6 a x::C7 (a + 1) (L.take k)
  rw [Ajx L]
theorem Aah:∀ (L:List Aa) (a:Int) (D:List Aa) (P:List Wr),(∀ x∈L,x.size=64)→0≤a→a + (L.length:Int)≤(D.length:Int)→P.length + L.length≤300→
  (C7 a L).foldl opS (D,P,())=(D,P++Tm a L,())
 | [],a,D,P,_,_,_,_=>by simp [C7,Tm]
 | x::L,a,D,P,hx,h0,h1,h2=>by
  simp only [List.length_cons] at h1 h2
  have e:opS (D,P,()) (L6 a x)=(D,P++[(a,x,())],()):=by
   unfold opS L6 Anf
   simp only
   rw [Ag h0,Ag (show a < (D.length:Int) by omega),Ag (hx x List.mem_cons_self),Ag (show P.length < 300 by omega)]
   rfl
  show (C7 (a + 1) L).foldl opS (opS (D,P,()) (L6 a x))=_
  rw [e,Aah L (a + 1) D _ (fun y hy=>hx y (List.mem_cons_of_mem _ hy)) (by omega) (by omega) (by rw [Ef,Et]; omega),List.append_assoc]
  rfl
def Axh:List Aa→Nat→List Aa→List Aa
 | D,_,[]=>D
 | D,a,x::r=>Axh (D.set a x) (a + 1) r
theorem Bku:∀ (L D:List Aa) (a:Nat),(Axh D a L).length=D.length
 | [],_,_=>rfl
 | x::L,D,a=>by show (Axh (D.set a x) (a + 1) L).length=_; rw [Bku L,List.length_set]
theorem Wc:∀ (L D:List Aa) (a i:Nat),i < a∨a + L.length≤i→(Axh D a L).getD i z0=D.getD i z0
 | [],_,_,_,_=>rfl
 | x::L,D,a,i,h=>by
  simp only [List.length_cons] at h
  show (Axh (D.set a x) (a + 1) L).getD i z0=_
  rw [Wc L _ _ _ (by omega),getD_set_ne (by omega)]
theorem Bhj:∀ (L D:List Aa) (a i:Nat),i < L.length→a + L.length≤D.length→(Axh D a L).getD (a + i) z0=L.getD i z0
 | [],_,_,_,h,_=>by simp at h
 | x::L,D,a,0,_,h=>by
  simp only [List.length_cons] at h
  show (Axh (D.set a x) (a + 1) L).getD a z0=x
  rw [Wc L _ _ _ (by omega),Ku (by omega)]
 | x::L,D,a,i + 1,hi,h=>by
  simp only [List.length_cons] at h hi
  show (Axh (D.set a x) (a + 1) L).getD (a + (i + 1)) z0=L.getD i z0
  rw [show a + (i + 1)=a + 1 + i by omega,Bhj L _ _ _ (by omega) (by rw [List.length_set]; omega)]
theorem Adr {α σ:Type} (f:α→σ→σ):∀ (l:List α) (i j:Nat) (s:σ),C9 (fun _ x s=>f x s) i l s=C9 (fun _ x s=>f x s) j l s
 | [],_,_,_=>rfl
 | x::l,i,j,s=>Adr f l (i + 1) (j + 1) (f x s)
theorem A9k:∀ (L D:List Aa) (a:Nat),Hq D (Tm (a:Int) L)=Axh D a L
 | [],_,_=>rfl
 | x::L,D,a=>by
  show C9 (fun _ (v:Wr) (s:List Aa)=>s.set v.1.toNat v.2.1) (0 + 1) (Tm ((a:Int) + 1) L) (D.set (a:Int).toNat x)=Axh (D.set a x) (a + 1) L
  rw [← A9k L,En,show ((a:Int) + 1)=((a + 1:Nat):Int) by omega]
  exact Adr _ _ _ _ _
theorem Bt1 (D:List Aa) (P Q:List Wr):Hq D (P++Q)=Hq (Hq D P) Q:=by
 unfold Hq
 induction P generalizing D with
 | nil=>rfl
 | cons v P ih=>
  show C9 _ (0 + 1) (P++Q) (D.set v.1.toNat v.2.1)=C9 _ 0 Q (C9 _ (0 + 1) P (D.set v.1.toNat v.2.1))
  rw [Adr _ (P++Q) (0 + 1) 0,Adr _ P (0 + 1) 0]
  exact ih _
theorem Wd {f:List Int} {i:Nat} {ws:List Wr} (h:∀ v∈ws,v.1.toNat≠i) (D:List Aa):(Tr f D ws).getD i z0=D.getD i z0:=by
 unfold Tr
 generalize 0=k
 induction ws generalizing k D with
 | nil=>rfl
 | cons v ws ih=>
  show (C9 _ (k + 1) ws (D.set v.1.toNat _)).getD i z0=_
  rw [ih (fun u hu=>h u (List.mem_cons_of_mem _ hu)),getD_set_ne (h v List.mem_cons_self)]
def Qz (s:Aa) (w a:Int):Option Rt:=
 bif (Av s w).2&&((Av s w).1.1==4)&&decide ((Av s w).1.2.2.2.1.size=5)&&((Av s w).1.2.2.1 % 2==a)&&Jo (F2 (Av s w).1) then some (F2 (Av s w).1) else none
def Zv (c:Option Rt) (best:Rt):Rt:=match c with
 | some q=>bif decide (q.1 > best.1) then q else best
 | none=>best
theorem Bfx (s:Aa) (w a:Int) (best:Rt):Hy s w a best=Zv (Qz s w a) best:=by
 unfold Hy Qz Zv
 cases (Av s w).2&&((Av s w).1.1==4)&&decide ((Av s w).1.2.2.2.1.size=5)&&((Av s w).1.2.2.1 % 2==a)&&Jo (F2 (Av s w).1) with
 | false=>rfl
 | true=>
  simp only [Bool.true_and,cond_true]
  rfl
theorem Arm {s:Aa} {w a:Int} {q:Rt} (h:Qz s w a=some q):∃ p,Av s w=(p,true)∧p.1=4∧q=F2 p∧q.1 % 2=a∧Jo q=true:=by
 unfold Qz at h
 cases hc:(Av s w).2&&((Av s w).1.1==4)&&decide ((Av s w).1.2.2.2.1.size=5)&&((Av s w).1.2.2.1 % 2==a)&&Jo (F2 (Av s w).1) with
 | false=>rw [hc] at h; cases h
 | true=>
  rw [hc] at h
  simp only [Bool.and_eq_true] at hc
  obtain ⟨⟨⟨⟨h1,h2⟩,_⟩,h4⟩,h5⟩:=hc
  have h:F2 (Av s w).1=q:=Option.some.inj h
  subst h
  exact ⟨(Av s w).1,Prod.ext rfl h1,beq_iff_eq.1 h2,rfl,beq_iff_eq.1 h4,h5⟩
def rt0:Rt:=(0,0,1,0,())
theorem Anp {D:List Aa} {w:Int} (ok:Ar (D,[],())=true) (hw:Bw w 1 8=true):Aw (D,[],()) w=Zv (Qz (D.getD 1 z0) w 1) (Zv (Qz (D.getD 0 z0) w 0) rt0):=by
 unfold Aw
 rw [ok,hw,Bfx,Bfx]
 rfl
theorem Arn {D D':List Aa} {w:Int} (ok:Ar (D,[],())=true) (ok':Ar (D',[],())=true) (hw:Bw w 1 8=true) (h0:D'.getD 0 z0=D.getD 0 z0) (h1:D'.getD 1 z0=D.getD 1 z0):Aw (D',[],()) w=Aw (D,[],()) w:=by
 rw [Anp ok hw,Anp ok' hw,h0,h1]
theorem R5 {q best:Rt}:Zv (some q) best=bif decide (q.1 > best.1) then q else best:=rfl
theorem Bnl {r:Rt} (hr:r.1 > 0) {c:Option Rt} (hc:∀ x,c=some x→x.1≠r.1):Zv (some r) (Zv c rt0)=Zv c r:=by
 cases c with
 | none=>
  show (bif decide (r.1 > 0) then r else rt0)=r
  rw [Ag hr]; rfl
 | some x=>
  have:=hc x rfl
  rw [R5,R5,R5]
  by_cases g:x.1 > r.1
  ·rw [Ag g,Ag (show x.1 > rt0.1 by show x.1 > 0; omega)]
   simp only [cond_true]
   rw [Bd (by omega)]
   rfl
  ·rw [Bd g]
   by_cases g2:x.1 > rt0.1
   ·rw [Ag g2]
    simp only [cond_true,cond_false]
    rw [Ag (show r.1 > x.1 by omega)]
    rfl
   ·rw [Bd g2]
    show (bif decide (r.1 > 0) then r else rt0)=r
    rw [Ag hr]; rfl
theorem Bkv {D D':List Aa} {w:Int} {r:Rt} {a:Nat} (ok:Ar (D,[],())=true) (ok':Ar (D',[],())=true) (hw:Bw w 1 8=true) (hr:Aw (D,[],()) w=r) (ha:(a:Int)=(r.1 + 1) % 2) (h:∀ i,i≠a→D'.getD i z0=D.getD i z0):
  Aw (D',[],()) w=Zv (Qz (D'.getD a z0) w a) r:=by
 have hrt:0≤r.1:=by rw [← hr]; exact (Vr ok hw).1.1
 rw [Anp ok hw] at hr
 rw [Anp ok' hw]
 have hc:a=0∨a=1:=by omega
 rcases hc with rfl | rfl
 ·
  rw [h 1 (by decide)]
  have hb:(Zv (Qz (D.getD 0 z0) w 0) rt0).1 % 2=0∧0≤(Zv (Qz (D.getD 0 z0) w 0) rt0).1:=by
   cases h0:Qz (D.getD 0 z0) w 0 with
   | none=>exact ⟨rfl,Int.le_refl 0⟩
   | some y=>
    obtain ⟨_,_,_,_,y2,_⟩:=Arm h0
    rw [R5]
    by_cases g:y.1 > rt0.1
    ·rw [Ag g]; exact ⟨y2,by show 0≤y.1; have:y.1 > 0:=g; omega⟩
    ·rw [Bd g]; exact ⟨rfl,Int.le_refl 0⟩
  have hq:Qz (D.getD 1 z0) w 1=some r∧r.1 > 0:=by
   cases h1:Qz (D.getD 1 z0) w 1 with
   | none=>
    rw [h1] at hr
    have hr:Zv (Qz (D.getD 0 z0) w 0) rt0=r:=hr
    rw [hr] at hb
    omega
   | some q=>
    rw [h1,R5] at hr
    cases hq:decide (q.1 > (Zv (Qz (D.getD 0 z0) w 0) rt0).1) with
    | false=>
     rw [hq] at hr
     have hr:Zv (Qz (D.getD 0 z0) w 0) rt0=r:=hr
     rw [hr] at hb
     omega
    | true=>
     rw [hq] at hr
     have hr:q=r:=hr
     subst hr
     have:=Io hq
     exact ⟨rfl,by omega⟩
  rw [hq.1]
  refine Bnl hq.2 fun x hx=>?_
  obtain ⟨_,_,_,_,x2,_⟩:=Arm hx
  omega
 ·
  rw [h 0 (by decide)]
  cases h1:Qz (D.getD 1 z0) w 1 with
  | none=>
   rw [h1] at hr
   have hr:Zv (Qz (D.getD 0 z0) w 0) rt0=r:=hr
   rw [hr]
   rfl
  | some q=>
   rw [h1,R5] at hr
   obtain ⟨_,_,_,_,q2,_⟩:=Arm h1
   cases hq:decide (q.1 > (Zv (Qz (D.getD 0 z0) w 0) rt0).1) with
   | true=>
    rw [hq] at hr
    have hr:q=r:=hr
    subst hr
    omega
   | false=>
    rw [hq] at hr
    have hr:Zv (Qz (D.getD 0 z0) w 0) rt0=r:=hr
    rw [hr]
    rfl
theorem Bq9 {r:Rt} {w:Int} (hr:Bhc r) (ht:1≤r.1) (hl:1≤r.2.2.2.1) (hw:Bw w 1 8=true):
  ∃ p,Av (Cb r w) w=(p,true)∧p.1=4∧F2 p=r∧p.2.1=r.2.2.2.1∧Qz (Cb r w) w (r.1 % 2)=some r:=by
 obtain ⟨t,H,f,l,⟨⟩⟩:=r
 obtain ⟨⟨h1,h2⟩,⟨h3,h4⟩,⟨h5,h6⟩,h7,h8⟩:=hr
 dsimp only at h1 h2 h3 h4 h5 h6 h7 h8 ht hl
 obtain ⟨w1,w2⟩:=Cv hw
 have hro:Jo (t,H,f,l,())=true:=by
  unfold Jo Bw
  dsimp only
  rw [Ag h3,Ag h4,Ag h5,Ag h6]
  rfl
 have hz:(Dj H 1++Dj f 4).size=5:=by rw [ByteArray.size_append,L4,L4]
 have hpk:Eg (4,l,t,Dj H 1++Dj f 4,()) w=true:=by
  unfold Eg Bw
  dsimp only
  rw [hz,Ag w1,Ag w2,Ag hl,Ag h8,Ag ht,Ag h2,Ag (show ((5:Nat):Int)≤56 - w by omega)]
  rfl
 have hS:Cb (t,H,f,l,()) w=Cc (4,l,t,Dj H 1++Dj f 4,()) w:=by
  unfold Cb
  rw [hro]
  rfl
 have hrd:Av (Cb (t,H,f,l,()) w) w=((4,l,t,Dj H 1++Dj f 4,()),true):=by rw [hS]; exact I4 hpk
 have hbytes:Af (Dj H 1++Dj f 4)=(H % 256)::Sx f 4:=by rw [O2,M8,M8]; rfl
 have hH:Ap (Dj H 1++Dj f 4) 0=H:=by
  have:=Aax (Dj H 1++Dj f 4) 0
  rw [hbytes] at this
  have e:Ap (Dj H 1++Dj f 4) ((0:Nat):Int)=H % 256:=this
  rw [show (0:Int)=((0:Nat):Int) from rfl,e]
  omega
 have hcut:Ah (Dj H 1++Dj f 4) 1 (nI (Dj H 1++Dj f 4).size)=Dj f 4:=Yj (by
  have:=O3 (Dj H 1++Dj f 4) 1 5
  rw [hz]
  show Af (Ah (Dj H 1++Dj f 4) ((1:Nat):Int) ((5:Nat):Int))=_
  rw [this,hbytes,M8]
  show (Sx f 4).take 4=Sx f 4
  exact List.take_of_length_le (by rw [Bqu]; omega))
 have hrt:F2 (4,l,t,Dj H 1++Dj f 4,())=(t,H,f,l,()):=by
  unfold F2
  dsimp only
  rw [hH,hcut,A8t (show 0≤f by omega) (show f < 256 ^ 4 by omega)]
 refine ⟨_,hrd,rfl,hrt,rfl,?_⟩
 unfold Qz
 rw [hrd]
 dsimp only
 rw [hrt,hz,hro]
 simp
theorem Ag7 {v lo hi:Int} (h1:lo≤v) (h2:v≤hi):Bw v lo hi=true:=by unfold Bw; rw [Ag h1,Ag h2]; rfl
theorem Bv0:(z0.toList==([]:List UInt8))=true:=by decide +kernel
theorem Bhk {w l n:Int} (hw:Bw w 1 8=true) (h1:1≤l) (h2:l≤60000) (h3:1≤n) (h4:n≤1000000000):Eg (3,l,n,z0,()) w=true:=by
 obtain ⟨w1,w2⟩:=Cv hw
 unfold Eg
 simp only
 rw [hw,Ag7 h1 h2,Ag7 h3 h4,Bv0,Ag (show ((z0.size:Nat):Int)≤56 - w by show ((0:Nat):Int)≤56 - w; omega),show Bw 3 1 4=true from rfl]
 rfl
theorem Bv1 {p:Pg} {w:Int} (h:Eg p w=true):(Cc p w).size=64:=A01 h
theorem Bnm {wk wl l n:Int} {x:Aa} (h1:wl≤l) (h2:wk≠1):Zu wk wl (3,l,n,x,())=true:=by
 unfold Zu
 simp only
 rw [Bd (show ¬ l < wl by omega)]
 exact bne_iff_ne.2 h2
theorem Pre.zero {w:Int} {n:Nat} {D:List Aa} {r:Rt}:Pre w n D r 0 r.2.2.2.1 Ut:=
 ⟨Nat.zero_le _,sc0 r,rfl,Bvz r,rfl,rfl⟩
theorem Pre.life {w:Int} {n:Nat} {D:List Aa} {r:Rt} {u:Nat} {L l:Int} {s:B5} (h:Pre w n D r u L s) (hu:u < hN n) (hl:L≤l) (hp:Eg (3,l,r.2.2.1 + (u:Int),z0,()) w=true) (hD:D.getD (bN n r.2.1 + u) z0=Cc (3,l,r.2.2.1 + (u:Int),z0,()) w):
  Pre w n D r (u + 1) l s:=by
 obtain ⟨_,t,t1,t2,t3,t4⟩:=h
 have ho:Bt0 w r.2.2.1 ((u:Nat):Int) t (Cc (3,l,r.2.2.1 + (u:Int),z0,()) w) (3,l,r.2.2.1 + (u:Int),z0,()):=⟨I4 hp,rfl,Bnm (by omega) t2.k⟩
 refine ⟨hu,C3 u (3,l,r.2.2.1 + (u:Int),z0,()) t,?_,?_,rfl,t4⟩
 ·rw [Ag4,Ajv,t1,Option.bind_some,Afr]
  have e:rg D (bN n r.2.1) (0 + u) 1=[Cc (3,l,r.2.2.1 + (u:Int),z0,()) w]:=by
   unfold rg
   rw [Nat.zero_add,← hD]
   rfl
  rw [e,show (0:Int) + (u:Int)=(u:Int) by omega,Tu ho.ok,I4 hp]
  rfl
 ·have:=Bko (i:=(u:Int)) (s:=t) (p:=(3,l,r.2.2.1 + (u:Int),z0,())) (by show (3:Int)≠1; decide)
  rw [show ((u + 1:Nat):Int)=(u:Int) + 1 by omega]
  exact this
theorem Pre.ext {w:Int} {n:Nat} {D:List Aa} {r:Rt} {u:Nat} {L:Int} {s s':B5} {E:List Aa} (h:Pre w n D r u L s) (hw:Bw w 1 8=true) (hL:E≠[]→Bw L 1 60000=true) (h1:1≤r.2.2.1) (h2:r.2.2.1≤999999000) (n8:8≤n) (n2:n≤200)
  (hl:u + (qP L w (r.2.2.1 + u) E).length≤hN n) (hD:∀ i,i < (qP L w (r.2.2.1 + u) E).length→D.getD (bN n r.2.1 + (u + i)) z0=(qP L w (r.2.2.1 + u) E).getD i z0) (hs:E8 E s=some s'):
  Pre w n D r (u + (qP L w (r.2.2.1 + u) E).length) L s':=by
 obtain ⟨_,t,t1,t2,t3,t4⟩:=h
 have hh:=Oq n8 n2
 by_cases hE:E=[]
 ·subst hE
  cases hs
  exact ⟨hl,t,t1,t2,t3,t4⟩
 ·obtain ⟨t',k1,k2,k3,k4⟩:=Bpi (first:=r.2.2.1) hw (hL hE) E u t t2 (by omega) (by omega) t3
  refine ⟨hl,t',?_,?_,k3,?_⟩
  ·rw [Ag4,Ajv,t1,Option.bind_some,Afr,show (0:Int) + (u:Int)=(u:Int) by omega]
   have e:rg D (bN n r.2.1) (0 + u) (qP L w (r.2.2.1 + u) E).length=qP L w (r.2.2.1 + u) E:=by
    refine List.ext_getElem (by rw [Afr]) fun i i1 i2=>?_
    have:=hD i i2
    have g:=Bpj (D:=D) (b:=bN n r.2.1) (k:=0 + u) i2
    rw [Nat.zero_add,this] at g
    rw [List.getD_eq_getElem?_getD,List.getD_eq_getElem?_getD,List.getElem?_eq_getElem i2,List.getElem?_eq_getElem (by rw [Afr]; exact i2)] at g
    simp only [Option.getD_some] at g
    rw [← g]
    simp only [Nat.zero_add]
   rw [e]
   exact k1
  ·rw [show ((u + (qP L w (r.2.2.1 + u) E).length:Nat):Int)=(u:Int) + ((qP L w (r.2.2.1 + u) E).length:Int) by omega]
   exact k2
  ·rw [k4,Ajw,t4]
   exact hs
theorem Bt2 {L w:Int} (hw:Bw w 1 8=true):∀ (E:List Aa) (k:Int),((qP L w k E).length:Int)=(E.map fun e=>Ge e.size w).sum
 | [],_=>rfl
 | e::E,k=>by
  rw [Adq,List.map_cons,List.sum_cons,← Bt2 (L:=L) hw E (k + (Ao e w).length)]
  have:=Agv e w
  rw [hw,cond_true] at this
  omega
def Asv (s:B5):List Aa:=(Ec s).map Bh
theorem A08 {s:B5} {L w k:Int} (hw:Bw w 1 8=true):((qP L w k (Asv s)).length:Int)=D4 s w:=by
 rw [Bt2 hw]
 unfold D4 Asv
 rw [hw,cond_true,List.map_map]
 rfl
theorem Bpn {w life f:Int} (hw:Bw w 1 8=true) (hl:Bw life 1 60000=true) (h1:1≤f):∀ (bs:List (List Be)) (i:Nat) (M:List Aa),f + (M.length:Int) + (qP life w (f + M.length) (bs.map Bh)).length≤1000000001→
  C9 (fun _ b M=>Uu w life f b M) i bs M=M++qP life w (f + M.length) (bs.map Bh)
 | [],_,M,_=>by simp [C9,qP]
 | b::bs,i,M,h=>by
  have h:=h
  simp only [List.map_cons] at h ⊢
  rw [Adq] at h
  have e:Uu w life f b M=M++J6 life w (f + M.length) (Ao (Bh b) w):=by
   unfold Uu
   rw [Bne hw hl (by omega) (by omega)]
  have el:(M++J6 life w (f + M.length) (Ao (Bh b) w)).length=M.length + (Ao (Bh b) w).length:=by rw [Ef,(R4 _ _ _ _).1]
  show C9 _ (i + 1) bs (Uu w life f b M)=_
  rw [e,Bpn hw hl h1 bs (i + 1) _ (by
   rw [el]
   have:=Bhi life w (bs.map Bh) (f + (M.length:Int) + (Ao (Bh b) w).length) (f + ((M.length + (Ao (Bh b) w).length:Nat):Int))
   omega),el,List.append_assoc,show f + ((M.length + (Ao (Bh b) w).length:Nat):Int)=f + (M.length:Int) + ((Ao (Bh b) w).length:Int) by omega]
  rfl
def mvP (w life f:Int) (s:B5):List Aa:=Cc (3,life,f,z0,()) w::qP life w (f + 1) (Asv s)
theorem Bv2 {w life f:Int} {s:B5} (hw:Bw w 1 8=true):((mvP w life f s).length:Int)=1 + D4 s w:=by
 unfold mvP
 rw [List.length_cons,← A08 (L:=life) (k:=f + 1) hw]
 omega
theorem Bxw {s:E5} {life f:Int} (hf:f=s.2.2.2.1.2.2.1 + Al s.2.1) (hw:Bw s.1 1 8=true) (hl:Bw life 1 60000=true) (h1:1≤f) (h2:f≤999999000) (hr:D4 s.2.2.2.2.2.2.1 s.1≤200):mvL s life=mvP s.1 life f s.2.2.2.2.2.2.1:=by
 unfold mvL
 rw [← hf]
 have:=A08 (s:=s.2.2.2.2.2.2.1) (L:=life) (k:=f + 1) hw
 have e1:f + (([Cc (3,life,f,z0,()) s.1]:List Aa).length:Int)=f + 1:=rfl
 rw [Bpn hw hl h1 _ _ _ (by
  rw [e1]
  show f + 1 + ((qP life s.1 (f + 1) (Asv s.2.2.2.2.2.2.1)).length:Int)≤_
  omega),e1]
 rfl
theorem A9l:∀ {L:List (List Be)} {l m:List A1},Bfs L m→Ak (l++m,())=true→E8 (L.map Bh) (l,())=some (l++m,())
 | [],l,m,h,_=>by
  have:m=[]:=by
   have:=congrArg List.length h.1
   simp only [List.flatten_nil,List.length_nil,List.length_map] at this
   exact List.length_eq_zero_iff.1 this.symm
  subst this
  simp [E8]
 | b::L,l,m,h,hv=>by
  obtain ⟨x,y,rfl,rfl,h1,h2,h3⟩:=h.cons
  have hv':Ak (l++x,())=true:=by rw [← List.append_assoc] at hv; exact Bfr hv
  have hb:A0 (x.map x7)=true:=Ano (by simpa using h1) (by simpa using h2) fun c hc=>by
   obtain ⟨p,hp,rfl⟩:=List.mem_map.1 hc
   exact Bfq (Arj hv' p (List.mem_append_right _ hp))
  obtain ⟨k1,k2⟩:=Bfm (x.map x7)
  rw [hb] at k1
  rw [List.map_cons]
  show (bif (Hv (Bh (x.map x7))).2 then (bif (B7 (l,()) (Hv (Bh (x.map x7))).1).2==0 then E8 (L.map Bh) (B7 (l,()) (Hv (Bh (x.map x7))).1).1 else none) else none)=_
  rw [k1,k2 hb,Bni hv' h1 h2]
  show E8 (L.map Bh) (l++x,())=_
  rw [A9l h3 (by rw [List.append_assoc]; exact hv),List.append_assoc]
theorem Bra {s:B5} (h:Ak s=true):E8 (Asv s) Ut=some s:=by
 have:=A9l (l:=[]) (Bnj h) h
 exact this
theorem Bnn {s:B5} {b:List Be} (hb:A0 b=true) (h:(B7 s b).2=0):E8 [Bh b] s=some (B7 s b).1:=by
 obtain ⟨k1,k2⟩:=Bfm b
 show (bif (Hv (Bh b)).2 then (bif (B7 s (Hv (Bh b)).1).2==0 then some (B7 s (Hv (Bh b)).1).1 else none) else none)=_
 rw [k1,k2 hb,hb,h]
 rfl
theorem Pre.moved {w:Int} {n:Nat} {D:List Aa} {r:Rt} {l:Int} {s:B5} (hw:Bw w 1 8=true) (hl:Bw l 1 60000=true) (hr:r.2.2.2.1≤l) (h1:1≤r.2.2.1) (h2:r.2.2.1≤999999000) (n8:8≤n) (n2:n≤200) (hv:Ak s=true)
  (hm:(mvP w l r.2.2.1 s).length≤hN n) (hD:∀ i,i < (mvP w l r.2.2.1 s).length→D.getD (bN n r.2.1 + i) z0=(mvP w l r.2.2.1 s).getD i z0):Pre w n D r (mvP w l r.2.2.1 s).length l s:=by
 have hh:=Oq n8 n2
 obtain ⟨l1,l2⟩:=Cv hl
 have hlen:(mvP w l r.2.2.1 s).length=1 + (qP l w (r.2.2.1 + ((1:Nat):Int)) (Asv s)).length:=by
  show (qP l w (r.2.2.1 + 1) (Asv s)).length + 1=_
  rw [show ((1:Nat):Int)=1 from rfl]
  omega
 have h0:=hD 0 (by rw [hlen]; omega)
 have p0:Pre w n D r 0 r.2.2.2.1 Ut:=Pre.zero
 have hk:Eg (3,l,r.2.2.1 + ((0:Nat):Int),z0,()) w=true:=Bhk hw l1 l2 (by omega) (by omega)
 have p1:Pre w n D r 1 l Ut:=Pre.life p0 (by omega) hr hk (by
  rw [h0]
  show Cc (3,l,r.2.2.1,z0,()) w=_
  rw [show r.2.2.1 + ((0:Nat):Int)=r.2.2.1 by omega])
 have p2:=Pre.ext (E:=Asv s) p1 hw (fun _=>hl) h1 h2 n8 n2 (by omega) (fun i hi=>by
  have:=hD (i + 1) (by omega)
  rw [show 1 + i=i + 1 by omega,this]
  rfl) (Bra hv)
 rw [hlen]
 exact p2
section
variable {w:Int} {n:Nat} {D D' W X:List Aa} {past past':List B5} {r r':Rt} {u0:Nat} {L:Int} {s0:B5} {E F:List Aa}
structure Sec (n:Nat) (D:List Aa):Prop where
 len:D.length=n
 sz:∀ i,i < n→(D.getD i z0).size=64
def NoF (w:Int) (n:Nat) (D W:List Aa):Prop:=∀ i,i < n→(Av (D.getD i z0) w).2=true→D.getD i z0∈W
theorem Afs.sec (c:Afs w n D W past r u0 L s0 E):Sec n D:=⟨c.len,c.sz⟩
theorem Sec.ok (h:Sec n D) (n8:8≤n) (n2:n≤200):Ar (D,[],())=true:=(Bpl n8 n2 h.len h.sz).valid
def InR (w:Int) (n:Nat) (r:Rt) (u0:Nat) (p:Pg):Prop:=r.2.2.1 + (u0:Int)≤p.2.2.1∧p.2.2.1 < r.2.2.1 + (hN n:Int)
theorem Bxx (E F:List Aa) {j:Nat} (L w k:Int) (h:j < (qP L w k E).length):j < (qP L w k (E++F)).length∧(qP L w k (E++F)).getD j z0=(qP L w k E).getD j z0:=by
 rw [Bnk,Ef]
 refine ⟨by omega,?_⟩
 simp only [List.getD_eq_getElem?_getD]
 rw [List.getElem?_append_left h]
theorem Afs.next (c:Afs w n D W past r u0 L s0 E) (hs:Sec n D') (nf:NoF w n D' (W++X)) (root:Aw (D',[],()) w=r) (hp:∀ i,i < u0→D'.getD (bN n r.2.1 + i) z0=D.getD (bN n r.2.1 + i) z0)
  (hpast:∀ s∈past,s∈past') (rm:∀ s∈past',D4 s w≤(hN n:Int) - 1) (st:∀ j,E.length < j→j≤(E++F).length→∃ s∈past',E8 ((E++F).take j) s0=some s) (lb:E++F≠[]→Bw L 1 60000=true)
  (qh:u0 + (qP L w (r.2.2.1 + u0) (E++F)).length≤hN n)
  (hX:∀ x∈X,∀ p,Av x w=(p,true)→p.1≠4→InR w n r u0 p→(p.2.1=L→∃ j,j < (qP L w (r.2.2.1 + u0) (E++F)).length∧p.2.2.1=r.2.2.1 + ((u0 + j:Nat):Int)∧x=(qP L w (r.2.2.1 + u0) (E++F)).getD j z0)∧(L < p.2.1→p.1=3)):
  Afs w n D' (W++X) past' r u0 L s0 (E++F) where
 n8:=c.n8
 n2:=c.n2
 hw:=c.hw
 len:=hs.len
 sz:=hs.sz
 nf:=nf
 root:=root
 fb:=c.fb
 pre:=c.pre.congr hp
 st:=fun j hj=>by
  by_cases q:j≤E.length
  ·obtain ⟨s,h1,h2⟩:=c.st j q
   exact ⟨s,hpast s h1,by rw [List.take_append_of_le_length q]; exact h2⟩
  ·exact st j (by omega) hj
 rm:=rm
 lb:=lb
 qh:=qh
 q:=fun x hx p hp h4 hl h1 h2=>by
  rcases List.mem_append.1 hx with q | q
  ·obtain ⟨j,j1,j2,j3⟩:=c.q x q p hp h4 hl h1 h2
   obtain ⟨k1,k2⟩:=Bxx E F L w (r.2.2.1 + u0) j1
   exact ⟨j,k1,j2,by rw [k2]; exact j3⟩
  ·exact (hX x q p hp h4 ⟨h1,h2⟩).1 hl
 e:=fun x hx p hp h4 hl h1 h2=>by
  rcases List.mem_append.1 hx with q | q
  ·exact c.e x q p hp h4 hl h1 h2
  ·exact (hX x q p hp h4 ⟨h1,h2⟩).2 hl
theorem Afs.synced (c:Afs w n D W past r u0 L s0 E) {st:B5} (hst:E8 E s0=some st) (hs:Sec n D') (nf:NoF w n D' (W++X)) (root:Aw (D',[],()) w=r) (hp:∀ i,i < u0→D'.getD (bN n r.2.1 + i) z0=D.getD (bN n r.2.1 + i) z0)
  (hq:∀ i,i < (qP L w (r.2.2.1 + u0) E).length→D'.getD (bN n r.2.1 + (u0 + i)) z0=(qP L w (r.2.2.1 + u0) E).getD i z0)
  (hpast:st∈past') (rm:∀ s∈past',D4 s w≤(hN n:Int) - 1)
  (hX:∀ x∈X,∀ p,Av x w=(p,true)→p.1≠4→¬ InR w n r u0 p):
  Afs w n D' (W++X) past' r (u0 + (qP L w (r.2.2.1 + u0) E).length) L st [] where
 n8:=c.n8
 n2:=c.n2
 hw:=c.hw
 len:=hs.len
 sz:=hs.sz
 nf:=nf
 root:=root
 fb:=c.fb
 pre:=by
  have hr:=c.rok
  have hf:=c.fb
  exact (c.pre.congr hp).ext c.hw c.lb (by have:=hr.2.2.1.1; omega) (by omega) c.n8 c.n2 c.qh hq hst
 st:=fun j hj=>by
  have:j=0:=by simpa using hj
  subst this
  exact ⟨st,hpast,rfl⟩
 rm:=rm
 lb:=fun h=>absurd rfl h
 qh:=by
  have:=c.qh
  show u0 + (qP L w (r.2.2.1 + u0) E).length + 0≤hN n
  omega
 q:=fun x hx p hp h4 hl h1 h2=>by
  exfalso
  rcases List.mem_append.1 hx with q | q
  ·obtain ⟨j,j1,j2,j3⟩:=c.q x q p hp h4 hl (by omega) h2
   omega
  ·exact hX x q p hp h4 ⟨by omega,h2⟩
 e:=fun x hx p hp h4 hl h1 h2=>by
  rcases List.mem_append.1 hx with q | q
  ·exact c.e x q p hp h4 hl (by omega) h2
  ·exact absurd ⟨by omega,h2⟩ (hX x q p hp h4)
theorem Bhl (n8:8≤n) (n2:n≤200) (hw:Bw w 1 8=true) (hs:Sec n D) (nf:NoF w n D W) (root:Aw (D,[],()) w=r) (fb:r.2.2.1 + 200≤999999000) (pre:Pre w n D r u0 L s0)
  (hpast:s0∈past) (rm:∀ s∈past,D4 s w≤(hN n:Int) - 1)
  (hW:∀ x∈W,∀ p,Av x w=(p,true)→p.1≠4→InR w n r u0 p→p.2.1 < L):Afs w n D W past r u0 L s0 [] where
 n8:=n8
 n2:=n2
 hw:=hw
 len:=hs.len
 sz:=hs.sz
 nf:=nf
 root:=root
 fb:=fb
 pre:=pre
 st:=fun j hj=>by
  have:j=0:=by simpa using hj
  subst this
  exact ⟨s0,hpast,rfl⟩
 rm:=rm
 lb:=fun h=>absurd rfl h
 qh:=by
  have:=pre.hu
  show u0 + 0≤hN n
  omega
 q:=fun x hx p hp h4 hl h1 h2=>by
  have:=hW x hx p hp h4 ⟨h1,h2⟩
  omega
 e:=fun x hx p hp h4 hl h1 h2=>by
  have:=hW x hx p hp h4 ⟨h1,h2⟩
  omega
theorem Pre.ge {s:B5} {u u':Nat} {l l':Int} {es:List Aa} (h:Pre w n D r u l s) (n8:8≤n) (n2:n≤200) (hw:Bw w 1 8=true) (hs:Sec n D) (root:Aw (D,[],()) w=r) (hsc:F3 (D,[],()) w=(es,(u':Int),l',())):u≤u'∧l≤l':=by
 obtain ⟨hu,t,t1,t2,t3,t4⟩:=h
 have h1:=Axg n8 n2 hw hs.len (hs.ok n8 n2) root
 have hreg:rg D (bN n r.2.1) 0 (hN n)=rg D (bN n r.2.1) 0 u++rg D (bN n r.2.1) (0 + u) (hN n - u):=by
  rw [← Ag4,show u + (hN n - u)=hN n by omega]
 rw [hreg,A9i t1,Afr,show (0:Int) + (u:Int)=(u:Int) by omega,hsc] at h1
 rcases Au4 (w:=w) (first:=r.2.2.1) (rg D (bN n r.2.1) (0 + u) (hN n - u)) u t with ⟨A,R,t',q1,q2,q3,q4⟩ | q
 ·rw [q4] at h1
  have e1:(u':Int)=t'.2.2.2.2.1:=congrArg (fun z:Scd=>z.2.1) h1
  have e2:l'=t'.2.2.2.2.2:=congrArg (fun z:Scd=>z.2.2.1) h1
  rw [q3.u] at e1
  rw [q3.l] at e2
  have:=Ag3 q2
  omega
 ·rw [q] at h1
  have e1:(u':Int)=t.2.2.2.2.1:=congrArg (fun z:Scd=>z.2.1) h1
  have e2:l'=t.2.2.2.2.2:=congrArg (fun z:Scd=>z.2.2.1) h1
  rw [t2.u] at e1
  rw [t2.l] at e2
  omega
theorem Brb (n8:8≤n) (n2:n≤200) (hw:Bw w 1 8=true) (hs:Sec n D) (hs':Sec n D') (root:Aw (D,[],()) w=r) (root':Aw (D',[],()) w=r) (h:∀ i,i < hN n→D'.getD (bN n r.2.1 + i) z0=D.getD (bN n r.2.1 + i) z0):
  F3 (D',[],()) w=F3 (D,[],()) w:=by
 rw [Axg n8 n2 hw hs.len (hs.ok n8 n2) root,Axg n8 n2 hw hs'.len (hs'.ok n8 n2) root',Bkr (D:=D') (D':=D) fun i _ hi=>h i (by omega)]
theorem Axi {L w:Int} (hw:Bw w 1 8=true) (hl:Bw L 1 60000=true):∀ (E:List Aa) (k:Int),1≤k→k + (qP L w k E).length≤1000000001→∀ j,j < (qP L w k E).length→∃ q,Av ((qP L w k E).getD j z0) w=(q,true)∧(q.1=1∨q.1=2)∧q.2.1=L∧q.2.2.1=k + (j:Int)
 | [],k,_,_,j,hj=>by simp [qP] at hj
 | e::E,k,h1,h2,j,hj=>by
  have hlen:=(R4 L w (Ao e w) k).1
  have hq:qP L w k (e::E)=J6 L w k (Ao e w)++qP L w (k + (Ao e w).length) E:=rfl
  rw [Adq] at h2 hj
  obtain ⟨k1,k2,k3⟩:=Agz e hw
  by_cases q:j < (Ao e w).length
  ·have hg:(qP L w k (e::E)).getD j z0=Cc ((if j + 1=(Ao e w).length then 2 else 1),L,k + (j:Int),(Ao e w).getD j z0,()) w:=by
    rw [hq,List.getD_eq_getElem?_getD,List.getElem?_append_left (by omega),Zt]
    simp [q]
   rw [hg]
   have hp:Eg ((if j + 1=(Ao e w).length then 2 else 1),L,k + (j:Int),(Ao e w).getD j z0,()) w=true:=y6 hw hl (by split<;>simp) (by omega) (by omega) (k1 _ (Zr z0 q))
   refine ⟨_,I4 hp,?_,rfl,rfl⟩
   show (if j + 1=(Ao e w).length then (2:Int) else 1)=1∨(if j + 1=(Ao e w).length then (2:Int) else 1)=2
   split
   ·exact .inr rfl
   ·exact .inl rfl
  ·obtain ⟨p,p1,p2,p3,p4⟩:=Axi hw hl E (k + (Ao e w).length) (by omega) (by omega) (j - (Ao e w).length) (by omega)
   refine ⟨p,?_,p2,p3,by omega⟩
   rw [hq,List.getD_eq_getElem?_getD,List.getElem?_append_right (by omega),hlen,← List.getD_eq_getElem?_getD]
   exact p1
theorem Axj {x:Aa} {l:List Aa} (h:x∈l):∃ j,j < l.length∧x=l.getD j z0:=by
 obtain ⟨j,h1,h2⟩:=Zs z0 h
 exact ⟨j,h1,h2.symm⟩
theorem Zw {x:Aa} {w:Int} {p:Pg} (h:Av x w=(p,true)):x.size=64:=(Us h).1
theorem Byq {L w k:Int} {E:List Aa} (hw:Bw w 1 8=true) (hl:Bw L 1 60000=true) (h1:1≤k) (h2:k + (qP L w k E).length≤1000000001):∀ x∈qP L w k E,x.size=64:=fun x hx=>by
 obtain ⟨j,j1,rfl⟩:=Axj hx
 obtain ⟨q,q1,_⟩:=Axi hw hl E k h1 h2 j j1
 exact Zw q1
theorem Bky {w l f:Int} {s:B5} (hw:Bw w 1 8=true) (hl:Bw l 1 60000=true) (h1:1≤f) (h2:f≤999999000) (hr:D4 s w≤200):∀ j,j < (mvP w l f s).length→∃ q,Av ((mvP w l f s).getD j z0) w=(q,true)∧q.1≠4∧q.2.1=l∧q.2.2.1=f + (j:Int):=fun j hj=>by
 obtain ⟨l1,l2⟩:=Cv hl
 have hR:=A08 (s:=s) (L:=l) (k:=f + 1) hw
 cases j with
 | zero=>
  refine ⟨_,I4 (Bhk hw l1 l2 h1 (by omega)),by show (3:Int)≠4; decide,rfl,by show f=f + ((0:Nat):Int); omega⟩
 | succ j=>
  have hj:j < (qP l w (f + 1) (Asv s)).length:=by unfold mvP at hj; simpa using hj
  obtain ⟨q,q1,q2,q3,q4⟩:=Axi hw hl (Asv s) (f + 1) (by omega) (by omega) j hj
  exact ⟨q,q1,by rcases q2 with z | z<;>omega,q3,by omega⟩
theorem Bxy {w l f:Int} {s:B5} (hw:Bw w 1 8=true) (hl:Bw l 1 60000=true) (h1:1≤f) (h2:f≤999999000) (hr:D4 s w≤200):∀ x∈mvP w l f s,x.size=64:=fun x hx=>by
 obtain ⟨j,j1,rfl⟩:=Axj hx
 obtain ⟨q,q1,_⟩:=Bky hw hl h1 h2 hr j j1
 exact Zw q1
end
section
abbrev Ob (w:Int) (D:List Aa) (P:List Wr) (up:Bool) (s:E5) (past:List B5) (W:List Aa):Bg:=(w,(D,P,()),up,s,past,W,())
variable {B:Nat} {w:Int} {n:Nat} {D D' W X:List Aa} {P:List Wr} {past past':List B5} {r r':Rt} {u0:Nat} {L:Int} {s0:B5} {E F:List Aa}
theorem A3s {n:Nat} {p:Nat→Bool} (h:∀ i,i < n→p i=true):(List.range' 0 n).all p=true:=List.all_eq_true.2 fun i hi=>h i (by have:=(List.mem_range'_1.1 hi).2; omega)
theorem A9m {up:Bool} {sto:E5} (hw:Bw w 1 8=true) (hd:Ar (D,P,())=true) (hp:1≤past.length∧past.length≤200) (hW:W.length≤2000) (hs:Rb (Ob w D P up sto past W)=true) (pv:∀ s∈past,Ak s=true) (w64:∀ x∈W,x.size=64):
  Bf (Ob w D P up sto past W)=true:=by
 have e1:c9 (Ob w D P up sto past W)=true:=A3s fun i hi=>pv _ (Zr Ut hi)
 have e2:M9 (Ob w D P up sto past W)=true:=A3s fun i hi=>Ag (w64 _ (Zr z0 hi))
 unfold Bf
 rw [e1,e2,hs]
 show (Bw w 1 8&&(Ar (D,P,())&&(Bw (past.length:Int) 1 200&&(decide (W.length≤2000)&&(true&&(true&&true))))))=true
 rw [hw,hd,Ag hW,Ag7 (show (1:Int)≤(past.length:Int) by omega) (show (past.length:Int)≤200 by omega)]
 rfl
theorem Brc:Rb (Ob w D P false b8 past W)=true:=by
 show Rm b8=true
 decide +kernel
theorem Anq (n8:8≤n) (n2:n≤200) (hw:Bw w 1 8=true) (hL:1≤L∧L≤60000) (hr:Bhc r) {used loose:Int} (hu:0≤used∧used≤(hN n:Int)) (hl:0≤loose∧loose≤used) {st:B5} (hv:Ak st=true) (hR:D4 st w≤(hN n:Int) - 1):
  Au (w,(n:Int),L,r,used,loose,st,())=true:=by
 have hh:=Oq n8 n2
 obtain ⟨⟨t1,t2⟩,⟨H1,H2⟩,⟨f1,f2⟩,l1,l2⟩:=hr
 have hro:Jo r=true:=by unfold Jo; rw [Ag7 H1 H2,Ag7 f1 f2]; rfl
 unfold Au
 show (decide (0 < Al (n:Int))&&(Bw w 1 8&&(Bw L 1 60000&&(Bw r.1 0 1000000000&&(Jo r&&(Bw r.2.2.2.1 0 60000&&(Bw used 0 (Al (n:Int))&&(Bw loose 0 used&&(Ak st&&decide (D4 st w≤Al (n:Int) - 1))))))))))=true
 rw [Vs n8 n2,Ag (show (0:Int) < (hN n:Int) by omega),hw,Ag7 hL.1 hL.2,Ag7 t1 t2,hro,Ag7 l1 l2,Ag7 hu.1 hu.2,Ag7 hl.1 hl.2,hv,Ag hR]
 rfl
theorem Bpo (n8:8≤n) (n2:n≤200) (hlen:D.length=n) {used loose:Int} {st:B5} (h:Au (w,(n:Int),L,r,used,loose,st,())=true):Rb (Ob w D P true (w,(n:Int),L,r,used,loose,st,()) past W)=true:=by
 show (Au (w,(n:Int),L,r,used,loose,st,())&&(w==w&&(n:Int)==nI D.length))=true
 rw [h,hlen]
 simp [nI]
def Ads (w:Int) (n:Nat) (W:List Aa) (r:Rt):Prop:=∀ x∈W,∀ p,Av x w=(p,true)→p.1=4→(F2 p).1≤r.1∨((F2 p).1=r.1 + 1∧(F2 p).2.1=1 - r.2.1∧(F2 p).2.2.1=r.2.2.1 + (hN n:Int))
structure Bas (B:Nat) (w:Int) (n:Nat) (W:List Aa) (past:List B5) (r:Rt):Prop where
 b:B≤9000
 wl:W.length≤B * (hN n + 1)
 wk:W.length≤2000
 w64:∀ x∈W,x.size=64
 wb:∀ x∈W,∀ p,Av x w=(p,true)→p.2.1≤(B:Int)
 pv:∀ s∈past,Ak s=true
 pl:1≤past.length∧past.length≤200
 g:Ads w n W r
 tb:r.1≤(B:Int)
 fb:r.2.2.1≤1 + 100 * (B:Int)
def Nq (w:Int) (W:List Aa) (l:Int):Prop:=∀ x∈W,∀ p,Av x w=(p,true)→p.2.1≤l
def By9 (w:Int) (n:Nat) (W:List Aa) (r:Rt) (u:Nat) (l:Int) (s:B5):Prop:=∀ x∈W,∀ p,Av x w=(p,true)→p.1≠4→p.2.1=l + 1→p.2.2.1 < r.2.2.1 + (u:Int)∨(u < hN n∧p.2.2.1=r.2.2.1 + (u:Int))∨(u=hN n∧x∈mvP w (l + 1) (r.2.2.1 + (hN n:Int)) s)
structure We (B:Nat) (w:Int) (n:Nat) (D W:List Aa) (past:List B5) (r:Rt) (u0:Nat) (L:Int) (s0:B5) (E es:List Aa) (u:Nat) (l:Int) (s:B5):Prop where
 c:Afs w n D W past r u0 L s0 E
 f:Bpm w n D W past r u0 L es u l s
 b:Bas B w n W past r
 lb:L≤(B:Int)
 lv:Nq w W (l + 1)
 lt:By9 w n W r u l s
def DnP (B:Nat) (w:Int) (n:Nat) (D W:List Aa) (past:List B5):Prop:=∃ r u0 L s0 E es u l s,We B w n D W past r u0 L s0 E es u l s
structure O5 (B:Nat) (w:Int) (n:Nat) (D:List Aa) (P:List Wr) (sto:E5) (past:List B5) (W:List Aa) (r:Rt) (u0:Nat) (L:Int) (s0:B5) (E:List Aa) (st:B5):Prop where
 c:Afs w n D W past r u0 L s0 E
 b:Bas B w n W past r
 l1:1≤L
 lb:L≤(B:Int)
 p:P=Tm ((bN n r.2.1 + u0:Nat):Int) (qP L w (r.2.2.1 + u0) E)
 s:sto=(w,(n:Int),L,r,((u0 + (qP L w (r.2.2.1 + u0) E).length:Nat):Int),((qP L w (r.2.2.1 + u0) E).length:Int),st,())
 o:E8 E s0=some st
 la:∃ pre,past=pre++[st]
 lv:Nq w W L
 ea:∀ x∈W,∀ p,Av x w=(p,true)→p.1≠4→p.2.1=L→p.2.2.1 < r.2.2.1 + (hN n:Int)
def UpP (B:Nat) (w:Int) (n:Nat) (D:List Aa) (P:List Wr) (sto:E5) (past:List B5) (W:List Aa):Prop:=∃ r u0 L s0 E st,O5 B w n D P sto past W r u0 L s0 E st
theorem Bas.mono (h:Bas B w n W past r) {B':Nat} (hB:B≤B') (hb:B'≤9000):Bas B' w n W past r where
 b:=hb
 wl:=Nat.le_trans h.wl (Nat.mul_le_mul_right _ hB)
 wk:=h.wk
 w64:=h.w64
 wb:=fun x hx p hp=>by have:=h.wb x hx p hp; omega
 pv:=h.pv
 pl:=h.pl
 g:=h.g
 tb:=by have:=h.tb; omega
 fb:=by have:=h.fb; omega
theorem DnP.mono (h:DnP B w n D W past) {B':Nat} (hB:B≤B') (hb:B'≤9000):DnP B' w n D W past:=by
 obtain ⟨r,u0,L,s0,E,es,u,l,s,h⟩:=h
 exact ⟨r,u0,L,s0,E,es,u,l,s,h.c,h.f,h.b.mono hB hb,by have:=h.lb; omega,h.lv,h.lt⟩
theorem UpP.mono {sto:E5} (h:UpP B w n D P sto past W) {B':Nat} (hB:B≤B') (hb:B'≤9000):UpP B' w n D P sto past W:=by
 obtain ⟨r,u0,L,s0,E,st,h⟩:=h
 exact ⟨r,u0,L,s0,E,st,h.c,h.b.mono hB hb,h.l1,by have:=h.lb; omega,h.p,h.s,h.o,h.la,h.lv,h.ea⟩
theorem DnP.of (c:Afs w n D W past r u0 L s0 E) (b:Bas B w n W past r) (lb:L≤(B:Int)) (lv:Nq w W L):DnP B w n D W past:=by
 obtain ⟨es,u,l,s,f⟩:=c.found
 have hl:=f.hl
 refine ⟨r,u0,L,s0,E,es,u,l,s,c,f,b,lb,fun x hx p hp=>?_,fun x hx p hp h4 h=>?_⟩
 ·have:=lv x hx p hp; omega
 ·have:=lv x hx p hp; omega
theorem Bas.more (h:Bas B w n W past r) (hb:B + 1≤9000) (hX:X.length≤hN n + 1) (wk:(W++X).length≤2000) (x64:∀ x∈X,x.size=64) (xb:∀ x∈X,∀ p,Av x w=(p,true)→p.2.1≤(B:Int) + 1)
  (pv:∀ s∈past',Ak s=true) (pl:1≤past'.length∧past'.length≤200) (g:Ads w n (W++X) r') (tb:r'.1≤r.1 + 1) (fb:r'.2.2.1≤r.2.2.1 + 100):Bas (B + 1) w n (W++X) past' r' where
 b:=hb
 wl:=by
  rw [Ef,Nat.add_mul,Nat.one_mul]
  have:=h.wl
  omega
 wk:=wk
 w64:=fun x hx=>by
  rcases List.mem_append.1 hx with q | q
  ·exact h.w64 x q
  ·exact x64 x q
 wb:=fun x hx p hp=>by
  rcases List.mem_append.1 hx with q | q
  ·have:=h.wb x q p hp; omega
  ·have:=xb x q p hp; omega
 pv:=pv
 pl:=pl
 g:=g
 tb:=by have:=h.tb; omega
 fb:=by have:=h.fb; omega
theorem Ads.more (h:Ads w n W r) (hX:∀ x∈X,∀ p,Av x w=(p,true)→p.1≠4):Ads w n (W++X) r:=fun x hx p hp h4=>by
 rcases List.mem_append.1 hx with q | q
 ·exact h x q p hp h4
 ·exact absurd h4 (hX x q p hp)
theorem Nq.app {l:Int} (h:Nq w W l) (hX:Nq w X l):Nq w (W++X) l:=fun x hx p hp=>by
 rcases List.mem_append.1 hx with q | q
 ·exact h x q p hp
 ·exact hX x q p hp
theorem Bt3 {up:Bool} {sto:E5} (hv:Bf (Ob w D P up sto past W)=true) (hlen:D.length=n) (h:M2 (Ob w D P up sto past W)=z0):NoF w n D W:=fun i hi hr=>by
 unfold M2 at h
 rw [hv] at h
 have h:M6 (fun x=>(Av x w).2&&!inL W x) (fun x=>x) z0 D=z0:=h
 have key:∀ (l:List Aa),M6 (fun x=>(Av x w).2&&!inL W x) (fun x=>x) z0 l=z0→∀ x∈l,(Av x w).2=true→inL W x=true:=by
  intro l
  induction l with
  | nil=>intro _ x hx; cases hx
  | cons y l ih=>
   intro hf x hx hxr
   simp only [M6] at hf
   cases hc:(Av y w).2&&!inL W y with
   | true=>
    rw [hc] at hf
    have hf:y=z0:=hf
    obtain ⟨h1,_⟩:=B6 hc
    have hp:Av y w=((Av y w).1,true):=Prod.ext rfl h1
    have:=Zw hp
    rw [hf] at this
    exact absurd this (by decide)
   | false=>
    rw [hc] at hf
    rcases List.mem_cons.1 hx with rfl | hx
    ·rw [hxr] at hc
     simpa using hc
    ·exact ih hf x hx hxr
 have:=key D h _ (Zr z0 (by omega)) hr
 unfold inL at this
 obtain ⟨y,hy,hq⟩:=List.any_eq_true.1 this
 rw [← Fz.1 hq]
 exact hy
end
section
variable {B:Nat} {w:Int} {n:Nat} {D D' W X:List Aa} {P ws:List Wr} {past past':List B5} {r r':Rt} {u0:Nat} {L:Int} {s0 st:B5} {E F:List Aa} {sto:E5}
theorem y8 (n8:8≤n) (n2:n≤200) (hs:Sec n D) (hl:ws.length≤300) (hp:∀ v∈ws,0≤v.1∧v.1 < (n:Int)∧v.2.1.size=64):Ar (D,ws,())=true:=Iw.valid {
 n8:=by show 8≤D.length; rw [hs.len]; exact n8
 n200:=by show D.length≤200; rw [hs.len]; exact n2
 p300:=hl
 sec:=fun i hi=>hs.sz i (by rw [← hs.len]; exact hi)
 pen:=fun i hi=>by
  have:=hp _ (Zr zW hi)
  show _∧_ < (D.length:Int)∧_
  rw [hs.len]
  exact this }
theorem A9n (hlen:D.length=n) (hv:Ar (D,ws,())=true) (f:List Int):Sec n (Tr f D ws):=by
 have:=Bo1 hv f
 have h1:(Tr f D ws).length=D.length:=this.1
 exact ⟨by omega,fun i hi=>this.2 i (by show i < D.length; omega)⟩
theorem S0 (hv:Ar (D,ws,())=true) (f:List Int):E9 (D,ws,()) f=(Tr f D ws,[],()):=by
 unfold E9
 rw [hv]
 rfl
theorem Aa2 (n8:8≤n) (n2:n≤200) (hw:Bw w 1 8=true) (hs:Sec n D) (root:Aw (D,[],()) w=r) (hv:Ar (D,ws,())=true) (f:List Int) (hp:∀ v∈ws,2≤v.1.toNat):
  Sec n (Tr f D ws)∧Aw (Tr f D ws,[],()) w=r:=by
 have hs':=A9n hs.len hv f
 refine ⟨hs',?_⟩
 rw [Arn (hs.ok n8 n2) (hs'.ok n8 n2) hw (Wd (fun v hv=>by have:=hp v hv; omega) D) (Wd (fun v hv=>by have:=hp v hv; omega) D)]
 exact root
theorem O5.h9 (h:O5 B w n D P sto past W r u0 L s0 E st):1≤r.2.2.1∧r.2.2.1≤999998800∧Bw L 1 60000=true:=by
 have hr:=h.c.rok
 have hf:=h.c.fb
 have:=h.b.b
 have:=h.lb
 exact ⟨hr.2.2.1.1,by omega,Ag7 h.l1 (by omega)⟩
theorem O5.q64 (h:O5 B w n D P sto past W r u0 L s0 E st):∀ x∈qP L w (r.2.2.1 + u0) E,x.size=64:=by
 obtain ⟨h1,h2,h3⟩:=h.h9
 have hh:=Oq h.c.n8 h.c.n2
 have:=h.c.qh
 exact Byq h.c.hw h3 (by omega) (by omega)
theorem O5.pos (h:O5 B w n D P sto past W r u0 L s0 E st):∀ v∈P,((bN n r.2.1 + u0:Nat):Int)≤v.1∧v.1 < ((bN n r.2.1 + hN n:Nat):Int)∧v.2.1.size=64:=fun v hv=>by
 rw [h.p] at hv
 have hq:=h.c.qh
 have key:∀ (L:List Aa) (a:Int),(∀ x∈L,x.size=64)→∀ v∈Tm a L,v.2.1.size=64:=by
  intro L
  induction L with
  | nil=>intro a _ v hv; cases hv
  | cons x L ih=>
   intro a hx v hv
   rcases List.mem_cons.1 hv with rfl | hv
   ·exact hx x List.mem_cons_self
   ·exact ih (a + 1) (fun y hy=>hx y (List.mem_cons_of_mem _ hy)) v hv
 have:=Ag6 hv
 exact ⟨this.1,by omega,key _ _ h.q64 v hv⟩
theorem O5.plen (h:O5 B w n D P sto past W r u0 L s0 E st):P.length=(qP L w (r.2.2.1 + u0) E).length:=by rw [h.p,Ag5]
theorem O5.bin (h:O5 B w n D P sto past W r u0 L s0 E st):2≤bN n r.2.1∧bN n r.2.1 + hN n≤n:=Bfv h.c.n8 h.c.n2 h.c.rok.2.1
theorem O5.vd (h:O5 B w n D P sto past W r u0 L s0 E st):Ar (D,P,())=true:=by
 have hq:=h.c.qh
 have hh:=Oq h.c.n8 h.c.n2
 have hb:=h.bin
 refine y8 h.c.n8 h.c.n2 h.c.sec (by rw [h.plen]; omega) fun v hv=>?_
 obtain ⟨p1,p2,p3⟩:=h.pos v hv
 exact ⟨by omega,by omega,p3⟩
theorem O5.mem (h:O5 B w n D P sto past W r u0 L s0 E st):st∈past:=by
 obtain ⟨pre,e⟩:=h.la
 rw [e]
 exact List.mem_append_right _ (List.mem_singleton.2 rfl)
theorem O5.sv (h:O5 B w n D P sto past W r u0 L s0 E st):Ak st=true:=h.b.pv st h.mem
theorem O5.sok (h:O5 B w n D P sto past W r u0 L s0 E st):Au sto=true:=by
 rw [h.s]
 have hq:=h.c.qh
 obtain ⟨_,_,h3⟩:=h.h9
 exact Anq h.c.n8 h.c.n2 h.c.hw (Cv h3) h.c.rok ⟨by omega,by omega⟩ ⟨by omega,by omega⟩ h.sv (h.c.rm st h.mem)
theorem O5.valid (h:O5 B w n D P sto past W r u0 L s0 E st):Bf (Ob w D P true sto past W)=true:=by
 have h1:=h.sok
 have h2:=h.s
 subst h2
 exact A9m h.c.hw h.vd h.b.pl h.b.wk (Bpo h.c.n8 h.c.n2 h.c.len h1) h.b.pv h.b.w64
theorem Bkz (b:Bas B w n W past r) (n8:8≤n) (n2:n≤200) (hw:Bw w 1 8=true) (hs:Sec n D):Bf (Ob w D [] false b8 past W)=true:=
 A9m hw (hs.ok n8 n2) b.pl b.wk Brc b.pv b.w64
def Lg (B:Nat) (w:Int) (n:Nat) (W':Bg):Prop:=Bf W'=true∧(M2 W'=z0→(∃ D past W,W'=Ob w D [] false b8 past W∧DnP B w n D W past)∨(∃ D P sto past W,W'=Ob w D P true sto past W∧UpP B w n D P sto past W))
theorem Lg.dn (b:Bas B w n W past r) (n8:8≤n) (n2:n≤200) (hw:Bw w 1 8=true) (hs:Sec n D) (h:NoF w n D W→DnP B w n D W past):Lg B w n (Ob w D [] false b8 past W):=by
 have hv:=Bkz b n8 n2 hw hs
 exact ⟨hv,fun hf=>.inl ⟨D,past,W,rfl,h (Bt3 hv hs.len hf)⟩⟩
theorem O5.power (h:O5 B w n D P sto past W r u0 L s0 E st) (f:List Int):Lg B w n (Ag2 (Ob w D P true sto past W) f):=by
 have hb:=h.bin
 have e:Ag2 (Ob w D P true sto past W) f=Ob w (Tr f D P) [] false b8 past W:=by
  unfold Ag2
  show (w,E9 (D,P,()) f,_)=_
  rw [S0 h.vd]
 rw [e]
 obtain ⟨k1,k2⟩:=Aa2 h.c.n8 h.c.n2 h.c.hw h.c.sec h.c.root h.vd f fun v hv=>by have:=h.pos v hv; omega
 refine Lg.dn h.b h.c.n8 h.c.n2 h.c.hw k1 fun nf=>?_
 have nf':NoF w n (Tr f D P) (W++[]):=by rw [List.append_nil]; exact nf
 have c':=h.c.next (F:=[]) (past':=past) k1 nf' k2 (fun i hi=>Wd (fun v hv=>by have:=h.pos v hv; omega) D) (fun s hs=>hs) h.c.rm
  (fun j j1 j2=>by rw [List.append_nil] at j2; omega) (by rw [List.append_nil]; exact h.c.lb) (by rw [List.append_nil]; exact h.c.qh) (fun x hx=>by cases hx)
 rw [List.append_nil,List.append_nil] at c'
 exact DnP.of c' h.b h.lb h.lv
theorem Ym:∀ (L:List Aa) (a:Int),Ep (C7 a L)=L
 | [],_=>rfl
 | x::L,a=>by
  show x::Ep (C7 (a + 1) L)=x::L
  rw [Ym L]
theorem Au5 (a b:List Dl):Ep (a++b)=Ep a++Ep b:=by simp [Ep]
theorem Ajy {d:Dk} (h:Ar d=true) (ops:List Dl) (m:Int):Cn d ops m=(ops.take m.toNat).foldl opS d:=by
 unfold Cn
 rw [h]
 rfl
theorem Brd (n8:8≤n) (n2:n≤200) {used loose:Int} (hv:Au (w,(n:Int),L,r,used,loose,st,())=true) (b:List Be):
  (∃ c:Int,c≠0∧Es (w,(n:Int),L,r,used,loose,st,()) b=Ada c)∨
  (A0 b=true∧(B7 st b).2=0∧D4 (B7 st b).1 w≤(hN n:Int) - 1∧((c7 (Bh b) L (r.2.2.1 + used) w).length:Int)≤(hN n:Int) - used∧
   Es (w,(n:Int),L,r,used,loose,st,()) b=(0,(w,(n:Int),L,r,used + ((c7 (Bh b) L (r.2.2.1 + used) w).length:Int),loose + ((c7 (Bh b) L (r.2.2.1 + used) w).length:Int),(B7 st b).1,()),C7 (Bn r.2.1 (n:Int) + used) (c7 (Bh b) L (r.2.2.1 + used) w),())):=by
 unfold Es
 rw [hv]
 simp only [Bool.not_true,cond_false]
 have eP:Gn (w,(n:Int),L,r,used,loose,st,()) b=c7 (Bh b) L (r.2.2.1 + used) w:=rfl
 rw [eP]
 cases hb:A0 b with
 | false=>exact .inl ⟨1,by decide,rfl⟩
 | true=>
  simp only [Bool.not_true,cond_false]
  cases ha:(B7 st b).2 != 0 with
  | true=>exact .inl ⟨2,by decide,by rfl⟩
  | false=>
   have ha':(B7 st b).2=0:=by simpa using ha
   simp only [cond_false]
   rw [Vs n8 n2]
   by_cases h1:D4 (B7 st b).1 w > (hN n:Int) - 1
   ·rw [Ag h1]; exact .inl ⟨3,by decide,rfl⟩
   ·rw [Bd h1]
    simp only [cond_false]
    by_cases h2:nI (c7 (Bh b) L (r.2.2.1 + used) w).length > (hN n:Int) - used
    ·rw [Ag h2]; exact .inl ⟨4,by decide,rfl⟩
    ·rw [Bd h2]
     have h2:¬ ((c7 (Bh b) L (r.2.2.1 + used) w).length:Int) > (hN n:Int) - used:=h2
     exact .inr ⟨trivial,ha',by omega,by omega,rfl⟩
end
section
variable {B:Nat} {w:Int} {n:Nat} {D D' W X:List Aa} {P ws:List Wr} {past past':List B5} {r r':Rt} {u0:Nat} {L:Int} {s0 st:B5} {E F:List Aa} {sto:E5}
theorem Lg.up {used loose:Int} (b:Bas B w n W past r') (n8:8≤n) (n2:n≤200) (hw:Bw w 1 8=true) (hs:Sec n D) (vd:Ar (D,P,())=true) (sok:Au (w,(n:Int),L,r,used,loose,st,())=true) (h:NoF w n D W→UpP B w n D P (w,(n:Int),L,r,used,loose,st,()) past W):
  Lg B w n (Ob w D P true (w,(n:Int),L,r,used,loose,st,()) past W):=by
 have hv:=A9m (past:=past) (W:=W) hw vd b.pl b.wk (Bpo n8 n2 hs.len sok) b.pv b.w64
 exact ⟨hv,fun hf=>.inr ⟨D,P,_,past,W,rfl,h (Bt3 hv hs.len hf)⟩⟩
theorem O5.same (h:O5 B w n D P sto past W r u0 L s0 E st) (hb:B + 1≤9000):Lg (B + 1) w n (Ob w D P true sto past W):=
 ⟨h.valid,fun _=>.inr ⟨D,P,sto,past,W,rfl,UpP.mono ⟨r,u0,L,s0,E,st,h⟩ (Nat.le_succ B) hb⟩⟩
theorem Lg.mono {W':Bg} (h:Lg B w n W') (hb:B + 1≤9000):Lg (B + 1) w n W':=⟨h.1,fun hf=>by
 rcases h.2 hf with ⟨D,past,W,e,q⟩ | ⟨D,P,sto,past,W,e,q⟩
 ·exact .inl ⟨D,past,W,e,q.mono (Nat.le_succ B) hb⟩
 ·exact .inr ⟨D,P,sto,past,W,e,q.mono (Nat.le_succ B) hb⟩⟩
theorem Bk0 (b:List Be) {w:Int} (hw:Bw w 1 8=true):(Ao (Bh b) w).length≤101:=by
 have h1:=Agv (Bh b) w
 rw [hw,cond_true] at h1
 have h3:=L5 b
 obtain ⟨w1,w2⟩:=Cv hw
 unfold Ge at h1
 rw [hw,cond_true] at h1
 have hc:w=1∨w=2∨w=3∨w=4∨w=5∨w=6∨w=7∨w=8:=by omega
 rcases hc with rfl | rfl | rfl | rfl | rfl | rfl | rfl | rfl<;>split at h1<;>omega
theorem Bx0 {b:List Be} {L f w:Int} (hw:Bw w 1 8=true) (hl:Bw L 1 60000=true) (h1:1≤f) (h2:f≤999999000):c7 (Bh b) L f w=qP L w f [Bh b]:=by
 have:=Bk0 b hw
 rw [Bne hw hl h1 (by omega)]
 show _=J6 L w f (Ao (Bh b) w)++[]
 rw [List.append_nil]
theorem O6 {α:Type} {l:List α} {m:Nat} (h:l.length≤m):l.take m=l:=List.take_of_length_le h
theorem Bk1 {x:B5} {past:List B5} {Q:B5→Prop} (h:∀ s∈past,Q s) (hx:Q x):∀ s∈past++[x],Q s:=fun s hs=>by
 rcases List.mem_append.1 hs with q | q
 ·exact h s q
 ·rw [List.mem_singleton.1 q]; exact hx
theorem O5.commit (h:O5 B w n D P sto past W r u0 L s0 E st) (hB:B + 1≤9000) (b:List Be) (cut:Int) (f:List Int):Lg (B + 1) w n (doS (Ob w D P true sto past W) (2,b,cut,f,())):=by
 obtain ⟨f1,f2,hl⟩:=h.h9
 have hbin:=h.bin
 have hq:=h.c.qh
 have hh:=Oq h.c.n8 h.c.n2
 have hsok:=h.sok
 have hs:=h.s
 subst hs
 have e0:doS (Ob w D P true (w,(n:Int),L,r,((u0 + (qP L w (r.2.2.1 + u0) E).length:Nat):Int),((qP L w (r.2.2.1 + u0) E).length:Int),st,()) past W) (2,b,cut,f,())=
   bif (Es (w,(n:Int),L,r,((u0 + (qP L w (r.2.2.1 + u0) E).length:Nat):Int),((qP L w (r.2.2.1 + u0) E).length:Int),st,()) b).1 != 0 then (Ob w D P true (w,(n:Int),L,r,((u0 + (qP L w (r.2.2.1 + u0) E).length:Nat):Int),((qP L w (r.2.2.1 + u0) E).length:Int),st,()) past W)
   else Ff (Ob w D P true (w,(n:Int),L,r,((u0 + (qP L w (r.2.2.1 + u0) E).length:Nat):Int),((qP L w (r.2.2.1 + u0) E).length:Int),st,()) past W) (2,b,cut,f,()) (Es (w,(n:Int),L,r,((u0 + (qP L w (r.2.2.1 + u0) E).length:Nat):Int),((qP L w (r.2.2.1 + u0) E).length:Int),st,()) b):=rfl
 rw [e0]
 rcases Brd h.c.n8 h.c.n2 hsok b with ⟨c,hc,e⟩ | ⟨hb,ha,hR,hk,e⟩
 ·rw [e]
  show Lg (B + 1) w n (bif c != 0 then _ else _)
  rw [bne_iff_ne.2 hc]
  exact h.same hB
 ·rw [e]
  have eb:Bn r.2.1 (n:Int) + ((u0 + (qP L w (r.2.2.1 + u0) E).length:Nat):Int)=((bN n r.2.1 + (u0 + (qP L w (r.2.2.1 + u0) E).length):Nat):Int):=by rw [A68 h.c.n8 h.c.n2 h.c.rok.2.1]; omega
  have epg:c7 (Bh b) L (r.2.2.1 + ((u0 + (qP L w (r.2.2.1 + u0) E).length:Nat):Int)) w=qP L w (r.2.2.1 + (u0:Int) + ((qP L w (r.2.2.1 + u0) E).length:Int)) [Bh b]:=by
   rw [Bx0 h.c.hw hl (by omega) (by omega)]
   congr 1
   omega
  rw [epg] at hk ⊢
  rw [eb]
  have eQ:qP L w (r.2.2.1 + u0) (E++[Bh b])=qP L w (r.2.2.1 + u0) E++qP L w (r.2.2.1 + (u0:Int) + ((qP L w (r.2.2.1 + u0) E).length:Int)) [Bh b]:=Bnk L w E [Bh b] _
  have ho:E8 (E++[Bh b]) s0=some (B7 st b).1:=by rw [Ajw,h.o]; exact Bnn hb ha
  generalize hpg:qP L w (r.2.2.1 + (u0:Int) + ((qP L w (r.2.2.1 + u0) E).length:Int)) [Bh b]=pg at *
  generalize hst':(B7 st b).1=st' at *
  have hv':Ak st'=true:=by rw [← hst']; exact Adn st b
  have hQ':(qP L w (r.2.2.1 + u0) (E++[Bh b])).length=(qP L w (r.2.2.1 + u0) E).length + pg.length:=by rw [eQ,Ef]
  have hpage:∀ x∈pg,∃ j,j < (qP L w (r.2.2.1 + u0) (E++[Bh b])).length∧x=(qP L w (r.2.2.1 + u0) (E++[Bh b])).getD j z0:=fun x hx=>by
   obtain ⟨i,i1,rfl⟩:=Axj hx
   refine ⟨(qP L w (r.2.2.1 + u0) E).length + i,by omega,?_⟩
   rw [eQ,List.getD_eq_getElem?_getD,List.getD_eq_getElem?_getD,List.getElem?_append_right (by omega)]
   congr 2
   omega
  have hread:∀ x∈pg,∀ p,Av x w=(p,true)→(p.1=1∨p.1=2)∧p.2.1=L∧∃ j,j < (qP L w (r.2.2.1 + u0) (E++[Bh b])).length∧p.2.2.1=r.2.2.1 + ((u0 + j:Nat):Int)∧x=(qP L w (r.2.2.1 + u0) (E++[Bh b])).getD j z0:=fun x hx p hp=>by
   obtain ⟨j,j1,rfl⟩:=hpage x hx
   obtain ⟨q,q1,q2,q3,q4⟩:=Axi h.c.hw hl (E++[Bh b]) (r.2.2.1 + u0) (by omega) (by omega) j j1
   rw [q1] at hp
   have:q=p:=congrArg Prod.fst hp
   subst this
   exact ⟨q2,q3,j,j1,by omega,rfl⟩
  have h64:∀ x∈pg,x.size=64:=fun x hx=>by
   obtain ⟨j,j1,rfl⟩:=hpage x hx
   obtain ⟨q,q1,_⟩:=Axi h.c.hw hl (E++[Bh b]) (r.2.2.1 + u0) (by omega) (by omega) j j1
   exact Zw q1
  have hlb:=h.lb
  have core:∀ (m:Nat) (D':List Aa),Sec n D'→NoF w n D' (W++pg.take m)→Aw (D',[],()) w=r→(∀ i,i < u0→D'.getD (bN n r.2.1 + i) z0=D.getD (bN n r.2.1 + i) z0)→Afs w n D' (W++pg.take m) (past++[st']) r u0 L s0 (E++[Bh b]):=fun m D' s1 nf rt hp=>
   h.c.next s1 nf rt hp (fun s hs=>List.mem_append_left _ hs) (Bk1 h.c.rm hR) (fun j j1 j2=>by
    rw [Ef,Et] at j2
    refine ⟨st',List.mem_append_right _ (List.mem_singleton.2 rfl),?_⟩
    rw [O6 (by rw [Ef,Et]; omega)]
    exact ho) (fun _=>hl) (by omega) (fun x hx p hp h4 hin=>by
    obtain ⟨q1,q2,j,j1,j2,j3⟩:=hread x (List.mem_of_mem_take hx) p hp
    exact ⟨fun _=>⟨j,j1,j2,j3⟩,fun hlt=>by omega⟩)
  have hkN:pg.length≤hN n + 1:=by omega
  have bas:∀ m:Nat,(W++pg.take m).length≤2000→(past++[st']).length≤200→Bas (B + 1) w n (W++pg.take m) (past++[st']) r:=fun m hw2 hp2=>
   h.b.more hB (by rw [List.length_take]; omega) hw2 (fun x hx=>h64 x (List.mem_of_mem_take hx)) (fun x hx p hp=>by
    obtain ⟨_,q,_⟩:=hread x (List.mem_of_mem_take hx) p hp
    omega) (Bk1 h.b.pv hv') ⟨by rw [Ef,Et]; omega,hp2⟩ (h.b.g.more fun x hx p hp=>by
    obtain ⟨q,_,_⟩:=hread x (List.mem_of_mem_take hx) p hp
    rcases q with q | q<;>omega) (by omega) (by omega)
  have lives:∀ m:Nat,Nq w (W++pg.take m) L:=fun m=>h.lv.app fun x hx p hp=>by
   obtain ⟨_,q,_⟩:=hread x (List.mem_of_mem_take hx) p hp
   omega
  have perf:∀ m:Int,Cn (D,P,()) (C7 ((bN n r.2.1 + (u0 + (qP L w (r.2.2.1 + u0) E).length):Nat):Int) pg) m=(D,P++Tm ((bN n r.2.1 + (u0 + (qP L w (r.2.2.1 + u0) E).length):Nat):Int) (pg.take m.toNat),()):=fun m=>by
   rw [Ajy h.vd,Ajx,Aah _ _ _ _ (fun x hx=>h64 x (List.mem_of_mem_take hx)) (by omega) (by rw [h.c.len,List.length_take]; omega) (by rw [h.plen,List.length_take]; omega)]
  have wrt:∀ m:Int,Ep ((C7 ((bN n r.2.1 + (u0 + (qP L w (r.2.2.1 + u0) E).length):Nat):Int) pg).take m.toNat)=pg.take m.toNat:=fun m=>by rw [Ajx,Ym]
  have pend:∀ m:Nat,∀ v∈P++Tm ((bN n r.2.1 + (u0 + (qP L w (r.2.2.1 + u0) E).length):Nat):Int) (pg.take m),((bN n r.2.1 + u0:Nat):Int)≤v.1∧v.1 < ((bN n r.2.1 + hN n:Nat):Int)∧v.2.1.size=64:=fun m v hv=>by
   rcases List.mem_append.1 hv with q | q
   ·exact h.pos v q
   ·have g:=Ag6 q
    have key:∀ (L:List Aa) (a:Int),(∀ x∈L,x.size=64)→∀ v∈Tm a L,v.2.1.size=64:=by
     intro L
     induction L with
     | nil=>intro a _ v hv; cases hv
     | cons x L ih=>
      intro a hx v hv
      rcases List.mem_cons.1 hv with rfl | hv
      ·exact hx x List.mem_cons_self
      ·exact ih (a + 1) (fun y hy=>hx y (List.mem_cons_of_mem _ hy)) v hv
    have hm:(pg.take m).length≤pg.length:=by rw [List.length_take]; omega
    exact ⟨by omega,by omega,key _ _ (fun x hx=>h64 x (List.mem_of_mem_take hx)) v q⟩
  have vd:∀ m:Nat,Ar (D,P++Tm ((bN n r.2.1 + (u0 + (qP L w (r.2.2.1 + u0) E).length):Nat):Int) (pg.take m),())=true:=fun m=>y8 h.c.n8 h.c.n2 h.c.sec (by rw [Ef,h.plen,Ag5,List.length_take]; omega) fun v hv=>by
   obtain ⟨p1,p2,p3⟩:=pend m v hv
   exact ⟨by omega,by omega,p3⟩
  show Lg (B + 1) w n (Ff _ _ _)
  unfold Ff
  cases hfull:Tt (Ob w D P true (w,(n:Int),L,r,((u0 + (qP L w (r.2.2.1 + u0) E).length:Nat):Int),((qP L w (r.2.2.1 + u0) E).length:Int),st,()) past W) (2,b,cut,f,()) (0,(w,(n:Int),L,r,((u0 + (qP L w (r.2.2.1 + u0) E).length:Nat):Int) + (pg.length:Int),((qP L w (r.2.2.1 + u0) E).length:Int) + (pg.length:Int),st',()),C7 ((bN n r.2.1 + (u0 + (qP L w (r.2.2.1 + u0) E).length):Nat):Int) pg,()) with
  | true=>exact h.same hB
  | false=>
   unfold Tt K9 Gp at hfull
   simp only [Bool.or_eq_false_iff,decide_eq_false_iff_not] at hfull
   obtain ⟨g1,g2⟩:=hfull
   rw [wrt] at g1
   have g1:¬ (W++pg.take (y7 (2,b,cut,f,()) (0,(w,(n:Int),L,r,((u0 + (qP L w (r.2.2.1 + u0) E).length:Nat):Int) + (pg.length:Int),((qP L w (r.2.2.1 + u0) E).length:Int) + (pg.length:Int),st',()),C7 ((bN n r.2.1 + (u0 + (qP L w (r.2.2.1 + u0) E).length):Nat):Int) pg,())).toNat).length > 2000:=g1
   have g2:¬ (past++[st']).length > 200:=g2
   unfold K9 Gp
   rw [wrt]
   unfold y7 at g1 ⊢
   cases hcut:d5 (2,b,cut,f,()) (0,(w,(n:Int),L,r,((u0 + (qP L w (r.2.2.1 + u0) E).length:Nat):Int) + (pg.length:Int),((qP L w (r.2.2.1 + u0) E).length:Int) + (pg.length:Int),st',()),C7 ((bN n r.2.1 + (u0 + (qP L w (r.2.2.1 + u0) E).length):Nat):Int) pg,()) with
   | true=>
    rw [hcut] at g1
    simp only [cond_true,cond_false] at g1 ⊢
    rw [perf,S0 (vd _)]
    have k:=Aa2 (w:=w) (r:=r) h.c.n8 h.c.n2 h.c.hw h.c.sec h.c.root (vd cut.toNat) f fun v hv=>by have:=pend _ v hv; omega
    refine Lg.dn (bas cut.toNat (by omega) (by omega)) h.c.n8 h.c.n2 h.c.hw k.1 fun nf=>?_
    exact DnP.of (core _ _ k.1 nf k.2 fun i hi=>Wd (fun v hv=>by have:=pend _ v hv; omega) D) (bas cut.toNat (by omega) (by omega)) (by omega) (lives _)
   | false=>
    rw [hcut] at g1
    have elen:(C7 ((bN n r.2.1 + (u0 + (qP L w (r.2.2.1 + u0) E).length):Nat):Int) pg).length=pg.length:=Sy _ _
    simp only [cond_false,elen,En,O6 (Nat.le_refl pg.length)] at g1 ⊢
    rw [perf,En]
    have hbas:=bas pg.length (by rw [O6 (Nat.le_refl _)]; omega) (by omega)
    have hcore:=core pg.length
    have hlives:=lives pg.length
    have hvd:=vd pg.length
    rw [O6 (Nat.le_refl _)] at hbas hcore hlives hvd ⊢
    have es:((w,(n:Int),L,r,((u0 + (qP L w (r.2.2.1 + u0) E).length:Nat):Int) + (pg.length:Int),((qP L w (r.2.2.1 + u0) E).length:Int) + (pg.length:Int),st',()):E5)=(w,(n:Int),L,r,((u0 + (qP L w (r.2.2.1 + u0) (E++[Bh b])).length:Nat):Int),((qP L w (r.2.2.1 + u0) (E++[Bh b])).length:Int),st',()):=by
     rw [hQ',show ((u0 + (qP L w (r.2.2.1 + u0) E).length:Nat):Int) + (pg.length:Int)=((u0 + ((qP L w (r.2.2.1 + u0) E).length + pg.length):Nat):Int) by omega,show ((qP L w (r.2.2.1 + u0) E).length:Int) + (pg.length:Int)=(((qP L w (r.2.2.1 + u0) E).length + pg.length:Nat):Int) by omega]
    show Lg (B + 1) w n (Ob w D (P++Tm _ pg) true (w,(n:Int),L,r,((u0 + (qP L w (r.2.2.1 + u0) E).length:Nat):Int) + (pg.length:Int),((qP L w (r.2.2.1 + u0) E).length:Int) + (pg.length:Int),st',()) (past++[st']) (W++pg))
    rw [es]
    refine Lg.up hbas h.c.n8 h.c.n2 h.c.hw h.c.sec hvd (Anq h.c.n8 h.c.n2 h.c.hw (Cv hl) h.c.rok ⟨by omega,by omega⟩ ⟨by omega,by omega⟩ hv' hR) fun nf=>?_
    refine ⟨r,u0,L,s0,E++[Bh b],st',hcore D h.c.sec nf h.c.root (fun _ _=>rfl),hbas,h.l1,by omega,?_,rfl,ho,⟨past,rfl⟩,hlives,fun x hx p hp h4 hL=>?_⟩
    ·rw [eQ,h.p,Bkt]
     congr 2
     omega
    ·rcases List.mem_append.1 hx with q | q
     ·exact h.ea x q p hp h4 hL
     ·obtain ⟨_,_,j,j1,j2,_⟩:=hread x q p hp
      omega
end
section
variable {B:Nat} {w:Int} {n:Nat} {D D' W X:List Aa} {P ws:List Wr} {past past':List B5} {r r':Rt} {u0:Nat} {L:Int} {s0 st s:B5} {E F:List Aa} {sto:E5}
theorem Bv4 {v:Wr}:∀ {L:List Aa} {a:Int},(∀ x∈L,x.size=64)→v∈Tm a L→v.2.1.size=64
 | [],_,_,h=>by cases h
 | x::L,a,hx,h=>by
  rcases List.mem_cons.1 h with rfl | h
  ·exact hx x List.mem_cons_self
  ·exact Bv4 (fun y hy=>hx y (List.mem_cons_of_mem _ hy)) h
theorem Bpp (hs:Sec n D) {a:Nat} {L:List Aa} (h:∀ x∈L,x.size=64):Sec n (Axh D a L):=by
 refine ⟨by rw [Bku]; exact hs.len,fun i hi=>?_⟩
 by_cases q:i < a∨a + L.length≤i
 ·rw [Wc _ _ _ _ q]; exact hs.sz i hi
 ·have key:∀ (L D:List Aa) (a:Nat),(∀ x∈L,x.size=64)→(∀ i,i < D.length→(D.getD i z0).size=64)→∀ i,i < D.length→((Axh D a L).getD i z0).size=64:=by
   intro L
   induction L with
   | nil=>intro D a _ hD i hi; exact hD i hi
   | cons x L ih=>
    intro D a hx hD i hi
    refine ih (D.set a x) (a + 1) (fun y hy=>hx y (List.mem_cons_of_mem _ hy)) (fun j hj=>?_) i (by rw [List.length_set]; exact hi)
    rw [List.length_set] at hj
    by_cases z:a=j
    ·subst z; rw [Ku hj]; exact hx x List.mem_cons_self
    ·rw [getD_set_ne z]; exact hD j hj
  exact key L D a h (fun i hi=>hs.sz i (by rw [← hs.len]; exact hi)) i (by rw [hs.len]; exact hi)
structure Bno (w:Int) (n:Nat) (D D1:List Aa) (r:Rt) (u0:Nat) (Q:List Aa):Prop where
 s:Sec n D1
 rt:Aw (D1,[],()) w=r
 p:∀ i,i < u0→D1.getD (bN n r.2.1 + i) z0=D.getD (bN n r.2.1 + i) z0
 q:∀ i,i < Q.length→D1.getD (bN n r.2.1 + (u0 + i)) z0=Q.getD i z0
theorem O5.sync (h:O5 B w n D P sto past W r u0 L s0 E st):Bno w n D (Hq D P) r u0 (qP L w (r.2.2.1 + u0) E):=by
 have hb:=h.bin
 have hq:=h.c.qh
 have hh:=Oq h.c.n8 h.c.n2
 have e:Hq D P=Axh D (bN n r.2.1 + u0) (qP L w (r.2.2.1 + u0) E):=by rw [h.p,A9k]
 have s1:Sec n (Hq D P):=by rw [e]; exact Bpp h.c.sec h.q64
 refine ⟨s1,?_,fun i hi=>?_,fun i hi=>?_⟩
 ·rw [Arn (h.c.sec.ok h.c.n8 h.c.n2) (s1.ok h.c.n8 h.c.n2) h.c.hw (by rw [e]; exact Wc _ _ _ _ (by omega)) (by rw [e]; exact Wc _ _ _ _ (by omega))]
  exact h.c.root
 ·rw [e]; exact Wc _ _ _ _ (by omega)
 ·rw [e,← Nat.add_assoc]
  exact Bhj (qP L w (r.2.2.1 + u0) E) D (bN n r.2.1 + u0) i hi (by rw [h.c.len]; omega)
theorem A69 (D:List Aa) (P:List Wr):opS (D,P,()) Eo=(Hq D P,[],()):=rfl
theorem Bt4 {used loose:Int} (hv:Au (w,(n:Int),L,r,used,loose,st,())=true):O4 (w,(n:Int),L,r,used,loose,st,())=(0,(w,(n:Int),L,r,used,0,st,()),[Eo],()):=by
 unfold O4
 rw [hv]
 rfl
theorem O5.flushed (h:O5 B w n D P sto past W r u0 L s0 E st) {D1:List Aa} (y:Bno w n D D1 r u0 (qP L w (r.2.2.1 + u0) E)) (nf:NoF w n D1 (W++X)) (hp:st∈past') (rm:∀ s∈past',D4 s w≤(hN n:Int) - 1)
  (hX:∀ x∈X,∀ p,Av x w=(p,true)→p.1≠4→¬ InR w n r u0 p):Afs w n D1 (W++X) past' r (u0 + (qP L w (r.2.2.1 + u0) E).length) L st []:=
 h.c.synced h.o y.s nf y.rt y.p y.q hp rm hX
theorem Adt {Q:B5→Prop} {x:B5} (h:Q x):∀ s∈[x],Q s:=fun s hs=>by rw [List.mem_singleton.1 hs]; exact h
theorem O5.flush (h:O5 B w n D P sto past W r u0 L s0 E st) (hB:B + 1≤9000) (b:List Be) (cut:Int) (f:List Int):Lg (B + 1) w n (doS (Ob w D P true sto past W) (3,b,cut,f,())):=by
 have hsok:=h.sok
 have hs:=h.s
 have hvd:=h.vd
 have hq:=h.c.qh
 have hlb:=h.lb
 have y:=h.sync
 obtain ⟨f1,f2,hl⟩:=h.h9
 subst hs
 have e0:doS (Ob w D P true (w,(n:Int),L,r,((u0 + (qP L w (r.2.2.1 + u0) E).length:Nat):Int),((qP L w (r.2.2.1 + u0) E).length:Int),st,()) past W) (3,b,cut,f,())=
   bif (O4 (w,(n:Int),L,r,((u0 + (qP L w (r.2.2.1 + u0) E).length:Nat):Int),((qP L w (r.2.2.1 + u0) E).length:Int),st,())).1 != 0 then (Ob w D P true (w,(n:Int),L,r,((u0 + (qP L w (r.2.2.1 + u0) E).length:Nat):Int),((qP L w (r.2.2.1 + u0) E).length:Int),st,()) past W)
   else Ff (Ob w D P true (w,(n:Int),L,r,((u0 + (qP L w (r.2.2.1 + u0) E).length:Nat):Int),((qP L w (r.2.2.1 + u0) E).length:Int),st,()) past W) (3,b,cut,f,()) (O4 (w,(n:Int),L,r,((u0 + (qP L w (r.2.2.1 + u0) E).length:Nat):Int),((qP L w (r.2.2.1 + u0) E).length:Int),st,())):=rfl
 rw [e0,Bt4 hsok]
 have nil:∀ x∈([]:List Aa),∀ p,Av x w=(p,true)→p.1≠4→¬ InR w n r u0 p:=fun x hx=>by cases hx
 have W0:∀ {D1:List Aa},NoF w n D1 W→NoF w n D1 (W++[]):=fun h=>by rw [List.append_nil]; exact h
 have perf:∀ m:Int,Cn (D,P,()) [Eo] m=(D,P,())∧m≤0∨Cn (D,P,()) [Eo] m=(Hq D P,[],())∧1≤m:=fun m=>by
  rw [Ajy hvd]
  by_cases q:m≤0
  ·refine .inl ⟨?_,q⟩
   rw [show m.toNat=0 by omega]
   rfl
  ·refine .inr ⟨?_,by omega⟩
   rw [show m.toNat=m.toNat - 1 + 1 by omega]
   simp only [List.take_succ_cons,List.take_nil,List.foldl]
   exact A69 D P
 have wrt:∀ m:Nat,Ep ([Eo].take m)=[]:=fun m=>by cases m<;>simp [Ep,Eo]
 show Lg (B + 1) w n (Ff _ _ _)
 unfold Ff
 cases hfull:Tt (Ob w D P true (w,(n:Int),L,r,((u0 + (qP L w (r.2.2.1 + u0) E).length:Nat):Int),((qP L w (r.2.2.1 + u0) E).length:Int),st,()) past W) (3,b,cut,f,()) (0,(w,(n:Int),L,r,((u0 + (qP L w (r.2.2.1 + u0) E).length:Nat):Int),0,st,()),[Eo],()) with
 | true=>exact h.same hB
 | false=>
  unfold K9 Gp
  rw [wrt]
  unfold y7
  cases hcut:d5 (3,b,cut,f,()) (0,(w,(n:Int),L,r,((u0 + (qP L w (r.2.2.1 + u0) E).length:Nat):Int),0,st,()),[Eo],()) with
  | true=>
   simp only [cond_true,cond_false]
   rw [List.append_nil]
   rcases perf cut with ⟨e,_⟩ | ⟨e,_⟩
   ·rw [e,S0 hvd]
    have k:=h.power f
    have ek:Ag2 (Ob w D P true (w,(n:Int),L,r,((u0 + (qP L w (r.2.2.1 + u0) E).length:Nat):Int),((qP L w (r.2.2.1 + u0) E).length:Int),st,()) past W) f=Ob w (Tr f D P) [] false b8 past W:=by
     unfold Ag2
     show (w,E9 (D,P,()) f,_)=_
     rw [S0 hvd]
    rw [ek] at k
    exact k.mono hB
   ·rw [e,S0 (y.s.ok h.c.n8 h.c.n2)]
    refine Lg.mono (Lg.dn (past:=past) (D:=Hq D P) h.b h.c.n8 h.c.n2 h.c.hw y.s fun nf=>?_) hB
    have c':=h.flushed (X:=[]) y (W0 nf) h.mem h.c.rm nil
    rw [List.append_nil] at c'
    exact DnP.of c' h.b hlb h.lv
  | false=>
   simp only [cond_false]
   rcases perf (1:Int) with ⟨_,e⟩ | ⟨e,_⟩
   ·omega
   ·have e1:(([Eo]:List Dl).length:Int)=1:=rfl
    have hb':Bas B w n W [st] r:={ h.b with pv:=Adt h.sv,pl:=⟨Nat.le_refl 1,by show 1≤200; omega⟩ }
    show Lg (B + 1) w n (w,Cn (D,P,()) [Eo] (([Eo]:List Dl).length:Int),true,(w,(n:Int),L,r,((u0 + (qP L w (r.2.2.1 + u0) E).length:Nat):Int),0,st,()),[st],W++[],())
    rw [e1,e,List.append_nil]
    refine Lg.mono (Lg.up (D:=Hq D P) (P:=[]) hb' h.c.n8 h.c.n2 h.c.hw y.s (y.s.ok h.c.n8 h.c.n2) (Anq h.c.n8 h.c.n2 h.c.hw (Cv hl) h.c.rok ⟨by omega,by omega⟩ ⟨Int.le_refl 0,by omega⟩ h.sv (h.c.rm st h.mem)) fun nf=>?_) hB
    have c':=h.flushed (X:=[]) (past':=[st]) y (W0 nf) (List.mem_singleton.2 rfl) (Adt (h.c.rm st h.mem)) nil
    rw [List.append_nil] at c'
    exact ⟨r,_,L,st,[],st,c',hb',h.l1,hlb,rfl,rfl,rfl,⟨[],rfl⟩,h.lv,h.ea⟩
end
end Go.Proofs.YtfkefgbihlfjmaaGreat.V
namespace Go.Proofs.YtfkefgbihlfjmaaGreat.V
open Go Go.Proofs.YtfkefgbihlfjmaaGreat.R
variable {B:Nat} {w:Int} {n:Nat} {D D' W X:List Aa} {P ws:List Wr} {past past':List B5} {r r':Rt} {u0:Nat} {L l:Int} {s0 st s:B5} {E F:List Aa} {sto:E5}
def L2 (n:Nat) (r:Rt) (l:Int):Rt:=(r.1 + 1,1 - r.2.1,r.2.2.1 + (hN n:Int),l,())
def j9 (r:Rt):Nat:=((r.1 + 1) % 2).toNat
def Iy (w:Int) (n:Nat) (r:Rt) (l:Int) (s:B5):List Aa:=mvP w l (r.2.2.1 + (hN n:Int)) s
def S1 (w:Int) (n:Nat) (r:Rt) (l:Int) (s:B5):List Dl:=C7 ((bN n (1 - r.2.1):Nat):Int) (Iy w n r l s)++[Eo,L6 ((j9 r:Nat):Int) (Cb (L2 n r l) w),Eo]
structure J4 (w:Int) (n:Nat) (D:List Aa) (P:List Wr) (W:List Aa) (r:Rt) (l:Int) (s:B5):Prop where
 n8:8≤n
 n2:n≤200
 hw:Bw w 1 8=true
 sec:Sec n D
 vd:Ar (D,P,())=true
 pl:P.length≤99
 pp:∀ v∈P,2≤v.1.toNat∧v.1.toNat < n
 root:Aw (D,[],()) w=r
 sync:Sec n (Hq D P)
 sroot:Aw (Hq D P,[],()) w=r
 tb:r.1≤9000
 fb:r.2.2.1≤900001
 hl:Bw l 1 60000=true
 sv:Ak s=true
 rm:D4 s w≤(hN n:Int) - 1
 rl:r.2.2.2.1≤l
namespace J4
theorem rok (h:J4 w n D P W r l s):Bhc r:=by rw [← h.root]; exact Vr (h.sec.ok h.n8 h.n2) h.hw
theorem f1 (h:J4 w n D P W r l s):1≤r.2.2.1 + (hN n:Int)∧r.2.2.1 + (hN n:Int)≤999999000:=by
 have:=h.rok.2.2.1.1
 have:=Oq h.n8 h.n2
 have:=h.fb
 omega
theorem nok (h:J4 w n D P W r l s) {l':Int} (h0:0≤l') (h1:l'≤60000):Bhc (L2 n r l'):=by
 obtain ⟨⟨t1,t2⟩,⟨H1,H2⟩,⟨f1,f2⟩,l1,l2⟩:=h.rok
 have:=h.tb
 have:=h.fb
 have:=Oq h.n8 h.n2
 refine ⟨⟨?_,?_⟩,⟨?_,?_⟩,⟨?_,?_⟩,?_,?_⟩
 ·show 0≤r.1 + 1; omega
 ·show r.1 + 1≤1000000000; omega
 ·show 0≤1 - r.2.1; omega
 ·show 1 - r.2.1≤1; omega
 ·show 1≤r.2.2.1 + (hN n:Int); omega
 ·show r.2.2.1 + (hN n:Int)≤999999000; omega
 ·exact h0
 ·exact h1
theorem ml (h:J4 w n D P W r l s):1≤(Iy w n r l s).length∧(Iy w n r l s).length≤hN n:=by
 have h1:=Bv2 (life:=l) (f:=r.2.2.1 + (hN n:Int)) (s:=s) h.hw
 have h2:=h.rm
 have h3:=(Bvo s w).1
 unfold Iy
 omega
theorem m64 (h:J4 w n D P W r l s):∀ x∈Iy w n r l s,x.size=64:=by
 have:=h.f1
 have:=h.rm
 have:=Oq h.n8 h.n2
 exact Bxy h.hw h.hl (by omega) (by omega) (by omega)
theorem mpage (h:J4 w n D P W r l s):∀ x∈Iy w n r l s,∀ p,Av x w=(p,true)→p.1≠4∧p.2.1=l∧r.2.2.1 + (hN n:Int)≤p.2.2.1∧p.2.2.1 < r.2.2.1 + (hN n:Int) + ((Iy w n r l s).length:Int):=fun x hx p hp=>by
 have:=h.f1
 have:=h.rm
 have:=Oq h.n8 h.n2
 obtain ⟨j,j1,rfl⟩:=Axj hx
 obtain ⟨q,q1,q2,q3,q4⟩:=Bky (s:=s) h.hw h.hl (show 1≤r.2.2.1 + (hN n:Int) by omega) (by omega) (by omega) j j1
 have hp:Av ((mvP w l (r.2.2.1 + (hN n:Int)) s).getD j z0) w=(p,true):=hp
 rw [q1] at hp
 have:q=p:=congrArg Prod.fst hp
 subst this
 exact ⟨q2,q3,by omega,by omega⟩
theorem rpage (h:J4 w n D P W r l s):∃ p,Av (Cb (L2 n r l) w) w=(p,true)∧p.1=4∧F2 p=L2 n r l∧p.2.1=l∧Qz (Cb (L2 n r l) w) w ((j9 r:Nat):Int)=some (L2 n r l):=by
 have:=h.rok.1.1
 obtain ⟨l1,l2⟩:=Cv h.hl
 have e:((j9 r:Nat):Int)=(L2 n r l).1 % 2:=by
  unfold j9
  show (((r.1 + 1) % 2).toNat:Int)=(r.1 + 1) % 2
  omega
 rw [e]
 exact Bq9 (h.nok (by omega) l2) (by show 1≤r.1 + 1; omega) l1 h.hw
theorem r64 (h:J4 w n D P W r l s):(Cb (L2 n r l) w).size=64:=by
 obtain ⟨p,hp,_⟩:=h.rpage
 exact Zw hp
theorem rk (h:J4 w n D P W r l s):((j9 r:Nat):Int)=(r.1 + 1) % 2∧j9 r < 2:=by
 unfold j9
 omega
def lay (D:List Aa) (P:List Wr) (w:Int) (n:Nat) (r:Rt) (l:Int) (s:B5):List Aa:=Axh (Hq D P) (bN n (1 - r.2.1)) (Iy w n r l s)
theorem bb (h:J4 w n D P W r l s):2≤bN n (1 - r.2.1)∧bN n (1 - r.2.1) + hN n≤n:=by
 have:=h.rok.2.1
 exact Bfv h.n8 h.n2 ⟨by omega,by omega⟩
theorem lsec (h:J4 w n D P W r l s):Sec n (lay D P w n r l s):=Bpp h.sync h.m64
theorem lroot (h:J4 w n D P W r l s):Aw (lay D P w n r l s,[],()) w=r:=by
 have:=h.bb
 rw [Arn (h.sync.ok h.n8 h.n2) (h.lsec.ok h.n8 h.n2) h.hw (Wc _ _ _ _ (by omega)) (Wc _ _ _ _ (by omega))]
 exact h.sroot
theorem lin (h:J4 w n D P W r l s):∀ i,i < (Iy w n r l s).length→(lay D P w n r l s).getD (bN n (1 - r.2.1) + i) z0=(Iy w n r l s).getD i z0:=fun i hi=>
 Bhj (Iy w n r l s) (Hq D P) (bN n (1 - r.2.1)) i hi (by
  have:=h.bb
  have:=h.ml
  rw [h.sync.len]
  omega)
theorem lout (h:J4 w n D P W r l s):∀ i,i < hN n→(lay D P w n r l s).getD (bN n r.2.1 + i) z0=(Hq D P).getD (bN n r.2.1 + i) z0:=fun i hi=>by
 have:=A9j h.n8 h.n2 h.rok.2.1
 have:=h.ml
 exact Wc _ _ _ _ (by omega)
theorem perf (h:J4 w n D P W r l s) (m:Nat):
  (m≤(Iy w n r l s).length∧Cn (D,P,()) (S1 w n r l s) m=(D,P++Tm ((bN n (1 - r.2.1):Nat):Int) ((Iy w n r l s).take m),())∧Ep ((S1 w n r l s).take m)=(Iy w n r l s).take m)∨
  (m=(Iy w n r l s).length + 1∧Cn (D,P,()) (S1 w n r l s) m=(lay D P w n r l s,[],())∧Ep ((S1 w n r l s).take m)=Iy w n r l s)∨
  (m=(Iy w n r l s).length + 2∧Cn (D,P,()) (S1 w n r l s) m=(lay D P w n r l s,[(((j9 r:Nat):Int),Cb (L2 n r l) w,())],())∧Ep ((S1 w n r l s).take m)=Iy w n r l s++[Cb (L2 n r l) w])∨
  (m≥(Iy w n r l s).length + 3∧Cn (D,P,()) (S1 w n r l s) m=((lay D P w n r l s).set (j9 r) (Cb (L2 n r l) w),[],())∧Ep ((S1 w n r l s).take m)=Iy w n r l s++[Cb (L2 n r l) w]):=by
 have hb:=h.bb
 have hm:=h.ml
 have hh:=Oq h.n8 h.n2
 have hk:=h.rk
 have hlen:(C7 ((bN n (1 - r.2.1):Nat):Int) (Iy w n r l s)).length=(Iy w n r l s).length:=Sy _ _
 have hall:(C7 ((bN n (1 - r.2.1):Nat):Int) (Iy w n r l s)).foldl opS (D,P,())=(D,P++Tm ((bN n (1 - r.2.1):Nat):Int) (Iy w n r l s),()):=
  Aah _ _ _ _ h.m64 (by omega) (by rw [h.sec.len]; omega) (by have:=h.pl; omega)
 have hsync:opS (D,P++Tm ((bN n (1 - r.2.1):Nat):Int) (Iy w n r l s),()) Eo=(lay D P w n r l s,[],()):=by
  rw [A69,Bt1,A9k]
  rfl
 have hput:opS (lay D P w n r l s,[],()) (L6 ((j9 r:Nat):Int) (Cb (L2 n r l) w))=(lay D P w n r l s,[(((j9 r:Nat):Int),Cb (L2 n r l) w,())],()):=by
  have:=Aah [Cb (L2 n r l) w] ((j9 r:Nat):Int) (lay D P w n r l s) [] (fun x hx=>by rw [List.mem_singleton.1 hx]; exact h.r64) (by omega) (by rw [h.lsec.len]; show ((j9 r:Nat):Int) + 1≤(n:Int); omega) (by show 0 + 1≤300; omega)
  exact this
 have hsync2:opS (lay D P w n r l s,[(((j9 r:Nat):Int),Cb (L2 n r l) w,())],()) Eo=((lay D P w n r l s).set (j9 r) (Cb (L2 n r l) w),[],()):=by
  rw [A69]
  rfl
 rw [Ajy h.vd,En]
 unfold S1
 have e1:∀ t:Nat,(C7 ((bN n (1 - r.2.1):Nat):Int) (Iy w n r l s)++[Eo,L6 ((j9 r:Nat):Int) (Cb (L2 n r l) w),Eo]).take ((Iy w n r l s).length + t)=C7 ((bN n (1 - r.2.1):Nat):Int) (Iy w n r l s)++[Eo,L6 ((j9 r:Nat):Int) (Cb (L2 n r l) w),Eo].take t:=fun t=>by
  rw [← hlen,List.take_length_add_append]
 by_cases c0:m≤(Iy w n r l s).length
 ·refine .inl ⟨c0,?_⟩
  rw [List.take_append_of_le_length (by rw [hlen]; exact c0),Ajx]
  refine ⟨Aah _ _ _ _ (fun x hx=>h.m64 x (List.mem_of_mem_take hx)) (by omega) (by rw [h.sec.len,List.length_take]; omega) (by have:=h.pl; rw [List.length_take]; omega),Ym _ _⟩
 ·by_cases c1:m=(Iy w n r l s).length + 1
  ·refine .inr (.inl ⟨c1,?_⟩)
   rw [c1,e1,List.foldl_append,hall,Au5,Ym]
   refine ⟨?_,?_⟩
   ·show opS _ Eo=_
    exact hsync
   ·show Iy w n r l s++[]=_
    rw [List.append_nil]
  ·by_cases c2:m=(Iy w n r l s).length + 2
   ·refine .inr (.inr (.inl ⟨c2,?_⟩))
    rw [c2,e1,List.foldl_append,hall,Au5,Ym]
    refine ⟨?_,rfl⟩
    show opS (opS _ Eo) (L6 _ _)=_
    rw [hsync,hput]
   ·refine .inr (.inr (.inr ⟨by omega,?_⟩))
    rw [show m=(Iy w n r l s).length + (m - (Iy w n r l s).length) by omega,e1,List.foldl_append,hall,Au5,Ym,O6 (show ([Eo,L6 ((j9 r:Nat):Int) (Cb (L2 n r l) w),Eo]:List Dl).length≤m - (Iy w n r l s).length by show 3≤_; omega)]
    refine ⟨?_,rfl⟩
    show opS (opS (opS _ Eo) (L6 _ _)) Eo=_
    rw [hsync,hput,hsync2]
end J4
theorem A9o (h:J4 w n D P W r l s) {D' W':List Aa} (hs:Sec n D') (nf:NoF w n D' W') (g:Ads w n W' r) (lv:Nq w W' l) (hD:∀ i,i≠j9 r→D'.getD i z0=(J4.lay D P w n r l s).getD i z0):
  Aw (D',[],()) w=r∨∃ l',0≤l'∧l'≤l∧Aw (D',[],()) w=L2 n r l':=by
 obtain ⟨k1,k2⟩:=h.rk
 have e:=Bkv (h.lsec.ok h.n8 h.n2) (hs.ok h.n8 h.n2) h.hw h.lroot k1 hD
 rw [e]
 have hh:=Oq h.n8 h.n2
 cases hc:Qz (D'.getD (j9 r) z0) w ((j9 r:Nat):Int) with
 | none=>exact .inl rfl
 | some q=>
  rw [R5]
  by_cases hq:q.1 > r.1
  ·rw [Ag hq]
   obtain ⟨p,p1,p2,p3,p4,p5⟩:=Arm hc
   have hW:=nf (j9 r) (by omega) (by rw [p1])
   have hl:=lv _ hW p p1
   have hl0:=(A0y p1).1
   rcases g _ hW p p1 p2 with z | ⟨z1,z2,z3⟩
   ·rw [← p3] at z; omega
   ·rw [← p3] at z1 z2 z3
    refine .inr ⟨p.2.1,by omega,hl,?_⟩
    have z4:q.2.2.2.1=p.2.1:=by rw [p3]; rfl
    obtain ⟨a,b,c,d,⟨⟩⟩:=q
    dsimp only at z1 z2 z3 z4
    show (a,b,c,d,())=L2 n r p.2.1
    unfold L2
    rw [z1,z2,z3,z4]
  ·rw [Bd hq]
   exact .inl rfl
theorem Arp (h:J4 w n D P W r l s):Sec n ((J4.lay D P w n r l s).set (j9 r) (Cb (L2 n r l) w))∧Aw ((J4.lay D P w n r l s).set (j9 r) (Cb (L2 n r l) w),[],()) w=L2 n r l:=by
 obtain ⟨k1,k2⟩:=h.rk
 have hh:=Oq h.n8 h.n2
 have hlen:=h.lsec.len
 have hs:Sec n ((J4.lay D P w n r l s).set (j9 r) (Cb (L2 n r l) w)):=by
  refine ⟨by rw [List.length_set]; exact hlen,fun i hi=>?_⟩
  by_cases q:j9 r=i
  ·subst q; rw [Ku (by omega)]; exact h.r64
  ·rw [getD_set_ne q]; exact h.lsec.sz i hi
 refine ⟨hs,?_⟩
 obtain ⟨p,p1,p2,p3,p4,p5⟩:=h.rpage
 rw [Bkv (h.lsec.ok h.n8 h.n2) (hs.ok h.n8 h.n2) h.hw h.lroot k1 (fun i hi=>getD_set_ne (fun q=>hi q.symm)),Ku (by omega),p5,R5,Ag (show (L2 n r l).1 > r.1 by show r.1 + 1 > r.1; omega)]
 rfl
theorem A9p (h:J4 w n D P W r l s) {D' W':List Aa} {l':Int} (hl':l'≤l) (hs:Sec n D') (nf:NoF w n D' W') (rt:Aw (D',[],()) w=L2 n r l') (hD:∀ i,i≠j9 r→D'.getD i z0=(J4.lay D P w n r l s).getD i z0)
  (hp:s∈past') (rm:∀ x∈past',D4 x w≤(hN n:Int) - 1)
  (hW:∀ x∈W',∀ p,Av x w=(p,true)→p.1≠4→p.2.1≤l∧(p.2.1=l→p.2.2.1 < r.2.2.1 + (hN n:Int) + ((Iy w n r l s).length:Int))):
  Afs w n D' W' past' (L2 n r l') (Iy w n r l s).length l s []:=by
 have hb:=h.bb
 have hm:=h.ml
 have hf:=h.f1
 have hfb:=h.fb
 have hk:=h.rk.2
 have hh:=Oq h.n8 h.n2
 have pre:Pre w n D' (L2 n r l') (Iy w n r l s).length l s:=Pre.moved (r:=L2 n r l') h.hw h.hl hl' hf.1 hf.2 h.n8 h.n2 h.sv hm.2 fun i hi=>by
  have hi:i < (Iy w n r l s).length:=hi
  show D'.getD (bN n (1 - r.2.1) + i) z0=(Iy w n r l s).getD i z0
  rw [hD _ (by omega)]
  exact h.lin i hi
 exact Bhl h.n8 h.n2 h.hw hs nf rt (by show r.2.2.1 + (hN n:Int) + 200≤999999000; omega) pre hp rm fun x hx p hp h4 hin=>by
  obtain ⟨a,b⟩:=hW x hx p hp h4
  have h1:r.2.2.1 + (hN n:Int) + ((Iy w n r l s).length:Int)≤p.2.2.1:=hin.1
  by_cases q:p.2.1=l
  ·have:=b q; omega
  ·omega
theorem Ads.next (h:Ads w n W r) {l':Int}:Ads w n W (L2 n r l'):=fun x hx p hp h4=>by
 rcases h x hx p hp h4 with q | ⟨q,_⟩
 ·exact .inl (by show (F2 p).1≤r.1 + 1; omega)
 ·exact .inl (by show (F2 p).1≤r.1 + 1; omega)
theorem Ads.root (h:J4 w n D P W r l s) {W':List Aa} (g:Ads w n W' r):Ads w n (W'++(Iy w n r l s++[Cb (L2 n r l) w])) r:=fun x hx p hp h4=>by
 rcases List.mem_append.1 hx with q | q
 ·exact g x q p hp h4
 ·rcases List.mem_append.1 q with q | q
  ·exact absurd h4 (h.mpage x q p hp).1
  ·rw [List.mem_singleton.1 q] at hp
   obtain ⟨p',p1,p2,p3,_⟩:=h.rpage
   rw [p1] at hp
   have:p'=p:=congrArg Prod.fst hp
   subst this
   rw [p3]
   exact .inr ⟨rfl,rfl,rfl⟩
theorem Anr (h:J4 w n D P W r l s):Nq w (Iy w n r l s++[Cb (L2 n r l) w]) l:=fun x q p hp=>by
 rcases List.mem_append.1 q with q | q
 ·have:=(h.mpage x q p hp).2.1; omega
 ·rw [List.mem_singleton.1 q] at hp
  obtain ⟨p',p1,p2,p3,p4,_⟩:=h.rpage
  rw [p1] at hp
  have:p'=p:=congrArg Prod.fst hp
  subst this
  omega
theorem x64 (h:J4 w n D P W r l s):∀ x∈Iy w n r l s++[Cb (L2 n r l) w],x.size=64:=fun x q=>by
 rcases List.mem_append.1 q with q | q
 ·exact h.m64 x q
 ·rw [List.mem_singleton.1 q]; exact h.r64
theorem Bpq (h:J4 w n D P W r l s) (used loose:Int):Wa (w,(n:Int),l,r,used,loose,s,())=(0,(w,(n:Int),l,L2 n r l,((Iy w n r l s).length:Int),0,s,()),S1 w n r l s,()):=by
 have hf:=h.f1
 have hh:=Oq h.n8 h.n2
 have htb:=h.tb
 have hrk:=h.rk.1
 have e1:mvL (w,(n:Int),l,r,used,loose,s,()) l=Iy w n r l s:=Bxw (s:=(w,(n:Int),l,r,used,loose,s,())) (by show _=r.2.2.1 + Al (n:Int); rw [Vs h.n8 h.n2]) h.hw h.hl hf.1 hf.2 (by have:=h.rm; show D4 s w≤200; omega)
 have e2:Bo6 (w,(n:Int),l,r,used,loose,s,()) l=L2 n r l:=by
  unfold Bo6 L2
  show (r.1 + 1,1 - r.2.1,r.2.2.1 + Al (n:Int),l,())=_
  rw [Vs h.n8 h.n2]
 have e3:Int.tmod (r.1 + 1) 2=((j9 r:Nat):Int):=by
  have:=h.rok.1.1
  rw [hrk,Int.tmod_eq_emod_of_nonneg (by omega)]
 have eM:Aa0 (w,(n:Int),l,r,used,loose,s,()) l=((w,(n:Int),l,L2 n r l,((Iy w n r l s).length:Int),0,s,()),S1 w n r l s,true):=by
  unfold Aa0
  show (bif decide (r.1 + 1 > 1000000000) then _ else bif decide (r.2.2.1 + Al (n:Int) > 999999000) then _ else _)=_
  rw [Bd (by omega),Vs h.n8 h.n2,Bd (by omega)]
  simp only [cond_false]
  have hH:=h.rok.2.1
  have eo:A8z (w,(n:Int),l,r,used,loose,s,()) l=S1 w n r l s:=by
   unfold A8z S1
   rw [e1,e2]
   show C7 (Bn (1 - r.2.1) (n:Int)) _++[Eo,L6 (Int.tmod (r.1 + 1) 2) (Cb (L2 n r l) w),Eo]=_
   rw [e3,A68 h.n8 h.n2 ⟨by omega,by omega⟩]
  rw [eo,e1,e2]
 unfold Wa
 have:(w,(n:Int),l,r,used,loose,s,()).2.2.1=l:=rfl
 rw [this,eM]
 rfl
end Go.Proofs.YtfkefgbihlfjmaaGreat.V
namespace Go.Proofs.YtfkefgbihlfjmaaGreat.V
open Go Go.Proofs.YtfkefgbihlfjmaaGreat.R
section
variable {B:Nat} {w:Int} {n:Nat} {D D' W X:List Aa} {P ws:List Wr} {past past':List B5} {r r':Rt} {u0:Nat} {L l:Int} {s0 st s:B5} {E F:List Aa} {sto:E5}
theorem Bfz (h:J4 w n D P W r l s) {up:Bool} {k:Int} (hk:(k==2)=false) (b:List Be) (cut:Int) (f:List Int) (hpl:past.length≤200):
  ((2000 < W.length + hN n + 1∨¬ cut < 0)∧Ff (Ob w D P up sto past W) (k,b,cut,f,()) (0,(w,(n:Int),l,L2 n r l,((Iy w n r l s).length:Int),0,s,()),S1 w n r l s,())=Ob w D P up sto past W)∨
  (∃ m,¬ cut < 0∧(W++(Iy w n r l s).take m).length≤2000∧Ff (Ob w D P up sto past W) (k,b,cut,f,()) (0,(w,(n:Int),l,L2 n r l,((Iy w n r l s).length:Int),0,s,()),S1 w n r l s,())=Ob w (Tr f D (P++Tm ((bN n (1 - r.2.1):Nat):Int) ((Iy w n r l s).take m))) [] false b8 past (W++(Iy w n r l s).take m))∨
  (¬ cut < 0∧(W++Iy w n r l s).length≤2000∧Ff (Ob w D P up sto past W) (k,b,cut,f,()) (0,(w,(n:Int),l,L2 n r l,((Iy w n r l s).length:Int),0,s,()),S1 w n r l s,())=Ob w (J4.lay D P w n r l s) [] false b8 past (W++Iy w n r l s))∨
  (¬ cut < 0∧(W++(Iy w n r l s++[Cb (L2 n r l) w])).length≤2000∧Ff (Ob w D P up sto past W) (k,b,cut,f,()) (0,(w,(n:Int),l,L2 n r l,((Iy w n r l s).length:Int),0,s,()),S1 w n r l s,())=Ob w (Tr f (J4.lay D P w n r l s) [(((j9 r:Nat):Int),Cb (L2 n r l) w,())]) [] false b8 past (W++(Iy w n r l s++[Cb (L2 n r l) w])))∨
  (¬ cut < 0∧(W++(Iy w n r l s++[Cb (L2 n r l) w])).length≤2000∧Ff (Ob w D P up sto past W) (k,b,cut,f,()) (0,(w,(n:Int),l,L2 n r l,((Iy w n r l s).length:Int),0,s,()),S1 w n r l s,())=Ob w ((J4.lay D P w n r l s).set (j9 r) (Cb (L2 n r l) w)) [] false b8 past (W++(Iy w n r l s++[Cb (L2 n r l) w])))∨
  ((W++(Iy w n r l s++[Cb (L2 n r l) w])).length≤2000∧Ff (Ob w D P up sto past W) (k,b,cut,f,()) (0,(w,(n:Int),l,L2 n r l,((Iy w n r l s).length:Int),0,s,()),S1 w n r l s,())=Ob w ((J4.lay D P w n r l s).set (j9 r) (Cb (L2 n r l) w)) [] true (w,(n:Int),l,L2 n r l,((Iy w n r l s).length:Int),0,s,()) [s] (W++(Iy w n r l s++[Cb (L2 n r l) w]))):=by
 have hm:=h.ml
 have hlen:(S1 w n r l s).length=(Iy w n r l s).length + 3:=by unfold S1; rw [Ef,Sy]; rfl
 have hb:=h.bb
 have hh:=Oq h.n8 h.n2
 have hpos:∀ m,Ar (D,P++Tm ((bN n (1 - r.2.1):Nat):Int) ((Iy w n r l s).take m),())=true:=fun m=>by
  have hd:=Ix h.vd
  refine y8 h.n8 h.n2 h.sec (by have:=h.pl; rw [Ef,Ag5,List.length_take]; omega) fun v hv=>?_
  rcases List.mem_append.1 hv with q | q
  ·have:=Ags (P:=fun w:Wr=>0≤w.1∧w.1 < ((D,P,()):Dk).1.length∧w.2.1.size=64) (z:=zW) hd.pen v q
   rw [← h.sec.len]
   exact this
  ·have g:=Ag6 q
   have:((Iy w n r l s).take m).length≤(Iy w n r l s).length:=by rw [List.length_take]; omega
   exact ⟨by omega,by omega,Bv4 (fun x hx=>h.m64 x (List.mem_of_mem_take hx)) q⟩
 have hpos2:Ar (J4.lay D P w n r l s,[(((j9 r:Nat):Int),Cb (L2 n r l) w,())],())=true:=y8 h.n8 h.n2 h.lsec (by show 1≤300; omega) fun v hv=>by
  rw [List.mem_singleton.1 hv]
  have:=h.rk
  exact ⟨by show (0:Int)≤((j9 r:Nat):Int); omega,by show ((j9 r:Nat):Int) < (n:Int); omega,h.r64⟩
 unfold Ff
 cases hfull:Tt (Ob w D P up sto past W) (k,b,cut,f,()) (0,(w,(n:Int),l,L2 n r l,((Iy w n r l s).length:Int),0,s,()),S1 w n r l s,()) with
 | true=>
  refine .inl ⟨?_,rfl⟩
  by_cases hc:cut < 0
  ·left
   unfold Tt K9 Gp y7 at hfull
   have e1:d5 (k,b,cut,f,()) (0,(w,(n:Int),l,L2 n r l,((Iy w n r l s).length:Int),0,s,()),S1 w n r l s,())=false:=by
    unfold d5
    show (decide (0≤cut)&&_)=false
    rw [Bd (by omega)]
    rfl
   rw [e1] at hfull
   simp only [cond_false,hk,En,Bool.or_eq_true,decide_eq_true_eq] at hfull
   rw [O6 (Nat.le_refl _)] at hfull
   have e2:Ep (S1 w n r l s)=Iy w n r l s++[Cb (L2 n r l) w]:=by
    rcases h.perf (S1 w n r l s).length with ⟨q,_⟩ | ⟨q,_⟩ | ⟨q,_⟩ | ⟨q,q2,q3⟩
    ·omega
    ·omega
    ·omega
    ·rwa [O6 (Nat.le_refl _)] at q3
   rw [e2] at hfull
   rcases hfull with q | q
   ·have q:(W++(Iy w n r l s++[Cb (L2 n r l) w])).length > 2000:=q
    rw [Ef,Ef,Et] at q
    omega
   ·have q:past.length > 200:=q
    omega
  ·exact .inr hc
 | false=>
  refine .inr ?_
  unfold Tt K9 Gp at hfull
  rw [hk] at hfull
  simp only [Bool.or_eq_false_iff,decide_eq_false_iff_not] at hfull
  obtain ⟨g1,_⟩:=hfull
  unfold K9 Gp
  rw [hk]
  unfold y7 at g1 ⊢
  cases hcut:d5 (k,b,cut,f,()) (0,(w,(n:Int),l,L2 n r l,((Iy w n r l s).length:Int),0,s,()),S1 w n r l s,()) with
  | true=>
   rw [hcut] at g1
   unfold d5 at hcut
   obtain ⟨c0,c1⟩:=B6 hcut
   have c0:0≤cut:=Io c0
   simp only [cond_true,cond_false] at g1 ⊢
   have g1:¬ (W++Ep ((S1 w n r l s).take cut.toNat)).length > 2000:=g1
   have hn:¬ cut < 0:=by omega
   have ec:((cut.toNat:Nat):Int)=cut:=by omega
   rcases h.perf cut.toNat with ⟨q,q2,q3⟩ | ⟨q,q2,q3⟩ | ⟨q,q2,q3⟩ | ⟨q,q2,q3⟩
   ·rw [q3] at g1 ⊢
    rw [ec] at q2
    rw [q2,S0 (hpos _)]
    exact .inl ⟨cut.toNat,hn,by omega,rfl⟩
   ·rw [q3] at g1 ⊢
    rw [ec] at q2
    rw [q2,S0 (h.lsec.ok h.n8 h.n2)]
    exact .inr (.inl ⟨hn,by omega,rfl⟩)
   ·rw [q3] at g1 ⊢
    rw [ec] at q2
    rw [q2,S0 hpos2]
    exact .inr (.inr (.inl ⟨hn,by omega,rfl⟩))
   ·rw [q3] at g1 ⊢
    rw [ec] at q2
    rw [q2,S0 ((Arp h).1.ok h.n8 h.n2)]
    exact .inr (.inr (.inr (.inl ⟨hn,by omega,rfl⟩)))
  | false=>
   rw [hcut] at g1
   simp only [cond_true,cond_false,En] at g1 ⊢
   have g1:¬ (W++Ep ((S1 w n r l s).take (S1 w n r l s).length)).length > 2000:=g1
   rcases h.perf (S1 w n r l s).length with ⟨q,_⟩ | ⟨q,_⟩ | ⟨q,_⟩ | ⟨q,q2,q3⟩
   ·omega
   ·omega
   ·omega
   ·rw [q3] at g1 ⊢
    rw [q2]
    exact .inr (.inr (.inr (.inr ⟨by omega,rfl⟩)))
theorem A09 (h:J4 w n D P W r l s) (b:Bas B w n W past r) (hB:B + 1≤9000) (lb:l≤(B:Int) + 1) (hwk:(W++(Iy w n r l s++[Cb (L2 n r l) w])).length≤2000) (pv:∀ s∈past',Ak s=true) (pl:1≤past'.length∧past'.length≤200):
  Bas (B + 1) w n (W++(Iy w n r l s++[Cb (L2 n r l) w])) past' r∧∀ l',Bas (B + 1) w n (W++(Iy w n r l s++[Cb (L2 n r l) w])) past' (L2 n r l'):=by
 have hm:=h.ml
 have hh:=Oq h.n8 h.n2
 have g:=Ads.root h b.g
 have hX:(Iy w n r l s++[Cb (L2 n r l) w]).length≤hN n + 1:=by rw [Ef,Et]; omega
 have xb:∀ x∈Iy w n r l s++[Cb (L2 n r l) w],∀ p,Av x w=(p,true)→p.2.1≤(B:Int) + 1:=fun x hx p hp=>by have:=Anr h x hx p hp; omega
 exact ⟨b.more hB hX hwk (x64 h) xb pv pl g (by omega) (by omega),fun l'=>b.more hB hX hwk (x64 h) xb pv pl (Ads.next g) (by show r.1 + 1≤r.1 + 1; omega) (by show r.2.2.1 + (hN n:Int)≤r.2.2.1 + 100; omega)⟩
def WC (w:Int) (n:Nat) (W:List Aa) (r:Rt) (l:Int) (s:B5):Prop:=∀ x∈W,∀ p,Av x w=(p,true)→p.1≠4→p.2.1=l→p.2.2.1 < r.2.2.1 + (hN n:Int) + ((Iy w n r l s).length:Int)
theorem Bnp (h:J4 w n D P W r l s) (wc:WC w n W r l s) (lv:Nq w W l):∀ x∈W++(Iy w n r l s++[Cb (L2 n r l) w]),∀ p,Av x w=(p,true)→p.1≠4→p.2.1≤l∧(p.2.1=l→p.2.2.1 < r.2.2.1 + (hN n:Int) + ((Iy w n r l s).length:Int)):=fun x hx p hp h4=>by
 rcases List.mem_append.1 hx with q | q
 ·exact ⟨lv x q p hp,wc x q p hp h4⟩
 ·refine ⟨Anr h x q p hp,fun _=>?_⟩
  rcases List.mem_append.1 q with q | q
  ·exact (h.mpage x q p hp).2.2.2
  ·rw [List.mem_singleton.1 q] at hp
   obtain ⟨p',p1,p2,_⟩:=h.rpage
   rw [p1] at hp
   have:p'=p:=congrArg Prod.fst hp
   subst this
   exact absurd p2 h4
theorem Bhm (h:J4 w n D P W r l s) (b:Bas B w n W past r) (hB:B + 1≤9000) (lb:l≤(B:Int) + 1) (hwk:(W++(Iy w n r l s++[Cb (L2 n r l) w])).length≤2000) (wc:WC w n W r l s) (lv:Nq w W l) (hp:s∈past) (rm:∀ x∈past,D4 x w≤(hN n:Int) - 1) {D':List Aa} {l':Int} (hl':l'≤l)
  (hs:Sec n D') (nf:NoF w n D' (W++(Iy w n r l s++[Cb (L2 n r l) w]))) (rt:Aw (D',[],()) w=L2 n r l') (hD:∀ i,i≠j9 r→D'.getD i z0=(J4.lay D P w n r l s).getD i z0):DnP (B + 1) w n D' (W++(Iy w n r l s++[Cb (L2 n r l) w])) past:=
 DnP.of (A9p h hl' hs nf rt hD hp rm (Bnp h wc lv)) ((A09 h b hB lb hwk b.pv b.pl).2 l') (by omega) (lv.app (Anr h))
theorem Bw2 (h:J4 w n D P W r l s) (b:Bas B w n W past r) (hB:B + 1≤9000) (lb:l≤(B:Int) + 1) (hwk:(W++(Iy w n r l s++[Cb (L2 n r l) w])).length≤2000) (wc:WC w n W r l s) (lv:Nq w W l):
  Lg (B + 1) w n (Ob w ((J4.lay D P w n r l s).set (j9 r) (Cb (L2 n r l) w)) [] true (w,(n:Int),l,L2 n r l,((Iy w n r l s).length:Int),0,s,()) [s] (W++(Iy w n r l s++[Cb (L2 n r l) w]))):=by
 obtain ⟨k1,k2⟩:=Arp h
 obtain ⟨l1,l2⟩:=Cv h.hl
 have hm:=h.ml
 have b':=(A09 h b hB lb hwk (past':=[s]) (Adt h.sv) ⟨Nat.le_refl 1,by show 1≤200; omega⟩).2 l
 refine Lg.up b' h.n8 h.n2 h.hw k1 (k1.ok h.n8 h.n2) (Anq h.n8 h.n2 h.hw ⟨l1,l2⟩ (h.nok (by omega) l2) ⟨by omega,by omega⟩ ⟨Int.le_refl 0,by omega⟩ h.sv h.rm) fun nf=>?_
 have c:=A9p (past':=[s]) h (Int.le_refl l) k1 nf k2 (fun i hi=>getD_set_ne (fun q=>hi q.symm)) (List.mem_singleton.2 rfl) (Adt h.rm) (Bnp h wc lv)
 exact ⟨L2 n r l,(Iy w n r l s).length,l,s,[],s,c,b',l1,by omega,rfl,rfl,rfl,⟨[],rfl⟩,lv.app (Anr h),fun x hx p hp h4 hl=>by
  have:=(Bnp h wc lv x hx p hp h4).2 hl
  show p.2.2.1 < r.2.2.1 + (hN n:Int) + (hN n:Int)
  omega⟩
theorem O5.mv (h:O5 B w n D P sto past W r u0 L s0 E st):J4 w n D P W r L st:=by
 have hb:=h.b.b
 have h1:=h.b.tb
 have h2:=h.b.fb
 have hbin:=h.bin
 have y:=h.sync
 have hq:=h.c.qh
 have hh:=Oq h.c.n8 h.c.n2
 obtain ⟨_,t,t1,_,t3,_⟩:=h.c.pre
 have hm:=Ag3 t1
 exact {
  n8:=h.c.n8
  n2:=h.c.n2
  hw:=h.c.hw
  sec:=h.c.sec
  vd:=h.vd
  pl:=by rw [h.plen]; omega
  pp:=fun v hv=>by have:=h.pos v hv; omega
  root:=h.c.root
  sync:=y.s
  sroot:=y.rt
  tb:=by omega
  fb:=by omega
  hl:=h.h9.2.2
  sv:=h.sv
  rm:=h.c.rm st h.mem
  rl:=by rw [t3] at hm; exact hm }
theorem Bnq {used loose:Int} (hv:Au (w,(n:Int),L,r,used,loose,st,())=true):Hr (w,(n:Int),L,r,used,loose,st,())=Wa (w,(n:Int),L,r,used,loose,st,()):=by
 unfold Hr
 rw [hv]
 rfl
theorem O5.compact (h:O5 B w n D P sto past W r u0 L s0 E st) (hB:B + 1≤9000) (b:List Be) (cut:Int) (f:List Int):Lg (B + 1) w n (doS (Ob w D P true sto past W) (4,b,cut,f,())):=by
 have hsok:=h.sok
 have hs:=h.s
 have y:=h.sync
 have m:=h.mv
 have hbin:=h.bin
 have hoth:=A9j h.c.n8 h.c.n2 h.c.rok.2.1
 have hbb:=m.bb
 have hq:=h.c.qh
 have hlb:=h.lb
 have hh:=Oq h.c.n8 h.c.n2
 have hml:=m.ml
 have hrk:=m.rk
 subst hs
 have e0:doS (Ob w D P true (w,(n:Int),L,r,((u0 + (qP L w (r.2.2.1 + u0) E).length:Nat):Int),((qP L w (r.2.2.1 + u0) E).length:Int),st,()) past W) (4,b,cut,f,())=
   bif (Hr (w,(n:Int),L,r,((u0 + (qP L w (r.2.2.1 + u0) E).length:Nat):Int),((qP L w (r.2.2.1 + u0) E).length:Int),st,())).1 != 0 then (Ob w D P true (w,(n:Int),L,r,((u0 + (qP L w (r.2.2.1 + u0) E).length:Nat):Int),((qP L w (r.2.2.1 + u0) E).length:Int),st,()) past W)
   else Ff (Ob w D P true (w,(n:Int),L,r,((u0 + (qP L w (r.2.2.1 + u0) E).length:Nat):Int),((qP L w (r.2.2.1 + u0) E).length:Int),st,()) past W) (4,b,cut,f,()) (Hr (w,(n:Int),L,r,((u0 + (qP L w (r.2.2.1 + u0) E).length:Nat):Int),((qP L w (r.2.2.1 + u0) E).length:Int),st,())):=rfl
 rw [e0,Bnq hsok,Bpq m]
 show Lg (B + 1) w n (Ff _ _ _)
 have wc:WC w n W r L st:=fun x hx p hp h4 hl=>by have:=h.ea x hx p hp h4 hl; omega
 have old:∀ (D' X:List Aa),Sec n D'→NoF w n D' (W++X)→Aw (D',[],()) w=r→(∀ i,i < hN n→D'.getD (bN n r.2.1 + i) z0=(Hq D P).getD (bN n r.2.1 + i) z0)→(∀ x∈X,∀ p,Av x w=(p,true)→p.1≠4→¬ InR w n r u0 p)→Bas (B + 1) w n (W++X) past r→Nq w X L→DnP (B + 1) w n D' (W++X) past:=fun D' X s1 nf rt hD hX hb hlx=>by
  have y':Bno w n D D' r u0 (qP L w (r.2.2.1 + u0) E):=⟨s1,rt,fun i hi=>by rw [hD i (by omega)]; exact y.p i hi,fun i hi=>by rw [hD (u0 + i) (by omega)]; exact y.q i hi⟩
  exact DnP.of (h.flushed y' nf h.mem h.c.rm hX) hb (by omega) (h.lv.app hlx)
 have far:∀ x∈Iy w n r L st++[Cb (L2 n r L) w],∀ p,Av x w=(p,true)→p.1≠4→¬ InR w n r u0 p:=fun x hx p hp h4 hin=>by
  rcases List.mem_append.1 hx with q | q
  ·have:=(m.mpage x q p hp).2.2.1
   have:=hin.2
   omega
  ·rw [List.mem_singleton.1 q] at hp
   obtain ⟨p',p1,p2,_⟩:=m.rpage
   rw [p1] at hp
   have:p'=p:=congrArg Prod.fst hp
   subst this
   exact h4 p2
 have basX:∀ k:Nat,(W++(Iy w n r L st).take k).length≤2000→Bas (B + 1) w n (W++(Iy w n r L st).take k) past r:=fun k hk=>
  h.b.more hB (by rw [List.length_take]; omega) hk (fun x hx=>m.m64 x (List.mem_of_mem_take hx)) (fun x hx p hp=>by have:=(m.mpage x (List.mem_of_mem_take hx) p hp).2.1; omega) h.b.pv h.b.pl (h.b.g.more fun x hx p hp=>(m.mpage x (List.mem_of_mem_take hx) p hp).1) (by omega) (by omega)
 rcases Bfz (past:=past) (sto:=(w,(n:Int),L,r,((u0 + (qP L w (r.2.2.1 + u0) E).length:Nat):Int),((qP L w (r.2.2.1 + u0) E).length:Int),st,())) (up:=true) m (show ((4:Int)==2)=false by decide) b cut f h.b.pl.2 with ⟨_,e⟩ | ⟨k,_,hk,e⟩ | ⟨_,hk,e⟩ | ⟨_,hk,e⟩ | ⟨_,hk,e⟩ | ⟨hk,e⟩
 ·rw [e]; exact h.same hB
 ·rw [e]
  have pos:∀ v∈P++Tm ((bN n (1 - r.2.1):Nat):Int) ((Iy w n r L st).take k),2≤v.1.toNat∧(v.1.toNat < bN n r.2.1∨bN n r.2.1 + u0≤v.1.toNat)∧0≤v.1∧v.1 < (n:Int)∧v.2.1.size=64:=fun v hv=>by
   rcases List.mem_append.1 hv with q | q
   ·have:=h.pos v q; exact ⟨by omega,by omega,by omega,by omega,this.2.2⟩
   ·have g:=Ag6 q
    have:((Iy w n r L st).take k).length≤(Iy w n r L st).length:=by rw [List.length_take]; omega
    exact ⟨by omega,by omega,by omega,by omega,Bv4 (fun x hx=>m.m64 x (List.mem_of_mem_take hx)) q⟩
  have vd:Ar (D,P++Tm ((bN n (1 - r.2.1):Nat):Int) ((Iy w n r L st).take k),())=true:=y8 h.c.n8 h.c.n2 h.c.sec (by rw [Ef,h.plen,Ag5,List.length_take]; omega) fun v hv=>(pos v hv).2.2
  obtain ⟨k1,k2⟩:=Aa2 h.c.n8 h.c.n2 h.c.hw h.c.sec h.c.root vd f fun v hv=>(pos v hv).1
  refine Lg.dn (basX k hk) h.c.n8 h.c.n2 h.c.hw k1 fun nf=>?_
  have c':=h.c.next (F:=[]) (past':=past) k1 nf k2 (fun i hi=>Wd (fun v hv=>by have:=(pos v hv).2.1; omega) D) (fun s hs=>hs) h.c.rm (fun j j1 j2=>by rw [List.append_nil] at j2; omega) (by rw [List.append_nil]; exact h.c.lb) (by rw [List.append_nil]; exact h.c.qh)
   (fun x hx p hp h4 hin=>absurd hin (far x (List.mem_append_left _ (List.mem_of_mem_take hx)) p hp h4))
  rw [List.append_nil] at c'
  exact DnP.of c' (basX k hk) (by omega) (h.lv.app fun x hx p hp=>by have:=(m.mpage x (List.mem_of_mem_take hx) p hp).2.1; omega)
 ·rw [e]
  have hb:=basX (Iy w n r L st).length (by rw [O6 (Nat.le_refl _)]; exact hk)
  rw [O6 (Nat.le_refl _)] at hb
  exact Lg.dn hb h.c.n8 h.c.n2 h.c.hw m.lsec fun nf=>old _ _ m.lsec nf m.lroot m.lout (fun x hx p hp h4=>far x (List.mem_append_left _ hx) p hp h4) hb fun x hx p hp=>by have:=(m.mpage x hx p hp).2.1; omega
 ·rw [e]
  have vd:Ar (J4.lay D P w n r L st,[(((j9 r:Nat):Int),Cb (L2 n r L) w,())],())=true:=y8 h.c.n8 h.c.n2 m.lsec (by show 1≤300; omega) fun v hv=>by
   rw [List.mem_singleton.1 hv]
   exact ⟨by show (0:Int)≤((j9 r:Nat):Int); omega,by show ((j9 r:Nat):Int) < (n:Int); omega,m.r64⟩
  have k1:=A9n m.lsec.len vd f
  have hD:∀ i,i≠j9 r→(Tr f (J4.lay D P w n r L st) [(((j9 r:Nat):Int),Cb (L2 n r L) w,())]).getD i z0=(J4.lay D P w n r L st).getD i z0:=fun i hi=>Wd (fun v hv=>by rw [List.mem_singleton.1 hv]; show (((j9 r:Nat):Int)).toNat≠i; omega) _
  obtain ⟨hb,hb'⟩:=A09 h.mv h.b hB (by omega) hk h.b.pv h.b.pl
  refine Lg.dn hb h.c.n8 h.c.n2 h.c.hw k1 fun nf=>?_
  rcases A9o m k1 nf hb.g (h.lv.app (Anr m)) hD with rt | ⟨l',_,hl',rt⟩
  ·exact old _ _ k1 nf rt (fun i hi=>by rw [hD _ (by omega)]; exact m.lout i hi) far hb (Anr m)
  ·exact Bhm m h.b hB (by omega) hk wc h.lv h.mem h.c.rm hl' k1 nf rt hD
 ·rw [e]
  obtain ⟨k1,k2⟩:=Arp m
  obtain ⟨hb,hb'⟩:=A09 h.mv h.b hB (by omega) hk h.b.pv h.b.pl
  exact Lg.dn hb h.c.n8 h.c.n2 h.c.hw k1 fun nf=>Bhm m h.b hB (by omega) hk wc h.lv h.mem h.c.rm (Int.le_refl L) k1 nf k2 fun i hi=>getD_set_ne (fun q=>hi q.symm)
 ·rw [e]
  exact Bw2 m h.b hB (by omega) hk wc h.lv
end
section
variable {B:Nat} {w:Int} {n:Nat} {D D' W X:List Aa} {P ws:List Wr} {past past':List B5} {r r':Rt} {u0 u:Nat} {L l:Int} {s0 st s:B5} {E F es:List Aa} {sto:E5}
theorem We.valid (h:We B w n D W past r u0 L s0 E es u l s):Bf (Ob w D [] false b8 past W)=true:=Bkz h.b h.c.n8 h.c.n2 h.c.hw h.c.sec
theorem We.same (h:We B w n D W past r u0 L s0 E es u l s) (hB:B + 1≤9000):Lg (B + 1) w n (Ob w D [] false b8 past W):=
 ⟨h.valid,fun _=>.inl ⟨D,past,W,rfl,DnP.mono ⟨r,u0,L,s0,E,es,u,l,s,h⟩ (Nat.le_succ B) hB⟩⟩
theorem A1a (f:List Int) (D:List Aa):Tr f D []=D:=rfl
theorem We.power (h:We B w n D W past r u0 L s0 E es u l s) (hB:B + 1≤9000) (f:List Int):Lg (B + 1) w n (Ag2 (Ob w D [] false b8 past W) f):=by
 have e:Ag2 (Ob w D [] false b8 past W) f=Ob w D [] false b8 past W:=by
  unfold Ag2
  show (w,E9 (D,[],()) f,_)=_
  rw [S0 (h.c.sec.ok h.c.n8 h.c.n2),A1a]
 rw [e]
 exact h.same hB
theorem We.lB (h:We B w n D W past r u0 L s0 E es u l s):0≤l∧l≤(B:Int):=by
 have h0:=h.c.rok.2.2.2.1
 obtain ⟨_,t,t1,_,t3,_⟩:=h.f.pre
 have hm:=Ag3 t1
 rw [t3] at hm
 have hm:r.2.2.2.1≤l:=hm
 refine ⟨by omega,?_⟩
 rcases h.f.lf with q | ⟨x,hx,p,hp,_,q⟩
 ·have:=h.lb; omega
 ·have:=h.b.wb x hx p hp; omega
theorem We.rl (h:We B w n D W past r u0 L s0 E es u l s):r.2.2.2.1≤l:=by
 obtain ⟨_,t,t1,_,t3,_⟩:=h.f.pre
 have hm:=Ag3 t1
 rw [t3] at hm
 exact hm
theorem We.again (h:We B w n D W past r u0 L s0 E es u l s) {B':Nat} {D' X:List Aa} (s1:Sec n D') (nf:NoF w n D' (W++X)) (rt:Aw (D',[],()) w=r) (hD:∀ i,i < hN n→D'.getD (bN n r.2.1 + i) z0=D.getD (bN n r.2.1 + i) z0) (hX:∀ x∈X,∀ p,Av x w=(p,true)→p.1≠4→¬ InR w n r u0 p)
  (hb:Bas B' w n (W++X) past r) (hBB:B≤B') (hl:Nq w X (l + 1)) (hm:∀ x∈X,∀ p,Av x w=(p,true)→p.1≠4→p.2.1=l + 1→u=hN n∧x∈mvP w (l + 1) (r.2.2.1 + (hN n:Int)) s):DnP B' w n D' (W++X) past:=by
 have c':=h.c.next (F:=[]) (past':=past) s1 nf rt (fun i hi=>hD i (by have:=h.c.pre.hu; omega)) (fun s hs=>hs) h.c.rm (fun j j1 j2=>by rw [List.append_nil] at j2; omega) (by rw [List.append_nil]; exact h.c.lb) (by rw [List.append_nil]; exact h.c.qh) (fun x hx p hp h4 hin=>absurd hin (hX x hx p hp h4))
 rw [List.append_nil] at c'
 refine ⟨r,u0,L,s0,E,es,u,l,s,c',⟨?_,h.f.op,h.f.mem,h.f.pre.congr fun i hi=>hD i (by have:=h.f.pre.hu; omega),h.f.hu,h.f.hl,?_⟩,hb,by have:=h.lb; omega,h.lv.app hl,fun x hx p hp h4 hl'=>?_⟩
 ·rw [Brb h.c.n8 h.c.n2 h.c.hw h.c.sec s1 h.c.root rt hD]; exact h.f.scan
 ·rcases h.f.lf with q | ⟨x,hx,q⟩
  ·exact .inl q
  ·exact .inr ⟨x,List.mem_append_left _ hx,q⟩
 ·rcases List.mem_append.1 hx with q | q
  ·exact h.lt x q p hp h4 hl'
  ·exact .inr (.inr (hm x q p hp h4 hl'))
theorem We.mv (h:We B w n D W past r u0 L s0 E es u l s):J4 w n D [] W r (l + 1) s:=by
 have hb:=h.b.b
 have h1:=h.b.tb
 have h2:=h.b.fb
 have hl:=h.lB
 have hrl:=h.rl
 exact {
  n8:=h.c.n8
  n2:=h.c.n2
  hw:=h.c.hw
  sec:=h.c.sec
  vd:=h.c.sec.ok h.c.n8 h.c.n2
  pl:=Nat.zero_le _
  pp:=fun v hv=>by cases hv
  root:=h.c.root
  sync:=h.c.sec
  sroot:=h.c.root
  tb:=by omega
  fb:=by omega
  hl:=Ag7 (by omega) (by omega)
  sv:=h.f.pre.valid
  rm:=h.c.rm s h.f.mem
  rl:=by omega }
theorem We.open_is (h:We B w n D W past r u0 L s0 E es u l s):
  (u < hN n∧Oo (D,[],()) w=(0,(w,(n:Int),l + 1,r,(u:Int) + 1,0,s,()),[L6 ((bN n r.2.1 + u:Nat):Int) (Cc (3,l + 1,r.2.2.1 + (u:Int),z0,()) w),Eo],()))∨
  (u=hN n∧Oo (D,[],()) w=(0,(w,(n:Int),l + 1,L2 n r (l + 1),((Iy w n r (l + 1) s).length:Int),0,s,()),S1 w n r (l + 1) s,())):=by
 have hl:=h.lB
 have hb:=h.b.b
 have hrm:=h.c.rm s h.f.mem
 have hN':=Vs h.c.n8 h.c.n2
 have hu:=h.f.pre.hu
 have e1:Oo (D,[],()) w=Ado (D,[],()) w r (es,(u:Int),l,()) s:=by
  unfold Oo
  rw [h.c.sec.ok h.c.n8 h.c.n2,h.c.hw,h.f.scan,h.c.root]
  show (match E8 es Ut with | none=>_ | some st=>_)=_
  rw [h.f.op]
 have hn:((D,([]:List Wr),()):Dk).1.length=n:=h.c.len
 rw [e1]
 by_cases q:u < hN n
 ·refine .inl ⟨q,?_⟩
  rw [A61 (by show ¬ l + 1 > 60000; omega) (by rw [hn,hN']; omega) (by rw [hn,hN']; show (u:Int) < _; omega),hn,A68 h.c.n8 h.c.n2 h.c.rok.2.1,show ((bN n r.2.1:Nat):Int) + ((es,(u:Int),l,()):Scd).2.1=((bN n r.2.1 + u:Nat):Int) by show ((bN n r.2.1:Nat):Int) + (u:Int)=_; omega]
 ·refine .inr ⟨by omega,?_⟩
  rw [A62 (by show ¬ l + 1 > 60000; omega) (by rw [hn,hN']; omega) (by rw [hn,hN']; show ¬ (u:Int) < _; omega),hn]
  exact Bpq h.mv (u:Int) 0
theorem We.life_page (h:We B w n D W past r u0 L s0 E es u l s):Eg (3,l + 1,r.2.2.1 + (u:Int),z0,()) w=true:=by
 have hl:=h.lB
 have hb:=h.b.b
 have hf:=h.c.fb
 have h1:=h.c.rok.2.2.1.1
 have hu:=h.f.pre.hu
 have hh:=Oq h.c.n8 h.c.n2
 exact Bhk h.c.hw (by omega) (by omega) (by omega) (by omega)
theorem We.open_near (h:We B w n D W past r u0 L s0 E es u l s) (hB:B + 1≤9000) (hu:u < hN n) (b:List Be) (cut:Int) (f:List Int):
  ((2000 < W.length + hN n + 1∨¬ cut < 0)∧Ff (Ob w D [] false b8 past W) (1,b,cut,f,()) (0,(w,(n:Int),l + 1,r,(u:Int) + 1,0,s,()),[L6 ((bN n r.2.1 + u:Nat):Int) (Cc (3,l + 1,r.2.2.1 + (u:Int),z0,()) w),Eo],())=Ob w D [] false b8 past W)∨
  (¬ cut < 0∧Lg (B + 1) w n (Ff (Ob w D [] false b8 past W) (1,b,cut,f,()) (0,(w,(n:Int),l + 1,r,(u:Int) + 1,0,s,()),[L6 ((bN n r.2.1 + u:Nat):Int) (Cc (3,l + 1,r.2.2.1 + (u:Int),z0,()) w),Eo],())))∨
  (Ff (Ob w D [] false b8 past W) (1,b,cut,f,()) (0,(w,(n:Int),l + 1,r,(u:Int) + 1,0,s,()),[L6 ((bN n r.2.1 + u:Nat):Int) (Cc (3,l + 1,r.2.2.1 + (u:Int),z0,()) w),Eo],())=Ob w (D.set (bN n r.2.1 + u) (Cc (3,l + 1,r.2.2.1 + (u:Int),z0,()) w)) [] true (w,(n:Int),l + 1,r,((u + 1:Nat):Int),0,s,()) [s] (W++[Cc (3,l + 1,r.2.2.1 + (u:Int),z0,()) w])∧
   Lg (B + 1) w n (Ob w (D.set (bN n r.2.1 + u) (Cc (3,l + 1,r.2.2.1 + (u:Int),z0,()) w)) [] true (w,(n:Int),l + 1,r,((u + 1:Nat):Int),0,s,()) [s] (W++[Cc (3,l + 1,r.2.2.1 + (u:Int),z0,()) w]))):=by
 have hl:=h.lB
 have hlp:=h.life_page
 have hbin:=Bfv h.c.n8 h.c.n2 h.c.rok.2.1
 have hh:=Oq h.c.n8 h.c.n2
 have hb:=h.b.b
 have hbl:=h.b.pl
 have hLl:=h.f.hl
 have hu0:=h.f.hu
 have hread:=I4 hlp
 have h64:=Bv1 hlp
 have hvd0:=h.c.sec.ok h.c.n8 h.c.n2
 generalize hlpe:Cc (3,l + 1,r.2.2.1 + (u:Int),z0,()) w=lp at *
 have hrp:∀ x∈[lp],∀ p,Av x w=(p,true)→p=(3,l + 1,r.2.2.1 + (u:Int),z0,()):=fun x hx p hp=>by
  rw [List.mem_singleton.1 hx,hread] at hp
  exact (congrArg Prod.fst hp).symm
 have basX:(W++[lp]).length≤2000→∀ past',(∀ s∈past',Ak s=true)→(1≤past'.length∧past'.length≤200)→Bas (B + 1) w n (W++[lp]) past' r:=fun hk past' pv pl=>
  h.b.more hB (by show 1≤hN n + 1; omega) hk (fun x hx=>by rw [List.mem_singleton.1 hx]; exact h64) (fun x hx p hp=>by rw [hrp x hx p hp]; show l + 1≤_; omega) pv pl (h.b.g.more fun x hx p hp=>by rw [hrp x hx p hp]; show (3:Int)≠4; decide) (by omega) (by omega)
 have lost:∀ D',Sec n D'→Aw (D',[],()) w=r→(∀ i,i≠bN n r.2.1 + u→D'.getD i z0=D.getD i z0)→(W++[lp]).length≤2000→Lg (B + 1) w n (Ob w D' [] false b8 past (W++[lp])):=fun D' s1 rt hD hk=>by
  have hb':=basX hk past h.b.pv h.b.pl
  refine Lg.dn hb' h.c.n8 h.c.n2 h.c.hw s1 fun nf=>?_
  have c':=h.c.next (F:=[]) (past':=past) s1 nf rt (fun i hi=>hD _ (by omega)) (fun s hs=>hs) h.c.rm (fun j j1 j2=>by rw [List.append_nil] at j2; omega) (by rw [List.append_nil]; exact h.c.lb) (by rw [List.append_nil]; exact h.c.qh) (fun x hx p hp h4 hin=>by
   rw [hrp x hx p hp]
   exact ⟨fun q=>by have q:l + 1=L:=q; omega,fun _=>rfl⟩)
  rw [List.append_nil] at c'
  obtain ⟨es',u',l',s',f'⟩:=c'.found
  have hge:=(h.f.pre.congr fun i hi=>hD (bN n r.2.1 + i) (by omega)).ge h.c.n8 h.c.n2 h.c.hw s1 rt f'.scan
  have hu':=f'.pre.hu
  refine ⟨r,u0,L,s0,E,es',u',l',s',c',f',hb',by have:=h.lb; omega,fun x hx p hp=>?_,fun x hx p hp h4 hl'=>?_⟩
  ·rcases List.mem_append.1 hx with q | q
   ·have:=h.lv x q p hp; omega
   ·rw [hrp x q p hp]; show l + 1≤_; omega
  ·rcases List.mem_append.1 hx with q | q
   ·have h1:=h.lv x q p hp
    have h2:l'=l:=by omega
    subst h2
    rcases h.lt x q p hp h4 hl' with z | ⟨z1,z2⟩ | ⟨z1,z2⟩
    ·exact .inl (by omega)
    ·by_cases y:u'=u
     ·subst y; exact .inr (.inl ⟨z1,z2⟩)
     ·exact .inl (by omega)
    ·omega
   ·have e:=hrp x q p hp
    rw [e] at hl' ⊢
    have hl':l + 1=l' + 1:=hl'
    show r.2.2.1 + (u:Int) < _∨(u' < hN n∧r.2.2.1 + (u:Int)=_)∨_
    by_cases y:u'=u
    ·subst y; exact .inr (.inl ⟨hu,rfl⟩)
    ·exact .inl (by omega)
 have hput:opS (D,[],()) (L6 ((bN n r.2.1 + u:Nat):Int) lp)=(D,[(((bN n r.2.1 + u:Nat):Int),lp,())],()):=by
  have:=Aah [lp] ((bN n r.2.1 + u:Nat):Int) D [] (fun x hx=>by rw [List.mem_singleton.1 hx]; exact h64) (by omega) (by rw [h.c.len]; show ((bN n r.2.1 + u:Nat):Int) + 1≤_; omega) (by show 0 + 1≤300; omega)
  exact this
 have hsync:opS (D,[(((bN n r.2.1 + u:Nat):Int),lp,())],()) Eo=(D.set (bN n r.2.1 + u) lp,[],()):=by rw [A69]; rfl
 have perf:∀ m:Nat,(m=0∧Cn (D,[],()) [L6 ((bN n r.2.1 + u:Nat):Int) lp,Eo] m=(D,[],())∧Ep (([L6 ((bN n r.2.1 + u:Nat):Int) lp,Eo]:List Dl).take m)=[])∨
   (m=1∧Cn (D,[],()) [L6 ((bN n r.2.1 + u:Nat):Int) lp,Eo] m=(D,[(((bN n r.2.1 + u:Nat):Int),lp,())],())∧Ep (([L6 ((bN n r.2.1 + u:Nat):Int) lp,Eo]:List Dl).take m)=[lp])∨
   (2≤m∧Cn (D,[],()) [L6 ((bN n r.2.1 + u:Nat):Int) lp,Eo] m=(D.set (bN n r.2.1 + u) lp,[],())∧Ep (([L6 ((bN n r.2.1 + u:Nat):Int) lp,Eo]:List Dl).take m)=[lp]):=fun m=>by
  rw [Ajy hvd0,En]
  rcases Nat.lt_or_ge m 2 with q | q
  ·have:m=0∨m=1:=by omega
   rcases this with rfl | rfl
   ·exact .inl ⟨rfl,rfl,rfl⟩
   ·exact .inr (.inl ⟨rfl,hput,rfl⟩)
  ·refine .inr (.inr ⟨q,?_,?_⟩)
   ·rw [O6 (show ([L6 ((bN n r.2.1 + u:Nat):Int) lp,Eo]:List Dl).length≤m from q)]
    show opS (opS (D,[],()) (L6 _ lp)) Eo=_
    rw [hput,hsync]
   ·rw [O6 (show ([L6 ((bN n r.2.1 + u:Nat):Int) lp,Eo]:List Dl).length≤m from q)]
    rfl
 have sset:Sec n (D.set (bN n r.2.1 + u) lp):=by
  refine ⟨by rw [List.length_set]; exact h.c.len,fun i hi=>?_⟩
  by_cases q:bN n r.2.1 + u=i
  ·rw [← q,Ku (by rw [h.c.len]; omega)]; exact h64
  ·rw [getD_set_ne q]; exact h.c.sz i hi
 have rset:Aw (D.set (bN n r.2.1 + u) lp,[],()) w=r:=by
  rw [Arn hvd0 (sset.ok h.c.n8 h.c.n2) h.c.hw (getD_set_ne (by omega)) (getD_set_ne (by omega))]
  exact h.c.root
 have vd1:Ar (D,[(((bN n r.2.1 + u:Nat):Int),lp,())],())=true:=y8 h.c.n8 h.c.n2 h.c.sec (by show 1≤300; omega) fun v hv=>by
  rw [List.mem_singleton.1 hv]
  exact ⟨by show (0:Int)≤((bN n r.2.1 + u:Nat):Int); omega,by show ((bN n r.2.1 + u:Nat):Int) < (n:Int); omega,h64⟩
 unfold Ff
 cases hfull:Tt (Ob w D [] false b8 past W) (1,b,cut,f,()) (0,(w,(n:Int),l + 1,r,(u:Int) + 1,0,s,()),[L6 ((bN n r.2.1 + u:Nat):Int) lp,Eo],()) with
 | true=>
  refine .inl ⟨?_,rfl⟩
  by_cases hc:cut < 0
  ·left
   unfold Tt K9 Gp y7 at hfull
   have e1:d5 (1,b,cut,f,()) (0,(w,(n:Int),l + 1,r,(u:Int) + 1,0,s,()),[L6 ((bN n r.2.1 + u:Nat):Int) lp,Eo],())=false:=by
    unfold d5
    show (decide (0≤cut)&&_)=false
    rw [Bd (by omega)]
    rfl
   rw [e1] at hfull
   simp only [cond_false,En,Bool.or_eq_true,decide_eq_true_eq] at hfull
   rcases hfull with q | q
   ·have q:(W++[lp]).length > 2000:=q
    rw [Ef,Et] at q
    omega
   ·have q:past.length > 200:=q
    omega
  ·exact .inr hc
 | false=>
  refine .inr ?_
  unfold Tt K9 Gp at hfull
  simp only [Bool.or_eq_false_iff,decide_eq_false_iff_not] at hfull
  obtain ⟨g1,_⟩:=hfull
  unfold K9 Gp
  unfold y7 at g1 ⊢
  cases hcut:d5 (1,b,cut,f,()) (0,(w,(n:Int),l + 1,r,(u:Int) + 1,0,s,()),[L6 ((bN n r.2.1 + u:Nat):Int) lp,Eo],()) with
  | true=>
   rw [hcut] at g1
   obtain ⟨c0,_⟩:=B6 (show (decide (0≤cut)&&_)=true from hcut)
   have c0:0≤cut:=Io c0
   have ec:((cut.toNat:Nat):Int)=cut:=by omega
   simp only [cond_true,cond_false] at g1 ⊢
   refine .inl ⟨by omega,?_⟩
   have g1:¬ (W++Ep (([L6 ((bN n r.2.1 + u:Nat):Int) lp,Eo]:List Dl).take cut.toNat)).length > 2000:=g1
   rcases perf cut.toNat with ⟨q,q2,q3⟩ | ⟨q,q2,q3⟩ | ⟨q,q2,q3⟩
   ·rw [q3]
    rw [ec] at q2
    rw [q2,S0 hvd0,A1a,List.append_nil]
    exact h.same hB
   ·rw [q3] at g1 ⊢
    rw [ec] at q2
    rw [q2,S0 vd1]
    obtain ⟨k1,k2⟩:=Aa2 h.c.n8 h.c.n2 h.c.hw h.c.sec h.c.root vd1 f fun v hv=>by rw [List.mem_singleton.1 hv]; show 2≤(((bN n r.2.1 + u:Nat):Int)).toNat; omega
    exact lost _ k1 k2 (fun i hi=>Wd (fun v hv=>by rw [List.mem_singleton.1 hv]; show (((bN n r.2.1 + u:Nat):Int)).toNat≠i; omega) D) (by omega)
   ·rw [q3] at g1 ⊢
    rw [ec] at q2
    rw [q2,S0 (sset.ok h.c.n8 h.c.n2),A1a]
    exact lost _ sset rset (fun i hi=>getD_set_ne (fun q=>hi q.symm)) (by omega)
  | false=>
   rw [hcut] at g1
   simp only [cond_true,cond_false,En] at g1 ⊢
   rcases perf 2 with ⟨q,_⟩ | ⟨q,_⟩ | ⟨q,q2,q3⟩
   ·omega
   ·omega
   ·have e2:(([L6 ((bN n r.2.1 + u:Nat):Int) lp,Eo]:List Dl).length)=2:=rfl
    rw [e2,q3] at g1
    rw [e2,q2,q3]
    have g1:¬ (W++[lp]).length > 2000:=g1
    have es':(u:Int) + 1=((u + 1:Nat):Int):=by omega
    rw [es']
    refine .inr ⟨rfl,?_⟩
    have hb':=basX (by omega) [s] (Adt h.f.pre.valid) ⟨Nat.le_refl 1,by show 1≤200; omega⟩
    have pre':Pre w n (D.set (bN n r.2.1 + u) lp) r (u + 1) (l + 1) s:=Pre.life (h.f.pre.congr fun i hi=>getD_set_ne (by omega)) hu (by omega) hlp (by rw [Ku (by rw [h.c.len]; omega),hlpe])
    refine Lg.up hb' h.c.n8 h.c.n2 h.c.hw sset (sset.ok h.c.n8 h.c.n2) (Anq h.c.n8 h.c.n2 h.c.hw ⟨by omega,by omega⟩ h.c.rok ⟨by omega,by omega⟩ ⟨Int.le_refl 0,by omega⟩ h.f.pre.valid (h.c.rm s h.f.mem)) fun nf=>?_
    have hall:∀ x∈W++[lp],∀ p,Av x w=(p,true)→p.1≠4→p.2.1=l + 1→p.2.2.1≤r.2.2.1 + (u:Int):=fun x hx p hp h4 hl'=>by
     rcases List.mem_append.1 hx with q | q
     ·rcases h.lt x q p hp h4 hl' with z | ⟨z1,z2⟩ | ⟨z1,z2⟩<;>omega
     ·rw [hrp x q p hp]; exact Int.le_refl _
    have hlv:Nq w (W++[lp]) (l + 1):=h.lv.app fun x hx p hp=>by rw [hrp x hx p hp]; exact Int.le_refl _
    have c:=Bhl (past:=[s]) h.c.n8 h.c.n2 h.c.hw sset nf rset h.c.fb pre' (List.mem_singleton.2 rfl) (Adt (h.c.rm s h.f.mem)) fun x hx p hp h4 hin=>by
     have h1:=hlv x hx p hp
     have h2:=hin.1
     by_cases q:p.2.1=l + 1
     ·have:=hall x hx p hp h4 q; omega
     ·omega
    exact ⟨r,u + 1,l + 1,s,[],s,c,hb',by omega,by omega,rfl,rfl,rfl,⟨[],rfl⟩,hlv,fun x hx p hp h4 hl'=>by have:=hall x hx p hp h4 hl'; omega⟩
end
section
variable {B:Nat} {w:Int} {n:Nat} {D D' W X:List Aa} {P ws:List Wr} {past past':List B5} {r r':Rt} {u0 u:Nat} {L l:Int} {s0 st s:B5} {E F es:List Aa} {sto:E5}
theorem We.open_far (h:We B w n D W past r u0 L s0 E es u l s) (hB:B + 1≤9000) (hu:u=hN n) (b:List Be) (cut:Int) (f:List Int):
  ((2000 < W.length + hN n + 1∨¬ cut < 0)∧Ff (Ob w D [] false b8 past W) (1,b,cut,f,()) (0,(w,(n:Int),l + 1,L2 n r (l + 1),((Iy w n r (l + 1) s).length:Int),0,s,()),S1 w n r (l + 1) s,())=Ob w D [] false b8 past W)∨
  (¬ cut < 0∧Lg (B + 1) w n (Ff (Ob w D [] false b8 past W) (1,b,cut,f,()) (0,(w,(n:Int),l + 1,L2 n r (l + 1),((Iy w n r (l + 1) s).length:Int),0,s,()),S1 w n r (l + 1) s,())))∨
  (Ff (Ob w D [] false b8 past W) (1,b,cut,f,()) (0,(w,(n:Int),l + 1,L2 n r (l + 1),((Iy w n r (l + 1) s).length:Int),0,s,()),S1 w n r (l + 1) s,())=Ob w ((J4.lay D [] w n r (l + 1) s).set (j9 r) (Cb (L2 n r (l + 1)) w)) [] true (w,(n:Int),l + 1,L2 n r (l + 1),((Iy w n r (l + 1) s).length:Int),0,s,()) [s] (W++(Iy w n r (l + 1) s++[Cb (L2 n r (l + 1)) w]))∧
   Lg (B + 1) w n (Ob w ((J4.lay D [] w n r (l + 1) s).set (j9 r) (Cb (L2 n r (l + 1)) w)) [] true (w,(n:Int),l + 1,L2 n r (l + 1),((Iy w n r (l + 1) s).length:Int),0,s,()) [s] (W++(Iy w n r (l + 1) s++[Cb (L2 n r (l + 1)) w])))):=by
 have m:=h.mv
 have hl:=h.lB
 have hbin:=Bfv h.c.n8 h.c.n2 h.c.rok.2.1
 have hoth:=A9j h.c.n8 h.c.n2 h.c.rok.2.1
 have hbb:=m.bb
 have hml:=m.ml
 have hrk:=m.rk
 have hh:=Oq h.c.n8 h.c.n2
 have hlv:Nq w W (l + 1):=h.lv
 have wc:WC w n W r (l + 1) s:=fun x hx p hp h4 hl'=>by
  rcases h.lt x hx p hp h4 hl' with z | ⟨z1,_⟩ | ⟨_,z2⟩
  ·omega
  ·omega
  ·exact (m.mpage x z2 p hp).2.2.2
 have far:∀ x∈Iy w n r (l + 1) s++[Cb (L2 n r (l + 1)) w],∀ p,Av x w=(p,true)→p.1≠4→¬ InR w n r u0 p:=fun x hx p hp h4 hin=>by
  rcases List.mem_append.1 hx with q | q
  ·have:=(m.mpage x q p hp).2.2.1
   have:=hin.2
   omega
  ·rw [List.mem_singleton.1 q] at hp
   obtain ⟨p',p1,p2,_⟩:=m.rpage
   rw [p1] at hp
   have:p'=p:=congrArg Prod.fst hp
   subst this
   exact h4 p2
 have mem:∀ x∈Iy w n r (l + 1) s++[Cb (L2 n r (l + 1)) w],∀ p,Av x w=(p,true)→p.1≠4→p.2.1=l + 1→u=hN n∧x∈mvP w (l + 1) (r.2.2.1 + (hN n:Int)) s:=fun x hx p hp h4 _=>by
  rcases List.mem_append.1 hx with q | q
  ·exact ⟨hu,q⟩
  ·rw [List.mem_singleton.1 q] at hp
   obtain ⟨p',p1,p2,_⟩:=m.rpage
   rw [p1] at hp
   have:p'=p:=congrArg Prod.fst hp
   subst this
   exact absurd p2 h4
 have basX:∀ k:Nat,(W++(Iy w n r (l + 1) s).take k).length≤2000→Bas (B + 1) w n (W++(Iy w n r (l + 1) s).take k) past r:=fun k hk=>
  h.b.more hB (by rw [List.length_take]; omega) hk (fun x hx=>m.m64 x (List.mem_of_mem_take hx)) (fun x hx p hp=>by have:=(m.mpage x (List.mem_of_mem_take hx) p hp).2.1; omega) h.b.pv h.b.pl (h.b.g.more fun x hx p hp=>(m.mpage x (List.mem_of_mem_take hx) p hp).1) (by omega) (by omega)
 have lout:∀ i,i < hN n→(J4.lay D [] w n r (l + 1) s).getD (bN n r.2.1 + i) z0=D.getD (bN n r.2.1 + i) z0:=fun i hi=>m.lout i hi
 rcases Bfz (past:=past) (sto:=b8) (up:=false) m (show ((1:Int)==2)=false by decide) b cut f h.b.pl.2 with q | ⟨k,hc,hk,e⟩ | ⟨hc,hk,e⟩ | ⟨hc,hk,e⟩ | ⟨hc,hk,e⟩ | ⟨hk,e⟩
 ·exact .inl q
 ·refine .inr (.inl ⟨hc,?_⟩)
  rw [e]
  have pos:∀ v∈([]:List Wr)++Tm ((bN n (1 - r.2.1):Nat):Int) ((Iy w n r (l + 1) s).take k),2≤v.1.toNat∧(v.1.toNat < bN n r.2.1∨bN n r.2.1 + hN n≤v.1.toNat)∧0≤v.1∧v.1 < (n:Int)∧v.2.1.size=64:=fun v hv=>by
   rw [List.nil_append] at hv
   have g:=Ag6 hv
   have:((Iy w n r (l + 1) s).take k).length≤(Iy w n r (l + 1) s).length:=by rw [List.length_take]; omega
   exact ⟨by omega,by omega,by omega,by omega,Bv4 (fun x hx=>m.m64 x (List.mem_of_mem_take hx)) hv⟩
  have vd:Ar (D,([]:List Wr)++Tm ((bN n (1 - r.2.1):Nat):Int) ((Iy w n r (l + 1) s).take k),())=true:=y8 h.c.n8 h.c.n2 h.c.sec (by rw [List.nil_append,Ag5,List.length_take]; omega) fun v hv=>(pos v hv).2.2
  obtain ⟨k1,k2⟩:=Aa2 h.c.n8 h.c.n2 h.c.hw h.c.sec h.c.root vd f fun v hv=>(pos v hv).1
  refine Lg.dn (basX k hk) h.c.n8 h.c.n2 h.c.hw k1 fun nf=>?_
  exact h.again k1 nf k2 (fun i hi=>Wd (fun v hv=>by have:=(pos v hv).2.1; omega) D) (fun x hx p hp h4=>far x (List.mem_append_left _ (List.mem_of_mem_take hx)) p hp h4) (basX k hk) (Nat.le_succ B) (fun x hx p hp=>by have:=(m.mpage x (List.mem_of_mem_take hx) p hp).2.1; omega) (fun x hx p hp h4 hl'=>mem x (List.mem_append_left _ (List.mem_of_mem_take hx)) p hp h4 hl')
 ·refine .inr (.inl ⟨hc,?_⟩)
  rw [e]
  have hb:=basX (Iy w n r (l + 1) s).length (by rw [O6 (Nat.le_refl _)]; exact hk)
  rw [O6 (Nat.le_refl _)] at hb
  exact Lg.dn hb h.c.n8 h.c.n2 h.c.hw m.lsec fun nf=>h.again m.lsec nf m.lroot lout (fun x hx p hp h4=>far x (List.mem_append_left _ hx) p hp h4) hb (Nat.le_succ B) (fun x hx p hp=>by have:=(m.mpage x hx p hp).2.1; omega) (fun x hx p hp h4 hl'=>mem x (List.mem_append_left _ hx) p hp h4 hl')
 ·refine .inr (.inl ⟨hc,?_⟩)
  rw [e]
  have vd:Ar (J4.lay D [] w n r (l + 1) s,[(((j9 r:Nat):Int),Cb (L2 n r (l + 1)) w,())],())=true:=y8 h.c.n8 h.c.n2 m.lsec (by show 1≤300; omega) fun v hv=>by
   rw [List.mem_singleton.1 hv]
   exact ⟨by show (0:Int)≤((j9 r:Nat):Int); omega,by show ((j9 r:Nat):Int) < (n:Int); omega,m.r64⟩
  have k1:=A9n m.lsec.len vd f
  have hD:∀ i,i≠j9 r→(Tr f (J4.lay D [] w n r (l + 1) s) [(((j9 r:Nat):Int),Cb (L2 n r (l + 1)) w,())]).getD i z0=(J4.lay D [] w n r (l + 1) s).getD i z0:=fun i hi=>Wd (fun v hv=>by rw [List.mem_singleton.1 hv]; show (((j9 r:Nat):Int)).toNat≠i; omega) _
  obtain ⟨hb,hb'⟩:=A09 m h.b hB (by omega) hk h.b.pv h.b.pl
  refine Lg.dn hb h.c.n8 h.c.n2 h.c.hw k1 fun nf=>?_
  rcases A9o m k1 nf hb.g (hlv.app (Anr m)) hD with rt | ⟨l',_,hl',rt⟩
  ·exact h.again k1 nf rt (fun i hi=>by rw [hD _ (by omega)]; exact lout i hi) far hb (Nat.le_succ B) (Anr m) mem
  ·exact Bhm m h.b hB (by omega) hk wc hlv h.f.mem h.c.rm hl' k1 nf rt hD
 ·refine .inr (.inl ⟨hc,?_⟩)
  rw [e]
  obtain ⟨k1,k2⟩:=Arp m
  obtain ⟨hb,hb'⟩:=A09 m h.b hB (by omega) hk h.b.pv h.b.pl
  exact Lg.dn hb h.c.n8 h.c.n2 h.c.hw k1 fun nf=>Bhm m h.b hB (by omega) hk wc hlv h.f.mem h.c.rm (Int.le_refl (l + 1)) k1 nf k2 fun i hi=>getD_set_ne (fun q=>hi q.symm)
 ·exact .inr (.inr ⟨e,Bw2 m h.b hB (by omega) hk wc hlv⟩)
theorem A9q (a:Int):(a==1)=true∧a=1∨(a==1)=false∧((a==2)=true∧a=2∨(a==2)=false∧((a==3)=true∧a=3∨(a==3)=false∧((a==4)=true∧a=4∨(a==4)=false))):=by
 by_cases h1:a=1
 ·exact .inl ⟨beq_iff_eq.2 h1,h1⟩
 ·refine .inr ⟨beq_eq_false_iff_ne.2 h1,?_⟩
  by_cases h2:a=2
  ·exact .inl ⟨beq_iff_eq.2 h2,h2⟩
  ·refine .inr ⟨beq_eq_false_iff_ne.2 h2,?_⟩
   by_cases h3:a=3
   ·exact .inl ⟨beq_iff_eq.2 h3,h3⟩
   ·refine .inr ⟨beq_eq_false_iff_ne.2 h3,?_⟩
    by_cases h4:a=4
    ·exact .inl ⟨beq_iff_eq.2 h4,h4⟩
    ·exact .inr (beq_eq_false_iff_ne.2 h4)
theorem O5.step (h:O5 B w n D P sto past W r u0 L s0 E st) (hB:B + 1≤9000) (e:Qw):Lg (B + 1) w n (doS (Ob w D P true sto past W) e):=by
 obtain ⟨k,b,cut,f,⟨⟩⟩:=e
 by_cases h5:k=5
 ·subst h5
  exact (h.power f).mono hB
 ·rcases A9q k with ⟨q,rfl⟩ | ⟨q1,⟨q,rfl⟩ | ⟨q2,⟨q,rfl⟩ | ⟨q3,⟨q,rfl⟩ | q4⟩⟩⟩
  ·have e1:doS (Ob w D P true sto past W) (1,b,cut,f,())=Ob w D P true sto past W:=rfl
   rw [e1]; exact h.same hB
  ·exact h.commit hB b cut f
  ·exact h.flush hB b cut f
  ·exact h.compact hB b cut f
  ·have e1:doS (Ob w D P true sto past W) (k,b,cut,f,())=Ob w D P true sto past W:=by
    unfold doS Jq
    show (bif k==5 then _ else bif !((bif k==1 then _ else bif k==2 then _ else bif k==3 then _ else bif k==4 then _ else (Ada 0,false)):R0×Bool).2 || _ then _ else _)=_
    rw [beq_eq_false_iff_ne.2 h5,q1,q2,q3,q4]
    rfl
   rw [e1]; exact h.same hB
theorem We.step (h:We B w n D W past r u0 L s0 E es u l s) (hB:B + 1≤9000) (e:Qw):Lg (B + 1) w n (doS (Ob w D [] false b8 past W) e):=by
 obtain ⟨k,b,cut,f,⟨⟩⟩:=e
 by_cases h5:k=5
 ·subst h5
  exact h.power hB f
 ·rcases A9q k with ⟨q,rfl⟩ | ⟨q1,⟨q,rfl⟩ | ⟨q2,⟨q,rfl⟩ | ⟨q3,⟨q,rfl⟩ | q4⟩⟩⟩
  ·have e1:doS (Ob w D [] false b8 past W) (1,b,cut,f,())=bif (Oo (D,[],()) w).1 != 0 then Ob w D [] false b8 past W else Ff (Ob w D [] false b8 past W) (1,b,cut,f,()) (Oo (D,[],()) w):=rfl
   rw [e1]
   rcases h.open_is with ⟨hu,e2⟩ | ⟨hu,e2⟩
   ·rw [e2]
    show Lg (B + 1) w n (Ff _ _ _)
    rcases h.open_near hB hu b cut f with ⟨_,e3⟩ | ⟨_,e3⟩ | ⟨e3,e4⟩
    ·rw [e3]; exact h.same hB
    ·exact e3
    ·rw [e3]; exact e4
   ·rw [e2]
    show Lg (B + 1) w n (Ff _ _ _)
    rcases h.open_far hB hu b cut f with ⟨_,e3⟩ | ⟨_,e3⟩ | ⟨e3,e4⟩
    ·rw [e3]; exact h.same hB
    ·exact e3
    ·rw [e3]; exact e4
  all_goals
   have e1:∀ k':Int,k'≠5→(k'==1)=false→doS (Ob w D [] false b8 past W) (k',b,cut,f,())=Ob w D [] false b8 past W:=fun k' h5 q1=>by
    unfold doS Jq
    show (bif k'==5 then _ else bif !((bif k'==1 then _ else bif k'==2 then (_,false) else bif k'==3 then (_,false) else bif k'==4 then (_,false) else (Ada 0,false)):R0×Bool).2 || _ then _ else _)=_
    rw [beq_eq_false_iff_ne.2 h5,q1]
    cases (k'==2)<;>cases (k'==3)<;>cases (k'==4)<;>rfl
   rw [e1 _ h5 (by first | decide | assumption)]
   exact h.same hB
theorem We.open_up (h:We B w n D W past r u0 L s0 E es u l s) (hB:B + 1≤9000) (hW:W.length + hN n + 1≤2000) (b:List Be) (f:List Int):
  ∃ D' P' sto W',doS (Ob w D [] false b8 past W) (1,b,-1,f,())=Ob w D' P' true sto [s] W'∧sto.2.2.2.2.2.2.1=s:=by
 have e1:doS (Ob w D [] false b8 past W) (1,b,-1,f,())=bif (Oo (D,[],()) w).1 != 0 then Ob w D [] false b8 past W else Ff (Ob w D [] false b8 past W) (1,b,-1,f,()) (Oo (D,[],()) w):=rfl
 rw [e1]
 rcases h.open_is with ⟨hu,e2⟩ | ⟨hu,e2⟩
 ·rw [e2]
  rcases h.open_near hB hu b (-1) f with ⟨q,_⟩ | ⟨q,_⟩ | ⟨e3,_⟩
  ·omega
  ·omega
  ·exact ⟨_,_,_,_,e3,rfl⟩
 ·rw [e2]
  rcases h.open_far hB hu b (-1) f with ⟨q,_⟩ | ⟨q,_⟩ | ⟨e3,_⟩
  ·omega
  ·omega
  ·exact ⟨_,_,_,_,e3,rfl⟩
theorem We.found (h:We B w n D W past r u0 L s0 E es u l s):L7 (Ob w D [] false b8 past W)=(s,0)∧s∈past:=by
 refine ⟨?_,h.f.mem⟩
 unfold L7
 rw [h.valid]
 show ((Oo (D,[],()) w).2.1.2.2.2.2.2.2.1,(Oo (D,[],()) w).1)=_
 rcases h.open_is with ⟨_,e⟩ | ⟨_,e⟩<;>rw [e]
end
section
variable {B:Nat} {w:Int} {n:Nat} {D D' W X:List Aa} {P ws:List Wr} {past past':List B5} {r r':Rt} {u0 u:Nat} {L l:Int} {s0 st s:B5} {E F es:List Aa} {sto:E5}
theorem O5.found (h:O5 B w n D P sto past W r u0 L s0 E st):∃ s∈past,L7 (Ob w D P true sto past W)=(s,0):=by
 obtain ⟨r',u',L',s',E',es,u,l,s,d⟩:=DnP.of h.c h.b h.lb h.lv
 obtain ⟨q1,q2⟩:=d.found
 refine ⟨s,q2,?_⟩
 unfold L7 at q1 ⊢
 rw [h.valid]
 rw [d.valid] at q1
 exact q1
def Fb (B:Nat) (w:Int) (n:Nat) (x:Bg):Prop:=(∃ D past W,x=Ob w D [] false b8 past W∧DnP B w n D W past)∨(∃ D P sto past W,x=Ob w D P true sto past W∧UpP B w n D P sto past W)
theorem Fb.valid {x:Bg} (h:Fb B w n x):Bf x=true:=by
 rcases h with ⟨D,past,W,rfl,r,u0,L,s0,E,es,u,l,s,h⟩ | ⟨D,P,sto,past,W,rfl,r,u0,L,s0,E,st,h⟩
 ·exact h.valid
 ·exact h.valid
theorem Fb.step {x:Bg} (h:Fb B w n x) (hB:B + 1≤9000) (e:Qw):Bf (doS x e)=true∧(M2 (doS x e)=z0→Fb (B + 1) w n (doS x e)):=by
 rcases h with ⟨D,past,W,rfl,r,u0,L,s0,E,es,u,l,s,h⟩ | ⟨D,P,sto,past,W,rfl,r,u0,L,s0,E,st,h⟩
 ·exact h.step hB e
 ·exact h.step hB e
theorem Fb.found {x:Bg} (h:Fb B w n x):∃ s∈x.2.2.2.2.1,L7 x=(s,0):=by
 rcases h with ⟨D,past,W,rfl,r,u0,L,s0,E,es,u,l,s,h⟩ | ⟨D,P,sto,past,W,rfl,r,u0,L,s0,E,st,h⟩
 ·exact ⟨s,h.found.2,h.found.1⟩
 ·exact h.found
theorem Fb.last {x:Bg} (h:Fb B w n x) (hu:x.2.2.1=true):∃ pre,x.2.2.2.2.1=pre++[x.2.2.2.1.2.2.2.2.2.2.1]:=by
 rcases h with ⟨D,past,W,rfl,r,u0,L,s0,E,es,u,l,s,h⟩ | ⟨D,P,sto,past,W,rfl,r,u0,L,s0,E,st,h⟩
 ·cases hu
 ·have hs:=h.s
  subst hs
  exact h.la
theorem Fb.past1 {x:Bg} (h:Fb B w n x):1≤x.2.2.2.2.1.length∧x.2.2.2.2.1.length≤200:=by
 rcases h with ⟨D,past,W,rfl,r,u0,L,s0,E,es,u,l,s,h⟩ | ⟨D,P,sto,past,W,rfl,r,u0,L,s0,E,st,h⟩
 ·exact h.b.pl
 ·exact h.b.pl
theorem Fb.opened {x:Bg} (h:Fb B w n x) (hd:x.2.2.1=false) (hB:B + 1≤9000) (hn:(B + 1) * (hN n + 1)≤2000) (f:List Int):(doS x (1,[],-1,f,())).2.2.1=true∧(doS x (1,[],-1,f,())).2.2.2.1.2.2.2.2.2.2.1∈x.2.2.2.2.1:=by
 rcases h with ⟨D,past,W,rfl,r,u0,L,s0,E,es,u,l,s,h⟩ | ⟨D,P,sto,past,W,rfl,r,u0,L,s0,E,st,h⟩
 ·have:=h.b.wl
  rw [Nat.add_mul,Nat.one_mul] at hn
  obtain ⟨D',P',sto',W',e,hs⟩:=h.open_up hB (by omega) [] f
  rw [e]
  exact ⟨rfl,by show sto'.2.2.2.2.2.2.1∈past; rw [hs]; exact h.f.mem⟩
 ·cases hd
theorem Bre (x:Bg) (b:List Be) (c:Int) (f:List Int):(doS x (5,b,c,f,())).2.2.1=false∧(doS x (5,b,c,f,())).2.2.2.2.1=x.2.2.2.2.1:=⟨rfl,rfl⟩
theorem Brf (a:Nat) (h8:8≤a) (h2:a≤200) (hw:Bw w 1 8=true):Fb 0 w a (w,Ot (a:Int),false,b8,[([],())],[],()):=by
 have hd:Ot (a:Int)=(List.replicate a zS,[],()):=by
  unfold Ot
  rw [Ag7 (by omega) (by omega)]
  rfl
 rw [hd]
 have hz:∀ i,i < a→(List.replicate a zS).getD i z0=zS:=fun i hi=>by simp [List.getD,hi]
 have hs:Sec a (List.replicate a zS):=⟨by simp,fun i hi=>by rw [hz i hi]; decide +kernel⟩
 have hc:∀ k,Qz zS w k=none:=fun k=>by
  unfold Qz
  rw [A00 hw]
  rfl
 have rt:Aw (List.replicate a zS,[],()) w=rt0:=by
  rw [Anp (hs.ok h8 h2) hw,hz 0 (by omega),hz 1 (by omega),hc,hc]
  rfl
 have rm:D4 Ut w≤(hN a:Int) - 1:=by
  have:=Oq h8 h2
  have e:D4 Ut w=0:=by
   unfold D4
   rw [hw]
   rfl
  omega
 have nf:NoF w a (List.replicate a zS) []:=fun i hi hr=>by rw [hz i hi,A00 hw] at hr; cases hr
 have c:=Bhl (past:=[Ut]) (W:=[]) h8 h2 hw hs nf rt (by decide) (Pre.zero (w:=w) (n:=a) (D:=List.replicate a zS) (r:=rt0)) (List.mem_singleton.2 rfl) (Adt rm) (fun x hx=>by cases hx)
 have b:Bas 0 w a [] [Ut] rt0:={
  b:=by decide
  wl:=Nat.zero_le _
  wk:=Nat.zero_le _
  w64:=fun x hx=>by cases hx
  wb:=fun x hx=>by cases hx
  pv:=Adt (by decide +kernel)
  pl:=⟨Nat.le_refl 1,by show 1≤200; omega⟩
  g:=fun x hx=>by cases hx
  tb:=Int.le_refl 0
  fb:=by decide }
 exact .inl ⟨_,_,_,rfl,DnP.of c b (Int.le_refl 0) fun x hx=>by cases hx⟩
theorem Brg (s:B5):Akp s s=true:=by
 unfold Akp
 have:∀ l:List A1,eqL (fun x y:A1=>eqB Ax x y) l l=true:=fun l=>by
  induction l with
  | nil=>rfl
  | cons x l ih=>
   simp only [eqL]
   rw [ih,Bool.and_true]
   simp [eqB,eqS]
 exact this s.1
theorem Fb.right {x:Bg} (h:Fb B w n x):A9c x=true:=by
 obtain ⟨s,h1,h2⟩:=h.found
 unfold A9c
 rw [h2]
 show (x.2.2.2.2.1.any fun p=>Akp p s)=true
 exact List.any_eq_true.2 ⟨s,h1,Brg s⟩
theorem Fb.len {x:Bg} (h:Fb B w n x):x.2.1.1.length=n:=by
 rcases h with ⟨D,past,W,rfl,r,u0,L,s0,E,es,u,l,s,h⟩ | ⟨D,P,sto,past,W,rfl,r,u0,L,s0,E,st,h⟩
 ·exact h.c.len
 ·exact h.c.len
theorem Bhn {x:Bg} (hv:Bf x=true) (h:M2 x≠z0):(Av (M2 x) x.1).2=true:=by
 unfold M2 at h ⊢
 rw [hv] at h ⊢
 simp only [cond_true] at h ⊢
 have key:∀ l:List Aa,M6 (fun y=>(Av y x.1).2&&!inL x.2.2.2.2.2.1 y) (fun y=>y) z0 l≠z0→(Av (M6 (fun y=>(Av y x.1).2&&!inL x.2.2.2.2.2.1 y) (fun y=>y) z0 l) x.1).2=true:=by
  intro l
  induction l with
  | nil=>intro h; exact absurd rfl h
  | cons y l ih=>
   intro h
   simp only [M6] at h ⊢
   cases hc:(Av y x.1).2&&!inL x.2.2.2.2.2.1 y with
   | true=>exact (B6 hc).1
   | false=>rw [hc] at h; exact ih h
 exact key _ h
end
end Go.Proofs.YtfkefgbihlfjmaaGreat.V
namespace Go.Proofs
open Go.Shelf
def Tryz.laysGg6_ren:Go.Shelf.Ren:=⟨fun | 6=>177 | 10=>217 | 11=>218 | 12=>219 | 13=>220 | 14=>221 | 24=>240 | 25=>241 | 26=>242 | 27=>243 | 28=>244 | 29=>245 | 30=>246 | 31=>247 | 32=>248 | 33=>249 | 34=>255 | 35=>256 | 36=>257 | 37=>258 | 38=>259 | 39=>261 | n=>n,fun | 20=>20 | 26=>199 | 35=>237 | 0=>0 | 37=>239 | 3=>3 | 41=>223 | 44=>245 | 49=>260 | 51=>226 | 4=>4 | 54=>264 | 53=>263 | 58=>268 | 5=>5 | 9=>9 | 60=>275 | 64=>279 | 66=>282 | 67=>283 | 17=>17 | 32=>234 | 33=>235 | 82=>296 | 12=>12 | 75=>290 | 76=>291 | 77=>292 | 78=>252 | 79=>293 | 80=>294 | n=>n,fun | n=>n⟩
theorem Tryz.laysGg6:Go.Proofs.LaysGg.n6 Tryz.prog Tryz.laysGg6_ren:={
 mixed:=by kernel_rfl
 f6:=Tryz.func177.trans (congrArg some (by kernel_rfl))
 f10:=Tryz.func217.trans (congrArg some (by kernel_rfl))
 f11:=Tryz.func218.trans (congrArg some (by kernel_rfl))
 f12:=Tryz.func219.trans (congrArg some (by kernel_rfl))
 f13:=Tryz.func220.trans (congrArg some (by kernel_rfl))
 f14:=Tryz.func221.trans (congrArg some (by kernel_rfl))
 f24:=Tryz.func240.trans (congrArg some (by kernel_rfl))
 f25:=Tryz.func241.trans (congrArg some (by kernel_rfl))
 f26:=Tryz.func242.trans (congrArg some (by kernel_rfl))
 f27:=Tryz.func243.trans (congrArg some (by kernel_rfl))
 f28:=Tryz.func244.trans (congrArg some (by kernel_rfl))
 f29:=Tryz.func245.trans (congrArg some (by kernel_rfl))
 f30:=Tryz.func246.trans (congrArg some (by kernel_rfl))
 f31:=Tryz.func247.trans (congrArg some (by kernel_rfl))
 f32:=Tryz.func248.trans (congrArg some (by kernel_rfl))
 f33:=Tryz.func249.trans (congrArg some (by kernel_rfl))
 f34:=Tryz.func255.trans (congrArg some (by kernel_rfl))
 f35:=Tryz.func256.trans (congrArg some (by kernel_rfl))
 f36:=Tryz.func257.trans (congrArg some (by kernel_rfl))
 f37:=Tryz.func258.trans (congrArg some (by kernel_rfl))
 f38:=Tryz.func259.trans (congrArg some (by kernel_rfl))
 f39:=Tryz.func261.trans (congrArg some (by kernel_rfl))
 t0:=Tryz.underlying0
 a0:=Tryz.isAgg0
 z0:=Tryz.sizeOf0
 v0:=Tryz.zeroValue0
 i0:=by kernel_rfl
 t3:=Tryz.underlying3
 a3:=Tryz.isAgg3
 z3:=Tryz.sizeOf3
 v3:=Tryz.zeroValue3
 i3:=by kernel_rfl
 t4:=Tryz.underlying4
 a4:=Tryz.isAgg4
 z4:=Tryz.sizeOf4
 v4:=Tryz.zeroValue4
 i4:=by kernel_rfl
 t5:=Tryz.underlying5
 a5:=Tryz.isAgg5
 z5:=Tryz.sizeOf5
 v5:=Tryz.zeroValue5
 i5:=by kernel_rfl
 t9:=Tryz.underlying9
 a9:=Tryz.isAgg9
 z9:=Tryz.sizeOf9
 v9:=Tryz.zeroValue9
 i9:=by kernel_rfl
 t12:=Tryz.underlying12
 a12:=Tryz.isAgg12
 z12:=Tryz.sizeOf12
 v12:=Tryz.zeroValue12
 i12:=by kernel_rfl
 t17:=Tryz.underlying17
 a17:=Tryz.isAgg17
 z17:=Tryz.sizeOf17
 v17:=Tryz.zeroValue17
 i17:=by kernel_rfl
 t20:=Tryz.underlying20
 a20:=Tryz.isAgg20
 z20:=Tryz.sizeOf20
 v20:=Tryz.zeroValue20
 i20:=by kernel_rfl
 t26:=Tryz.underlying199
 a26:=Tryz.isAgg199
 z26:=Tryz.sizeOf199
 v26:=Tryz.zeroValue199
 i26:=by kernel_rfl
 t32:=Tryz.underlying234
 a32:=Tryz.isAgg234
 z32:=Tryz.sizeOf234
 v32:=Tryz.zeroValue234
 i32:=by kernel_rfl
 t33:=Tryz.underlying235
 a33:=Tryz.isAgg235
 z33:=Tryz.sizeOf235
 v33:=Tryz.zeroValue235
 i33:=by kernel_rfl
 t35:=Tryz.underlying237
 a35:=Tryz.isAgg237
 z35:=Tryz.sizeOf237
 v35:=Tryz.zeroValue237
 i35:=by kernel_rfl
 t37:=Tryz.underlying239
 a37:=Tryz.isAgg239
 z37:=Tryz.sizeOf239
 v37:=Tryz.zeroValue239
 i37:=by kernel_rfl
 t41:=Tryz.underlying223
 a41:=Tryz.isAgg223
 z41:=Tryz.sizeOf223
 v41:=Tryz.zeroValue223
 i41:=by kernel_rfl
 t44:=Tryz.underlying245
 a44:=Tryz.isAgg245
 z44:=Tryz.sizeOf245
 v44:=Tryz.zeroValue245
 i44:=by kernel_rfl
 t49:=Tryz.underlying260
 a49:=Tryz.isAgg260
 z49:=Tryz.sizeOf260
 v49:=Tryz.zeroValue260
 i49:=by kernel_rfl
 t51:=Tryz.underlying226
 a51:=Tryz.isAgg226
 z51:=Tryz.sizeOf226
 v51:=Tryz.zeroValue226
 i51:=by kernel_rfl
 t53:=Tryz.underlying263
 a53:=Tryz.isAgg263
 z53:=Tryz.sizeOf263
 v53:=Tryz.zeroValue263
 i53:=by kernel_rfl
 t54:=Tryz.underlying264
 a54:=Tryz.isAgg264
 z54:=Tryz.sizeOf264
 v54:=Tryz.zeroValue264
 i54:=by kernel_rfl
 t58:=Tryz.underlying268
 a58:=Tryz.isAgg268
 z58:=Tryz.sizeOf268
 v58:=Tryz.zeroValue268
 i58:=by kernel_rfl
 t60:=Tryz.underlying275
 a60:=Tryz.isAgg275
 z60:=Tryz.sizeOf275
 v60:=Tryz.zeroValue275
 i60:=by kernel_rfl
 t64:=Tryz.underlying279
 a64:=Tryz.isAgg279
 z64:=Tryz.sizeOf279
 v64:=Tryz.zeroValue279
 i64:=by kernel_rfl
 t66:=Tryz.underlying282
 a66:=Tryz.isAgg282
 z66:=Tryz.sizeOf282
 v66:=Tryz.zeroValue282
 i66:=by kernel_rfl
 t67:=Tryz.underlying283
 a67:=Tryz.isAgg283
 z67:=Tryz.sizeOf283
 v67:=Tryz.zeroValue283
 i67:=by kernel_rfl
 t75:=Tryz.underlying290
 a75:=Tryz.isAgg290
 z75:=Tryz.sizeOf290
 v75:=Tryz.zeroValue290
 i75:=by kernel_rfl
 t76:=Tryz.underlying291
 a76:=Tryz.isAgg291
 z76:=Tryz.sizeOf291
 v76:=Tryz.zeroValue291
 i76:=by kernel_rfl
 t77:=Tryz.underlying292
 a77:=Tryz.isAgg292
 z77:=Tryz.sizeOf292
 v77:=Tryz.zeroValue292
 i77:=by kernel_rfl
 t78:=Tryz.underlying252
 a78:=Tryz.isAgg252
 z78:=Tryz.sizeOf252
 v78:=Tryz.zeroValue252
 i78:=by kernel_rfl
 t79:=Tryz.underlying293
 a79:=Tryz.isAgg293
 z79:=Tryz.sizeOf293
 v79:=Tryz.zeroValue293
 i79:=by kernel_rfl
 t80:=Tryz.underlying294
 a80:=Tryz.isAgg294
 z80:=Tryz.sizeOf294
 v80:=Tryz.zeroValue294
 i80:=by kernel_rfl
 t82:=Tryz.underlying296
 a82:=Tryz.isAgg296
 z82:=Tryz.sizeOf296
 v82:=Tryz.zeroValue296
 i82:=by kernel_rfl }
namespace YtfkefgbihlfjmaaGreat.V
open Go Go.RowKit Go.Shelf Go.Lib Go.Sort Go.Proofs.YtfkefgbihlfjmaaGreat.R
set_option maxHeartbeats 2000000 in
theorem Brh:Btq Tryz.prog 178:=by
 intro blk off c bs size W G hs hc i j hi hj _hsz
 have ci:=hc i hi
 have cj:=hc j hj
 go_enter Tryz.func178,Tryz.ntmps178
 go_wp2
 go_quiet (fail)
 go_wp2
 go_ret
 exact ⟨rfl,nq,rfl⟩
def svT:TypeInfo:=(Tryz.prog.info? 29).get (by kernel_rfl)
def svE:TypeInfo:=(Tryz.prog.info? 157).get (by kernel_rfl)
theorem svK (n:Nat) (h2:2≤n):swapperK n svE 25=9:=by
 have a:svE.hasPointers=true:=by kernel_rfl
 have b:(svE.bytes==8)=false:=by kernel_rfl
 have c:(n==0)=false:=by simp; omega
 have d:(n==1)=false:=by simp; omega
 simp [swapperK,a,b,c,d]
end YtfkefgbihlfjmaaGreat.V
namespace YtfkefgbihlfjmaaGreat.R
open Go Go.RowKit Go.Shelf Go.Lib Go.Sort Go.Proofs.YtfkefgbihlfjmaaGreat.V
theorem Bri:Bgr Tryz.prog 177 178 31 29 157:=
 Bm7 (ρ:=Tryz.laysGg6_ren) Tryz.laysGg6 (i:=svT) (ie:=svE) (by kernel_rfl) (by kernel_rfl) (by kernel_rfl) (by kernel_rfl) 25 (fun _=>by kernel_rfl) (by kernel_rfl) (fun _=>by kernel_rfl)
  (enters_of Tryz.func178 (by kernel_rfl) rfl) 239 231 232 (fun n h2=>by rw [svK n h2]; kernel_rfl) (by kernel_rfl) (by kernel_rfl) false
  (fun args W=>run_callFunc_extern Tryz.func239 (by kernel_rfl) (by kernel_rfl) (by kernel_rfl) (e:=Extern.ReflectliteSwapper.swap false) (by kernel_rfl) args W) Brh
end YtfkefgbihlfjmaaGreat.R
end Go.Proofs
end
