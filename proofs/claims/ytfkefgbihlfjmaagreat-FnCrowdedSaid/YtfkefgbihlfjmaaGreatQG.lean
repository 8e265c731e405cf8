/- What is found on a disk that lost power. No condition. -/
import Derived.Test.YtfkefgbihlfjmaaGreatRCode
import Derived.Shelf.Lay
import Derived.Deep.QuietTactic
import Derived.Test.YtfkefgbihlfjmaaGreatProg
noncomputable section
set_option linter.unusedVariables false
set_option linter.unusedSimpArgs false
namespace Go.Proofs.YtfkefgbihlfjmaaGreat.V
open Go Go.Proofs.YtfkefgbihlfjmaaGreat.R
section
def hN (n:Nat):Nat:=(n - 2) / 2
def bN (n:Nat) (H:Int):Nat:=2 + H.toNat * hN n
theorem Q9 {n:Nat} (h8:8≤n) (h2:n≤200):Al (n:Int)=(hN n:Int):=by
 unfold Al hN
 have:Bq (n:Int) 8 200=true:=by unfold Bq; rw [Af (by omega),Af (by omega)]; rfl
 rw [this,cond_true]
 omega
theorem L9 {n:Nat} (h8:8≤n) (h2:n≤200):3≤hN n∧hN n≤99∧2 + 2 * hN n≤n:=by unfold hN; omega
theorem A1y {n:Nat} (h8:8≤n) (h2:n≤200) {H:Int} (hH:0≤H∧H≤1):Bk H (n:Int)=(bN n H:Int):=by
 unfold Bk bN
 rw [Q9 h8 h2]
 have:H=0∨H=1:=by omega
 rcases this with rfl | rfl
 ·simp
 ·simp
theorem A9o {n:Nat} (h8:8≤n) (h2:n≤200) {H:Int} (hH:0≤H∧H≤1):2≤bN n H∧bN n H + hN n≤n:=by
 have:=L9 h8 h2
 unfold bN
 have:H=0∨H=1:=by omega
 rcases this with rfl | rfl
 ·simp; omega
 ·simp; omega
theorem A37 {n:Nat} (h8:8≤n) (h2:n≤200) {H:Int} (hH:0≤H∧H≤1):bN n (1 - H) + hN n≤bN n H∨bN n H + hN n≤bN n (1 - H):=by
 have:=L9 h8 h2
 unfold bN
 have:H=0∨H=1:=by omega
 rcases this with rfl | rfl
 ·right; simp
 ·left; simp
def rg (D:List Aa) (b k m:Nat):List Aa:=(List.range' k m).map fun i=>D.getD (b + i) z0
theorem Ac0 (D:List Aa) (b k m:Nat):(rg D b k m).length=m:=by simp [rg]
theorem Ad7 (D:List Aa) (b k m m':Nat):rg D b k (m + m')=rg D b k m++rg D b (k + m) m':=by
 unfold rg
 rw [← List.map_append]
 congr 1
 rw [← List.range'_append]
 simp
theorem Bek {D D':List Aa} {b k m:Nat} (h:∀ i,k≤i→i < k + m→D.getD (b + i) z0=D'.getD (b + i) z0):rg D b k m=rg D' b k m:=by
 unfold rg
 refine List.map_congr_left fun i hi=>?_
 rw [List.mem_range'_1] at hi
 exact h i hi.1 hi.2
theorem Bi6 {D:List Aa} {b k m i:Nat} (h:i < m):(rg D b k m).getD i z0=D.getD (b + (k + i)) z0:=by
 unfold rg
 simp [List.getD,h]
theorem Bro {D:List Aa} {b k m:Nat} {x:Aa} (h:x∈rg D b k m):∃ i,k≤i∧i < k + m∧x=D.getD (b + i) z0:=by
 unfold rg at h
 obtain ⟨i,h1,h2⟩:=List.mem_map.1 h
 rw [List.mem_range'_1] at h1
 exact ⟨i,h1.1,h1.2,h2.symm⟩
theorem Brp {D:List Aa} {b k m:Nat} {A R:List Aa} (h:rg D b k m=A++R):A=rg D b k A.length∧A.length≤m:=by
 have hl:m=A.length + R.length:=by rw [← Dn,← h,Ac0]
 refine ⟨?_,by omega⟩
 rw [hl,Ad7] at h
 exact ((List.append_inj h (by rw [Ac0])).1).symm
theorem Bpp {D:List Aa} {b:Nat} {a:Int} (ha:a=(b:Int)) (k m:Nat):seen (D,[],()) a k m=rg D b k m:=by
 subst ha
 unfold seen rg
 refine List.map_congr_left fun i _=>?_
 show D.getD (((b:Int) + (i:Int)).toNat) z0=_
 rw [show ((b:Int) + (i:Int)).toNat=b + i by omega]
def sc0 (r:Rt):Wd:=(0,r.2.2.2.1,z0,[],0,r.2.2.2.1)
theorem Bpq (r:Rt):Clo 0 (sc0 r):=⟨by show (0:Int)≠1; decide,rfl,rfl,rfl⟩
theorem Agl:∀ {a b:List Aa} {s:Cv},E1 (a++b) s=(E1 a s).bind (E1 b)
 | [],b,s=>rfl
 | e::a,b,s=>by
  show (bif (Hg e).2 then (bif (Bx s (Hg e).1).2==0 then E1 (a++b) (Bx s (Hg e).1).1 else none) else none)=(bif (Hg e).2 then (bif (Bx s (Hg e).1).2==0 then E1 a (Bx s (Hg e).1).1 else none) else none).bind _
  cases (Hg e).2 with
  | false=>rfl
  | true=>
   cases (Bx s (Hg e).1).2==0 with
   | false=>rfl
   | true=>exact Agl
theorem Awf {w first i:Int} {s:Wd} {x:Aa} {p:Pg} (h:Bno w first i s x p):p.1≠4:=by
 rcases Bkx h.g with q | q | q<;>omega
theorem A9p {w first L:Int}:∀ (B:List Aa) (i:Int) (s:Wd),L < s.2.1→(∀ m,m < B.length→∀ p,Ay (B.getD m z0) w=(p,true)→p.1≠4→p.2.2.1=first + (i + (m:Int))→L < p.2.1→p.1=3)→
  (Cx w first B i s).1=s.2.2.2.1
 | [],_,_,_,_=>rfl
 | x::B,i,s,hs,hB=>by
  cases hx:Gk w first i s x with
  | false=>rw [Ang hx]; rfl
  | true=>
   have ho:=Anh hx
   have hl:=Awd ho.g
   have h3:(Ay x w).1.1=3:=hB 0 (by simp) _ ho.r (Awf ho) (by rw [ho.n]; simp) (by omega)
   rw [We hx,A9p B (i + 1) _ (by rw [Uc]; omega) fun m hm p hp h4 hn hl'=>hB (m + 1) (by simp only [List.length_cons]; omega) p hp h4 (by rw [hn]; omega) hl']
   unfold C6
   rw [h3]
   rfl
theorem Bkz {α:Type} {Q:List α} {j:Nat} {z:α} (h:j < Q.length):Q.take (j + 1)=Q.take j++[Q.getD j z]:=by
 rw [List.take_add_one]
 simp [List.getD,h]
theorem Bi7 {w first L:Int} {Q:List Aa} {es:List Aa} {E:List Aa} {u:Nat} {s0:Wd}
  (hq:∀ j,j≤Q.length→∃ st n,n≤E.length∧Iy w first (Q.take j) u s0=some st∧st.2.1=L∧st.2.2.2.1=es++E.take n):
  ∀ (B:List Aa) (j:Nat) (s:Wd),j≤Q.length→Iy w first (Q.take j) u s0=some s→
   (∀ m,m < B.length→∀ p,Ay (B.getD m z0) w=(p,true)→p.1≠4→p.2.2.1=first + ((u + (j + m):Nat):Int)→L≤p.2.1→(p.2.1=L→j + m < Q.length∧B.getD m z0=Q.getD (j + m) z0)∧(L < p.2.1→p.1=3))→
   ∃ n,n≤E.length∧(Cx w first B ((u + j:Nat):Int) s).1=es++E.take n
 | [],j,s,hj,hr,_=>by
  obtain ⟨st,n,h1,h2,_,h4⟩:=hq j hj
  rw [hr] at h2
  cases h2
  exact ⟨n,h1,h4⟩
 | x::B,j,s,hj,hr,hB=>by
  obtain ⟨st,n,h1,h2,h3,h4⟩:=hq j hj
  rw [hr] at h2
  cases h2
  cases hx:Gk w first ((u + j:Nat):Int) s x with
  | false=>exact ⟨n,h1,by rw [Ang hx]; exact h4⟩
  | true=>
   have ho:=Anh hx
   have hl:=Awd ho.g
   rw [h3] at hl
   obtain ⟨k1,k2⟩:=hB 0 (by simp) _ ho.r (Awf ho) (by rw [ho.n]; rfl) hl
   rw [We hx]
   by_cases q:(Ay x w).1.2.1=L
   ·obtain ⟨q1,q2⟩:=k1 q
    have q1:j < Q.length:=q1
    have q2:x=Q.getD j z0:=q2
    have hr':Iy w first (Q.take (j + 1)) u s0=some (C6 ((u + j:Nat):Int) (Ay x w).1 s):=by
     rw [Bkz (z:=z0) q1,Agk,hr,Option.bind_some,List.length_take,Nat.min_eq_left (by omega),← q2]
     rw [show ((u:Int) + (j:Int))=((u + j:Nat):Int) by omega,Ry hx]
     rfl
    obtain ⟨n',m1,m2⟩:=Bi7 hq B (j + 1) _ q1 hr' fun m hm p hp h4 hn hl'=>by
     obtain ⟨z1,z2⟩:=hB (m + 1) (by simp only [List.length_cons]; omega) p hp h4 (by rw [hn]; congr 2; omega) hl'
     refine ⟨fun z=>?_,z2⟩
     obtain ⟨y1,y2⟩:=z1 z
     exact ⟨by omega,by rw [show j + 1 + m=j + (m + 1) by omega]; exact y2⟩
    refine ⟨n',m1,?_⟩
    rw [show ((u + j:Nat):Int) + 1=((u + (j + 1):Nat):Int) by omega]
    exact m2
   ·have hk:=k2 (by omega)
    refine ⟨n,h1,?_⟩
    rw [A9p (L:=L) B _ _ (by rw [Uc]; omega) fun m hm p hp h4 hn hl'=>(hB (m + 1) (by simp only [List.length_cons]; omega) p hp h4 (by rw [hn]; omega) (by omega)).2 hl']
    unfold C6
    rw [hk]
    exact h4
theorem Bel {w first:Int}:∀ {A:List Aa} {i:Int} {s t:Wd},Iy w first A i s=some t→t.2.1=s.2.1∨∃ x∈A,∃ p,Ay x w=(p,true)∧p.1≠4∧p.2.1=t.2.1
 | [],i,s,t,h=>by cases h; exact .inl rfl
 | x::A,i,s,t,h=>by
  cases hx:Gk w first i s x with
  | false=>
   have:Iy w first (x::A) i s=none:=by show (bif Gk w first i s x then _ else _)=_; rw [hx]; rfl
   rw [this] at h; cases h
  | true=>
   rw [Ry hx] at h
   have ho:=Anh hx
   rcases Bel h with q | ⟨y,hy,p,q⟩
   ·exact .inr ⟨x,List.mem_cons_self,_,ho.r,Awf ho,by rw [q,Uc]⟩
   ·exact .inr ⟨y,List.mem_cons_of_mem _ hy,p,q⟩
structure Pre (w:Int) (n:Nat) (D:List Aa) (r:Rt) (u:Nat) (L:Int) (s:Cv):Prop where
 hu:u≤hN n
 run:∃ t,Iy w r.2.2.1 (rg D (bN n r.2.1) 0 u) 0 (sc0 r)=some t∧Clo u t∧t.2.1=L∧E1 t.2.2.2.1 Ye=some s
theorem Pre.congr {w:Int} {n:Nat} {D D':List Aa} {r:Rt} {u:Nat} {L:Int} {s:Cv} (h:Pre w n D r u L s) (hd:∀ i,i < u→D'.getD (bN n r.2.1 + i) z0=D.getD (bN n r.2.1 + i) z0):Pre w n D' r u L s:=by
 obtain ⟨h1,t,h2⟩:=h
 refine ⟨h1,t,?_⟩
 rw [Bek (D:=D') (D':=D) fun i _ hi=>hd i (by omega)]
 exact h2
theorem Pre.valid {w:Int} {n:Nat} {D:List Aa} {r:Rt} {u:Nat} {L:Int} {s:Cv} (h:Pre w n D r u L s):Ak s=true:=by
 obtain ⟨_,t,_,_,_,h⟩:=h
 exact Q8 (by decide) h
structure Ac1 (w:Int) (n:Nat) (D W:List Aa) (past:List Cv) (r:Rt) (u0:Nat) (L:Int) (s0:Cv) (E:List Aa):Prop where
 n8:8≤n
 n2:n≤200
 hw:Bq w 1 8=true
 len:D.length=n
 sz:∀ i,i < n→(D.getD i z0).size=64
 nf:∀ i,i < n→(Ay (D.getD i z0) w).2=true→D.getD i z0∈W
 root:At (D,[],()) w=r
 fb:r.2.2.1 + 200≤999999000
 pre:Pre w n D r u0 L s0
 st:∀ j,j≤E.length→∃ s∈past,E1 (E.take j) s0=some s
 rm:∀ s∈past,C5 s w≤(hN n:Int) - 1
 lb:E≠[]→Bq L 1 60000=true
 qh:u0 + (qP L w (r.2.2.1 + u0) E).length≤hN n
 q:∀ x∈W,∀ p,Ay x w=(p,true)→p.1≠4→p.2.1=L→r.2.2.1 + (u0:Int)≤p.2.2.1→p.2.2.1 < r.2.2.1 + (hN n:Int)→∃ j,j < (qP L w (r.2.2.1 + u0) E).length∧p.2.2.1=r.2.2.1 + ((u0 + j:Nat):Int)∧x=(qP L w (r.2.2.1 + u0) E).getD j z0
 e:∀ x∈W,∀ p,Ay x w=(p,true)→p.1≠4→L < p.2.1→r.2.2.1 + (u0:Int)≤p.2.2.1→p.2.2.1 < r.2.2.1 + (hN n:Int)→p.1=3
theorem Bi8 {n:Nat} {D:List Aa} (n8:8≤n) (n2:n≤200) (len:D.length=n) (sz:∀ i,i < n→(D.getD i z0).size=64):If (D,[],()) where
 n8:=by show 8≤D.length; omega
 n200:=by show D.length≤200; omega
 p300:=Nat.zero_le _
 sec:=fun i hi=>sz i (by rw [← len]; exact hi)
 pen:=fun i hi=>by cases hi
variable {w:Int} {n:Nat} {D W:List Aa} {past:List Cv} {r:Rt} {u0:Nat} {L:Int} {s0:Cv} {E:List Aa}
theorem Ac1.ok (c:Ac1 w n D W past r u0 L s0 E):Ap (D,[],())=true:=(Bi8 c.n8 c.n2 c.len c.sz).valid
theorem Ac1.rok (c:Ac1 w n D W past r u0 L s0 E):Ba4 r:=by
 rw [← c.root]
 exact To c.ok c.hw
theorem As1 (n8:8≤n) (n2:n≤200) (hw:Bq w 1 8=true) (len:D.length=n) (ok:Ap (D,[],())=true) (root:At (D,[],()) w=r):
  Fs (D,[],()) w=Cx w r.2.2.1 (rg D (bN n r.2.1) 0 (hN n)) 0 (sc0 r):=by
 have hr:Ba4 r:=by rw [← root]; exact To ok hw
 have hb:=A9o n8 n2 hr.2.1
 unfold Fs
 rw [root]
 unfold Ua
 have e1:((D,([]:List Wr),()).1.length:Int)=(n:Int):=by show (D.length:Int)=_; rw [len]
 rw [ok,hw,e1,A1y n8 n2 hr.2.1,Q9 n8 n2,Af (by omega),Af (by omega),Af (by omega),Af (by omega)]
 simp only [Bool.and_self,cond_true]
 rw [Bpp rfl]
 rfl
structure Bi9 (w:Int) (n:Nat) (D W:List Aa) (past:List Cv) (r:Rt) (u0:Nat) (L:Int) (es:List Aa) (u:Nat) (l:Int) (s:Cv):Prop where
 scan:Fs (D,[],()) w=(es,(u:Int),l,())
 op:E1 es Ye=some s
 mem:s∈past
 pre:Pre w n D r u l s
 hu:u0≤u
 hl:L≤l
 lf:l=L∨∃ x∈W,∃ p,Ay x w=(p,true)∧p.1≠4∧p.2.1=l
theorem Ac1.found (c:Ac1 w n D W past r u0 L s0 E):∃ es u l s,Bi9 w n D W past r u0 L es u l s:=by
 obtain ⟨hu,t,t1,t2,t3,t4⟩:=c.pre
 have hr:=c.rok
 have hb:=A9o c.n8 c.n2 hr.2.1
 have hh:=L9 c.n8 c.n2
 have hf:=c.fb
 have hreg:rg D (bN n r.2.1) 0 (hN n)=rg D (bN n r.2.1) 0 u0++rg D (bN n r.2.1) u0 (hN n - u0):=by
  rw [← Nat.zero_add u0,Nat.zero_add u0,show hN n=u0 + (hN n - u0) by omega,Ad7,show u0 + (hN n - u0) - u0=hN n - u0 by omega,Nat.zero_add]
 have hsc:=As1 c.n8 c.n2 c.hw c.len c.ok c.root
 rw [hreg,A36 t1,Ac0,show (0:Int) + (u0:Int)=(u0:Int) by omega] at hsc
 have hq:∀ j,j≤(qP L w (r.2.2.1 + u0) E).length→∃ st k,k≤E.length∧Iy w r.2.2.1 ((qP L w (r.2.2.1 + u0) E).take j) u0 t=some st∧st.2.1=L∧st.2.2.2.1=t.2.2.2.1++E.take k:=fun j hj=>by
  by_cases hE:E=[]
  ·subst hE
   exact ⟨t,0,Nat.le_refl 0,by simp [qP,Iy],t3,by simp⟩
  ·exact Bej c.hw (c.lb hE) E u0 t j t2 hj (by have:=hr.2.2.1.1; omega) (by have:=c.qh; omega) t3
 obtain ⟨k,hk,he⟩:=Bi7 hq (rg D (bN n r.2.1) u0 (hN n - u0)) 0 t (Nat.zero_le _) (by simp [Iy]) fun m hm p hp h4 hn hl'=>by
  rw [Ac0] at hm
  rw [Bi6 hm] at hp ⊢
  have hi:bN n r.2.1 + (u0 + m) < n:=by omega
  have hW:=c.nf _ hi (by rw [hp])
  rw [Nat.zero_add] at hn ⊢
  refine ⟨fun z=>?_,fun z=>c.e _ hW p hp h4 z (by omega) (by omega)⟩
  obtain ⟨j,j1,j2,j3⟩:=c.q _ hW p hp h4 z (by omega) (by omega)
  have:j=m:=by omega
  subst this
  exact ⟨j1,j3⟩
 rw [show ((u0 + 0:Nat):Int)=(u0:Int) by omega,← hsc] at he
 obtain ⟨s,hs1,hs2⟩:=c.st k hk
 have hop:E1 (Fs (D,[],()) w).1 Ye=some s:=by rw [he,Agl,t4]; exact hs2
 have key:∃ (A R:List Aa) (t':Wd),rg D (bN n r.2.1) u0 (hN n - u0)=A++R∧Iy w r.2.2.1 A u0 t=some t'∧Clo ((u0:Int) + A.length) t'∧Cx w r.2.2.1 (rg D (bN n r.2.1) u0 (hN n - u0)) u0 t=Sg t':=by
  rcases Aqn (w:=w) (first:=r.2.2.1) (rg D (bN n r.2.1) u0 (hN n - u0)) u0 t with ⟨A,R,t',q1,q2,q3,q4⟩ | q
  ·exact ⟨A,R,t',q1,q2,q3,q4⟩
  ·exact ⟨[],_,t,rfl,rfl,by simpa using t2,q⟩
 obtain ⟨A,R,t',q1,q2,q3,q4⟩:=key
 obtain ⟨p1,p2⟩:=Brp q1
 rw [q4] at hsc
 have hrun:Iy w r.2.2.1 (rg D (bN n r.2.1) 0 (u0 + A.length)) 0 (sc0 r)=some t':=by
  rw [Ad7,Agk,t1,Option.bind_some,Ac0,Nat.zero_add,← p1,show (0:Int) + (u0:Int)=(u0:Int) by omega]
  exact q2
 have hclo:Clo ((u0 + A.length:Nat):Int) t':=by rw [show ((u0 + A.length:Nat):Int)=(u0:Int) + A.length by omega]; exact q3
 have hes:(Fs (D,[],()) w).1=t'.2.2.2.1:=by rw [hsc]; rfl
 rw [hes] at hop
 refine ⟨t'.2.2.2.1,u0 + A.length,t'.2.1,s,?_,hop,hs1,⟨by omega,t',hrun,hclo,rfl,hop⟩,by omega,?_,?_⟩
 ·rw [hsc]
  show (t'.2.2.2.1,t'.2.2.2.2.1,t'.2.2.2.2.2,())=_
  rw [hclo.u,hclo.l]
 ·have:=Ad6 q2
  omega
 ·rcases Bel q2 with z | ⟨x,hx,p,hp,h4,hl'⟩
  ·exact .inl (by rw [z,t3])
  ·refine .inr ⟨x,?_,p,hp,h4,hl'⟩
   have hx':x∈rg D (bN n r.2.1) u0 (hN n - u0):=by rw [q1]; exact List.mem_append_left _ hx
   obtain ⟨i,i1,i2,rfl⟩:=Bro hx'
   exact c.nf _ (by omega) (by rw [hp])
end
def Rq:Int→List Aa→List Wr
 | _,[]=>[]
 | a,x::r=>(a,x,())::Rq (a + 1) r
theorem Ad8:∀ (L:List Aa) (a:Int),(Rq a L).length=L.length
 | [],_=>rfl
 | _::L,a=>by show (Rq (a + 1) L).length + 1=L.length + 1; rw [Ad8 L]
theorem Bem:∀ (L M:List Aa) (a:Int),Rq a (L++M)=Rq a L++Rq (a + L.length) M
 | [],M,a=>by show Rq a M=Rq (a + ((0:Nat):Int)) M; rw [show a + ((0:Nat):Int)=a by omega]
 | x::L,M,a=>by
  show (a,x,())::Rq (a + 1) (L++M)=(a,x,())::(Rq (a + 1) L++Rq (a + ((L.length + 1:Nat):Int)) M)
  rw [Bem L M,show a + 1 + (L.length:Int)=a + ((L.length + 1:Nat):Int) by omega]
theorem Ad9 {v:Wr}:∀ {L:List Aa} {a:Int},v∈Rq a L→a≤v.1∧v.1 < a + (L.length:Int)
 | [],_,h=>by cases h
 | x::L,a,h=>by
  rcases List.mem_cons.1 h with rfl | h
  ·exact ⟨Int.le_refl _,by simp only [List.length_cons]; omega⟩
  ·have:=Ad9 h
   simp only [List.length_cons]
   omega
theorem Agm:∀ (L:List Aa) (a:Int) (k:Nat),(C9 a L).take k=C9 a (L.take k)
 | [],_,k=>by simp [C9]
 | x::L,a,0=>rfl
 | x::L,a,k + 1=>by
  show Lb a x::(C9 (a + 1) L).take k=Lb a x::C9 (a + 1) (L.take k)
  rw [Agm L]
theorem d5:∀ (L:List Aa) (a:Int) (D:List Aa) (P:List Wr),(∀ x∈L,x.size=64)→0≤a→a + (L.length:Int)≤(D.length:Int)→P.length + L.length≤300→
  (C9 a L).foldl opS (D,P,())=(D,P++Rq a L,())
 | [],a,D,P,_,_,_,_=>by simp [C9,Rq]
 | x::L,a,D,P,hx,h0,h1,h2=>by
  simp only [List.length_cons] at h1 h2
  have e:opS (D,P,()) (Lb a x)=(D,P++[(a,x,())],()):=by
   unfold opS Lb Aiy
   simp only
   rw [Af h0,Af (show a < (D.length:Int) by omega),Af (hx x List.mem_cons_self),Af (show P.length < 300 by omega)]
   rfl
  show (C9 (a + 1) L).foldl opS (opS (D,P,()) (Lb a x))=_
  rw [e,d5 L (a + 1) D _ (fun y hy=>hx y (List.mem_cons_of_mem _ hy)) (by omega) (by omega) (by rw [Dn,En]; omega),List.append_assoc]
  rfl
def As2:List Aa→Nat→List Aa→List Aa
 | D,_,[]=>D
 | D,a,x::r=>As2 (D.set a x) (a + 1) r
theorem Ben:∀ (L D:List Aa) (a:Nat),(As2 D a L).length=D.length
 | [],_,_=>rfl
 | x::L,D,a=>by show (As2 (D.set a x) (a + 1) L).length=_; rw [Ben L,List.length_set]
theorem Ud:∀ (L D:List Aa) (a i:Nat),i < a∨a + L.length≤i→(As2 D a L).getD i z0=D.getD i z0
 | [],_,_,_,_=>rfl
 | x::L,D,a,i,h=>by
  simp only [List.length_cons] at h
  show (As2 (D.set a x) (a + 1) L).getD i z0=_
  rw [Ud L _ _ _ (by omega),getD_set_ne (by omega)]
theorem Bbb:∀ (L D:List Aa) (a i:Nat),i < L.length→a + L.length≤D.length→(As2 D a L).getD (a + i) z0=L.getD i z0
 | [],_,_,_,h,_=>by simp at h
 | x::L,D,a,0,_,h=>by
  simp only [List.length_cons] at h
  show (As2 (D.set a x) (a + 1) L).getD a z0=x
  rw [Ud L _ _ _ (by omega),J5 (by omega)]
 | x::L,D,a,i + 1,hi,h=>by
  simp only [List.length_cons] at h hi
  show (As2 (D.set a x) (a + 1) L).getD (a + (i + 1)) z0=L.getD i z0
  rw [show a + (i + 1)=a + 1 + i by omega,Bbb L _ _ _ (by omega) (by rw [List.length_set]; omega)]
theorem Aa6 {α σ:Type} (f:α→σ→σ):∀ (l:List α) (i j:Nat) (s:σ),Ds (fun _ x s=>f x s) i l s=Ds (fun _ x s=>f x s) j l s
 | [],_,_,_=>rfl
 | x::l,i,j,s=>Aa6 f l (i + 1) (j + 1) (f x s)
theorem A38:∀ (L D:List Aa) (a:Nat),Hb D (Rq (a:Int) L)=As2 D a L
 | [],_,_=>rfl
 | x::L,D,a=>by
  show Ds (fun _ (v:Wr) (s:List Aa)=>s.set v.1.toNat v.2.1) (0 + 1) (Rq ((a:Int) + 1) L) (D.set (a:Int).toNat x)=As2 (D.set a x) (a + 1) L
  rw [← A38 L,Fz,show ((a:Int) + 1)=((a + 1:Nat):Int) by omega]
  exact Aa6 _ _ _ _ _
theorem Bnp (D:List Aa) (P Q:List Wr):Hb D (P++Q)=Hb (Hb D P) Q:=by
 unfold Hb
 induction P generalizing D with
 | nil=>rfl
 | cons v P ih=>
  show Ds _ (0 + 1) (P++Q) (D.set v.1.toNat v.2.1)=Ds _ 0 Q (Ds _ (0 + 1) P (D.set v.1.toNat v.2.1))
  rw [Aa6 _ (P++Q) (0 + 1) 0,Aa6 _ P (0 + 1) 0]
  exact ih _
theorem Ue {f:List Int} {i:Nat} {ws:List Wr} (h:∀ v∈ws,v.1.toNat≠i) (D:List Aa):(Rx f D ws).getD i z0=D.getD i z0:=by
 unfold Rx
 generalize 0=k
 induction ws generalizing k D with
 | nil=>rfl
 | cons v ws ih=>
  show (Ds _ (k + 1) ws (D.set v.1.toNat _)).getD i z0=_
  rw [ih (fun u hu=>h u (List.mem_cons_of_mem _ hu)),getD_set_ne (h v List.mem_cons_self)]
def Pb (s:Aa) (w a:Int):Option Rt:=
 bif (Ay s w).2&&((Ay s w).1.1==4)&&decide ((Ay s w).1.2.2.2.1.size=5)&&((Ay s w).1.2.2.1 % 2==a)&&I6 (Fr (Ay s w).1) then some (Fr (Ay s w).1) else none
def Xq (c:Option Rt) (best:Rt):Rt:=match c with
 | some q=>bif decide (q.1 > best.1) then q else best
 | none=>best
theorem A9q (s:Aa) (w a:Int) (best:Rt):Hl s w a best=Xq (Pb s w a) best:=by
 unfold Hl Pb Xq
 cases (Ay s w).2&&((Ay s w).1.1==4)&&decide ((Ay s w).1.2.2.2.1.size=5)&&((Ay s w).1.2.2.1 % 2==a)&&I6 (Fr (Ay s w).1) with
 | false=>rfl
 | true=>
  simp only [Bool.true_and,cond_true]
  rfl
theorem Ani {s:Aa} {w a:Int} {q:Rt} (h:Pb s w a=some q):∃ p,Ay s w=(p,true)∧p.1=4∧q=Fr p∧q.1 % 2=a∧I6 q=true:=by
 unfold Pb at h
 cases hc:(Ay s w).2&&((Ay s w).1.1==4)&&decide ((Ay s w).1.2.2.2.1.size=5)&&((Ay s w).1.2.2.1 % 2==a)&&I6 (Fr (Ay s w).1) with
 | false=>rw [hc] at h; cases h
 | true=>
  rw [hc] at h
  simp only [Bool.and_eq_true] at hc
  obtain ⟨⟨⟨⟨h1,h2⟩,_⟩,h4⟩,h5⟩:=hc
  have h:Fr (Ay s w).1=q:=Option.some.inj h
  subst h
  exact ⟨(Ay s w).1,Prod.ext rfl h1,beq_iff_eq.1 h2,rfl,beq_iff_eq.1 h4,h5⟩
def rt0:Rt:=(0,0,1,0,())
theorem Aj3 {D:List Aa} {w:Int} (ok:Ap (D,[],())=true) (hw:Bq w 1 8=true):At (D,[],()) w=Xq (Pb (D.getD 1 z0) w 1) (Xq (Pb (D.getD 0 z0) w 0) rt0):=by
 unfold At
 rw [ok,hw,A9q,A9q]
 rfl
theorem Anj {D D':List Aa} {w:Int} (ok:Ap (D,[],())=true) (ok':Ap (D',[],())=true) (hw:Bq w 1 8=true) (h0:D'.getD 0 z0=D.getD 0 z0) (h1:D'.getD 1 z0=D.getD 1 z0):At (D',[],()) w=At (D,[],()) w:=by
 rw [Aj3 ok hw,Aj3 ok' hw,h0,h1]
theorem Qg {q best:Rt}:Xq (some q) best=bif decide (q.1 > best.1) then q else best:=rfl
theorem Bha {r:Rt} (hr:r.1 > 0) {c:Option Rt} (hc:∀ x,c=some x→x.1≠r.1):Xq (some r) (Xq c rt0)=Xq c r:=by
 cases c with
 | none=>
  show (bif decide (r.1 > 0) then r else rt0)=r
  rw [Af hr]; rfl
 | some x=>
  have:=hc x rfl
  rw [Qg,Qg,Qg]
  by_cases g:x.1 > r.1
  ·rw [Af g,Af (show x.1 > rt0.1 by show x.1 > 0; omega)]
   simp only [cond_true]
   rw [Bd (by omega)]
   rfl
  ·rw [Bd g]
   by_cases g2:x.1 > rt0.1
   ·rw [Af g2]
    simp only [cond_true,cond_false]
    rw [Af (show r.1 > x.1 by omega)]
    rfl
   ·rw [Bd g2]
    show (bif decide (r.1 > 0) then r else rt0)=r
    rw [Af hr]; rfl
theorem Beo {D D':List Aa} {w:Int} {r:Rt} {a:Nat} (ok:Ap (D,[],())=true) (ok':Ap (D',[],())=true) (hw:Bq w 1 8=true) (hr:At (D,[],()) w=r) (ha:(a:Int)=(r.1 + 1) % 2) (h:∀ i,i≠a→D'.getD i z0=D.getD i z0):
  At (D',[],()) w=Xq (Pb (D'.getD a z0) w a) r:=by
 have hrt:0≤r.1:=by rw [← hr]; exact (To ok hw).1.1
 rw [Aj3 ok hw] at hr
 rw [Aj3 ok' hw]
 have hc:a=0∨a=1:=by omega
 rcases hc with rfl | rfl
 ·
  rw [h 1 (by decide)]
  have hb:(Xq (Pb (D.getD 0 z0) w 0) rt0).1 % 2=0∧0≤(Xq (Pb (D.getD 0 z0) w 0) rt0).1:=by
   cases h0:Pb (D.getD 0 z0) w 0 with
   | none=>exact ⟨rfl,Int.le_refl 0⟩
   | some y=>
    obtain ⟨_,_,_,_,y2,_⟩:=Ani h0
    rw [Qg]
    by_cases g:y.1 > rt0.1
    ·rw [Af g]; exact ⟨y2,by show 0≤y.1; have:y.1 > 0:=g; omega⟩
    ·rw [Bd g]; exact ⟨rfl,Int.le_refl 0⟩
  have hq:Pb (D.getD 1 z0) w 1=some r∧r.1 > 0:=by
   cases h1:Pb (D.getD 1 z0) w 1 with
   | none=>
    rw [h1] at hr
    have hr:Xq (Pb (D.getD 0 z0) w 0) rt0=r:=hr
    rw [hr] at hb
    omega
   | some q=>
    rw [h1,Qg] at hr
    cases hq:decide (q.1 > (Xq (Pb (D.getD 0 z0) w 0) rt0).1) with
    | false=>
     rw [hq] at hr
     have hr:Xq (Pb (D.getD 0 z0) w 0) rt0=r:=hr
     rw [hr] at hb
     omega
    | true=>
     rw [hq] at hr
     have hr:q=r:=hr
     subst hr
     have:=G8 hq
     exact ⟨rfl,by omega⟩
  rw [hq.1]
  refine Bha hq.2 fun x hx=>?_
  obtain ⟨_,_,_,_,x2,_⟩:=Ani hx
  omega
 ·
  rw [h 0 (by decide)]
  cases h1:Pb (D.getD 1 z0) w 1 with
  | none=>
   rw [h1] at hr
   have hr:Xq (Pb (D.getD 0 z0) w 0) rt0=r:=hr
   rw [hr]
   rfl
  | some q=>
   rw [h1,Qg] at hr
   obtain ⟨_,_,_,_,q2,_⟩:=Ani h1
   cases hq:decide (q.1 > (Xq (Pb (D.getD 0 z0) w 0) rt0).1) with
   | true=>
    rw [hq] at hr
    have hr:q=r:=hr
    subst hr
    omega
   | false=>
    rw [hq] at hr
    have hr:Xq (Pb (D.getD 0 z0) w 0) rt0=r:=hr
    rw [hr]
    rfl
theorem Bk0 {r:Rt} {w:Int} (hr:Ba4 r) (ht:1≤r.1) (hl:1≤r.2.2.2.1) (hw:Bq w 1 8=true):
  ∃ p,Ay (B5 r w) w=(p,true)∧p.1=4∧Fr p=r∧p.2.1=r.2.2.2.1∧Pb (B5 r w) w (r.1 % 2)=some r:=by
 obtain ⟨t,H,f,l,⟨⟩⟩:=r
 obtain ⟨⟨h1,h2⟩,⟨h3,h4⟩,⟨h5,h6⟩,h7,h8⟩:=hr
 dsimp only at h1 h2 h3 h4 h5 h6 h7 h8 ht hl
 obtain ⟨w1,w2⟩:=Cw hw
 have hro:I6 (t,H,f,l,())=true:=by
  unfold I6 Bq
  dsimp only
  rw [Af h3,Af h4,Af h5,Af h6]
  rfl
 have hz:(Dm H 1++Dm f 4).size=5:=by rw [ByteArray.size_append,K9,K9]
 have hpk:Ee (4,l,t,Dm H 1++Dm f 4,()) w=true:=by
  unfold Ee Bq
  dsimp only
  rw [hz,Af w1,Af w2,Af hl,Af h8,Af ht,Af h2,Af (show ((5:Nat):Int)≤56 - w by omega)]
  rfl
 have hS:B5 (t,H,f,l,()) w=Ca (4,l,t,Dm H 1++Dm f 4,()) w:=by
  unfold B5
  rw [hro]
  rfl
 have hrd:Ay (B5 (t,H,f,l,()) w) w=((4,l,t,Dm H 1++Dm f 4,()),true):=by rw [hS]; exact In hpk
 have hbytes:Ae (Dm H 1++Dm f 4)=(H % 256)::Q6 f 4:=by rw [Nt,Mb,Mb]; rfl
 have hH:Aq (Dm H 1++Dm f 4) 0=H:=by
  have:=i7 (Dm H 1++Dm f 4) 0
  rw [hbytes] at this
  have e:Aq (Dm H 1++Dm f 4) ((0:Nat):Int)=H % 256:=this
  rw [show (0:Int)=((0:Nat):Int) from rfl,e]
  omega
 have hcut:Ag (Dm H 1++Dm f 4) 1 (nI (Dm H 1++Dm f 4).size)=Dm f 4:=Wc (by
  have:=Nu (Dm H 1++Dm f 4) 1 5
  rw [hz]
  show Ae (Ag (Dm H 1++Dm f 4) ((1:Nat):Int) ((5:Nat):Int))=_
  rw [this,hbytes,Mb]
  show (Q6 f 4).take 4=Q6 f 4
  exact List.take_of_length_le (by rw [Bkj]; omega))
 have hrt:Fr (4,l,t,Dm H 1++Dm f 4,())=(t,H,f,l,()):=by
  unfold Fr
  dsimp only
  rw [hH,hcut,A3j (show 0≤f by omega) (show f < 256 ^ 4 by omega)]
 refine ⟨_,hrd,rfl,hrt,rfl,?_⟩
 unfold Pb
 rw [hrd]
 dsimp only
 rw [hrt,hz,hro]
 simp
theorem Aa7 {v lo hi:Int} (h1:lo≤v) (h2:v≤hi):Bq v lo hi=true:=by unfold Bq; rw [Af h1,Af h2]; rfl
theorem Bpr:(z0.toList==([]:List UInt8))=true:=by decide +kernel
theorem Bbc {w l n:Int} (hw:Bq w 1 8=true) (h1:1≤l) (h2:l≤60000) (h3:1≤n) (h4:n≤1000000000):Ee (3,l,n,z0,()) w=true:=by
 obtain ⟨w1,w2⟩:=Cw hw
 unfold Ee
 simp only
 rw [hw,Aa7 h1 h2,Aa7 h3 h4,Bpr,Af (show ((z0.size:Nat):Int)≤56 - w by show ((0:Nat):Int)≤56 - w; omega),show Bq 3 1 4=true from rfl]
 rfl
theorem Bps {p:Pg} {w:Int} (h:Ee p w=true):(Ca p w).size=64:=Awa h
theorem Bhb {wk wl l n:Int} {x:Aa} (h1:wl≤l) (h2:wk≠1):Xp wk wl (3,l,n,x,())=true:=by
 unfold Xp
 simp only
 rw [Bd (show ¬ l < wl by omega)]
 exact bne_iff_ne.2 h2
theorem Pre.zero {w:Int} {n:Nat} {D:List Aa} {r:Rt}:Pre w n D r 0 r.2.2.2.1 Ye:=
 ⟨Nat.zero_le _,sc0 r,rfl,Bpq r,rfl,rfl⟩
theorem Pre.life {w:Int} {n:Nat} {D:List Aa} {r:Rt} {u:Nat} {L l:Int} {s:Cv} (h:Pre w n D r u L s) (hu:u < hN n) (hl:L≤l) (hp:Ee (3,l,r.2.2.1 + (u:Int),z0,()) w=true) (hD:D.getD (bN n r.2.1 + u) z0=Ca (3,l,r.2.2.1 + (u:Int),z0,()) w):
  Pre w n D r (u + 1) l s:=by
 obtain ⟨_,t,t1,t2,t3,t4⟩:=h
 have ho:Bno w r.2.2.1 ((u:Nat):Int) t (Ca (3,l,r.2.2.1 + (u:Int),z0,()) w) (3,l,r.2.2.1 + (u:Int),z0,()):=⟨In hp,rfl,Bhb (by omega) t2.k⟩
 refine ⟨hu,C6 u (3,l,r.2.2.1 + (u:Int),z0,()) t,?_,?_,rfl,t4⟩
 ·rw [Ad7,Agk,t1,Option.bind_some,Ac0]
  have e:rg D (bN n r.2.1) (0 + u) 1=[Ca (3,l,r.2.2.1 + (u:Int),z0,()) w]:=by
   unfold rg
   rw [Nat.zero_add,← hD]
   rfl
  rw [e,show (0:Int) + (u:Int)=(u:Int) by omega,Ry ho.ok,In hp]
  rfl
 ·have:=Beh (i:=(u:Int)) (s:=t) (p:=(3,l,r.2.2.1 + (u:Int),z0,())) (by show (3:Int)≠1; decide)
  rw [show ((u + 1:Nat):Int)=(u:Int) + 1 by omega]
  exact this
theorem Pre.ext {w:Int} {n:Nat} {D:List Aa} {r:Rt} {u:Nat} {L:Int} {s s':Cv} {E:List Aa} (h:Pre w n D r u L s) (hw:Bq w 1 8=true) (hL:E≠[]→Bq L 1 60000=true) (h1:1≤r.2.2.1) (h2:r.2.2.1≤999999000) (n8:8≤n) (n2:n≤200)
  (hl:u + (qP L w (r.2.2.1 + u) E).length≤hN n) (hD:∀ i,i < (qP L w (r.2.2.1 + u) E).length→D.getD (bN n r.2.1 + (u + i)) z0=(qP L w (r.2.2.1 + u) E).getD i z0) (hs:E1 E s=some s'):
  Pre w n D r (u + (qP L w (r.2.2.1 + u) E).length) L s':=by
 obtain ⟨_,t,t1,t2,t3,t4⟩:=h
 have hh:=L9 n8 n2
 by_cases hE:E=[]
 ·subst hE
  cases hs
  exact ⟨hl,t,t1,t2,t3,t4⟩
 ·obtain ⟨t',k1,k2,k3,k4⟩:=Bi5 (first:=r.2.2.1) hw (hL hE) E u t t2 (by omega) (by omega) t3
  refine ⟨hl,t',?_,?_,k3,?_⟩
  ·rw [Ad7,Agk,t1,Option.bind_some,Ac0,show (0:Int) + (u:Int)=(u:Int) by omega]
   have e:rg D (bN n r.2.1) (0 + u) (qP L w (r.2.2.1 + u) E).length=qP L w (r.2.2.1 + u) E:=by
    refine List.ext_getElem (by rw [Ac0]) fun i i1 i2=>?_
    have:=hD i i2
    have g:=Bi6 (D:=D) (b:=bN n r.2.1) (k:=0 + u) i2
    rw [Nat.zero_add,this] at g
    rw [List.getD_eq_getElem?_getD,List.getD_eq_getElem?_getD,List.getElem?_eq_getElem i2,List.getElem?_eq_getElem (by rw [Ac0]; exact i2)] at g
    simp only [Option.getD_some] at g
    rw [← g]
    simp only [Nat.zero_add]
   rw [e]
   exact k1
  ·rw [show ((u + (qP L w (r.2.2.1 + u) E).length:Nat):Int)=(u:Int) + ((qP L w (r.2.2.1 + u) E).length:Int) by omega]
   exact k2
  ·rw [k4,Agl,t4]
   exact hs
theorem Bnq {L w:Int} (hw:Bq w 1 8=true):∀ (E:List Aa) (k:Int),((qP L w k E).length:Int)=(E.map fun e=>E5 e.size w).sum
 | [],_=>rfl
 | e::E,k=>by
  rw [Aa5,List.map_cons,List.sum_cons,← Bnq (L:=L) hw E (k + (Ao e w).length)]
  have:=Adz e w
  rw [hw,cond_true] at this
  omega
def Aor (s:Cv):List Aa:=(Ed s).map Be
theorem Awg {s:Cv} {L w k:Int} (hw:Bq w 1 8=true):((qP L w k (Aor s)).length:Int)=C5 s w:=by
 rw [Bnq hw]
 unfold C5 Aor
 rw [hw,cond_true,List.map_map]
 rfl
theorem Bja {w life f:Int} (hw:Bq w 1 8=true) (hl:Bq life 1 60000=true) (h1:1≤f):∀ (bs:List (List Bc)) (i:Nat) (M:List Aa),f + (M.length:Int) + (qP life w (f + M.length) (bs.map Be)).length≤1000000001→
  Ds (fun _ b M=>Sq w life f b M) i bs M=M++qP life w (f + M.length) (bs.map Be)
 | [],_,M,_=>by simp [Ds,qP]
 | b::bs,i,M,h=>by
  have h:=h
  simp only [List.map_cons] at h ⊢
  rw [Aa5] at h
  have e:Sq w life f b M=M++Ig life w (f + M.length) (Ao (Be b) w):=by
   unfold Sq
   rw [Bg4 hw hl (by omega) (by omega)]
  have el:(M++Ig life w (f + M.length) (Ao (Be b) w)).length=M.length + (Ao (Be b) w).length:=by rw [Dn,(Qf _ _ _ _).1]
  show Ds _ (i + 1) bs (Sq w life f b M)=_
  rw [e,Bja hw hl h1 bs (i + 1) _ (by
   rw [el]
   have:=Bba life w (bs.map Be) (f + (M.length:Int) + (Ao (Be b) w).length) (f + ((M.length + (Ao (Be b) w).length:Nat):Int))
   omega),el,List.append_assoc,show f + ((M.length + (Ao (Be b) w).length:Nat):Int)=f + (M.length:Int) + ((Ao (Be b) w).length:Int) by omega]
  rfl
def mvP (w life f:Int) (s:Cv):List Aa:=Ca (3,life,f,z0,()) w::qP life w (f + 1) (Aor s)
theorem Bjb {w life f:Int} {s:Cv} (hw:Bq w 1 8=true):((mvP w life f s).length:Int)=1 + C5 s w:=by
 unfold mvP
 rw [List.length_cons,← Awg (L:=life) (k:=f + 1) hw]
 omega
theorem Brq {s:Ez} {life f:Int} (hf:f=s.2.2.2.1.2.2.1 + Al s.2.1) (hw:Bq s.1 1 8=true) (hl:Bq life 1 60000=true) (h1:1≤f) (h2:f≤999999000) (hr:C5 s.2.2.2.2.2.2.1 s.1≤200):mvL s life=mvP s.1 life f s.2.2.2.2.2.2.1:=by
 unfold mvL
 rw [← hf]
 have:=Awg (s:=s.2.2.2.2.2.2.1) (L:=life) (k:=f + 1) hw
 have e1:f + (([Ca (3,life,f,z0,()) s.1]:List Aa).length:Int)=f + 1:=rfl
 rw [Bja hw hl h1 _ _ _ (by
  rw [e1]
  show f + 1 + ((qP life s.1 (f + 1) (Aor s.2.2.2.2.2.2.1)).length:Int)≤_
  omega),e1]
 rfl
theorem A39:∀ {L:List (List Bc)} {l m:List A2},A9l L m→Ak (l++m,())=true→E1 (L.map Be) (l,())=some (l++m,())
 | [],l,m,h,_=>by
  have:m=[]:=by
   have:=congrArg List.length h.1
   simp only [List.flatten_nil,List.length_nil,List.length_map] at this
   exact List.length_eq_zero_iff.1 this.symm
  subst this
  simp [E1]
 | b::L,l,m,h,hv=>by
  obtain ⟨x,y,rfl,rfl,h1,h2,h3⟩:=h.cons
  have hv':Ak (l++x,())=true:=by rw [← List.append_assoc] at hv; exact A9k hv
  have hb:Az (x.map Z4)=true:=Aj2 (by simpa using h1) (by simpa using h2) fun c hc=>by
   obtain ⟨p,hp,rfl⟩:=List.mem_map.1 hc
   exact A9j (Ane hv' p (List.mem_append_right _ hp))
  obtain ⟨k1,k2⟩:=A9g (x.map Z4)
  rw [hb] at k1
  rw [List.map_cons]
  show (bif (Hg (Be (x.map Z4))).2 then (bif (Bx (l,()) (Hg (Be (x.map Z4))).1).2==0 then E1 (L.map Be) (Bx (l,()) (Hg (Be (x.map Z4))).1).1 else none) else none)=_
  rw [k1,k2 hb,Bg7 hv' h1 h2]
  show E1 (L.map Be) (l++x,())=_
  rw [A39 h3 (by rw [List.append_assoc]; exact hv),List.append_assoc]
theorem Bk1 {s:Cv} (h:Ak s=true):E1 (Aor s) Ye=some s:=by
 have:=A39 (l:=[]) (Bg8 h) h
 exact this
theorem Bhc {s:Cv} {b:List Bc} (hb:Az b=true) (h:(Bx s b).2=0):E1 [Be b] s=some (Bx s b).1:=by
 obtain ⟨k1,k2⟩:=A9g b
 show (bif (Hg (Be b)).2 then (bif (Bx s (Hg (Be b)).1).2==0 then some (Bx s (Hg (Be b)).1).1 else none) else none)=_
 rw [k1,k2 hb,hb,h]
 rfl
theorem Pre.moved {w:Int} {n:Nat} {D:List Aa} {r:Rt} {l:Int} {s:Cv} (hw:Bq w 1 8=true) (hl:Bq l 1 60000=true) (hr:r.2.2.2.1≤l) (h1:1≤r.2.2.1) (h2:r.2.2.1≤999999000) (n8:8≤n) (n2:n≤200) (hv:Ak s=true)
  (hm:(mvP w l r.2.2.1 s).length≤hN n) (hD:∀ i,i < (mvP w l r.2.2.1 s).length→D.getD (bN n r.2.1 + i) z0=(mvP w l r.2.2.1 s).getD i z0):Pre w n D r (mvP w l r.2.2.1 s).length l s:=by
 have hh:=L9 n8 n2
 obtain ⟨l1,l2⟩:=Cw hl
 have hlen:(mvP w l r.2.2.1 s).length=1 + (qP l w (r.2.2.1 + ((1:Nat):Int)) (Aor s)).length:=by
  show (qP l w (r.2.2.1 + 1) (Aor s)).length + 1=_
  rw [show ((1:Nat):Int)=1 from rfl]
  omega
 have h0:=hD 0 (by rw [hlen]; omega)
 have p0:Pre w n D r 0 r.2.2.2.1 Ye:=Pre.zero
 have hk:Ee (3,l,r.2.2.1 + ((0:Nat):Int),z0,()) w=true:=Bbc hw l1 l2 (by omega) (by omega)
 have p1:Pre w n D r 1 l Ye:=Pre.life p0 (by omega) hr hk (by
  rw [h0]
  show Ca (3,l,r.2.2.1,z0,()) w=_
  rw [show r.2.2.1 + ((0:Nat):Int)=r.2.2.1 by omega])
 have p2:=Pre.ext (E:=Aor s) p1 hw (fun _=>hl) h1 h2 n8 n2 (by omega) (fun i hi=>by
  have:=hD (i + 1) (by omega)
  rw [show 1 + i=i + 1 by omega,this]
  rfl) (Bk1 hv)
 rw [hlen]
 exact p2
section
variable {w:Int} {n:Nat} {D D' W X:List Aa} {past past':List Cv} {r r':Rt} {u0:Nat} {L:Int} {s0:Cv} {E F:List Aa}
structure Sec (n:Nat) (D:List Aa):Prop where
 len:D.length=n
 sz:∀ i,i < n→(D.getD i z0).size=64
def NoF (w:Int) (n:Nat) (D W:List Aa):Prop:=∀ i,i < n→(Ay (D.getD i z0) w).2=true→D.getD i z0∈W
theorem Ac1.sec (c:Ac1 w n D W past r u0 L s0 E):Sec n D:=⟨c.len,c.sz⟩
theorem Sec.ok (h:Sec n D) (n8:8≤n) (n2:n≤200):Ap (D,[],())=true:=(Bi8 n8 n2 h.len h.sz).valid
def InR (w:Int) (n:Nat) (r:Rt) (u0:Nat) (p:Pg):Prop:=r.2.2.1 + (u0:Int)≤p.2.2.1∧p.2.2.1 < r.2.2.1 + (hN n:Int)
theorem Brr (E F:List Aa) {j:Nat} (L w k:Int) (h:j < (qP L w k E).length):j < (qP L w k (E++F)).length∧(qP L w k (E++F)).getD j z0=(qP L w k E).getD j z0:=by
 rw [Bg9,Dn]
 refine ⟨by omega,?_⟩
 simp only [List.getD_eq_getElem?_getD]
 rw [List.getElem?_append_left h]
theorem Ac1.next (c:Ac1 w n D W past r u0 L s0 E) (hs:Sec n D') (nf:NoF w n D' (W++X)) (root:At (D',[],()) w=r) (hp:∀ i,i < u0→D'.getD (bN n r.2.1 + i) z0=D.getD (bN n r.2.1 + i) z0)
  (hpast:∀ s∈past,s∈past') (rm:∀ s∈past',C5 s w≤(hN n:Int) - 1) (st:∀ j,E.length < j→j≤(E++F).length→∃ s∈past',E1 ((E++F).take j) s0=some s) (lb:E++F≠[]→Bq L 1 60000=true)
  (qh:u0 + (qP L w (r.2.2.1 + u0) (E++F)).length≤hN n)
  (hX:∀ x∈X,∀ p,Ay x w=(p,true)→p.1≠4→InR w n r u0 p→(p.2.1=L→∃ j,j < (qP L w (r.2.2.1 + u0) (E++F)).length∧p.2.2.1=r.2.2.1 + ((u0 + j:Nat):Int)∧x=(qP L w (r.2.2.1 + u0) (E++F)).getD j z0)∧(L < p.2.1→p.1=3)):
  Ac1 w n D' (W++X) past' r u0 L s0 (E++F) where
 n8:=c.n8
 n2:=c.n2
 hw:=c.hw
 len:=hs.len
 sz:=hs.sz
 nf:=nf
 root:=root
 fb:=c.fb
 pre:=c.pre.congr hp
 st:=fun j hj=>by
  by_cases q:j≤E.length
  ·obtain ⟨s,h1,h2⟩:=c.st j q
   exact ⟨s,hpast s h1,by rw [List.take_append_of_le_length q]; exact h2⟩
  ·exact st j (by omega) hj
 rm:=rm
 lb:=lb
 qh:=qh
 q:=fun x hx p hp h4 hl h1 h2=>by
  rcases List.mem_append.1 hx with q | q
  ·obtain ⟨j,j1,j2,j3⟩:=c.q x q p hp h4 hl h1 h2
   obtain ⟨k1,k2⟩:=Brr E F L w (r.2.2.1 + u0) j1
   exact ⟨j,k1,j2,by rw [k2]; exact j3⟩
  ·exact (hX x q p hp h4 ⟨h1,h2⟩).1 hl
 e:=fun x hx p hp h4 hl h1 h2=>by
  rcases List.mem_append.1 hx with q | q
  ·exact c.e x q p hp h4 hl h1 h2
  ·exact (hX x q p hp h4 ⟨h1,h2⟩).2 hl
theorem Ac1.synced (c:Ac1 w n D W past r u0 L s0 E) {st:Cv} (hst:E1 E s0=some st) (hs:Sec n D') (nf:NoF w n D' (W++X)) (root:At (D',[],()) w=r) (hp:∀ i,i < u0→D'.getD (bN n r.2.1 + i) z0=D.getD (bN n r.2.1 + i) z0)
  (hq:∀ i,i < (qP L w (r.2.2.1 + u0) E).length→D'.getD (bN n r.2.1 + (u0 + i)) z0=(qP L w (r.2.2.1 + u0) E).getD i z0)
  (hpast:st∈past') (rm:∀ s∈past',C5 s w≤(hN n:Int) - 1)
  (hX:∀ x∈X,∀ p,Ay x w=(p,true)→p.1≠4→¬ InR w n r u0 p):
  Ac1 w n D' (W++X) past' r (u0 + (qP L w (r.2.2.1 + u0) E).length) L st [] where
 n8:=c.n8
 n2:=c.n2
 hw:=c.hw
 len:=hs.len
 sz:=hs.sz
 nf:=nf
 root:=root
 fb:=c.fb
 pre:=by
  have hr:=c.rok
  have hf:=c.fb
  exact (c.pre.congr hp).ext c.hw c.lb (by have:=hr.2.2.1.1; omega) (by omega) c.n8 c.n2 c.qh hq hst
 st:=fun j hj=>by
  have:j=0:=by simpa using hj
  subst this
  exact ⟨st,hpast,rfl⟩
 rm:=rm
 lb:=fun h=>absurd rfl h
 qh:=by
  have:=c.qh
  show u0 + (qP L w (r.2.2.1 + u0) E).length + 0≤hN n
  omega
 q:=fun x hx p hp h4 hl h1 h2=>by
  exfalso
  rcases List.mem_append.1 hx with q | q
  ·obtain ⟨j,j1,j2,j3⟩:=c.q x q p hp h4 hl (by omega) h2
   omega
  ·exact hX x q p hp h4 ⟨by omega,h2⟩
 e:=fun x hx p hp h4 hl h1 h2=>by
  rcases List.mem_append.1 hx with q | q
  ·exact c.e x q p hp h4 hl (by omega) h2
  ·exact absurd ⟨by omega,h2⟩ (hX x q p hp h4)
theorem Bbd (n8:8≤n) (n2:n≤200) (hw:Bq w 1 8=true) (hs:Sec n D) (nf:NoF w n D W) (root:At (D,[],()) w=r) (fb:r.2.2.1 + 200≤999999000) (pre:Pre w n D r u0 L s0)
  (hpast:s0∈past) (rm:∀ s∈past,C5 s w≤(hN n:Int) - 1)
  (hW:∀ x∈W,∀ p,Ay x w=(p,true)→p.1≠4→InR w n r u0 p→p.2.1 < L):Ac1 w n D W past r u0 L s0 [] where
 n8:=n8
 n2:=n2
 hw:=hw
 len:=hs.len
 sz:=hs.sz
 nf:=nf
 root:=root
 fb:=fb
 pre:=pre
 st:=fun j hj=>by
  have:j=0:=by simpa using hj
  subst this
  exact ⟨s0,hpast,rfl⟩
 rm:=rm
 lb:=fun h=>absurd rfl h
 qh:=by
  have:=pre.hu
  show u0 + 0≤hN n
  omega
 q:=fun x hx p hp h4 hl h1 h2=>by
  have:=hW x hx p hp h4 ⟨h1,h2⟩
  omega
 e:=fun x hx p hp h4 hl h1 h2=>by
  have:=hW x hx p hp h4 ⟨h1,h2⟩
  omega
theorem Pre.ge {s:Cv} {u u':Nat} {l l':Int} {es:List Aa} (h:Pre w n D r u l s) (n8:8≤n) (n2:n≤200) (hw:Bq w 1 8=true) (hs:Sec n D) (root:At (D,[],()) w=r) (hsc:Fs (D,[],()) w=(es,(u':Int),l',())):u≤u'∧l≤l':=by
 obtain ⟨hu,t,t1,t2,t3,t4⟩:=h
 have h1:=As1 n8 n2 hw hs.len (hs.ok n8 n2) root
 have hreg:rg D (bN n r.2.1) 0 (hN n)=rg D (bN n r.2.1) 0 u++rg D (bN n r.2.1) (0 + u) (hN n - u):=by
  rw [← Ad7,show u + (hN n - u)=hN n by omega]
 rw [hreg,A36 t1,Ac0,show (0:Int) + (u:Int)=(u:Int) by omega,hsc] at h1
 rcases Aqn (w:=w) (first:=r.2.2.1) (rg D (bN n r.2.1) (0 + u) (hN n - u)) u t with ⟨A,R,t',q1,q2,q3,q4⟩ | q
 ·rw [q4] at h1
  have e1:(u':Int)=t'.2.2.2.2.1:=congrArg (fun z:Scd=>z.2.1) h1
  have e2:l'=t'.2.2.2.2.2:=congrArg (fun z:Scd=>z.2.2.1) h1
  rw [q3.u] at e1
  rw [q3.l] at e2
  have:=Ad6 q2
  omega
 ·rw [q] at h1
  have e1:(u':Int)=t.2.2.2.2.1:=congrArg (fun z:Scd=>z.2.1) h1
  have e2:l'=t.2.2.2.2.2:=congrArg (fun z:Scd=>z.2.2.1) h1
  rw [t2.u] at e1
  rw [t2.l] at e2
  omega
theorem Bk2 (n8:8≤n) (n2:n≤200) (hw:Bq w 1 8=true) (hs:Sec n D) (hs':Sec n D') (root:At (D,[],()) w=r) (root':At (D',[],()) w=r) (h:∀ i,i < hN n→D'.getD (bN n r.2.1 + i) z0=D.getD (bN n r.2.1 + i) z0):
  Fs (D',[],()) w=Fs (D,[],()) w:=by
 rw [As1 n8 n2 hw hs.len (hs.ok n8 n2) root,As1 n8 n2 hw hs'.len (hs'.ok n8 n2) root',Bek (D:=D') (D':=D) fun i _ hi=>h i (by omega)]
theorem As3 {L w:Int} (hw:Bq w 1 8=true) (hl:Bq L 1 60000=true):∀ (E:List Aa) (k:Int),1≤k→k + (qP L w k E).length≤1000000001→∀ j,j < (qP L w k E).length→∃ q,Ay ((qP L w k E).getD j z0) w=(q,true)∧(q.1=1∨q.1=2)∧q.2.1=L∧q.2.2.1=k + (j:Int)
 | [],k,_,_,j,hj=>by simp [qP] at hj
 | e::E,k,h1,h2,j,hj=>by
  have hlen:=(Qf L w (Ao e w) k).1
  have hq:qP L w k (e::E)=Ig L w k (Ao e w)++qP L w (k + (Ao e w).length) E:=rfl
  rw [Aa5] at h2 hj
  obtain ⟨k1,k2,k3⟩:=Ad3 e hw
  by_cases q:j < (Ao e w).length
  ·have hg:(qP L w k (e::E)).getD j z0=Ca ((if j + 1=(Ao e w).length then 2 else 1),L,k + (j:Int),(Ao e w).getD j z0,()) w:=by
    rw [hq,List.getD_eq_getElem?_getD,List.getElem?_append_left (by omega),Xo]
    simp [q]
   rw [hg]
   have hp:Ee ((if j + 1=(Ao e w).length then 2 else 1),L,k + (j:Int),(Ao e w).getD j z0,()) w=true:=Z7 hw hl (by split<;>simp) (by omega) (by omega) (k1 _ (Adu z0 q))
   refine ⟨_,In hp,?_,rfl,rfl⟩
   show (if j + 1=(Ao e w).length then (2:Int) else 1)=1∨(if j + 1=(Ao e w).length then (2:Int) else 1)=2
   split
   ·exact .inr rfl
   ·exact .inl rfl
  ·obtain ⟨p,p1,p2,p3,p4⟩:=As3 hw hl E (k + (Ao e w).length) (by omega) (by omega) (j - (Ao e w).length) (by omega)
   refine ⟨p,?_,p2,p3,by omega⟩
   rw [hq,List.getD_eq_getElem?_getD,List.getElem?_append_right (by omega),hlen,← List.getD_eq_getElem?_getD]
   exact p1
theorem As4 {x:Aa} {l:List Aa} (h:x∈l):∃ j,j < l.length∧x=l.getD j z0:=by
 obtain ⟨j,h1,h2⟩:=Xn z0 h
 exact ⟨j,h1,h2.symm⟩
theorem Xr {x:Aa} {w:Int} {p:Pg} (h:Ay x w=(p,true)):x.size=64:=(Sp h).1
theorem Bsn {L w k:Int} {E:List Aa} (hw:Bq w 1 8=true) (hl:Bq L 1 60000=true) (h1:1≤k) (h2:k + (qP L w k E).length≤1000000001):∀ x∈qP L w k E,x.size=64:=fun x hx=>by
 obtain ⟨j,j1,rfl⟩:=As4 hx
 obtain ⟨q,q1,_⟩:=As3 hw hl E k h1 h2 j j1
 exact Xr q1
theorem Ber {w l f:Int} {s:Cv} (hw:Bq w 1 8=true) (hl:Bq l 1 60000=true) (h1:1≤f) (h2:f≤999999000) (hr:C5 s w≤200):∀ j,j < (mvP w l f s).length→∃ q,Ay ((mvP w l f s).getD j z0) w=(q,true)∧q.1≠4∧q.2.1=l∧q.2.2.1=f + (j:Int):=fun j hj=>by
 obtain ⟨l1,l2⟩:=Cw hl
 have hR:=Awg (s:=s) (L:=l) (k:=f + 1) hw
 cases j with
 | zero=>
  refine ⟨_,In (Bbc hw l1 l2 h1 (by omega)),by show (3:Int)≠4; decide,rfl,by show f=f + ((0:Nat):Int); omega⟩
 | succ j=>
  have hj:j < (qP l w (f + 1) (Aor s)).length:=by unfold mvP at hj; simpa using hj
  obtain ⟨q,q1,q2,q3,q4⟩:=As3 hw hl (Aor s) (f + 1) (by omega) (by omega) j hj
  exact ⟨q,q1,by rcases q2 with z | z<;>omega,q3,by omega⟩
theorem Brs {w l f:Int} {s:Cv} (hw:Bq w 1 8=true) (hl:Bq l 1 60000=true) (h1:1≤f) (h2:f≤999999000) (hr:C5 s w≤200):∀ x∈mvP w l f s,x.size=64:=fun x hx=>by
 obtain ⟨j,j1,rfl⟩:=As4 hx
 obtain ⟨q,q1,_⟩:=Ber hw hl h1 h2 hr j j1
 exact Xr q1
end
section
abbrev K7 (w:Int) (D:List Aa) (P:List Wr) (up:Bool) (s:Ez) (past:List Cv) (W:List Aa):Bo:=(w,(D,P,()),up,s,past,W,())
variable {B:Nat} {w:Int} {n:Nat} {D D' W X:List Aa} {P:List Wr} {past past':List Cv} {r r':Rt} {u0:Nat} {L:Int} {s0:Cv} {E F:List Aa}
theorem Ayr {n:Nat} {p:Nat→Bool} (h:∀ i,i < n→p i=true):(List.range' 0 n).all p=true:=List.all_eq_true.2 fun i hi=>h i (by have:=(List.mem_range'_1.1 hi).2; omega)
theorem A4a {up:Bool} {sto:Ez} (hw:Bq w 1 8=true) (hd:Ap (D,P,())=true) (hp:1≤past.length∧past.length≤200) (hW:W.length≤2000) (hs:Pn (K7 w D P up sto past W)=true) (pv:∀ s∈past,Ak s=true) (w64:∀ x∈W,x.size=64):
  B7 (K7 w D P up sto past W)=true:=by
 have e1:Yh (K7 w D P up sto past W)=true:=Ayr fun i hi=>pv _ (Adu Ye hi)
 have e2:Mc (K7 w D P up sto past W)=true:=Ayr fun i hi=>Af (w64 _ (Adu z0 hi))
 unfold B7
 rw [e1,e2,hs]
 show (Bq w 1 8&&(Ap (D,P,())&&(Bq (past.length:Int) 1 200&&(decide (W.length≤2000)&&(true&&(true&&true))))))=true
 rw [hw,hd,Af hW,Aa7 (show (1:Int)≤(past.length:Int) by omega) (show (past.length:Int)≤200 by omega)]
 rfl
theorem Bk3:Pn (K7 w D P false Vt past W)=true:=by
 show Py Vt=true
 decide +kernel
theorem Aj4 (n8:8≤n) (n2:n≤200) (hw:Bq w 1 8=true) (hL:1≤L∧L≤60000) (hr:Ba4 r) {used loose:Int} (hu:0≤used∧used≤(hN n:Int)) (hl:0≤loose∧loose≤used) {st:Cv} (hv:Ak st=true) (hR:C5 st w≤(hN n:Int) - 1):
  As (w,(n:Int),L,r,used,loose,st,())=true:=by
 have hh:=L9 n8 n2
 obtain ⟨⟨t1,t2⟩,⟨H1,H2⟩,⟨f1,f2⟩,l1,l2⟩:=hr
 have hro:I6 r=true:=by unfold I6; rw [Aa7 H1 H2,Aa7 f1 f2]; rfl
 unfold As
 show (decide (0 < Al (n:Int))&&(Bq w 1 8&&(Bq L 1 60000&&(Bq r.1 0 1000000000&&(I6 r&&(Bq r.2.2.2.1 0 60000&&(Bq used 0 (Al (n:Int))&&(Bq loose 0 used&&(Ak st&&decide (C5 st w≤Al (n:Int) - 1))))))))))=true
 rw [Q9 n8 n2,Af (show (0:Int) < (hN n:Int) by omega),hw,Aa7 hL.1 hL.2,Aa7 t1 t2,hro,Aa7 l1 l2,Aa7 hu.1 hu.2,Aa7 hl.1 hl.2,hv,Af hR]
 rfl
theorem Bjc (n8:8≤n) (n2:n≤200) (hlen:D.length=n) {used loose:Int} {st:Cv} (h:As (w,(n:Int),L,r,used,loose,st,())=true):Pn (K7 w D P true (w,(n:Int),L,r,used,loose,st,()) past W)=true:=by
 show (As (w,(n:Int),L,r,used,loose,st,())&&(w==w&&(n:Int)==nI D.length))=true
 rw [h,hlen]
 simp [nI]
def Aa8 (w:Int) (n:Nat) (W:List Aa) (r:Rt):Prop:=∀ x∈W,∀ p,Ay x w=(p,true)→p.1=4→(Fr p).1≤r.1∨((Fr p).1=r.1 + 1∧(Fr p).2.1=1 - r.2.1∧(Fr p).2.2.1=r.2.2.1 + (hN n:Int))
structure Bas (B:Nat) (w:Int) (n:Nat) (W:List Aa) (past:List Cv) (r:Rt):Prop where
 b:B≤9000
 wl:W.length≤B * (hN n + 1)
 wk:W.length≤2000
 w64:∀ x∈W,x.size=64
 wb:∀ x∈W,∀ p,Ay x w=(p,true)→p.2.1≤(B:Int)
 pv:∀ s∈past,Ak s=true
 pl:1≤past.length∧past.length≤200
 g:Aa8 w n W r
 tb:r.1≤(B:Int)
 fb:r.2.2.1≤1 + 100 * (B:Int)
def Mt (w:Int) (W:List Aa) (l:Int):Prop:=∀ x∈W,∀ p,Ay x w=(p,true)→p.2.1≤l
def Bta (w:Int) (n:Nat) (W:List Aa) (r:Rt) (u:Nat) (l:Int) (s:Cv):Prop:=∀ x∈W,∀ p,Ay x w=(p,true)→p.1≠4→p.2.1=l + 1→p.2.2.1 < r.2.2.1 + (u:Int)∨(u < hN n∧p.2.2.1=r.2.2.1 + (u:Int))∨(u=hN n∧x∈mvP w (l + 1) (r.2.2.1 + (hN n:Int)) s)
structure Uf (B:Nat) (w:Int) (n:Nat) (D W:List Aa) (past:List Cv) (r:Rt) (u0:Nat) (L:Int) (s0:Cv) (E es:List Aa) (u:Nat) (l:Int) (s:Cv):Prop where
 c:Ac1 w n D W past r u0 L s0 E
 f:Bi9 w n D W past r u0 L es u l s
 b:Bas B w n W past r
 lb:L≤(B:Int)
 lv:Mt w W (l + 1)
 lt:Bta w n W r u l s
def DnP (B:Nat) (w:Int) (n:Nat) (D W:List Aa) (past:List Cv):Prop:=∃ r u0 L s0 E es u l s,Uf B w n D W past r u0 L s0 E es u l s
structure Nb (B:Nat) (w:Int) (n:Nat) (D:List Aa) (P:List Wr) (sto:Ez) (past:List Cv) (W:List Aa) (r:Rt) (u0:Nat) (L:Int) (s0:Cv) (E:List Aa) (st:Cv):Prop where
 c:Ac1 w n D W past r u0 L s0 E
 b:Bas B w n W past r
 l1:1≤L
 lb:L≤(B:Int)
 p:P=Rq ((bN n r.2.1 + u0:Nat):Int) (qP L w (r.2.2.1 + u0) E)
 s:sto=(w,(n:Int),L,r,((u0 + (qP L w (r.2.2.1 + u0) E).length:Nat):Int),((qP L w (r.2.2.1 + u0) E).length:Int),st,())
 o:E1 E s0=some st
 la:∃ pre,past=pre++[st]
 lv:Mt w W L
 ea:∀ x∈W,∀ p,Ay x w=(p,true)→p.1≠4→p.2.1=L→p.2.2.1 < r.2.2.1 + (hN n:Int)
def UpP (B:Nat) (w:Int) (n:Nat) (D:List Aa) (P:List Wr) (sto:Ez) (past:List Cv) (W:List Aa):Prop:=∃ r u0 L s0 E st,Nb B w n D P sto past W r u0 L s0 E st
theorem Bas.mono (h:Bas B w n W past r) {B':Nat} (hB:B≤B') (hb:B'≤9000):Bas B' w n W past r where
 b:=hb
 wl:=Nat.le_trans h.wl (Nat.mul_le_mul_right _ hB)
 wk:=h.wk
 w64:=h.w64
 wb:=fun x hx p hp=>by have:=h.wb x hx p hp; omega
 pv:=h.pv
 pl:=h.pl
 g:=h.g
 tb:=by have:=h.tb; omega
 fb:=by have:=h.fb; omega
theorem DnP.mono (h:DnP B w n D W past) {B':Nat} (hB:B≤B') (hb:B'≤9000):DnP B' w n D W past:=by
 obtain ⟨r,u0,L,s0,E,es,u,l,s,h⟩:=h
 exact ⟨r,u0,L,s0,E,es,u,l,s,h.c,h.f,h.b.mono hB hb,by have:=h.lb; omega,h.lv,h.lt⟩
theorem UpP.mono {sto:Ez} (h:UpP B w n D P sto past W) {B':Nat} (hB:B≤B') (hb:B'≤9000):UpP B' w n D P sto past W:=by
 obtain ⟨r,u0,L,s0,E,st,h⟩:=h
 exact ⟨r,u0,L,s0,E,st,h.c,h.b.mono hB hb,h.l1,by have:=h.lb; omega,h.p,h.s,h.o,h.la,h.lv,h.ea⟩
theorem DnP.of (c:Ac1 w n D W past r u0 L s0 E) (b:Bas B w n W past r) (lb:L≤(B:Int)) (lv:Mt w W L):DnP B w n D W past:=by
 obtain ⟨es,u,l,s,f⟩:=c.found
 have hl:=f.hl
 refine ⟨r,u0,L,s0,E,es,u,l,s,c,f,b,lb,fun x hx p hp=>?_,fun x hx p hp h4 h=>?_⟩
 ·have:=lv x hx p hp; omega
 ·have:=lv x hx p hp; omega
theorem Bas.more (h:Bas B w n W past r) (hb:B + 1≤9000) (hX:X.length≤hN n + 1) (wk:(W++X).length≤2000) (x64:∀ x∈X,x.size=64) (xb:∀ x∈X,∀ p,Ay x w=(p,true)→p.2.1≤(B:Int) + 1)
  (pv:∀ s∈past',Ak s=true) (pl:1≤past'.length∧past'.length≤200) (g:Aa8 w n (W++X) r') (tb:r'.1≤r.1 + 1) (fb:r'.2.2.1≤r.2.2.1 + 100):Bas (B + 1) w n (W++X) past' r' where
 b:=hb
 wl:=by
  rw [Dn,Nat.add_mul,Nat.one_mul]
  have:=h.wl
  omega
 wk:=wk
 w64:=fun x hx=>by
  rcases List.mem_append.1 hx with q | q
  ·exact h.w64 x q
  ·exact x64 x q
 wb:=fun x hx p hp=>by
  rcases List.mem_append.1 hx with q | q
  ·have:=h.wb x q p hp; omega
  ·have:=xb x q p hp; omega
 pv:=pv
 pl:=pl
 g:=g
 tb:=by have:=h.tb; omega
 fb:=by have:=h.fb; omega
theorem Aa8.more (h:Aa8 w n W r) (hX:∀ x∈X,∀ p,Ay x w=(p,true)→p.1≠4):Aa8 w n (W++X) r:=fun x hx p hp h4=>by
 rcases List.mem_append.1 hx with q | q
 ·exact h x q p hp h4
 ·exact absurd h4 (hX x q p hp)
theorem Mt.app {l:Int} (h:Mt w W l) (hX:Mt w X l):Mt w (W++X) l:=fun x hx p hp=>by
 rcases List.mem_append.1 hx with q | q
 ·exact h x q p hp
 ·exact hX x q p hp
theorem Bnr {up:Bool} {sto:Ez} (hv:B7 (K7 w D P up sto past W)=true) (hlen:D.length=n) (h:Ana (K7 w D P up sto past W)=z0):NoF w n D W:=fun i hi hr=>by
 unfold Ana at h
 rw [hv] at h
 have h:Qc (fun x=>(Ay x w).2&&!inL W x) (fun x=>x) z0 D=z0:=h
 have key:∀ (l:List Aa),Qc (fun x=>(Ay x w).2&&!inL W x) (fun x=>x) z0 l=z0→∀ x∈l,(Ay x w).2=true→inL W x=true:=by
  intro l
  induction l with
  | nil=>intro _ x hx; cases hx
  | cons y l ih=>
   intro hf x hx hxr
   simp only [Qc] at hf
   cases hc:(Ay y w).2&&!inL W y with
   | true=>
    rw [hc] at hf
    have hf:y=z0:=hf
    obtain ⟨h1,_⟩:=B2 hc
    have hp:Ay y w=((Ay y w).1,true):=Prod.ext rfl h1
    have:=Xr hp
    rw [hf] at this
    exact absurd this (by decide)
   | false=>
    rw [hc] at hf
    rcases List.mem_cons.1 hx with rfl | hx
    ·rw [hxr] at hc
     simpa using hc
    ·exact ih hf x hx hxr
 have:=key D h _ (Adu z0 (by omega)) hr
 unfold inL at this
 obtain ⟨y,hy,hq⟩:=List.any_eq_true.1 this
 rw [← H5.1 hq]
 exact hy
end
section
variable {B:Nat} {w:Int} {n:Nat} {D D' W X:List Aa} {P ws:List Wr} {past past':List Cv} {r r':Rt} {u0:Nat} {L:Int} {s0 st:Cv} {E F:List Aa} {sto:Ez}
theorem Z8 (n8:8≤n) (n2:n≤200) (hs:Sec n D) (hl:ws.length≤300) (hp:∀ v∈ws,0≤v.1∧v.1 < (n:Int)∧v.2.1.size=64):Ap (D,ws,())=true:=If.valid {
 n8:=by show 8≤D.length; rw [hs.len]; exact n8
 n200:=by show D.length≤200; rw [hs.len]; exact n2
 p300:=hl
 sec:=fun i hi=>hs.sz i (by rw [← hs.len]; exact hi)
 pen:=fun i hi=>by
  have:=hp _ (Adu zW hi)
  show _∧_ < (D.length:Int)∧_
  rw [hs.len]
  exact this }
theorem A4b (hlen:D.length=n) (hv:Ap (D,ws,())=true) (f:List Int):Sec n (Rx f D ws):=by
 have:=Bio hv f
 have h1:(Rx f D ws).length=D.length:=this.1
 exact ⟨by omega,fun i hi=>this.2 i (by show i < D.length; omega)⟩
theorem Ra (hv:Ap (D,ws,())=true) (f:List Int):Eo (D,ws,()) f=(Rx f D ws,[],()):=by
 unfold Eo
 rw [hv]
 rfl
theorem j8 (n8:8≤n) (n2:n≤200) (hw:Bq w 1 8=true) (hs:Sec n D) (root:At (D,[],()) w=r) (hv:Ap (D,ws,())=true) (f:List Int) (hp:∀ v∈ws,2≤v.1.toNat):
  Sec n (Rx f D ws)∧At (Rx f D ws,[],()) w=r:=by
 have hs':=A4b hs.len hv f
 refine ⟨hs',?_⟩
 rw [Anj (hs.ok n8 n2) (hs'.ok n8 n2) hw (Ue (fun v hv=>by have:=hp v hv; omega) D) (Ue (fun v hv=>by have:=hp v hv; omega) D)]
 exact root
theorem Nb.h9 (h:Nb B w n D P sto past W r u0 L s0 E st):1≤r.2.2.1∧r.2.2.1≤999998800∧Bq L 1 60000=true:=by
 have hr:=h.c.rok
 have hf:=h.c.fb
 have:=h.b.b
 have:=h.lb
 exact ⟨hr.2.2.1.1,by omega,Aa7 h.l1 (by omega)⟩
theorem Nb.q64 (h:Nb B w n D P sto past W r u0 L s0 E st):∀ x∈qP L w (r.2.2.1 + u0) E,x.size=64:=by
 obtain ⟨h1,h2,h3⟩:=h.h9
 have hh:=L9 h.c.n8 h.c.n2
 have:=h.c.qh
 exact Bsn h.c.hw h3 (by omega) (by omega)
theorem Nb.pos (h:Nb B w n D P sto past W r u0 L s0 E st):∀ v∈P,((bN n r.2.1 + u0:Nat):Int)≤v.1∧v.1 < ((bN n r.2.1 + hN n:Nat):Int)∧v.2.1.size=64:=fun v hv=>by
 rw [h.p] at hv
 have hq:=h.c.qh
 have key:∀ (L:List Aa) (a:Int),(∀ x∈L,x.size=64)→∀ v∈Rq a L,v.2.1.size=64:=by
  intro L
  induction L with
  | nil=>intro a _ v hv; cases hv
  | cons x L ih=>
   intro a hx v hv
   rcases List.mem_cons.1 hv with rfl | hv
   ·exact hx x List.mem_cons_self
   ·exact ih (a + 1) (fun y hy=>hx y (List.mem_cons_of_mem _ hy)) v hv
 have:=Ad9 hv
 exact ⟨this.1,by omega,key _ _ h.q64 v hv⟩
theorem Nb.plen (h:Nb B w n D P sto past W r u0 L s0 E st):P.length=(qP L w (r.2.2.1 + u0) E).length:=by rw [h.p,Ad8]
theorem Nb.bin (h:Nb B w n D P sto past W r u0 L s0 E st):2≤bN n r.2.1∧bN n r.2.1 + hN n≤n:=A9o h.c.n8 h.c.n2 h.c.rok.2.1
theorem Nb.vd (h:Nb B w n D P sto past W r u0 L s0 E st):Ap (D,P,())=true:=by
 have hq:=h.c.qh
 have hh:=L9 h.c.n8 h.c.n2
 have hb:=h.bin
 refine Z8 h.c.n8 h.c.n2 h.c.sec (by rw [h.plen]; omega) fun v hv=>?_
 obtain ⟨p1,p2,p3⟩:=h.pos v hv
 exact ⟨by omega,by omega,p3⟩
theorem Nb.mem (h:Nb B w n D P sto past W r u0 L s0 E st):st∈past:=by
 obtain ⟨pre,e⟩:=h.la
 rw [e]
 exact List.mem_append_right _ (List.mem_singleton.2 rfl)
theorem Nb.sv (h:Nb B w n D P sto past W r u0 L s0 E st):Ak st=true:=h.b.pv st h.mem
theorem Nb.sok (h:Nb B w n D P sto past W r u0 L s0 E st):As sto=true:=by
 rw [h.s]
 have hq:=h.c.qh
 obtain ⟨_,_,h3⟩:=h.h9
 exact Aj4 h.c.n8 h.c.n2 h.c.hw (Cw h3) h.c.rok ⟨by omega,by omega⟩ ⟨by omega,by omega⟩ h.sv (h.c.rm st h.mem)
theorem Nb.valid (h:Nb B w n D P sto past W r u0 L s0 E st):B7 (K7 w D P true sto past W)=true:=by
 have h1:=h.sok
 have h2:=h.s
 subst h2
 exact A4a h.c.hw h.vd h.b.pl h.b.wk (Bjc h.c.n8 h.c.n2 h.c.len h1) h.b.pv h.b.w64
theorem Bes (b:Bas B w n W past r) (n8:8≤n) (n2:n≤200) (hw:Bq w 1 8=true) (hs:Sec n D):B7 (K7 w D [] false Vt past W)=true:=
 A4a hw (hs.ok n8 n2) b.pl b.wk Bk3 b.pv b.w64
def Kq (B:Nat) (w:Int) (n:Nat) (W':Bo):Prop:=B7 W'=true∧(Ana W'=z0→(∃ D past W,W'=K7 w D [] false Vt past W∧DnP B w n D W past)∨(∃ D P sto past W,W'=K7 w D P true sto past W∧UpP B w n D P sto past W))
theorem Kq.dn (b:Bas B w n W past r) (n8:8≤n) (n2:n≤200) (hw:Bq w 1 8=true) (hs:Sec n D) (h:NoF w n D W→DnP B w n D W past):Kq B w n (K7 w D [] false Vt past W):=by
 have hv:=Bes b n8 n2 hw hs
 exact ⟨hv,fun hf=>.inl ⟨D,past,W,rfl,h (Bnr hv hs.len hf)⟩⟩
theorem Nb.power (h:Nb B w n D P sto past W r u0 L s0 E st) (f:List Int):Kq B w n (j7 (K7 w D P true sto past W) f):=by
 have hb:=h.bin
 have e:j7 (K7 w D P true sto past W) f=K7 w (Rx f D P) [] false Vt past W:=by
  unfold j7
  show (w,Eo (D,P,()) f,_)=_
  rw [Ra h.vd]
 rw [e]
 obtain ⟨k1,k2⟩:=j8 h.c.n8 h.c.n2 h.c.hw h.c.sec h.c.root h.vd f fun v hv=>by have:=h.pos v hv; omega
 refine Kq.dn h.b h.c.n8 h.c.n2 h.c.hw k1 fun nf=>?_
 have nf':NoF w n (Rx f D P) (W++[]):=by rw [List.append_nil]; exact nf
 have c':=h.c.next (F:=[]) (past':=past) k1 nf' k2 (fun i hi=>Ue (fun v hv=>by have:=h.pos v hv; omega) D) (fun s hs=>hs) h.c.rm
  (fun j j1 j2=>by rw [List.append_nil] at j2; omega) (by rw [List.append_nil]; exact h.c.lb) (by rw [List.append_nil]; exact h.c.qh) (fun x hx=>by cases hx)
 rw [List.append_nil,List.append_nil] at c'
 exact DnP.of c' h.b h.lb h.lv
theorem Sr:∀ (L:List Aa) (a:Int),Db (C9 a L)=L
 | [],_=>rfl
 | x::L,a=>by
  show x::Db (C9 (a + 1) L)=x::L
  rw [Sr L]
theorem Aqo (a b:List Dc):Db (a++b)=Db a++Db b:=by simp [Db]
theorem Agn {d:Dk} (h:Ap d=true) (ops:List Dc) (m:Int):B9 d ops m=(ops.take m.toNat).foldl opS d:=by
 unfold B9
 rw [h]
 rfl
theorem commit_is (n8:8≤n) (n2:n≤200) {used loose:Int} (hv:As (w,(n:Int),L,r,used,loose,st,())=true) (b:List Bc):
  (∃ c:Int,c≠0∧Bs (w,(n:Int),L,r,used,loose,st,()) b=Aap c)∨
  (Az b=true∧(Bx st b).2=0∧C5 (Bx st b).1 w≤(hN n:Int) - 1∧((Xm (Be b) L (r.2.2.1 + used) w).length:Int)≤(hN n:Int) - used∧
   Bs (w,(n:Int),L,r,used,loose,st,()) b=(0,(w,(n:Int),L,r,used + ((Xm (Be b) L (r.2.2.1 + used) w).length:Int),loose + ((Xm (Be b) L (r.2.2.1 + used) w).length:Int),(Bx st b).1,()),C9 (Bk r.2.1 (n:Int) + used) (Xm (Be b) L (r.2.2.1 + used) w),())):=by
 unfold Bs
 rw [hv]
 simp only [Bool.not_true,cond_false]
 have eP:Em (w,(n:Int),L,r,used,loose,st,()) b=Xm (Be b) L (r.2.2.1 + used) w:=rfl
 rw [eP]
 cases hb:Az b with
 | false=>exact .inl ⟨1,by decide,rfl⟩
 | true=>
  simp only [Bool.not_true,cond_false]
  cases ha:(Bx st b).2 != 0 with
  | true=>exact .inl ⟨2,by decide,by rfl⟩
  | false=>
   have ha':(Bx st b).2=0:=by simpa using ha
   simp only [cond_false]
   rw [Q9 n8 n2]
   by_cases h1:C5 (Bx st b).1 w > (hN n:Int) - 1
   ·rw [Af h1]; exact .inl ⟨3,by decide,rfl⟩
   ·rw [Bd h1]
    simp only [cond_false]
    by_cases h2:nI (Xm (Be b) L (r.2.2.1 + used) w).length > (hN n:Int) - used
    ·rw [Af h2]; exact .inl ⟨4,by decide,rfl⟩
    ·rw [Bd h2]
     have h2:¬ ((Xm (Be b) L (r.2.2.1 + used) w).length:Int) > (hN n:Int) - used:=h2
     exact .inr ⟨trivial,ha',by omega,by omega,rfl⟩
end
section
variable {B:Nat} {w:Int} {n:Nat} {D D' W X:List Aa} {P ws:List Wr} {past past':List Cv} {r r':Rt} {u0:Nat} {L:Int} {s0 st:Cv} {E F:List Aa} {sto:Ez}
theorem Kq.up {used loose:Int} (b:Bas B w n W past r') (n8:8≤n) (n2:n≤200) (hw:Bq w 1 8=true) (hs:Sec n D) (vd:Ap (D,P,())=true) (sok:As (w,(n:Int),L,r,used,loose,st,())=true) (h:NoF w n D W→UpP B w n D P (w,(n:Int),L,r,used,loose,st,()) past W):
  Kq B w n (K7 w D P true (w,(n:Int),L,r,used,loose,st,()) past W):=by
 have hv:=A4a (past:=past) (W:=W) hw vd b.pl b.wk (Bjc n8 n2 hs.len sok) b.pv b.w64
 exact ⟨hv,fun hf=>.inr ⟨D,P,_,past,W,rfl,h (Bnr hv hs.len hf)⟩⟩
theorem Nb.same (h:Nb B w n D P sto past W r u0 L s0 E st) (hb:B + 1≤9000):Kq (B + 1) w n (K7 w D P true sto past W):=
 ⟨h.valid,fun _=>.inr ⟨D,P,sto,past,W,rfl,UpP.mono ⟨r,u0,L,s0,E,st,h⟩ (Nat.le_succ B) hb⟩⟩
theorem Kq.mono {W':Bo} (h:Kq B w n W') (hb:B + 1≤9000):Kq (B + 1) w n W':=⟨h.1,fun hf=>by
 rcases h.2 hf with ⟨D,past,W,e,q⟩ | ⟨D,P,sto,past,W,e,q⟩
 ·exact .inl ⟨D,past,W,e,q.mono (Nat.le_succ B) hb⟩
 ·exact .inr ⟨D,P,sto,past,W,e,q.mono (Nat.le_succ B) hb⟩⟩
theorem Bet (b:List Bc) {w:Int} (hw:Bq w 1 8=true):(Ao (Be b) w).length≤101:=by
 have h1:=Adz (Be b) w
 rw [hw,cond_true] at h1
 have h3:=La b
 obtain ⟨w1,w2⟩:=Cw hw
 unfold E5 at h1
 rw [hw,cond_true] at h1
 have hc:w=1∨w=2∨w=3∨w=4∨w=5∨w=6∨w=7∨w=8:=by omega
 rcases hc with rfl | rfl | rfl | rfl | rfl | rfl | rfl | rfl<;>split at h1<;>omega
theorem Bru {b:List Bc} {L f w:Int} (hw:Bq w 1 8=true) (hl:Bq L 1 60000=true) (h1:1≤f) (h2:f≤999999000):Xm (Be b) L f w=qP L w f [Be b]:=by
 have:=Bet b hw
 rw [Bg4 hw hl h1 (by omega)]
 show _=Ig L w f (Ao (Be b) w)++[]
 rw [List.append_nil]
theorem Nv {α:Type} {l:List α} {m:Nat} (h:l.length≤m):l.take m=l:=List.take_of_length_le h
theorem Beu {x:Cv} {past:List Cv} {Q:Cv→Prop} (h:∀ s∈past,Q s) (hx:Q x):∀ s∈past++[x],Q s:=fun s hs=>by
 rcases List.mem_append.1 hs with q | q
 ·exact h s q
 ·rw [List.mem_singleton.1 q]; exact hx
theorem Nb.commit (h:Nb B w n D P sto past W r u0 L s0 E st) (hB:B + 1≤9000) (b:List Bc) (cut:Int) (f:List Int):Kq (B + 1) w n (Ou (K7 w D P true sto past W) (2,b,cut,f,())):=by
 obtain ⟨f1,f2,hl⟩:=h.h9
 have hbin:=h.bin
 have hq:=h.c.qh
 have hh:=L9 h.c.n8 h.c.n2
 have hsok:=h.sok
 have hs:=h.s
 subst hs
 have e0:Ou (K7 w D P true (w,(n:Int),L,r,((u0 + (qP L w (r.2.2.1 + u0) E).length:Nat):Int),((qP L w (r.2.2.1 + u0) E).length:Int),st,()) past W) (2,b,cut,f,())=
   bif (Bs (w,(n:Int),L,r,((u0 + (qP L w (r.2.2.1 + u0) E).length:Nat):Int),((qP L w (r.2.2.1 + u0) E).length:Int),st,()) b).1 != 0 then (K7 w D P true (w,(n:Int),L,r,((u0 + (qP L w (r.2.2.1 + u0) E).length:Nat):Int),((qP L w (r.2.2.1 + u0) E).length:Int),st,()) past W)
   else Cc (K7 w D P true (w,(n:Int),L,r,((u0 + (qP L w (r.2.2.1 + u0) E).length:Nat):Int),((qP L w (r.2.2.1 + u0) E).length:Int),st,()) past W) (2,b,cut,f,()) (Bs (w,(n:Int),L,r,((u0 + (qP L w (r.2.2.1 + u0) E).length:Nat):Int),((qP L w (r.2.2.1 + u0) E).length:Int),st,()) b):=rfl
 rw [e0]
 rcases commit_is h.c.n8 h.c.n2 hsok b with ⟨c,hc,e⟩ | ⟨hb,ha,hR,hk,e⟩
 ·rw [e]
  show Kq (B + 1) w n (bif c != 0 then _ else _)
  rw [bne_iff_ne.2 hc]
  exact h.same hB
 ·rw [e]
  have eb:Bk r.2.1 (n:Int) + ((u0 + (qP L w (r.2.2.1 + u0) E).length:Nat):Int)=((bN n r.2.1 + (u0 + (qP L w (r.2.2.1 + u0) E).length):Nat):Int):=by rw [A1y h.c.n8 h.c.n2 h.c.rok.2.1]; omega
  have epg:Xm (Be b) L (r.2.2.1 + ((u0 + (qP L w (r.2.2.1 + u0) E).length:Nat):Int)) w=qP L w (r.2.2.1 + (u0:Int) + ((qP L w (r.2.2.1 + u0) E).length:Int)) [Be b]:=by
   rw [Bru h.c.hw hl (by omega) (by omega)]
   congr 1
   omega
  rw [epg] at hk ⊢
  rw [eb]
  have eQ:qP L w (r.2.2.1 + u0) (E++[Be b])=qP L w (r.2.2.1 + u0) E++qP L w (r.2.2.1 + (u0:Int) + ((qP L w (r.2.2.1 + u0) E).length:Int)) [Be b]:=Bg9 L w E [Be b] _
  have ho:E1 (E++[Be b]) s0=some (Bx st b).1:=by rw [Agl,h.o]; exact Bhc hb ha
  generalize hpg:qP L w (r.2.2.1 + (u0:Int) + ((qP L w (r.2.2.1 + u0) E).length:Int)) [Be b]=pg at *
  generalize hst':(Bx st b).1=st' at *
  have hv':Ak st'=true:=by rw [← hst']; exact Aa3 st b
  have hQ':(qP L w (r.2.2.1 + u0) (E++[Be b])).length=(qP L w (r.2.2.1 + u0) E).length + pg.length:=by rw [eQ,Dn]
  have hpage:∀ x∈pg,∃ j,j < (qP L w (r.2.2.1 + u0) (E++[Be b])).length∧x=(qP L w (r.2.2.1 + u0) (E++[Be b])).getD j z0:=fun x hx=>by
   obtain ⟨i,i1,rfl⟩:=As4 hx
   refine ⟨(qP L w (r.2.2.1 + u0) E).length + i,by omega,?_⟩
   rw [eQ,List.getD_eq_getElem?_getD,List.getD_eq_getElem?_getD,List.getElem?_append_right (by omega)]
   congr 2
   omega
  have hread:∀ x∈pg,∀ p,Ay x w=(p,true)→(p.1=1∨p.1=2)∧p.2.1=L∧∃ j,j < (qP L w (r.2.2.1 + u0) (E++[Be b])).length∧p.2.2.1=r.2.2.1 + ((u0 + j:Nat):Int)∧x=(qP L w (r.2.2.1 + u0) (E++[Be b])).getD j z0:=fun x hx p hp=>by
   obtain ⟨j,j1,rfl⟩:=hpage x hx
   obtain ⟨q,q1,q2,q3,q4⟩:=As3 h.c.hw hl (E++[Be b]) (r.2.2.1 + u0) (by omega) (by omega) j j1
   rw [q1] at hp
   have:q=p:=congrArg Prod.fst hp
   subst this
   exact ⟨q2,q3,j,j1,by omega,rfl⟩
  have h64:∀ x∈pg,x.size=64:=fun x hx=>by
   obtain ⟨j,j1,rfl⟩:=hpage x hx
   obtain ⟨q,q1,_⟩:=As3 h.c.hw hl (E++[Be b]) (r.2.2.1 + u0) (by omega) (by omega) j j1
   exact Xr q1
  have hlb:=h.lb
  have core:∀ (m:Nat) (D':List Aa),Sec n D'→NoF w n D' (W++pg.take m)→At (D',[],()) w=r→(∀ i,i < u0→D'.getD (bN n r.2.1 + i) z0=D.getD (bN n r.2.1 + i) z0)→Ac1 w n D' (W++pg.take m) (past++[st']) r u0 L s0 (E++[Be b]):=fun m D' s1 nf rt hp=>
   h.c.next s1 nf rt hp (fun s hs=>List.mem_append_left _ hs) (Beu h.c.rm hR) (fun j j1 j2=>by
    rw [Dn,En] at j2
    refine ⟨st',List.mem_append_right _ (List.mem_singleton.2 rfl),?_⟩
    rw [Nv (by rw [Dn,En]; omega)]
    exact ho) (fun _=>hl) (by omega) (fun x hx p hp h4 hin=>by
    obtain ⟨q1,q2,j,j1,j2,j3⟩:=hread x (List.mem_of_mem_take hx) p hp
    exact ⟨fun _=>⟨j,j1,j2,j3⟩,fun hlt=>by omega⟩)
  have hkN:pg.length≤hN n + 1:=by omega
  have bas:∀ m:Nat,(W++pg.take m).length≤2000→(past++[st']).length≤200→Bas (B + 1) w n (W++pg.take m) (past++[st']) r:=fun m hw2 hp2=>
   h.b.more hB (by rw [List.length_take]; omega) hw2 (fun x hx=>h64 x (List.mem_of_mem_take hx)) (fun x hx p hp=>by
    obtain ⟨_,q,_⟩:=hread x (List.mem_of_mem_take hx) p hp
    omega) (Beu h.b.pv hv') ⟨by rw [Dn,En]; omega,hp2⟩ (h.b.g.more fun x hx p hp=>by
    obtain ⟨q,_,_⟩:=hread x (List.mem_of_mem_take hx) p hp
    rcases q with q | q<;>omega) (by omega) (by omega)
  have lives:∀ m:Nat,Mt w (W++pg.take m) L:=fun m=>h.lv.app fun x hx p hp=>by
   obtain ⟨_,q,_⟩:=hread x (List.mem_of_mem_take hx) p hp
   omega
  have perf:∀ m:Int,B9 (D,P,()) (C9 ((bN n r.2.1 + (u0 + (qP L w (r.2.2.1 + u0) E).length):Nat):Int) pg) m=(D,P++Rq ((bN n r.2.1 + (u0 + (qP L w (r.2.2.1 + u0) E).length):Nat):Int) (pg.take m.toNat),()):=fun m=>by
   rw [Agn h.vd,Agm,d5 _ _ _ _ (fun x hx=>h64 x (List.mem_of_mem_take hx)) (by omega) (by rw [h.c.len,List.length_take]; omega) (by rw [h.plen,List.length_take]; omega)]
  have wrt:∀ m:Int,Db ((C9 ((bN n r.2.1 + (u0 + (qP L w (r.2.2.1 + u0) E).length):Nat):Int) pg).take m.toNat)=pg.take m.toNat:=fun m=>by rw [Agm,Sr]
  have pend:∀ m:Nat,∀ v∈P++Rq ((bN n r.2.1 + (u0 + (qP L w (r.2.2.1 + u0) E).length):Nat):Int) (pg.take m),((bN n r.2.1 + u0:Nat):Int)≤v.1∧v.1 < ((bN n r.2.1 + hN n:Nat):Int)∧v.2.1.size=64:=fun m v hv=>by
   rcases List.mem_append.1 hv with q | q
   ·exact h.pos v q
   ·have g:=Ad9 q
    have key:∀ (L:List Aa) (a:Int),(∀ x∈L,x.size=64)→∀ v∈Rq a L,v.2.1.size=64:=by
     intro L
     induction L with
     | nil=>intro a _ v hv; cases hv
     | cons x L ih=>
      intro a hx v hv
      rcases List.mem_cons.1 hv with rfl | hv
      ·exact hx x List.mem_cons_self
      ·exact ih (a + 1) (fun y hy=>hx y (List.mem_cons_of_mem _ hy)) v hv
    have hm:(pg.take m).length≤pg.length:=by rw [List.length_take]; omega
    exact ⟨by omega,by omega,key _ _ (fun x hx=>h64 x (List.mem_of_mem_take hx)) v q⟩
  have vd:∀ m:Nat,Ap (D,P++Rq ((bN n r.2.1 + (u0 + (qP L w (r.2.2.1 + u0) E).length):Nat):Int) (pg.take m),())=true:=fun m=>Z8 h.c.n8 h.c.n2 h.c.sec (by rw [Dn,h.plen,Ad8,List.length_take]; omega) fun v hv=>by
   obtain ⟨p1,p2,p3⟩:=pend m v hv
   exact ⟨by omega,by omega,p3⟩
  show Kq (B + 1) w n (Cc _ _ _)
  unfold Cc
  cases hfull:Om (K7 w D P true (w,(n:Int),L,r,((u0 + (qP L w (r.2.2.1 + u0) E).length:Nat):Int),((qP L w (r.2.2.1 + u0) E).length:Int),st,()) past W) (2,b,cut,f,()) (0,(w,(n:Int),L,r,((u0 + (qP L w (r.2.2.1 + u0) E).length:Nat):Int) + (pg.length:Int),((qP L w (r.2.2.1 + u0) E).length:Int) + (pg.length:Int),st',()),C9 ((bN n r.2.1 + (u0 + (qP L w (r.2.2.1 + u0) E).length):Nat):Int) pg,()) with
  | true=>exact h.same hB
  | false=>
   unfold Om Gs E7 at hfull
   simp only [Bool.or_eq_false_iff,decide_eq_false_iff_not] at hfull
   obtain ⟨g1,g2⟩:=hfull
   rw [wrt] at g1
   have g1:¬ (W++pg.take (Vr (2,b,cut,f,()) (0,(w,(n:Int),L,r,((u0 + (qP L w (r.2.2.1 + u0) E).length:Nat):Int) + (pg.length:Int),((qP L w (r.2.2.1 + u0) E).length:Int) + (pg.length:Int),st',()),C9 ((bN n r.2.1 + (u0 + (qP L w (r.2.2.1 + u0) E).length):Nat):Int) pg,())).toNat).length > 2000:=g1
   have g2:¬ (past++[st']).length > 200:=g2
   unfold Gs E7
   rw [wrt]
   unfold Vr at g1 ⊢
   cases hcut:Wf (2,b,cut,f,()) (0,(w,(n:Int),L,r,((u0 + (qP L w (r.2.2.1 + u0) E).length:Nat):Int) + (pg.length:Int),((qP L w (r.2.2.1 + u0) E).length:Int) + (pg.length:Int),st',()),C9 ((bN n r.2.1 + (u0 + (qP L w (r.2.2.1 + u0) E).length):Nat):Int) pg,()) with
   | true=>
    rw [hcut] at g1
    simp only [cond_true,cond_false] at g1 ⊢
    rw [perf,Ra (vd _)]
    have k:=j8 (w:=w) (r:=r) h.c.n8 h.c.n2 h.c.hw h.c.sec h.c.root (vd cut.toNat) f fun v hv=>by have:=pend _ v hv; omega
    refine Kq.dn (bas cut.toNat (by omega) (by omega)) h.c.n8 h.c.n2 h.c.hw k.1 fun nf=>?_
    exact DnP.of (core _ _ k.1 nf k.2 fun i hi=>Ue (fun v hv=>by have:=pend _ v hv; omega) D) (bas cut.toNat (by omega) (by omega)) (by omega) (lives _)
   | false=>
    rw [hcut] at g1
    have elen:(C9 ((bN n r.2.1 + (u0 + (qP L w (r.2.2.1 + u0) E).length):Nat):Int) pg).length=pg.length:=Q7 _ _
    simp only [cond_false,elen,Fz,Nv (Nat.le_refl pg.length)] at g1 ⊢
    rw [perf,Fz]
    have hbas:=bas pg.length (by rw [Nv (Nat.le_refl _)]; omega) (by omega)
    have hcore:=core pg.length
    have hlives:=lives pg.length
    have hvd:=vd pg.length
    rw [Nv (Nat.le_refl _)] at hbas hcore hlives hvd ⊢
    have es:((w,(n:Int),L,r,((u0 + (qP L w (r.2.2.1 + u0) E).length:Nat):Int) + (pg.length:Int),((qP L w (r.2.2.1 + u0) E).length:Int) + (pg.length:Int),st',()):Ez)=(w,(n:Int),L,r,((u0 + (qP L w (r.2.2.1 + u0) (E++[Be b])).length:Nat):Int),((qP L w (r.2.2.1 + u0) (E++[Be b])).length:Int),st',()):=by
     rw [hQ',show ((u0 + (qP L w (r.2.2.1 + u0) E).length:Nat):Int) + (pg.length:Int)=((u0 + ((qP L w (r.2.2.1 + u0) E).length + pg.length):Nat):Int) by omega,show ((qP L w (r.2.2.1 + u0) E).length:Int) + (pg.length:Int)=(((qP L w (r.2.2.1 + u0) E).length + pg.length:Nat):Int) by omega]
    show Kq (B + 1) w n (K7 w D (P++Rq _ pg) true (w,(n:Int),L,r,((u0 + (qP L w (r.2.2.1 + u0) E).length:Nat):Int) + (pg.length:Int),((qP L w (r.2.2.1 + u0) E).length:Int) + (pg.length:Int),st',()) (past++[st']) (W++pg))
    rw [es]
    refine Kq.up hbas h.c.n8 h.c.n2 h.c.hw h.c.sec hvd (Aj4 h.c.n8 h.c.n2 h.c.hw (Cw hl) h.c.rok ⟨by omega,by omega⟩ ⟨by omega,by omega⟩ hv' hR) fun nf=>?_
    refine ⟨r,u0,L,s0,E++[Be b],st',hcore D h.c.sec nf h.c.root (fun _ _=>rfl),hbas,h.l1,by omega,?_,rfl,ho,⟨past,rfl⟩,hlives,fun x hx p hp h4 hL=>?_⟩
    ·rw [eQ,h.p,Bem]
     congr 2
     omega
    ·rcases List.mem_append.1 hx with q | q
     ·exact h.ea x q p hp h4 hL
     ·obtain ⟨_,_,j,j1,j2,_⟩:=hread x q p hp
      omega
end
section
variable {B:Nat} {w:Int} {n:Nat} {D D' W X:List Aa} {P ws:List Wr} {past past':List Cv} {r r':Rt} {u0:Nat} {L:Int} {s0 st s:Cv} {E F:List Aa} {sto:Ez}
theorem Bpu {v:Wr}:∀ {L:List Aa} {a:Int},(∀ x∈L,x.size=64)→v∈Rq a L→v.2.1.size=64
 | [],_,_,h=>by cases h
 | x::L,a,hx,h=>by
  rcases List.mem_cons.1 h with rfl | h
  ·exact hx x List.mem_cons_self
  ·exact Bpu (fun y hy=>hx y (List.mem_cons_of_mem _ hy)) h
theorem Bjd (hs:Sec n D) {a:Nat} {L:List Aa} (h:∀ x∈L,x.size=64):Sec n (As2 D a L):=by
 refine ⟨by rw [Ben]; exact hs.len,fun i hi=>?_⟩
 by_cases q:i < a∨a + L.length≤i
 ·rw [Ud _ _ _ _ q]; exact hs.sz i hi
 ·have key:∀ (L D:List Aa) (a:Nat),(∀ x∈L,x.size=64)→(∀ i,i < D.length→(D.getD i z0).size=64)→∀ i,i < D.length→((As2 D a L).getD i z0).size=64:=by
   intro L
   induction L with
   | nil=>intro D a _ hD i hi; exact hD i hi
   | cons x L ih=>
    intro D a hx hD i hi
    refine ih (D.set a x) (a + 1) (fun y hy=>hx y (List.mem_cons_of_mem _ hy)) (fun j hj=>?_) i (by rw [List.length_set]; exact hi)
    rw [List.length_set] at hj
    by_cases z:a=j
    ·subst z; rw [J5 hj]; exact hx x List.mem_cons_self
    ·rw [getD_set_ne z]; exact hD j hj
  exact key L D a h (fun i hi=>hs.sz i (by rw [← hs.len]; exact hi)) i (by rw [hs.len]; exact hi)
structure Bhd (w:Int) (n:Nat) (D D1:List Aa) (r:Rt) (u0:Nat) (Q:List Aa):Prop where
 s:Sec n D1
 rt:At (D1,[],()) w=r
 p:∀ i,i < u0→D1.getD (bN n r.2.1 + i) z0=D.getD (bN n r.2.1 + i) z0
 q:∀ i,i < Q.length→D1.getD (bN n r.2.1 + (u0 + i)) z0=Q.getD i z0
theorem Nb.sync (h:Nb B w n D P sto past W r u0 L s0 E st):Bhd w n D (Hb D P) r u0 (qP L w (r.2.2.1 + u0) E):=by
 have hb:=h.bin
 have hq:=h.c.qh
 have hh:=L9 h.c.n8 h.c.n2
 have e:Hb D P=As2 D (bN n r.2.1 + u0) (qP L w (r.2.2.1 + u0) E):=by rw [h.p,A38]
 have s1:Sec n (Hb D P):=by rw [e]; exact Bjd h.c.sec h.q64
 refine ⟨s1,?_,fun i hi=>?_,fun i hi=>?_⟩
 ·rw [Anj (h.c.sec.ok h.c.n8 h.c.n2) (s1.ok h.c.n8 h.c.n2) h.c.hw (by rw [e]; exact Ud _ _ _ _ (by omega)) (by rw [e]; exact Ud _ _ _ _ (by omega))]
  exact h.c.root
 ·rw [e]; exact Ud _ _ _ _ (by omega)
 ·rw [e,← Nat.add_assoc]
  exact Bbb (qP L w (r.2.2.1 + u0) E) D (bN n r.2.1 + u0) i hi (by rw [h.c.len]; omega)
theorem A1z (D:List Aa) (P:List Wr):opS (D,P,()) D6=(Hb D P,[],()):=rfl
theorem Bns {used loose:Int} (hv:As (w,(n:Int),L,r,used,loose,st,())=true):Kk (w,(n:Int),L,r,used,loose,st,())=(0,(w,(n:Int),L,r,used,0,st,()),[D6],()):=by
 unfold Kk
 rw [hv]
 rfl
theorem Nb.flushed (h:Nb B w n D P sto past W r u0 L s0 E st) {D1:List Aa} (y:Bhd w n D D1 r u0 (qP L w (r.2.2.1 + u0) E)) (nf:NoF w n D1 (W++X)) (hp:st∈past') (rm:∀ s∈past',C5 s w≤(hN n:Int) - 1)
  (hX:∀ x∈X,∀ p,Ay x w=(p,true)→p.1≠4→¬ InR w n r u0 p):Ac1 w n D1 (W++X) past' r (u0 + (qP L w (r.2.2.1 + u0) E).length) L st []:=
 h.c.synced h.o y.s nf y.rt y.p y.q hp rm hX
theorem Aa9 {Q:Cv→Prop} {x:Cv} (h:Q x):∀ s∈[x],Q s:=fun s hs=>by rw [List.mem_singleton.1 hs]; exact h
theorem Nb.flush (h:Nb B w n D P sto past W r u0 L s0 E st) (hB:B + 1≤9000) (b:List Bc) (cut:Int) (f:List Int):Kq (B + 1) w n (Ou (K7 w D P true sto past W) (3,b,cut,f,())):=by
 have hsok:=h.sok
 have hs:=h.s
 have hvd:=h.vd
 have hq:=h.c.qh
 have hlb:=h.lb
 have y:=h.sync
 obtain ⟨f1,f2,hl⟩:=h.h9
 subst hs
 have e0:Ou (K7 w D P true (w,(n:Int),L,r,((u0 + (qP L w (r.2.2.1 + u0) E).length:Nat):Int),((qP L w (r.2.2.1 + u0) E).length:Int),st,()) past W) (3,b,cut,f,())=
   bif (Kk (w,(n:Int),L,r,((u0 + (qP L w (r.2.2.1 + u0) E).length:Nat):Int),((qP L w (r.2.2.1 + u0) E).length:Int),st,())).1 != 0 then (K7 w D P true (w,(n:Int),L,r,((u0 + (qP L w (r.2.2.1 + u0) E).length:Nat):Int),((qP L w (r.2.2.1 + u0) E).length:Int),st,()) past W)
   else Cc (K7 w D P true (w,(n:Int),L,r,((u0 + (qP L w (r.2.2.1 + u0) E).length:Nat):Int),((qP L w (r.2.2.1 + u0) E).length:Int),st,()) past W) (3,b,cut,f,()) (Kk (w,(n:Int),L,r,((u0 + (qP L w (r.2.2.1 + u0) E).length:Nat):Int),((qP L w (r.2.2.1 + u0) E).length:Int),st,())):=rfl
 rw [e0,Bns hsok]
 have nil:∀ x∈([]:List Aa),∀ p,Ay x w=(p,true)→p.1≠4→¬ InR w n r u0 p:=fun x hx=>by cases hx
 have W0:∀ {D1:List Aa},NoF w n D1 W→NoF w n D1 (W++[]):=fun h=>by rw [List.append_nil]; exact h
 have perf:∀ m:Int,B9 (D,P,()) [D6] m=(D,P,())∧m≤0∨B9 (D,P,()) [D6] m=(Hb D P,[],())∧1≤m:=fun m=>by
  rw [Agn hvd]
  by_cases q:m≤0
  ·refine .inl ⟨?_,q⟩
   rw [show m.toNat=0 by omega]
   rfl
  ·refine .inr ⟨?_,by omega⟩
   rw [show m.toNat=m.toNat - 1 + 1 by omega]
   simp only [List.take_succ_cons,List.take_nil,List.foldl]
   exact A1z D P
 have wrt:∀ m:Nat,Db ([D6].take m)=[]:=fun m=>by cases m<;>simp [Db,D6]
 show Kq (B + 1) w n (Cc _ _ _)
 unfold Cc
 cases hfull:Om (K7 w D P true (w,(n:Int),L,r,((u0 + (qP L w (r.2.2.1 + u0) E).length:Nat):Int),((qP L w (r.2.2.1 + u0) E).length:Int),st,()) past W) (3,b,cut,f,()) (0,(w,(n:Int),L,r,((u0 + (qP L w (r.2.2.1 + u0) E).length:Nat):Int),0,st,()),[D6],()) with
 | true=>exact h.same hB
 | false=>
  unfold Gs E7
  rw [wrt]
  unfold Vr
  cases hcut:Wf (3,b,cut,f,()) (0,(w,(n:Int),L,r,((u0 + (qP L w (r.2.2.1 + u0) E).length:Nat):Int),0,st,()),[D6],()) with
  | true=>
   simp only [cond_true,cond_false]
   rw [List.append_nil]
   rcases perf cut with ⟨e,_⟩ | ⟨e,_⟩
   ·rw [e,Ra hvd]
    have k:=h.power f
    have ek:j7 (K7 w D P true (w,(n:Int),L,r,((u0 + (qP L w (r.2.2.1 + u0) E).length:Nat):Int),((qP L w (r.2.2.1 + u0) E).length:Int),st,()) past W) f=K7 w (Rx f D P) [] false Vt past W:=by
     unfold j7
     show (w,Eo (D,P,()) f,_)=_
     rw [Ra hvd]
    rw [ek] at k
    exact k.mono hB
   ·rw [e,Ra (y.s.ok h.c.n8 h.c.n2)]
    refine Kq.mono (Kq.dn (past:=past) (D:=Hb D P) h.b h.c.n8 h.c.n2 h.c.hw y.s fun nf=>?_) hB
    have c':=h.flushed (X:=[]) y (W0 nf) h.mem h.c.rm nil
    rw [List.append_nil] at c'
    exact DnP.of c' h.b hlb h.lv
  | false=>
   simp only [cond_false]
   rcases perf (1:Int) with ⟨_,e⟩ | ⟨e,_⟩
   ·omega
   ·have e1:(([D6]:List Dc).length:Int)=1:=rfl
    have hb':Bas B w n W [st] r:={ h.b with pv:=Aa9 h.sv,pl:=⟨Nat.le_refl 1,by show 1≤200; omega⟩ }
    show Kq (B + 1) w n (w,B9 (D,P,()) [D6] (([D6]:List Dc).length:Int),true,(w,(n:Int),L,r,((u0 + (qP L w (r.2.2.1 + u0) E).length:Nat):Int),0,st,()),[st],W++[],())
    rw [e1,e,List.append_nil]
    refine Kq.mono (Kq.up (D:=Hb D P) (P:=[]) hb' h.c.n8 h.c.n2 h.c.hw y.s (y.s.ok h.c.n8 h.c.n2) (Aj4 h.c.n8 h.c.n2 h.c.hw (Cw hl) h.c.rok ⟨by omega,by omega⟩ ⟨Int.le_refl 0,by omega⟩ h.sv (h.c.rm st h.mem)) fun nf=>?_) hB
    have c':=h.flushed (X:=[]) (past':=[st]) y (W0 nf) (List.mem_singleton.2 rfl) (Aa9 (h.c.rm st h.mem)) nil
    rw [List.append_nil] at c'
    exact ⟨r,_,L,st,[],st,c',hb',h.l1,hlb,rfl,rfl,rfl,⟨[],rfl⟩,h.lv,h.ea⟩
end
end Go.Proofs.YtfkefgbihlfjmaaGreat.V
namespace Go.Proofs.YtfkefgbihlfjmaaGreat.V
open Go Go.Proofs.YtfkefgbihlfjmaaGreat.R
variable {B:Nat} {w:Int} {n:Nat} {D D' W X:List Aa} {P ws:List Wr} {past past':List Cv} {r r':Rt} {u0:Nat} {L l:Int} {s0 st s:Cv} {E F:List Aa} {sto:Ez}
def Kg (n:Nat) (r:Rt) (l:Int):Rt:=(r.1 + 1,1 - r.2.1,r.2.2.1 + (hN n:Int),l,())
def Yj (r:Rt):Nat:=((r.1 + 1) % 2).toNat
def Hm (w:Int) (n:Nat) (r:Rt) (l:Int) (s:Cv):List Aa:=mvP w l (r.2.2.1 + (hN n:Int)) s
def Rb (w:Int) (n:Nat) (r:Rt) (l:Int) (s:Cv):List Dc:=C9 ((bN n (1 - r.2.1):Nat):Int) (Hm w n r l s)++[D6,Lb ((Yj r:Nat):Int) (B5 (Kg n r l) w),D6]
structure I8 (w:Int) (n:Nat) (D:List Aa) (P:List Wr) (W:List Aa) (r:Rt) (l:Int) (s:Cv):Prop where
 n8:8≤n
 n2:n≤200
 hw:Bq w 1 8=true
 sec:Sec n D
 vd:Ap (D,P,())=true
 pl:P.length≤99
 pp:∀ v∈P,2≤v.1.toNat∧v.1.toNat < n
 root:At (D,[],()) w=r
 sync:Sec n (Hb D P)
 sroot:At (Hb D P,[],()) w=r
 tb:r.1≤9000
 fb:r.2.2.1≤900001
 hl:Bq l 1 60000=true
 sv:Ak s=true
 rm:C5 s w≤(hN n:Int) - 1
 rl:r.2.2.2.1≤l
namespace I8
theorem rok (h:I8 w n D P W r l s):Ba4 r:=by rw [← h.root]; exact To (h.sec.ok h.n8 h.n2) h.hw
theorem f1 (h:I8 w n D P W r l s):1≤r.2.2.1 + (hN n:Int)∧r.2.2.1 + (hN n:Int)≤999999000:=by
 have:=h.rok.2.2.1.1
 have:=L9 h.n8 h.n2
 have:=h.fb
 omega
theorem nok (h:I8 w n D P W r l s) {l':Int} (h0:0≤l') (h1:l'≤60000):Ba4 (Kg n r l'):=by
 obtain ⟨⟨t1,t2⟩,⟨H1,H2⟩,⟨f1,f2⟩,l1,l2⟩:=h.rok
 have:=h.tb
 have:=h.fb
 have:=L9 h.n8 h.n2
 refine ⟨⟨?_,?_⟩,⟨?_,?_⟩,⟨?_,?_⟩,?_,?_⟩
 ·show 0≤r.1 + 1; omega
 ·show r.1 + 1≤1000000000; omega
 ·show 0≤1 - r.2.1; omega
 ·show 1 - r.2.1≤1; omega
 ·show 1≤r.2.2.1 + (hN n:Int); omega
 ·show r.2.2.1 + (hN n:Int)≤999999000; omega
 ·exact h0
 ·exact h1
theorem ml (h:I8 w n D P W r l s):1≤(Hm w n r l s).length∧(Hm w n r l s).length≤hN n:=by
 have h1:=Bjb (life:=l) (f:=r.2.2.1 + (hN n:Int)) (s:=s) h.hw
 have h2:=h.rm
 have h3:=(Bpg s w).1
 unfold Hm
 omega
theorem m64 (h:I8 w n D P W r l s):∀ x∈Hm w n r l s,x.size=64:=by
 have:=h.f1
 have:=h.rm
 have:=L9 h.n8 h.n2
 exact Brs h.hw h.hl (by omega) (by omega) (by omega)
theorem mpage (h:I8 w n D P W r l s):∀ x∈Hm w n r l s,∀ p,Ay x w=(p,true)→p.1≠4∧p.2.1=l∧r.2.2.1 + (hN n:Int)≤p.2.2.1∧p.2.2.1 < r.2.2.1 + (hN n:Int) + ((Hm w n r l s).length:Int):=fun x hx p hp=>by
 have:=h.f1
 have:=h.rm
 have:=L9 h.n8 h.n2
 obtain ⟨j,j1,rfl⟩:=As4 hx
 obtain ⟨q,q1,q2,q3,q4⟩:=Ber (s:=s) h.hw h.hl (show 1≤r.2.2.1 + (hN n:Int) by omega) (by omega) (by omega) j j1
 have hp:Ay ((mvP w l (r.2.2.1 + (hN n:Int)) s).getD j z0) w=(p,true):=hp
 rw [q1] at hp
 have:q=p:=congrArg Prod.fst hp
 subst this
 exact ⟨q2,q3,by omega,by omega⟩
theorem rpage (h:I8 w n D P W r l s):∃ p,Ay (B5 (Kg n r l) w) w=(p,true)∧p.1=4∧Fr p=Kg n r l∧p.2.1=l∧Pb (B5 (Kg n r l) w) w ((Yj r:Nat):Int)=some (Kg n r l):=by
 have:=h.rok.1.1
 obtain ⟨l1,l2⟩:=Cw h.hl
 have e:((Yj r:Nat):Int)=(Kg n r l).1 % 2:=by
  unfold Yj
  show (((r.1 + 1) % 2).toNat:Int)=(r.1 + 1) % 2
  omega
 rw [e]
 exact Bk0 (h.nok (by omega) l2) (by show 1≤r.1 + 1; omega) l1 h.hw
theorem r64 (h:I8 w n D P W r l s):(B5 (Kg n r l) w).size=64:=by
 obtain ⟨p,hp,_⟩:=h.rpage
 exact Xr hp
theorem rk (h:I8 w n D P W r l s):((Yj r:Nat):Int)=(r.1 + 1) % 2∧Yj r < 2:=by
 unfold Yj
 omega
def lay (D:List Aa) (P:List Wr) (w:Int) (n:Nat) (r:Rt) (l:Int) (s:Cv):List Aa:=As2 (Hb D P) (bN n (1 - r.2.1)) (Hm w n r l s)
theorem bb (h:I8 w n D P W r l s):2≤bN n (1 - r.2.1)∧bN n (1 - r.2.1) + hN n≤n:=by
 have:=h.rok.2.1
 exact A9o h.n8 h.n2 ⟨by omega,by omega⟩
theorem lsec (h:I8 w n D P W r l s):Sec n (lay D P w n r l s):=Bjd h.sync h.m64
theorem lroot (h:I8 w n D P W r l s):At (lay D P w n r l s,[],()) w=r:=by
 have:=h.bb
 rw [Anj (h.sync.ok h.n8 h.n2) (h.lsec.ok h.n8 h.n2) h.hw (Ud _ _ _ _ (by omega)) (Ud _ _ _ _ (by omega))]
 exact h.sroot
theorem lin (h:I8 w n D P W r l s):∀ i,i < (Hm w n r l s).length→(lay D P w n r l s).getD (bN n (1 - r.2.1) + i) z0=(Hm w n r l s).getD i z0:=fun i hi=>
 Bbb (Hm w n r l s) (Hb D P) (bN n (1 - r.2.1)) i hi (by
  have:=h.bb
  have:=h.ml
  rw [h.sync.len]
  omega)
theorem lout (h:I8 w n D P W r l s):∀ i,i < hN n→(lay D P w n r l s).getD (bN n r.2.1 + i) z0=(Hb D P).getD (bN n r.2.1 + i) z0:=fun i hi=>by
 have:=A37 h.n8 h.n2 h.rok.2.1
 have:=h.ml
 exact Ud _ _ _ _ (by omega)
theorem perf (h:I8 w n D P W r l s) (m:Nat):
  (m≤(Hm w n r l s).length∧B9 (D,P,()) (Rb w n r l s) m=(D,P++Rq ((bN n (1 - r.2.1):Nat):Int) ((Hm w n r l s).take m),())∧Db ((Rb w n r l s).take m)=(Hm w n r l s).take m)∨
  (m=(Hm w n r l s).length + 1∧B9 (D,P,()) (Rb w n r l s) m=(lay D P w n r l s,[],())∧Db ((Rb w n r l s).take m)=Hm w n r l s)∨
  (m=(Hm w n r l s).length + 2∧B9 (D,P,()) (Rb w n r l s) m=(lay D P w n r l s,[(((Yj r:Nat):Int),B5 (Kg n r l) w,())],())∧Db ((Rb w n r l s).take m)=Hm w n r l s++[B5 (Kg n r l) w])∨
  (m≥(Hm w n r l s).length + 3∧B9 (D,P,()) (Rb w n r l s) m=((lay D P w n r l s).set (Yj r) (B5 (Kg n r l) w),[],())∧Db ((Rb w n r l s).take m)=Hm w n r l s++[B5 (Kg n r l) w]):=by
 have hb:=h.bb
 have hm:=h.ml
 have hh:=L9 h.n8 h.n2
 have hk:=h.rk
 have hlen:(C9 ((bN n (1 - r.2.1):Nat):Int) (Hm w n r l s)).length=(Hm w n r l s).length:=Q7 _ _
 have hall:(C9 ((bN n (1 - r.2.1):Nat):Int) (Hm w n r l s)).foldl opS (D,P,())=(D,P++Rq ((bN n (1 - r.2.1):Nat):Int) (Hm w n r l s),()):=
  d5 _ _ _ _ h.m64 (by omega) (by rw [h.sec.len]; omega) (by have:=h.pl; omega)
 have hsync:opS (D,P++Rq ((bN n (1 - r.2.1):Nat):Int) (Hm w n r l s),()) D6=(lay D P w n r l s,[],()):=by
  rw [A1z,Bnp,A38]
  rfl
 have hput:opS (lay D P w n r l s,[],()) (Lb ((Yj r:Nat):Int) (B5 (Kg n r l) w))=(lay D P w n r l s,[(((Yj r:Nat):Int),B5 (Kg n r l) w,())],()):=by
  have:=d5 [B5 (Kg n r l) w] ((Yj r:Nat):Int) (lay D P w n r l s) [] (fun x hx=>by rw [List.mem_singleton.1 hx]; exact h.r64) (by omega) (by rw [h.lsec.len]; show ((Yj r:Nat):Int) + 1≤(n:Int); omega) (by show 0 + 1≤300; omega)
  exact this
 have hsync2:opS (lay D P w n r l s,[(((Yj r:Nat):Int),B5 (Kg n r l) w,())],()) D6=((lay D P w n r l s).set (Yj r) (B5 (Kg n r l) w),[],()):=by
  rw [A1z]
  rfl
 rw [Agn h.vd,Fz]
 unfold Rb
 have e1:∀ t:Nat,(C9 ((bN n (1 - r.2.1):Nat):Int) (Hm w n r l s)++[D6,Lb ((Yj r:Nat):Int) (B5 (Kg n r l) w),D6]).take ((Hm w n r l s).length + t)=C9 ((bN n (1 - r.2.1):Nat):Int) (Hm w n r l s)++[D6,Lb ((Yj r:Nat):Int) (B5 (Kg n r l) w),D6].take t:=fun t=>by
  rw [← hlen,List.take_length_add_append]
 by_cases c0:m≤(Hm w n r l s).length
 ·refine .inl ⟨c0,?_⟩
  rw [List.take_append_of_le_length (by rw [hlen]; exact c0),Agm]
  refine ⟨d5 _ _ _ _ (fun x hx=>h.m64 x (List.mem_of_mem_take hx)) (by omega) (by rw [h.sec.len,List.length_take]; omega) (by have:=h.pl; rw [List.length_take]; omega),Sr _ _⟩
 ·by_cases c1:m=(Hm w n r l s).length + 1
  ·refine .inr (.inl ⟨c1,?_⟩)
   rw [c1,e1,List.foldl_append,hall,Aqo,Sr]
   refine ⟨?_,?_⟩
   ·show opS _ D6=_
    exact hsync
   ·show Hm w n r l s++[]=_
    rw [List.append_nil]
  ·by_cases c2:m=(Hm w n r l s).length + 2
   ·refine .inr (.inr (.inl ⟨c2,?_⟩))
    rw [c2,e1,List.foldl_append,hall,Aqo,Sr]
    refine ⟨?_,rfl⟩
    show opS (opS _ D6) (Lb _ _)=_
    rw [hsync,hput]
   ·refine .inr (.inr (.inr ⟨by omega,?_⟩))
    rw [show m=(Hm w n r l s).length + (m - (Hm w n r l s).length) by omega,e1,List.foldl_append,hall,Aqo,Sr,Nv (show ([D6,Lb ((Yj r:Nat):Int) (B5 (Kg n r l) w),D6]:List Dc).length≤m - (Hm w n r l s).length by show 3≤_; omega)]
    refine ⟨?_,rfl⟩
    show opS (opS (opS _ D6) (Lb _ _)) D6=_
    rw [hsync,hput,hsync2]
end I8
theorem A4c (h:I8 w n D P W r l s) {D' W':List Aa} (hs:Sec n D') (nf:NoF w n D' W') (g:Aa8 w n W' r) (lv:Mt w W' l) (hD:∀ i,i≠Yj r→D'.getD i z0=(I8.lay D P w n r l s).getD i z0):
  At (D',[],()) w=r∨∃ l',0≤l'∧l'≤l∧At (D',[],()) w=Kg n r l':=by
 obtain ⟨k1,k2⟩:=h.rk
 have e:=Beo (h.lsec.ok h.n8 h.n2) (hs.ok h.n8 h.n2) h.hw h.lroot k1 hD
 rw [e]
 have hh:=L9 h.n8 h.n2
 cases hc:Pb (D'.getD (Yj r) z0) w ((Yj r:Nat):Int) with
 | none=>exact .inl rfl
 | some q=>
  rw [Qg]
  by_cases hq:q.1 > r.1
  ·rw [Af hq]
   obtain ⟨p,p1,p2,p3,p4,p5⟩:=Ani hc
   have hW:=nf (Yj r) (by omega) (by rw [p1])
   have hl:=lv _ hW p p1
   have hl0:=(Av8 p1).1
   rcases g _ hW p p1 p2 with z | ⟨z1,z2,z3⟩
   ·rw [← p3] at z; omega
   ·rw [← p3] at z1 z2 z3
    refine .inr ⟨p.2.1,by omega,hl,?_⟩
    have z4:q.2.2.2.1=p.2.1:=by rw [p3]; rfl
    obtain ⟨a,b,c,d,⟨⟩⟩:=q
    dsimp only at z1 z2 z3 z4
    show (a,b,c,d,())=Kg n r p.2.1
    unfold Kg
    rw [z1,z2,z3,z4]
  ·rw [Bd hq]
   exact .inl rfl
theorem Anl (h:I8 w n D P W r l s):Sec n ((I8.lay D P w n r l s).set (Yj r) (B5 (Kg n r l) w))∧At ((I8.lay D P w n r l s).set (Yj r) (B5 (Kg n r l) w),[],()) w=Kg n r l:=by
 obtain ⟨k1,k2⟩:=h.rk
 have hh:=L9 h.n8 h.n2
 have hlen:=h.lsec.len
 have hs:Sec n ((I8.lay D P w n r l s).set (Yj r) (B5 (Kg n r l) w)):=by
  refine ⟨by rw [List.length_set]; exact hlen,fun i hi=>?_⟩
  by_cases q:Yj r=i
  ·subst q; rw [J5 (by omega)]; exact h.r64
  ·rw [getD_set_ne q]; exact h.lsec.sz i hi
 refine ⟨hs,?_⟩
 obtain ⟨p,p1,p2,p3,p4,p5⟩:=h.rpage
 rw [Beo (h.lsec.ok h.n8 h.n2) (hs.ok h.n8 h.n2) h.hw h.lroot k1 (fun i hi=>getD_set_ne (fun q=>hi q.symm)),J5 (by omega),p5,Qg,Af (show (Kg n r l).1 > r.1 by show r.1 + 1 > r.1; omega)]
 rfl
theorem A4d (h:I8 w n D P W r l s) {D' W':List Aa} {l':Int} (hl':l'≤l) (hs:Sec n D') (nf:NoF w n D' W') (rt:At (D',[],()) w=Kg n r l') (hD:∀ i,i≠Yj r→D'.getD i z0=(I8.lay D P w n r l s).getD i z0)
  (hp:s∈past') (rm:∀ x∈past',C5 x w≤(hN n:Int) - 1)
  (hW:∀ x∈W',∀ p,Ay x w=(p,true)→p.1≠4→p.2.1≤l∧(p.2.1=l→p.2.2.1 < r.2.2.1 + (hN n:Int) + ((Hm w n r l s).length:Int))):
  Ac1 w n D' W' past' (Kg n r l') (Hm w n r l s).length l s []:=by
 have hb:=h.bb
 have hm:=h.ml
 have hf:=h.f1
 have hfb:=h.fb
 have hk:=h.rk.2
 have hh:=L9 h.n8 h.n2
 have pre:Pre w n D' (Kg n r l') (Hm w n r l s).length l s:=Pre.moved (r:=Kg n r l') h.hw h.hl hl' hf.1 hf.2 h.n8 h.n2 h.sv hm.2 fun i hi=>by
  have hi:i < (Hm w n r l s).length:=hi
  show D'.getD (bN n (1 - r.2.1) + i) z0=(Hm w n r l s).getD i z0
  rw [hD _ (by omega)]
  exact h.lin i hi
 exact Bbd h.n8 h.n2 h.hw hs nf rt (by show r.2.2.1 + (hN n:Int) + 200≤999999000; omega) pre hp rm fun x hx p hp h4 hin=>by
  obtain ⟨a,b⟩:=hW x hx p hp h4
  have h1:r.2.2.1 + (hN n:Int) + ((Hm w n r l s).length:Int)≤p.2.2.1:=hin.1
  by_cases q:p.2.1=l
  ·have:=b q; omega
  ·omega
theorem Aa8.next (h:Aa8 w n W r) {l':Int}:Aa8 w n W (Kg n r l'):=fun x hx p hp h4=>by
 rcases h x hx p hp h4 with q | ⟨q,_⟩
 ·exact .inl (by show (Fr p).1≤r.1 + 1; omega)
 ·exact .inl (by show (Fr p).1≤r.1 + 1; omega)
theorem Aa8.root (h:I8 w n D P W r l s) {W':List Aa} (g:Aa8 w n W' r):Aa8 w n (W'++(Hm w n r l s++[B5 (Kg n r l) w])) r:=fun x hx p hp h4=>by
 rcases List.mem_append.1 hx with q | q
 ·exact g x q p hp h4
 ·rcases List.mem_append.1 q with q | q
  ·exact absurd h4 (h.mpage x q p hp).1
  ·rw [List.mem_singleton.1 q] at hp
   obtain ⟨p',p1,p2,p3,_⟩:=h.rpage
   rw [p1] at hp
   have:p'=p:=congrArg Prod.fst hp
   subst this
   rw [p3]
   exact .inr ⟨rfl,rfl,rfl⟩
theorem Aj5 (h:I8 w n D P W r l s):Mt w (Hm w n r l s++[B5 (Kg n r l) w]) l:=fun x q p hp=>by
 rcases List.mem_append.1 q with q | q
 ·have:=(h.mpage x q p hp).2.1; omega
 ·rw [List.mem_singleton.1 q] at hp
  obtain ⟨p',p1,p2,p3,p4,_⟩:=h.rpage
  rw [p1] at hp
  have:p'=p:=congrArg Prod.fst hp
  subst this
  omega
theorem x64 (h:I8 w n D P W r l s):∀ x∈Hm w n r l s++[B5 (Kg n r l) w],x.size=64:=fun x q=>by
 rcases List.mem_append.1 q with q | q
 ·exact h.m64 x q
 ·rw [List.mem_singleton.1 q]; exact h.r64
theorem Bbe (h:I8 w n D P W r l s) (used loose:Int):Ub (w,(n:Int),l,r,used,loose,s,())=(0,(w,(n:Int),l,Kg n r l,((Hm w n r l s).length:Int),0,s,()),Rb w n r l s,()):=by
 have hf:=h.f1
 have hh:=L9 h.n8 h.n2
 have htb:=h.tb
 have hrk:=h.rk.1
 have e1:mvL (w,(n:Int),l,r,used,loose,s,()) l=Hm w n r l s:=Brq (s:=(w,(n:Int),l,r,used,loose,s,())) (by show _=r.2.2.1 + Al (n:Int); rw [Q9 h.n8 h.n2]) h.hw h.hl hf.1 hf.2 (by have:=h.rm; show C5 s w≤200; omega)
 have e2:Bit (w,(n:Int),l,r,used,loose,s,()) l=Kg n r l:=by
  unfold Bit Kg
  show (r.1 + 1,1 - r.2.1,r.2.2.1 + Al (n:Int),l,())=_
  rw [Q9 h.n8 h.n2]
 have e3:Int.tmod (r.1 + 1) 2=((Yj r:Nat):Int):=by
  have:=h.rok.1.1
  rw [hrk,Int.tmod_eq_emod_of_nonneg (by omega)]
 have eM:j5 (w,(n:Int),l,r,used,loose,s,()) l=((w,(n:Int),l,Kg n r l,((Hm w n r l s).length:Int),0,s,()),Rb w n r l s,true):=by
  unfold j5
  show (bif decide (r.1 + 1 > 1000000000) then _ else bif decide (r.2.2.1 + Al (n:Int) > 999999000) then _ else _)=_
  rw [Bd (by omega),Q9 h.n8 h.n2,Bd (by omega)]
  simp only [cond_false]
  have hH:=h.rok.2.1
  have eo:A3p (w,(n:Int),l,r,used,loose,s,()) l=Rb w n r l s:=by
   unfold A3p Rb
   rw [e1,e2]
   show C9 (Bk (1 - r.2.1) (n:Int)) _++[D6,Lb (Int.tmod (r.1 + 1) 2) (B5 (Kg n r l) w),D6]=_
   rw [e3,A1y h.n8 h.n2 ⟨by omega,by omega⟩]
  rw [eo,e1,e2]
 unfold Ub
 have:(w,(n:Int),l,r,used,loose,s,()).2.2.1=l:=rfl
 rw [this,eM]
 rfl
end Go.Proofs.YtfkefgbihlfjmaaGreat.V
namespace Go.Proofs.YtfkefgbihlfjmaaGreat.V
open Go Go.Proofs.YtfkefgbihlfjmaaGreat.R
section
variable {B:Nat} {w:Int} {n:Nat} {D D' W X:List Aa} {P ws:List Wr} {past past':List Cv} {r r':Rt} {u0:Nat} {L l:Int} {s0 st s:Cv} {E F:List Aa} {sto:Ez}
theorem Awh (h:I8 w n D P W r l s) {up:Bool} {k:Int} (hk:(k==2)=false) (b:List Bc) (cut:Int) (f:List Int) (hpl:past.length≤200):
  ((2000 < W.length + hN n + 1∨¬ cut < 0)∧Cc (K7 w D P up sto past W) (k,b,cut,f,()) (0,(w,(n:Int),l,Kg n r l,((Hm w n r l s).length:Int),0,s,()),Rb w n r l s,())=K7 w D P up sto past W)∨
  (∃ m,¬ cut < 0∧(W++(Hm w n r l s).take m).length≤2000∧Cc (K7 w D P up sto past W) (k,b,cut,f,()) (0,(w,(n:Int),l,Kg n r l,((Hm w n r l s).length:Int),0,s,()),Rb w n r l s,())=K7 w (Rx f D (P++Rq ((bN n (1 - r.2.1):Nat):Int) ((Hm w n r l s).take m))) [] false Vt past (W++(Hm w n r l s).take m))∨
  (¬ cut < 0∧(W++Hm w n r l s).length≤2000∧Cc (K7 w D P up sto past W) (k,b,cut,f,()) (0,(w,(n:Int),l,Kg n r l,((Hm w n r l s).length:Int),0,s,()),Rb w n r l s,())=K7 w (I8.lay D P w n r l s) [] false Vt past (W++Hm w n r l s))∨
  (¬ cut < 0∧(W++(Hm w n r l s++[B5 (Kg n r l) w])).length≤2000∧Cc (K7 w D P up sto past W) (k,b,cut,f,()) (0,(w,(n:Int),l,Kg n r l,((Hm w n r l s).length:Int),0,s,()),Rb w n r l s,())=K7 w (Rx f (I8.lay D P w n r l s) [(((Yj r:Nat):Int),B5 (Kg n r l) w,())]) [] false Vt past (W++(Hm w n r l s++[B5 (Kg n r l) w])))∨
  (¬ cut < 0∧(W++(Hm w n r l s++[B5 (Kg n r l) w])).length≤2000∧Cc (K7 w D P up sto past W) (k,b,cut,f,()) (0,(w,(n:Int),l,Kg n r l,((Hm w n r l s).length:Int),0,s,()),Rb w n r l s,())=K7 w ((I8.lay D P w n r l s).set (Yj r) (B5 (Kg n r l) w)) [] false Vt past (W++(Hm w n r l s++[B5 (Kg n r l) w])))∨
  ((W++(Hm w n r l s++[B5 (Kg n r l) w])).length≤2000∧Cc (K7 w D P up sto past W) (k,b,cut,f,()) (0,(w,(n:Int),l,Kg n r l,((Hm w n r l s).length:Int),0,s,()),Rb w n r l s,())=K7 w ((I8.lay D P w n r l s).set (Yj r) (B5 (Kg n r l) w)) [] true (w,(n:Int),l,Kg n r l,((Hm w n r l s).length:Int),0,s,()) [s] (W++(Hm w n r l s++[B5 (Kg n r l) w]))):=by
 have hm:=h.ml
 have hlen:(Rb w n r l s).length=(Hm w n r l s).length + 3:=by unfold Rb; rw [Dn,Q7]; rfl
 have hb:=h.bb
 have hh:=L9 h.n8 h.n2
 have hpos:∀ m,Ap (D,P++Rq ((bN n (1 - r.2.1):Nat):Int) ((Hm w n r l s).take m),())=true:=fun m=>by
  have hd:=Ki h.vd
  refine Z8 h.n8 h.n2 h.sec (by have:=h.pl; rw [Dn,Ad8,List.length_take]; omega) fun v hv=>?_
  rcases List.mem_append.1 hv with q | q
  ·have:=Adw (P:=fun w:Wr=>0≤w.1∧w.1 < ((D,P,()):Dk).1.length∧w.2.1.size=64) (z:=zW) hd.pen v q
   rw [← h.sec.len]
   exact this
  ·have g:=Ad9 q
   have:((Hm w n r l s).take m).length≤(Hm w n r l s).length:=by rw [List.length_take]; omega
   exact ⟨by omega,by omega,Bpu (fun x hx=>h.m64 x (List.mem_of_mem_take hx)) q⟩
 have hpos2:Ap (I8.lay D P w n r l s,[(((Yj r:Nat):Int),B5 (Kg n r l) w,())],())=true:=Z8 h.n8 h.n2 h.lsec (by show 1≤300; omega) fun v hv=>by
  rw [List.mem_singleton.1 hv]
  have:=h.rk
  exact ⟨by show (0:Int)≤((Yj r:Nat):Int); omega,by show ((Yj r:Nat):Int) < (n:Int); omega,h.r64⟩
 unfold Cc
 cases hfull:Om (K7 w D P up sto past W) (k,b,cut,f,()) (0,(w,(n:Int),l,Kg n r l,((Hm w n r l s).length:Int),0,s,()),Rb w n r l s,()) with
 | true=>
  refine .inl ⟨?_,rfl⟩
  by_cases hc:cut < 0
  ·left
   unfold Om Gs E7 Vr at hfull
   have e1:Wf (k,b,cut,f,()) (0,(w,(n:Int),l,Kg n r l,((Hm w n r l s).length:Int),0,s,()),Rb w n r l s,())=false:=by
    unfold Wf
    show (decide (0≤cut)&&_)=false
    rw [Bd (by omega)]
    rfl
   rw [e1] at hfull
   simp only [cond_false,hk,Fz,Bool.or_eq_true,decide_eq_true_eq] at hfull
   rw [Nv (Nat.le_refl _)] at hfull
   have e2:Db (Rb w n r l s)=Hm w n r l s++[B5 (Kg n r l) w]:=by
    rcases h.perf (Rb w n r l s).length with ⟨q,_⟩ | ⟨q,_⟩ | ⟨q,_⟩ | ⟨q,q2,q3⟩
    ·omega
    ·omega
    ·omega
    ·rwa [Nv (Nat.le_refl _)] at q3
   rw [e2] at hfull
   rcases hfull with q | q
   ·have q:(W++(Hm w n r l s++[B5 (Kg n r l) w])).length > 2000:=q
    rw [Dn,Dn,En] at q
    omega
   ·have q:past.length > 200:=q
    omega
  ·exact .inr hc
 | false=>
  refine .inr ?_
  unfold Om Gs E7 at hfull
  rw [hk] at hfull
  simp only [Bool.or_eq_false_iff,decide_eq_false_iff_not] at hfull
  obtain ⟨g1,_⟩:=hfull
  unfold Gs E7
  rw [hk]
  unfold Vr at g1 ⊢
  cases hcut:Wf (k,b,cut,f,()) (0,(w,(n:Int),l,Kg n r l,((Hm w n r l s).length:Int),0,s,()),Rb w n r l s,()) with
  | true=>
   rw [hcut] at g1
   unfold Wf at hcut
   obtain ⟨c0,c1⟩:=B2 hcut
   have c0:0≤cut:=G8 c0
   simp only [cond_true,cond_false] at g1 ⊢
   have g1:¬ (W++Db ((Rb w n r l s).take cut.toNat)).length > 2000:=g1
   have hn:¬ cut < 0:=by omega
   have ec:((cut.toNat:Nat):Int)=cut:=by omega
   rcases h.perf cut.toNat with ⟨q,q2,q3⟩ | ⟨q,q2,q3⟩ | ⟨q,q2,q3⟩ | ⟨q,q2,q3⟩
   ·rw [q3] at g1 ⊢
    rw [ec] at q2
    rw [q2,Ra (hpos _)]
    exact .inl ⟨cut.toNat,hn,by omega,rfl⟩
   ·rw [q3] at g1 ⊢
    rw [ec] at q2
    rw [q2,Ra (h.lsec.ok h.n8 h.n2)]
    exact .inr (.inl ⟨hn,by omega,rfl⟩)
   ·rw [q3] at g1 ⊢
    rw [ec] at q2
    rw [q2,Ra hpos2]
    exact .inr (.inr (.inl ⟨hn,by omega,rfl⟩))
   ·rw [q3] at g1 ⊢
    rw [ec] at q2
    rw [q2,Ra ((Anl h).1.ok h.n8 h.n2)]
    exact .inr (.inr (.inr (.inl ⟨hn,by omega,rfl⟩)))
  | false=>
   rw [hcut] at g1
   simp only [cond_true,cond_false,Fz] at g1 ⊢
   have g1:¬ (W++Db ((Rb w n r l s).take (Rb w n r l s).length)).length > 2000:=g1
   rcases h.perf (Rb w n r l s).length with ⟨q,_⟩ | ⟨q,_⟩ | ⟨q,_⟩ | ⟨q,q2,q3⟩
   ·omega
   ·omega
   ·omega
   ·rw [q3] at g1 ⊢
    rw [q2]
    exact .inr (.inr (.inr (.inr ⟨by omega,rfl⟩)))
theorem Awi (h:I8 w n D P W r l s) (b:Bas B w n W past r) (hB:B + 1≤9000) (lb:l≤(B:Int) + 1) (hwk:(W++(Hm w n r l s++[B5 (Kg n r l) w])).length≤2000) (pv:∀ s∈past',Ak s=true) (pl:1≤past'.length∧past'.length≤200):
  Bas (B + 1) w n (W++(Hm w n r l s++[B5 (Kg n r l) w])) past' r∧∀ l',Bas (B + 1) w n (W++(Hm w n r l s++[B5 (Kg n r l) w])) past' (Kg n r l'):=by
 have hm:=h.ml
 have hh:=L9 h.n8 h.n2
 have g:=Aa8.root h b.g
 have hX:(Hm w n r l s++[B5 (Kg n r l) w]).length≤hN n + 1:=by rw [Dn,En]; omega
 have xb:∀ x∈Hm w n r l s++[B5 (Kg n r l) w],∀ p,Ay x w=(p,true)→p.2.1≤(B:Int) + 1:=fun x hx p hp=>by have:=Aj5 h x hx p hp; omega
 exact ⟨b.more hB hX hwk (x64 h) xb pv pl g (by omega) (by omega),fun l'=>b.more hB hX hwk (x64 h) xb pv pl (Aa8.next g) (by show r.1 + 1≤r.1 + 1; omega) (by show r.2.2.1 + (hN n:Int)≤r.2.2.1 + 100; omega)⟩
def WC (w:Int) (n:Nat) (W:List Aa) (r:Rt) (l:Int) (s:Cv):Prop:=∀ x∈W,∀ p,Ay x w=(p,true)→p.1≠4→p.2.1=l→p.2.2.1 < r.2.2.1 + (hN n:Int) + ((Hm w n r l s).length:Int)
theorem Bhe (h:I8 w n D P W r l s) (wc:WC w n W r l s) (lv:Mt w W l):∀ x∈W++(Hm w n r l s++[B5 (Kg n r l) w]),∀ p,Ay x w=(p,true)→p.1≠4→p.2.1≤l∧(p.2.1=l→p.2.2.1 < r.2.2.1 + (hN n:Int) + ((Hm w n r l s).length:Int)):=fun x hx p hp h4=>by
 rcases List.mem_append.1 hx with q | q
 ·exact ⟨lv x q p hp,wc x q p hp h4⟩
 ·refine ⟨Aj5 h x q p hp,fun _=>?_⟩
  rcases List.mem_append.1 q with q | q
  ·exact (h.mpage x q p hp).2.2.2
  ·rw [List.mem_singleton.1 q] at hp
   obtain ⟨p',p1,p2,_⟩:=h.rpage
   rw [p1] at hp
   have:p'=p:=congrArg Prod.fst hp
   subst this
   exact absurd p2 h4
theorem Bbf (h:I8 w n D P W r l s) (b:Bas B w n W past r) (hB:B + 1≤9000) (lb:l≤(B:Int) + 1) (hwk:(W++(Hm w n r l s++[B5 (Kg n r l) w])).length≤2000) (wc:WC w n W r l s) (lv:Mt w W l) (hp:s∈past) (rm:∀ x∈past,C5 x w≤(hN n:Int) - 1) {D':List Aa} {l':Int} (hl':l'≤l)
  (hs:Sec n D') (nf:NoF w n D' (W++(Hm w n r l s++[B5 (Kg n r l) w]))) (rt:At (D',[],()) w=Kg n r l') (hD:∀ i,i≠Yj r→D'.getD i z0=(I8.lay D P w n r l s).getD i z0):DnP (B + 1) w n D' (W++(Hm w n r l s++[B5 (Kg n r l) w])) past:=
 DnP.of (A4d h hl' hs nf rt hD hp rm (Bhe h wc lv)) ((Awi h b hB lb hwk b.pv b.pl).2 l') (by omega) (lv.app (Aj5 h))
theorem Bqv (h:I8 w n D P W r l s) (b:Bas B w n W past r) (hB:B + 1≤9000) (lb:l≤(B:Int) + 1) (hwk:(W++(Hm w n r l s++[B5 (Kg n r l) w])).length≤2000) (wc:WC w n W r l s) (lv:Mt w W l):
  Kq (B + 1) w n (K7 w ((I8.lay D P w n r l s).set (Yj r) (B5 (Kg n r l) w)) [] true (w,(n:Int),l,Kg n r l,((Hm w n r l s).length:Int),0,s,()) [s] (W++(Hm w n r l s++[B5 (Kg n r l) w]))):=by
 obtain ⟨k1,k2⟩:=Anl h
 obtain ⟨l1,l2⟩:=Cw h.hl
 have hm:=h.ml
 have b':=(Awi h b hB lb hwk (past':=[s]) (Aa9 h.sv) ⟨Nat.le_refl 1,by show 1≤200; omega⟩).2 l
 refine Kq.up b' h.n8 h.n2 h.hw k1 (k1.ok h.n8 h.n2) (Aj4 h.n8 h.n2 h.hw ⟨l1,l2⟩ (h.nok (by omega) l2) ⟨by omega,by omega⟩ ⟨Int.le_refl 0,by omega⟩ h.sv h.rm) fun nf=>?_
 have c:=A4d (past':=[s]) h (Int.le_refl l) k1 nf k2 (fun i hi=>getD_set_ne (fun q=>hi q.symm)) (List.mem_singleton.2 rfl) (Aa9 h.rm) (Bhe h wc lv)
 exact ⟨Kg n r l,(Hm w n r l s).length,l,s,[],s,c,b',l1,by omega,rfl,rfl,rfl,⟨[],rfl⟩,lv.app (Aj5 h),fun x hx p hp h4 hl=>by
  have:=(Bhe h wc lv x hx p hp h4).2 hl
  show p.2.2.1 < r.2.2.1 + (hN n:Int) + (hN n:Int)
  omega⟩
theorem Nb.mv (h:Nb B w n D P sto past W r u0 L s0 E st):I8 w n D P W r L st:=by
 have hb:=h.b.b
 have h1:=h.b.tb
 have h2:=h.b.fb
 have hbin:=h.bin
 have y:=h.sync
 have hq:=h.c.qh
 have hh:=L9 h.c.n8 h.c.n2
 obtain ⟨_,t,t1,_,t3,_⟩:=h.c.pre
 have hm:=Ad6 t1
 exact {
  n8:=h.c.n8
  n2:=h.c.n2
  hw:=h.c.hw
  sec:=h.c.sec
  vd:=h.vd
  pl:=by rw [h.plen]; omega
  pp:=fun v hv=>by have:=h.pos v hv; omega
  root:=h.c.root
  sync:=y.s
  sroot:=y.rt
  tb:=by omega
  fb:=by omega
  hl:=h.h9.2.2
  sv:=h.sv
  rm:=h.c.rm st h.mem
  rl:=by rw [t3] at hm; exact hm }
theorem A4e {used loose:Int} (hv:As (w,(n:Int),L,r,used,loose,st,())=true):F1 (w,(n:Int),L,r,used,loose,st,())=Ub (w,(n:Int),L,r,used,loose,st,()):=by
 unfold F1
 rw [hv]
 rfl
theorem Nb.compact (h:Nb B w n D P sto past W r u0 L s0 E st) (hB:B + 1≤9000) (b:List Bc) (cut:Int) (f:List Int):Kq (B + 1) w n (Ou (K7 w D P true sto past W) (4,b,cut,f,())):=by
 have hsok:=h.sok
 have hs:=h.s
 have y:=h.sync
 have m:=h.mv
 have hbin:=h.bin
 have hoth:=A37 h.c.n8 h.c.n2 h.c.rok.2.1
 have hbb:=m.bb
 have hq:=h.c.qh
 have hlb:=h.lb
 have hh:=L9 h.c.n8 h.c.n2
 have hml:=m.ml
 have hrk:=m.rk
 subst hs
 have e0:Ou (K7 w D P true (w,(n:Int),L,r,((u0 + (qP L w (r.2.2.1 + u0) E).length:Nat):Int),((qP L w (r.2.2.1 + u0) E).length:Int),st,()) past W) (4,b,cut,f,())=
   bif (F1 (w,(n:Int),L,r,((u0 + (qP L w (r.2.2.1 + u0) E).length:Nat):Int),((qP L w (r.2.2.1 + u0) E).length:Int),st,())).1 != 0 then (K7 w D P true (w,(n:Int),L,r,((u0 + (qP L w (r.2.2.1 + u0) E).length:Nat):Int),((qP L w (r.2.2.1 + u0) E).length:Int),st,()) past W)
   else Cc (K7 w D P true (w,(n:Int),L,r,((u0 + (qP L w (r.2.2.1 + u0) E).length:Nat):Int),((qP L w (r.2.2.1 + u0) E).length:Int),st,()) past W) (4,b,cut,f,()) (F1 (w,(n:Int),L,r,((u0 + (qP L w (r.2.2.1 + u0) E).length:Nat):Int),((qP L w (r.2.2.1 + u0) E).length:Int),st,())):=rfl
 rw [e0,A4e hsok,Bbe m]
 show Kq (B + 1) w n (Cc _ _ _)
 have wc:WC w n W r L st:=fun x hx p hp h4 hl=>by have:=h.ea x hx p hp h4 hl; omega
 have old:∀ (D' X:List Aa),Sec n D'→NoF w n D' (W++X)→At (D',[],()) w=r→(∀ i,i < hN n→D'.getD (bN n r.2.1 + i) z0=(Hb D P).getD (bN n r.2.1 + i) z0)→(∀ x∈X,∀ p,Ay x w=(p,true)→p.1≠4→¬ InR w n r u0 p)→Bas (B + 1) w n (W++X) past r→Mt w X L→DnP (B + 1) w n D' (W++X) past:=fun D' X s1 nf rt hD hX hb hlx=>by
  have y':Bhd w n D D' r u0 (qP L w (r.2.2.1 + u0) E):=⟨s1,rt,fun i hi=>by rw [hD i (by omega)]; exact y.p i hi,fun i hi=>by rw [hD (u0 + i) (by omega)]; exact y.q i hi⟩
  exact DnP.of (h.flushed y' nf h.mem h.c.rm hX) hb (by omega) (h.lv.app hlx)
 have far:∀ x∈Hm w n r L st++[B5 (Kg n r L) w],∀ p,Ay x w=(p,true)→p.1≠4→¬ InR w n r u0 p:=fun x hx p hp h4 hin=>by
  rcases List.mem_append.1 hx with q | q
  ·have:=(m.mpage x q p hp).2.2.1
   have:=hin.2
   omega
  ·rw [List.mem_singleton.1 q] at hp
   obtain ⟨p',p1,p2,_⟩:=m.rpage
   rw [p1] at hp
   have:p'=p:=congrArg Prod.fst hp
   subst this
   exact h4 p2
 have basX:∀ k:Nat,(W++(Hm w n r L st).take k).length≤2000→Bas (B + 1) w n (W++(Hm w n r L st).take k) past r:=fun k hk=>
  h.b.more hB (by rw [List.length_take]; omega) hk (fun x hx=>m.m64 x (List.mem_of_mem_take hx)) (fun x hx p hp=>by have:=(m.mpage x (List.mem_of_mem_take hx) p hp).2.1; omega) h.b.pv h.b.pl (h.b.g.more fun x hx p hp=>(m.mpage x (List.mem_of_mem_take hx) p hp).1) (by omega) (by omega)
 rcases Awh (past:=past) (sto:=(w,(n:Int),L,r,((u0 + (qP L w (r.2.2.1 + u0) E).length:Nat):Int),((qP L w (r.2.2.1 + u0) E).length:Int),st,())) (up:=true) m (show ((4:Int)==2)=false by decide) b cut f h.b.pl.2 with ⟨_,e⟩ | ⟨k,_,hk,e⟩ | ⟨_,hk,e⟩ | ⟨_,hk,e⟩ | ⟨_,hk,e⟩ | ⟨hk,e⟩
 ·rw [e]; exact h.same hB
 ·rw [e]
  have pos:∀ v∈P++Rq ((bN n (1 - r.2.1):Nat):Int) ((Hm w n r L st).take k),2≤v.1.toNat∧(v.1.toNat < bN n r.2.1∨bN n r.2.1 + u0≤v.1.toNat)∧0≤v.1∧v.1 < (n:Int)∧v.2.1.size=64:=fun v hv=>by
   rcases List.mem_append.1 hv with q | q
   ·have:=h.pos v q; exact ⟨by omega,by omega,by omega,by omega,this.2.2⟩
   ·have g:=Ad9 q
    have:((Hm w n r L st).take k).length≤(Hm w n r L st).length:=by rw [List.length_take]; omega
    exact ⟨by omega,by omega,by omega,by omega,Bpu (fun x hx=>m.m64 x (List.mem_of_mem_take hx)) q⟩
  have vd:Ap (D,P++Rq ((bN n (1 - r.2.1):Nat):Int) ((Hm w n r L st).take k),())=true:=Z8 h.c.n8 h.c.n2 h.c.sec (by rw [Dn,h.plen,Ad8,List.length_take]; omega) fun v hv=>(pos v hv).2.2
  obtain ⟨k1,k2⟩:=j8 h.c.n8 h.c.n2 h.c.hw h.c.sec h.c.root vd f fun v hv=>(pos v hv).1
  refine Kq.dn (basX k hk) h.c.n8 h.c.n2 h.c.hw k1 fun nf=>?_
  have c':=h.c.next (F:=[]) (past':=past) k1 nf k2 (fun i hi=>Ue (fun v hv=>by have:=(pos v hv).2.1; omega) D) (fun s hs=>hs) h.c.rm (fun j j1 j2=>by rw [List.append_nil] at j2; omega) (by rw [List.append_nil]; exact h.c.lb) (by rw [List.append_nil]; exact h.c.qh)
   (fun x hx p hp h4 hin=>absurd hin (far x (List.mem_append_left _ (List.mem_of_mem_take hx)) p hp h4))
  rw [List.append_nil] at c'
  exact DnP.of c' (basX k hk) (by omega) (h.lv.app fun x hx p hp=>by have:=(m.mpage x (List.mem_of_mem_take hx) p hp).2.1; omega)
 ·rw [e]
  have hb:=basX (Hm w n r L st).length (by rw [Nv (Nat.le_refl _)]; exact hk)
  rw [Nv (Nat.le_refl _)] at hb
  exact Kq.dn hb h.c.n8 h.c.n2 h.c.hw m.lsec fun nf=>old _ _ m.lsec nf m.lroot m.lout (fun x hx p hp h4=>far x (List.mem_append_left _ hx) p hp h4) hb fun x hx p hp=>by have:=(m.mpage x hx p hp).2.1; omega
 ·rw [e]
  have vd:Ap (I8.lay D P w n r L st,[(((Yj r:Nat):Int),B5 (Kg n r L) w,())],())=true:=Z8 h.c.n8 h.c.n2 m.lsec (by show 1≤300; omega) fun v hv=>by
   rw [List.mem_singleton.1 hv]
   exact ⟨by show (0:Int)≤((Yj r:Nat):Int); omega,by show ((Yj r:Nat):Int) < (n:Int); omega,m.r64⟩
  have k1:=A4b m.lsec.len vd f
  have hD:∀ i,i≠Yj r→(Rx f (I8.lay D P w n r L st) [(((Yj r:Nat):Int),B5 (Kg n r L) w,())]).getD i z0=(I8.lay D P w n r L st).getD i z0:=fun i hi=>Ue (fun v hv=>by rw [List.mem_singleton.1 hv]; show (((Yj r:Nat):Int)).toNat≠i; omega) _
  obtain ⟨hb,hb'⟩:=Awi h.mv h.b hB (by omega) hk h.b.pv h.b.pl
  refine Kq.dn hb h.c.n8 h.c.n2 h.c.hw k1 fun nf=>?_
  rcases A4c m k1 nf hb.g (h.lv.app (Aj5 m)) hD with rt | ⟨l',_,hl',rt⟩
  ·exact old _ _ k1 nf rt (fun i hi=>by rw [hD _ (by omega)]; exact m.lout i hi) far hb (Aj5 m)
  ·exact Bbf m h.b hB (by omega) hk wc h.lv h.mem h.c.rm hl' k1 nf rt hD
 ·rw [e]
  obtain ⟨k1,k2⟩:=Anl m
  obtain ⟨hb,hb'⟩:=Awi h.mv h.b hB (by omega) hk h.b.pv h.b.pl
  exact Kq.dn hb h.c.n8 h.c.n2 h.c.hw k1 fun nf=>Bbf m h.b hB (by omega) hk wc h.lv h.mem h.c.rm (Int.le_refl L) k1 nf k2 fun i hi=>getD_set_ne (fun q=>hi q.symm)
 ·rw [e]
  exact Bqv m h.b hB (by omega) hk wc h.lv
end
section
variable {B:Nat} {w:Int} {n:Nat} {D D' W X:List Aa} {P ws:List Wr} {past past':List Cv} {r r':Rt} {u0 u:Nat} {L l:Int} {s0 st s:Cv} {E F es:List Aa} {sto:Ez}
theorem Uf.valid (h:Uf B w n D W past r u0 L s0 E es u l s):B7 (K7 w D [] false Vt past W)=true:=Bes h.b h.c.n8 h.c.n2 h.c.hw h.c.sec
theorem Uf.same (h:Uf B w n D W past r u0 L s0 E es u l s) (hB:B + 1≤9000):Kq (B + 1) w n (K7 w D [] false Vt past W):=
 ⟨h.valid,fun _=>.inl ⟨D,past,W,rfl,DnP.mono ⟨r,u0,L,s0,E,es,u,l,s,h⟩ (Nat.le_succ B) hB⟩⟩
theorem Awj (f:List Int) (D:List Aa):Rx f D []=D:=rfl
theorem Uf.power (h:Uf B w n D W past r u0 L s0 E es u l s) (hB:B + 1≤9000) (f:List Int):Kq (B + 1) w n (j7 (K7 w D [] false Vt past W) f):=by
 have e:j7 (K7 w D [] false Vt past W) f=K7 w D [] false Vt past W:=by
  unfold j7
  show (w,Eo (D,[],()) f,_)=_
  rw [Ra (h.c.sec.ok h.c.n8 h.c.n2),Awj]
 rw [e]
 exact h.same hB
theorem Uf.lB (h:Uf B w n D W past r u0 L s0 E es u l s):0≤l∧l≤(B:Int):=by
 have h0:=h.c.rok.2.2.2.1
 obtain ⟨_,t,t1,_,t3,_⟩:=h.f.pre
 have hm:=Ad6 t1
 rw [t3] at hm
 have hm:r.2.2.2.1≤l:=hm
 refine ⟨by omega,?_⟩
 rcases h.f.lf with q | ⟨x,hx,p,hp,_,q⟩
 ·have:=h.lb; omega
 ·have:=h.b.wb x hx p hp; omega
theorem Uf.rl (h:Uf B w n D W past r u0 L s0 E es u l s):r.2.2.2.1≤l:=by
 obtain ⟨_,t,t1,_,t3,_⟩:=h.f.pre
 have hm:=Ad6 t1
 rw [t3] at hm
 exact hm
theorem Uf.again (h:Uf B w n D W past r u0 L s0 E es u l s) {B':Nat} {D' X:List Aa} (s1:Sec n D') (nf:NoF w n D' (W++X)) (rt:At (D',[],()) w=r) (hD:∀ i,i < hN n→D'.getD (bN n r.2.1 + i) z0=D.getD (bN n r.2.1 + i) z0) (hX:∀ x∈X,∀ p,Ay x w=(p,true)→p.1≠4→¬ InR w n r u0 p)
  (hb:Bas B' w n (W++X) past r) (hBB:B≤B') (hl:Mt w X (l + 1)) (hm:∀ x∈X,∀ p,Ay x w=(p,true)→p.1≠4→p.2.1=l + 1→u=hN n∧x∈mvP w (l + 1) (r.2.2.1 + (hN n:Int)) s):DnP B' w n D' (W++X) past:=by
 have c':=h.c.next (F:=[]) (past':=past) s1 nf rt (fun i hi=>hD i (by have:=h.c.pre.hu; omega)) (fun s hs=>hs) h.c.rm (fun j j1 j2=>by rw [List.append_nil] at j2; omega) (by rw [List.append_nil]; exact h.c.lb) (by rw [List.append_nil]; exact h.c.qh) (fun x hx p hp h4 hin=>absurd hin (hX x hx p hp h4))
 rw [List.append_nil] at c'
 refine ⟨r,u0,L,s0,E,es,u,l,s,c',⟨?_,h.f.op,h.f.mem,h.f.pre.congr fun i hi=>hD i (by have:=h.f.pre.hu; omega),h.f.hu,h.f.hl,?_⟩,hb,by have:=h.lb; omega,h.lv.app hl,fun x hx p hp h4 hl'=>?_⟩
 ·rw [Bk2 h.c.n8 h.c.n2 h.c.hw h.c.sec s1 h.c.root rt hD]; exact h.f.scan
 ·rcases h.f.lf with q | ⟨x,hx,q⟩
  ·exact .inl q
  ·exact .inr ⟨x,List.mem_append_left _ hx,q⟩
 ·rcases List.mem_append.1 hx with q | q
  ·exact h.lt x q p hp h4 hl'
  ·exact .inr (.inr (hm x q p hp h4 hl'))
theorem Uf.mv (h:Uf B w n D W past r u0 L s0 E es u l s):I8 w n D [] W r (l + 1) s:=by
 have hb:=h.b.b
 have h1:=h.b.tb
 have h2:=h.b.fb
 have hl:=h.lB
 have hrl:=h.rl
 exact {
  n8:=h.c.n8
  n2:=h.c.n2
  hw:=h.c.hw
  sec:=h.c.sec
  vd:=h.c.sec.ok h.c.n8 h.c.n2
  pl:=Nat.zero_le _
  pp:=fun v hv=>by cases hv
  root:=h.c.root
  sync:=h.c.sec
  sroot:=h.c.root
  tb:=by omega
  fb:=by omega
  hl:=Aa7 (by omega) (by omega)
  sv:=h.f.pre.valid
  rm:=h.c.rm s h.f.mem
  rl:=by omega }
theorem Uf.open_is (h:Uf B w n D W past r u0 L s0 E es u l s):
  (u < hN n∧L8 (D,[],()) w=(0,(w,(n:Int),l + 1,r,(u:Int) + 1,0,s,()),[Lb ((bN n r.2.1 + u:Nat):Int) (Ca (3,l + 1,r.2.2.1 + (u:Int),z0,()) w),D6],()))∨
  (u=hN n∧L8 (D,[],()) w=(0,(w,(n:Int),l + 1,Kg n r (l + 1),((Hm w n r (l + 1) s).length:Int),0,s,()),Rb w n r (l + 1) s,())):=by
 have hl:=h.lB
 have hb:=h.b.b
 have hrm:=h.c.rm s h.f.mem
 have hN':=Q9 h.c.n8 h.c.n2
 have hu:=h.f.pre.hu
 have e1:L8 (D,[],()) w=Aa4 (D,[],()) w r (es,(u:Int),l,()) s:=by
  unfold L8
  rw [h.c.sec.ok h.c.n8 h.c.n2,h.c.hw,h.f.scan,h.c.root]
  show (match E1 es Ye with | none=>_ | some st=>_)=_
  rw [h.f.op]
 have hn:((D,([]:List Wr),()):Dk).1.length=n:=h.c.len
 rw [e1]
 by_cases q:u < hN n
 ·refine .inl ⟨q,?_⟩
  rw [A1r (by show ¬ l + 1 > 60000; omega) (by rw [hn,hN']; omega) (by rw [hn,hN']; show (u:Int) < _; omega),hn,A1y h.c.n8 h.c.n2 h.c.rok.2.1,show ((bN n r.2.1:Nat):Int) + ((es,(u:Int),l,()):Scd).2.1=((bN n r.2.1 + u:Nat):Int) by show ((bN n r.2.1:Nat):Int) + (u:Int)=_; omega]
 ·refine .inr ⟨by omega,?_⟩
  rw [A1s (by show ¬ l + 1 > 60000; omega) (by rw [hn,hN']; omega) (by rw [hn,hN']; show ¬ (u:Int) < _; omega),hn]
  exact Bbe h.mv (u:Int) 0
theorem Uf.life_page (h:Uf B w n D W past r u0 L s0 E es u l s):Ee (3,l + 1,r.2.2.1 + (u:Int),z0,()) w=true:=by
 have hl:=h.lB
 have hb:=h.b.b
 have hf:=h.c.fb
 have h1:=h.c.rok.2.2.1.1
 have hu:=h.f.pre.hu
 have hh:=L9 h.c.n8 h.c.n2
 exact Bbc h.c.hw (by omega) (by omega) (by omega) (by omega)
theorem Uf.open_near (h:Uf B w n D W past r u0 L s0 E es u l s) (hB:B + 1≤9000) (hu:u < hN n) (b:List Bc) (cut:Int) (f:List Int):
  ((2000 < W.length + hN n + 1∨¬ cut < 0)∧Cc (K7 w D [] false Vt past W) (1,b,cut,f,()) (0,(w,(n:Int),l + 1,r,(u:Int) + 1,0,s,()),[Lb ((bN n r.2.1 + u:Nat):Int) (Ca (3,l + 1,r.2.2.1 + (u:Int),z0,()) w),D6],())=K7 w D [] false Vt past W)∨
  (¬ cut < 0∧Kq (B + 1) w n (Cc (K7 w D [] false Vt past W) (1,b,cut,f,()) (0,(w,(n:Int),l + 1,r,(u:Int) + 1,0,s,()),[Lb ((bN n r.2.1 + u:Nat):Int) (Ca (3,l + 1,r.2.2.1 + (u:Int),z0,()) w),D6],())))∨
  (Cc (K7 w D [] false Vt past W) (1,b,cut,f,()) (0,(w,(n:Int),l + 1,r,(u:Int) + 1,0,s,()),[Lb ((bN n r.2.1 + u:Nat):Int) (Ca (3,l + 1,r.2.2.1 + (u:Int),z0,()) w),D6],())=K7 w (D.set (bN n r.2.1 + u) (Ca (3,l + 1,r.2.2.1 + (u:Int),z0,()) w)) [] true (w,(n:Int),l + 1,r,((u + 1:Nat):Int),0,s,()) [s] (W++[Ca (3,l + 1,r.2.2.1 + (u:Int),z0,()) w])∧
   Kq (B + 1) w n (K7 w (D.set (bN n r.2.1 + u) (Ca (3,l + 1,r.2.2.1 + (u:Int),z0,()) w)) [] true (w,(n:Int),l + 1,r,((u + 1:Nat):Int),0,s,()) [s] (W++[Ca (3,l + 1,r.2.2.1 + (u:Int),z0,()) w]))):=by
 have hl:=h.lB
 have hlp:=h.life_page
 have hbin:=A9o h.c.n8 h.c.n2 h.c.rok.2.1
 have hh:=L9 h.c.n8 h.c.n2
 have hb:=h.b.b
 have hbl:=h.b.pl
 have hLl:=h.f.hl
 have hu0:=h.f.hu
 have hread:=In hlp
 have h64:=Bps hlp
 have hvd0:=h.c.sec.ok h.c.n8 h.c.n2
 generalize hlpe:Ca (3,l + 1,r.2.2.1 + (u:Int),z0,()) w=lp at *
 have hrp:∀ x∈[lp],∀ p,Ay x w=(p,true)→p=(3,l + 1,r.2.2.1 + (u:Int),z0,()):=fun x hx p hp=>by
  rw [List.mem_singleton.1 hx,hread] at hp
  exact (congrArg Prod.fst hp).symm
 have basX:(W++[lp]).length≤2000→∀ past',(∀ s∈past',Ak s=true)→(1≤past'.length∧past'.length≤200)→Bas (B + 1) w n (W++[lp]) past' r:=fun hk past' pv pl=>
  h.b.more hB (by show 1≤hN n + 1; omega) hk (fun x hx=>by rw [List.mem_singleton.1 hx]; exact h64) (fun x hx p hp=>by rw [hrp x hx p hp]; show l + 1≤_; omega) pv pl (h.b.g.more fun x hx p hp=>by rw [hrp x hx p hp]; show (3:Int)≠4; decide) (by omega) (by omega)
 have lost:∀ D',Sec n D'→At (D',[],()) w=r→(∀ i,i≠bN n r.2.1 + u→D'.getD i z0=D.getD i z0)→(W++[lp]).length≤2000→Kq (B + 1) w n (K7 w D' [] false Vt past (W++[lp])):=fun D' s1 rt hD hk=>by
  have hb':=basX hk past h.b.pv h.b.pl
  refine Kq.dn hb' h.c.n8 h.c.n2 h.c.hw s1 fun nf=>?_
  have c':=h.c.next (F:=[]) (past':=past) s1 nf rt (fun i hi=>hD _ (by omega)) (fun s hs=>hs) h.c.rm (fun j j1 j2=>by rw [List.append_nil] at j2; omega) (by rw [List.append_nil]; exact h.c.lb) (by rw [List.append_nil]; exact h.c.qh) (fun x hx p hp h4 hin=>by
   rw [hrp x hx p hp]
   exact ⟨fun q=>by have q:l + 1=L:=q; omega,fun _=>rfl⟩)
  rw [List.append_nil] at c'
  obtain ⟨es',u',l',s',f'⟩:=c'.found
  have hge:=(h.f.pre.congr fun i hi=>hD (bN n r.2.1 + i) (by omega)).ge h.c.n8 h.c.n2 h.c.hw s1 rt f'.scan
  have hu':=f'.pre.hu
  refine ⟨r,u0,L,s0,E,es',u',l',s',c',f',hb',by have:=h.lb; omega,fun x hx p hp=>?_,fun x hx p hp h4 hl'=>?_⟩
  ·rcases List.mem_append.1 hx with q | q
   ·have:=h.lv x q p hp; omega
   ·rw [hrp x q p hp]; show l + 1≤_; omega
  ·rcases List.mem_append.1 hx with q | q
   ·have h1:=h.lv x q p hp
    have h2:l'=l:=by omega
    subst h2
    rcases h.lt x q p hp h4 hl' with z | ⟨z1,z2⟩ | ⟨z1,z2⟩
    ·exact .inl (by omega)
    ·by_cases y:u'=u
     ·subst y; exact .inr (.inl ⟨z1,z2⟩)
     ·exact .inl (by omega)
    ·omega
   ·have e:=hrp x q p hp
    rw [e] at hl' ⊢
    have hl':l + 1=l' + 1:=hl'
    show r.2.2.1 + (u:Int) < _∨(u' < hN n∧r.2.2.1 + (u:Int)=_)∨_
    by_cases y:u'=u
    ·subst y; exact .inr (.inl ⟨hu,rfl⟩)
    ·exact .inl (by omega)
 have hput:opS (D,[],()) (Lb ((bN n r.2.1 + u:Nat):Int) lp)=(D,[(((bN n r.2.1 + u:Nat):Int),lp,())],()):=by
  have:=d5 [lp] ((bN n r.2.1 + u:Nat):Int) D [] (fun x hx=>by rw [List.mem_singleton.1 hx]; exact h64) (by omega) (by rw [h.c.len]; show ((bN n r.2.1 + u:Nat):Int) + 1≤_; omega) (by show 0 + 1≤300; omega)
  exact this
 have hsync:opS (D,[(((bN n r.2.1 + u:Nat):Int),lp,())],()) D6=(D.set (bN n r.2.1 + u) lp,[],()):=by rw [A1z]; rfl
 have perf:∀ m:Nat,(m=0∧B9 (D,[],()) [Lb ((bN n r.2.1 + u:Nat):Int) lp,D6] m=(D,[],())∧Db (([Lb ((bN n r.2.1 + u:Nat):Int) lp,D6]:List Dc).take m)=[])∨
   (m=1∧B9 (D,[],()) [Lb ((bN n r.2.1 + u:Nat):Int) lp,D6] m=(D,[(((bN n r.2.1 + u:Nat):Int),lp,())],())∧Db (([Lb ((bN n r.2.1 + u:Nat):Int) lp,D6]:List Dc).take m)=[lp])∨
   (2≤m∧B9 (D,[],()) [Lb ((bN n r.2.1 + u:Nat):Int) lp,D6] m=(D.set (bN n r.2.1 + u) lp,[],())∧Db (([Lb ((bN n r.2.1 + u:Nat):Int) lp,D6]:List Dc).take m)=[lp]):=fun m=>by
  rw [Agn hvd0,Fz]
  rcases Nat.lt_or_ge m 2 with q | q
  ·have:m=0∨m=1:=by omega
   rcases this with rfl | rfl
   ·exact .inl ⟨rfl,rfl,rfl⟩
   ·exact .inr (.inl ⟨rfl,hput,rfl⟩)
  ·refine .inr (.inr ⟨q,?_,?_⟩)
   ·rw [Nv (show ([Lb ((bN n r.2.1 + u:Nat):Int) lp,D6]:List Dc).length≤m from q)]
    show opS (opS (D,[],()) (Lb _ lp)) D6=_
    rw [hput,hsync]
   ·rw [Nv (show ([Lb ((bN n r.2.1 + u:Nat):Int) lp,D6]:List Dc).length≤m from q)]
    rfl
 have sset:Sec n (D.set (bN n r.2.1 + u) lp):=by
  refine ⟨by rw [List.length_set]; exact h.c.len,fun i hi=>?_⟩
  by_cases q:bN n r.2.1 + u=i
  ·rw [← q,J5 (by rw [h.c.len]; omega)]; exact h64
  ·rw [getD_set_ne q]; exact h.c.sz i hi
 have rset:At (D.set (bN n r.2.1 + u) lp,[],()) w=r:=by
  rw [Anj hvd0 (sset.ok h.c.n8 h.c.n2) h.c.hw (getD_set_ne (by omega)) (getD_set_ne (by omega))]
  exact h.c.root
 have vd1:Ap (D,[(((bN n r.2.1 + u:Nat):Int),lp,())],())=true:=Z8 h.c.n8 h.c.n2 h.c.sec (by show 1≤300; omega) fun v hv=>by
  rw [List.mem_singleton.1 hv]
  exact ⟨by show (0:Int)≤((bN n r.2.1 + u:Nat):Int); omega,by show ((bN n r.2.1 + u:Nat):Int) < (n:Int); omega,h64⟩
 unfold Cc
 cases hfull:Om (K7 w D [] false Vt past W) (1,b,cut,f,()) (0,(w,(n:Int),l + 1,r,(u:Int) + 1,0,s,()),[Lb ((bN n r.2.1 + u:Nat):Int) lp,D6],()) with
 | true=>
  refine .inl ⟨?_,rfl⟩
  by_cases hc:cut < 0
  ·left
   unfold Om Gs E7 Vr at hfull
   have e1:Wf (1,b,cut,f,()) (0,(w,(n:Int),l + 1,r,(u:Int) + 1,0,s,()),[Lb ((bN n r.2.1 + u:Nat):Int) lp,D6],())=false:=by
    unfold Wf
    show (decide (0≤cut)&&_)=false
    rw [Bd (by omega)]
    rfl
   rw [e1] at hfull
   simp only [cond_false,Fz,Bool.or_eq_true,decide_eq_true_eq] at hfull
   rcases hfull with q | q
   ·have q:(W++[lp]).length > 2000:=q
    rw [Dn,En] at q
    omega
   ·have q:past.length > 200:=q
    omega
  ·exact .inr hc
 | false=>
  refine .inr ?_
  unfold Om Gs E7 at hfull
  simp only [Bool.or_eq_false_iff,decide_eq_false_iff_not] at hfull
  obtain ⟨g1,_⟩:=hfull
  unfold Gs E7
  unfold Vr at g1 ⊢
  cases hcut:Wf (1,b,cut,f,()) (0,(w,(n:Int),l + 1,r,(u:Int) + 1,0,s,()),[Lb ((bN n r.2.1 + u:Nat):Int) lp,D6],()) with
  | true=>
   rw [hcut] at g1
   obtain ⟨c0,_⟩:=B2 (show (decide (0≤cut)&&_)=true from hcut)
   have c0:0≤cut:=G8 c0
   have ec:((cut.toNat:Nat):Int)=cut:=by omega
   simp only [cond_true,cond_false] at g1 ⊢
   refine .inl ⟨by omega,?_⟩
   have g1:¬ (W++Db (([Lb ((bN n r.2.1 + u:Nat):Int) lp,D6]:List Dc).take cut.toNat)).length > 2000:=g1
   rcases perf cut.toNat with ⟨q,q2,q3⟩ | ⟨q,q2,q3⟩ | ⟨q,q2,q3⟩
   ·rw [q3]
    rw [ec] at q2
    rw [q2,Ra hvd0,Awj,List.append_nil]
    exact h.same hB
   ·rw [q3] at g1 ⊢
    rw [ec] at q2
    rw [q2,Ra vd1]
    obtain ⟨k1,k2⟩:=j8 h.c.n8 h.c.n2 h.c.hw h.c.sec h.c.root vd1 f fun v hv=>by rw [List.mem_singleton.1 hv]; show 2≤(((bN n r.2.1 + u:Nat):Int)).toNat; omega
    exact lost _ k1 k2 (fun i hi=>Ue (fun v hv=>by rw [List.mem_singleton.1 hv]; show (((bN n r.2.1 + u:Nat):Int)).toNat≠i; omega) D) (by omega)
   ·rw [q3] at g1 ⊢
    rw [ec] at q2
    rw [q2,Ra (sset.ok h.c.n8 h.c.n2),Awj]
    exact lost _ sset rset (fun i hi=>getD_set_ne (fun q=>hi q.symm)) (by omega)
  | false=>
   rw [hcut] at g1
   simp only [cond_true,cond_false,Fz] at g1 ⊢
   rcases perf 2 with ⟨q,_⟩ | ⟨q,_⟩ | ⟨q,q2,q3⟩
   ·omega
   ·omega
   ·have e2:(([Lb ((bN n r.2.1 + u:Nat):Int) lp,D6]:List Dc).length)=2:=rfl
    rw [e2,q3] at g1
    rw [e2,q2,q3]
    have g1:¬ (W++[lp]).length > 2000:=g1
    have es':(u:Int) + 1=((u + 1:Nat):Int):=by omega
    rw [es']
    refine .inr ⟨rfl,?_⟩
    have hb':=basX (by omega) [s] (Aa9 h.f.pre.valid) ⟨Nat.le_refl 1,by show 1≤200; omega⟩
    have pre':Pre w n (D.set (bN n r.2.1 + u) lp) r (u + 1) (l + 1) s:=Pre.life (h.f.pre.congr fun i hi=>getD_set_ne (by omega)) hu (by omega) hlp (by rw [J5 (by rw [h.c.len]; omega),hlpe])
    refine Kq.up hb' h.c.n8 h.c.n2 h.c.hw sset (sset.ok h.c.n8 h.c.n2) (Aj4 h.c.n8 h.c.n2 h.c.hw ⟨by omega,by omega⟩ h.c.rok ⟨by omega,by omega⟩ ⟨Int.le_refl 0,by omega⟩ h.f.pre.valid (h.c.rm s h.f.mem)) fun nf=>?_
    have hall:∀ x∈W++[lp],∀ p,Ay x w=(p,true)→p.1≠4→p.2.1=l + 1→p.2.2.1≤r.2.2.1 + (u:Int):=fun x hx p hp h4 hl'=>by
     rcases List.mem_append.1 hx with q | q
     ·rcases h.lt x q p hp h4 hl' with z | ⟨z1,z2⟩ | ⟨z1,z2⟩<;>omega
     ·rw [hrp x q p hp]; exact Int.le_refl _
    have hlv:Mt w (W++[lp]) (l + 1):=h.lv.app fun x hx p hp=>by rw [hrp x hx p hp]; exact Int.le_refl _
    have c:=Bbd (past:=[s]) h.c.n8 h.c.n2 h.c.hw sset nf rset h.c.fb pre' (List.mem_singleton.2 rfl) (Aa9 (h.c.rm s h.f.mem)) fun x hx p hp h4 hin=>by
     have h1:=hlv x hx p hp
     have h2:=hin.1
     by_cases q:p.2.1=l + 1
     ·have:=hall x hx p hp h4 q; omega
     ·omega
    exact ⟨r,u + 1,l + 1,s,[],s,c,hb',by omega,by omega,rfl,rfl,rfl,⟨[],rfl⟩,hlv,fun x hx p hp h4 hl'=>by have:=hall x hx p hp h4 hl'; omega⟩
end
section
variable {B:Nat} {w:Int} {n:Nat} {D D' W X:List Aa} {P ws:List Wr} {past past':List Cv} {r r':Rt} {u0 u:Nat} {L l:Int} {s0 st s:Cv} {E F es:List Aa} {sto:Ez}
theorem Uf.open_far (h:Uf B w n D W past r u0 L s0 E es u l s) (hB:B + 1≤9000) (hu:u=hN n) (b:List Bc) (cut:Int) (f:List Int):
  ((2000 < W.length + hN n + 1∨¬ cut < 0)∧Cc (K7 w D [] false Vt past W) (1,b,cut,f,()) (0,(w,(n:Int),l + 1,Kg n r (l + 1),((Hm w n r (l + 1) s).length:Int),0,s,()),Rb w n r (l + 1) s,())=K7 w D [] false Vt past W)∨
  (¬ cut < 0∧Kq (B + 1) w n (Cc (K7 w D [] false Vt past W) (1,b,cut,f,()) (0,(w,(n:Int),l + 1,Kg n r (l + 1),((Hm w n r (l + 1) s).length:Int),0,s,()),Rb w n r (l + 1) s,())))∨
  (Cc (K7 w D [] false Vt past W) (1,b,cut,f,()) (0,(w,(n:Int),l + 1,Kg n r (l + 1),((Hm w n r (l + 1) s).length:Int),0,s,()),Rb w n r (l + 1) s,())=K7 w ((I8.lay D [] w n r (l + 1) s).set (Yj r) (B5 (Kg n r (l + 1)) w)) [] true (w,(n:Int),l + 1,Kg n r (l + 1),((Hm w n r (l + 1) s).length:Int),0,s,()) [s] (W++(Hm w n r (l + 1) s++[B5 (Kg n r (l + 1)) w]))∧
   Kq (B + 1) w n (K7 w ((I8.lay D [] w n r (l + 1) s).set (Yj r) (B5 (Kg n r (l + 1)) w)) [] true (w,(n:Int),l + 1,Kg n r (l + 1),((Hm w n r (l + 1) s).length:Int),0,s,()) [s] (W++(Hm w n r (l + 1) s++[B5 (Kg n r (l + 1)) w])))):=by
 have m:=h.mv
 have hl:=h.lB
 have hbin:=A9o h.c.n8 h.c.n2 h.c.rok.2.1
 have hoth:=A37 h.c.n8 h.c.n2 h.c.rok.2.1
 have hbb:=m.bb
 have hml:=m.ml
 have hrk:=m.rk
 have hh:=L9 h.c.n8 h.c.n2
 have hlv:Mt w W (l + 1):=h.lv
 have wc:WC w n W r (l + 1) s:=fun x hx p hp h4 hl'=>by
  rcases h.lt x hx p hp h4 hl' with z | ⟨z1,_⟩ | ⟨_,z2⟩
  ·omega
  ·omega
  ·exact (m.mpage x z2 p hp).2.2.2
 have far:∀ x∈Hm w n r (l + 1) s++[B5 (Kg n r (l + 1)) w],∀ p,Ay x w=(p,true)→p.1≠4→¬ InR w n r u0 p:=fun x hx p hp h4 hin=>by
  rcases List.mem_append.1 hx with q | q
  ·have:=(m.mpage x q p hp).2.2.1
   have:=hin.2
   omega
  ·rw [List.mem_singleton.1 q] at hp
   obtain ⟨p',p1,p2,_⟩:=m.rpage
   rw [p1] at hp
   have:p'=p:=congrArg Prod.fst hp
   subst this
   exact h4 p2
 have mem:∀ x∈Hm w n r (l + 1) s++[B5 (Kg n r (l + 1)) w],∀ p,Ay x w=(p,true)→p.1≠4→p.2.1=l + 1→u=hN n∧x∈mvP w (l + 1) (r.2.2.1 + (hN n:Int)) s:=fun x hx p hp h4 _=>by
  rcases List.mem_append.1 hx with q | q
  ·exact ⟨hu,q⟩
  ·rw [List.mem_singleton.1 q] at hp
   obtain ⟨p',p1,p2,_⟩:=m.rpage
   rw [p1] at hp
   have:p'=p:=congrArg Prod.fst hp
   subst this
   exact absurd p2 h4
 have basX:∀ k:Nat,(W++(Hm w n r (l + 1) s).take k).length≤2000→Bas (B + 1) w n (W++(Hm w n r (l + 1) s).take k) past r:=fun k hk=>
  h.b.more hB (by rw [List.length_take]; omega) hk (fun x hx=>m.m64 x (List.mem_of_mem_take hx)) (fun x hx p hp=>by have:=(m.mpage x (List.mem_of_mem_take hx) p hp).2.1; omega) h.b.pv h.b.pl (h.b.g.more fun x hx p hp=>(m.mpage x (List.mem_of_mem_take hx) p hp).1) (by omega) (by omega)
 have lout:∀ i,i < hN n→(I8.lay D [] w n r (l + 1) s).getD (bN n r.2.1 + i) z0=D.getD (bN n r.2.1 + i) z0:=fun i hi=>m.lout i hi
 rcases Awh (past:=past) (sto:=Vt) (up:=false) m (show ((1:Int)==2)=false by decide) b cut f h.b.pl.2 with q | ⟨k,hc,hk,e⟩ | ⟨hc,hk,e⟩ | ⟨hc,hk,e⟩ | ⟨hc,hk,e⟩ | ⟨hk,e⟩
 ·exact .inl q
 ·refine .inr (.inl ⟨hc,?_⟩)
  rw [e]
  have pos:∀ v∈([]:List Wr)++Rq ((bN n (1 - r.2.1):Nat):Int) ((Hm w n r (l + 1) s).take k),2≤v.1.toNat∧(v.1.toNat < bN n r.2.1∨bN n r.2.1 + hN n≤v.1.toNat)∧0≤v.1∧v.1 < (n:Int)∧v.2.1.size=64:=fun v hv=>by
   rw [List.nil_append] at hv
   have g:=Ad9 hv
   have:((Hm w n r (l + 1) s).take k).length≤(Hm w n r (l + 1) s).length:=by rw [List.length_take]; omega
   exact ⟨by omega,by omega,by omega,by omega,Bpu (fun x hx=>m.m64 x (List.mem_of_mem_take hx)) hv⟩
  have vd:Ap (D,([]:List Wr)++Rq ((bN n (1 - r.2.1):Nat):Int) ((Hm w n r (l + 1) s).take k),())=true:=Z8 h.c.n8 h.c.n2 h.c.sec (by rw [List.nil_append,Ad8,List.length_take]; omega) fun v hv=>(pos v hv).2.2
  obtain ⟨k1,k2⟩:=j8 h.c.n8 h.c.n2 h.c.hw h.c.sec h.c.root vd f fun v hv=>(pos v hv).1
  refine Kq.dn (basX k hk) h.c.n8 h.c.n2 h.c.hw k1 fun nf=>?_
  exact h.again k1 nf k2 (fun i hi=>Ue (fun v hv=>by have:=(pos v hv).2.1; omega) D) (fun x hx p hp h4=>far x (List.mem_append_left _ (List.mem_of_mem_take hx)) p hp h4) (basX k hk) (Nat.le_succ B) (fun x hx p hp=>by have:=(m.mpage x (List.mem_of_mem_take hx) p hp).2.1; omega) (fun x hx p hp h4 hl'=>mem x (List.mem_append_left _ (List.mem_of_mem_take hx)) p hp h4 hl')
 ·refine .inr (.inl ⟨hc,?_⟩)
  rw [e]
  have hb:=basX (Hm w n r (l + 1) s).length (by rw [Nv (Nat.le_refl _)]; exact hk)
  rw [Nv (Nat.le_refl _)] at hb
  exact Kq.dn hb h.c.n8 h.c.n2 h.c.hw m.lsec fun nf=>h.again m.lsec nf m.lroot lout (fun x hx p hp h4=>far x (List.mem_append_left _ hx) p hp h4) hb (Nat.le_succ B) (fun x hx p hp=>by have:=(m.mpage x hx p hp).2.1; omega) (fun x hx p hp h4 hl'=>mem x (List.mem_append_left _ hx) p hp h4 hl')
 ·refine .inr (.inl ⟨hc,?_⟩)
  rw [e]
  have vd:Ap (I8.lay D [] w n r (l + 1) s,[(((Yj r:Nat):Int),B5 (Kg n r (l + 1)) w,())],())=true:=Z8 h.c.n8 h.c.n2 m.lsec (by show 1≤300; omega) fun v hv=>by
   rw [List.mem_singleton.1 hv]
   exact ⟨by show (0:Int)≤((Yj r:Nat):Int); omega,by show ((Yj r:Nat):Int) < (n:Int); omega,m.r64⟩
  have k1:=A4b m.lsec.len vd f
  have hD:∀ i,i≠Yj r→(Rx f (I8.lay D [] w n r (l + 1) s) [(((Yj r:Nat):Int),B5 (Kg n r (l + 1)) w,())]).getD i z0=(I8.lay D [] w n r (l + 1) s).getD i z0:=fun i hi=>Ue (fun v hv=>by rw [List.mem_singleton.1 hv]; show (((Yj r:Nat):Int)).toNat≠i; omega) _
  obtain ⟨hb,hb'⟩:=Awi m h.b hB (by omega) hk h.b.pv h.b.pl
  refine Kq.dn hb h.c.n8 h.c.n2 h.c.hw k1 fun nf=>?_
  rcases A4c m k1 nf hb.g (hlv.app (Aj5 m)) hD with rt | ⟨l',_,hl',rt⟩
  ·exact h.again k1 nf rt (fun i hi=>by rw [hD _ (by omega)]; exact lout i hi) far hb (Nat.le_succ B) (Aj5 m) mem
  ·exact Bbf m h.b hB (by omega) hk wc hlv h.f.mem h.c.rm hl' k1 nf rt hD
 ·refine .inr (.inl ⟨hc,?_⟩)
  rw [e]
  obtain ⟨k1,k2⟩:=Anl m
  obtain ⟨hb,hb'⟩:=Awi m h.b hB (by omega) hk h.b.pv h.b.pl
  exact Kq.dn hb h.c.n8 h.c.n2 h.c.hw k1 fun nf=>Bbf m h.b hB (by omega) hk wc hlv h.f.mem h.c.rm (Int.le_refl (l + 1)) k1 nf k2 fun i hi=>getD_set_ne (fun q=>hi q.symm)
 ·exact .inr (.inr ⟨e,Bqv m h.b hB (by omega) hk wc hlv⟩)
theorem A4f (a:Int):(a==1)=true∧a=1∨(a==1)=false∧((a==2)=true∧a=2∨(a==2)=false∧((a==3)=true∧a=3∨(a==3)=false∧((a==4)=true∧a=4∨(a==4)=false))):=by
 by_cases h1:a=1
 ·exact .inl ⟨beq_iff_eq.2 h1,h1⟩
 ·refine .inr ⟨beq_eq_false_iff_ne.2 h1,?_⟩
  by_cases h2:a=2
  ·exact .inl ⟨beq_iff_eq.2 h2,h2⟩
  ·refine .inr ⟨beq_eq_false_iff_ne.2 h2,?_⟩
   by_cases h3:a=3
   ·exact .inl ⟨beq_iff_eq.2 h3,h3⟩
   ·refine .inr ⟨beq_eq_false_iff_ne.2 h3,?_⟩
    by_cases h4:a=4
    ·exact .inl ⟨beq_iff_eq.2 h4,h4⟩
    ·exact .inr (beq_eq_false_iff_ne.2 h4)
theorem Nb.step (h:Nb B w n D P sto past W r u0 L s0 E st) (hB:B + 1≤9000) (e:T8):Kq (B + 1) w n (Ou (K7 w D P true sto past W) e):=by
 obtain ⟨k,b,cut,f,⟨⟩⟩:=e
 by_cases h5:k=5
 ·subst h5
  exact (h.power f).mono hB
 ·rcases A4f k with ⟨q,rfl⟩ | ⟨q1,⟨q,rfl⟩ | ⟨q2,⟨q,rfl⟩ | ⟨q3,⟨q,rfl⟩ | q4⟩⟩⟩
  ·have e1:Ou (K7 w D P true sto past W) (1,b,cut,f,())=K7 w D P true sto past W:=rfl
   rw [e1]; exact h.same hB
  ·exact h.commit hB b cut f
  ·exact h.flush hB b cut f
  ·exact h.compact hB b cut f
  ·have e1:Ou (K7 w D P true sto past W) (k,b,cut,f,())=K7 w D P true sto past W:=by
    unfold Ou Ih
    show (bif k==5 then _ else bif !((bif k==1 then _ else bif k==2 then _ else bif k==3 then _ else bif k==4 then _ else (Aap 0,false)):Pl×Bool).2 || _ then _ else _)=_
    rw [beq_eq_false_iff_ne.2 h5,q1,q2,q3,q4]
    rfl
   rw [e1]; exact h.same hB
theorem Uf.step (h:Uf B w n D W past r u0 L s0 E es u l s) (hB:B + 1≤9000) (e:T8):Kq (B + 1) w n (Ou (K7 w D [] false Vt past W) e):=by
 obtain ⟨k,b,cut,f,⟨⟩⟩:=e
 by_cases h5:k=5
 ·subst h5
  exact h.power hB f
 ·rcases A4f k with ⟨q,rfl⟩ | ⟨q1,⟨q,rfl⟩ | ⟨q2,⟨q,rfl⟩ | ⟨q3,⟨q,rfl⟩ | q4⟩⟩⟩
  ·have e1:Ou (K7 w D [] false Vt past W) (1,b,cut,f,())=bif (L8 (D,[],()) w).1 != 0 then K7 w D [] false Vt past W else Cc (K7 w D [] false Vt past W) (1,b,cut,f,()) (L8 (D,[],()) w):=rfl
   rw [e1]
   rcases h.open_is with ⟨hu,e2⟩ | ⟨hu,e2⟩
   ·rw [e2]
    show Kq (B + 1) w n (Cc _ _ _)
    rcases h.open_near hB hu b cut f with ⟨_,e3⟩ | ⟨_,e3⟩ | ⟨e3,e4⟩
    ·rw [e3]; exact h.same hB
    ·exact e3
    ·rw [e3]; exact e4
   ·rw [e2]
    show Kq (B + 1) w n (Cc _ _ _)
    rcases h.open_far hB hu b cut f with ⟨_,e3⟩ | ⟨_,e3⟩ | ⟨e3,e4⟩
    ·rw [e3]; exact h.same hB
    ·exact e3
    ·rw [e3]; exact e4
  all_goals
   have e1:∀ k':Int,k'≠5→(k'==1)=false→Ou (K7 w D [] false Vt past W) (k',b,cut,f,())=K7 w D [] false Vt past W:=fun k' h5 q1=>by
    unfold Ou Ih
    show (bif k'==5 then _ else bif !((bif k'==1 then _ else bif k'==2 then (_,false) else bif k'==3 then (_,false) else bif k'==4 then (_,false) else (Aap 0,false)):Pl×Bool).2 || _ then _ else _)=_
    rw [beq_eq_false_iff_ne.2 h5,q1]
    cases (k'==2)<;>cases (k'==3)<;>cases (k'==4)<;>rfl
   rw [e1 _ h5 (by first | decide | assumption)]
   exact h.same hB
theorem Uf.open_up (h:Uf B w n D W past r u0 L s0 E es u l s) (hB:B + 1≤9000) (hW:W.length + hN n + 1≤2000) (b:List Bc) (f:List Int):
  ∃ D' P' sto W',Ou (K7 w D [] false Vt past W) (1,b,-1,f,())=K7 w D' P' true sto [s] W'∧sto.2.2.2.2.2.2.1=s:=by
 have e1:Ou (K7 w D [] false Vt past W) (1,b,-1,f,())=bif (L8 (D,[],()) w).1 != 0 then K7 w D [] false Vt past W else Cc (K7 w D [] false Vt past W) (1,b,-1,f,()) (L8 (D,[],()) w):=rfl
 rw [e1]
 rcases h.open_is with ⟨hu,e2⟩ | ⟨hu,e2⟩
 ·rw [e2]
  rcases h.open_near hB hu b (-1) f with ⟨q,_⟩ | ⟨q,_⟩ | ⟨e3,_⟩
  ·omega
  ·omega
  ·exact ⟨_,_,_,_,e3,rfl⟩
 ·rw [e2]
  rcases h.open_far hB hu b (-1) f with ⟨q,_⟩ | ⟨q,_⟩ | ⟨e3,_⟩
  ·omega
  ·omega
  ·exact ⟨_,_,_,_,e3,rfl⟩
theorem Uf.found (h:Uf B w n D W past r u0 L s0 E es u l s):Aql (K7 w D [] false Vt past W)=(s,0)∧s∈past:=by
 refine ⟨?_,h.f.mem⟩
 unfold Aql
 rw [h.valid]
 show ((L8 (D,[],()) w).2.1.2.2.2.2.2.2.1,(L8 (D,[],()) w).1)=_
 rcases h.open_is with ⟨_,e⟩ | ⟨_,e⟩<;>rw [e]
end
section
variable {B:Nat} {w:Int} {n:Nat} {D D' W X:List Aa} {P ws:List Wr} {past past':List Cv} {r r':Rt} {u0 u:Nat} {L l:Int} {s0 st s:Cv} {E F es:List Aa} {sto:Ez}
theorem Nb.found (h:Nb B w n D P sto past W r u0 L s0 E st):∃ s∈past,Aql (K7 w D P true sto past W)=(s,0):=by
 obtain ⟨r',u',L',s',E',es,u,l,s,d⟩:=DnP.of h.c h.b h.lb h.lv
 obtain ⟨q1,q2⟩:=d.found
 refine ⟨s,q2,?_⟩
 unfold Aql at q1 ⊢
 rw [h.valid]
 rw [d.valid] at q1
 exact q1
def Eb (B:Nat) (w:Int) (n:Nat) (x:Bo):Prop:=(∃ D past W,x=K7 w D [] false Vt past W∧DnP B w n D W past)∨(∃ D P sto past W,x=K7 w D P true sto past W∧UpP B w n D P sto past W)
theorem Eb.valid {x:Bo} (h:Eb B w n x):B7 x=true:=by
 rcases h with ⟨D,past,W,rfl,r,u0,L,s0,E,es,u,l,s,h⟩ | ⟨D,P,sto,past,W,rfl,r,u0,L,s0,E,st,h⟩
 ·exact h.valid
 ·exact h.valid
theorem Eb.step {x:Bo} (h:Eb B w n x) (hB:B + 1≤9000) (e:T8):B7 (Ou x e)=true∧(Ana (Ou x e)=z0→Eb (B + 1) w n (Ou x e)):=by
 rcases h with ⟨D,past,W,rfl,r,u0,L,s0,E,es,u,l,s,h⟩ | ⟨D,P,sto,past,W,rfl,r,u0,L,s0,E,st,h⟩
 ·exact h.step hB e
 ·exact h.step hB e
theorem Eb.found {x:Bo} (h:Eb B w n x):∃ s∈x.2.2.2.2.1,Aql x=(s,0):=by
 rcases h with ⟨D,past,W,rfl,r,u0,L,s0,E,es,u,l,s,h⟩ | ⟨D,P,sto,past,W,rfl,r,u0,L,s0,E,st,h⟩
 ·exact ⟨s,h.found.2,h.found.1⟩
 ·exact h.found
theorem Eb.last {x:Bo} (h:Eb B w n x) (hu:x.2.2.1=true):∃ pre,x.2.2.2.2.1=pre++[x.2.2.2.1.2.2.2.2.2.2.1]:=by
 rcases h with ⟨D,past,W,rfl,r,u0,L,s0,E,es,u,l,s,h⟩ | ⟨D,P,sto,past,W,rfl,r,u0,L,s0,E,st,h⟩
 ·cases hu
 ·have hs:=h.s
  subst hs
  exact h.la
theorem Bk4 (a:Nat) (h8:8≤a) (h2:a≤200) (hw:Bq w 1 8=true):Eb 0 w a (w,Kh (a:Int),false,Vt,[([],())],[],()):=by
 have hd:Kh (a:Int)=(List.replicate a zS,[],()):=by
  unfold Kh
  rw [Aa7 (by omega) (by omega)]
  rfl
 rw [hd]
 have hz:∀ i,i < a→(List.replicate a zS).getD i z0=zS:=fun i hi=>by simp [List.getD,hi]
 have hs:Sec a (List.replicate a zS):=⟨by simp,fun i hi=>by rw [hz i hi]; decide +kernel⟩
 have hc:∀ k,Pb zS w k=none:=fun k=>by
  unfold Pb
  rw [Anf hw]
  rfl
 have rt:At (List.replicate a zS,[],()) w=rt0:=by
  rw [Aj3 (hs.ok h8 h2) hw,hz 0 (by omega),hz 1 (by omega),hc,hc]
  rfl
 have rm:C5 Ye w≤(hN a:Int) - 1:=by
  have:=L9 h8 h2
  have e:C5 Ye w=0:=by
   unfold C5
   rw [hw]
   rfl
  omega
 have nf:NoF w a (List.replicate a zS) []:=fun i hi hr=>by rw [hz i hi,Anf hw] at hr; cases hr
 have c:=Bbd (past:=[Ye]) (W:=[]) h8 h2 hw hs nf rt (by decide) (Pre.zero (w:=w) (n:=a) (D:=List.replicate a zS) (r:=rt0)) (List.mem_singleton.2 rfl) (Aa9 rm) (fun x hx=>by cases hx)
 have b:Bas 0 w a [] [Ye] rt0:={
  b:=by decide
  wl:=Nat.zero_le _
  wk:=Nat.zero_le _
  w64:=fun x hx=>by cases hx
  wb:=fun x hx=>by cases hx
  pv:=Aa9 (by decide +kernel)
  pl:=⟨Nat.le_refl 1,by show 1≤200; omega⟩
  g:=fun x hx=>by cases hx
  tb:=Int.le_refl 0
  fb:=by decide }
 exact .inl ⟨_,_,_,rfl,DnP.of c b (Int.le_refl 0) fun x hx=>by cases hx⟩
theorem Bk5 (s:Cv):Biy s s=true:=by
 unfold Biy
 have:∀ l:List A2,eqL (fun x y:A2=>eqB A1 x y) l l=true:=fun l=>by
  induction l with
  | nil=>rfl
  | cons x l ih=>
   simp only [eqL]
   rw [ih,Bool.and_true]
   simp [eqB,eqS]
 exact this s.1
theorem Eb.right {x:Bo} (h:Eb B w n x):Bne x=true:=by
 obtain ⟨s,h1,h2⟩:=h.found
 unfold Bne
 rw [h2]
 show (x.2.2.2.2.1.any fun p=>Biy p s)=true
 exact List.any_eq_true.2 ⟨s,h1,Bk5 s⟩
theorem Eb.len {x:Bo} (h:Eb B w n x):x.2.1.1.length=n:=by
 rcases h with ⟨D,past,W,rfl,r,u0,L,s0,E,es,u,l,s,h⟩ | ⟨D,P,sto,past,W,rfl,r,u0,L,s0,E,st,h⟩
 ·exact h.c.len
 ·exact h.c.len
end
section
variable {B:Nat} {w:Int} {n:Nat} {D D' W X:List Aa} {P ws:List Wr} {past past':List Cv} {r r':Rt} {u0 u:Nat} {L l:Int} {s0 st s:Cv} {E F es:List Aa} {sto:Ez}
structure j9 (x:Bo):Prop where
 d:∀ y∈x.2.1.1,(Ay y x.1).2=true→y∈x.2.2.2.2.2.1
 p:∀ v∈x.2.1.2.1,v.2.1∈x.2.2.2.2.2.1
theorem j9.forged {x:Bo} (h:j9 x):Ana x=z0:=by
 unfold Ana
 cases B7 x with
 | false=>rfl
 | true=>
  have key:∀ l:List Aa,(∀ y∈l,(Ay y x.1).2=true→y∈x.2.2.2.2.2.1)→Qc (fun y=>(Ay y x.1).2&&!inL x.2.2.2.2.2.1 y) (fun y=>y) z0 l=z0:=by
   intro l
   induction l with
   | nil=>intro _; rfl
   | cons y l ih=>
    intro hl
    simp only [Qc]
    have:((Ay y x.1).2&&!inL x.2.2.2.2.2.1 y)=false:=by
     cases hr:(Ay y x.1).2 with
     | false=>rfl
     | true=>
      have:inL x.2.2.2.2.2.1 y=true:=by
       unfold inL
       exact List.any_eq_true.2 ⟨y,hl y (List.mem_cons_self ..) hr,H5.2 rfl⟩
      rw [this]
      rfl
    rw [this]
    exact ih fun z hz=>hl z (List.mem_cons_of_mem _ hz)
  exact key _ h.d
def Bhf (V U:Aa→Prop) (d:Dk):Prop:=(∀ y∈d.1,V y)∧∀ v∈d.2.1,U v.2.1
theorem Bje {V:Aa→Prop}:∀ {ws:List Wr} {i:Nat} {sec:List Aa},(∀ y∈sec,V y)→(∀ v∈ws,V v.2.1)→∀ y∈Ds (fun _ w s=>s.set w.1.toNat w.2.1) i ws sec,V y
 | [],_,_,h,_=>h
 | v::ws,i,sec,h,hw=>Bje (ws:=ws) (i:=i + 1) (sec:=sec.set v.1.toNat v.2.1) (fun y hy=>by
   rcases List.mem_or_eq_of_mem_set hy with q | q
   ·exact h y q
   ·rw [q]; exact hw v (List.mem_cons_self ..)) fun v' hv=>hw v' (List.mem_cons_of_mem _ hv)
theorem Bso {V U:Aa→Prop} (hU:∀ y,U y→V y) {d:Dk} (h:Bhf V U d) {o:Dc} (ho:o.1=false→U o.2.2.1):Bhf V U (opS d o):=by
 unfold opS
 cases hs:o.1 with
 | true=>exact ⟨Bje h.1 fun v hv=>hU _ (h.2 v hv),fun v hv=>by cases hv⟩
 | false=>
  simp only [cond_false]
  cases Aiy d.1.length (o.2.1,o.2.2.1,())&&decide (d.2.1.length < 300) with
  | false=>exact h
  | true=>
   refine ⟨h.1,fun v hv=>?_⟩
   rcases List.mem_append.1 hv with q | q
   ·exact h.2 v q
   ·rw [List.mem_singleton.1 q]; exact ho hs
theorem Bnt {V U:Aa→Prop} (hU:∀ y,U y→V y):∀ {ops:List Dc} {d:Dk},Bhf V U d→(∀ o∈ops,o.1=false→U o.2.2.1)→Bhf V U (ops.foldl opS d)
 | [],_,h,_=>h
 | o::ops,d,h,ho=>Bnt hU (ops:=ops) (Bso hU h (ho o (List.mem_cons_self ..))) fun o' hm=>ho o' (List.mem_cons_of_mem _ hm)
theorem Bhg {ops:List Dc} {o:Dc} (h:o∈ops) (hs:o.1=false):o.2.2.1∈Db ops:=List.mem_map.2 ⟨o,List.mem_filter.2 ⟨h,by rw [hs]; rfl⟩,rfl⟩
theorem Bpv (V U:Aa→Prop):Bhf V U ([],[],()):=⟨fun _ hz=>absurd hz List.not_mem_nil,fun _ hz=>absurd hz List.not_mem_nil⟩
theorem j9.done {x:Bo} (h:j9 x) {e:T8} {y:Pl} (hc:Wf e y=false):j9 (Cc x e y):=by
 unfold Cc
 cases Om x e y with
 | true=>exact h
 | false=>
  rw [hc]
  have hw:Gs x e y=x.2.2.2.2.2.1++Db (y.2.2.1.take (Vr e y).toNat):=rfl
  have key:Bhf (fun z=>(Ay z x.1).2=true→z∈Gs x e y) (fun z=>z∈Gs x e y) (B9 x.2.1 y.2.2.1 (Vr e y)):=by
   unfold B9
   cases Ap x.2.1 with
   | false=>exact Bpv _ _
   | true=>
    show Bhf _ _ (List.foldl opS x.2.1 (List.take (Vr e y).toNat y.2.2.1))
    refine Bnt (V:=fun z=>(Ay z x.1).2=true→z∈Gs x e y) (U:=fun z=>z∈Gs x e y) (fun _ hz _=>hz) ⟨fun z hz hr=>?_,fun v hv=>?_⟩ fun o ho hs=>?_
    ·rw [hw]; exact List.mem_append_left _ (h.d z hz hr)
    ·rw [hw]; exact List.mem_append_left _ (h.p v hv)
    ·rw [hw]; exact List.mem_append_right _ (Bhg ho hs)
  exact ⟨key.1,key.2⟩
theorem Bbg (k:Int) (b:List Bc) (f:List Int) (y:Pl):Wf (k,b,-1,f,()) y=false:=rfl
theorem j9.step {x:Bo} (h:j9 x) {k:Int} (hk:(k==5)=false) (b:List Bc) (f:List Int):j9 (Ou x (k,b,-1,f,())):=by
 unfold Ou
 show j9 (bif k==5 then _ else _)
 rw [hk]
 cases !(Ih x (k,b,-1,f,())).2 || (Ih x (k,b,-1,f,())).1.1 != 0 with
 | true=>exact h
 | false=>exact h.done (Bbg k b f _)
theorem j9.power {x:Bo} (h:j9 x) (hp:x.2.1.2.1=[]) (b:List Bc) (c:Int) (f:List Int):j9 (Ou x (5,b,c,f,())):=by
 have e:Ou x (5,b,c,f,())=j7 x f:=rfl
 rw [e]
 obtain ⟨w,⟨D,P,⟨⟩⟩,up,sto,past,W,⟨⟩⟩:=x
 have hp:P=[]:=hp
 subst hp
 unfold j7 Eo
 cases Ap (D,[],()) with
 | false=>exact ⟨fun _ hz=>absurd hz List.not_mem_nil,fun _ hz=>absurd hz List.not_mem_nil⟩
 | true=>exact ⟨h.d,fun _ hz=>absurd hz List.not_mem_nil⟩
theorem Bjf {x:Bo} {e:T8} {y:Pl} (h1:(Gs x e y).length≤2000) (h2:(E7 x e y).length≤200):Om x e y=false:=by
 unfold Om
 rw [Bd (by omega),Bd (by omega)]
 rfl
theorem Anm (x:Bo) (k:Int) (b:List Bc) (f:List Int) (y:Pl):Gs x (k,b,-1,f,()) y=x.2.2.2.2.2.1++Db y.2.2.1:=by
 unfold Gs Vr
 rw [Bbg]
 simp only [cond_false,Fz,List.take_length]
theorem Bk6 {x:Bo} (hu:x.2.2.1=true) {b:List Bc} (hc:(Bs x.2.2.2.1 b).1=0) (h1:x.2.2.2.2.2.1.length + (Db (Bs x.2.2.2.1 b).2.2.1).length≤2000) (h2:x.2.2.2.2.1.length + 1≤200) (f:List Int):
  (Ou x (2,b,-1,f,())).2.2.1=true∧(Ou x (2,b,-1,f,())).2.2.2.1=(Bs x.2.2.2.1 b).2.1∧(Ou x (2,b,-1,f,())).2.2.2.2.1.length=x.2.2.2.2.1.length + 1∧(Ou x (2,b,-1,f,())).2.2.2.2.2.1.length=x.2.2.2.2.2.1.length + (Db (Bs x.2.2.2.1 b).2.2.1).length:=by
 have e1:Ou x (2,b,-1,f,())=bif !x.2.2.1 || (Bs x.2.2.2.1 b).1 != 0 then x else Cc x (2,b,-1,f,()) (Bs x.2.2.2.1 b):=rfl
 rw [e1,hu,hc]
 have e2:E7 x (2,b,-1,f,()) (Bs x.2.2.2.1 b)=x.2.2.2.2.1++[(Bs x.2.2.2.1 b).2.1.2.2.2.2.2.2.1]:=rfl
 have hf:Om x (2,b,-1,f,()) (Bs x.2.2.2.1 b)=false:=Bjf (by rw [Anm,Dn]; exact h1) (by rw [e2,Dn]; exact h2)
 show (Cc _ _ _).2.2.1=true∧(Cc _ _ _).2.2.2.1=_∧(Cc _ _ _).2.2.2.2.1.length=_∧(Cc _ _ _).2.2.2.2.2.1.length=_
 unfold Cc
 rw [hf,Bbg]
 refine ⟨rfl,rfl,?_,?_⟩
 ·show (E7 x (2,b,-1,f,()) (Bs x.2.2.2.1 b)).length=_
  rw [e2,Dn]; rfl
 ·show (Gs x (2,b,-1,f,()) (Bs x.2.2.2.1 b)).length=_
  rw [Anm,Dn]
theorem Bnu {x:Bo} (hu:x.2.2.1=true) (hv:As x.2.2.2.1=true) (h1:x.2.2.2.2.2.1.length≤2000) (h2:x.2.2.2.2.1.length≤200) (f:List Int):
  (Ou x (3,[],-1,f,())).2.2.1=true∧(Ou x (3,[],-1,f,())).2.2.2.1.2.2.2.2.2.2.1=x.2.2.2.1.2.2.2.2.2.2.1∧(Ou x (3,[],-1,f,())).2.2.2.2.1=[x.2.2.2.1.2.2.2.2.2.2.1]∧(Ou x (3,[],-1,f,())).2.2.2.2.2.1.length=x.2.2.2.2.2.1.length∧(Ou x (3,[],-1,f,())).2.1.2.1=[]:=by
 have e1:Ou x (3,[],-1,f,())=bif !x.2.2.1 || (Kk x.2.2.2.1).1 != 0 then x else Cc x (3,[],-1,f,()) (Kk x.2.2.2.1):=rfl
 have e0:Kk x.2.2.2.1=(0,(x.2.2.2.1.1,x.2.2.2.1.2.1,x.2.2.2.1.2.2.1,x.2.2.2.1.2.2.2.1,x.2.2.2.1.2.2.2.2.1,0,x.2.2.2.1.2.2.2.2.2.2.1,()),[D6],()):=by
  unfold Kk
  rw [hv]
  rfl
 rw [e1,hu,e0]
 have hf:Om x (3,[],-1,f,()) (0,(x.2.2.2.1.1,x.2.2.2.1.2.1,x.2.2.2.1.2.2.1,x.2.2.2.1.2.2.2.1,x.2.2.2.1.2.2.2.2.1,0,x.2.2.2.1.2.2.2.2.2.2.1,()),[D6],())=false:=Bjf (by rw [Anm,Dn]; exact h1) h2
 show (Cc _ _ _).2.2.1=true∧(Cc _ _ _).2.2.2.1.2.2.2.2.2.2.1=_∧(Cc _ _ _).2.2.2.2.1=_∧(Cc _ _ _).2.2.2.2.2.1.length=_∧(Cc _ _ _).2.1.2.1=_
 unfold Cc
 rw [hf,Bbg]
 refine ⟨rfl,rfl,rfl,?_,?_⟩
 ·show (Gs x (3,[],-1,f,()) _).length=_
  rw [Anm,Dn]; rfl
 ·show (B9 x.2.1 [D6] 1).2.1=[]
  unfold B9
  cases Ap x.2.1<;>rfl
theorem Nb.do_compact (h:Nb B w n D P sto past W r u0 L s0 E st) (hW:W.length + hN n + 1≤2000) (f:List Int):
  Ou (K7 w D P true sto past W) (4,[],-1,f,())=K7 w ((I8.lay D P w n r L st).set (Yj r) (B5 (Kg n r L) w)) [] true (w,(n:Int),L,Kg n r L,((Hm w n r L st).length:Int),0,st,()) [st] (W++(Hm w n r L st++[B5 (Kg n r L) w])):=by
 have hsok:=h.sok
 have hs:=h.s
 have m:=h.mv
 subst hs
 have e0:Ou (K7 w D P true (w,(n:Int),L,r,((u0 + (qP L w (r.2.2.1 + u0) E).length:Nat):Int),((qP L w (r.2.2.1 + u0) E).length:Int),st,()) past W) (4,[],-1,f,())=
   bif (F1 (w,(n:Int),L,r,((u0 + (qP L w (r.2.2.1 + u0) E).length:Nat):Int),((qP L w (r.2.2.1 + u0) E).length:Int),st,())).1 != 0 then (K7 w D P true (w,(n:Int),L,r,((u0 + (qP L w (r.2.2.1 + u0) E).length:Nat):Int),((qP L w (r.2.2.1 + u0) E).length:Int),st,()) past W)
   else Cc (K7 w D P true (w,(n:Int),L,r,((u0 + (qP L w (r.2.2.1 + u0) E).length:Nat):Int),((qP L w (r.2.2.1 + u0) E).length:Int),st,()) past W) (4,[],-1,f,()) (F1 (w,(n:Int),L,r,((u0 + (qP L w (r.2.2.1 + u0) E).length:Nat):Int),((qP L w (r.2.2.1 + u0) E).length:Int),st,())):=rfl
 rw [e0,A4e hsok,Bbe m]
 show Cc _ _ _=_
 rcases Awh (past:=past) (sto:=(w,(n:Int),L,r,((u0 + (qP L w (r.2.2.1 + u0) E).length:Nat):Int),((qP L w (r.2.2.1 + u0) E).length:Int),st,())) (up:=true) m (show ((4:Int)==2)=false by decide) [] (-1) f h.b.pl.2 with ⟨q,_⟩ | ⟨k,q,_⟩ | ⟨q,_⟩ | ⟨q,_⟩ | ⟨q,_⟩ | ⟨hk,e⟩
 ·omega
 ·omega
 ·omega
 ·omega
 ·omega
 ·exact e
theorem Eb.do_compact {x:Bo} (h:Eb B w n x) (hu:x.2.2.1=true) (hW:x.2.2.2.2.2.1.length + hN n + 1≤2000) (f:List Int):
  (Ou x (4,[],-1,f,())).2.2.1=true∧(Ou x (4,[],-1,f,())).2.2.2.1.2.2.2.2.2.2.1=x.2.2.2.1.2.2.2.2.2.2.1∧(Ou x (4,[],-1,f,())).2.2.2.1.2.2.2.2.1=1 + C5 x.2.2.2.1.2.2.2.2.2.2.1 w∧(Ou x (4,[],-1,f,())).2.2.2.2.1.length=1∧(Ou x (4,[],-1,f,())).2.2.2.2.2.1.length≤x.2.2.2.2.2.1.length + hN n + 1:=by
 rcases h with ⟨D,past,W,rfl,r,u0,L,s0,E,es,u,l,s,h⟩ | ⟨D,P,sto,past,W,rfl,r,u0,L,s0,E,st,h⟩
 ·cases hu
 ·rw [h.do_compact hW f]
  have hs:=h.s
  have m:=h.mv
  have hml:=m.ml
  subst hs
  refine ⟨rfl,rfl,?_,rfl,?_⟩
  ·show ((Hm w n r L st).length:Int)=_
   exact Bjb h.c.hw
  ·show (W++(Hm w n r L st++[B5 (Kg n r L) w])).length≤W.length + hN n + 1
   rw [Dn,Dn,En]
   omega
theorem Eb.store {x:Bo} (h:Eb B w n x) (hu:x.2.2.1=true):As x.2.2.2.1=true∧x.2.2.2.1.1=w∧x.2.2.2.1.2.1=(n:Int)∧Bq w 1 8=true∧8≤n∧n≤200∧Bq x.2.2.2.1.2.2.1 1 60000=true∧1≤x.2.2.2.1.2.2.2.1.2.2.1 + x.2.2.2.1.2.2.2.2.1∧x.2.2.2.1.2.2.2.1.2.2.1 + x.2.2.2.1.2.2.2.2.1≤999999000∧0≤x.2.2.2.1.2.2.2.2.1∧x.2.2.2.1.2.2.2.2.1≤(hN n:Int):=by
 rcases h with ⟨D,past,W,rfl,r,u0,L,s0,E,es,u,l,s,h⟩ | ⟨D,P,sto,past,W,rfl,r,u0,L,s0,E,st,h⟩
 ·cases hu
 ·have hk:=h.sok
  have hs:=h.s
  have h9:=h.h9
  have hq:=h.c.qh
  have hh:=L9 h.c.n8 h.c.n2
  subst hs
  refine ⟨hk,rfl,rfl,h.c.hw,h.c.n8,h.c.n2,h9.2.2,?_,?_,?_,?_⟩
  ·show 1≤r.2.2.1 + ((u0 + (qP L w (r.2.2.1 + u0) E).length:Nat):Int); omega
  ·show r.2.2.1 + ((u0 + (qP L w (r.2.2.1 + u0) E).length:Nat):Int)≤999999000; omega
  ·show 0≤((u0 + (qP L w (r.2.2.1 + u0) E).length:Nat):Int); omega
  ·show ((u0 + (qP L w (r.2.2.1 + u0) E).length:Nat):Int)≤(hN n:Int); omega
theorem Eb.open_up {x:Bo} (h:Eb B w n x) (hd:x.2.2.1=false) (hB:B + 1≤9000) (hn:x.2.2.2.2.2.1.length + hN n + 1≤2000) (f:List Int) {s:Cv} (hp:x.2.2.2.2.1=[s]):
  (Ou x (1,[],-1,f,())).2.2.1=true∧(Ou x (1,[],-1,f,())).2.2.2.1.2.2.2.2.2.2.1=s∧(Ou x (1,[],-1,f,())).2.2.2.2.1=[s]∧(Ou x (1,[],-1,f,())).2.2.2.2.2.1.length≤x.2.2.2.2.2.1.length + hN n + 1∧(Ou x (1,[],-1,f,())).2.1.2.1=[]:=by
 rcases h with ⟨D,past,W,rfl,r,u0,L,s0,E,es,u,l,s',h⟩ | ⟨D,P,sto,past,W,rfl,r,u0,L,s0,E,st,h⟩
 ·have hm:=h.f.mem
  have hp:past=[s]:=hp
  rw [hp] at hm
  have hm:=List.mem_singleton.1 hm
  have e1:Ou (K7 w D [] false Vt past W) (1,[],-1,f,())=bif (L8 (D,[],()) w).1 != 0 then K7 w D [] false Vt past W else Cc (K7 w D [] false Vt past W) (1,[],-1,f,()) (L8 (D,[],()) w):=rfl
  rw [e1]
  have hn:W.length + hN n + 1≤2000:=hn
  rcases h.open_is with ⟨hu,e2⟩ | ⟨hu,e2⟩
  ·rw [e2]
   rcases h.open_near hB hu [] (-1) f with ⟨q,_⟩ | ⟨q,_⟩ | ⟨e3,_⟩
   ·omega
   ·omega
   ·show (Cc _ _ _).2.2.1=true∧(Cc _ _ _).2.2.2.1.2.2.2.2.2.2.1=_∧(Cc _ _ _).2.2.2.2.1=_∧(Cc _ _ _).2.2.2.2.2.1.length≤_∧(Cc _ _ _).2.1.2.1=_
    rw [e3]
    refine ⟨rfl,hm,congrArg (fun z=>[z]) hm,?_,rfl⟩
    show (W++[_]).length≤W.length + hN n + 1
    rw [Dn,En]
    omega
  ·rw [e2]
   have hml:=h.mv.ml
   rcases h.open_far hB hu [] (-1) f with ⟨q,_⟩ | ⟨q,_⟩ | ⟨e3,_⟩
   ·omega
   ·omega
   ·show (Cc _ _ _).2.2.1=true∧(Cc _ _ _).2.2.2.1.2.2.2.2.2.2.1=_∧(Cc _ _ _).2.2.2.2.1=_∧(Cc _ _ _).2.2.2.2.2.1.length≤_∧(Cc _ _ _).2.1.2.1=_
    rw [e3]
    refine ⟨rfl,hm,congrArg (fun z=>[z]) hm,?_,rfl⟩
    show (W++(Hm w n r (l + 1) s'++[_])).length≤W.length + hN n + 1
    rw [Dn,Dn,En]
    omega
 ·cases hd
def Brv (k:Nat):Aa:=strOfNums [107,101,121,48 + ((k / 10:Nat):Int),48 + ((k % 10:Nat):Int)]
def Bpw:Aa:=strOfNums [97,32,118,97,108,117,101,32,111,102,32,50,48,32,98,121,116,101,115,46]
def stK (k:Nat):Cv:=((List.range k).map fun i=>(Brv i,Bpw,()),())
def Ss (k:Nat):List Bc:=[(Brv k,Bpw,false,())]
theorem Bjg (k:Nat):(stK k).1.length=k:=by simp [stK]
def eqP:List A2→List A2→Bool
 | [],[]=>true
 | x::l,y::m=>x.1.toList==y.1.toList&&(x.2.1.toList==y.2.1.toList&&eqP l m)
 | _,_=>false
theorem Bnv:∀ {l m:List A2},eqP l m=true→l=m
 | [],[],_=>rfl
 | [],_::_,h=>by cases h
 | _::_,[],h=>by cases h
 | x::l,y::m,h=>by
  obtain ⟨h1,h⟩:=B2 h
  obtain ⟨h2,h3⟩:=B2 h
  rw [Bnv h3]
  congr 1
  exact Prod.ext (Ayf (by simpa using h1)) (Prod.ext (Ayf (by simpa using h2)) rfl)
def apK (k:Nat):Bool:=eqP (Bx (stK k) (Ss k)).1.1 (stK (k + 1)).1&&((Bx (stK k) (Ss k)).2==0)
theorem Bpx:(List.range 60).all apK=true:=by decide +kernel
theorem Bsp {k:Nat} (h:k < 60):Bx (stK k) (Ss k)=(stK (k + 1),0):=by
 obtain ⟨h1,h2⟩:=B2 (List.all_eq_true.1 Bpx k (List.mem_range.2 h))
 exact Prod.ext (Prod.ext (Bnv h1) rfl) (beq_iff_eq.1 h2)
def pgK (k:Nat):Bool:=[1,2,3,4,5,6,7,8].all fun w=>(E5 (Be (Ss k)).size w==1)&&((Ao (Be (Ss k)) w).length==1&&Az (Ss k))
theorem Bpy:(List.range 60).all pgK=true:=by decide +kernel
theorem Bqw {w:Int} (h:Bq w 1 8=true):w∈[1,2,3,4,5,6,7,8]:=by
 obtain ⟨h1,h2⟩:=B2 h
 have h1:=G8 h1
 have h2:=G8 h2
 have:w=1∨w=2∨w=3∨w=4∨w=5∨w=6∨w=7∨w=8:=by omega
 simpa using this
theorem Bsq {k:Nat} (h:k < 60) {w:Int} (hw:Bq w 1 8=true):E5 (Be (Ss k)).size w=1∧(Ao (Be (Ss k)) w).length=1∧Az (Ss k)=true:=by
 obtain ⟨h1,h2⟩:=B2 (List.all_eq_true.1 (List.all_eq_true.1 Bpy k (List.mem_range.2 h)) w (Bqw hw))
 obtain ⟨h2,h3⟩:=B2 h2
 exact ⟨beq_iff_eq.1 h1,beq_iff_eq.1 h2,h3⟩
theorem Bpz:([1,2,3,4,5,6,7,8].all fun w=>(C5 (stK 1) w==1)&&(C5 (stK 0) w==0))=true:=by decide +kernel
theorem rm1 {w:Int} (hw:Bq w 1 8=true):C5 (stK 1) w=1∧C5 (stK 0) w=0:=by
 obtain ⟨h1,h2⟩:=B2 (List.all_eq_true.1 Bpz w (Bqw hw))
 exact ⟨beq_iff_eq.1 h1,beq_iff_eq.1 h2⟩
theorem A9s (life w:Int):∀ (l:List Aa) (k:Int),(Ig life w k l).length=l.length
 | [],_=>rfl
 | [_],_=>rfl
 | _::q::r,k=>by
  show (Ig life w (k + 1) (q::r)).length + 1=_
  rw [A9s life w (q::r)]
  rfl
theorem Eb.commit_is {x:Bo} (h:Eb B w n x) (hu:x.2.2.1=true) {k:Nat} (hk:k < 60) (hs:x.2.2.2.1.2.2.2.2.2.2.1=stK k):
  (Db (Bs x.2.2.2.1 (Ss k)).2.2.1).length≤1∧((Bs x.2.2.2.1 (Ss k)).1=0→(Bs x.2.2.2.1 (Ss k)).2.1.2.2.2.2.2.2.1=stK (k + 1))∧((Bs x.2.2.2.1 (Ss k)).1=4→x.2.2.2.1.2.2.2.2.1=(hN n:Int))∧(k=0→(Bs x.2.2.2.1 (Ss k)).1=0∨(Bs x.2.2.2.1 (Ss k)).1=4):=by
 obtain ⟨hv,hw',hn',hw,n8,n2,hL,f1,f2,u1,u2⟩:=h.store hu
 obtain ⟨p1,p2,p3⟩:=Bsq hk hw
 have hP:(Em x.2.2.2.1 (Ss k)).length=1:=by
  unfold Em Xm
  rw [hw',hw,hL,p1,Af f1,Af (show x.2.2.2.1.2.2.2.1.2.2.1 + x.2.2.2.1.2.2.2.2.1≤1000000000 - 1 + 1 by omega)]
  show (Ig _ _ _ _).length=1
  rw [A9s,p2]
 have hh:=L9 n8 n2
 unfold Bs
 rw [hv,p3,hs,Bsp hk,hw',hn',Q9 n8 n2]
 simp only [Bool.not_true,cond_false]
 show _∧_
 have z:((0:Int) != 0)=false:=rfl
 rw [z]
 simp only [cond_false]
 by_cases q1:C5 (stK (k + 1)) w > (hN n:Int) - 1
 ·rw [Af q1]
  refine ⟨Nat.zero_le _,fun q=>absurd (show (3:Int)=0 from q) (by decide),fun q=>absurd (show (3:Int)=4 from q) (by decide),fun q=>?_⟩
  subst q
  have:=(rm1 hw).1
  have q1:C5 (stK 1) w > (hN n:Int) - 1:=q1
  omega
 ·rw [Bd q1]
  simp only [cond_false]
  by_cases q2:nI (Em x.2.2.2.1 (Ss k)).length > (hN n:Int) - x.2.2.2.1.2.2.2.2.1
  ·rw [Af q2]
   refine ⟨Nat.zero_le _,fun q=>absurd (show (4:Int)=0 from q) (by decide),fun _=>?_,fun _=>.inr rfl⟩
   rw [hP] at q2
   have q2:(1:Int) > (hN n:Int) - x.2.2.2.1.2.2.2.2.1:=q2
   omega
  ·rw [Bd q2]
   refine ⟨?_,fun _=>rfl,fun q=>absurd (show (0:Int)=4 from q) (by decide),fun _=>.inl rfl⟩
   show (Db (C9 _ (Em x.2.2.2.1 (Ss k)))).length≤1
   rw [Sr,hP]
   exact Nat.le_refl _
structure Azn (B m:Nat) (w:Int) (n k:Nat) (x:Bo):Prop where
 kp:Eb B w n x
 cl:j9 x
 up:x.2.2.1=true
 st:x.2.2.2.1.2.2.2.2.2.2.1=stK k
 ps:x.2.2.2.2.1.length≤k + 1
 wr:x.2.2.2.2.2.1.length≤m
variable {m k:Nat} {x:Bo}
theorem Azn.commit (h:Azn B m w n k x) (hB:B + 1≤9000) (hk:k < 60) (hm:m + 1≤2000) (h0:(Bs x.2.2.2.1 (Ss k)).1=0) (f:List Int):Azn (B + 1) (m + 1) w n (k + 1) (Ou x (2,Ss k,-1,f,())):=by
 have hc:=h.cl.step (k:=2) rfl (Ss k) f
 have hkp:=(h.kp.step hB (2,Ss k,-1,f,())).2 hc.forged
 obtain ⟨c1,c2,_⟩:=h.kp.commit_is h.up hk h.st
 have hw:=h.wr
 have hp:=h.ps
 obtain ⟨e1,e2,e3,e4⟩:=Bk6 h.up h0 (by omega) (by omega) f
 exact ⟨hkp,hc,e1,by rw [e2]; exact c2 h0,by omega,by omega⟩
theorem Azn.compact (h:Azn B m w n k x) (hB:B + 1≤9000) (h19:hN n≤19) (hm:m + 20≤2000) (f:List Int):Azn (B + 1) (m + 20) w n k (Ou x (4,[],-1,f,()))∧(Ou x (4,[],-1,f,())).2.2.2.1.2.2.2.2.1=1 + C5 (stK k) w:=by
 have hc:=h.cl.step (k:=4) rfl [] f
 have hkp:=(h.kp.step hB (4,[],-1,f,())).2 hc.forged
 have hw:=h.wr
 obtain ⟨e1,e2,e3,e4,e5⟩:=h.kp.do_compact h.up (by omega) f
 exact ⟨⟨hkp,hc,e1,by rw [e2]; exact h.st,by omega,by omega⟩,by rw [e3,h.st]⟩
structure Bnw (B m:Nat) (w:Int) (n k:Nat) (x:Bo):Prop where
 kp:Eb B w n x
 cl:j9 x
 up:x.2.2.1=true
 st:x.2.2.2.1.2.2.2.2.2.2.1=stK k
 ps:x.2.2.2.2.1=[stK k]
 wr:x.2.2.2.2.2.1.length≤m
 pe:x.2.1.2.1=[]
theorem Azn.flush (h:Azn B m w n k x) (hB:B + 1≤9000) (hk:k≤60) (hm:m≤2000) (f:List Int):Bnw (B + 1) m w n k (Ou x (3,[],-1,f,())):=by
 have hc:=h.cl.step (k:=3) rfl [] f
 have hkp:=(h.kp.step hB (3,[],-1,f,())).2 hc.forged
 have hw:=h.wr
 have hp:=h.ps
 obtain ⟨e1,e2,e3,e4,e5⟩:=Bnu h.up (h.kp.store h.up).1 (by omega) (by omega) f
 exact ⟨hkp,hc,e1,by rw [e2]; exact h.st,by rw [e3,h.st],by omega,e5⟩
theorem Bnw.again (h:Bnw B m w n k x) (hB:B + 2≤9000) (h19:hN n≤19) (hm:m + 20≤2000) (c:Int) (f:List Int):B7 (Ou x (5,[],c,f,()))=true∧Bnw (B + 2) (m + 20) w n k (Ou (Ou x (5,[],c,f,())) (1,[],-1,[],())):=by
 have hc:=h.cl.power h.pe [] c f
 obtain ⟨v1,k1⟩:=h.kp.step (by omega) (5,[],c,f,())
 have hkp:=k1 hc.forged
 have hw:=h.wr
 have hw1:(Ou x (5,[],c,f,())).2.2.2.2.2.1=x.2.2.2.2.2.1:=rfl
 have hp1:(Ou x (5,[],c,f,())).2.2.2.2.1=[stK k]:=h.ps
 have hc2:=hc.step (k:=1) rfl [] []
 have hkp2:=(hkp.step (by omega) (1,[],-1,[],())).2 hc2.forged
 obtain ⟨e1,e2,e3,e4,e5⟩:=hkp.open_up rfl (by omega) (by rw [hw1]; omega) [] hp1
 rw [hw1] at e4
 exact ⟨v1,hkp2,hc2,e1,e2,e3,by omega,e5⟩
theorem Bnx (n8:8≤n) (n2:n≤200) (h19:hN n≤19) (hw:Bq w 1 8=true) (hx:x=(w,Kh (n:Int),false,Vt,[([],())],[],())):Azn 1 20 w n 0 (Ou x (1,[],-1,[],()))∧B7 x=true:=by
 have hk:Eb 0 w n x:=by rw [hx]; exact Bk4 n n8 n2 hw
 have hd:Kh (n:Int)=(List.replicate n zS,[],()):=by
  unfold Kh
  rw [Aa7 (by omega) (by omega)]
  rfl
 have hc:j9 x:=by
  rw [hx,hd]
  refine ⟨fun y hy hr=>?_,fun y hy=>by cases hy⟩
  rw [List.eq_of_mem_replicate hy,Anf hw] at hr
  cases hr
 have hc2:=hc.step (k:=1) rfl [] []
 have hkp2:=(hk.step (by omega) (1,[],-1,[],())).2 hc2.forged
 obtain ⟨e1,e2,e3,e4,e5⟩:=hk.open_up (by rw [hx]) (by omega) (by rw [hx]; show 0 + hN n + 1≤2000; omega) [] (s:=([],())) (by rw [hx])
 refine ⟨⟨hkp2,hc2,e1,by rw [e2]; rfl,by rw [e3]; exact Nat.le_refl _,?_⟩,hk.valid⟩
 have:x.2.2.2.2.2.1.length=0:=by rw [hx]; rfl
 omega
end
end Go.Proofs.YtfkefgbihlfjmaaGreat.V
namespace Go.Proofs
open Go.Shelf
def Tryz.laysGg6_ren:Go.Shelf.Ren:=⟨fun | 6=>177 | 10=>217 | 11=>218 | 12=>219 | 13=>220 | 14=>221 | 24=>240 | 25=>241 | 26=>242 | 27=>243 | 28=>244 | 29=>245 | 30=>246 | 31=>247 | 32=>248 | 33=>249 | 34=>255 | 35=>256 | 36=>257 | 37=>258 | 38=>259 | 39=>261 | n=>n,fun | 20=>20 | 26=>199 | 35=>237 | 0=>0 | 37=>239 | 3=>3 | 41=>223 | 44=>245 | 49=>260 | 51=>226 | 4=>4 | 54=>264 | 53=>263 | 58=>268 | 5=>5 | 9=>9 | 60=>275 | 64=>279 | 66=>282 | 67=>283 | 17=>17 | 32=>234 | 33=>235 | 82=>296 | 12=>12 | 75=>290 | 76=>291 | 77=>292 | 78=>252 | 79=>293 | 80=>294 | n=>n,fun | n=>n⟩
theorem Tryz.laysGg6:Go.Proofs.LaysGg.n6 Tryz.prog Tryz.laysGg6_ren:={
 mixed:=by kernel_rfl
 f6:=Tryz.func177.trans (congrArg some (by kernel_rfl))
 f10:=Tryz.func217.trans (congrArg some (by kernel_rfl))
 f11:=Tryz.func218.trans (congrArg some (by kernel_rfl))
 f12:=Tryz.func219.trans (congrArg some (by kernel_rfl))
 f13:=Tryz.func220.trans (congrArg some (by kernel_rfl))
 f14:=Tryz.func221.trans (congrArg some (by kernel_rfl))
 f24:=Tryz.func240.trans (congrArg some (by kernel_rfl))
 f25:=Tryz.func241.trans (congrArg some (by kernel_rfl))
 f26:=Tryz.func242.trans (congrArg some (by kernel_rfl))
 f27:=Tryz.func243.trans (congrArg some (by kernel_rfl))
 f28:=Tryz.func244.trans (congrArg some (by kernel_rfl))
 f29:=Tryz.func245.trans (congrArg some (by kernel_rfl))
 f30:=Tryz.func246.trans (congrArg some (by kernel_rfl))
 f31:=Tryz.func247.trans (congrArg some (by kernel_rfl))
 f32:=Tryz.func248.trans (congrArg some (by kernel_rfl))
 f33:=Tryz.func249.trans (congrArg some (by kernel_rfl))
 f34:=Tryz.func255.trans (congrArg some (by kernel_rfl))
 f35:=Tryz.func256.trans (congrArg some (by kernel_rfl))
 f36:=Tryz.func257.trans (congrArg some (by kernel_rfl))
 f37:=Tryz.func258.trans (congrArg some (by kernel_rfl))
 f38:=Tryz.func259.trans (congrArg some (by kernel_rfl))
 f39:=Tryz.func261.trans (congrArg some (by kernel_rfl))
 t0:=Tryz.underlying0
 a0:=Tryz.isAgg0
 z0:=Tryz.sizeOf0
 v0:=Tryz.zeroValue0
 i0:=by kernel_rfl
 t3:=Tryz.underlying3
 a3:=Tryz.isAgg3
 z3:=Tryz.sizeOf3
 v3:=Tryz.zeroValue3
 i3:=by kernel_rfl
 t4:=Tryz.underlying4
 a4:=Tryz.isAgg4
 z4:=Tryz.sizeOf4
 v4:=Tryz.zeroValue4
 i4:=by kernel_rfl
 t5:=Tryz.underlying5
 a5:=Tryz.isAgg5
 z5:=Tryz.sizeOf5
 v5:=Tryz.zeroValue5
 i5:=by kernel_rfl
 t9:=Tryz.underlying9
 a9:=Tryz.isAgg9
 z9:=Tryz.sizeOf9
 v9:=Tryz.zeroValue9
 i9:=by kernel_rfl
 t12:=Tryz.underlying12
 a12:=Tryz.isAgg12
 z12:=Tryz.sizeOf12
 v12:=Tryz.zeroValue12
 i12:=by kernel_rfl
 t17:=Tryz.underlying17
 a17:=Tryz.isAgg17
 z17:=Tryz.sizeOf17
 v17:=Tryz.zeroValue17
 i17:=by kernel_rfl
 t20:=Tryz.underlying20
 a20:=Tryz.isAgg20
 z20:=Tryz.sizeOf20
 v20:=Tryz.zeroValue20
 i20:=by kernel_rfl
 t26:=Tryz.underlying199
 a26:=Tryz.isAgg199
 z26:=Tryz.sizeOf199
 v26:=Tryz.zeroValue199
 i26:=by kernel_rfl
 t32:=Tryz.underlying234
 a32:=Tryz.isAgg234
 z32:=Tryz.sizeOf234
 v32:=Tryz.zeroValue234
 i32:=by kernel_rfl
 t33:=Tryz.underlying235
 a33:=Tryz.isAgg235
 z33:=Tryz.sizeOf235
 v33:=Tryz.zeroValue235
 i33:=by kernel_rfl
 t35:=Tryz.underlying237
 a35:=Tryz.isAgg237
 z35:=Tryz.sizeOf237
 v35:=Tryz.zeroValue237
 i35:=by kernel_rfl
 t37:=Tryz.underlying239
 a37:=Tryz.isAgg239
 z37:=Tryz.sizeOf239
 v37:=Tryz.zeroValue239
 i37:=by kernel_rfl
 t41:=Tryz.underlying223
 a41:=Tryz.isAgg223
 z41:=Tryz.sizeOf223
 v41:=Tryz.zeroValue223
 i41:=by kernel_rfl
 t44:=Tryz.underlying245
 a44:=Tryz.isAgg245
 z44:=Tryz.sizeOf245
 v44:=Tryz.zeroValue245
 i44:=by kernel_rfl
 t49:=Tryz.underlying260
 a49:=Tryz.isAgg260
 z49:=Tryz.sizeOf260
 v49:=Tryz.zeroValue260
 i49:=by kernel_rfl
 t51:=Tryz.underlying226
 a51:=Tryz.isAgg226
 z51:=Tryz.sizeOf226
 v51:=Tryz.zeroValue226
 i51:=by kernel_rfl
 t53:=Tryz.underlying263
 a53:=Tryz.isAgg263
 z53:=Tryz.sizeOf263
 v53:=Tryz.zeroValue263
 i53:=by kernel_rfl
 t54:=Tryz.underlying264
 a54:=Tryz.isAgg264
 z54:=Tryz.sizeOf264
 v54:=Tryz.zeroValue264
 i54:=by kernel_rfl
 t58:=Tryz.underlying268
 a58:=Tryz.isAgg268
 z58:=Tryz.sizeOf268
 v58:=Tryz.zeroValue268
 i58:=by kernel_rfl
 t60:=Tryz.underlying275
 a60:=Tryz.isAgg275
 z60:=Tryz.sizeOf275
 v60:=Tryz.zeroValue275
 i60:=by kernel_rfl
 t64:=Tryz.underlying279
 a64:=Tryz.isAgg279
 z64:=Tryz.sizeOf279
 v64:=Tryz.zeroValue279
 i64:=by kernel_rfl
 t66:=Tryz.underlying282
 a66:=Tryz.isAgg282
 z66:=Tryz.sizeOf282
 v66:=Tryz.zeroValue282
 i66:=by kernel_rfl
 t67:=Tryz.underlying283
 a67:=Tryz.isAgg283
 z67:=Tryz.sizeOf283
 v67:=Tryz.zeroValue283
 i67:=by kernel_rfl
 t75:=Tryz.underlying290
 a75:=Tryz.isAgg290
 z75:=Tryz.sizeOf290
 v75:=Tryz.zeroValue290
 i75:=by kernel_rfl
 t76:=Tryz.underlying291
 a76:=Tryz.isAgg291
 z76:=Tryz.sizeOf291
 v76:=Tryz.zeroValue291
 i76:=by kernel_rfl
 t77:=Tryz.underlying292
 a77:=Tryz.isAgg292
 z77:=Tryz.sizeOf292
 v77:=Tryz.zeroValue292
 i77:=by kernel_rfl
 t78:=Tryz.underlying252
 a78:=Tryz.isAgg252
 z78:=Tryz.sizeOf252
 v78:=Tryz.zeroValue252
 i78:=by kernel_rfl
 t79:=Tryz.underlying293
 a79:=Tryz.isAgg293
 z79:=Tryz.sizeOf293
 v79:=Tryz.zeroValue293
 i79:=by kernel_rfl
 t80:=Tryz.underlying294
 a80:=Tryz.isAgg294
 z80:=Tryz.sizeOf294
 v80:=Tryz.zeroValue294
 i80:=by kernel_rfl
 t82:=Tryz.underlying296
 a82:=Tryz.isAgg296
 z82:=Tryz.sizeOf296
 v82:=Tryz.zeroValue296
 i82:=by kernel_rfl }
namespace YtfkefgbihlfjmaaGreat.V
open Go Go.RowKit Go.Shelf Go.Lib Go.Sort Go.Proofs.YtfkefgbihlfjmaaGreat.R
set_option maxHeartbeats 2000000 in
theorem Bk7:Bnc Tryz.prog 178:=by
 intro blk off c bs size W G hs hc i j hi hj _hsz
 have ci:=hc i hi
 have cj:=hc j hj
 go_enter Tryz.func178,Tryz.ntmps178
 go_wp2
 go_quiet (fail)
 go_wp2
 go_ret
 exact ⟨rfl,nq,rfl⟩
def svT:TypeInfo:=(Tryz.prog.info? 29).get (by kernel_rfl)
def svE:TypeInfo:=(Tryz.prog.info? 157).get (by kernel_rfl)
theorem svK (n:Nat) (h2:2≤n):swapperK n svE 25=9:=by
 have a:svE.hasPointers=true:=by kernel_rfl
 have b:(svE.bytes==8)=false:=by kernel_rfl
 have c:(n==0)=false:=by simp; omega
 have d:(n==1)=false:=by simp; omega
 simp [swapperK,a,b,c,d]
end YtfkefgbihlfjmaaGreat.V
namespace YtfkefgbihlfjmaaGreat.R
open Go Go.RowKit Go.Shelf Go.Lib Go.Sort Go.Proofs.YtfkefgbihlfjmaaGreat.V
theorem Bk8:Baj Tryz.prog 177 178 31 29 157:=
 Bgy (ρ:=Tryz.laysGg6_ren) Tryz.laysGg6 (i:=svT) (ie:=svE) (by kernel_rfl) (by kernel_rfl) (by kernel_rfl) (by kernel_rfl) 25 (fun _=>by kernel_rfl) (by kernel_rfl) (fun _=>by kernel_rfl)
  (enters_of Tryz.func178 (by kernel_rfl) rfl) 239 231 232 (fun n h2=>by rw [svK n h2]; kernel_rfl) (by kernel_rfl) (by kernel_rfl) false
  (fun args W=>run_callFunc_extern Tryz.func239 (by kernel_rfl) (by kernel_rfl) (by kernel_rfl) (e:=Extern.ReflectliteSwapper.swap false) (by kernel_rfl) args W) Bk7
end YtfkefgbihlfjmaaGreat.R
end Go.Proofs
end
