/- Pages written and read; logs laid down and scanned. No condition. -/
import Derived.Test.YtfkefgbihlfjmaaGreatQS
namespace Go.Proofs.YtfkefgbihlfjmaaGreat.V
open Go Go.Proofs.YtfkefgbihlfjmaaGreat.R
set_option linter.unusedVariables false
set_option linter.unusedSimpArgs false
theorem Azp {w:Int} (h:Ch w 1 8=true):(Bw zS w).2=false:=by
 obtain ⟨h1,h2⟩:=Cy h
 have:w=1∨w=2∨w=3∨w=4∨w=5∨w=6∨w=7∨w=8:=by omega
 rcases this with rfl | rfl | rfl | rfl | rfl | rfl | rfl | rfl<;>decide +kernel
theorem Arp (s:ByteArray):s++⟨#[]⟩=s:=P3 (by rw [Kd]; exact List.append_nil _)
def cat:List ByteArray→ByteArray
 | []=>⟨#[]⟩
 | p::r=>p++cat r
theorem A1z {s:ByteArray} {n:Int} (h0:0≤n) (h1:n≤(s.size:Int)):Ac s 0 n++Ac s n (nI s.size)=s:=by
 unfold Ac
 have e1:Int.toNat 0=0:=rfl
 have e2:Int.toNat (nI s.size)=s.size:=by simp [nI]
 rw [e1,e2,ByteArray.extract_append_extract]
 rw [Nat.min_eq_left (Nat.zero_le _),Nat.max_eq_right (by omega)]
 exact ByteArray.extract_zero_size
theorem Aug (n:Nat) (hn:1≤n):∀ (f:Nat) (s:ByteArray),s.size≤f→(∀ p∈Hw n f s,p.size≤n)∧cat (Hw n f s)=s∧Hw n f s≠[]
 | 0,s,h=>by
  have e:cat [s]=s:=Arp s
  exact ⟨fun p hp=>by rw [List.mem_singleton.1 hp]; omega,e,by simp [Hw]⟩
 | f + 1,s,h=>by
  unfold Hw
  by_cases q:s.size > n
  ·rw [if_pos q]
   have z1:=C6 (s:=s) (a:=0) (b:=(n:Int)) (by omega) (by omega) (by omega)
   have z2:=C6 (s:=s) (a:=(n:Int)) (b:=nI s.size) (by omega) (by simp only [nI]; omega) (Int.le_refl _)
   obtain ⟨k1,k2,_⟩:=Aug n hn f (Ac s n (nI s.size)) (by simp only [nI] at *; omega)
   refine ⟨fun p hp=>?_,?_,by simp⟩
   ·rcases List.mem_cons.1 hp with e | e
    ·rw [e]; omega
    ·exact k1 p e
   ·show Ac s 0 n++cat (Hw n f (Ac s n (nI s.size)))=s
    rw [k2]
    exact A1z (by omega) (by omega)
  ·rw [if_neg q]
   have e:cat [s]=s:=Arp s
   exact ⟨fun p hp=>by rw [List.mem_singleton.1 hp]; omega,e,by simp⟩
theorem Alw (e:ByteArray) {w:Int} (h:Ch w 1 8=true):(∀ p∈Bj e w,(p.size:Int)≤56 - w)∧cat (Bj e w)=e∧Bj e w≠[]:=by
 obtain ⟨h1,h2⟩:=Cy h
 obtain ⟨k1,k2,k3⟩:=Aug (56 - w).toNat (by omega) e.size e (Nat.le_refl _)
 exact ⟨fun p hp=>by have:=k1 p hp; omega,k2,k3⟩
theorem Afn {w first i:Int} {st:ScT} {x:ByteArray} {r:List ByteArray} (h:P4 w first i st x=true):Df w first (x::r) i st=Df w first r (i + 1) (I6 i (Bw x w).1 st):=by
 show (bif P4 w first i st x then _ else _)=_
 rw [h]
 rfl
theorem Azq {w first i:Int} {st:ScT} {x:ByteArray} {r:List ByteArray} (h:P4 w first i st x=false):Df w first (x::r) i st=Qz st:=by
 show (bif P4 w first i st x then _ else _)=_
 rw [h]
 rfl
theorem Afo {w first i:Int} {st:ScT} {p:Pg} (h:Fg p w=true):P4 w first i st (Cx p w)=(p.2.2.1 - i==first&&Ac6 st.1 st.2.1 p):=by
 unfold P4
 rw [Q6 h]
 rfl
theorem Ac8 {w life k n:Int} {p:ByteArray} (hw:Ch w 1 8=true) (hl:Ch life 1 60000=true) (hk:k=1∨k=2) (h1:1≤n) (h2:n≤1000000000) (hp:(p.size:Int)≤56 - w):Fg (k,life,n,p,()) w=true:=by
 unfold Fg
 simp only
 rw [hw,hl,decide_eq_true hp]
 have e1:Ch k 1 4=true:=by rcases hk with rfl | rfl<;>rfl
 have e2:Ch n 1 1000000000=true:=by unfold Ch; rw [decide_eq_true h1,decide_eq_true h2]; rfl
 have e3:(k != 3)=true:=by rcases hk with rfl | rfl<;>rfl
 rw [e1,e2,e3]
 rfl
theorem Afp {k life wk wl:Int} {n:Int} {p:ByteArray} (hk:k=1∨k=2) (h1:wl≤life) (h2:wk=1→wl=life):Ac6 wk wl (k,life,n,p,())=true:=by
 unfold Ac6
 simp only
 rw [decide_eq_false (show ¬ life < wl by omega)]
 by_cases q:wk=1
 ·have:=h2 q
  subst this
  rcases hk with rfl | rfl<;>simp
 ·have:(wk != 1)=true:=bne_iff_ne.2 q
  rcases hk with rfl | rfl<;>simp [this]
theorem Alx {w first life:Int} (hw:Ch w 1 8=true) (hl:Ch life 1 60000=true) (rest:List ByteArray):∀ (P:List ByteArray) (i:Int) (st:ScT),P≠[]→(∀ p∈P,(p.size:Int)≤56 - w)→1≤first + i→first + i + P.length≤1000000001→
  st.2.1≤life→(st.1=1→st.2.1=life)→Df w first (Po life w (first + i) P++rest) i st=Df w first rest (i + P.length) (2,life,z0,st.2.2.2.1++[st.2.2.1++cat P],i + P.length,life)
 | [],_,_,h,_,_,_,_,_=>absurd rfl h
 | [p],i,st,_,hs,h1,h2,h3,h4=>by
  have ok:Fg (2,life,first + i,p,()) w=true:=Ac8 hw hl (.inr rfl) h1 (by simp only [List.length_singleton] at h2; omega) (hs p (by simp))
  show Df w first (Cx (2,life,first + i,p,()) w::rest) i st=_
  rw [Afn (by rw [Afo ok,Afp (.inr rfl) h3 h4]; simp),Q6 ok]
  have e:cat [p]=p:=Arp p
  rw [e]
  rfl
 | p::q::r,i,st,_,hs,h1,h2,h3,h4=>by
  simp only [List.length_cons] at h2
  have ok:Fg (1,life,first + i,p,()) w=true:=Ac8 hw hl (.inl rfl) h1 (by omega) (hs p (by simp))
  show Df w first (Cx (1,life,first + i,p,()) w::(Po life w (first + i + 1) (q::r)++rest)) i st=_
  rw [Afn (by rw [Afo ok,Afp (.inl rfl) h3 h4]; simp),Q6 ok,show first + i + 1=first + (i + 1) by omega]
  rw [Alx hw hl rest (q::r) (i + 1) _ (by simp) (fun x hx=>hs x (by simp only [List.mem_cons] at hx ⊢; exact .inr hx)) (by omega) (by simp only [List.length_cons]; omega) (Int.le_refl life) (fun _=>rfl)]
  have e1:i + 1 + ((q::r).length:Int)=i + ((p::q::r).length:Int):=by simp only [List.length_cons]; omega
  have e2:(I6 i (1,life,first + i,p,()) st).2.2.2.1=st.2.2.2.1:=rfl
  have e3:(I6 i (1,life,first + i,p,()) st).2.2.1=st.2.2.1++p:=rfl
  have e4:cat (p::q::r)=p++cat (q::r):=rfl
  rw [e1,e2,e3,e4,ByteArray.append_assoc]
theorem Aqd {w first life:Int} (hw:Ch w 1 8=true) (hl:Ch life 1 60000=true) (rest:List ByteArray):∀ (P:List ByteArray) (i:Int) (st:ScT) (m:Nat),m < P.length→(∀ p∈P,(p.size:Int)≤56 - w)→1≤first + i→first + i + P.length≤1000000001→
  st.2.1≤life→(st.1=1→st.2.1=life)→∃ st':ScT,st'.2.2.2=st.2.2.2∧(m=0→st'=st)∧(0 < m→st'.1=1∧st'.2.1=life)∧Df w first ((Po life w (first + i) P).take m++rest) i st=Df w first rest (i + m) st'
 | P,i,st,0,_,_,_,_,_,_=>⟨st,rfl,fun _=>rfl,fun q=>absurd q (by omega),by simp⟩
 | [],_,_,m + 1,h,_,_,_,_,_=>by simp at h
 | [p],_,_,m + 1,h,_,_,_,_,_=>by simp at h
 | p::q::r,i,st,m + 1,hm,hs,h1,h2,h3,h4=>by
  simp only [List.length_cons] at h2 hm
  have ok:Fg (1,life,first + i,p,()) w=true:=Ac8 hw hl (.inl rfl) h1 (by omega) (hs p (by simp))
  obtain ⟨st',k1,k0,k2,k3⟩:=Aqd (first:=first) hw hl rest (q::r) (i + 1) (I6 i (1,life,first + i,p,()) st) m (by simp only [List.length_cons]; omega) (fun x hx=>hs x (by simp only [List.mem_cons] at hx ⊢; exact .inr hx)) (by omega) (by simp only [List.length_cons]; omega) (Int.le_refl life) (fun _=>rfl)
  have e3:Df w first ((Po life w (first + i) (p::q::r)).take (m + 1)++rest) i st=Df w first rest (i + ((m + 1:Nat):Int)) st':=by
   show Df w first (Cx (1,life,first + i,p,()) w::((Po life w (first + i + 1) (q::r)).take m++rest)) i st=_
   rw [Afn (by rw [Afo ok,Afp (.inl rfl) h3 h4]; simp),Q6 ok,show first + i + 1=first + (i + 1) by omega,k3]
   congr 1
   omega
  refine ⟨st',k1,fun q=>absurd q (by omega),fun _=>?_,e3⟩
  by_cases q0:0 < m
  ·exact k2 q0
  ·have:m=0:=by omega
   rw [k0 this]
   exact ⟨rfl,rfl⟩
def put (d:Dk) (a:Int) (x:ByteArray):Dk:=(d.1,d.2.1++[(a,x,())],())
theorem A3m {d:Dk} {a b:Int} {x:ByteArray}:Ahy (put d a x) b=bif a==b then x else Ahy d b:=by
 unfold Ahy put
 simp only [List.reverse_append,List.reverse_singleton,List.singleton_append,H1]
structure LD (d:Dk) (L:List ByteArray) (k:Nat):Prop where
 ok:G8 d
 n:d.1.length=100
 p:d.2.1.length≤k
 s:seen d 2 0 90=L
theorem LD.len {d:Dk} {L:List ByteArray} {k:Nat} (h:LD d L k):L.length=90:=by rw [← h.s]; exact Vh _ _ _ _
theorem A10 {d:Dk} {j:Nat} {x:ByteArray}:seen (put d (2 + (j:Int)) x) 2 0 90=(seen d 2 0 90).set j x:=by
 apply List.ext_getElem
 ·rw [List.length_set,Vh,Vh]
 ·intro i h1 h2
  rw [List.getElem_set]
  unfold seen
  simp only [List.getElem_map,List.getElem_range',A3m]
  by_cases q:j=i
  ·subst q
   rw [if_pos rfl,show (2 + (j:Int)==2 + ((0 + 1 * j:Nat):Int))=true from beq_iff_eq.2 (by omega)]
   rfl
  ·rw [if_neg q,show (2 + (j:Int)==2 + ((0 + 1 * i:Nat):Int))=false from beq_eq_false_iff_ne.2 (by omega)]
   rfl
theorem LD.put {d:Dk} {L:List ByteArray} {k:Nat} (h:LD d L k) (hk:k < 300) {j:Nat} (hj:j < 90) {x:ByteArray} (hx:x.size=64):
  Fa d [(false,2 + (j:Int),x,())] 1=put d (2 + (j:Int)) x∧LD (put d (2 + (j:Int)) x) (L.set j x) (k + 1):=by
 have hp:=h.p
 have e1:opS d (false,2 + (j:Int),x,())=V.put d (2 + (j:Int)) x:=by
  unfold opS l6
  rw [h.n,decide_eq_true (show (0:Int)≤2 + (j:Int) by omega),decide_eq_true (show 2 + (j:Int) < ((100:Nat):Int) by omega),decide_eq_true (show x.size=64 from hx),decide_eq_true (show d.2.1.length < 300 by omega)]
  rfl
 have e2:Fa d [(false,2 + (j:Int),x,())] 1=opS d (false,2 + (j:Int),x,()):=by
  unfold Fa
  rw [h.ok.valid]
  rfl
 refine ⟨e2.trans e1,?_,h.n,?_,?_⟩
 ·rw [← e1]
  exact h.ok.op _
 ·show (d.2.1++[_]).length≤k + 1
  rw [List.length_append,List.length_singleton]
  omega
 ·rw [← h.s]
  exact A10
def lay (A:List ByteArray):List ByteArray:=A++List.replicate (90 - A.length) zS
theorem A3n {A:List ByteArray} {x:ByteArray} (h:A.length < 90):(lay A).set A.length x=lay (A++[x]):=by
 unfold lay
 rw [List.length_append,List.length_singleton,List.set_append_right (h:=Nat.le_refl _),Nat.sub_self]
 obtain ⟨m,hm⟩:∃ m,90 - A.length=m + 1:=⟨90 - A.length - 1,by omega⟩
 rw [hm,show 90 - (A.length + 1)=m by omega,List.replicate_succ,List.append_assoc]
 rfl
theorem LD.new:LD (Nm 100) (lay []) 0:=by
 have e:Nm 100=(List.replicate 100 zS,[],()):=rfl
 have hz:zS.size=64:=by decide +kernel
 have ho:G8 (Nm 100):=by
  rw [e]
  exact ⟨by simp,by simp,Nat.zero_le _,fun i hi=>by
   have hi:i < (List.replicate 100 zS).length:=hi
   show ((List.replicate 100 zS).getD i z0).size=64
   rw [List.getD_eq_getElem?_getD,List.getElem?_eq_getElem hi,Option.getD_some,List.getElem_replicate]
   exact hz,fun i hi=>absurd hi (Nat.not_lt_zero _)⟩
 refine ⟨ho,by rw [e]; simp,Nat.le_refl _,?_⟩
 show _=List.replicate 90 zS
 refine List.eq_replicate_iff.2 ⟨Vh _ _ _ _,fun b hb=>?_⟩
 obtain ⟨k,hk,rfl⟩:=List.mem_map.1 hb
 have hk:k < 90:=by simp only [List.mem_range'] at hk; omega
 rw [e]
 show (List.replicate 100 zS).getD (Int.toNat (2 + (k:Int))) z0=zS
 rw [List.getD_eq_getElem?_getD,List.getElem?_eq_getElem (by rw [List.length_replicate]; omega),Option.getD_some,List.getElem_replicate]
theorem LD.app {d:Dk} {A:List ByteArray} {k:Nat} (h:LD d (lay A) k) (hk:k < 300) (hA:A.length < 90) {x:ByteArray} (hx:x.size=64):
  Fa d [(false,2 + (A.length:Int),x,())] 1=V.put d (2 + (A.length:Int)) x∧LD (V.put d (2 + (A.length:Int)) x) (lay (A++[x])) (k + 1):=by
 have:=h.put hk (j:=A.length) hA hx
 rwa [A3n hA] at this
theorem Azr (d:Dk) (a:Int) {m:Nat} (h:m≤90):seen d a 0 m=(seen d a 0 90).take m:=by
 unfold seen
 rw [← List.map_take]
 congr 1
 apply List.ext_getElem
 ·simp
  omega
 ·intro i h1 h2
  simp
theorem LD.scan {d:Dk} {L:List ByteArray} {k:Nat} (h:LD d L k) {w:Int} (hw:Ch w 1 8=true) (first life:Int) {m:Nat} (hm:m≤90):
  Ru d 2 (m:Int) first life w=Df w first (L.take m) 0 (0,life,z0,[],0,life):=by
 unfold Ru
 rw [h.ok.valid,hw,h.n,decide_eq_true (show (0:Int)≤(m:Int) by omega),decide_eq_true (show (m:Int)≤((100:Nat):Int) - 2 by omega),Int.toNat_natCast,Azr _ _ hm,h.s]
 rfl
theorem Azs {w:Int} (hw:Ch w 1 8=true) (first i:Int) (st:ScT) (R:List ByteArray):Df w first (zS::R) i st=Qz st:=Azq (by
 unfold P4
 rw [Azp hw]
 rfl)
theorem Aqe {p:Pg} {w:Int} (h:Fg p w=true):(Cx p w).size=64:=(Rq (s:=Cx p w) (w:=w) (p:=p) (Q6 h)).1
theorem A5f (s:ByteArray):z0++s=s:=P3 (by rw [Kd]; rfl)
theorem A5g {s:ByteArray} {life first w:Int} (hw:Ch w 1 8=true) (hl:Ch life 1 60000=true) (h1:1≤first) (h2:first + (Bj s w).length≤1000000001):Ahz s life first w=Po life w first (Bj s w):=by
 have hp:=Ac5 s w
 rw [hw,cond_true] at hp
 unfold Ahz
 rw [hw,hl,← hp,decide_eq_true h1,decide_eq_true (by omega)]
 rfl
theorem Ahl {s:ByteArray} {w:Int} (hw:Ch w 1 8=true) (hs:s.size≤310):1≤(Bj s w).length∧(Bj s w).length≤10:=by
 have hp:=W3 (s:=s) hw
 obtain ⟨h1,h2⟩:=Cy hw
 have:w=1∨w=2∨w=3∨w=4∨w=5∨w=6∨w=7∨w=8:=by omega
 rcases this with rfl | rfl | rfl | rfl | rfl | rfl | rfl | rfl<;>(split at hp<;>omega)
theorem Awn {w:Int} (hw:Ch w 1 8=true):(Bj ⟨#[]⟩ w).length=1:=by
 have hp:=W3 (s:=⟨#[]⟩) hw
 obtain ⟨h1,h2⟩:=Cy hw
 have hz:(⟨#[]⟩:ByteArray).size=0:=rfl
 rw [hz] at hp
 have:w=1∨w=2∨w=3∨w=4∨w=5∨w=6∨w=7∨w=8:=by omega
 rcases this with rfl | rfl | rfl | rfl | rfl | rfl | rfl | rfl<;>(split at hp<;>omega)
theorem Ax7 {life w:Int} (hw:Ch w 1 8=true) (hl:Ch life 1 60000=true):∀ (P:List ByteArray) (n:Int),(∀ p∈P,(p.size:Int)≤56 - w)→1≤n→n + P.length≤1000000001→∀ x∈Po life w n P,x.size=64
 | [],_,_,_,_,x,hx=>by cases hx
 | [p],n,hs,h1,h2,x,hx=>by
  have:x=Cx (2,life,n,p,()) w:=List.mem_singleton.1 hx
  subst this
  exact Aqe (Ac8 hw hl (.inr rfl) h1 (by simp only [List.length_singleton] at h2; omega) (hs p (by simp)))
 | p::q::r,n,hs,h1,h2,x,hx=>by
  simp only [List.length_cons] at h2
  have hx:x=Cx (1,life,n,p,()) w∨x∈Po life w (n + 1) (q::r):=List.mem_cons.1 hx
  rcases hx with rfl | hx
  ·exact Aqe (Ac8 hw hl (.inl rfl) h1 (by omega) (hs p (by simp)))
  ·exact Ax7 hw hl (q::r) (n + 1) (fun y hy=>hs y (List.mem_cons_of_mem _ hy)) (by omega) (by simp only [List.length_cons]; omega) x hx
def Vk (life w first:Int) (A:List ByteArray) (s:ByteArray):List ByteArray:=A++Po life w (first + (A.length:Int)) (Bj s w)
theorem Vm (life w first:Int) (A:List ByteArray) (s:ByteArray):(Vk life w first A s).length=A.length + (Bj s w).length:=by
 unfold Vk
 rw [List.length_append,(Aau _ _ _ _).1]
def SA (w first:Int) (st0:ScT) (A:List ByteArray) (st:ScT):Prop:=∀ rest,Df w first (A++rest) 0 st0=Df w first rest (A.length:Int) st
theorem SA.nil (w first:Int) (st0:ScT):SA w first st0 [] st0:=fun _=>rfl
theorem SA.add {w first life:Int} {st0 st:ScT} {A:List ByteArray} (h:SA w first st0 A st) (hw:Ch w 1 8=true) (hl:Ch life 1 60000=true) (s:ByteArray) (hz:st.2.2.1=z0) (h1:1≤first) (h2:first + (Vk life w first A s).length≤1000000001) (h3:st.2.1≤life) (h4:st.1≠1):
  SA w first st0 (Vk life w first A s) (2,life,z0,st.2.2.2.1++[s],((Vk life w first A s).length:Int),life):=fun rest=>by
 obtain ⟨k1,k2,k3⟩:=Alw s hw
 rw [Vm] at h2 ⊢
 unfold Vk
 rw [List.append_assoc,h,Alx hw hl rest _ _ st k3 k1 (by omega) (by omega) h3 (fun q=>absurd q h4),k2,hz,A5f,← Int.natCast_add]
theorem SA.part {w first life:Int} {st0 st:ScT} {A:List ByteArray} (h:SA w first st0 A st) (hw:Ch w 1 8=true) (hl:Ch life 1 60000=true) (s:ByteArray) (h1:1≤first) (h2:first + (Vk life w first A s).length≤1000000001) (h3:st.2.1≤life) (h4:st.1≠1) (rest:List ByteArray):
  ∃ (st':ScT) (i:Int),st'.2.2.2=st.2.2.2∧Df w first ((Vk life w first A s).take ((Vk life w first A s).length - 1)++rest) 0 st0=Df w first rest i st':=by
 obtain ⟨k1,k2,k3⟩:=Alw s hw
 have hp:0 < (Bj s w).length:=List.length_pos_iff.2 k3
 have e1:(Vk life w first A s).take ((Vk life w first A s).length - 1)=A++(Po life w (first + (A.length:Int)) (Bj s w)).take ((Bj s w).length - 1):=by
  rw [Vm,show A.length + (Bj s w).length - 1=A.length + ((Bj s w).length - 1) by omega]
  unfold Vk
  rw [List.take_length_add_append]
 rw [Vm] at h2
 obtain ⟨st',q1,_,_,q2⟩:=Aqd (first:=first) hw hl rest (Bj s w) (A.length:Int) st ((Bj s w).length - 1) (by omega) k1 (by omega) (by omega) h3 (fun q=>absurd q h4)
 refine ⟨st',(A.length:Int) + (((Bj s w).length - 1:Nat):Int),q1,?_⟩
 rw [e1,List.append_assoc,h,q2]
structure LG (w first life:Int) (st0:ScT) (d:Dk) (A:List ByteArray) (st:ScT):Prop where
 d:LD d (lay A) A.length
 s:SA w first st0 A st
theorem A11 {A:List ByteArray} (h:A.length < 90):∃ R,lay A=A++(zS::R):=by
 obtain ⟨m,hm⟩:∃ m,90 - A.length=m + 1:=⟨90 - A.length - 1,by omega⟩
 exact ⟨List.replicate m zS,by unfold lay; rw [hm,List.replicate_succ]⟩
theorem A12 {a b:ScT} (h:a.2.2.2=b.2.2.2):Qz a=Qz b:=by unfold Qz; rw [h]
structure Ac9 (w first life:Int) (e e3:ByteArray):Prop where
 w:Ch w 1 8=true
 l0:1≤life
 l1:life≤59998
 f0:1≤first
 f1:first≤999999900
 e:e.size≤310
 e3:e3.size≤310
def A3o (w first life:Int) (e:ByteArray):List ByteArray:=Vk (life + 1) w first [] e
def Arq (w first life:Int) (e:ByteArray):List ByteArray:=Vk (life + 1) w first (A3o w first life e) ⟨#[]⟩
def W7 (w first life:Int) (e e3:ByteArray):List ByteArray:=Vk (life + 1) w first (Arq w first life e) e3
abbrev lst (life:Int):ScT:=(0,life,z0,[],0,life)
section
variable {w first life:Int} {e e3:ByteArray} (h:Ac9 w first life e e3)
include h
theorem Ac9.l:Ch (life + 1) 1 60000=true:=by
 unfold Ch
 rw [decide_eq_true (show 1≤life + 1 by have:=h.l0; omega),decide_eq_true (show life + 1≤60000 by have:=h.l1; omega)]
 rfl
theorem Ac9.len:(A3o w first life e).length=(Bj e w).length∧(Arq w first life e).length=(Bj e w).length + 1∧(W7 w first life e e3).length=(Bj e w).length + 1 + (Bj e3 w).length:=by
 have q1:(A3o w first life e).length=(Bj e w).length:=by unfold A3o; rw [Vm]; simp
 have q2:(Arq w first life e).length=(Bj e w).length + 1:=by unfold Arq; rw [Vm,q1,Awn h.w]
 exact ⟨q1,q2,by unfold W7; rw [Vm,q2]⟩
theorem Ac9.num:3≤(W7 w first life e e3).length∧(W7 w first life e e3).length≤21:=by
 have a:=Ahl h.w h.e
 have b:=Ahl h.w h.e3
 have:=h.len.2.2
 omega
theorem Ac9.s2:SA w first (lst life) (Arq w first life e) (2,life + 1,z0,[e,⟨#[]⟩],((Arq w first life e).length:Int),life + 1):=by
 obtain ⟨k1,k2,k3⟩:=h.len
 have kn:=h.num
 have hf:=h.f1
 have a:=(SA.nil w first (lst life)).add (life:=life + 1) h.w h.l e rfl h.f0 (by have:(Vk (life + 1) w first [] e).length=(Bj e w).length:=k1; omega) (by show life≤life + 1; omega) (by decide:(0:Int)≠1)
 exact a.add h.w h.l ⟨#[]⟩ rfl h.f0 (by have:(Vk (life + 1) w first (Vk (life + 1) w first [] e) ⟨#[]⟩).length=(Bj e w).length + 1:=k2; omega) (Int.le_refl _) (by decide:(2:Int)≠1)
theorem Ac9.s3:SA w first (lst life) (W7 w first life e e3) (2,life + 1,z0,[e,⟨#[]⟩,e3],((W7 w first life e e3).length:Int),life + 1):=by
 obtain ⟨k1,k2,k3⟩:=h.len
 have kn:=h.num
 have hf:=h.f1
 exact h.s2.add h.w h.l e3 rfl h.f0 (by have:(Vk (life + 1) w first (Arq w first life e) e3).length=(Bj e w).length + 1 + (Bj e3 w).length:=k3; omega) (Int.le_refl _) (by decide:(2:Int)≠1)
theorem Ac9.part (R:List ByteArray) (hR:∀ i st,Df w first R i st=Qz st):
  Df w first ((W7 w first life e e3).take ((W7 w first life e e3).length - 1)++R) 0 (lst life)=([e,⟨#[]⟩],((Bj e w).length:Int) + 1,life + 1,()):=by
 obtain ⟨k1,k2,k3⟩:=h.len
 have kn:=h.num
 have hf:=h.f1
 obtain ⟨st',i,q1,q2⟩:=h.s2.part h.w h.l e3 h.f0 (by have:(Vk (life + 1) w first (Arq w first life e) e3).length=(Bj e w).length + 1 + (Bj e3 w).length:=k3; omega) (Int.le_refl _) (by decide:(2:Int)≠1) R
 have q2:Df w first ((W7 w first life e e3).take ((W7 w first life e e3).length - 1)++R) 0 (lst life)=Df w first R i st':=q2
 rw [q2,hR,A12 q1]
 show ([e,⟨#[]⟩],((Arq w first life e).length:Int),life + 1,())=_
 rw [k2]
 rfl
variable {d:Dk} (hd:LD d (lay (W7 w first life e e3)) (W7 w first life e e3).length)
include hd
theorem Ac9.t0:Ru d 2 90 first life w=([e,⟨#[]⟩,e3],((W7 w first life e e3).length:Int),life + 1,()):=by
 have kn:=h.num
 obtain ⟨R,hR⟩:=A11 (A:=W7 w first life e e3) (by omega)
 have q:=hd.scan h.w first life (m:=90) (Nat.le_refl _)
 rw [List.take_of_length_le (by rw [hd.len]; omega),hR] at q
 exact q.trans ((h.s3 _).trans (Azs h.w _ _ _ _))
omit hd in
theorem Ac9.t1 {R:List ByteArray} {d':Dk} {k:Nat} (hd':LD d' (W7 w first life e e3++R) k) (hs:∀ i,i=((W7 w first life e e3).length:Int)→Qz ((2,life + 1,z0,[e,⟨#[]⟩,e3],((W7 w first life e e3).length:Int),life + 1):ScT)=Df w first R i (2,life + 1,z0,[e,⟨#[]⟩,e3],((W7 w first life e e3).length:Int),life + 1)):
  Ru d' 2 90 first life w=([e,⟨#[]⟩,e3],((W7 w first life e e3).length:Int),life + 1,()):=by
 have q:=hd'.scan h.w first life (m:=90) (Nat.le_refl _)
 rw [List.take_of_length_le (by rw [hd'.len]; omega)] at q
 exact q.trans ((h.s3 _).trans (hs _ rfl).symm)
end
end Go.Proofs.YtfkefgbihlfjmaaGreat.V

