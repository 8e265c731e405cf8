/- Plain facts. No condition. -/
import Derived.Test.YtfkefgbihlfjmaaGreatMBase
namespace Go.Proofs.YtfkefgbihlfjmaaGreat.V
open Go Go.Proofs.YtfkefgbihlfjmaaGreat.R
set_option linter.unusedVariables false
set_option linter.unusedSimpArgs false
theorem Ag {n:Int} (h0:-9223372036854775808≤n) (h1:n < 9223372036854775808):IntKind.i64.wrap n=n:=by
 have e:IntKind.i64.wrap n=if n % 18446744073709551616≥9223372036854775808 then n % 18446744073709551616 - 18446744073709551616 else n % 18446744073709551616:=by
  simp [IntKind.wrap,IntKind.bits,IntKind.signed]
 rw [e]
 split<;>omega
theorem Lc {α:Type} (xs:List α) (i:Nat) (z:α) (h:i < xs.length):xs.drop i=xs.getD i z::xs.drop (i + 1):=by
 rw [List.drop_eq_getElem_cons h]
 simp [List.getD,List.getElem?_eq_getElem h]
theorem W1 {i n:Nat} (h:i < n):decide ((i:Int) < nI n)=true:=by simp [nI]; omega
theorem Mm {n:Nat}:decide ((n:Int) < nI n)=false:=by simp [nI]
theorem H2 {i:Nat}:decide ((0:Int)≤(i:Int))=true:=by simp
theorem wI {i:Nat} (h:i < 4611686018427387904):IntKind.i64.wrap ((i:Int) + 1)=((i + 1:Nat):Int):=by rw [Ag (by omega) (by omega)]; rfl
theorem I3 {E:Type} {n:Nat} {g:Nat→Int→Option E} {ok bad:E} (p:Nat→Bool)
  (hs:∀ m (i:Nat),i < n→g (m + 1) i=bif p i then g m ((i + 1:Nat):Int) else some bad)
  (he:∀ m,g (m + 1) (n:Int)=some ok):
  ∀ (m i:Nat),i≤n→n - i < m→g m i=some (bif (List.range' i (n - i)).all p then ok else bad)
 | 0,i,hi,hm=>by omega
 | m + 1,i,hi,hm=>by
  by_cases h:i < n
  ·have e:n - i=(n - (i + 1)) + 1:=by omega
   rw [hs m i h,e,List.range'_succ,List.all_cons]
   cases p i with
   | false=>rfl
   | true=>
    rw [cond_true,I3 p hs he m (i + 1) (by omega) (by omega),Bool.true_and]
  ·have:i=n:=by omega
   subst this
   rw [he,Nat.sub_self]
   rfl
theorem B7 {a b:Bool} (h:(a&&b)=true):a=true∧b=true:=by
 cases a<;>cases b<;>first | exact ⟨rfl,rfl⟩ | cases h
theorem A6m (a b:Int):(a != b)=!eqI a b:=by
 unfold eqI
 by_cases h:a=b<;>simp [h,bne]
theorem Lu {α:Type} {r:List α} {i:Nat} {x z:α} (h:i < r.length):(r.set i x).getD i z=x:=by
 simp [List.getD,h]
theorem Zf (n:Nat) (c:Nat):decide (nI n > (c:Int))=!decide (n≤c):=by
 by_cases q:n≤c
 ·have:¬ (nI n > (c:Int)):=by simp [nI]; omega
  rw [decide_eq_true q,decide_eq_false this]; rfl
 ·have:nI n > (c:Int):=by simp [nI]; omega
  rw [decide_eq_false q,decide_eq_true this]; rfl
theorem Aza (n c:Nat):(nI n != (c:Int))=!decide (n=c):=by
 by_cases q:n=c
 ·subst q; simp [nI]
 ·have:¬ (nI n=(c:Int)):=by simp [nI]; omega
  rw [decide_eq_false q,A6m]; unfold eqI; rw [decide_eq_false this]
theorem gt0 (i:Nat):decide ((i:Int) > 0)=!(i==0):=by
 cases i with
 | zero=>rfl
 | succ j=>
  have:((j + 1:Nat):Int) > 0:=by omega
  rw [decide_eq_true this]; rfl
theorem wP (j:Nat) (h:j < 4611686018427387904):IntKind.i64.wrap (((j + 1:Nat):Int) - 1)=(j:Int):=by rw [Ag (by omega) (by omega)]; omega
theorem Afg {α E:Type} {xs:List α} (z:α) (p:α→Bool) (out:α→E) {g:Nat→Int→Option E} {ok:E}
  (hs:∀ m (i:Nat),i < xs.length→g (m + 1) i=bif p (xs.getD i z) then some (out (xs.getD i z)) else g m ((i + 1:Nat):Int))
  (he:∀ m,g (m + 1) (xs.length:Int)=some ok):
  ∀ (m i:Nat),i≤xs.length→xs.length - i < m→g m i=some (H1 p out ok (xs.drop i))
 | 0,i,hi,hm=>by omega
 | m + 1,i,hi,hm=>by
  by_cases h:i < xs.length
  ·rw [hs m i h,Lc xs i z h]
   simp only [H1]
   cases p (xs.getD i z) with
   | true=>rfl
   | false=>rw [cond_false,cond_false,Afg z p out hs he m (i + 1) (by omega) (by omega)]
  ·have:i=xs.length:=by omega
   subst this
   rw [he,List.drop_length]
   rfl
theorem Rm {α E F:Type} (f:E→F) (p:α→Bool) (out:α→E) (ok:E):∀ l,f (H1 p out ok l)=H1 p (fun x=>f (out x)) (f ok) l
 | []=>rfl
 | x::r=>by
  simp only [H1]
  cases p x with
  | true=>rfl
  | false=>exact Rm f p out ok r
theorem Afh {α σ E:Type} {xs:List α} (z:α) (Inv:σ→Prop) (step:Nat→α→σ→σ) {g:Nat→Int→σ→Option E} {ok:σ→E}
  (hs:∀ m (i:Nat) s,i < xs.length→Inv s→g (m + 1) i s=g m ((i + 1:Nat):Int) (step i (xs.getD i z) s))
  (hi:∀ i s,i < xs.length→Inv s→Inv (step i (xs.getD i z) s))
  (he:∀ m s,Inv s→g (m + 1) (xs.length:Int) s=some (ok s)):
  ∀ (m i:Nat) s,i≤xs.length→xs.length - i < m→Inv s→g m i s=some (ok (F3 step i (xs.drop i) s))
 | 0,i,s,_,hm,_=>by omega
 | m + 1,i,s,hl,hm,hI=>by
  by_cases h:i < xs.length
  ·rw [hs m i s h hI,Afh z Inv step hs hi he m (i + 1) _ (by omega) (by omega) (hi i s h hI),Lc xs i z h]
   rfl
  ·have:i=xs.length:=by omega
   subst this
   rw [he _ _ hI,List.drop_length]
   rfl
theorem j7 {α σ:Type} (Inv:σ→Prop) (step:Nat→α→σ→σ):∀ (l:List α) (i:Nat) (s:σ),(∀ i s x,x∈l→Inv s→Inv (step i x s))→Inv s→Inv (F3 step i l s)
 | [],_,_,_,h=>h
 | x::r,i,s,hs,h=>j7 Inv step r (i + 1) _ (fun i s y hy=>hs i s y (List.mem_cons_of_mem _ hy)) (hs i s x (by simp) h)
theorem Apu {α σ:Type} (step:Nat→α→σ→σ):∀ (l:List α) (i:Nat) (s:σ) (x:α),F3 step i (l++[x]) s=step (i + l.length) x (F3 step i l s)
 | [],i,s,x=>rfl
 | y::r,i,s,x=>by
  show F3 step (i + 1) (r++[x]) _=_
  rw [Apu step r]
  show step (i + 1 + r.length) x _=step (i + (r.length + 1)) x _
  rw [show i + 1 + r.length=i + (r.length + 1) by omega]
  rfl
theorem Ats {α E:Type} {n:Nat} (f:Nat→α) {g:Nat→Int→List α→Option E} {ok:List α→E}
  (hs:∀ m (i:Nat) (r:List α),i < n→r.length=i→g (m + 1) i r=g m ((i + 1:Nat):Int) (r++[f i]))
  (he:∀ m r,g (m + 1) (n:Int) r=some (ok r)):
  ∀ (m i:Nat) (r:List α),i≤n→n - i < m→r.length=i→g m i r=some (ok (r++(List.range' i (n - i)).map f))
 | 0,i,r,_,hm,_=>by omega
 | m + 1,i,r,hl,hm,hr=>by
  by_cases h:i < n
  ·have e:n - i=(n - (i + 1)) + 1:=by omega
   rw [hs m i r h hr,Ats f hs he m (i + 1) _ (by omega) (by omega) (by simp [hr]),e,List.range'_succ,List.map_cons,List.append_assoc]
   rfl
  ·have:i=n:=by omega
   subst this
   rw [he,Nat.sub_self]
   simp
theorem Ahb {α:Type} (x:α):∀ (n s:Nat),(List.range' s n).map (fun _=>x)=List.replicate n x
 | 0,_=>rfl
 | n + 1,s=>by rw [List.range'_succ,List.map_cons,Ahb x n,List.replicate_succ]
theorem Vd {n:Nat} {p:Nat→Bool} (h:(List.range' 0 n).all p=true) (i:Nat) (hi:i < n):p i=true:=List.all_eq_true.1 h i (by simp [List.mem_range']; omega)
theorem C6 {s:ByteArray} {a b:Int} (h0:0≤a) (h1:a≤b) (h2:b≤(s.size:Int)):(Ac s a b).size=(b - a).toNat:=by
 unfold Ac
 rw [ByteArray.size_extract]
 omega
structure G8 (d:Dk):Prop where
 n8:8≤d.1.length
 n200:d.1.length≤200
 p300:d.2.1.length≤300
 sec:∀ i,i < d.1.length→(d.1.getD i z0).size=64
 pen:∀ i,i < d.2.1.length→0≤(d.2.1.getD i zW).1∧(d.2.1.getD i zW).1 < (d.1.length:Int)∧(d.2.1.getD i zW).2.1.size=64
theorem Jv {d:Dk} (h:A0 d=true):G8 d:=by
 obtain ⟨h1,h2⟩:=B7 h
 obtain ⟨h2,h3⟩:=B7 h2
 obtain ⟨h3,h4⟩:=B7 h3
 obtain ⟨k1,k2⟩:=B7 h1
 have k1:=of_decide_eq_true k1
 have k2:=of_decide_eq_true k2
 refine ⟨by omega,by omega,of_decide_eq_true h2,fun i hi=>of_decide_eq_true (Vd h3 i hi),fun i hi=>?_⟩
 obtain ⟨q1,q2⟩:=B7 (Vd h4 i hi)
 obtain ⟨q2,q3⟩:=B7 q2
 exact ⟨of_decide_eq_true q1,of_decide_eq_true q2,of_decide_eq_true q3⟩
theorem Zg {α:Type} {xs:List α} {x:α} (z:α) (h:x∈xs):∃ i,i < xs.length∧xs.getD i z=x:=by
 obtain ⟨i,hi,rfl⟩:=List.mem_iff_getElem.1 h
 exact ⟨i,hi,by simp [List.getD,List.getElem?_eq_getElem hi]⟩
theorem getD_set_ne {α:Type} {r:List α} {i j:Nat} {x z:α} (h:i≠j):(r.set i x).getD j z=r.getD j z:=by
 simp [List.getD,List.getElem?_set_ne h]
theorem Nn (sec:List ByteArray) (ws:List Wr):(Lp sec ws).length=sec.length:=
 j7 (fun s=>s.length=sec.length) _ ws 0 sec (fun i s w _ h=>by rw [List.length_set]; exact h) rfl
theorem Att (sec:List ByteArray) (i:Nat) (hi:i < sec.length) (ws:List Wr) (h:∀ w∈ws,0≤w.1):
  (Lp sec ws).getD i z0=H1 (fun w=>w.1==(i:Int)) (fun w=>w.2.1) (sec.getD i z0) ws.reverse:=by
 have key:∀ (rs:List Wr),(∀ w∈rs,0≤w.1)→(Lp sec rs.reverse).getD i z0=H1 (fun w=>w.1==(i:Int)) (fun w=>w.2.1) (sec.getD i z0) rs:=by
  intro rs
  induction rs with
  | nil=>intro _; rfl
  | cons w r ih=>
   intro hr
   have ih:=ih (fun v hv=>hr v (List.mem_cons_of_mem _ hv))
   have h0:=hr w (by simp)
   rw [List.reverse_cons]
   unfold Lp at ih ⊢
   rw [Apu]
   simp only [H1]
   have hlen:(F3 (fun _ (w:Wr) (s:List ByteArray)=>s.set w.1.toNat w.2.1) 0 r.reverse sec).length=sec.length:=Nn sec r.reverse
   by_cases q:w.1=(i:Int)
   ·have q2:w.1.toNat=i:=by omega
    rw [q2,Lu (by rw [hlen]; exact hi),q,beq_self_eq_true,cond_true]
   ·have q2:w.1.toNat≠i:=by omega
    rw [getD_set_ne q2,ih,show (w.1==(i:Int))=false from by simp [q],cond_false]
 have:=key ws.reverse (fun w hw=>h w (List.mem_reverse.1 hw))
 rwa [List.reverse_reverse] at this
theorem Ark (f:Int):0≤Rl f∧Rl f≤64:=by
 unfold Rl
 split
 ·omega
 ·split<;>omega
theorem Ac2 (f:List Int) (i:Nat):0≤Uo f i∧Uo f i≤64:=by
 unfold Uo
 split
 ·exact Ark _
 ·omega
theorem Apv {a b:ByteArray} {k:Int} (ha:a.size=64) (hb:b.size=64) (h0:0≤k) (h1:k≤64):(A3a a b k).size=64:=by
 unfold A3a
 rw [ByteArray.size_append,C6 (by omega) h0 (by omega),C6 h0 (by simp only [nI]; omega) (by simp [nI])]
 simp only [nI]
 omega
def Ahc (n:Nat) (s:List ByteArray):Prop:=s.length=n∧∀ i,i < n→(s.getD i z0).size=64
theorem Ahc.set {n:Nat} {s:List ByteArray} (h:Ahc n s) {j:Nat} {x:ByteArray} (hx:x.size=64):Ahc n (s.set j x):=by
 refine ⟨by rw [List.length_set]; exact h.1,fun i hi=>?_⟩
 by_cases q:j=i
 ·subst q
  rw [Lu (by rw [h.1]; exact hi)]
  exact hx
 ·rw [getD_set_ne q]
  exact h.2 i hi
def G0:(t:Ty)→t.D→Bool
 | .int _,_=>true
 | .bool,_=>true
 | .str,s=>decide (ByteArray.size s≤1073741824)
 | .sl t,xs=>decide (List.length xs≤1073741824)&&List.all xs (G0 t)
 | .unit,_=>true
 | .pair a b,x=>G0 a x.1&&G0 b x.2
theorem l8 {α β:Type} {m:Option α} {f:α→Option β} {a:α} {r:Option β} (h:m=some a) (h2:f a=r):m.bind f=r:=by
 rw [h]; exact h2
theorem Zh {α:Type} {l:List α} {z:α} {P:α→Prop} (h:∀ i,i < l.length→P (l.getD i z)):∀ x∈l,P x:=by
 intro x hx
 obtain ⟨i,hi,rfl⟩:=List.mem_iff_getElem.1 hx
 have:=h i hi
 rw [List.getD_eq_getElem?_getD,List.getElem?_eq_getElem hi] at this
 exact this
theorem Azb (f:Int):0≤Rl f∧Rl f≤64:=by
 unfold Rl
 split
 ·omega
 ·split<;>omega
theorem Apw (f:List Int) (i:Nat):0≤Uo f i∧Uo f i≤64:=by
 unfold Uo
 split
 ·exact Azb _
 ·omega
abbrev tDk:Ty:=.pair (.sl .str) (.pair (.sl (.pair (.int .i64) (.pair .str .unit))) .unit)
theorem A3b {d:Dk} (h:A0 d=true) (f:List Int):Ahc d.1.length (Apt f d.1 d.2.1):=by
 obtain ⟨k1,k2,k3,k4,k5⟩:=Jv h
 refine j7 (Ahc d.1.length) _ d.2.1 0 d.1 (fun i s w hw hI=>?_) ⟨rfl,k4⟩
 obtain ⟨w0,w1,w2⟩:=Zh (P:=fun w:Wr=>0≤w.1∧w.1 < (d.1.length:Int)∧w.2.1.size=64) k5 w hw
 exact hI.set (Apv w2 (hI.2 _ (by omega)) (Apw f i).1 (Apw f i).2)
theorem q9 (a b:List Int):strOfNums (a++b)=strOfNums a++strOfNums b:=by
 unfold strOfNums
 rw [List.map_append]
 apply ByteArray.ext
 simp
theorem Cp (a:List Int):(strOfNums a).size=a.length:=by
 unfold strOfNums
 show (List.toArray _).size=_
 simp
theorem Zi (v:Int):∀ n,(Nc v n).length=n
 | 0=>rfl
 | n + 1=>by simp only [Nc,List.length_append,Zi (v / 256) n,List.length_singleton]
theorem I4 (v:Int) (n:Nat):(C9 v n).size=n:=by unfold C9; rw [Cp,Zi]
theorem Atu (v:Int) (out:ByteArray):C9 v 0++out=out:=by
 apply ByteArray.ext
 simp [C9,Nc,strOfNums]
theorem A1j (s:ByteArray):s++ByteArray.mk #[]=s:=by
 apply ByteArray.ext
 simp
theorem Atv (v:Int) (k:Nat):C9 v (k + 1)=C9 (v / 256) k++strOfNums [v % 256]:=by
 unfold C9
 rw [← q9]
 rfl
theorem I5 (s:ByteArray) (i:Int):0≤An s i∧An s i < 256:=by
 unfold An
 have:=(s.data.toList.getD i.toNat 0).toNat_lt
 omega
theorem Axr:∀ i:Nat,i < 7→(256:Int) ^ i≤281474976710656:=by decide
theorem A1k (s:ByteArray) (i:Nat) {k:Nat} {v:Int} (hi:i + (k + 1)=s.size) (hs:i < 7) (h0:0≤v) (h1:v < 256 ^ i):
  0≤v * 256 + An s i∧v * 256 + An s i < 256 ^ (i + 1)∧IntKind.wrap IntKind.i64 (IntKind.wrap IntKind.i64 (v * 256) + IntKind.wrap IntKind.i64 (An s i))=v * 256 + An s i:=by
 obtain ⟨b0,b1⟩:=I5 s i
 have hp:(256:Int) ^ (i + 1)=256 ^ i * 256:=Int.pow_succ _ _
 have hle:(256:Int) ^ i≤281474976710656:=Axr i hs
 refine ⟨by omega,by omega,?_⟩
 rw [Ag (n:=v * 256) (by omega) (by omega),Ag (n:=An s i) (by omega) (by omega),Ag (by omega) (by omega)]
theorem A3c (s:ByteArray) (i:Nat) {k:Nat} {v:Int} (hi:i + (k + 1)=s.size) (hs:i < 7) (h0:0≤v) (h1:v < 256 ^ i):
  0≤v * 256 + An s i∧v * 256 + An s i < 256 ^ (i + 1)∧IntKind.wrap IntKind.i64 (nI (BitVec.toNat (BitVec.ofInt 64 (IntKind.wrap IntKind.i64 (v * 2 ^ min (Int.toNat 8) 64)) ||| BitVec.ofInt 64 (IntKind.wrap IntKind.i64 (An s i)))))=v * 256 + An s i:=by
 obtain ⟨b0,b1⟩:=I5 s i
 have hp:(256:Int) ^ (i + 1)=256 ^ i * 256:=Int.pow_succ _ _
 have hle:(256:Int) ^ i≤281474976710656:=Axr i hs
 refine ⟨by omega,by omega,?_⟩
 have e8:(v * 2 ^ min (Int.toNat 8) 64:Int)=v * 256:=rfl
 rw [e8,Ag (n:=v * 256) (by omega) (by omega),Ag (n:=An s i) (by omega) (by omega)]
 obtain ⟨n,rfl⟩:∃ n:Nat,v=(n:Int):=⟨v.toNat,by omega⟩
 obtain ⟨b,hb⟩:∃ b:Nat,An s i=(b:Int):=⟨(An s i).toNat,by omega⟩
 rw [hb] at b0 b1 ⊢
 have e1:BitVec.ofInt 64 ((n:Int) * 256)=BitVec.ofNat 64 (n * 256):=by
  rw [show ((n:Int) * 256)=((n * 256:Nat):Int) by omega]; exact BitVec.ofInt_natCast _ _
 have e2:BitVec.ofInt 64 (b:Int)=BitVec.ofNat 64 b:=BitVec.ofInt_natCast _ _
 rw [e1,e2,BitVec.toNat_or,BitVec.toNat_ofNat,BitVec.toNat_ofNat,Nat.mod_eq_of_lt (by omega),Nat.mod_eq_of_lt (by omega)]
 have e3:n * 256 ||| b=n * 256 + b:=by
  have:=Nat.shiftLeft_add_eq_or_of_lt (i:=8) (b:=b) (by omega) n
  rw [Nat.shiftLeft_eq] at this
  exact this.symm
 rw [e3]
 exact Ag (by simp only [nI]; omega) (by simp only [nI]; omega)
theorem j8 {σ ρ:Type} (n:Nat) (Inv:Nat→σ→Prop) (step:Nat→σ→σ) {g:Nat→Nat→σ→Option ρ} {ok:σ→ρ}
  (hs:∀ m i s,i < n→Inv i s→g (m + 1) i s=g m (i + 1) (step i s)) (he:∀ m s,Inv n s→g (m + 1) n s=some (ok s))
  (hI:∀ i s,i < n→Inv i s→Inv (i + 1) (step i s)):∀ k m i s,i + k=n→k < m→Inv i s→g m i s=some (ok (iter step k i s))
 | 0,m + 1,i,s,hi,_,h=>by
  obtain rfl:i=n:=by omega
  exact he m s h
 | k + 1,m + 1,i,s,hi,hm,h=>by
  rw [hs m i s (by omega) h]
  exact j8 n Inv step hs he hI k m (i + 1) _ (by omega) (by omega) (hI i s (by omega) h)
theorem Atw {σ:Type} (Inv:σ→Prop) (f:Nat→σ→σ) (hf:∀ i s,Inv s→Inv (f i s)):∀ k i s,Inv s→Inv (iter f k i s)
 | 0,_,_,h=>h
 | k + 1,i,s,h=>Atw Inv f hf k (i + 1) _ (hf i s h)
theorem wid (w:Int):(bif decide (w≥1) then some ((decide (w≤8),()),()) else some ((false,()),()))=(some ((Ch w 1 8,()),()):Option ((Bool×Unit)×Unit)):=by
 unfold Ch
 by_cases h:1≤w
 ·rw [decide_eq_true (show w≥1 from h)]; rfl
 ·rw [decide_eq_false (show ¬ w≥1 from h)]; rfl
theorem A4h (k:Int):IntKind.wrap IntKind.u64 k=k % 18446744073709551616:=by
 simp [IntKind.wrap,IntKind.bits,IntKind.signed]
theorem A52 (k:Int):IntKind.i64.wrap k=if k % 18446744073709551616≥9223372036854775808 then k % 18446744073709551616 - 18446744073709551616 else k % 18446744073709551616:=by
 simp [IntKind.wrap,IntKind.bits,IntKind.signed]
def U64 (h:Int):Prop:=0≤h∧h < 18446744073709551616
theorem Axs (s:ByteArray) (k i:Nat) {h:Int} (hh:U64 h):U64 (Aff s k i h):=
 Atw U64 _ (fun i s _=>by unfold Ze; rw [A4h]; exact ⟨Int.emod_nonneg _ (by decide),Int.emod_lt_of_pos _ (by decide)⟩) k i h hh
theorem Ald:∀ (n:Nat) (v c:Int),Nc (v + 256 ^ n * c) n=Nc v n
 | 0,_,_=>rfl
 | n + 1,v,c=>by
  have e:v + 256 ^ (n + 1) * c=v + 256 * (256 ^ n * c):=by rw [Int.pow_succ,Int.mul_comm (256 ^ n) 256,Int.mul_assoc]
  simp only [Nc]
  rw [e]
  have e1:(v + 256 * (256 ^ n * c)) / 256=v / 256 + 256 ^ n * c:=by omega
  have e2:(v + 256 * (256 ^ n * c)) % 256=v % 256:=by omega
  rw [e1,e2,Ald n]
theorem Apx (n:Nat):∀ (w:Nat) (v:Int),(Nc v (n + w)).drop n=Nc v w
 | 0,v=>by rw [List.drop_eq_nil_of_le (by rw [Zi]; omega)]; rfl
 | w + 1,v=>by
  show (Nc (v / 256) (n + w)++[v % 256]).drop n=_
  rw [List.drop_append_of_le_length (by rw [Zi]; omega),Apx n w]
  rfl
theorem A1l (l:List Int) (a:Nat):Ac (strOfNums l) (a:Int) (nI (strOfNums l).size)=strOfNums (l.drop a):=by
 unfold Ac
 rw [Cp]
 apply ByteArray.ext
 simp [strOfNums,nI,List.map_drop]
 exact List.take_of_length_le (by simp)
theorem A3d {h w:Int} (hh:U64 h) (h1:1≤w) (h8:w≤8):Ac (C9 (IntKind.wrap IntKind.i64 h) (Int.toNat 8)) (8 - w) (nI (ByteArray.size (C9 (IntKind.wrap IntKind.i64 h) (Int.toNat 8))))=C9 h w.toNat:=by
 obtain ⟨n,rfl⟩:∃ n:Nat,w=(n:Int):=⟨w.toNat,by omega⟩
 have e8:Int.toNat 8=(8 - n) + n:=by omega
 have e:(8 - (n:Int))=((8 - n:Nat):Int):=by omega
 rw [e]
 unfold C9
 have hd:Nc (IntKind.wrap IntKind.i64 h) (Int.toNat 8)=Nc h (Int.toNat 8):=by
  by_cases q:h < 9223372036854775808
  ·rw [Ag (by have:=hh.1; omega) q]
  ·have:IntKind.wrap IntKind.i64 h=h + 256 ^ 8 * (-1):=by
    have h6:(256:Int) ^ 8=18446744073709551616:=by decide
    have:=hh.2
    rw [h6]
    rw [A52]
    split<;>omega
   rw [this]
   exact Ald 8 h (-1)
 rw [hd,A1l,e8,Apx]
 rfl
theorem Ve {s:ByteArray} {w:Int} (h:Ch w 1 8=true):(Ac1 s w).size=w.toNat:=by
 unfold Ac1; rw [h]; exact I4 _ _
theorem A6n:∀ n:Nat,n≤64→Aas (ByteArray.mk #[0]) (n:Int)=some (strOfNums (List.replicate n 0)):=by decide +kernel
theorem Rn {p:Pg} {w:Int} (h:Fg p w=true):Ch w 1 8=true∧1≤w∧w≤8∧(p.2.2.2.1.size:Int)≤56 - w:=by
 obtain ⟨h1,h2⟩:=B7 h
 obtain ⟨_,h2⟩:=B7 h2
 obtain ⟨_,h2⟩:=B7 h2
 obtain ⟨_,h2⟩:=B7 h2
 exact ⟨h1,of_decide_eq_true (B7 h1).1,of_decide_eq_true (B7 h1).2,of_decide_eq_true (B7 h2).1⟩
theorem Cy {v lo hi:Int} (h:Ch v lo hi=true):lo≤v∧v≤hi:=⟨of_decide_eq_true (B7 h).1,of_decide_eq_true (B7 h).2⟩
theorem Ac3 {p:Pg} {w:Int} (h:Fg p w=true):(1≤p.1∧p.1≤4)∧(1≤p.2.1∧p.2.1≤60000)∧(1≤p.2.2.1∧p.2.2.1≤1000000000):=by
 obtain ⟨_,h2⟩:=B7 h
 obtain ⟨h3,h2⟩:=B7 h2
 obtain ⟨h4,h2⟩:=B7 h2
 obtain ⟨h5,h2⟩:=B7 h2
 exact ⟨Cy h3,Cy h4,Cy h5⟩
theorem Ale (x lo hi:Int) {ρ:Type} (f t:ρ):(bif decide (x < lo) then f else bif decide (x > hi) then f else t)=bif Ch x lo hi then t else f:=by
 unfold Ch
 by_cases h1:x < lo
 ·rw [decide_eq_true h1,decide_eq_false (show ¬ lo≤x by omega)]; rfl
 ·rw [decide_eq_false h1,decide_eq_true (show lo≤x by omega)]
  by_cases h2:x > hi
  ·rw [decide_eq_true h2,decide_eq_false (show ¬ x≤hi by omega)]; rfl
  ·rw [decide_eq_false h2,decide_eq_true (show x≤hi by omega)]; rfl
theorem A1m (s:ByteArray) (a b:Int):(Ac s a b).size≤s.size:=by
 unfold Ac
 rw [ByteArray.size_extract]
 omega
theorem Alf {α β:Type} (f:α→List β) (z:α) (xs:List α):∀ k i r,i + k=xs.length→iter (fun i r=>r++f (xs.getD i z)) k i r=r++((xs.drop i).map f).flatten
 | 0,i,r,h=>by
  rw [List.drop_eq_nil_of_le (by omega)]
  simp [iter]
 | k + 1,i,r,h=>by
  rw [Lc xs i z (by omega)]
  simp only [iter,List.map_cons,List.flatten_cons]
  rw [Alf f z xs k (i + 1) _ (by omega),List.append_assoc]
theorem Kd (a b:ByteArray):Ab (a++b)=Ab a++Ab b:=by
 unfold Ab
 simp
theorem C0 (s:ByteArray):(Ab s).length=s.size:=by
 unfold Ab
 rw [List.length_map]
 rfl
theorem Mn (l:List Int) (h:Ep l=true):Ab (strOfNums l)=l:=by
 unfold Ab strOfNums
 show (List.map _ (List.map _ l))=l
 rw [List.map_map]
 conv=>rhs; rw [← List.map_id l]
 refine List.map_congr_left fun x hx=>?_
 have:=List.all_eq_true.1 h x hx
 obtain ⟨h1,h2⟩:=B7 this
 have h1:=of_decide_eq_true h1
 have h2:=of_decide_eq_true h2
 show (((UInt8.ofNat x.toNat).toNat:Nat):Int)=x
 rw [UInt8.toNat_ofNat']
 rw [Nat.mod_eq_of_lt (by omega)]
 omega
theorem Q5 (s:ByteArray):Ep (Ab s)=true:=by
 refine List.all_eq_true.2 fun x hx=>?_
 obtain ⟨b,_,rfl⟩:=List.mem_map.1 hx
 have:=b.toNat_lt
 show (decide (0≤(b.toNat:Int))&&decide ((b.toNat:Int) < 256))=true
 rw [decide_eq_true (by omega),decide_eq_true (by omega)]
 rfl
theorem Gy (a b:List Int):Ep (a++b)=(Ep a&&Ep b):=List.all_append
theorem A3e (n:Nat) (h:n < 256):C9 (nI n) 1=strOfNums [nI n]:=by
 unfold C9
 simp only [Nc,List.nil_append]
 rw [show nI n % 256=nI n by simp only [nI]; omega]
theorem Ajr (n:Nat) (h:n < 256):Ep [nI n]=true:=by
 show ((decide (0≤nI n)&&decide (nI n < 256))&&true)=true
 rw [decide_eq_true (by simp only [nI]; omega),decide_eq_true (by simp only [nI]; omega)]
 rfl
theorem Atx (n:Nat) (h:n < 256):Ab (C9 (nI n) 1)=[nI n]:=by
 rw [A3e n h,Mn _ (Ajr n h)]
theorem A4i (n:Nat) (h:n < 256):IntKind.wrap IntKind.u8 (nI n)=nI n:=by
 show nI n % 256=nI n
 simp only [nI]; omega
theorem j9 {c:Chg} (h:Nl c=true):1≤c.1.size∧c.1.size≤20∧c.2.1.size≤100:=by
 obtain ⟨h1,h2⟩:=B7 h
 obtain ⟨h2,_⟩:=B7 h2
 have:=Cy h1
 have:=of_decide_eq_true h2
 omega
theorem Tl {c:Chg} (h:Nl c=true):Ep (Qy c)=true∧(Qy c).length≤200:=by
 obtain ⟨k1,k2,k3⟩:=j9 h
 unfold Qy
 have a1:=Ajr c.1.size (by omega)
 have a2:=Ajr c.2.1.size (by omega)
 have b1:Ep [1,nI c.1.size]=true:=by
  rw [show [1,nI c.1.size]=[1]++[nI c.1.size] from rfl,Gy,a1]; rfl
 have b0:Ep [0,nI c.1.size]=true:=by
  rw [show [0,nI c.1.size]=[0]++[nI c.1.size] from rfl,Gy,a1]; rfl
 cases c.2.2.1
 ·simp only [cond_false,Gy,b0,a2,Q5,List.length_append,C0,List.length_cons,List.length_nil]
  exact ⟨rfl,by omega⟩
 ·simp only [cond_true,Gy,b1,Q5,List.length_append,C0,List.length_cons,List.length_nil]
  exact ⟨rfl,by omega⟩
theorem Ph {b:List Chg} (h:Bb b=true):b.length≤20∧∀ i,i < b.length→Nl (b.getD i zC)=true:=by
 obtain ⟨h1,h2⟩:=B7 h
 refine ⟨by have:=(Cy h1).2; omega,fun i hi=>?_⟩
 exact List.all_eq_true.1 h2 i (List.mem_range'_1.2 ⟨by omega,by omega⟩)
def Alg (i:Nat) (r:List Int):Prop:=r.length≤200 * i∧Ep r=true
theorem Alg.step {i:Nat} {r:List Int} {c:Chg} (h:Alg i r) (hc:Nl c=true):Alg (i + 1) (r++Qy c):=by
 obtain ⟨q1,q2⟩:=Tl hc
 exact ⟨by rw [List.length_append]; have:=h.1; omega,by rw [Gy,h.2,q1]; rfl⟩
theorem Aty {b:List Chg} (h:∀ i,i < b.length→Nl (b.getD i zC)=true):∀ k i r,i + k=b.length→Alg i r→Alg b.length (iter (fun i r=>r++Qy (b.getD i zC)) k i r)
 | 0,i,r,e,hr=>by
  obtain rfl:i=b.length:=by omega
  exact hr
 | k + 1,i,r,e,hr=>Aty h k (i + 1) _ (by omega) (hr.step (h i (by omega)))
theorem P3 {a b:ByteArray} (h:Ab a=Ab b):a=b:=by
 apply ByteArray.ext
 apply Array.ext'
 unfold Ab at h
 exact (List.map_inj_right (fun x y e=>UInt8.toNat_inj.1 (by omega))).1 h
theorem Ke (s:ByteArray) (a b:Nat):Ab (Ac s a b)=((Ab s).drop a).take (b - a):=by
 unfold Ab Ac
 simp [List.map_drop,List.map_take]
theorem Axt {a b:ByteArray} (h:(a.toList==b.toList)=true):a=b:=by
 have h:=eq_of_beq h
 rw [ByteArray.toList_eq,ByteArray.toList_eq] at h
 apply ByteArray.ext
 exact Array.ext' h
theorem A5a {s:ByteArray} (h:Ab s=[]):s=ByteArray.mk #[]:=P3 h
theorem Ac4 {s:ByteArray} (h:0 < s.size):Ab s=An s 0::Ab (Ac s 1 (nI s.size)):=by
 have hc:=Ke s 1 s.size
 have e:Ac s 1 (nI s.size)=Ac s ((1:Nat):Int) ((s.size:Nat):Int):=rfl
 rw [e,hc]
 have hl:=C0 s
 cases hb:Ab s with
 | nil=>rw [hb] at hl; simp at hl; omega
 | cons x r=>
  have hx:An s 0=x:=by
   unfold An
   unfold Ab at hb
   cases hd:s.data.toList with
   | nil=>rw [hd] at hb; simp at hb
   | cons y q=>rw [hd] at hb; simp at hb; simp [hb.1]
  rw [hx,List.drop_one,List.tail_cons,List.take_of_length_le]
  rw [hb] at hl
  simp at hl
  omega
theorem Ahd {s:ByteArray} (h:(Bq s).2.2=true):Ab s=nI (Bq s).1.size::(Ab (Bq s).1++Ab (Bq s).2.1):=by
 unfold Bq at h ⊢
 split at h
 ·cases h
 ·rename_i hc
  rw [if_neg hc]
  obtain ⟨b0,b1⟩:=I5 s 0
  have h0:0 < s.size:=by omega
  rw [Ac4 h0]
  obtain ⟨n,hn⟩:∃ n:Nat,An s 0=(n:Int):=⟨(An s 0).toNat,by omega⟩
  have e1:(Ac s 1 (1 + An s 0)).size=n:=by rw [C6 (by omega) (by omega) (by omega)]; omega
  simp only [e1]
  rw [hn]
  congr 1
  have q1:Ac s 1 (nI s.size)=Ac s ((1:Nat):Int) ((s.size:Nat):Int):=rfl
  have q2:Ac s 1 (1 + (n:Int))=Ac s ((1:Nat):Int) ((1 + n:Nat):Int):=by rw [show (1 + (n:Int))=((1 + n:Nat):Int) by omega]<;>rfl
  have q3:Ac s (1 + (n:Int)) (nI s.size)=Ac s ((1 + n:Nat):Int) ((s.size:Nat):Int):=by rw [show (1 + (n:Int))=((1 + n:Nat):Int) by omega]<;>rfl
  rw [q1,q2,q3,Ke,Ke,Ke]
  have hl:=C0 s
  rw [List.take_of_length_le (by rw [List.length_drop]; omega),show 1 + n - 1=n by omega,List.take_of_length_le (l:=List.drop (1 + n) (Ab s)) (by rw [List.length_drop]; omega),← List.drop_drop]
  exact (List.take_append_drop n _).symm
theorem Ro {s k t:ByteArray} (hk:k.size < 256) (h:Ab s=nI k.size::(Ab k++Ab t)):Bq s=(k,t,true):=by
 have hl:=C0 s
 have hlk:=C0 k
 have hlt:=C0 t
 rw [h,List.length_cons,List.length_append,hlk,hlt] at hl
 have h0:0 < s.size:=by omega
 have hh:=Ac4 h0
 rw [h] at hh
 have hb:An s 0=nI k.size:=(List.cons.inj hh).1.symm
 have ht:=(List.cons.inj hh).2
 unfold Bq
 rw [hb,if_neg (by simp only [nI]; omega)]
 have q1:Ac s 1 (1 + nI k.size)=Ac s ((1:Nat):Int) ((1 + k.size:Nat):Int):=by rw [show (1 + nI k.size)=((1 + k.size:Nat):Int) by simp only [nI]; omega]<;>rfl
 have q2:Ac s (1 + nI k.size) (nI s.size)=Ac s ((1 + k.size:Nat):Int) ((s.size:Nat):Int):=by rw [show (1 + nI k.size)=((1 + k.size:Nat):Int) by simp only [nI]; omega]<;>rfl
 have hd:(Ab s).drop 1=Ab k++Ab t:=by rw [h]; rfl
 have e1:Ac s 1 (1 + nI k.size)=k:=by
  apply P3
  rw [q1,Ke,hd,show 1 + k.size - 1=k.size by omega,List.take_append_of_le_length (by omega),List.take_of_length_le (by omega)]
 have e2:Ac s (1 + nI k.size) (nI s.size)=t:=by
  apply P3
  rw [q2,Ke,← List.drop_drop,hd,List.drop_append_of_le_length (by omega),List.drop_of_length_le (by omega),List.nil_append,List.take_of_length_le (by omega)]
 rw [e1,e2]
theorem Av7 {s:ByteArray} (h0:0 < s.size) {c:Chg} {t:ByteArray} (h:Ala true s=some (c,t)):Ab s=Qy c++Ab t:=by
 unfold Ala at h
 rw [Ac4 h0]
 obtain ⟨b0,b1⟩:=I5 s 0
 by_cases g1:An s 0 > 1
 ·rw [decide_eq_true g1] at h; cases h
 ·rw [decide_eq_false g1] at h
  have hp:=@Ahd (Ac s 1 (nI s.size))
  generalize Bq (Ac s 1 (nI s.size))=p at *
  obtain ⟨k,u,o⟩:=p
  cases o
  ·cases h
  ·rw [hp rfl]
   by_cases g2:An s 0=1
   ·rw [g2] at h ⊢
    cases h
    simp [Qy]
   ·have g3:An s 0=0:=by omega
    rw [g3] at h ⊢
    have hq:=@Ahd u
    have h:(bif !(Bq u).2.2 then none else some ((k,(Bq u).1,false,()),(Bq u).2.1))=some (c,t):=h
    generalize Bq u=q at *
    obtain ⟨v,w,o⟩:=q
    cases o
    ·cases h
    ·cases h
     have:=hq rfl
     simp only at this ⊢
     rw [this]
     simp [Qy]
theorem Anz {s:ByteArray} {c:Chg} {t:ByteArray} (hc:Nl c=true) (h:Ab s=Qy c++Ab t) (b:Bool):0 < s.size∧Ala b s=some (c,t):=by
 obtain ⟨k1,k2,k3⟩:=j9 hc
 obtain ⟨k,v,g,u⟩:=c
 have hl:=C0 s
 have h0:0 < s.size:=by
  rw [h,List.length_append] at hl
  unfold Qy at hl
  cases g<;>simp at hl<;>omega
 refine ⟨h0,?_⟩
 have hh:=Ac4 h0
 rw [h] at hh
 unfold Ala
 cases g
 ·have e:Qy (k,v,false,u)++Ab t=0::(nI k.size::(Ab k++(nI v.size::(Ab v++Ab t)))):=by simp [Qy]
  rw [e] at hh
  have hb:An s 0=0:=(List.cons.inj hh).1.symm
  have ht:=(List.cons.inj hh).2.symm
  have a2:=Ajr v.size (by have:v.size≤100:=k3; omega)
  have ev:Ab (strOfNums (nI v.size::(Ab v++Ab t)))=nI v.size::(Ab v++Ab t):=Mn _ (by
   rw [show nI v.size::(Ab v++Ab t)=[nI v.size]++(Ab v++Ab t) from rfl,Gy,Gy,a2,Q5,Q5]; rfl)
  have p1:=Ro (s:=Ac s 1 (nI s.size)) (k:=k) (t:=strOfNums (nI v.size::(Ab v++Ab t))) (by have:k.size≤20:=k2; omega) (by rw [ev]; exact ht)
  have p2:=Ro (s:=strOfNums (nI v.size::(Ab v++Ab t))) (k:=v) (t:=t) (by have:v.size≤100:=k3; omega) ev
  rw [p1,hb]
  show (bif b&&false then none else (bif !(Bq (strOfNums (nI v.size::(Ab v++Ab t)))).2.2 then none else some ((k,(Bq (strOfNums (nI v.size::(Ab v++Ab t)))).1,false,()),(Bq (strOfNums (nI v.size::(Ab v++Ab t)))).2.1)))=_
  rw [p2,Bool.and_false]
  rfl
 ·have hv:v=ByteArray.mk #[]:=by
   obtain ⟨_,h2⟩:=B7 hc
   obtain ⟨_,h2⟩:=B7 h2
   have h2:(!(true&&!(v.toList==[])))=true:=h2
   have h3:(v.toList==[])=true:=by cases hq:(v.toList==[])<;>rw [hq] at h2<;>first | rfl | cases h2
   have h3:=eq_of_beq h3
   rw [ByteArray.toList_eq] at h3
   apply ByteArray.ext
   exact Array.ext' h3
  subst hv
  have e:Qy (k,ByteArray.mk #[],true,u)++Ab t=1::(nI k.size::(Ab k++Ab t)):=by simp [Qy]
  rw [e] at hh
  have hb:An s 0=1:=(List.cons.inj hh).1.symm
  have ht:=(List.cons.inj hh).2.symm
  have p1:=Ro (s:=Ac s 1 (nI s.size)) (k:=k) (t:=t) (by have:k.size≤20:=k2; omega) ht
  rw [p1,hb]
  cases b<;>rfl
theorem Ahe:∀ (f:Nat) (r:List Chg) (s:ByteArray) {b:List Chg} {t:ByteArray},P2 true f r s=some (b,t)→∃ cs,b=r++cs∧Ab s=Gg cs++Ab t
 | 0,r,s,b,t,h=>by
  cases h
  exact ⟨[],by simp,by simp [Gg]⟩
 | f + 1,r,s,b,t,h=>by
  unfold P2 at h
  by_cases q:(decide (s.size > 0)&&decide (r.length≤20))=true
  ·rw [q] at h
   have h0:=of_decide_eq_true (B7 q).1
   cases hs:Ala true s with
   | none=>rw [hs] at h; cases h
   | some ct=>
    obtain ⟨c,u⟩:=ct
    rw [hs] at h
    obtain ⟨cs,e1,e2⟩:=Ahe f (r++[c]) u h
    refine ⟨c::cs,by rw [e1,List.append_assoc]; rfl,?_⟩
    rw [Av7 h0 hs,e2]
    simp [Gg]
  ·rw [Bool.eq_false_iff.2 q] at h
   cases h
   exact ⟨[],by simp,by simp [Gg]⟩
theorem Rp (strict:Bool):∀ (cs:List Chg) (f:Nat) (r:List Chg) (s:ByteArray),cs.length < f→r.length + cs.length≤20→(∀ c∈cs,Nl c=true)→Ab s=Gg cs→P2 strict f r s=some (r++cs,ByteArray.mk #[])
 | [],f + 1,r,s,_,_,_,h=>by
  have hz:=A5a (s:=s) h
  subst hz
  rw [List.append_nil]
  rfl
 | c::cs,f + 1,r,s,hf,hr,hok,h=>by
  have hb:Ab (strOfNums (Gg cs))=Gg cs:=Mn _ (List.all_eq_true.2 fun x hx=>by
   obtain ⟨l,hl,hx⟩:=List.mem_flatten.1 hx
   obtain ⟨d,hd,rfl⟩:=List.mem_map.1 hl
   exact List.all_eq_true.1 (Tl (hok d (List.mem_cons_of_mem _ hd))).1 x hx)
  obtain ⟨h0,hs⟩:=Anz (s:=s) (c:=c) (t:=strOfNums (Gg cs)) (hok c (by simp)) (by rw [hb,h]; rfl) strict
  unfold P2
  rw [hs,decide_eq_true (show s.size > 0 from h0),decide_eq_true (show r.length≤20 by rw [List.length_cons] at hr; omega)]
  have ih:=Rp strict cs f (r++[c]) (strOfNums (Gg cs)) (by rw [List.length_cons] at hf; omega) (by rw [List.length_append,List.length_singleton]; rw [List.length_cons] at hr; omega) (fun d hd=>hok d (List.mem_cons_of_mem _ hd)) hb
  rw [List.append_assoc] at ih
  exact ih
theorem Av8 (s:ByteArray):strOfNums (Ab s)=s:=P3 (Mn _ (Q5 s))
theorem Azc {b:List Chg} (h:∀ c∈b,Nl c=true):Ep (Gg b)=true:=List.all_eq_true.2 fun x hx=>by
 obtain ⟨l,hl,hx⟩:=List.mem_flatten.1 hx
 obtain ⟨d,hd,rfl⟩:=List.mem_map.1 hl
 exact List.all_eq_true.1 (Tl (h d hd)).1 x hx
theorem Afi {b:List Chg} (h:Bb b=true):1≤b.length∧b.length≤20∧∀ c∈b,Nl c=true:=by
 obtain ⟨h1,h2⟩:=Ph h
 refine ⟨by have:=(Cy (B7 h).1).1; omega,h1,Zh (z:=zC) (P:=fun c=>Nl c=true) h2⟩
theorem Axu {s:ByteArray} {b:List Chg} (hv:Bb b=true) (hs:Ab s=Gg b):Lo s=(b,true)∧Alb s=(b,true):=by
 obtain ⟨h1,h2,h3⟩:=Afi hv
 have p1:=Rp true b 22 [] s (by omega) (by simpa using h2) h3 hs
 have p2:=Rp false b 22 [] s (by omega) (by simpa using h2) h3 hs
 have hf:Ee b=s:=by
  unfold Ee
  rw [hv,← hs,cond_true,Av8]
 have hz:(s.size==0)=false:=by
  refine beq_eq_false_iff_ne.2 fun q=>?_
  cases b with
  | nil=>simp at h1
  | cons c r=>
   have:=C0 s
   rw [q,hs] at this
   unfold Gg Qy at this
   cases hg:c.2.2.1<;>simp [hg] at this
 unfold Lo Alb
 rw [p1,p2]
 simp only [List.nil_append]
 rw [hv,hf,hz,beq_self_eq_true]
 exact ⟨rfl,rfl⟩
theorem Axv {s:ByteArray} (h:∀ b,Bb b=true→Ab s≠Gg b):Lo s=([],false)∧Alb s=([],false):=by
 constructor
 ·unfold Lo
  cases hp:P2 true 22 [] s with
  | none=>rfl
  | some bt=>
   obtain ⟨b,t⟩:=bt
   simp only
   obtain ⟨cs,e1,e2⟩:=Ahe 22 [] s hp
   rw [List.nil_append] at e1
   subst e1
   by_cases ht:t.size > 0
   ·rw [decide_eq_true ht]; rfl
   ·cases hv:Bb b with
    | false=>rw [Bool.not_false,Bool.or_true]; rfl
    | true=>
     have h0:Ab t=[]:=List.length_eq_zero_iff.1 (by rw [C0]; omega)
     rw [h0,List.append_nil] at e2
     exact absurd e2 (h b hv)
 ·unfold Alb
  cases hp:P2 false 22 [] s with
  | none=>rfl
  | some bt=>
   obtain ⟨b,t⟩:=bt
   simp only
   by_cases hz:s.size=0
   ·rw [hz]; rfl
   ·rw [beq_eq_false_iff_ne.2 hz,Bool.false_or]
    cases he:((Ee b).toList==s.toList) with
    | false=>rfl
    | true=>
     have e:=Axt he
     cases hv:Bb b with
     | false=>
      unfold Ee at e
      rw [hv] at e
      subst e
      exact absurd rfl hz
     | true=>
      unfold Ee at e
      rw [hv] at e
      have e:strOfNums (Gg b)=s:=e
      have:=congrArg Ab e
      rw [Mn _ (Azc (Afi hv).2.2)] at this
      exact absurd this.symm (h b hv)
theorem Azd (s:ByteArray):Alb s=Lo s:=by
 by_cases h:∃ b,Bb b=true∧Ab s=Gg b
 ·obtain ⟨b,h1,h2⟩:=h
  rw [(Axu h1 h2).1,(Axu h1 h2).2]
 ·have h':∀ b,Bb b=true→Ab s≠Gg b:=fun b h1 h2=>h ⟨b,h1,h2⟩
  rw [(Axv h').1,(Axv h').2]
def Ah0 (v b:Int):Int:=v * 256 + b
theorem W2 (s:ByteArray) (i:Nat):An s i=(Ab s).getD i 0:=by
 unfold An Ab
 simp only [Int.toNat_natCast,List.getD_eq_getElem?_getD,List.getElem?_map]
 cases s.data.toList[i]?<;>rfl
theorem Atz (s:ByteArray):∀ k i v,i + k=s.size→Atr s k i v=((Ab s).drop i).foldl Ah0 v
 | 0,i,v,h=>by rw [List.drop_of_length_le (by rw [C0]; omega)]; rfl
 | k + 1,i,v,h=>by
  rw [Lc (Ab s) i 0 (by rw [C0]; omega),List.foldl_cons,← W2]
  exact Atz s k (i + 1) _ (by omega)
theorem Axw (s:ByteArray):l7 s=(Ab s).foldl Ah0 0:=by
 unfold l7
 rw [Atz s s.size 0 0 (by omega),List.drop_zero]
theorem At0 (v:Int):∀ (n:Nat) (l:List Int),l.length=n→Ep l=true→Nc (l.foldl Ah0 v) n=l
 | 0,l,h,_=>by rw [List.length_eq_zero_iff.1 h]; rfl
 | n + 1,l,h,ha=>by
  obtain ⟨q,b,rfl⟩:∃ q b,l=q++[b]:=⟨l.dropLast,l.getLast (by intro e; subst e; simp at h),(List.dropLast_concat_getLast _).symm⟩
  rw [Gy] at ha
  obtain ⟨h1,h2⟩:=B7 ha
  have hb:0≤b∧b < 256:=by
   have:=List.all_eq_true.1 h2 b (by simp)
   exact ⟨of_decide_eq_true (B7 this).1,of_decide_eq_true (B7 this).2⟩
  rw [List.foldl_append]
  simp only [List.foldl_cons,List.foldl_nil,Nc]
  have e1:Ah0 (q.foldl Ah0 v) b / 256=q.foldl Ah0 v:=by unfold Ah0; omega
  have e2:Ah0 (q.foldl Ah0 v) b % 256=b:=by unfold Ah0; omega
  rw [e1,e2,At0 v n q (by simpa using h) h1]
theorem At1:∀ (n:Nat) (v:Int),0≤v→v < 256 ^ n→(Nc v n).foldl Ah0 0=v
 | 0,v,h0,h1=>by
  have:v < 1:=h1
  show (0:Int)=v
  omega
 | n + 1,v,h0,h1=>by
  have hp:(256:Int) ^ (n + 1)=256 ^ n * 256:=Int.pow_succ _ _
  simp only [Nc,List.foldl_append,List.foldl_cons,List.foldl_nil]
  rw [At1 n (v / 256) (by omega) (by omega)]
  unfold Ah0
  omega
theorem At2:∀ (n:Nat) (v:Int),Ep (Nc v n)=true
 | 0,_=>rfl
 | n + 1,v=>by
  simp only [Nc,Gy,At2 n]
  show (true&&((decide (0≤v % 256)&&decide (v % 256 < 256))&&true))=true
  rw [decide_eq_true (by omega),decide_eq_true (by omega)]
  rfl
theorem Ld (v:Int) (n:Nat):Ab (C9 v n)=Nc v n:=Mn _ (At2 n v)
theorem At3 {v:Int} {n:Nat} (h0:0≤v) (h1:v < 256 ^ n):l7 (C9 v n)=v:=by rw [Axw,Ld,At1 n v h0 h1]
theorem A1n (s:ByteArray):C9 (l7 s) s.size=s:=by
 apply P3
 rw [Ld,Axw]
 exact At0 0 s.size _ (C0 s) (Q5 s)
theorem Aze (n:Nat):Ep (List.replicate n 0)=true:=List.all_eq_true.2 fun x hx=>by
 rw [List.eq_of_mem_replicate hx]; rfl
theorem Aat (p:Pg) (w:Int):Ab (F4 p w)=Nc p.1 1++(Nc p.2.1 2++(Nc p.2.2.1 4++(Nc p.2.2.2.1.size 1++(Ab p.2.2.2.1++List.replicate (56 - w - p.2.2.2.1.size).toNat 0)))):=by
 unfold F4
 rw [Kd,Kd,Kd,Kd,Kd,Ld,Ld,Ld,Ld,Mn _ (Aze _)]
 simp only [List.append_assoc]
theorem Apy {p:Pg} {w:Int} (h:Fg p w=true):(F4 p w).size=(64 - w).toNat:=by
 obtain ⟨hw,k1,k2,kp⟩:=Rn h
 rw [← C0,Aat]
 simp only [List.length_append,Zi,C0,List.length_replicate]
 omega
theorem Alh {p:Pg} {w:Int} (h:Fg p w=true):(Cx p w).size=64∧Ac (Cx p w) w (nI (Cx p w).size)=F4 p w:=by
 obtain ⟨hw,k1,k2,kp⟩:=Rn h
 have e:Cx p w=Ac1 (F4 p w) w++F4 p w:=by unfold Cx; rw [h]; rfl
 have hs:(Cx p w).size=64:=by rw [e,ByteArray.size_append,Ve hw,Apy h]; omega
 refine ⟨hs,?_⟩
 obtain ⟨n,rfl⟩:∃ n:Nat,w=(n:Int):=⟨w.toNat,by omega⟩
 apply P3
 have q:Ac (Cx p n) n (nI (Cx p n).size)=Ac (Cx p n) (n:Nat) ((64:Nat):Int):=by rw [hs]<;>rfl
 rw [q,Ke,e,Kd,List.drop_append_of_le_length (by rw [C0,Ve hw]; omega),List.drop_of_length_le (by rw [C0,Ve hw]; omega),List.nil_append,List.take_of_length_le (by rw [C0,Apy h]; omega)]
theorem A1o {p:Pg} {w:Int} (h:Fg p w=true):Av4 (F4 p w)=p:=by
 obtain ⟨hw,k1,k2,kp⟩:=Rn h
 obtain ⟨r1,r2,r3⟩:=Ac3 h
 have hb:=Aat p w
 have d1:∀ v:Int,Nc v 1=[v % 256]:=fun v=>rfl
 have d2:∀ v:Int,Nc v 2=[v / 256 % 256,v % 256]:=fun v=>rfl
 have d4:∀ v:Int,Nc v 4=[v / 256 / 256 / 256 % 256,v / 256 / 256 % 256,v / 256 % 256,v % 256]:=fun v=>rfl
 have b7:An (F4 p w) 7=p.2.2.2.1.size:=by
  have:=W2 (F4 p w) 7
  rw [hb,d1,d2,d4,d1] at this
  refine this.trans ?_
  show (p.2.2.2.1.size:Int) % 256=_
  omega
 have b0:An (F4 p w) 0=p.1:=by
  have:=W2 (F4 p w) 0
  rw [hb,d1] at this
  refine this.trans ?_
  show p.1 % 256=_
  omega
 have c1:Ac (F4 p w) 1 3=C9 p.2.1 2:=by
  apply P3
  have:=Ke (F4 p w) 1 3
  rw [hb,d1,d2,d4,d1] at this
  exact this.trans (by rw [Ld,d2]; rfl)
 have c3:Ac (F4 p w) 3 7=C9 p.2.2.1 4:=by
  apply P3
  have:=Ke (F4 p w) 3 7
  rw [hb,d1,d2,d4,d1] at this
  exact this.trans (by rw [Ld,d4]; rfl)
 have c8:Ac (F4 p w) 8 (8 + (p.2.2.2.1.size:Int))=p.2.2.2.1:=by
  apply P3
  have:=Ke (F4 p w) 8 (8 + p.2.2.2.1.size)
  rw [hb,d1,d2,d4,d1] at this
  refine this.trans ?_
  show List.take (8 + p.2.2.2.1.size - 8) (Ab p.2.2.2.1++_)=_
  rw [show 8 + p.2.2.2.1.size - 8=p.2.2.2.1.size by omega,List.take_append_of_le_length (by rw [C0]; omega),List.take_of_length_le (by rw [C0]; omega)]
 have p2:(256:Int) ^ 2=65536:=by decide
 have p4:(256:Int) ^ 4=4294967296:=by decide
 unfold Av4
 rw [b7,b0,c1,c3,c8,At3 (by omega) (by omega),At3 (by omega) (by omega)]
theorem Q6 {p:Pg} {w:Int} (h:Fg p w=true):Bw (Cx p w) w=(p,true):=by
 obtain ⟨hw,k1,k2,kp⟩:=Rn h
 obtain ⟨hs,ht⟩:=Alh h
 have hr:=A1o h
 have b7:An (F4 p w) 7=p.2.2.2.1.size:=by
  have:=W2 (F4 p w) 7
  rw [Aat] at this
  refine this.trans ?_
  show (p.2.2.2.1.size:Int) % 256=_
  omega
 unfold Bw Av5
 rw [ht,hr,hw,hs,b7,beq_self_eq_true,decide_eq_false (by omega)]
 rfl
theorem Rq {s:ByteArray} {w:Int} {p:Pg} (h:Bw s w=(p,true)):s.size=64∧Ch w 1 8=true∧Cx p w=s∧Fg p w=true:=by
 unfold Bw at h
 cases h1:(nI s.size != 64) with
 | true=>rw [h1] at h; cases h
 | false=>
  cases h2:Ch w 1 8 with
  | false=>rw [h1,h2] at h; cases h
  | true=>
   cases h3:decide (An (Ac s w (nI s.size)) 7 > 56 - w) with
   | true=>rw [h1,h2,h3] at h; cases h
   | false=>
    cases h4:((Cx (Av5 s w) w).toList==s.toList) with
    | false=>rw [h1,h2,h3,h4] at h; cases h
    | true=>
     rw [h1,h2,h3,h4] at h
     have e:Av5 s w=p:=congrArg Prod.fst h
     rw [e] at h4
     have e2:=Axt h4
     have hs:s.size=64:=by
      by_cases q:nI s.size=64
      ·simp only [nI] at q; omega
      ·rw [(bne_iff_ne).2 q] at h1; cases h1
     refine ⟨hs,rfl,e2,?_⟩
     cases hp:Fg p w with
     | true=>rfl
     | false=>
      unfold Cx at e2
      rw [hp] at e2
      subst e2
      cases hs
theorem Azf {s:ByteArray} {w:Int} {p:Pg} (h:Bw s w=(p,true)) (h5:p.2.2.2.1.size=5):
  ((Vc (Lq p) w).toList==s.toList)=((p.1==4)&&Ox (Lq p)):=by
 obtain ⟨hs,hw,hf,hp⟩:=Rq h
 cases hr:Ox (Lq p) with
 | false=>
  rw [Bool.and_false]
  cases q:((Vc (Lq p) w).toList==s.toList) with
  | false=>rfl
  | true=>
   have e:=Axt q
   unfold Vc at e
   rw [hr] at e
   subst e
   cases hs
 | true=>
  rw [Bool.and_true]
  have hpart:C9 (Lq p).2.1 1++C9 (Lq p).2.2.1 4=p.2.2.2.1:=by
   apply P3
   have e4:(Ac p.2.2.2.1 1 (nI p.2.2.2.1.size)).size=4:=by rw [C6 (by omega) (by simp only [nI]; omega) (by simp [nI])]; simp only [nI,h5]; decide
   have e5:C9 (l7 (Ac p.2.2.2.1 1 (nI p.2.2.2.1.size))) 4=Ac p.2.2.2.1 1 (nI p.2.2.2.1.size):=by
    have:=A1n (Ac p.2.2.2.1 1 (nI p.2.2.2.1.size))
    rw [e4] at this
    exact this
   show Ab (C9 (An p.2.2.2.1 0) 1++C9 (l7 (Ac p.2.2.2.1 1 (nI p.2.2.2.1.size))) 4)=_
   obtain ⟨b0,b1⟩:=I5 p.2.2.2.1 0
   rw [e5,Kd,Ld,Ac4 (s:=p.2.2.2.1) (by omega)]
   show [An p.2.2.2.1 0 % 256]++_=_
   rw [show An p.2.2.2.1 0 % 256=An p.2.2.2.1 0 by omega]
   rfl
  have hR:Vc (Lq p) w=Cx (4,p.2.1,p.2.2.1,p.2.2.2.1,()) w:=by
   unfold Vc
   rw [hr,hpart]
   rfl
  rw [hR]
  by_cases hk:p.1=4
  ·have e:((4,p.2.1,p.2.2.1,p.2.2.2.1,()):Pg)=p:=by rw [← hk]
   rw [e,hf,hk,beq_self_eq_true]
   rfl
  ·rw [beq_eq_false_iff_ne.2 hk]
   cases q:((Cx (4,p.2.1,p.2.2.1,p.2.2.2.1,()) w).toList==s.toList) with
   | false=>rfl
   | true=>
    have e:=Axt q
    cases ho:Fg (4,p.2.1,p.2.2.1,p.2.2.2.1,()) w with
    | false=>
     unfold Cx at e
     rw [ho] at e
     subst e
     cases hs
    | true=>
     have r:=Q6 ho
     rw [e,h] at r
     exact absurd (congrArg (fun x:Pg×Bool=>x.1.1) r) hk
theorem Azg {a n:Int} (hn:0 < n):(a + n - 1) / n=1 + (a - n + n - 1) / n:=by
 have:a + n - 1=(a - n + n - 1) + n * 1:=by omega
 rw [this,Int.add_mul_ediv_left _ _ (by omega)]
 omega
theorem Apz (n:Nat) (hn:1≤n):∀ (f:Nat) (s:ByteArray),s.size≤f→((Hw n f s).length:Int)=if ((s.size:Int) + n - 1) / n > 1 then ((s.size:Int) + n - 1) / n else 1
 | 0,s,h=>by
  have h0:s.size=0:=by omega
  simp only [Hw,h0]
  have:(((0:Nat):Int) + n - 1) / n=0:=Int.ediv_eq_zero_of_lt (by omega) (by omega)
  exact (if_neg (by rw [this]; decide)).symm
 | f + 1,s,h=>by
  by_cases q:s.size > n
  ·have hc:(Ac s n (nI s.size)).size=s.size - n:=by rw [C6 (by omega) (by simp only [nI]; omega) (by simp [nI])]; simp only [nI]; omega
   simp only [Hw,if_pos q,List.length_cons]
   have ih:=Apz n hn f (Ac s n (nI s.size)) (by omega)
   rw [hc] at ih
   have e:=Azg (a:=s.size) (n:=n) (by omega)
   have e2:((s.size - n:Nat):Int)=(s.size:Int) - n:=by omega
   rw [e2] at ih
   have hp:1≤((s.size:Int) - n + n - 1) / n:=by
    rw [Int.le_ediv_iff_mul_le (by omega)]
    omega
   rw [e]
   generalize ((s.size:Int) - n + n - 1) / n=y at *
   rw [if_pos (by omega)]
   split at ih<;>omega
  ·simp only [Hw,if_neg q]
   have:((s.size:Int) + n - 1) / n < 2:=by
    rw [Int.ediv_lt_iff_lt_mul (by omega)]
    omega
   exact (if_neg (by omega)).symm
theorem W3 {s:ByteArray} {w:Int} (hw:Ch w 1 8=true):((Bj s w).length:Int)=if ((s.size:Int) + (56 - w) - 1) / (56 - w) > 1 then ((s.size:Int) + (56 - w) - 1) / (56 - w) else 1:=by
 obtain ⟨h1,h2⟩:=Cy hw
 obtain ⟨n,hn⟩:∃ n:Nat,56 - w=(n:Int):=⟨(56 - w).toNat,by omega⟩
 unfold Bj
 rw [hn,Int.toNat_natCast]
 exact Apz n (by omega) s.size s (Nat.le_refl _)
theorem Tm (life w:Int):∀ (L:List ByteArray) (k:Int),Po life w k L=(List.range' 0 L.length).map (fun i=>Cx ((if i + 1=L.length then 2 else 1),life,k + (i:Int),L.getD i z0,()) w)
 | [],k=>rfl
 | [p],k=>by
  show [Cx (2,life,k,p,()) w]=[Cx ((if 0 + 1=1 then 2 else 1),life,k + ((0:Nat):Int),p,()) w]
  rw [if_pos rfl,show k + ((0:Nat):Int)=k by omega]
 | p::q::r,k=>by
  have ih:=Tm life w (q::r) (k + 1)
  show Cx (1,life,k,p,()) w::Po life w (k + 1) (q::r)=(List.range' 0 ((q::r).length + 1)).map (fun i=>Cx ((if i + 1=(q::r).length + 1 then 2 else 1),life,k + (i:Int),(p::q::r).getD i z0,()) w)
  rw [ih,List.range'_succ,List.map_cons]
  congr 1
  ·rw [if_neg (by rw [List.length_cons]; omega),show k + ((0:Nat):Int)=k by omega]
   rfl
  ·rw [show List.range' (0 + 1) (q::r).length=List.map (fun x=>1 + x) (List.range' 0 (q::r).length) by rw [List.map_add_range'],List.map_map]
   refine List.map_congr_left fun i _=>?_
   show _=Cx ((if 1 + i + 1=(q::r).length + 1 then 2 else 1),life,k + ((1 + i:Nat):Int),(p::q::r).getD (1 + i) z0,()) w
   rw [show k + ((1 + i:Nat):Int)=k + 1 + (i:Int) by omega,show 1 + i=i + 1 by omega]
   by_cases e:i + 1=(q::r).length
   ·rw [if_pos e,if_pos (by omega)]; rfl
   ·rw [if_neg e,if_neg (by omega)]; rfl
theorem Ap0 {β:Type} (g:Nat→β):∀ k i (r:List β),iter (fun i r=>r++[g i]) k i r=r++(List.range' i k).map g
 | 0,i,r=>by simp [iter]
 | k + 1,i,r=>by
  simp only [iter]
  rw [Ap0 g k (i + 1),List.range'_succ,List.map_cons,List.append_assoc]
  rfl
theorem W4 (p:Pg) (w:Int):(Cx p w).size≤64:=by
 cases h:Fg p w with
 | true=>rw [(Alh h).1]; exact Nat.le_refl _
 | false=>unfold Cx; rw [h]; show (ByteArray.mk #[]).size≤64; decide
theorem Aau (life w:Int):∀ (L:List ByteArray) (k:Int),(Po life w k L).length=L.length∧∀ x∈Po life w k L,x.size≤64:=by
 intro L k
 rw [Tm]
 refine ⟨by simp,fun x hx=>?_⟩
 obtain ⟨i,_,rfl⟩:=List.mem_map.1 hx
 exact W4 _ _
theorem G8.sync {d:Dk} (h:G8 d):G8 (Aps d):=by
 have hl:=Nn d.1 d.2.1
 have hs:Ahc d.1.length (Lp d.1 d.2.1):=j7 (Ahc d.1.length) _ d.2.1 0 d.1 (fun i s w hw hI=>hI.set (Zh (z:=zW) (P:=fun w:Wr=>w.2.1.size=64) (fun i hi=>(h.pen i hi).2.2) w hw)) ⟨rfl,h.sec⟩
 exact ⟨by show 8≤(Lp d.1 d.2.1).length; rw [hl]; exact h.n8,by show (Lp d.1 d.2.1).length≤200; rw [hl]; exact h.n200,by show (0:Nat)≤300; omega,fun i hi=>hs.2 i (by rw [← hl]; exact hi),fun i hi=>absurd hi (by show ¬ i < 0; omega)⟩
theorem G8.op {d:Dk} (h:G8 d) (o:Opn):G8 (opS d o):=by
 unfold opS
 cases o.1 with
 | true=>exact h.sync
 | false=>
  cases hc:l6 d.1.length (o.2.1,o.2.2.1,())&&decide (d.2.1.length < 300) with
  | false=>exact h
  | true=>
   obtain ⟨h1,h2⟩:=B7 hc
   obtain ⟨q1,q2⟩:=B7 h1
   obtain ⟨q2,q3⟩:=B7 q2
   have h2:=of_decide_eq_true h2
   refine ⟨h.n8,h.n200,by show (d.2.1++[(o.2.1,o.2.2.1,())]).length≤300; rw [List.length_append,List.length_singleton]; omega,h.sec,fun i hi=>?_⟩
   have hi:i < d.2.1.length + 1:=by
    have hi:i < (d.2.1++[(o.2.1,o.2.2.1,())]).length:=hi
    rw [List.length_append,List.length_singleton] at hi
    exact hi
   show 0≤((d.2.1++[(o.2.1,o.2.2.1,())]).getD i zW).1∧((d.2.1++[(o.2.1,o.2.2.1,())]).getD i zW).1 < (d.1.length:Int)∧((d.2.1++[(o.2.1,o.2.2.1,())]).getD i zW).2.1.size=64
   by_cases e:i < d.2.1.length
   ·have:(d.2.1++[(o.2.1,o.2.2.1,())]).getD i zW=d.2.1.getD i zW:=by
     rw [List.getD_eq_getElem?_getD,List.getElem?_append_left e,← List.getD_eq_getElem?_getD]
    rw [this]
    exact h.pen i e
   ·obtain rfl:i=d.2.1.length:=by omega
    have:(d.2.1++[(o.2.1,o.2.2.1,())]).getD d.2.1.length zW=(o.2.1,o.2.2.1,()):=by
     rw [List.getD_eq_getElem?_getD,List.getElem?_append_right (Nat.le_refl _),Nat.sub_self]
     rfl
    rw [this]
    exact ⟨of_decide_eq_true q1,of_decide_eq_true q2,of_decide_eq_true q3⟩
theorem G8.ops:∀ (l:List Opn) {d:Dk},G8 d→G8 (l.foldl opS d)
 | [],_,h=>h
 | o::r,_,h=>G8.ops r (h.op o)
theorem G8.good {d:Dk} (h:G8 d):G0 tDk d=true:=by
 show ((decide (d.1.length≤1073741824)&&List.all d.1 (fun x=>decide (ByteArray.size x≤1073741824)))&&((decide (d.2.1.length≤1073741824)&&List.all d.2.1 (fun w=>true&&(decide (ByteArray.size w.2.1≤1073741824)&&true)))&&true))=true
 have h1:List.all d.1 (fun x=>decide (ByteArray.size x≤1073741824))=true:=List.all_eq_true.2 (Zh (z:=z0) fun i hi=>decide_eq_true (by rw [h.sec i hi]; decide))
 have h2:List.all d.2.1 (fun w=>true&&(decide (ByteArray.size w.2.1≤1073741824)&&true))=true:=List.all_eq_true.2 (Zh (z:=zW) fun i hi=>by rw [(h.pen i hi).2.2]; rfl)
 rw [h1,h2,decide_eq_true (by have:=h.n200; omega),decide_eq_true (by have:=h.p300; omega)]
 rfl
theorem Ahf (n:Nat):∀ (f:Nat) (s:ByteArray),(Hw n f s).length≤f + 1
 | 0,s=>by simp [Hw]
 | f + 1,s=>by
  unfold Hw
  split
  ·rw [List.length_cons]
   have:=Ahf n f (Ac s n (nI s.size))
   omega
  ·simp
end Go.Proofs.YtfkefgbihlfjmaaGreat.V

