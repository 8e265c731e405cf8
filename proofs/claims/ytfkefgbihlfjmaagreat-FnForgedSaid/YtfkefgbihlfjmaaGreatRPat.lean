/- Patterns of states: a state at a loop's head is a pattern and data. No condition. -/
import Derived.Test.YtfkefgbihlfjmaaGreatRCanon
namespace Go.Proofs.YtfkefgbihlfjmaaGreat.R
open Go Go.RowKit
set_option linter.unusedVariables false
set_option linter.unusedSimpArgs false
inductive Pe where
 | d (t:Ty)
 | row (id:Nat)
 | ptr (id off:Nat)
 | sp (id:Nat)
inductive Pv where
 | dead
 | lf (p:Pe)
 | ag (ps:List Pe)
 | fn (f:FuncId) (ps:List Pe)
inductive Pr where
 | dead
 | unborn
 | box (T:TypeId) (ps:List Pe)
 | row (e:TypeId) (t:Ty)
 | last (e:TypeId) (t:Ty) (j:Nat)
 | map (t:Ty)
 | iter (t:Ty)
inductive Fx where
 | sl (slot ix:Nat) (t:Ty)
 | row (slot ix:Nat) (e:TypeId) (t:Ty)
 | boxSl (slot ix:Nat) (t:Ty)
 | boxRow (slot ix:Nat) (e:TypeId) (t:Ty)
 | self (slot ix:Nat)
 | last (slot:Nat) (e:TypeId) (t:Ty)
structure Pat where
 fx:List Fx
 cs:List (Nat×Pv)
 rs:List Pr
def Ak4:List Pe→Type→Type
 | [],X=>X
 | .d t::r,X=>t.D×Ak4 r X
 | .row _::r,X=>Ak4 r X
 | .ptr _ _::r,X=>Ak4 r X
 | .sp _::r,X=>Ak4 r X
def PvD:Pv→Type→Type
 | .dead,X=>X
 | .lf p,X=>Ak4 [p] X
 | .ag ps,X=>Ak4 ps X
 | .fn _ ps,X=>Ak4 ps X
def CsD:List (Nat×Pv)→Type→Type
 | [],X=>X
 | p::r,X=>PvD p.2 (CsD r X)
def PrD:Pr→Type→Type
 | .dead,X=>X
 | .unborn,X=>X
 | .box _ ps,X=>Ak4 ps X
 | .row _ t,X=>List t.D×X
 | .last _ t _,X=>List (List t.D)×Bool×X
 | .map t,X=>List (ByteArray×t.D)×X
 | .iter t,X=>List (ByteArray×t.D)×List (ByteArray×t.D)×Option (ByteArray×t.D)×X
def RsD:List Pr→Type→Type
 | [],X=>X
 | p::r,X=>PrD p (RsD r X)
def Pat.D (p:Pat):Type:=CsD p.cs (RsD p.rs Unit)
section
variable {X:Type}
def Bp:(ps:List Pe)→Ak4 ps X→List Lf×X
 | [],d=>([],d)
 | .d t::r,d=>(t.leafs d.1++(Bp r d.2).1,(Bp r d.2).2)
 | .row id::r,d=>(.row id::(Bp r d).1,(Bp r d).2)
 | .ptr id off::r,d=>(.ptr id off::(Bp r d).1,(Bp r d).2)
 | .sp id::r,d=>(.sp id::(Bp r d).1,(Bp r d).2)
def A00:List Lf→AV
 | [l]=>.vl (.lf l)
 | _=>.dead
def Tj:(p:Pv)→PvD p X→AV×X
 | .dead,d=>(.dead,d)
 | .lf p,d=>(A00 (Bp [p] d).1,(Bp [p] d).2)
 | .ag ps,d=>(.vl (.ag (Bp ps d).1),(Bp ps d).2)
 | .fn f ps,d=>(.fn f (Bp ps d).1,(Bp ps d).2)
def Tk:(l:List (Nat×Pv))→CsD l X→List (Nat×AV)×X
 | [],d=>([],d)
 | p::r,d=>((p.1,(Tj p.2 d).1)::(Tk r (Tj p.2 d).2).1,(Tk r (Tj p.2 d).2).2)
def Va:(p:Pr)→PrD p X→Res×X
 | .dead,d=>(.dead,d)
 | .unborn,d=>(.unborn,d)
 | .box T ps,d=>(.box T (Bp ps d).1,(Bp ps d).2)
 | .row e t,d=>(.row e t d.1,d.2)
 | .last e t j,d=>(.last e t d.1 d.2.1 j,d.2.2)
 | .map t,d=>(.map t d.1,d.2)
 | .iter t,d=>(.iter t d.1 d.2.1 d.2.2.1,d.2.2.2)
def Xj:(l:List Pr)→RsD l X→List Res×X
 | [],d=>([],d)
 | p::r,d=>((Va p d).1::(Xj r (Va p d).2).1,(Xj r (Va p d).2).2)
end
def Pat.st (p:Pat) (d:p.D):St:=Atg (Tk p.cs d).1 (Xj p.rs (Tk p.cs d).2).1
def Pat.nid (p:Pat):Nat:=p.rs.length
def Avr:(t:Ty)→Lf→Option t.D
 | .int k,.c (.int k' n)=>if k'=k then some n else none
 | .bool,.c (.bool b)=>some b
 | .str,.c (.string b)=>some b
 | .sl t,.sl t' xs=>if h:t'=t then some (h ▸ xs) else none
 | _,_=>none
def Um:(t:Ty)→List Lf→Option (t.D×List Lf)
 | .unit,ls=>some ((),ls)
 | .pair a b,ls=>(Um a ls).bind fun p=>(Um b p.2).bind fun q=>some ((p.1,q.1),q.2)
 | .int k,l::r=>(Avr (.int k) l).bind fun x=>some (x,r)
 | .bool,l::r=>(Avr .bool l).bind fun x=>some (x,r)
 | .str,l::r=>(Avr .str l).bind fun x=>some (x,r)
 | .sl t,l::r=>(Avr (.sl t) l).bind fun x=>some (x,r)
 | _,[]=>none
def Aq9 (id:Nat):List Lf→Option (List Lf)
 | .row j::r=>if j=id then some r else none
 | _=>none
def Ara (id off:Nat):List Lf→Option (List Lf)
 | .ptr j o::r=>if j=id then (if o=off then some r else none) else none
 | _=>none
def Avs (id:Nat):List Lf→Option (List Lf)
 | .sp j::r=>if j=id then some r else none
 | _=>none
def A5u {X:Type} (k:Option X):List Lf→Option X
 | []=>k
 | _::_=>none
section
variable {X:Type} (k:Option X)
def Ov:(ps:List Pe)→List Lf→Option (Ak4 ps X)
 | [],ls=>A5u k ls
 | .d t::r,ls=>(Um t ls).bind fun p=>(Ov r p.2).bind fun q=>some (p.1,q)
 | .row id::r,ls=>(Aq9 id ls).bind fun ls'=>Ov r ls'
 | .ptr id off::r,ls=>(Ara id off ls).bind fun ls'=>Ov r ls'
 | .sp id::r,ls=>(Avs id ls).bind fun ls'=>Ov r ls'
def A6g:AV→Option (List Lf)
 | .vl (.ag ls)=>some ls
 | _=>none
def A5v (f:FuncId):AV→Option (List Lf)
 | .fn f' ls=>if f'=f then some ls else none
 | _=>none
def A6h:AV→Option Lf
 | .vl (.lf l)=>some l
 | _=>none
def A43:AV→Option Unit
 | .dead=>some ()
 | _=>none
def A01:(p:Pv)→AV→Option (PvD p X)
 | .dead,v=>(A43 v).bind fun _=>k
 | .lf p,v=>(A6h v).bind fun l=>Ov k [p] [l]
 | .ag ps,v=>(A6g v).bind fun ls=>Ov k ps ls
 | .fn f ps,v=>(A5v f v).bind fun ls=>Ov k ps ls
def A39 (T:TypeId):Res→Option (List Lf)
 | .box T' ls=>if T'=T then some ls else none
 | _=>none
def Ath (e:TypeId) (t:Ty):Res→Option (List t.D)
 | .row e' t' xs=>if e'=e then (if h:t'=t then some (h ▸ xs) else none) else none
 | _=>none
def A02 (e:TypeId) (t:Ty) (j:Nat):Res→Option (List (List t.D)×Bool)
 | .last e' t' xs c j'=>if e'=e then (if j'=j then (if h:t'=t then some (h ▸ xs,c) else none) else none) else none
 | _=>none
def A4a (t:Ty):Res→Option (List (ByteArray×t.D))
 | .map t' xs=>if h:t'=t then some (h ▸ xs) else none
 | _=>none
def A03 (t:Ty):Res→Option (List (ByteArray×t.D)×List (ByteArray×t.D)×Option (ByteArray×t.D))
 | .iter t' xs seen cur=>if h:t'=t then some (h ▸ xs,h ▸ seen,h ▸ cur) else none
 | _=>none
def A20:Res→Option Unit
 | .dead=>some ()
 | _=>none
def Ayz:Res→Option Unit
 | .unborn=>some ()
 | _=>none
def A4b:(p:Pr)→Res→Option (PrD p X)
 | .dead,v=>(A20 v).bind fun _=>k
 | .unborn,v=>(Ayz v).bind fun _=>k
 | .box T ps,v=>(A39 T v).bind fun ls=>Ov k ps ls
 | .row e t,v=>(Ath e t v).bind fun xs=>k.bind fun x=>some (xs,x)
 | .last e t j,v=>(A02 e t j v).bind fun xs=>k.bind fun x=>some (xs.1,xs.2,x)
 | .map t,v=>(A4a t v).bind fun xs=>k.bind fun x=>some (xs,x)
 | .iter t,v=>(A03 t v).bind fun xs=>k.bind fun x=>some (xs.1,xs.2.1,xs.2.2,x)
end
def A5w {X:Type} (k:Option X) {α:Type}:List α→Option X
 | []=>k
 | _::_=>none
def A44 {α:Type}:List α→Option (α×List α)
 | []=>none
 | a::r=>some (a,r)
def Ati {X:Type} (k:Option X):(l:List (Nat×Pv))→List (Nat×AV)→Option (CsD l X)
 | [],cs=>A5w k cs
 | p::r,cs=>(A44 cs).bind fun q=>if q.1.1=p.1 then A01 (Ati k r q.2) p.2 q.1.2 else none
def Axj {X:Type} (k:Option X):(l:List Pr)→List Res→Option (RsD l X)
 | [],rs=>A5w k rs
 | p::r,rs=>(A44 rs).bind fun q=>A4b (Axj k r q.2) p q.1
theorem Un {α β:Type} {a a':α} {b b':β} (h1:a=a') (h2:b=b'):(a,b)=(a',b'):=by rw [h1,h2]
theorem Avt:∀ {t:Ty} {l:Lf} {x:t.D},Avr t l=some x→t.leafs x=[l]:=by
 intro t l x h
 unfold Avr at h
 split at h
 ·split at h<;>cases h
  rename_i hk
  subst hk
  rfl
 ·cases h; rfl
 ·cases h; rfl
 ·split at h<;>cases h
  rename_i hk
  subst hk
  rfl
 ·cases h
theorem Arb:∀ {t:Ty} {ls:List Lf} {x:t.D} {r:List Lf},Um t ls=some (x,r)→ls=t.leafs x++r:=by
 have one:∀ {t:Ty} {l:Lf} {r0 r:List Lf} {x:t.D},((Avr t l).bind fun x=>some (x,r0))=some (x,r)→l::r0=t.leafs x++r:=by
  intro t l r0 r x h
  obtain ⟨y,h1,h2⟩:=Option.bind_eq_some_iff.1 h
  cases h2
  rw [Avt h1]
  rfl
 intro t
 induction t with
 | unit=>intro ls x r h; simp only [Um] at h; cases h; rfl
 | pair a b iha ihb=>
  intro ls x r h
  simp only [Um] at h
  obtain ⟨p,h1,h2⟩:=Option.bind_eq_some_iff.1 h
  obtain ⟨q,h3,h4⟩:=Option.bind_eq_some_iff.1 h2
  cases h4
  have e1:=iha (x:=p.1) (r:=p.2) h1
  have e2:=ihb (x:=q.1) (r:=q.2) h3
  rw [e1,e2,← List.append_assoc]
  rfl
 | int k=>intro ls x r h; cases ls with
  | nil=>simp [Um] at h
  | cons l ls=>exact one h
 | bool=>intro ls x r h; cases ls with
  | nil=>simp [Um] at h
  | cons l ls=>exact one h
 | str=>intro ls x r h; cases ls with
  | nil=>simp [Um] at h
  | cons l ls=>exact one h
 | sl t _=>intro ls x r h; cases ls with
  | nil=>simp [Um] at h
  | cons l ls=>exact one h
theorem Avu {id:Nat} {ls r:List Lf} (h:Aq9 id ls=some r):ls=.row id::r:=by
 unfold Aq9 at h
 split at h
 ·split at h<;>cases h
  rename_i hj
  rw [hj]
 ·cases h
theorem Ay0 {id:Nat} {ls r:List Lf} (h:Avs id ls=some r):ls=.sp id::r:=by
 unfold Avs at h
 split at h
 ·split at h<;>cases h
  rename_i hj
  rw [hj]
 ·cases h
theorem Avv {id off:Nat} {ls r:List Lf} (h:Ara id off ls=some r):ls=.ptr id off::r:=by
 unfold Ara at h
 split at h
 ·split at h
  ·rename_i hj
   split at h<;>cases h
   rename_i ho
   rw [hj,ho]
  ·cases h
 ·cases h
section
variable {X:Type} {k:Option X}
theorem Kv:∀ {ps:List Pe} {ls:List Lf} {d:Ak4 ps X},Ov k ps ls=some d→∃ x,k=some x∧Bp ps d=(ls,x)
 | [],ls,d,h=>by
  cases ls with
  | nil=>exact ⟨d,h,rfl⟩
  | cons l ls=>cases h
 | .d t::r,ls,d,h=>by
  simp only [Ov] at h
  obtain ⟨p,h1,h2⟩:=Option.bind_eq_some_iff.1 h
  obtain ⟨q,h3,h4⟩:=Option.bind_eq_some_iff.1 h2
  cases h4
  obtain ⟨x,e1,e2⟩:=Kv h3
  refine ⟨x,e1,?_⟩
  show (t.leafs p.1++(Bp r q).1,(Bp r q).2)=_
  rw [e2,Arb (x:=p.1) (r:=p.2) h1]
 | .row id::r,ls,d,h=>by
  simp only [Ov] at h
  obtain ⟨ls',h1,h2⟩:=Option.bind_eq_some_iff.1 h
  obtain ⟨x,e1,e2⟩:=Kv (ps:=r) (d:=d) h2
  refine ⟨x,e1,?_⟩
  show (Lf.row id::(Bp r d).1,(Bp r d).2)=_
  have e2':Bp r (X:=X) d=(ls',x):=e2
  rw [Avu h1]
  have a1:(Bp r (X:=X) d).1=ls':=congrArg Prod.fst e2'
  have a2:(Bp r (X:=X) d).2=x:=congrArg Prod.snd e2'
  exact Un (congrArg (List.cons (Lf.row id)) a1) a2
 | .ptr id off::r,ls,d,h=>by
  simp only [Ov] at h
  obtain ⟨ls',h1,h2⟩:=Option.bind_eq_some_iff.1 h
  obtain ⟨x,e1,e2⟩:=Kv (ps:=r) (d:=d) h2
  refine ⟨x,e1,?_⟩
  show (Lf.ptr id off::(Bp r d).1,(Bp r d).2)=_
  have e2':Bp r (X:=X) d=(ls',x):=e2
  rw [Avv h1]
  have a1:(Bp r (X:=X) d).1=ls':=congrArg Prod.fst e2'
  have a2:(Bp r (X:=X) d).2=x:=congrArg Prod.snd e2'
  exact Un (congrArg (List.cons (Lf.ptr id off)) a1) a2
 | .sp id::r,ls,d,h=>by
  simp only [Ov] at h
  obtain ⟨ls',h1,h2⟩:=Option.bind_eq_some_iff.1 h
  obtain ⟨x,e1,e2⟩:=Kv (ps:=r) (d:=d) h2
  refine ⟨x,e1,?_⟩
  show (Lf.sp id::(Bp r d).1,(Bp r d).2)=_
  have e2':Bp r (X:=X) d=(ls',x):=e2
  rw [Ay0 h1]
  have a1:(Bp r (X:=X) d).1=ls':=congrArg Prod.fst e2'
  have a2:(Bp r (X:=X) d).2=x:=congrArg Prod.snd e2'
  exact Un (congrArg (List.cons (Lf.sp id)) a1) a2
theorem Ay1 {p:Pv} {v:AV} {d:PvD p X} (h:A01 k p v=some d):∃ x,k=some x∧Tj p d=(v,x):=by
 cases p with
 | dead=>
  obtain ⟨u,h1,h2⟩:=Option.bind_eq_some_iff.1 h
  cases v<;>first | (cases h1; done) | skip
  exact ⟨d,h2,rfl⟩
 | lf p=>
  obtain ⟨l,h1,h2⟩:=Option.bind_eq_some_iff.1 h
  have hv:v=.vl (.lf l):=by
   cases v with
   | vl w=>cases w with
    | lf l'=>cases h1; rfl
    | ag ls=>cases h1
   | dead=>cases h1
   | tp vs=>cases h1
   | fn f ls=>cases h1
  subst hv
  obtain ⟨x,e1,e2⟩:=Kv (ps:=[p]) (d:=d) h2
  refine ⟨x,e1,?_⟩
  show (A00 (Bp [p] d).1,(Bp [p] d).2)=_
  have e2':Bp [p] (X:=X) d=([l],x):=e2
  have a1:(Bp [p] (X:=X) d).1=[l]:=congrArg Prod.fst e2'
  have a2:(Bp [p] (X:=X) d).2=x:=congrArg Prod.snd e2'
  exact Un (congrArg A00 a1) a2
 | ag ps=>
  obtain ⟨l,h1,h2⟩:=Option.bind_eq_some_iff.1 h
  have hv:v=.vl (.ag l):=by
   cases v with
   | vl w=>cases w with
    | lf l'=>cases h1
    | ag ls=>cases h1; rfl
   | dead=>cases h1
   | tp vs=>cases h1
   | fn f ls=>cases h1
  subst hv
  obtain ⟨x,e1,e2⟩:=Kv (ps:=ps) (d:=d) h2
  refine ⟨x,e1,?_⟩
  show (AV.vl (.ag (Bp ps d).1),(Bp ps d).2)=_
  have e2':Bp ps (X:=X) d=(l,x):=e2
  have a1:(Bp ps (X:=X) d).1=l:=congrArg Prod.fst e2'
  have a2:(Bp ps (X:=X) d).2=x:=congrArg Prod.snd e2'
  exact Un (congrArg (fun l=>AV.vl (.ag l)) a1) a2
 | fn f ps=>
  obtain ⟨l,h1,h2⟩:=Option.bind_eq_some_iff.1 h
  have hv:v=.fn f l:=by
   cases v with
   | vl w=>cases h1
   | dead=>cases h1
   | tp vs=>cases h1
   | fn f' ls=>
    simp only [A5v] at h1
    split at h1<;>cases h1
    rename_i hf
    rw [hf]
  subst hv
  obtain ⟨x,e1,e2⟩:=Kv (ps:=ps) (d:=d) h2
  refine ⟨x,e1,?_⟩
  show (AV.fn f (Bp ps d).1,(Bp ps d).2)=_
  have e2':Bp ps (X:=X) d=(l,x):=e2
  have a1:(Bp ps (X:=X) d).1=l:=congrArg Prod.fst e2'
  have a2:(Bp ps (X:=X) d).2=x:=congrArg Prod.snd e2'
  exact Un (congrArg (fun l=>AV.fn f l) a1) a2
theorem Ay2 {p:Pr} {v:Res} {d:PrD p X} (h:A4b k p v=some d):∃ x,k=some x∧Va p d=(v,x):=by
 cases p with
 | dead=>
  obtain ⟨u,h1,h2⟩:=Option.bind_eq_some_iff.1 h
  cases v<;>first | (cases h1; done) | skip
  exact ⟨d,h2,rfl⟩
 | unborn=>
  obtain ⟨u,h1,h2⟩:=Option.bind_eq_some_iff.1 h
  cases v<;>first | (cases h1; done) | skip
  exact ⟨d,h2,rfl⟩
 | box T ps=>
  obtain ⟨ls,h1,h2⟩:=Option.bind_eq_some_iff.1 h
  have hv:v=.box T ls:=by
   unfold A39 at h1
   split at h1
   ·split at h1<;>cases h1
    rename_i hT
    rw [hT]
   ·cases h1
  subst hv
  obtain ⟨x,e1,e2⟩:=Kv (ps:=ps) (d:=d) h2
  refine ⟨x,e1,?_⟩
  show (Res.box T (Bp ps d).1,(Bp ps d).2)=_
  have e2':Bp ps (X:=X) d=(ls,x):=e2
  have a1:(Bp ps (X:=X) d).1=ls:=congrArg Prod.fst e2'
  have a2:(Bp ps (X:=X) d).2=x:=congrArg Prod.snd e2'
  exact Un (congrArg (Res.box T) a1) a2
 | row e t=>
  obtain ⟨xs,h1,h2⟩:=Option.bind_eq_some_iff.1 h
  obtain ⟨x,h3,h4⟩:=Option.bind_eq_some_iff.1 h2
  have hv:v=.row e t xs:=by
   unfold Ath at h1
   split at h1
   ·split at h1
    ·rename_i he
     split at h1<;>cases h1
     rename_i ht
     subst he ht
     rfl
    ·cases h1
   ·cases h1
  subst hv
  have hd:d=(xs,x):=(Option.some.inj h4).symm
  subst hd
  exact ⟨x,h3,rfl⟩
 | last e t j=>
  obtain ⟨xs,h1,h2⟩:=Option.bind_eq_some_iff.1 h
  obtain ⟨x,h3,h4⟩:=Option.bind_eq_some_iff.1 h2
  have hv:v=.last e t xs.1 xs.2 j:=by
   unfold A02 at h1
   split at h1
   ·split at h1
    ·rename_i he
     split at h1
     ·rename_i hj
      split at h1<;>cases h1
      rename_i ht
      subst he ht hj
      rfl
     ·cases h1
    ·cases h1
   ·cases h1
  subst hv
  have hd:d=(xs.1,xs.2,x):=(Option.some.inj h4).symm
  subst hd
  exact ⟨x,h3,rfl⟩
 | map t=>
  obtain ⟨xs,h1,h2⟩:=Option.bind_eq_some_iff.1 h
  obtain ⟨x,h3,h4⟩:=Option.bind_eq_some_iff.1 h2
  have hv:v=.map t xs:=by
   unfold A4a at h1
   split at h1
   ·split at h1<;>cases h1
    rename_i ht
    subst ht
    rfl
   ·cases h1
  subst hv
  have hd:d=(xs,x):=(Option.some.inj h4).symm
  subst hd
  exact ⟨x,h3,rfl⟩
 | iter t=>
  obtain ⟨xs,h1,h2⟩:=Option.bind_eq_some_iff.1 h
  obtain ⟨x,h3,h4⟩:=Option.bind_eq_some_iff.1 h2
  have hv:v=.iter t xs.1 xs.2.1 xs.2.2:=by
   unfold A03 at h1
   split at h1
   ·split at h1<;>cases h1
    rename_i ht
    subst ht
    rfl
   ·cases h1
  subst hv
  have hd:d=(xs.1,xs.2.1,xs.2.2,x):=(Option.some.inj h4).symm
  subst hd
  exact ⟨x,h3,rfl⟩
end
theorem Axk {α:Type} {l:List α} {q:α×List α} (h:A44 l=some q):l=q.1::q.2:=by
 cases l with
 | nil=>cases h
 | cons a r=>cases h; rfl
theorem Aph {X:Type} {k:Option X}:∀ {l:List (Nat×Pv)} {cs:List (Nat×AV)} {d:CsD l X},Ati k l cs=some d→∃ x,k=some x∧Tk l d=(cs,x)
 | [],cs,d,h=>by
  cases cs with
  | nil=>exact ⟨d,h,rfl⟩
  | cons l ls=>cases h
 | p::r,cs,d,h=>by
  simp only [Ati] at h
  obtain ⟨q,h1,h2⟩:=Option.bind_eq_some_iff.1 h
  rw [Axk h1]
  have h2:(if q.1.1=p.1 then A01 (Ati k r q.2) p.2 q.1.2 else none:Option (PvD p.2 (CsD r X)))=some d:=h2
  split at h2
  ·rename_i hi
   obtain ⟨y,e1,e2⟩:=Ay1 (d:=d) h2
   obtain ⟨x,e3,e4⟩:=Aph e1
   refine ⟨x,e3,?_⟩
   show ((p.1,(Tj p.2 d).1)::(Tk r (Tj p.2 d).2).1,(Tk r (Tj p.2 d).2).2)=_
   have e2':Tj p.2 (X:=CsD r X) d=(q.1.2,y):=e2
   have a1:(Tj p.2 (X:=CsD r X) d).1=q.1.2:=congrArg Prod.fst e2'
   have a2:(Tj p.2 (X:=CsD r X) d).2=y:=congrArg Prod.snd e2'
   have a3:Tk r (Tj p.2 (X:=CsD r X) d).2=(q.2,x):=(congrArg (Tk r) a2).trans e4
   have a4:(Tk r (Tj p.2 (X:=CsD r X) d).2).1=q.2:=congrArg Prod.fst a3
   have a5:(Tk r (Tj p.2 (X:=CsD r X) d).2).2=x:=congrArg Prod.snd a3
   have a6:(p.1,(Tj p.2 (X:=CsD r X) d).1)=q.1:=(Un hi.symm a1).trans rfl
   exact Un (congr (congrArg List.cons a6) a4) a5
  ·cases h2
theorem Api {X:Type} {k:Option X}:∀ {l:List Pr} {rs:List Res} {d:RsD l X},Axj k l rs=some d→∃ x,k=some x∧Xj l d=(rs,x)
 | [],rs,d,h=>by
  cases rs with
  | nil=>exact ⟨d,h,rfl⟩
  | cons l ls=>cases h
 | p::r,rs,d,h=>by
  simp only [Axj] at h
  obtain ⟨q,h1,h2⟩:=Option.bind_eq_some_iff.1 h
  rw [Axk h1]
  obtain ⟨y,e1,e2⟩:=Ay2 (d:=d) h2
  obtain ⟨x,e3,e4⟩:=Api e1
  refine ⟨x,e3,?_⟩
  show ((Va p d).1::(Xj r (Va p d).2).1,(Xj r (Va p d).2).2)=_
  have e2':Va p (X:=RsD r X) d=(q.1,y):=e2
  have a1:(Va p (X:=RsD r X) d).1=q.1:=congrArg Prod.fst e2'
  have a2:(Va p (X:=RsD r X) d).2=y:=congrArg Prod.snd e2'
  have a3:Xj r (Va p (X:=RsD r X) d).2=(q.2,x):=(congrArg (Xj r) a2).trans e4
  have a4:(Xj r (Va p (X:=RsD r X) d).2).1=q.2:=congrArg Prod.fst a3
  have a5:(Xj r (Va p (X:=RsD r X) d).2).2=x:=congrArg Prod.snd a3
  exact Un (congr (congrArg List.cons a1) a4) a5
def Axl:Lf→Bool
 | .c (.slice none 0 0)=>true
 | _=>false
def Apj (v:Vl) (i:Nat) (l:Lf):Vl:=match v with
 | .lf l0=>if i=0 then .lf l else .lf l0
 | .ag ls=>.ag (ls.set i l)
def Apk (ls:List Lf) (i:Nat):Bool:=match ls[i]? with
 | some l=>Axl l
 | none=>false
def A04 (id:Nat) (ls:List Lf) (i:Nat):Bool:=match ls[i]? with
 | some (.c (.pointer none))=>true
 | some (.ptr j 0)=>Nat.beq j id
 | _=>false
def A5x (t:Ty) (tt:Ty) (xs:List tt.D):Option (List (List t.D)):=if h:tt=.sl t then some (show List (Ty.sl t).D from h ▸ xs) else none
def Atj (s:St) (nid:Nat):Fx→Option (St×Nat)
 | .sl slot i t=>match s.cell slot with
  | .vl v=>if Apk v.ls i then some (s.setCell slot (.vl (Apj v i (.sl t []))),nid) else some (s.frz (v.ls[i]?).toList,nid)
  | _=>some (s,nid)
 | .row slot i e t=>match s.cell slot with
  | .vl v=>if Apk v.ls i then (match s.res nid with
   | .unborn=>some ((s.setRes nid (.row e t [])).setCell slot (.vl (Apj v i (.row nid))),nid + 1)
   | _=>none) else some (s,nid)
  | _=>some (s,nid)
 | .boxSl slot i t=>match s.cell slot with
  | .vl (.lf (.ptr id 0))=>match s.res id with
   | .box T ls=>if Apk ls i then some (s.setRes id (.box T (ls.set i (.sl t []))),nid) else some (s.frz (ls[i]?).toList,nid)
   | _=>some (s,nid)
  | _=>some (s,nid)
 | .boxRow slot i e t=>match s.cell slot with
  | .vl (.lf (.ptr id 0))=>match s.res id with
   | .box T ls=>if Apk ls i then (match s.res nid with
    | .unborn=>some ((s.setRes nid (.row e t [])).setRes id (.box T (ls.set i (.row nid))),nid + 1)
    | _=>none) else some (s,nid)
   | _=>some (s,nid)
  | _=>some (s,nid)
 | .self slot i=>match s.cell slot with
  | .vl (.lf (.ptr id 0))=>match s.res id with
   | .box T ls=>if A04 id ls i then some (s.setRes id (.box T (ls.set i (.sp id))),nid) else some (s,nid)
   | _=>some (s,nid)
  | _=>some (s,nid)
 | .last slot e1 t=>match s.cell slot with
  | .vl (.lf (.row id))=>match s.res id with
   | .row e tt xs=>match A5x t tt xs,s.res nid,s.res (nid + 1) with
    | some ys,.unborn,.unborn=>some (((Fe (s.setRes (nid + 1) (.row e1 t [])) (some id)).setRes nid (.last e t ys false (nid + 1))).setCell slot (.vl (.lf (.row nid))),nid + 2)
    | _,_,_=>none
   | _=>some (s,nid)
  | _=>some (s,nid)
def Axm (s:St) (nid:Nat):List Fx→Option (St×Nat)
 | []=>some (s,nid)
 | f::r=>(Atj s nid f).bind fun p=>Axm p.1 p.2 r
def Ajo:List (Nat×Pv)→List Nat
 | []=>[]
 | p::r=>p.1::Ajo r
def A05 (np:Nat) (live:List Nat) (s:St):Option (List (Nat×AV)×List Res):=
 let us:=Ajm s np live
 if Rb us&&j4 0 np us then some (Aq8 s us live,Anv s us us) else none
def Pat.mtch (np:Nat) (p:Pat) (s:St) (nid:Nat):Option p.D:=
 (Axm s nid p.fx).bind fun q=>(A05 np (Ajo p.cs) q.1).bind fun l=>Ati (Axj (some ()) p.rs l.2) p.cs l.1
section
variable {P:Program} {n B:Nat} {Iq:List Nat} {s:St} {g:Gh} {a:Act} {w:World}
theorem j5 {ls:List Lf} {i:Nat} (h:Apk ls i=true):ls[i]?=some (.c (.slice none 0 0)):=by
 unfold Apk at h
 split at h
 ·rename_i l hl
  unfold Axl at h
  split at h
  ·exact hl
  ·cases h
 ·cases h
theorem Axn {s':St} {g':Gh} {v:Vl} {i:Nat} {l:Lf} {u:Value} (hv:VlR s' g' w v u) (hn:v.ls[i]?=some (.c (.slice none 0 0))) (hl:Dq s' g' w l (.slice none 0 0)):VlR s' g' w (Apj v i l) u:=by
 cases v with
 | lf l0=>
  unfold Apj
  simp only
  split
  ·rename_i hi
   subst hi
   simp [Vl.ls] at hn
   subst hn
   obtain ⟨h1,h2⟩:=hv
   have h1':u=.slice none 0 0:=h1
   subst h1'
   exact ⟨hl,rfl⟩
  ·exact hv
 | ag ls=>
  obtain ⟨cs,e1,e2⟩:=hv
  obtain ⟨v0,q1,q2,q3⟩:=e2.get hn
  have q2':v0=.slice none 0 0:=q2
  subst q2'
  refine ⟨cs,e1,?_⟩
  have hset:cs.toList.set i (.slice none 0 0)=cs.toList:=by
   apply List.ext_getElem?
   intro j
   by_cases q:i=j
   ·subst q
    rw [List.getElem?_set_self (List.getElem?_eq_some_iff.1 q1).1,q1]
   ·rw [List.getElem?_set_ne q]
  have:=e2.set (j:=i) (v:=.slice none 0 0) hl rfl
  rw [hset] at this
  exact this
theorem Apl (s:St) (g:Gh) (w:World) (t:Ty):Dq s g w (.sl t []) (.slice none 0 0):=⟨none,0,rfl,Nat.le_refl _,fun i x hx=>by simp [nth] at hx⟩
theorem Ak5 (h:B8 n B Iq s g a w) {slot:Nat} {av:AV} (hv:Uk s g w av (a.tmps.getD slot undef)):B8 n B Iq (s.setCell slot av) g a w∧Go B Iq s g w (s.setCell slot av) g w:=by
 have hS:∀ b,Eu s g b→b < w.heap.size→Eu (s.setCell slot av) g b∧w.heap[b]?=w.heap[b]?:=fun b hb _=>⟨hb,rfl⟩
 have hI:∀ id,A4 s g (s.setCell slot av) g id:=fun id=>A4.same rfl rfl rfl
 refine ⟨h.step h.size h.defers (Nat.le_refl _) hS hI (fun i=>?_) (fun id=>.inl ⟨rfl,rfl,rfl,fun _ _=>rfl⟩) h.inj h.lt rfl,⟨Kp.refl B Iq w,hS,hI,rfl⟩⟩
 by_cases q:i=slot
 ·subst q
  right
  have:(s.setCell i av).cell i=av:=by simp [St.setCell]
  rw [this]
  exact Uk.step hS hI hv
 ·exact .inl ⟨by simp [St.setCell,A1 _ _ q],rfl⟩
theorem Aao (h:B8 n B Iq s g a w) {nid:Nat} (hf:s.res nid=.unborn) (e:TypeId) (t:Ty):
  ∃ g',Go B Iq s g w (s.setRes nid (.row e t [])) g' w∧B8 n B Iq (s.setRes nid (.row e t [])) g' a w∧Dq (s.setRes nid (.row e t [])) g' w (.row nid) (.slice none 0 0):=by
 have hS:∀ b,Eu s g b→b < w.heap.size→Eu (s.setRes nid (.row e t [])) ⟨S9 g.blk nid none,S9 g.hdr nid (.slice none 0 0),g.av⟩ b∧w.heap[b]?=w.heap[b]?:=by
  intro b hb _
  refine ⟨⟨hb.1,fun j hj hk=>?_⟩,rfl⟩
  by_cases q:j=nid
  ·subst q; simp at hk
  ·rw [Aq s _ q] at hj
   simp only [A1 _ _ q] at hk
   exact hb.2 j hj hk
 have hI:∀ j,A4 s g (s.setRes nid (.row e t [])) ⟨S9 g.blk nid none,S9 g.hdr nid (.slice none 0 0),g.av⟩ j:=by
  intro j
  by_cases q:j=nid
  ·subst q
   unfold A4
   rw [hf]
   exact .inr trivial
  ·exact A4.same (Aq s _ q) (by simp [A1 _ _ q]) (by simp [A1 _ _ q])
 refine ⟨_,⟨Kp.refl B Iq w,hS,hI,rfl⟩,h.step h.size h.defers (Nat.le_refl _) hS hI (fun i=>.inl ⟨rfl,rfl⟩) (fun j=>?_) (fun i j b hi hj=>?_) (fun i b hi=>?_) rfl,?_⟩
 ·by_cases q:j=nid
  ·subst q
   right
   rw [Ao]
   refine ⟨[],⟨by simp,.inl ⟨by simp,rfl⟩⟩,Aka _ _,by simp [Value.ownBlock]⟩
  ·left
   exact ⟨Aq s _ q,by simp [A1 _ _ q],by simp [A1 _ _ q],fun _ _=>rfl⟩
 ·by_cases q1:i=nid
  ·simp [q1] at hi
  ·by_cases q2:j=nid
   ·simp [q2] at hj
   ·simp only [A1 _ _ q1] at hi
    simp only [A1 _ _ q2] at hj
    exact h.inj i j b hi hj
 ·by_cases q1:i=nid
  ·simp [q1] at hi
  ·simp only [A1 _ _ q1] at hi
   exact h.lt i b hi
 ·simp only [Dq,Ao,A9]
theorem Y8 (h:B8 n B Iq s g a w) {id:Nat} {T:TypeId} {ls:List Lf} {i:Nat} {l0 l:Lf} (hr:s.res id=.box T ls) (hn:ls[i]?=some l0) (hl:∀ u,Dq s g w l0 u→Dq s g w l u):
  B8 n B Iq (s.setRes id (.box T (ls.set i l))) g a w∧Go B Iq s g w (s.setRes id (.box T (ls.set i l))) g w:=by
 have hS:∀ b,Eu s g b→b < w.heap.size→Eu (s.setRes id (.box T (ls.set i l))) g b∧w.heap[b]?=w.heap[b]?:=by
  intro b hb _
  refine ⟨⟨hb.1,fun j hj hk=>?_⟩,rfl⟩
  by_cases q:j=id
  ·subst q
   exact hb.2 j (by rw [hr]; rfl) hk
  ·rw [Aq s _ q] at hj
   exact hb.2 j hj hk
 have hI:∀ j,A4 s g (s.setRes id (.box T (ls.set i l))) g j:=by
  intro j
  by_cases q:j=id
  ·subst q
   unfold A4
   rw [hr,Ao]
   exact .inr ⟨_,_,rfl,rfl⟩
  ·exact A4.same (Aq s _ q) rfl rfl
 refine ⟨h.step h.size h.defers (Nat.le_refl _) hS hI (fun i=>.inl ⟨rfl,rfl⟩) (fun j=>?_) h.inj h.lt rfl,⟨Kp.refl B Iq w,hS,hI,rfl⟩⟩
 by_cases q:j=id
 ·subst q
  right
  rw [Ao]
  have r:=h.res j
  rw [hr] at r
  obtain ⟨b,cs,h1,h2,h3⟩:=r
  refine ⟨b,cs,h1,h2,G7.step hS hI ?_⟩
  obtain ⟨v0,q1,q2,q3⟩:=h3.get hn
  have hset:cs.toList.set i v0=cs.toList:=by
   apply List.ext_getElem?
   intro k
   by_cases q:i=k
   ·subst q
    rw [List.getElem?_set_self (List.getElem?_eq_some_iff.1 q1).1,q1]
   ·rw [List.getElem?_set_ne q]
  have:=h3.set (j:=i) (v:=v0) (hl v0 q2) q3
  rw [hset] at this
  exact this
 ·exact .inl ⟨Aq s _ q,rfl,rfl,fun _ _=>rfl⟩
theorem Ak6 (h:B8 n B Iq s g a w) {id:Nat} {T:TypeId} {ls:List Lf} {i:Nat} {l:Lf} (hr:s.res id=.box T ls) (hn:ls[i]?=some (.c (.slice none 0 0))) (hl:Dq s g w l (.slice none 0 0)):
  B8 n B Iq (s.setRes id (.box T (ls.set i l))) g a w∧Go B Iq s g w (s.setRes id (.box T (ls.set i l))) g w:=
 Y8 h hr hn fun u hu=>by
  have hu:u=.slice none 0 0:=hu
  subst hu
  exact hl
theorem A21 (h:B8 n B Iq s g a w) {nid:Nat} {f:Fx} {s':St} {nid':Nat} (e:Atj s nid f=some (s',nid')):∃ g',B8 n B Iq s' g' a w∧Go B Iq s g w s' g' w:=by
 have fz:∀ ls,some (s.frz ls,nid)=some (s',nid')→∃ g',B8 n B Iq s' g' a w∧Go B Iq s g w s' g' w:=fun ls q=>by
  cases q
  obtain ⟨g',k1,k2,_⟩:=E9 (ls:=ls) h
  exact ⟨g',k1,k2⟩
 have stay:some (s,nid)=some (s',nid')→∃ g',B8 n B Iq s' g' a w∧Go B Iq s g w s' g' w:=fun q=>by cases q; exact ⟨g,h,Go.refl B Iq s g w⟩
 cases f with
 | sl slot i t=>
  simp only [Atj] at e
  split at e
  ·rename_i v hv
   split at e
   ·rename_i hn
    cases e
    have k:=h.cell slot
    rw [hv] at k
    exact ⟨g,Ak5 h (av:=.vl (Apj v i (.sl t []))) (Axn (w:=w) k (j5 hn) (Apl s g w t))⟩
   ·exact fz _ e
  ·exact stay e
 | row slot i e0 t=>
  simp only [Atj] at e
  split at e
  ·rename_i v hv
   split at e
   ·rename_i hn
    split at e
    ·rename_i hf
     cases e
     obtain ⟨g',k1,k2,k3⟩:=Aao h hf e0 t
     have k:=k2.cell slot
     have hc:(s.setRes nid (.row e0 t [])).cell slot=.vl v:=hv
     rw [hc] at k
     obtain ⟨r1,r2⟩:=Ak5 k2 (av:=.vl (Apj v i (.row nid))) (Axn (w:=w) k (j5 hn) k3)
     exact ⟨g',r1,k1.trans r2⟩
    ·cases e
   ·exact stay e
  ·exact stay e
 | boxSl slot i t=>
  simp only [Atj] at e
  split at e
  ·rename_i id hv
   split at e
   ·rename_i T ls hr
    split at e
    ·rename_i hn
     cases e
     exact ⟨g,Ak6 h hr (j5 hn) (Apl s g w t)⟩
    ·exact fz _ e
   ·exact stay e
  ·exact stay e
 | boxRow slot i e0 t=>
  simp only [Atj] at e
  split at e
  ·rename_i id hv
   split at e
   ·rename_i T ls hr
    split at e
    ·rename_i hn
     split at e
     ·rename_i hf
      cases e
      obtain ⟨g',k1,k2,k3⟩:=Aao h hf e0 t
      have hne:id≠nid:=by rintro rfl; rw [hf] at hr; cases hr
      have hr':(s.setRes nid (.row e0 t [])).res id=.box T ls:=by rw [Aq s _ hne]; exact hr
      obtain ⟨r1,r2⟩:=Ak6 k2 hr' (j5 hn) k3
      exact ⟨g',r1,k1.trans r2⟩
     ·cases e
    ·exact stay e
   ·exact stay e
  ·exact stay e
 | self slot i=>
  simp only [Atj] at e
  split at e
  ·rename_i id hv
   split at e
   ·rename_i T ls hr
    split at e
    ·rename_i hn
     cases e
     unfold A04 at hn
     split at hn
     ·rename_i hg
      refine ⟨g,Y8 h hr hg fun u hu=>?_⟩
      simp only [Dq] at hu ⊢
      rw [hr]
      exact .inl hu
     ·rename_i j hg
      have hj:=Nat.eq_of_beq_eq_true hn
      subst hj
      refine ⟨g,Y8 h hr hg fun u hu=>?_⟩
      simp only [Dq] at hu ⊢
      rw [hr] at hu ⊢
      exact .inr hu
     ·cases hn
    ·exact stay e
   ·exact stay e
  ·exact stay e
 | last slot e1 t=>
  simp only [Atj] at e
  split at e
  ·rename_i id hv
   split at e
   ·rename_i e0 tt xs hr
    split at e
    ·rename_i ys _ _ hys hf hf1
     cases e
     unfold A5x at hys
     split at hys<;>cases hys
     rename_i htt
     subst htt
     obtain ⟨g1,k1,k2,k3⟩:=Aao h hf1 e1 t
     have hid1:id≠nid + 1:=fun q=>by rw [q,hf1] at hr; cases hr
     have hid0:id≠nid:=fun q=>by rw [q,hf] at hr; cases hr
     have hr1:(s.setRes (nid + 1) (.row e1 t [])).res id=.row e0 (.sl t) xs:=(Aq s _ hid1).trans hr
     have hf0:(s.setRes (nid + 1) (.row e1 t [])).res nid=.unborn:=(Aq s _ (by omega)).trans hf
     have r:=k2.res id
     rw [hr1] at r
     obtain ⟨cs,q1,q2,q3⟩:=r
     have hc:=k2.cell slot
     have hv1:(s.setRes (nid + 1) (.row e1 t [])).cell slot=.vl (.lf (.row id)):=hv
     rw [hv1] at hc
     obtain ⟨hc1,hc2⟩:=hc
     simp only [Dq,hr1] at hc1
     have hcl:cs.length=List.length xs:=by simpa [Ty.sz] using q1.1
     obtain ⟨m1,m2,m3,m4⟩:=k2.growR (o:=some id) hf0 (v:=g1.hdr id) (v':=g1.hdr id) (w':=w) (r:=.last e0 t xs false (nid + 1)) (fun j q=>by
      cases q
      exact ⟨by rw [hr1]; rfl,rfl,q3⟩) (fun q=>by cases q) (World.grownBy.refl w _) (.inl rfl) (fun b hb=>(k2.lt id b (q3.trans hb)).1) (fun hS _=>by
      refine ⟨cs,?_,?_,?_,fun u hq=>by cases hq⟩
      ·have e1:(g1.mv (some id) nid (g1.hdr id)).hdr nid=g1.hdr id:=by simp [Gh.mv]
       rw [e1]
       exact q1
      ·have e2:cs.take (@List.length (List t.D) xs)=cs:=List.take_of_length_le (Nat.le_of_eq hcl)
       have e3:=q2.keep hS
       rw [← e2] at e3
       exact e3
      ·simp [Gh.mv])
     have hcell:Uk ((Fe (s.setRes (nid + 1) (.row e1 t [])) (some id)).setRes nid (.last e0 t xs false (nid + 1))) (g1.mv (some id) nid (g1.hdr id)) w (.vl (.lf (.row nid))) (a.tmps.getD slot undef):=by
      refine ⟨?_,hc2⟩
      simp only [Dq,Ao]
      rw [hc1]
      simp [Gh.mv]
     obtain ⟨c1,c2⟩:=Ak5 m3 (slot:=slot) hcell
     exact ⟨_,c1,k1.trans (Go.trans ⟨m4,m1,m2,rfl⟩ c2)⟩
    ·cases e
   ·exact stay e
  ·exact stay e
theorem Atk:∀ {fx:List Fx} {s:St} {g:Gh} {nid:Nat} {s':St} {nid':Nat},B8 n B Iq s g a w→Axm s nid fx=some (s',nid')→∃ g',B8 n B Iq s' g' a w∧Go B Iq s g w s' g' w
 | [],s,g,nid,s',nid',h,e=>by cases e; exact ⟨g,h,Go.refl B Iq s g w⟩
 | f::r,s,g,nid,s',nid',h,e=>by
  simp only [Axm] at e
  obtain ⟨p,e1,e2⟩:=Option.bind_eq_some_iff.1 e
  obtain ⟨g1,k1,k2⟩:=A21 h (s':=p.1) (nid':=p.2) e1
  obtain ⟨g2,k3,k4⟩:=Atk k1 e2
  exact ⟨g2,k3,k2.trans k4⟩
theorem A22 (h:B8 n B Iq s g a w) {np nid:Nat} {p:Pat} {d:p.D} (e:p.mtch np s nid=some d):
  ∃ s1 g1 g',Go B Iq s g w s1 g1 w∧B8 n B Iq (p.st d) g' a w∧g'.av=g1.av∧∀ id,id < np→((p.st d).res id=.unborn→s1.res id=.unborn)∧(∀ T ls,(p.st d).res id=.box T ls→(∃ T' ls',s1.res id=.box T' ls')∧g'.blk id=g1.blk id)∧(∀ e,∀ t:Ty,∀ xs:List t.D,(p.st d).res id=.row e t xs→(∃ e',∃ xs':List t.D,s1.res id=.row e' t xs')∧g'.blk id=g1.blk id∧g'.hdr id=g1.hdr id):=by
 unfold Pat.mtch at e
 obtain ⟨q,e1,e⟩:=Option.bind_eq_some_iff.1 e
 obtain ⟨l,e2,e⟩:=Option.bind_eq_some_iff.1 e
 obtain ⟨y,e3,e4⟩:=Aph e
 obtain ⟨z,e5,e6⟩:=Api e3
 obtain ⟨g1,k1,k2⟩:=Atk h (s':=q.1) (nid':=q.2) e1
 have hst:p.st d=Atg l.1 l.2:=by
  unfold Pat.st
  have e4':Tk p.cs (X:=RsD p.rs Unit) d=(l.1,y):=e4
  have a2:(Tk p.cs (X:=RsD p.rs Unit) d).2=y:=congrArg Prod.snd e4'
  have a3:Xj p.rs (Tk p.cs (X:=RsD p.rs Unit) d).2=(l.2,z):=(congrArg (Xj p.rs) a2).trans e6
  exact congr (congrArg Atg (congrArg Prod.fst e4')) (congrArg Prod.fst a3)
 have hc:canon np (Ajo p.cs) q.1=some (Atg l.1 l.2,(Ajm q.1 np (Ajo p.cs)).length):=by
  unfold A05 at e2
  unfold canon
  dsimp only at e2 ⊢
  split at e2
  ·rename_i hq
   rw [if_pos hq]
   cases e2
   rfl
  ·cases e2
 obtain ⟨g',r1,r2,r3⟩:=A0z k1 hc
 rw [hst]
 exact ⟨q.1,g1,g',k2,r1,r2,r3⟩
end
end Go.Proofs.YtfkefgbihlfjmaaGreat.R

