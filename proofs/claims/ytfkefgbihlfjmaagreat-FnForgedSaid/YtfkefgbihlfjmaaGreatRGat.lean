/- What a state hands over at a call, and what it is behind it. No condition. -/
import Derived.Test.YtfkefgbihlfjmaaGreatRHand
namespace Go.Proofs.YtfkefgbihlfjmaaGreat.R
open Go Go.RowKit
set_option linter.unusedVariables false
set_option linter.unusedSimpArgs false
def Of (s:St):(ms:List Md)→List Lf→Option (Tf ms×List (Option Nat))
 | [],[]=>some ((),[])
 | [],_::_=>none
 | .rd t::ms,ls=>(s.parse t ls).bind fun p=>(Of s ms p.2).bind fun q=>some ((p.1,q.1),q.2)
 | .own e t::ms,l::ls=>(U1 s ⟨e,t,[],0⟩ l).bind fun p=>(Of s ms ls).bind fun q=>some ((p.2,q.1),p.1::q.2)
 | .own _ _::_,[]=>none
 | .bx T t::ms,.ptr id off::ls=>match s.res id with
  | .box T' bl=>if T'=T then (if off=0 then (match s.parse t bl with
   | some (x,[])=>(Of s ms ls).bind fun q=>some ((x,q.1),some id::q.2)
   | _=>none) else none) else none
  | _=>none
 | .bx _ _::_,_=>none
 | .mu e t::ms,l::ls=>(U1 s ⟨e,t,[],0⟩ l).bind fun p=>(Of s ms ls).bind fun q=>some ((p.2,q.1),p.1::q.2)
 | .mu _ _::_,[]=>none
def Kh (s:St):List Md→List Lf→List Lf
 | [],_=>[]
 | .rd t::ms,ls=>ls.take t.sz++Kh s ms (ls.drop t.sz)
 | .own _ _::ms,ls=>Kh s ms ls.tail
 | .bx _ _::ms,ls=>(match ls.head? with
  | some (.ptr id _)=>match s.res id with
   | .box _ bl=>bl
   | _=>[]
  | _=>[])++Kh s ms ls.tail
 | .mu _ _::ms,ls=>Kh s ms ls.tail
def Bh:List (Option Nat)→List Nat
 | []=>[]
 | some i::r=>i::Bh r
 | none::r=>Bh r
def Rb:List Nat→Bool
 | []=>true
 | i::r=>!(r.contains i)&&Rb r
theorem Ace:∀ {l:List Nat},Rb l=true→l.Nodup
 | [],_=>List.nodup_nil
 | i::r,h=>by
  simp only [Rb,Bool.and_eq_true,Bool.not_eq_true',List.contains_eq_mem,decide_eq_false_iff_not] at h
  exact List.nodup_cons.2 ⟨h.1,Ace h.2⟩
def n9 (g:Gh):List (Option Nat)→List Nat
 | []=>[]
 | o::r=>(o.bind g.blk).toList++n9 g r
theorem Qw {g:Gh}:∀ {ow:List (Option Nat)} {b:Nat},b∈n9 g ow↔∃ id,id∈Bh ow∧g.blk id=some b
 | [],b=>by simp [n9,Bh]
 | none::r,b=>by simp [n9,Bh,Qw (ow:=r)]
 | some i::r,b=>by
  simp only [n9,Bh,List.mem_append,Qw (ow:=r),List.mem_cons,Option.bind_some,Option.mem_toList]
  constructor
  ·rintro (h | ⟨id,h1,h2⟩)
   ·exact ⟨i,.inl rfl,h⟩
   ·exact ⟨id,.inr h1,h2⟩
  ·rintro ⟨id,rfl | h1,h2⟩
   ·exact .inl h2
   ·exact .inr ⟨id,h1,h2⟩
theorem g9 {g:Gh} (hi:∀ id id' b,g.blk id=some b→g.blk id'=some b→id=id'):∀ {ow:List (Option Nat)},(Bh ow).Nodup→(n9 g ow).Nodup
 | [],_=>by simp [n9]
 | none::r,h=>by simpa [n9] using g9 hi (ow:=r) h
 | some i::r,h=>by
  simp only [Bh,List.nodup_cons] at h
  simp only [n9,Option.bind_some]
  refine List.nodup_append.2 ⟨by cases g.blk i<;>simp,g9 hi h.2,fun b hb c hc=>?_⟩
  rintro rfl
  simp only [Option.mem_toList] at hb
  obtain ⟨id,h1,h2⟩:=Qw.1 hc
  exact h.1 (by rw [hi i id b hb h2]; exact h1)
theorem St.parse_drop {s:St}:∀ {t:Ty} {ls:List Lf} {x:t.D} {r:List Lf},s.parse t ls=some (x,r)→r=ls.drop t.sz:=by
 intro t
 induction t with
 | unit=>intro ls x r h; simp only [St.parse] at h; cases h; rfl
 | pair a b iha ihb=>
  intro ls x r h
  simp only [St.parse] at h
  obtain ⟨p,h1,h2⟩:=Option.bind_eq_some_iff.1 h
  obtain ⟨q,h3,h4⟩:=Option.bind_eq_some_iff.1 h2
  cases h4
  rw [ihb (x:=q.1) (r:=q.2) h3,iha (x:=p.1) (r:=p.2) h1,List.drop_drop]
  rfl
 | int k=>intro ls x r h; cases ls<;>simp only [St.parse] at h<;>first | (cases h; done) | (obtain ⟨y,h1,h2⟩:=Option.bind_eq_some_iff.1 h; cases h2; rfl)
 | bool=>intro ls x r h; cases ls<;>simp only [St.parse] at h<;>first | (cases h; done) | (obtain ⟨y,h1,h2⟩:=Option.bind_eq_some_iff.1 h; cases h2; rfl)
 | str=>intro ls x r h; cases ls<;>simp only [St.parse] at h<;>first | (cases h; done) | (obtain ⟨y,h1,h2⟩:=Option.bind_eq_some_iff.1 h; cases h2; rfl)
 | sl t _=>intro ls x r h; cases ls<;>simp only [St.parse] at h<;>first | (cases h; done) | (obtain ⟨y,h1,h2⟩:=Option.bind_eq_some_iff.1 h; cases h2; rfl)
section
variable {P:Program} {n B:Nat} {Iq:List Nat} {s:St} {g:Gh} {a:Act} {w:World}
theorem G7.split (k:Nat) {ls:List Lf} {cs:List Value} (h:G7 s g w ls cs):G7 s g w (ls.drop k) (cs.drop k):=h.drop k
theorem Aka (S:Nat→Prop) (t:Ty):H8 w S t ([]:List t.D) []:=⟨by simp,fun i x hx=>by simp at hx⟩
theorem Y0 (hres:∀ id,K8 s g w id (s.res id)) {e:TypeId} {t:Ty} {l:Lf} {p:Option Nat×List t.D} {u:Value} (h:U1 s ⟨e,t,[],0⟩ l=some p) (hl:Dq s g w l u):
  A2j w (Eu s g) e t p.2 u∧(u.ownBlock=p.1.bind g.blk)∧∀ id,p.1=some id→(s.res id).live=true:=by
 unfold U1 at h
 split at h
 ·cases h
  cases hl
  exact ⟨⟨[],⟨by simp,.inl ⟨rfl,rfl⟩⟩,Aka _ _⟩,rfl,by intro id h; cases h⟩
 ·rename_i id
  split at h
  ·rename_i e' t' xs hr
   split at h
   ·rename_i he
    split at h<;>cases h
    rename_i ht
    have ht':t'=t:=ht
    subst ht'
    subst he
    have r:=hres id
    rw [hr] at r
    obtain ⟨cs,h1,h2,h3⟩:=r
    simp only [Dq,hr] at hl
    subst hl
    exact ⟨⟨cs,h1,h2⟩,h3.symm,by intro j hj; cases hj; rw [hr]; rfl⟩
   ·cases h
  ·cases h
 ·cases h
theorem Aoy {e:TypeId} {t:Ty} {l:Lf} {p:Option Nat×List t.D} (h:U1 s ⟨e,t,[],0⟩ l=some p):∀ id,p.1=some id→∃ e',s.res id=.row e' t p.2∧l=.row id:=by
 intro id hid
 unfold U1 at h
 split at h
 ·cases h; cases hid
 ·rename_i j
  split at h
  ·rename_i e' t' xs hr
   split at h
   ·split at h<;>cases h
    rename_i ht
    have ht':t'=t:=ht
    subst ht'
    cases hid
    exact ⟨e',hr,rfl⟩
   ·cases h
  ·cases h
 ·cases h
theorem A0a {w w':World} {t t':Ty} {e e':TypeId} {sz sz' n n':Nat} {v:Value} {cs cs':List Value} (h:M7 w t 0 e sz v n cs) (h':M7 w' t' 0 e' sz' v n' cs'):n=n':=by
 rcases h.2 with ⟨h1,h2⟩ | ⟨gg,cap,cur,h1,h2⟩<;>rcases h'.2 with ⟨k1,k2⟩ | ⟨gg',cap',cur',k1,k2⟩
 ·rw [h2,k2]
 ·rw [h1] at k1; cases k1
 ·rw [h1] at k1; cases k1
 ·rw [h1] at k1; cases k1; rfl
theorem Aoz (hres:∀ id,K8 s g w id (s.res id)):∀ {ms:List Md} {ls:List Lf} {us:List Value} {x:Tf ms} {ow:List (Option Nat)},Of s ms ls=some (x,ow)→G7 s g w ls us→
  HR w (Eu s g) ms x us∧E5 ms us=n9 g ow∧∀ id∈Bh ow,(s.res id).live=true
 | [],[],[],x,ow,h,_=>by
  simp only [Of] at h
  cases h
  exact ⟨rfl,rfl,by simp [Bh]⟩
 | [],[],_::_,_,_,_,hL=>hL.elim
 | [],_::_,_,_,_,h,_=>by simp [Of] at h
 | .rd t::ms,ls,us,x,ow,h,hL=>by
  simp only [Of] at h
  obtain ⟨p,h1,h2⟩:=Option.bind_eq_some_iff.1 h
  obtain ⟨q,h3,h4⟩:=Option.bind_eq_some_iff.1 h2
  cases h4
  obtain ⟨e1,k1⟩:=St.parse_K hres (x:=p.1) (r:=p.2) h1 hL
  obtain ⟨i1,i2,i3⟩:=Aoz (ms:=ms) (us:=us.drop t.sz) hres h3 (by rw [e1]; exact hL.drop _)
  exact ⟨⟨us.take t.sz,us.drop t.sz,(List.take_append_drop _ _).symm,k1,i1⟩,i2,i3⟩
 | .own e t::ms,[],us,x,ow,h,hL=>by simp [Of] at h
 | .own e t::ms,l::ls,[],x,ow,h,hL=>hL.elim
 | .own e t::ms,l::ls,u::us,x,ow,h,hL=>by
  simp only [Of] at h
  obtain ⟨p,h1,h2⟩:=Option.bind_eq_some_iff.1 h
  obtain ⟨q,h3,h4⟩:=Option.bind_eq_some_iff.1 h2
  cases h4
  obtain ⟨k1,k2,k3⟩:=Y0 hres h1 hL.1.1
  obtain ⟨i1,i2,i3⟩:=Aoz (ms:=ms) hres h3 hL.2
  refine ⟨⟨u,us,rfl,k1,i1⟩,?_,?_⟩
  ·simp only [E5,n9,List.head?_cons,Option.bind_some,List.tail_cons,k2,i2]
  ·intro id hid
   cases hp:p.1 with
   | none=>rw [hp] at hid; exact i3 id hid
   | some j=>
    rw [hp] at hid
    simp only [Bh,List.mem_cons] at hid
    rcases hid with rfl | hid
    ·exact k3 _ hp
    ·exact i3 id hid
 | .bx T t::ms,[],us,x,ow,h,hL=>by simp [Of] at h
 | .bx T t::ms,.c _::ls,us,x,ow,h,hL=>by simp [Of] at h
 | .bx T t::ms,.sl _ _::ls,us,x,ow,h,hL=>by simp [Of] at h
 | .bx T t::ms,.row _::ls,us,x,ow,h,hL=>by simp [Of] at h
 | .bx T t::ms,.ep _ _ _ _::ls,us,x,ow,h,hL=>by simp [Of] at h
 | .bx T t::ms,.rp _ _ _::ls,us,x,ow,h,hL=>by simp [Of] at h
 | .bx T t::ms,.sp _::ls,us,x,ow,h,hL=>by simp [Of] at h
 | .bx T t::ms,.ptr id off::ls,[],x,ow,h,hL=>hL.elim
 | .bx T t::ms,.ptr id off::ls,u::us,x,ow,h,hL=>by
  simp only [Of] at h
  split at h
  ·rename_i T' bl hr
   split at h
   ·rename_i hT
    split at h
    ·rename_i ho
     split at h
     ·rename_i y hp
      obtain ⟨q,h3,h4⟩:=Option.bind_eq_some_iff.1 h
      cases h4
      subst hT ho
      obtain ⟨i1,i2,i3⟩:=Aoz (ms:=ms) hres h3 hL.2
      have r:=hres id
      rw [hr] at r
      obtain ⟨b,cs,hb,hh,hbl⟩:=r
      have hl:=hL.1.1
      simp only [Dq,hr] at hl
      obtain ⟨b',hb',hu⟩:=hl
      obtain rfl:b=b':=Option.some.inj (hb.symm.trans hb')
      obtain ⟨e1,k1⟩:=St.parse_K hres hp hbl
      have hlen:cs.toList.take t.sz=cs.toList:=by
       apply List.take_of_length_le
       have:bl.length≤t.sz:=List.drop_eq_nil_iff.1 e1.symm
       rw [hbl.length]; exact this
      rw [hlen] at k1
      subst hu
      refine ⟨⟨b,us,rfl,⟨cs,hh,k1⟩,i1⟩,?_,?_⟩
      ·simp only [E5,n9,List.head?_cons,Option.bind_some,List.tail_cons,Pm,hb,i2]
      ·intro j hj
       simp only [Bh,List.mem_cons] at hj
       rcases hj with rfl | hj
       ·rw [hr]; rfl
       ·exact i3 j hj
     ·cases h
    ·cases h
   ·cases h
  ·cases h
 | .mu e t::ms,[],us,x,ow,h,hL=>by simp [Of] at h
 | .mu e t::ms,l::ls,[],x,ow,h,hL=>hL.elim
 | .mu e t::ms,l::ls,u::us,x,ow,h,hL=>by
  simp only [Of] at h
  obtain ⟨p,h1,h2⟩:=Option.bind_eq_some_iff.1 h
  obtain ⟨q,h3,h4⟩:=Option.bind_eq_some_iff.1 h2
  cases h4
  obtain ⟨k1,k2,k3⟩:=Y0 hres h1 hL.1.1
  obtain ⟨i1,i2,i3⟩:=Aoz (ms:=ms) hres h3 hL.2
  refine ⟨⟨u,us,rfl,k1,i1⟩,?_,?_⟩
  ·simp only [E5,n9,List.head?_cons,Option.bind_some,List.tail_cons,k2,i2]
  ·intro id hid
   cases hp:p.1 with
   | none=>rw [hp] at hid; exact i3 id hid
   | some j=>
    rw [hp] at hid
    simp only [Bh,List.mem_cons] at hid
    rcases hid with rfl | hid
    ·exact k3 _ hp
    ·exact i3 id hid
def Ln:(ms:List Md)→BxD ms→List (Option Nat)→(Nat→Res)→Nat→Res
 | [],_,_,res=>res
 | .rd _::ms,y,ow,res=>Ln ms y ow res
 | .own _ _::ms,y,ow,res=>Ln ms y ow.tail (match ow.head? with | some (some id)=>S9 res id .dead | _=>res)
 | .bx T t::ms,y,ow,res=>Ln ms y.2 ow.tail (match ow.head? with | some (some id)=>S9 res id (.box T (t.leafs y.1)) | _=>res)
 | .mu e t::ms,y,ow,res=>Ln ms y.2 ow.tail (match ow.head? with | some (some id)=>S9 res id (.row e t y.1) | _=>res)
def Rc:List Md→List (Option Nat)→(Nat→Option Nat)→Nat→Option Nat
 | [],_,blk=>blk
 | .rd _::ms,ow,blk=>Rc ms ow blk
 | .own _ _::ms,ow,blk=>Rc ms ow.tail (match ow.head? with | some (some id)=>S9 blk id none | _=>blk)
 | .bx _ _::ms,ow,blk=>Rc ms ow.tail blk
 | .mu _ _::ms,ow,blk=>Rc ms ow.tail blk
theorem E3:∀ {ms:List Md} {y:BxD ms} {ow:List (Option Nat)} {res:Nat→Res} {j:Nat},j ∉ Bh ow→Ln ms y ow res j=res j
 | [],_,_,_,_,_=>rfl
 | .rd _::ms,y,ow,res,j,h=>E3 (ms:=ms) h
 | .own _ _::ms,y,[],res,j,h=>E3 (ms:=ms) h
 | .own _ _::ms,y,none::ow,res,j,h=>E3 (ms:=ms) (ow:=ow) h
 | .own _ _::ms,y,some id::ow,res,j,h=>by
  simp only [Bh,List.mem_cons,not_or] at h
  exact (E3 (ms:=ms) (y:=y) (ow:=ow) h.2).trans (A1 _ _ h.1)
 | .bx _ _::ms,y,[],res,j,h=>E3 (ms:=ms) h
 | .bx _ _::ms,y,none::ow,res,j,h=>E3 (ms:=ms) (ow:=ow) h
 | .bx _ _::ms,y,some id::ow,res,j,h=>by
  simp only [Bh,List.mem_cons,not_or] at h
  exact (E3 (ms:=ms) (y:=y.2) (ow:=ow) h.2).trans (A1 _ _ h.1)
 | .mu _ _::ms,y,[],res,j,h=>E3 (ms:=ms) h
 | .mu _ _::ms,y,none::ow,res,j,h=>E3 (ms:=ms) (ow:=ow) h
 | .mu _ _::ms,y,some id::ow,res,j,h=>by
  simp only [Bh,List.mem_cons,not_or] at h
  exact (E3 (ms:=ms) (y:=y.2) (ow:=ow) h.2).trans (A1 _ _ h.1)
theorem Ff:∀ {ms:List Md} {ow:List (Option Nat)} {blk:Nat→Option Nat} {j:Nat},j ∉ Bh ow→Rc ms ow blk j=blk j
 | [],_,_,_,_=>rfl
 | .rd _::ms,ow,blk,j,h=>Ff (ms:=ms) h
 | .own _ _::ms,[],blk,j,h=>Ff (ms:=ms) h
 | .own _ _::ms,none::ow,blk,j,h=>Ff (ms:=ms) (ow:=ow) h
 | .own _ _::ms,some id::ow,blk,j,h=>by
  simp only [Bh,List.mem_cons,not_or] at h
  simp only [Rc,List.head?_cons,List.tail_cons]
  rw [Ff (ms:=ms) h.2,A1 _ _ h.1]
 | .bx _ _::ms,[],blk,j,h=>Ff (ms:=ms) h
 | .bx _ _::ms,none::ow,blk,j,h=>Ff (ms:=ms) (ow:=ow) h
 | .bx _ _::ms,some id::ow,blk,j,h=>by
  simp only [Bh,List.mem_cons,not_or] at h
  simp only [Rc,List.head?_cons,List.tail_cons]
  exact Ff (ms:=ms) h.2
 | .mu _ _::ms,[],blk,j,h=>Ff (ms:=ms) h
 | .mu _ _::ms,none::ow,blk,j,h=>Ff (ms:=ms) (ow:=ow) h
 | .mu _ _::ms,some id::ow,blk,j,h=>by
  simp only [Bh,List.mem_cons,not_or] at h
  simp only [Rc,List.head?_cons,List.tail_cons]
  exact Ff (ms:=ms) h.2
theorem Mk:∀ {ms:List Md} {ow:List (Option Nat)} {blk:Nat→Option Nat} {j b:Nat},Rc ms ow blk j=some b→blk j=some b
 | [],_,_,_,_,h=>h
 | .rd _::ms,ow,blk,j,b,h=>Mk (ms:=ms) h
 | .own _ _::ms,[],blk,j,b,h=>Mk (ms:=ms) h
 | .own _ _::ms,none::ow,blk,j,b,h=>Mk (ms:=ms) (ow:=ow) h
 | .own _ _::ms,some id::ow,blk,j,b,h=>by
  simp only [Rc,List.head?_cons,List.tail_cons] at h
  have:=Mk (ms:=ms) h
  by_cases q:j=id
  ·subst q; simp at this
  ·rwa [A1 _ _ q] at this
 | .bx _ _::ms,ow,blk,j,b,h=>Mk (ms:=ms) h
 | .mu _ _::ms,ow,blk,j,b,h=>Mk (ms:=ms) h
inductive Re (s:St) (g:Gh) (w:World) (us:List Value) (ms:List Md) (s2:St) (g2:Gh) (w':World) (id:Nat):Prop where
 | gone:s2.res id=.dead→g2.blk id=none→Re s g w us ms s2 g2 w' id
 | box (T:TypeId) (ls:List Lf) (b:Nat):(∃ T' ls',s.res id=.box T' ls')→s2.res id=.box T ls→g2.blk id=g.blk id→g.blk id=some b→b∈Wn ms us→K8 s2 g2 w' id (.box T ls)→Re s g w us ms s2 g2 w' id
 | row (e:TypeId) (t:Ty) (xs:List t.D):(∃ e',∃ xs':List t.D,s.res id=.row e' t xs'∧xs.length=xs'.length)→s2.res id=.row e t xs→g2.blk id=g.blk id→g2.hdr id=g.hdr id→(∀ b,g.blk id=some b→b∈Wn ms us)→K8 s2 g2 w' id (.row e t xs)→Re s g w us ms s2 g2 w' id
theorem Aae {s2:St} {g2:Gh} {w':World} (hres:∀ id,K8 s g w id (s.res id)):∀ {ms:List Md} {ls:List Lf} {us:List Value} {x:Tf ms} {y:BxD ms} {ow:List (Option Nat)} {res:Nat→Res} {blk:Nat→Option Nat},
  Of s ms ls=some (x,ow)→G7 s g w ls us→(Bh ow).Nodup→BkR w' (Eu s2 g2) ms y us→
  (∀ id∈Bh ow,s2.res id=Ln ms y ow res id∧g2.blk id=Rc ms ow blk id∧blk id=g.blk id∧(∀ e,∀ t:Ty,∀ xs:List t.D,s.res id=.row e t xs→g2.hdr id=g.hdr id))→∀ id∈Bh ow,Re s g w us ms s2 g2 w' id
 | [],[],us,x,y,ow,res,blk,h,hL,hn,hB,hag,id,hid=>by
  simp only [Of] at h
  cases h
  simp [Bh] at hid
 | [],_::_,us,x,y,ow,res,blk,h,hL,hn,hB,hag,id,hid=>by simp [Of] at h
 | .rd t::ms,ls,us,x,y,ow,res,blk,h,hL,hn,hB,hag,id,hid=>by
  simp only [Of] at h
  obtain ⟨p,h1,h2⟩:=Option.bind_eq_some_iff.1 h
  obtain ⟨q,h3,h4⟩:=Option.bind_eq_some_iff.1 h2
  cases h4
  have e1:p.2=ls.drop t.sz:=St.parse_drop (x:=p.1) (r:=p.2) h1
  cases Aae hres (ms:=ms) (us:=us.drop t.sz) h3 (by rw [e1]; exact hL.drop _) hn hB hag id hid with
  | gone a b=>exact .gone a b
  | box T l b a1 a2 a3 a4 a5 a6=>exact .box T l b a1 a2 a3 a4 a5 a6
  | row e1 t1 xs a1 a2 a3 a4 a5 a6=>exact .row e1 t1 xs a1 a2 a3 a4 a5 a6
 | .own e t::ms,[],us,x,y,ow,res,blk,h,hL,hn,hB,hag,id,hid=>by simp [Of] at h
 | .own e t::ms,l::ls,[],x,y,ow,res,blk,h,hL,hn,hB,hag,id,hid=>hL.elim
 | .own e t::ms,l::ls,u::us,x,y,ow,res,blk,h,hL,hn,hB,hag,id,hid=>by
  simp only [Of] at h
  obtain ⟨p,h1,h2⟩:=Option.bind_eq_some_iff.1 h
  obtain ⟨q,h3,h4⟩:=Option.bind_eq_some_iff.1 h2
  cases h4
  have lift:∀ id,Re s g w us ms s2 g2 w' id→Re s g w (u::us) (.own e t::ms) s2 g2 w' id:=by
   intro id hb
   cases hb with
   | gone a b=>exact .gone a b
   | box T l b a1 a2 a3 a4 a5 a6=>exact .box T l b a1 a2 a3 a4 a5 a6
   | row e1 t1 xs a1 a2 a3 a4 a5 a6=>exact .row e1 t1 xs a1 a2 a3 a4 a5 a6
  cases hp:p.1 with
  | none=>
   rw [hp] at hid hn hag
   exact lift id (Aae hres (ms:=ms) h3 hL.2 hn hB hag id hid)
  | some j=>
   rw [hp] at hid hn hag
   simp only [Bh,List.nodup_cons] at hn
   simp only [Bh,List.mem_cons] at hid
   rcases hid with rfl | hid
   ·obtain ⟨a1,a2,_⟩:=hag id (by simp [Bh])
    refine .gone (a1.trans ?_) (a2.trans ?_)
    ·exact (E3 (ms:=ms) (y:=y) hn.1).trans (A9 _ _ _)
    ·exact (Ff (ms:=ms) hn.1).trans (A9 _ _ _)
   ·refine lift id (Aae hres (ms:=ms) (res:=S9 res j .dead) (blk:=S9 blk j none) h3 hL.2 hn.2 hB (fun k hk=>?_) id hid)
    obtain ⟨a1,a2,a3,a4⟩:=hag k (by simp [Bh,hk])
    have:k≠j:=by rintro rfl; exact hn.1 hk
    exact ⟨a1,a2,by rw [A1 _ _ this]; exact a3,a4⟩
 | .bx T t::ms,[],us,x,y,ow,res,blk,h,hL,hn,hB,hag,id,hid=>by simp [Of] at h
 | .bx T t::ms,.c _::ls,us,x,y,ow,res,blk,h,hL,hn,hB,hag,id,hid=>by simp [Of] at h
 | .bx T t::ms,.sl _ _::ls,us,x,y,ow,res,blk,h,hL,hn,hB,hag,id,hid=>by simp [Of] at h
 | .bx T t::ms,.row _::ls,us,x,y,ow,res,blk,h,hL,hn,hB,hag,id,hid=>by simp [Of] at h
 | .bx T t::ms,.ep _ _ _ _::ls,us,x,y,ow,res,blk,h,hL,hn,hB,hag,id,hid=>by simp [Of] at h
 | .bx T t::ms,.rp _ _ _::ls,us,x,y,ow,res,blk,h,hL,hn,hB,hag,id,hid=>by simp [Of] at h
 | .bx T t::ms,.sp _::ls,us,x,y,ow,res,blk,h,hL,hn,hB,hag,id,hid=>by simp [Of] at h
 | .bx T t::ms,.ptr j off::ls,[],x,y,ow,res,blk,h,hL,hn,hB,hag,id,hid=>hL.elim
 | .bx T t::ms,.ptr j off::ls,u::us,x,y,ow,res,blk,h,hL,hn,hB,hag,id,hid=>by
  simp only [Of] at h
  split at h
  ·rename_i T' bl hr
   split at h
   ·rename_i hT
    split at h
    ·rename_i ho
     split at h
     ·rename_i z hp
      obtain ⟨q,h3,h4⟩:=Option.bind_eq_some_iff.1 h
      cases h4
      subst hT ho
      have hl:=hL.1.1
      simp only [Dq,hr] at hl
      obtain ⟨b,hb,hu⟩:=hl
      subst hu
      simp only [Bh,List.nodup_cons] at hn
      simp only [Bh,List.mem_cons] at hid
      simp only [BkR,List.head?_cons,List.tail_cons] at hB
      obtain ⟨⟨b2,e2,⟨cs,hh,hk⟩⟩,hB2⟩:=hB
      cases e2
      rcases hid with rfl | hid
      ·obtain ⟨a1,a2,a3,_⟩:=hag id (by simp [Bh])
       have a1:=a1.trans ((E3 (ms:=ms) (y:=y.2) hn.1).trans (A9 _ _ _))
       have a2:=a2.trans ((Ff (ms:=ms) hn.1).trans a3)
       exact .box T' _ b ⟨_,_,hr⟩ a1 a2 hb (by simp [Wn,Pm]) ⟨b,cs,by rw [a2]; exact hb,hh,Ty.K_leafs hk⟩
      ·have:=Aae hres (ms:=ms) (res:=S9 res j (.box T' (t.leafs y.1))) (blk:=blk) h3 hL.2 hn.2 hB2 (fun k hk=>?_) id hid
       ·cases this with
        | gone a b=>exact .gone a b
        | box T l b a1 a2 a3 a4 a5 a6=>exact .box T l b a1 a2 a3 a4 (by simp only [Wn,List.tail_cons]; exact List.mem_append_right _ a5) a6
        | row e1 t1 xs a1 a2 a3 a4 a5 a6=>exact .row e1 t1 xs a1 a2 a3 a4 (fun b hb=>by simp only [Wn,List.tail_cons]; exact List.mem_append_right _ (a5 b hb)) a6
       ·obtain ⟨a1,a2,a3⟩:=hag k (by simp [Bh,hk])
        exact ⟨a1,a2,a3⟩
     ·cases h
    ·cases h
   ·cases h
  ·cases h
 | .mu e t::ms,[],us,x,y,ow,res,blk,h,hL,hn,hB,hag,id,hid=>by simp [Of] at h
 | .mu e t::ms,l::ls,[],x,y,ow,res,blk,h,hL,hn,hB,hag,id,hid=>hL.elim
 | .mu e t::ms,l::ls,u::us,x,y,ow,res,blk,h,hL,hn,hB,hag,id,hid=>by
  simp only [Of] at h
  obtain ⟨p,h1,h2⟩:=Option.bind_eq_some_iff.1 h
  obtain ⟨q,h3,h4⟩:=Option.bind_eq_some_iff.1 h2
  cases h4
  simp only [BkR,List.head?_cons,List.tail_cons] at hB
  obtain ⟨⟨u2,e2,⟨cs,hh,hk⟩⟩,hB2⟩:=hB
  cases e2
  have lift:∀ id,Re s g w us ms s2 g2 w' id→Re s g w (u::us) (.mu e t::ms) s2 g2 w' id:=by
   intro id hb
   cases hb with
   | gone a b=>exact .gone a b
   | box T l b a1 a2 a3 a4 a5 a6=>exact .box T l b a1 a2 a3 a4 (by simp only [Wn,List.tail_cons]; exact List.mem_append_right _ a5) a6
   | row e1 t1 xs a1 a2 a3 a4 a5 a6=>exact .row e1 t1 xs a1 a2 a3 a4 (fun b hb=>by simp only [Wn,List.tail_cons]; exact List.mem_append_right _ (a5 b hb)) a6
  obtain ⟨k1,k2,k3⟩:=Y0 hres h1 hL.1.1
  have hrow:=Aoy h1
  cases hp:p.1 with
  | none=>
   rw [hp] at hid hn hag
   exact lift id (Aae hres (ms:=ms) (y:=y.2) h3 hL.2 hn hB2 hag id hid)
  | some j=>
   rw [hp] at hid hn hag
   simp only [Bh,List.nodup_cons] at hn
   simp only [Bh,List.mem_cons] at hid
   rcases hid with rfl | hid
   ·obtain ⟨e',r1,r2⟩:=hrow id hp
    obtain ⟨a1,a2,a3,a4⟩:=hag id (by simp [Bh])
    have a1:=a1.trans ((E3 (ms:=ms) (y:=y.2) hn.1).trans (A9 _ _ _))
    have a2:=a2.trans ((Ff (ms:=ms) hn.1).trans a3)
    have a4:=a4 _ _ _ r1
    have hl:=hL.1.1
    rw [r2] at hl
    simp only [Dq,r1] at hl
    subst hl
    obtain ⟨cs1,o1,_⟩:=k1
    rw [hp] at k2
    refine .row e t y.1 ⟨e',p.2,r1,A0a hh o1⟩ a1 a2 a4 (fun b hb=>?_) ⟨cs,by rw [a4]; exact hh,hk,by rw [a2,a4]; exact k2.symm⟩
    have:(g.hdr id).ownBlock=some b:=k2.trans hb
    simp only [Wn,List.head?_cons,Option.bind_some]
    exact List.mem_append_left _ (Eb this)
   ·refine lift id (Aae hres (ms:=ms) (y:=y.2) (res:=S9 res j (.row e t y.1)) (blk:=blk) h3 hL.2 hn.2 hB2 (fun k hk=>?_) id hid)
    obtain ⟨a1,a2,a3,a4⟩:=hag k (by simp [Bh,hk])
    exact ⟨a1,a2,a3,a4⟩
end
end Go.Proofs.YtfkefgbihlfjmaaGreat.R

