/- One operation, told of that part of the state that it looks at. No condition. -/
import Derived.Test.YtfkefgbihlfjmaaGreatRInl
namespace Go.Proofs.YtfkefgbihlfjmaaGreat.R
open Go Go.RowKit
set_option linter.unusedVariables false
set_option linter.unusedSimpArgs false
def Aak:Lf→List Nat
 | .row id=>[id]
 | .ptr id _=>[id]
 | .rp id _ _=>[id]
 | .sp id=>[id]
 | _=>[]
def Wt:List Lf→List Nat
 | []=>[]
 | l::r=>Aak l++Wt r
def Akn (v:Vl):List Nat:=Wt v.ls
def Ajk:List Vl→List Nat
 | []=>[]
 | v::r=>Akn v++Ajk r
def Ni:AV→List Nat
 | .dead=>[]
 | .vl v=>Akn v
 | .tp vs=>Ajk vs
 | .fn _ ls=>Wt ls
def Wu:Res→List Nat
 | .box _ ls=>Wt ls
 | _=>[]
def Ako:Res→List Nat
 | .last _ _ _ _ j=>[j]
 | _=>[]
def Lb:List Operand→List Nat
 | []=>[]
 | .tmp t::r=>t::Lb r
 | _::r=>Lb r
def D2 (o:Oper):List Nat:=Lb o.op.operands.toList
def Kr (l:List Nat) (i:Nat):Bool:=match l with
 | []=>false
 | j::r=>Nat.beq j i || Kr r i
theorem Cu {l:List Nat} {i:Nat}:Kr l i=true↔i∈l:=by
 induction l with
 | nil=>simp [Kr]
 | cons j r ih=>
  simp only [Kr,Bool.or_eq_true,ih,List.mem_cons,Nat.beq_eq]
  constructor
  ·rintro (h | h)
   ·exact .inl h.symm
   ·exact .inr h
  ·rintro (h | h)
   ·exact .inl h.symm
   ·exact .inr h
def H3 (s:St):List Nat→List Nat
 | []=>[]
 | i::r=>Ni (s.cell i)++H3 s r
def Ju (s:St):List Nat→List Nat
 | []=>[]
 | i::r=>Wu (s.res i)++Ju s r
def Acm (s:St) (sl:List Nat):List Nat:=
 let l0:=H3 s sl
 let l1:=l0++Ju s l0
 l1++Ju s l1
def Aal (s:St):List Nat→List Nat
 | []=>[]
 | i::r=>Ako (s.res i)++Aal s r
def Nj (o:Oper):Bool:=match o.op with
 | .move x=>!Ag2 x
 | .assign x=>!Ag2 x
 | .indexAddr _ _ _=>true
 | .call c=>(match c.callee with
  | .builtin .len=>true
  | _=>false)
 | _=>false
def Anq (o:Oper):Bool:=match o.op with
 | .move x=>!Ag2 x
 | .assign x=>!Ag2 x
 | _=>false
theorem A0n {o:Oper} (h:Anq o=true):Nj o=true:=by
 unfold Anq at h
 unfold Nj
 split at h
 ·rename_i q; rw [q]; exact h
 ·rename_i q; rw [q]; exact h
 ·cases h
def Ri (s:St) (o:Oper):List Nat:=if Anq o then [] else if Nj o then Acm s (D2 o) else Acm s (D2 o)++Aal s (Acm s (D2 o))
def Acn (l m:List Nat):Bool:=match l with
 | []=>true
 | i::r=>Kr m i&&Acn r m
theorem Ae8 {l m:List Nat}:Acn l m=true↔∀ i∈l,i∈m:=by
 induction l with
 | nil=>simp [Acn]
 | cons j r ih=>simp [Acn,Cu,ih]
def Akp:Nat:=4
def Nb (nid:Nat):List Nat:=[nid,nid + 1,nid + 2,nid + 3]
def St.view (s:St) (sl ids:List Nat):St:=⟨fun i=>if Kr sl i then s.cell i else .dead,fun id=>if Kr ids id then s.res id else .unborn⟩
def St.lay (s v:St) (m:List Nat):St:=⟨s.cell,fun id=>if Kr m id then v.res id else s.res id⟩
def Qx (o:Oper) (s:St) (m:List Nat):Bool:=Acn (Ju s m) m&&(Nj o || Acn (Aal s m) m)
def o5 (P:Program) (sigs:Tb) (s:St) (nid:Nat) (o:Oper):Option (AV×St):=
 let sl:=D2 o
 let ids:=Ri s o
 if Oo s nid Akp then (if Qx o s ids then (Rg P sigs (s.view sl ids) nid o).bind fun p=>
  if Anq o || Acn (Ni p.1) (ids++Nb nid) then (if Qx o p.2 (ids++Nb nid) then some p else none) else none
 else none) else none
section
variable {P:Program} {n B:Nat} {Iq:List Nat} {s:St} {g:Gh} {a:Act} {w:World}
theorem Y6 (h:∀ id,K8 s g w id (s.res id)) {id b:Nat} (hb:g.blk id=some b):(s.res id).live=true:=by
 have r:=h id
 cases hr:s.res id with
 | box T ls=>rfl
 | row e t xs=>rfl
 | unborn=>rw [hr] at r; exact absurd (hb.symm.trans r) (by simp)
 | dead=>rw [hr] at r; exact absurd (hb.symm.trans r) (by simp)
 | frozen t xs=>rw [hr] at r; exact absurd (hb.symm.trans r.2) (by simp)
 | last _ _ _ _ _=>rfl
 | map _ _=>rfl
 | iter _ _ _ _=>rfl
theorem Dq.part {s s':St} {g g':Gh} {w:World} {m:List Nat} (hS:∀ b,Eu s g b→b < w.heap.size→Eu s' g' b) (hm:∀ id∈m,s'.res id=s.res id∧g'.blk id=g.blk id∧g'.hdr id=g.hdr id):
  ∀ {l:Lf} {u:Value},(∀ id∈Aak l,id∈m)→Dq s g w l u→Dq s' g' w l u
 | .c _,_,_,h=>h
 | .sl _ _,_,_,h=>Ty.K_keep (fun b hb hl=>⟨hS b hb hl,rfl⟩) h
 | .row id,u,hi,h=>by
  obtain ⟨e1,e2,e3⟩:=hm id (hi id (by simp [Aak]))
  simp only [Dq] at h ⊢
  rw [e1,e3]
  exact h
 | .ptr id off,u,hi,h=>by
  obtain ⟨e1,e2,e3⟩:=hm id (hi id (by simp [Aak]))
  simp only [Dq] at h ⊢
  rw [e1,e2]
  exact h
 | .ep t xs i off,u,_,⟨ad,cs,h1,h2,h3,h4,h5⟩=>⟨ad,cs,h1,hS _ h2 h3,h3,Ty.K_keep (fun b hb hl=>⟨hS b hb hl,rfl⟩) h4,h5⟩
 | .rp id i off,u,hi,h=>by
  obtain ⟨e1,e2,e3⟩:=hm id (hi id (by simp [Aak]))
  simp only [Dq] at h ⊢
  rw [e1,e2]
  exact h
 | .sp id,u,hi,h=>by
  obtain ⟨e1,e2,e3⟩:=hm id (hi id (by simp [Aak]))
  simp only [Dq] at h ⊢
  rw [e1,e2]
  exact h
section
variable {s':St} {g':Gh} {m:List Nat} (hS:∀ b,Eu s g b→b < w.heap.size→Eu s' g' b) (hm:∀ id∈m,s'.res id=s.res id∧g'.blk id=g.blk id∧g'.hdr id=g.hdr id)
 include hS hm
theorem G7.part:∀ {ls:List Lf} {cs:List Value},(∀ id∈Wt ls,id∈m)→G7 s g w ls cs→G7 s' g' w ls cs
 | [],[],_,_=>trivial
 | [],_::_,_,h=>h.elim
 | _::_,[],_,h=>h.elim
 | l::ls,_::_,hi,h=>⟨⟨Dq.part hS hm (fun id q=>hi id (by simp [Wt,q])) h.1.1,h.1.2⟩,G7.part (fun id q=>hi id (by simp [Wt,q])) h.2⟩
theorem VlR.part {v:Vl} {u:Value} (hi:∀ id∈Akn v,id∈m) (h:VlR s g w v u):VlR s' g' w v u:=by
 cases v with
 | lf l=>exact ⟨Dq.part hS hm (fun id q=>hi id (by simp [Akn,Vl.ls,Wt,q])) h.1,h.2⟩
 | ag ls=>
  obtain ⟨cs,e,hL⟩:=h
  exact ⟨cs,e,G7.part hS hm hi hL⟩
theorem Uk.part {v:AV} {u:Value} (hi:∀ id∈Ni v,id∈m) (h:Uk s g w v u):Uk s' g' w v u:=by
 cases v with
 | dead=>trivial
 | vl v=>exact VlR.part hS hm hi h
 | tp vs=>
  obtain ⟨us,h1,h2,h3⟩:=h
  refine ⟨us,h1,h2,fun j l hl=>?_⟩
  obtain ⟨v,e1,e2⟩:=h3 j l hl
  refine ⟨v,e1,VlR.part hS hm (fun id q=>hi id ?_) e2⟩
  have hmem:=List.mem_of_getElem? hl
  clear h1 h2 h3 hl e1 e2 hi
  induction vs with
  | nil=>cases hmem
  | cons x r ih=>
   rcases List.mem_cons.1 hmem with rfl | hmem
   ·simp [Ni,Ajk,q]
   ·have:=ih hmem
    simp only [Ni,Ajk,List.mem_append] at this ⊢
    exact .inr this
 | fn f ls=>
  obtain ⟨cs,h1,h2⟩:=h
  exact ⟨cs,h1,G7.part hS hm hi h2⟩
theorem K8.part {id:Nat} (hid:id∈m) {r:Res} (hi:∀ j∈Wu r,j∈m) (hwk:∀ j∈Ako r,j∈m) (h:K8 s g w id r):K8 s' g' w id r:=by
 obtain ⟨e1,e2,e3⟩:=hm id hid
 cases r with
 | unborn=>exact e2.trans h
 | dead=>exact e2.trans h
 | box T ls=>
  obtain ⟨b,cs,h1,h2,h3⟩:=h
  exact ⟨b,cs,e2.trans h1,h2,G7.part hS hm hi h3⟩
 | row e t xs=>
  obtain ⟨cs,h1,h2,h3⟩:=h
  exact ⟨cs,by rw [e3]; exact h1,h2.imp hS,by rw [e2,e3]; exact h3⟩
 | frozen t xs=>
  obtain ⟨h1,h2⟩:=h
  exact ⟨by rw [e3]; exact Ty.K_keep (fun b hb hl=>⟨hS b hb hl,rfl⟩) h1,e2.trans h2⟩
 | last e t xs c j=>
  obtain ⟨cs,h1,h2,h3,h4⟩:=h
  obtain ⟨q1,q2,q3⟩:=hm j (hwk j (by simp [Ako]))
  refine ⟨cs,by rw [e3]; exact h1,h2.imp hS,by rw [e2,e3]; exact h3,fun u hc hu=>?_⟩
  rw [q1,q3]
  exact h4 u hc hu
 | map t xs=>
  obtain ⟨b,es,clock,h1,h2,h3⟩:=h
  exact ⟨b,es,clock,e2.trans h1,e3.trans h2,h3⟩
 | iter t xs seen cur=>
  obtain ⟨b,r,es,clock,since,c0,sn,h1,h2,h3,h4,h5,h6⟩:=h
  exact ⟨b,r,es,clock,since,c0,sn,e2.trans h1,e3.trans h2,h3,hS b h4 h5,h5,h6⟩
end
theorem Akq {i id:Nat}:∀ {l:List Nat},i∈l→id∈Ako (s.res i)→id∈Aal s l
 | j::r,h,q=>by
  rcases List.mem_cons.1 h with rfl | h
  ·exact List.mem_append_left _ q
  ·exact List.mem_append_right _ (Akq h q)
def Gh.view (s:St) (g:Gh) (ids:List Nat):Gh:=⟨fun id=>if Kr ids id then g.blk id else none,g.hdr,fun b=>g.av b∨∃ id,id ∉ ids∧g.blk id=some b⟩
theorem o6 {i id:Nat}:∀ {sl:List Nat},i∈sl→id∈Ni (s.cell i)→id∈H3 s sl
 | j::r,h,q=>by
  rcases List.mem_cons.1 h with rfl | h
  ·exact List.mem_append_left _ q
  ·exact List.mem_append_right _ (o6 h q)
theorem Ag5 {i id:Nat}:∀ {l:List Nat},i∈l→id∈Wu (s.res i)→id∈Ju s l
 | j::r,h,q=>by
  rcases List.mem_cons.1 h with rfl | h
  ·exact List.mem_append_left _ q
  ·exact List.mem_append_right _ (Ag5 h q)
theorem A0o {sl ids:List Nat} (b:Nat) (hb:Eu s g b) (hres:∀ id,K8 s g w id (s.res id)):Eu (s.view sl ids) (g.view s ids) b:=by
 refine ⟨?_,fun id hl hk=>?_⟩
 ·rintro (q | ⟨id,q1,q2⟩)
  ·exact hb.1 q
  ·exact hb.2 id (Y6 hres q2) q2
 ·simp only [Gh.view] at hk
  split at hk
  ·rename_i hid
   exact hb.2 id (Y6 hres hk) hk
  ·cases hk
theorem A0p (h:B8 n B Iq s g a w) {sl ids:List Nat} (hc:∀ i∈sl,∀ id∈Ni (s.cell i),id∈ids) (hr:∀ i∈ids,∀ id∈Wu (s.res i),id∈ids) (hw:∀ i∈ids,∀ id∈Ako (s.res i),id∈ids):
  B8 n w.heap.size (ids.filterMap g.blk) (s.view sl ids) (g.view s ids) a w:=by
 have hS:∀ b,Eu s g b→b < w.heap.size→Eu (s.view sl ids) (g.view s ids) b:=fun b hb _=>A0o b hb h.res
 have hm:∀ id∈ids,(s.view sl ids).res id=s.res id∧(g.view s ids).blk id=g.blk id∧(g.view s ids).hdr id=g.hdr id:=by
  intro id hid
  have:=Cu.2 hid
  refine ⟨?_,?_,rfl⟩
  ·simp [St.view,this]
  ·simp [Gh.view,this]
 refine ⟨h.size,h.defers,Nat.le_refl _,fun i=>?_,fun id=>?_,fun id id' b q1 q2=>?_,fun id b q=>?_,fun b q=>?_⟩
 ·show Uk _ _ _ (if Kr sl i then s.cell i else .dead) _
  split
  ·rename_i hi
   exact Uk.part hS hm (hc i (Cu.1 hi)) (h.cell i)
  ·trivial
 ·by_cases hid:id∈ids
  ·rw [(hm id hid).1]
   exact K8.part hS hm hid (hr id hid) (hw id hid) (h.res id)
  ·have hf:Kr ids id=false:=by
    cases hq:Kr ids id
    ·rfl
    ·exact absurd (Cu.1 hq) hid
   have:(s.view sl ids).res id=.unborn:=by simp [St.view,hf]
   rw [this]
   show (g.view s ids).blk id=none
   simp [Gh.view,hf]
 ·simp only [Gh.view] at q1 q2
  split at q1
  ·split at q2
   ·exact h.inj id id' b q1 q2
   ·cases q2
  ·cases q1
 ·simp only [Gh.view] at q
  split at q
  ·rename_i hid
   have hid:=Cu.1 hid
   refine ⟨(h.lt id b q).1,.inl (List.mem_filterMap.2 ⟨id,hid,q⟩),?_⟩
   rintro (q2 | ⟨j,q2,q3⟩)
   ·exact (h.lt id b q).2.2 q2
   ·exact q2 (by rw [h.inj j id b q3 q]; exact hid)
  ·cases q
 ·rcases q with q | ⟨id,q1,q2⟩
  ·have:=h.avB b q
   have:=h.base
   omega
  ·exact (h.lt id b q2).1
theorem As5 {l m:List Nat} (h:Acn (Ju s l) m=true):∀ i∈l,∀ id∈Wu (s.res i),id∈m:=
 fun i hi id hid=>Ae8.1 h id (Ag5 hi hid)
theorem Ag6 {sl:List Nat}:∀ i∈sl,∀ id∈Ni (s.cell i),id∈Acm s sl:=
 fun i hi id hid=>List.mem_append_left _ (List.mem_append_left _ (o6 hi hid))
theorem Aam {nid:Nat} (h:Oo s nid Akp=true):∀ id∈Nb nid,s.res id=.unborn:=by
 intro id hid
 have:nid≤id∧id < nid + 4:=by
  simp only [Nb,List.mem_cons,List.not_mem_nil,or_false] at hid
  omega
 exact Akc h id this.1 this.2
theorem A4y (h:B8 n B Iq s g a w) {sl ids:List Nat} {nid:Nat} {v':St} {gv':Gh} {w':World} {av:AV} (hfr:∀ id∈Nb nid,s.res id=.unborn)
  (hgo:Go w.heap.size (ids.filterMap g.blk) (s.view sl ids) (g.view s ids) w v' gv' w') (hR:B8 n w.heap.size (ids.filterMap g.blk) v' gv' a w')
  (hav:∀ id∈Ni av,id∈ids++Nb nid) (hres:∀ i∈ids++Nb nid,∀ id∈Wu (v'.res i),id∈ids++Nb nid) (hwk:∀ i∈ids++Nb nid,∀ id∈Ako (v'.res i),id∈ids++Nb nid):
  ∃ g',Go B Iq s g w (s.lay v' (ids++Nb nid)) g' w'∧B8 n B Iq (s.lay v' (ids++Nb nid)) g' a w'∧∀ u,Uk v' gv' w' av u→Uk (s.lay v' (ids++Nb nid)) g' w' av u:=by
 generalize hm:ids++Nb nid=m at hav hres hwk ⊢
 have hidm:∀ id∈ids,id∈m:=fun id q=>by rw [← hm]; exact List.mem_append_left _ q
 have hmem:∀ id∈m,id∈ids∨id∈Nb nid:=fun id q=>by rw [← hm] at q; exact List.mem_append.1 q
 have hin:∀ id,Kr m id=true↔id∈m:=fun id=>Cu
 have hout:∀ {id},id ∉ m→Kr m id=false:=fun {id} q=>by
  cases hq:Kr m id
  ·rfl
  ·exact absurd ((hin id).1 hq) q
 refine ⟨⟨fun id=>if Kr m id then gv'.blk id else g.blk id,fun id=>if Kr m id then gv'.hdr id else g.hdr id,g.av⟩,?_⟩
 generalize hg':(⟨fun id=>if Kr m id then gv'.blk id else g.blk id,fun id=>if Kr m id then gv'.hdr id else g.hdr id,g.av⟩:Gh)=g'
 generalize hs':s.lay v' m=s'
 have e1:∀ id∈m,s'.res id=v'.res id∧g'.blk id=gv'.blk id∧g'.hdr id=gv'.hdr id:=by
  intro id hid
  have:=(hin id).2 hid
  subst hs' hg'
  simp [St.lay,this]
 have e2:∀ id,id ∉ m→s'.res id=s.res id∧g'.blk id=g.blk id∧g'.hdr id=g.hdr id:=by
  intro id hid
  have:=hout hid
  subst hs' hg'
  simp [St.lay,this]
 have ecell:s'.cell=s.cell:=by subst hs'; rfl
 have eav:g'.av=g.av:=by subst hg'; rfl
 have eavv:gv'.av=(g.view s ids).av:=hgo.av
 have liveBlk:∀ id b,g.blk id=some b→(s.res id).live=true:=fun id b q=>Y6 h.res q
 have hS2:∀ b,Eu v' gv' b→b < w'.heap.size→Eu s' g' b:=by
  rintro b ⟨q1,q2⟩ _
  rw [eavv] at q1
  refine ⟨by rw [eav]; exact fun q=>q1 (.inl q),fun id hl hk=>?_⟩
  by_cases hid:id∈m
  ·obtain ⟨a1,a2,a3⟩:=e1 id hid
   rw [a1] at hl
   rw [a2] at hk
   exact q2 id hl hk
  ·obtain ⟨a1,a2,a3⟩:=e2 id hid
   rw [a2] at hk
   exact q1 (.inr ⟨id,fun q=>hid (hidm id q),hk⟩)
 have hS:∀ b,Eu s g b→b < w.heap.size→Eu s' g' b∧w'.heap[b]?=w.heap[b]?:=by
  intro b hb hlt
  obtain ⟨k1,k2⟩:=hgo.S b (A0o b hb h.res) hlt
  exact ⟨hS2 b k1 (Nat.lt_of_lt_of_le hlt hgo.kp.size),k2⟩
 have hI:∀ id,A4 s g s' g' id:=by
  intro id
  by_cases hid:id∈m
  ·obtain ⟨a1,a2,a3⟩:=e1 id hid
   rcases hmem id hid with q | q
   ·have r:=hgo.ref id
    unfold A4 at r ⊢
    have hq:=Cu.2 q
    have v1:(s.view sl ids).res id=s.res id:=by simp [St.view,hq]
    have v2:(g.view s ids).blk id=g.blk id:=by simp [Gh.view,hq]
    rw [v1,v2] at r
    rw [a1,a2,a3]
    exact r
   ·unfold A4
    rw [hfr id q]
    exact .inr trivial
  ·obtain ⟨a1,a2,a3⟩:=e2 id hid
   exact A4.same a1 a2 a3
 have hKp:Kp B Iq w w':=⟨hgo.kp.os,hgo.kp.tape,hgo.kp.output,hgo.kp.size,fun k hk hkI=>by
  refine hgo.kp.block k (Nat.lt_of_lt_of_le hk h.base) (fun q=>?_)
  obtain ⟨id,q1,q2⟩:=List.mem_filterMap.1 q
  rcases (h.lt id k q2).2.1 with q3 | q3
  ·exact hkI q3
  ·omega⟩
 refine ⟨⟨hKp,hS,hI,eav⟩,?_,fun u hu=>Uk.part hS2 e1 hav hu⟩
 refine h.step h.size h.defers hgo.kp.size hS hI (fun i=>.inl ⟨by rw [ecell],rfl⟩) (fun j=>?_) (fun i j b hi hj=>?_) (fun i b hi=>?_) eav
 ·by_cases hj:j∈m
  ·right
   rw [(e1 j hj).1]
   exact K8.part hS2 e1 hj (hres j hj) (hwk j hj) (hR.res j)
  ·left
   obtain ⟨a1,a2,a3⟩:=e2 j hj
   refine ⟨a1,a2,a3,fun b hb=>hgo.kp.block b (h.lt j b hb).1 (fun q=>?_)⟩
   obtain ⟨id,q1,q2⟩:=List.mem_filterMap.1 q
   exact hj (by rw [h.inj j id b hb q2]; exact hidm id q1)
 ·have far:∀ i j b,i∈m→g'.blk i=some b→j ∉ m→g'.blk j=some b→False:=by
   intro i j b him hi hjm hj
   rw [(e1 i him).2.1] at hi
   rw [(e2 j hjm).2.1] at hj
   refine (hR.lt i b hi).2.2 ?_
   rw [eavv]
   exact .inr ⟨j,fun q=>hjm (hidm j q),hj⟩
  by_cases him:i∈m<;>by_cases hjm:j∈m
  ·rw [(e1 i him).2.1] at hi
   rw [(e1 j hjm).2.1] at hj
   exact hR.inj i j b hi hj
  ·exact (far i j b him hi hjm hj).elim
  ·exact (far j i b hjm hj him hi).elim
  ·rw [(e2 i him).2.1] at hi
   rw [(e2 j hjm).2.1] at hj
   exact h.inj i j b hi hj
 ·by_cases him:i∈m
  ·rw [(e1 i him).2.1] at hi
   obtain ⟨k1,k2,k3⟩:=hR.lt i b hi
   rw [eavv] at k3
   refine ⟨k1,?_,fun q=>k3 (.inl q)⟩
   rcases k2 with k2 | k2
   ·obtain ⟨id,q1,q2⟩:=List.mem_filterMap.1 k2
    exact (h.lt id b q2).2.1
   ·exact .inr (Nat.le_trans h.base k2)
  ·rw [(e2 i him).2.1] at hi
   obtain ⟨k1,k2⟩:=h.lt i b hi
   exact ⟨Nat.lt_of_lt_of_le k1 hgo.kp.size,k2⟩
theorem Ao7 {o:Oper} {m:List Nat} (h:Qx o s m=true):(∀ i∈m,∀ id∈Wu (s.res i),id∈m)∧(Nj o=false→∀ i∈m,∀ id∈Ako (s.res i),id∈m):=by
 simp only [Qx,Bool.and_eq_true,Bool.or_eq_true] at h
 refine ⟨As5 h.1,fun hl i hi id hid=>?_⟩
 rcases h.2 with q | q
 ·rw [hl] at q; cases q
 ·exact Ae8.1 q id (Akq hi hid)
theorem Akr {o:Oper} (hm:Anq o=false):∀ i∈D2 o,∀ id∈Ni (s.cell i),id∈Ri s o:=fun i hi id hid=>by
 unfold Ri
 rw [hm]
 simp only [Bool.false_eq_true,if_false]
 split
 ·exact Ag6 i hi id hid
 ·exact List.mem_append_left _ (Ag6 i hi id hid)
section
variable {s t:St}
theorem Aco {x:Operand} (h:∀ i∈Lb [x],s.cell i=t.cell i):s.op x=t.op x:=by
 cases x with
 | tmp i=>exact h i (by simp [Lb])
 | const v=>rfl
 | global _=>rfl
 | func _=>rfl
theorem Ao8 {x:Operand} (h:s.op x=t.op x):s.leaf x=t.leaf x:=by unfold St.leaf; rw [h]
theorem Ae9 {x:Operand} (h:s.op x=t.op x):s.conc x=t.conc x:=by unfold St.conc; rw [h]
theorem As6 {x:Operand} {id:Nat} (h:s.leaf x=some (.row id)):∃ i∈Lb [x],id∈Ni (s.cell i):=by
 cases x with
 | tmp i=>
  refine ⟨i,by simp [Lb],?_⟩
  unfold St.leaf at h
  simp only [St.op] at h
  split at h
  ·rename_i l hl
   cases h
   rw [hl]
   simp [Ni,Akn,Vl.ls,Wt,Aak]
  ·cases h
 | const v=>
  unfold St.leaf at h
  simp only [St.op] at h
  split at h
  ·rename_i l hl
   cases h
   unfold Aja at hl
   split at hl
   ·split at hl<;>cases hl
   ·cases hl
   ·cases hl
  ·cases h
 | global _=>cases h
 | func _=>cases h
theorem Acp {x:Operand} (h:s.leaf x=t.leaf x) (hr:∀ id,s.leaf x=some (.row id)→s.res id=t.res id):i5 s x=i5 t x:=by
 unfold i5
 rw [← h]
 split
 ·rename_i id hl
  rw [hr id hl]
 ·rfl
theorem Aw9 {x:Operand} (h:s.leaf x=t.leaf x) (hr:∀ id,s.leaf x=some (.row id)→s.res id=t.res id):(s.leaf x).bind s.sl=(t.leaf x).bind t.sl:=by
 rw [← h]
 cases hl:s.leaf x with
 | none=>rfl
 | some l=>
  cases l with
  | row id=>simp only [Option.bind_some,St.sl]; rw [hr id hl]
  | _=>rfl
theorem Anr {T:TypeId} {x y:Operand} (h:s.leaf x=t.leaf x) (hr:∀ id,s.leaf x=some (.row id)→s.res id=t.res id) (hy:s.conc y=t.conc y):U4 P s T x y=U4 P t T x y:=by
 unfold U4
 rw [← h,← hy]
 split
 ·split
  ·rename_i id _ _ _ hl _
   rw [hr _ hl]
  ·rfl
 ·rfl
theorem As7 {T:TypeId} {x:Operand} (h:s.leaf x=t.leaf x) (hr:∀ id,s.leaf x=some (.row id)→s.res id=t.res id):Aey P s T x=Aey P t T x:=by
 unfold Aey
 rw [← h]
 split
 ·split
  ·rename_i id hl
   rw [hr _ hl]
  ·rfl
 ·rfl
end
theorem Acq {s t:St} {T:TypeId} {x y:Operand} (h:s.leaf x=t.leaf x) (hr:∀ id,s.leaf x=some (.row id)→s.res id=t.res id) (hy:s.conc y=t.conc y):La P s T x y=La P t T x y:=by
 unfold La
 rw [Aw9 h hr,hy]
theorem Avm {s t:St} {T:TypeId} {x:Operand} (h:s.leaf x=t.leaf x) (hr:∀ id,s.leaf x=some (.row id)→s.res id=t.res id) (hy:s.conc x=t.conc x):Aot P s T x=Aot P t T x:=by
 unfold Aot
 rw [Aw9 h hr,hy]
theorem As8 {s t:St} {X:Option (List Bool×Lf)} {av:AV} {v':St} (e:Ml (lfC t X)=some (av,v')):v'=t∧Ml (lfC s X)=some (av,s):=by
 cases X with
 | none=>cases e
 | some p=>
  simp only [lfC,Ml] at e ⊢
  split at e<;>cases e
  rename_i hq
  exact ⟨rfl,by rw [if_pos hq]⟩
theorem Ajl {s t:St} {X:Option Value} {av:AV} {v':St} (e:Ml (v0 t X)=some (av,v')):v'=t∧Ml (v0 s X)=some (av,s):=by
 cases X with
 | none=>cases e
 | some p=>
  simp only [v0,Ml] at e ⊢
  split at e<;>cases e
  rename_i hq
  exact ⟨rfl,by rw [if_pos hq]⟩
theorem Acr {s t:St}:∀ {l:List Operand},(∀ y∈l,s.conc y=t.conc y)→We s l=We t l
 | [],_=>rfl
 | y::r,h=>by
  simp only [We]
  rw [h y (by simp),Acr (fun z hz=>h z (by simp [hz]))]
theorem Ans {s t:St} {T:TypeId} {x:Operand} (h:s.leaf x=t.leaf x) (hr:∀ id,s.leaf x=some (.row id)→s.res id=t.res id):U6 P s T x=U6 P t T x:=by
 unfold U6
 rw [← h]
 split
 ·rename_i hl
  rw [hr _ hl]
 ·rfl
theorem Avn {sigs:Tb} {nid:Nat} {o:Oper} {t v':St} {av:AV} (hl:Nj o=true) (hc:∀ i∈D2 o,t.cell i=s.cell i) (hr:Anq o=false→∀ i∈D2 o,∀ id∈Ni (t.cell i),t.res id=s.res id)
  (e:Rg P sigs t nid o=some (av,v')):v'=t∧Rg P sigs s nid o=some (av,s):=by
 obtain ⟨dst,op,type,pos,after,guard⟩:=o
 cases op<;>simp only [Nj] at hl<;>first | (cases hl; done) | skip
 case move x=>
  have hx:t.op x=s.op x:=Aco (fun i hi=>hc i (by simpa [D2,Op.operands] using hi))
  simp only [Bool.not_eq_true'] at hl
  simp only [Rg,Nh,Ack,U7,Y2,hl,avS,Ml,P1] at e ⊢
  cases e
  exact ⟨rfl,by rw [hx]; rfl⟩
 case assign x=>
  have hx:t.op x=s.op x:=Aco (fun i hi=>hc i (by simpa [D2,Op.operands] using hi))
  simp only [Bool.not_eq_true'] at hl
  simp only [Rg,Nh,Ack,U7,Y2,hl,avS,Ml,P1] at e ⊢
  cases e
  exact ⟨rfl,by rw [hx]; rfl⟩
 case indexAddr T x y=>
  have hs1:Lb [x] ⊆ D2 ⟨dst,.indexAddr T x y,type,pos,after,guard⟩:=fun i hi=>by
   cases x<;>simp [Lb,D2,Op.operands] at hi ⊢
   exact .inl hi
  have hs2:Lb [y] ⊆ D2 ⟨dst,.indexAddr T x y,type,pos,after,guard⟩:=fun i hi=>by
   cases x<;>cases y<;>simp [Lb,D2,Op.operands] at hi ⊢<;>first | exact hi | exact .inr hi
  have hx:=Ao8 (Aco (s:=t) (t:=s) (x:=x) (fun i hi=>hc i (hs1 hi)))
  have hy:=Ae9 (Aco (s:=t) (t:=s) (x:=y) (fun i hi=>hc i (hs2 hi)))
  have hrr:∀ id,t.leaf x=some (.row id)→t.res id=s.res id:=fun id hid=>by
   obtain ⟨i,h1,h2⟩:=As6 hid
   exact hr rfl i (hs1 h1) id h2
  simp only [Rg,Nh,Ack,U7] at e ⊢
  rw [Acp hx hrr,Anr hx hrr hy,Acq hx hrr hy] at e
  split at e
  ·rename_i hq
   rw [if_pos hq]
   exact As8 e
  ·rename_i hq
   rw [if_neg hq]
   exact As8 e
 case call c=>
  obtain ⟨callee,args,argTypes⟩:=c
  have hcal:callee=.builtin .len:=by
   split at hl
   ·rename_i hq; exact hq
   ·cases hl
  subst hcal
  simp only [Rg,Nh,Ack,U7] at e ⊢
  split at e
  ·rename_i x T ha ht
   have ha':args=#[x]:=by apply Array.toList_inj.1; simpa using ha
   subst ha'
   have hs1:Lb [x] ⊆ D2 ⟨dst,.call ⟨.builtin .len,#[x],argTypes⟩,type,pos,after,guard⟩:=fun i hi=>by
    cases x<;>simp [Lb,D2,Op.operands,Call.operands] at hi ⊢
    exact hi
   have hop:=Aco (s:=t) (t:=s) (x:=x) (fun i hi=>hc i (hs1 hi))
   have hx:=Ao8 hop
   have hrr:∀ id,t.leaf x=some (.row id)→t.res id=s.res id:=fun id hid=>by
    obtain ⟨i,h1,h2⟩:=As6 hid
    exact hr rfl i (hs1 h1) id h2
   have hcc:Mj P t ⟨dst,.call ⟨.builtin .len,#[x],argTypes⟩,type,pos,after,guard⟩=Mj P s ⟨dst,.call ⟨.builtin .len,#[x],argTypes⟩,type,pos,after,guard⟩:=by
    have hcx:=Ae9 hop
    unfold Mj
    have e1:∀ y∈(Op.call ⟨.builtin .len,#[x],argTypes⟩).operands.toList,t.conc y=s.conc y:=fun y hy=>by
     simp [Op.operands,Call.operands] at hy
     rw [hy]; exact hcx
    rw [Acr e1]
    split
    ·have:execOp (fun x=>(t.conc x).getD undef) ⟨dst,.call ⟨.builtin .len,#[x],argTypes⟩,type,pos,after,guard⟩=execOp (fun x=>(s.conc x).getD undef) ⟨dst,.call ⟨.builtin .len,#[x],argTypes⟩,type,pos,after,guard⟩:=
      execOp_congr _ (fun cs b q=>by cases q) (fun y hy=>by show (t.conc y).getD undef=(s.conc y).getD undef; rw [e1 y (Array.mem_toList_iff.2 hy)])
     rw [this]
    ·rfl
   split at e
   ·rename_i hsl
    rw [if_pos hsl]
    rw [Acp hx hrr,As7 hx hrr,Avm hx hrr (Ae9 hop)] at e
    split at e
    ·rename_i hq
     rw [if_pos hq]
     exact Ajl e
    ·rename_i hq
     rw [if_neg hq]
     exact Ajl e
   ·rename_i hsl
    rw [if_neg hsl]
    rw [hcc,Ans hx hrr] at e
    split at e
    ·rename_i hq
     rw [if_pos hq]
     exact Ajl e
    ·rename_i hq
     rw [if_neg hq]
     exact Ajl e
  ·cases e
theorem A0q {sigs:Tb} (hs:A2 P sigs) (h:B8 n B Iq s g a w) {nid:Nat} {o:Oper} {av:AV} {v':St} (e:o5 P sigs s nid o=some (av,v')):
  Nf P n B Iq s g a w o av (if Nj o then s else s.lay v' (Ri s o++Nb nid)):=by
 unfold o5 at e
 dsimp only at e
 split at e
 ·rename_i hfr
  split at e
  ·rename_i hcl
   obtain ⟨p,e1,e⟩:=Option.bind_eq_some_iff.1 e
   split at e
   ·rename_i h1
    split at e<;>cases e
    rename_i h2
    cases hlt:Nj o with
    | true=>
     refine Y5 hs h (Avn (t:=s.view (D2 o) (Ri s o)) hlt (fun i hi=>?_) (fun hm i hi id hid=>?_) e1).2
     ·simp [St.view,Cu.2 hi]
     ·have:(s.view (D2 o) (Ri s o)).cell i=s.cell i:=by simp [St.view,Cu.2 hi]
      rw [this] at hid
      simp [St.view,Cu.2 (Akr hm i hi id hid)]
    | false=>
     have c1:=Ao7 hcl
     have c2:=Ao7 h2
     have hmv:Anq o=false:=by
      cases hq:Anq o with
      | false=>rfl
      | true=>rw [A0n hq] at hlt; cases hlt
     rw [hmv,Bool.false_or] at h1
     have hV:=A0p h (sl:=D2 o) (ids:=Ri s o) (Akr hmv) c1.1 (c1.2 hlt)
     intro K Q hK
     refine Y5 hs hV e1 K Q fun v gv' w' k1 k2 k3=>?_
     obtain ⟨g',q1,q2,q3⟩:=A4y h (Aam hfr) k1 k2 (Ae8.1 h1) c2.1 (c2.2 hlt)
     exact hK v g' w' q1 q2 (q3 v k3)
   ·cases e
  ·cases e
 ·cases e
end
end Go.Proofs.YtfkefgbihlfjmaaGreat.R

