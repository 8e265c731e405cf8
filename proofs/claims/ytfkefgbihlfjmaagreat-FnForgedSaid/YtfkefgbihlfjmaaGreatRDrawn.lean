/- A region whose order is drawn: every order leads to the same. No condition. -/
import Derived.Test.YtfkefgbihlfjmaaGreatRRegion
namespace Go.Proofs.YtfkefgbihlfjmaaGreat.R
open Go Go.RowKit
set_option linter.unusedVariables false
set_option linter.unusedSimpArgs false
structure Ent where
 o:Oper
 nid:Nat
 run:Bool
 ids:List Nat
 av:AV
 res:Nat→Res
 wr:List Nat
def Ent.quiet (P:Program) (e:Ent):Bool:=!e.run || Ant P e.o
def Ent.app (P:Program) (n:Nat) (e:Ent) (s:St):St:=St.put n (if e.quiet P then s else ⟨s.cell,fun id=>if Kr e.wr id then e.res id else s.res id⟩) e.o.dst e.av
def As9 (ops:Array Oper) (o:Oper):List Nat:=match o.guard with
 | some (j,_)=>match ops[j]? with
  | some oj=>match oj.dst with
   | some d=>[d]
   | none=>[]
  | none=>[]
 | none=>[]
def Ent.looks (ops:Array Oper) (e:Ent):List Nat:=(if e.run then D2 e.o else [])++As9 ops e.o
def A0s:List Md→Bool
 | []=>true
 | .rd _::r=>A0s r
 | _=>false
def wrO (T:Tb) (v:St) (nid:Nat) (o:Oper) (m:List Nat):List Nat:=match o.op with
 | .store _ x _=>(match v.leaf x with
  | some (.ptr id _)=>if Kr m id then [id] else m
  | _=>m)
 | .call _=>(match Nh o with
  | some (f,_)=>(match T.sd f with
   | some sd=>if A0s sd.sg.ps&&(In sd.sg.rs&&(Nd sd.sg.ps&&Nat.ble (Ks sd.sg.rs) 4)) then Nb nid else m
   | none=>m)
  | none=>m)
 | _=>m
def Y7 (T:Tb) (s:St) (nid:Nat) (o:Oper) (av:AV) (v:St):Ent:=⟨o,nid,true,Ri s o++Nb nid,av,v.res,wrO T (s.view (D2 o) (Ri s o)) nid o (Ri s o++Nb nid)⟩
def Acs (nid:Nat) (o:Oper):Ent:=⟨o,nid,false,[],.tp [],fun _=>.unborn,[]⟩
def Ayw (P:Program) (sigs:Tb) (ops:Array Oper) (s:St) (e:Ent):Prop:=
 (L7 s ops e.o=some true∧∃ av v,o5 P sigs s e.nid e.o=some (av,v)∧e=Y7 sigs s e.nid e.o av v)∨(L7 s ops e.o=some false∧e=Acs e.nid e.o)
def Aan (P:Program) (sigs:Tb) (ops:Array Oper) (n:Nat):List Ent→St→Prop
 | [],_=>True
 | e::r,s=>Ayw P sigs ops s e∧Aan P sigs ops n r (e.app P n s)
def Wv (P:Program) (n:Nat) (D:Nat→Bool):Nat→List Ent→St→St
 | _,[],s=>s
 | i,e::r,s=>Wv P n D (i + 1) r (if D i then e.app P n s else s)
def Aq6 (o:Oper) (l:List Nat):Bool:=match o.dst with
 | some d=>Kr l d
 | none=>false
def Axa (o o':Oper):Bool:=match o.dst,o'.dst with
 | some d,some d'=>Nat.beq d d'
 | _,_=>false
def Aks (l m:List Nat):Bool:=match l with
 | []=>false
 | i::r=>Kr m i || Aks r m
def Nk (P:Program) (ops:Array Oper) (e f:Ent):Bool:=
 !Aq6 e.o (f.looks ops)&&!Aq6 f.o (e.looks ops)&&!Axa e.o f.o&&((e.quiet P || !Aks e.wr f.ids)&&(f.quiet P || !Aks f.wr e.ids)&&(e.quiet P || f.quiet P || !Aks e.wr f.wr))
def Ti (o:Oper):List Nat:=(o.after.toList.filter fun e=>Region.binds .any e).map (·.on)
def Ag7 (ancs:List Nat):List Nat→Nat
 | []=>0
 | p::r=>((1 <<< p) ||| (ancs.getD p 0)) ||| Ag7 ancs r
def Akt (P:Program) (ops:Array Oper) (A:Nat) (e:Ent):Nat→List Ent→Bool
 | _,[]=>true
 | k,d::r=>(A.testBit k || Nk P ops d e)&&Akt P ops A e (k + 1) r
def Ata (i:Nat):List Nat→Bool
 | []=>true
 | p::r=>Nat.blt p i&&Ata i r
def Ayx (P:Program) (ops:Array Oper):Nat→List Ent→List Nat→List Ent→Bool
 | _,_,_,[]=>true
 | i,done,ancs,e::r=>Ata i (Ti e.o)&&(Akt P ops (Ag7 ancs (Ti e.o)) e 0 done&&Ayx P ops (i + 1) (done++[e]) (ancs++[Ag7 ancs (Ti e.o)]) r)
section
variable {P:Program} {n B:Nat} {Iq:List Nat} {sigs:Tb} {ops:Array Oper}
theorem Afa {l m:List Nat}:Aks l m=false↔∀ i∈l,i ∉ m:=by
 induction l with
 | nil=>simp [Aks]
 | cons j r ih=>
  simp only [Aks,Bool.or_eq_false_iff,ih,List.forall_mem_cons]
  constructor
  ·rintro ⟨h1,h2⟩
   exact ⟨fun q=>(by rw [Cu.2 q] at h1; cases h1),h2⟩
  ·rintro ⟨h1,h2⟩
   refine ⟨?_,h2⟩
   cases hq:Kr m j
   ·rfl
   ·exact absurd (Cu.1 hq) h1
theorem Ao9 {i:Nat} {l:List Nat}:Ata i l=true↔∀ p∈l,p < i:=by
 induction l with
 | nil=>simp [Ata]
 | cons j r ih=>simp [Ata,ih,Nat.blt_eq]
def Apa (P:Program) (ops:Array Oper) (e' e:Ent):Prop:=(∀ d,e'.o.dst=some d→d ∉ e.looks ops)∧(e'.quiet P=false→∀ id∈e'.wr,id ∉ e.ids)
theorem Acu {o:Oper} {l:List Nat} (h:Aq6 o l=false):∀ d,o.dst=some d→d ∉ l:=by
 intro d hd q
 unfold Aq6 at h
 rw [hd] at h
 simp only at h
 rw [Cu.2 q] at h
 cases h
theorem Acv {e f:Ent} (h:Nk P ops e f=true):Apa P ops e f∧Apa P ops f e:=by
 simp only [Nk,Bool.and_eq_true,Bool.not_eq_true',Bool.or_eq_true] at h
 obtain ⟨⟨⟨h1,h2⟩,h3⟩,⟨h4,h5⟩,_⟩:=h
 refine ⟨⟨Acu h1,fun q id hid=>?_⟩,⟨Acu h2,fun q id hid=>?_⟩⟩
 ·rcases h4 with h4 | h4
  ·rw [h4] at q; cases q
  ·exact Afa.1 h4 id hid
 ·rcases h5 with h5 | h5
  ·rw [h5] at q; cases q
  ·exact Afa.1 h5 id hid
theorem A0t (s:St) (d:Option Tmp) (av:AV) (x:Nat):(s.put n d av).cell x=if (d=some x∧Nat.blt x n=true) then av else s.cell x:=by
 cases d with
 | none=>simp [St.put]
 | some d=>
  unfold St.put
  simp only
  by_cases q:x=d
  ·subst q
   by_cases hn:Nat.blt x n=true
   ·simp [hn,St.setCell]
   ·simp [hn]
  ·have:¬ (some d=some x∧Nat.blt x n=true):=fun h=>q (Option.some.inj h.1).symm
   rw [if_neg this]
   split
   ·simp [St.setCell,A1 _ _ q]
   ·rfl
theorem Rj (e:Ent) (s:St) (x:Nat):(e.app P n s).cell x=if (e.o.dst=some x∧Nat.blt x n=true) then e.av else s.cell x:=by
 unfold Ent.app
 rw [A0t]
 split
 ·rfl
 ·split<;>rfl
theorem Ww (e:Ent) (s:St) (id:Nat):(e.app P n s).res id=if e.quiet P=false∧id∈e.wr then e.res id else s.res id:=by
 unfold Ent.app
 rw [Ajj]
 by_cases q:e.quiet P=true
 ·simp [q]
 ·have q:e.quiet P=false:=by simpa using q
  simp only [q,Bool.false_eq_true,if_false,true_and]
  by_cases hm:id∈e.wr
  ·simp [hm,Cu.2 hm]
  ·have:Kr e.wr id=false:=by
    cases hq:Kr e.wr id
    ·rfl
    ·exact absurd (Cu.1 hq) hm
   simp [hm,this]
theorem St.ext' {s t:St} (h1:∀ i,s.cell i=t.cell i) (h2:∀ id,s.res id=t.res id):s=t:=by
 obtain ⟨c,r⟩:=s
 obtain ⟨c',r'⟩:=t
 congr
 ·exact funext h1
 ·exact funext h2
theorem A0u {e f:Ent} (h:Nk P ops e f=true) (s:St):f.app P n (e.app P n s)=e.app P n (f.app P n s):=by
 have hd:∀ d,e.o.dst=some d→f.o.dst≠some d:=by
  intro d h1 h2
  simp only [Nk,Bool.and_eq_true,Bool.not_eq_true'] at h
  have:=h.1.2
  unfold Axa at this
  rw [h1,h2] at this
  simp at this
 have hr:∀ id,e.quiet P=false→id∈e.wr→¬ (f.quiet P=false∧id∈f.wr):=fun id q1 q2 q3=>by
  simp only [Nk,Bool.and_eq_true,Bool.not_eq_true',Bool.or_eq_true] at h
  rcases h.2.2 with (h4 | h4) | h4
  ·rw [h4] at q1; cases q1
  ·rw [h4] at q3; cases q3.1
  ·exact Afa.1 h4 id q2 q3.2
 refine St.ext' (fun i=>?_) (fun id=>?_)
 ·rw [Rj,Rj,Rj,Rj]
  by_cases h1:e.o.dst=some i∧Nat.blt i n=true
  ·have h2:¬ (f.o.dst=some i∧Nat.blt i n=true):=fun q=>hd i h1.1 q.1
   rw [if_neg h2,if_pos h1,if_pos h1]
  ·rw [if_neg h1,if_neg h1]
 ·rw [Ww,Ww,Ww,Ww]
  by_cases h1:e.quiet P=false∧id∈e.wr
  ·rw [if_neg (hr id h1.1 h1.2),if_pos h1,if_pos h1]
  ·rw [if_neg h1,if_neg h1]
def Oh (s t:St) (L I:List Nat):Prop:=(∀ x∈L,s.cell x=t.cell x)∧∀ id∈I,s.res id=t.res id
theorem Oh.app {s t:St} {L I:List Nat} (h:Oh s t L I) (e:Ent):Oh (e.app P n s) (e.app P n t) L I:=by
 refine ⟨fun x hx=>?_,fun id hid=>?_⟩
 ·rw [Rj,Rj,h.1 x hx]
 ·rw [Ww,Ww,h.2 id hid]
theorem Apa.agree {e' e:Ent} (h:Apa P ops e' e) (s:St):Oh (e'.app P n s) s (e.looks ops) e.ids:=by
 refine ⟨fun x hx=>?_,fun id hid=>?_⟩
 ·rw [Rj,if_neg (fun q=>h.1 x q.1 hx)]
 ·rw [Ww,if_neg (fun q=>h.2 q.1 id q.2 hid)]
theorem Oh.trans {s t u:St} {L I:List Nat} (h:Oh s t L I) (k:Oh t u L I):Oh s u L I:=⟨fun x hx=>(h.1 x hx).trans (k.1 x hx),fun x hx=>(h.2 x hx).trans (k.2 x hx)⟩
theorem Oh.symm {s t:St} {L I:List Nat} (h:Oh s t L I):Oh t s L I:=⟨fun x hx=>(h.1 x hx).symm,fun x hx=>(h.2 x hx).symm⟩
theorem Xi {s t:St}:∀ {sl:List Nat},(∀ x∈sl,s.cell x=t.cell x)→H3 s sl=H3 t sl
 | [],_=>rfl
 | i::r,h=>by
  simp only [H3]
  rw [h i (by simp),Xi (fun x hx=>h x (by simp [hx]))]
theorem Pf {s t:St}:∀ {l:List Nat},(∀ x∈l,s.res x=t.res x)→Ju s l=Ju t l
 | [],_=>rfl
 | i::r,h=>by
  simp only [Ju]
  rw [h i (by simp),Pf (fun x hx=>h x (by simp [hx]))]
theorem Ag8 {s t:St} {sl:List Nat} (h1:∀ x∈sl,s.cell x=t.cell x) (h2:∀ id∈Acm s sl,s.res id=t.res id):Acm t sl=Acm s sl:=by
 unfold Acm at h2 ⊢
 dsimp only at h2 ⊢
 rw [← Xi h1]
 have e1:Ju t (H3 s sl)=Ju s (H3 s sl):=(Pf (fun x hx=>h2 x (List.mem_append_left _ (List.mem_append_left _ hx)))).symm
 rw [e1]
 have e2:Ju t (H3 s sl++Ju s (H3 s sl))=Ju s (H3 s sl++Ju s (H3 s sl)):=(Pf (fun x hx=>h2 x (List.mem_append_left _ hx))).symm
 rw [e2]
theorem Wx {s t:St}:∀ {l:List Nat},(∀ x∈l,s.res x=t.res x)→Aal s l=Aal t l
 | [],_=>rfl
 | i::r,h=>by
  simp only [Aal]
  rw [h i (by simp),Wx (fun x hx=>h x (by simp [hx]))]
theorem Aku {s t:St} {o:Oper} (h1:∀ x∈D2 o,s.cell x=t.cell x) (h2:∀ id∈Ri s o,s.res id=t.res id):Ri t o=Ri s o:=by
 unfold Ri at h2 ⊢
 by_cases hm:Anq o=true
 ·rw [if_pos hm,if_pos hm]
 rw [if_neg hm] at h2
 rw [if_neg hm,if_neg hm]
 split
 ·rename_i hq
  rw [if_pos hq] at h2
  exact Ag8 h1 h2
 ·rename_i hq
  rw [if_neg hq] at h2
  have h3:∀ id∈Acm s (D2 o),s.res id=t.res id:=fun id q=>h2 id (List.mem_append_left _ q)
  rw [Ag8 h1 h3,← Wx h3]
theorem Anu {s t:St} {o:Oper} {m:List Nat} (h:∀ id∈m,s.res id=t.res id):Qx o t m=Qx o s m:=by
 unfold Qx
 rw [Pf h,Wx h]
theorem Acw {s t:St}:∀ {k nid:Nat},(∀ id,nid≤id→id < nid + k→s.res id=t.res id)→Oo t nid k=Oo s nid k
 | 0,_,_=>rfl
 | k + 1,nid,h=>by
  simp only [Oo]
  rw [h nid (Nat.le_refl _) (by omega),Acw (fun id q1 q2=>h id (by omega) (by omega))]
theorem Akv {s t:St} {sl ids:List Nat} (h1:∀ x∈sl,s.cell x=t.cell x) (h2:∀ id∈ids,s.res id=t.res id):t.view sl ids=s.view sl ids:=by
 refine St.ext' (fun i=>?_) (fun id=>?_)
 ·show (if Kr sl i then t.cell i else .dead)=(if Kr sl i then s.cell i else .dead)
  split
  ·rename_i q; rw [h1 i (Cu.1 q)]
  ·rfl
 ·show (if Kr ids id then t.res id else .unborn)=(if Kr ids id then s.res id else .unborn)
  split
  ·rename_i q; rw [h2 id (Cu.1 q)]
  ·rfl
theorem Atb {s t:St} {nid:Nat} {o:Oper} (h1:∀ x∈D2 o,s.cell x=t.cell x) (h2:∀ id∈Ri s o++Nb nid,s.res id=t.res id):o5 P sigs t nid o=o5 P sigs s nid o:=by
 have h3:∀ id∈Ri s o,s.res id=t.res id:=fun id q=>h2 id (List.mem_append_left _ q)
 unfold o5
 dsimp only
 rw [Aku h1 h3,Akv h1 h3,← Anu h3,Acw (s:=s) (t:=t) (fun id q1 q2=>h2 id (List.mem_append_right _ (by
  simp only [Nb,List.mem_cons,List.not_mem_nil,or_false,Akp] at q2 ⊢
  omega)))]
theorem Avp {s t:St} {o:Oper} {j:Nat} {want:Bool} (hg:o.guard=some (j,want)) (h:∀ x∈As9 ops o,s.cell x=t.cell x):Avo t ops j=Avo s ops j:=by
 unfold As9 at h
 rw [hg] at h
 simp only at h
 unfold Avo
 split
 ·rename_i oj hoj
  rw [hoj] at h
  simp only at h
  split
  ·rename_i d hd
   rw [hd] at h
   simp only [List.mem_cons,List.not_mem_nil,or_false,forall_eq] at h
   rw [h]
  ·rfl
 ·rfl
theorem o7 {s t:St} {o:Oper} (h:∀ x∈As9 ops o,s.cell x=t.cell x):L7 t ops o=L7 s ops o:=by
 unfold L7
 split
 ·rfl
 ·rename_i j want hg
  rw [Avp hg h]
theorem Ayw.local {s t:St} {e:Ent} (h:Ayw P sigs ops s e) (ha:Oh s t (e.looks ops) e.ids):Ayw P sigs ops t e:=by
 have hg:∀ x∈As9 ops e.o,s.cell x=t.cell x:=fun x hx=>ha.1 x (List.mem_append_right _ hx)
 rcases h with ⟨h1,av,v,h2,h3⟩ | ⟨h1,h2⟩
 ·left
  have hrun:e.run=true:=by rw [h3]; rfl
  have hids:e.ids=Ri s e.o++Nb e.nid:=by rw [h3]; rfl
  have c1:∀ x∈D2 e.o,s.cell x=t.cell x:=fun x hx=>ha.1 x (List.mem_append_left _ (by rw [hrun]; exact hx))
  have c2:∀ id∈Ri s e.o++Nb e.nid,s.res id=t.res id:=fun id hid=>ha.2 id (by rw [hids]; exact hid)
  refine ⟨by rw [o7 hg]; exact h1,av,v,by rw [Atb c1 c2]; exact h2,?_⟩
  have:Y7 sigs t e.nid e.o av v=Y7 sigs s e.nid e.o av v:=by
   unfold Y7
   rw [Aku c1 (fun id hid=>c2 id (List.mem_append_left _ hid)),Akv c1 (fun id hid=>c2 id (List.mem_append_left _ hid))]
  rw [this]
  exact h3
 ·exact .inr ⟨by rw [o7 hg]; exact h1,h2⟩
theorem Akw {D:Nat→Bool} {e:Ent}:∀ {tr:List Ent} {k:Nat} {s:St},(∀ j f,tr[j]?=some f→D (k + j)=true→Nk P ops e f=true)→Wv P n D k tr (e.app P n s)=e.app P n (Wv P n D k tr s)
 | [],_,_,_=>rfl
 | f::r,k,s,h=>by
  simp only [Wv]
  have h':∀ j f',r[j]?=some f'→D (k + 1 + j)=true→Nk P ops e f'=true:=fun j f' h1 h2=>h (j + 1) f' (by simpa using h1) (by rw [← h2]; congr 1; omega)
  split
  ·rename_i hD
   rw [A0u (h 0 f rfl hD),Akw h']
  ·exact Akw h'
theorem Afb {D D':Nat→Bool}:∀ {tr:List Ent} {k:Nat} {s:St},(∀ j,j < tr.length→D (k + j)=D' (k + j))→Wv P n D k tr s=Wv P n D' k tr s
 | [],_,_,_=>rfl
 | f::r,k,s,h=>by
  simp only [Wv]
  have h0:D k=D' k:=h 0 (by simp)
  rw [h0]
  exact Afb (fun j hj=>by have:=h (j + 1) (by simpa using hj); rw [show k + 1 + j=k + (j + 1) by omega]; exact this)
theorem Axb {D D':Nat→Bool} {e:Ent}:∀ {tr:List Ent} {k i:Nat} {s:St},tr[i]?=some e→D (k + i)=false→D' (k + i)=true→(∀ j,j≠i→D' (k + j)=D (k + j))→
  (∀ j f,i < j→tr[j]?=some f→D (k + j)=true→Nk P ops e f=true)→Wv P n D' k tr s=e.app P n (Wv P n D k tr s)
 | [],_,_,_,h,_,_,_,_=>by simp at h
 | f::r,k,0,s,h,h1,h2,h3,h4=>by
  simp at h
  subst h
  simp only [Wv]
  have h1':D k=false:=h1
  have h2':D' k=true:=h2
  rw [h1',h2']
  simp only [if_true,Bool.false_eq_true,if_false]
  rw [Afb (D:=D') (D':=D) (fun j hj=>by have:=h3 (j + 1) (by omega); rw [show k + 1 + j=k + (j + 1) by omega]; exact this)]
  exact Akw (fun j f' q1 q2=>h4 (j + 1) f' (by omega) (by simpa using q1) (by rw [← q2]; congr 1; omega))
 | f::r,k,i + 1,s,h,h1,h2,h3,h4=>by
  simp only [Wv]
  have h0:D' k=D k:=h3 0 (by omega)
  rw [h0]
  refine Axb (i:=i) (by simpa using h) (by rw [← h1]; congr 1; omega) (by rw [← h2]; congr 1; omega) (fun j hj=>?_) (fun j f' q1 q2 q3=>?_)
  ·have:=h3 (j + 1) (by omega)
   rw [show k + 1 + j=k + (j + 1) by omega]
   exact this
  ·exact h4 (j + 1) f' (by omega) (by simpa using q2) (by rw [← q3]; congr 1; omega)
theorem Afc {D:Nat→Bool} {e:Ent}:∀ {tr:List Ent} {k i:Nat} {s t:St},Oh s t (e.looks ops) e.ids→
  (∀ j f,tr[j]?=some f→j < i→D (k + j)=false→Apa P ops f e)→(∀ j f,tr[j]?=some f→i≤j→D (k + j)=true→Apa P ops f e)→
  Oh (Wv P n D k tr s) (Wv P n (fun _=>true) k (tr.take i) t) (e.looks ops) e.ids
 | [],k,i,s,t,h,_,_=>by simpa [Wv] using h
 | f::r,k,0,s,t,h,h1,h2=>by
  simp only [Wv,List.take_zero]
  have ih:∀ s',Oh s' t (e.looks ops) e.ids→Oh (Wv P n D (k + 1) r s') t (e.looks ops) e.ids:=fun s' q=>by
   have:=Afc (D:=D) (tr:=r) (k:=k + 1) (i:=0) q (fun j f' q1 q2=>by omega) (fun j f' q1 _ q3=>h2 (j + 1) f' (by simpa using q1) (by omega) (by rw [← q3]; congr 1; omega))
   simpa [Wv] using this
  split
  ·rename_i hD
   exact ih _ (((h2 0 f rfl (by omega) hD).agree s).trans h)
  ·exact ih _ h
 | f::r,k,i + 1,s,t,h,h1,h2=>by
  simp only [Wv,List.take_succ_cons,if_true]
  have ih:∀ s' t',Oh s' t' (e.looks ops) e.ids→Oh (Wv P n D (k + 1) r s') (Wv P n (fun _=>true) (k + 1) (r.take i) t') (e.looks ops) e.ids:=fun s' t' q=>
   Afc (D:=D) q (fun j f' q1 q2 q3=>h1 (j + 1) f' (by simpa using q1) (by omega) (by rw [← q3]; congr 1; omega)) (fun j f' q1 q2 q3=>h2 (j + 1) f' (by simpa using q1) (by omega) (by rw [← q3]; congr 1; omega))
  split
  ·exact ih _ _ (h.app f)
  ·rename_i hD
   have hD:D k=false:=by simpa using hD
   exact ih _ _ (h.trans ((h1 0 f rfl (by omega) hD).agree t).symm)
theorem Aan.get:∀ {tr:List Ent} {k i:Nat} {s:St} {e:Ent},Aan P sigs ops n tr s→tr[i]?=some e→Ayw P sigs ops (Wv P n (fun _=>true) k (tr.take i) s) e
 | [],_,_,_,_,_,h=>by simp at h
 | f::r,k,0,s,e,h,hi=>by
  simp at hi
  subst hi
  simpa [Wv] using h.1
 | f::r,k,i + 1,s,e,h,hi=>by
  simp only [List.take_succ_cons,Wv,if_true]
  exact Aan.get h.2 (by simpa using hi)
def A0v (tr:List Ent) (D:Nat→Prop):Prop:=∀ k e,tr[k]?=some e→D k→∀ p∈Ti e.o,D p
def Bef (tr:List Ent) (i:Nat) (e:Ent):Prop:=∀ D,A0v tr D→(∀ p∈Ti e.o,D p)→D i
theorem Apb {ancs:List Nat} {i:Nat}:∀ {ps:List Nat},(Ag7 ancs ps).testBit i=true→∃ p∈ps,p=i∨(ancs.getD p 0).testBit i=true
 | [],h=>by simp [Ag7] at h
 | p::r,h=>by
  simp only [Ag7,Nat.testBit_or,Bool.or_eq_true] at h
  rcases h with (h | h) | h
  ·refine ⟨p,by simp,.inl ?_⟩
   rw [Nat.one_shiftLeft,Nat.testBit_two_pow] at h
   simpa using h
  ·exact ⟨p,by simp,.inr h⟩
  ·obtain ⟨q,h1,h2⟩:=Apb h
   exact ⟨q,by simp [h1],h2⟩
theorem Akx {A:Nat} {e:Ent}:∀ {l:List Ent} {k:Nat},Akt P ops A e k l=true→∀ j f,l[j]?=some f→A.testBit (k + j)=true∨Nk P ops f e=true
 | [],_,_,j,f,hj=>by simp at hj
 | d::r,k,h,0,f,hj=>by
  simp at hj
  subst hj
  simp only [Akt,Bool.and_eq_true,Bool.or_eq_true] at h
  exact h.1
 | d::r,k,h,j + 1,f,hj=>by
  simp only [Akt,Bool.and_eq_true,Bool.or_eq_true] at h
  have:=Akx h.2 j f (by simpa using hj)
  rw [show k + (j + 1)=k + 1 + j by omega]
  exact this
theorem Atc {tr:List Ent}:∀ {rest done:List Ent} {ancs:List Nat},tr=done++rest→ancs.length=done.length→Ayx P ops done.length done ancs rest=true→
  (∀ k e x,done[k]?=some e→(ancs.getD k 0).testBit x=true→Bef tr x e)→
  (∀ i j e f,tr[i]?=some e→tr[j]?=some f→i < j→j < done.length→Bef tr i f∨Nk P ops e f=true)→
  (∀ j f,tr[j]?=some f→j < done.length→∀ p∈Ti f.o,p < j)→
  (∀ i j e f,tr[i]?=some e→tr[j]?=some f→i < j→Bef tr i f∨Nk P ops e f=true)∧(∀ j f,tr[j]?=some f→∀ p∈Ti f.o,p < j)
 | [],done,ancs,h,_,_,_,h3,h4=>by
  subst h
  rw [List.append_nil]
  refine ⟨fun i j e f h1 h2 h5=>?_,fun j f h1=>?_⟩
  ·have:=h3 i j e f (by rw [List.append_nil]; exact h1) (by rw [List.append_nil]; exact h2) h5 (List.getElem?_eq_some_iff.1 h2).1
   rwa [List.append_nil] at this
  ·exact h4 j f (by rw [List.append_nil]; exact h1) (List.getElem?_eq_some_iff.1 h1).1
 | e::rest,done,ancs,h,hl,hok,h2,h3,h4=>by
  simp only [Ayx,Bool.and_eq_true] at hok
  obtain ⟨k1,k2,k3⟩:=hok
  have hget:tr[done.length]?=some e:=by rw [h]; simp
  have hbef:∀ x,(Ag7 ancs (Ti e.o)).testBit x=true→Bef tr x e:=by
   intro x hx D hD hp
   obtain ⟨p,q1,q2⟩:=Apb hx
   rcases q2 with rfl | q2
   ·exact hp _ q1
   ·have hpl:p < done.length:=Ao9.1 k1 p q1
    have hpe:done[p]?=some done[p]:=List.getElem?_eq_getElem hpl
    have hpt:tr[p]?=some done[p]:=by rw [h,List.getElem?_append_left hpl]; exact hpe
    exact h2 p _ x hpe q2 D hD (hD p _ hpt (hp p q1))
  have hlen:(done++[e]).length=done.length + 1:=by simp
  refine Atc (rest:=rest) (done:=done++[e]) (ancs:=ancs++[Ag7 ancs (Ti e.o)]) (by rw [h]; simp) (by simp [hl]) (by rw [hlen]; exact k3) ?_ ?_ ?_
  ·intro k f x hk hx
   by_cases q:k < done.length
   ·rw [List.getElem?_append_left q] at hk
    refine h2 k f x hk ?_
    rw [List.getD_eq_getElem?_getD,List.getElem?_append_left (by omega),← List.getD_eq_getElem?_getD] at hx
    exact hx
   ·have hkl:=(List.getElem?_eq_some_iff.1 hk).1
    have hke:k=done.length:=by simp at hkl; omega
    subst hke
    simp at hk
    subst hk
    rw [List.getD_eq_getElem?_getD,← hl] at hx
    simp at hx
    exact hbef x hx
  ·intro i j f f' q1 q2 q3 q4
   by_cases q:j < done.length
   ·exact h3 i j f f' q1 q2 q3 q
   ·have:j=done.length:=by simp at q4; omega
    subst this
    rw [hget] at q2
    cases q2
    have hi:done[i]?=some f:=by rw [h,List.getElem?_append_left q3] at q1; exact q1
    rcases Akx k2 i f hi with q5 | q5
    ·exact .inl (hbef i (by simpa using q5))
    ·exact .inr q5
  ·intro j f q1 q2
   by_cases q:j < done.length
   ·exact h4 j f q1 q
   ·have:j=done.length:=by simp at q2; omega
    subst this
    rw [hget] at q1
    cases q1
    exact Ao9.1 k1
end
end Go.Proofs.YtfkefgbihlfjmaaGreat.R

