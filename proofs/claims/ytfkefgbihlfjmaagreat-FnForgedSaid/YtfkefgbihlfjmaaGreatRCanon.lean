/- A state, told anew: what is named is numbered by its place. No condition. -/
import Derived.Test.YtfkefgbihlfjmaaGreatRAny
namespace Go.Proofs.YtfkefgbihlfjmaaGreat.R
open Go Go.RowKit
set_option linter.unusedVariables false
set_option linter.unusedSimpArgs false
def Atf (l:List (Nat×AV)) (i:Nat):AV:=match l with
 | []=>.dead
 | (j,v)::r=>bif Nat.beq j i then v else Atf r i
def Apc (l:List Res) (i:Nat):Res:=match l,i with
 | [],_=>.unborn
 | r::_,0=>r
 | _::l,i + 1=>Apc l i
def Atg (cs:List (Nat×AV)) (rs:List Res):St:=⟨Atf cs,Apc rs⟩
def U9 (us:List Nat) (id:Nat):Option Nat:=match us with
 | []=>none
 | j::r=>bif Nat.beq j id then some 0 else (U9 r id).map (· + 1)
def Akz (s:St) (us:List Nat):Lf→Option Lf
 | .c v=>some (.c v)
 | .sl t xs=>some (.sl t xs)
 | .row id=>match s.res id with
  | .frozen t xs=>some (.sl t xs)
  | _=>(U9 us id).map .row
 | .ptr id off=>(U9 us id).map fun j=>.ptr j off
 | .ep t xs i off=>some (.ep t xs i off)
 | .rp id i off=>(U9 us id).map fun j=>.rp j i off
 | .sp id=>(U9 us id).map fun j=>.sp j
def Acx (s:St) (us:List Nat):List Lf→Option (List Lf)
 | []=>some []
 | l::r=>(Akz s us l).bind fun l'=>(Acx s us r).map fun r'=>l'::r'
def Axe (s:St) (us:List Nat):Vl→Option Vl
 | .lf l=>(Akz s us l).map .lf
 | .ag ls=>(Acx s us ls).map .ag
def Afd (s:St) (us:List Nat):List Vl→Option (List Vl)
 | []=>some []
 | l::r=>(Axe s us l).bind fun l'=>(Afd s us r).map fun r'=>l'::r'
def Ak0 (s:St) (us:List Nat):AV→AV
 | .dead=>.dead
 | .vl v=>match Axe s us v with
  | some v=>.vl v
  | none=>.dead
 | .tp vs=>match Afd s us vs with
  | some vs=>.tp vs
  | none=>.dead
 | .fn f ls=>match Acx s us ls with
  | some ls=>.fn f ls
  | none=>.dead
def Dv (s:St) (us:List Nat):Res→Res
 | .box T ls=>match Acx s us ls with
  | some ls=>.box T ls
  | none=>.dead
 | .last e t xs c j=>match U9 us j with
  | some j'=>.last e t xs c j'
  | none=>.dead
 | r=>r
def Acy (s:St):List Lf→List Nat
 | []=>[]
 | .row id::r=>match s.res id with
  | .frozen _ _=>Acy s r
  | _=>id::Acy s r
 | .ptr id _::r=>id::Acy s r
 | .rp id _ _::r=>id::Acy s r
 | .sp id::r=>id::Acy s r
 | _::r=>Acy s r
def Axf:List Vl→List Lf
 | []=>[]
 | v::r=>v.ls++Axf r
def A42:AV→List Lf
 | .dead=>[]
 | .vl v=>v.ls
 | .tp vs=>Axf vs
 | .fn _ ls=>ls
def Apd (s:St):List Nat→List Lf
 | []=>[]
 | i::r=>A42 (s.cell i)++Apd s r
def Aq7 (s:St):List Nat→List Lf
 | []=>[]
 | i::r=>(match s.res i with | .box _ ls=>ls | .last _ _ _ _ j=>[.row j] | _=>[])++Aq7 s r
def Ak1 (us:List Nat):List Nat→List Nat
 | []=>us
 | i::r=>if Kr us i then Ak1 us r else Ak1 (us++[i]) r
def A6f (n:Nat):List Nat:=List.range n
def Ajm (s:St) (np:Nat) (live:List Nat):List Nat:=
 let l0:=Ak1 (A6f np) (Acy s (Apd s live))
 let l1:=Ak1 l0 (Acy s (Aq7 s l0))
 Ak1 l1 (Acy s (Aq7 s l1))
def Aq8 (s:St) (us:List Nat):List Nat→List (Nat×AV)
 | []=>[]
 | i::r=>(i,Ak0 s us (s.cell i))::Aq8 s us r
def Anv (s:St) (us:List Nat):List Nat→List Res
 | []=>[]
 | i::r=>Dv s us (s.res i)::Anv s us r
def j4:Nat→Nat→List Nat→Bool
 | _,0,_=>true
 | k,m + 1,i::r=>Nat.beq i k&&j4 (k + 1) m r
 | _,_ + 1,[]=>false
def canon (np:Nat) (live:List Nat) (s:St):Option (St×Nat):=
 let us:=Ajm s np live
 if Rb us&&j4 0 np us then some (Atg (Aq8 s us live) (Anv s us us),us.length) else none
section
variable {P:Program} {n B:Nat} {Iq:List Nat} {s:St} {g:Gh} {a:Act} {w:World}
theorem Ape {us:List Nat} {id j:Nat} (h:U9 us id=some j):us[j]?=some id:=by
 induction us generalizing j with
 | nil=>simp [U9] at h
 | cons k r ih=>
  simp only [U9] at h
  cases hq:Nat.beq k id with
  | true=>
   rw [hq] at h
   simp at h
   subst h
   simp [Nat.eq_of_beq_eq_true hq]
  | false=>
   rw [hq] at h
   simp only [cond_false] at h
   obtain ⟨i,h1,rfl⟩:=Option.map_eq_some_iff.1 h
   simpa using ih h1
theorem Apf {us':List Nat}:∀ {us:List Nat} {j:Nat},Apc (Anv s us' us) j=match us[j]? with | some id=>Dv s us' (s.res id) | none=>.unborn
 | [],_=>by simp [Anv,Apc]
 | i::r,0=>by simp [Anv,Apc]
 | i::r,j + 1=>by
  simp only [Anv,Apc]
  rw [Apf (us:=r)]
  simp
theorem Apg {us:List Nat}:∀ {l:List Nat} {i:Nat},Atf (Aq8 s us l) i=if i∈l then Ak0 s us (s.cell i) else .dead
 | [],i=>by simp [Aq8,Atf]
 | j::r,i=>by
  simp only [Aq8,Atf]
  cases hq:Nat.beq j i with
  | true=>
   have:=Nat.eq_of_beq_eq_true hq
   subst this
   simp
  | false=>
   have:j≠i:=fun e=>by subst e; simp at hq
   simp only [cond_false]
   rw [Apg (l:=r)]
   simp [Ne.symm this]
section
variable {us live:List Nat}
def Ou (s:St) (us:List Nat) (g:Gh):Gh:=⟨fun j=>match us[j]? with | some id=>if (Dv s us (s.res id)).live then g.blk id else none | none=>none,fun j=>match us[j]? with | some id=>g.hdr id | none=>undef,g.av⟩
theorem A0x {r:Res} (h:(Dv s us r).live=true):r.live=true:=by
 cases r<;>simp only [Dv] at h<;>first | exact h | rfl
theorem A0y {s':St} (hs:∀ j,s'.res j=match us[j]? with | some id=>Dv s us (s.res id) | none=>.unborn) (b:Nat) (hb:Eu s g b):Eu s' (Ou s us g) b:=by
 refine ⟨hb.1,fun j hl hk=>?_⟩
 rw [hs] at hl
 simp only [Ou] at hk
 cases hu:us[j]? with
 | none=>rw [hu] at hl; cases hl
 | some id=>
  rw [hu] at hl hk
  simp only at hl hk
  rw [if_pos hl] at hk
  exact hb.2 id (A0x hl) hk
theorem Axg {s':St} (hs:∀ j,s'.res j=match us[j]? with | some id=>Dv s us (s.res id) | none=>.unborn) (hres:∀ id,K8 s g w id (s.res id)):
  ∀ {l l':Lf} {u:Value},Akz s us l=some l'→Dq s g w l u→Dq s' (Ou s us g) w l' u:=by
 have hS:∀ b,Eu s g b→b < w.heap.size→Eu s' (Ou s us g) b∧w.heap[b]?=w.heap[b]?:=fun b hb _=>⟨A0y hs b hb,rfl⟩
 have hat:∀ {id j:Nat},U9 us id=some j→s'.res j=Dv s us (s.res id)∧(Ou s us g).hdr j=g.hdr id∧((Dv s us (s.res id)).live=true→(Ou s us g).blk j=g.blk id):=by
  intro id j h
  have hu:=Ape h
  refine ⟨by rw [hs,hu],by simp only [Ou,hu],fun hl=>by simp only [Ou,hu]; rw [if_pos hl]⟩
 intro l l' u h hl
 cases l with
 | c v=>cases h; exact hl
 | sl t xs=>cases h; exact Ty.K_keep hS hl
 | row id=>
  simp only [Akz] at h
  split at h
  ·rename_i t xs hr
   cases h
   have r:=hres id
   rw [hr] at r
   simp only [Dq,hr] at hl
   rw [hl]
   exact Ty.K_keep hS r.1
  ·rename_i hn
   obtain ⟨j,h1,rfl⟩:=Option.map_eq_some_iff.1 h
   obtain ⟨a1,a2,a3⟩:=hat h1
   simp only [Dq] at hl ⊢
   rw [a1,a2]
   cases hr:s.res id with
   | unborn=>rw [hr] at hl; exact hl.elim
   | dead=>trivial
   | box T ls=>rw [hr] at hl; exact hl.elim
   | row e t xs=>rw [hr] at hl; exact hl
   | frozen t xs=>exact absurd hr (hn t xs)
   | last e t xs c k=>
    rw [hr] at hl
    simp only [Dv]
    cases hq:U9 us k with
    | none=>trivial
    | some k'=>exact hl
   | map t xs=>rw [hr] at hl; exact hl
   | iter t xs seen cur=>rw [hr] at hl; exact hl
 | ptr id off=>
  simp only [Akz] at h
  obtain ⟨j,h1,rfl⟩:=Option.map_eq_some_iff.1 h
  obtain ⟨a1,a2,a3⟩:=hat h1
  simp only [Dq] at hl ⊢
  rw [a1]
  cases hr:s.res id with
  | unborn=>rw [hr] at hl; exact hl.elim
  | dead=>trivial
  | box T ls=>
   rw [hr] at hl a3
   simp only [Dv] at a3 ⊢
   cases hq:Acx s us ls with
   | none=>trivial
   | some ls'=>
    rw [hq] at a3
    obtain ⟨b,hb,hu⟩:=hl
    exact ⟨b,(a3 rfl).trans hb,hu⟩
  | row e t xs=>rw [hr] at hl; exact hl.elim
  | frozen t xs=>rw [hr] at hl; exact hl.elim
  | last _ _ _ _ _=>rw [hr] at hl; exact hl.elim
  | map _ _=>rw [hr] at hl; exact hl.elim
  | iter _ _ _ _=>rw [hr] at hl; exact hl.elim
 | ep t xs i off=>
  cases h
  obtain ⟨ad,cs,h1,h2,h3,h4,h5⟩:=hl
  exact ⟨ad,cs,h1,A0y hs _ h2,h3,Ty.K_keep hS h4,h5⟩
 | rp id i off=>
  simp only [Akz] at h
  obtain ⟨j,h1,rfl⟩:=Option.map_eq_some_iff.1 h
  obtain ⟨a1,a2,a3⟩:=hat h1
  simp only [Dq] at hl ⊢
  rw [a1]
  cases hr:s.res id with
  | unborn=>rw [hr] at hl; exact hl.elim
  | dead=>trivial
  | box T ls=>rw [hr] at hl; exact hl.elim
  | row e t xs=>
   rw [hr] at hl a3
   obtain ⟨hi,b,hb,hu⟩:=hl
   exact ⟨hi,b,(a3 rfl).trans hb,hu⟩
  | frozen t xs=>trivial
  | last e t xs c k=>
   rw [hr] at hl a3
   simp only [Dv] at a3 ⊢
   cases hq:U9 us k with
   | none=>trivial
   | some k'=>
    rw [hq] at a3
    obtain ⟨hi,b,hb,hu⟩:=hl
    exact ⟨hi,b,(a3 rfl).trans hb,hu⟩
  | map _ _=>rw [hr] at hl; exact hl.elim
  | iter _ _ _ _=>rw [hr] at hl; exact hl.elim
 | sp id=>
  simp only [Akz] at h
  obtain ⟨j,h1,rfl⟩:=Option.map_eq_some_iff.1 h
  obtain ⟨a1,a2,a3⟩:=hat h1
  simp only [Dq] at hl ⊢
  rw [a1]
  cases hr:s.res id with
  | unborn=>rw [hr] at hl; exact hl.elim
  | dead=>trivial
  | box T ls=>
   rw [hr] at hl a3
   simp only [Dv] at a3 ⊢
   cases hq:Acx s us ls with
   | none=>trivial
   | some ls'=>
    rw [hq] at a3
    rcases hl with hl | ⟨b,hb,hu⟩
    ·exact .inl hl
    ·exact .inr ⟨b,(a3 rfl).trans hb,hu⟩
  | row e t xs=>rw [hr] at hl; exact hl.elim
  | frozen t xs=>rw [hr] at hl; exact hl.elim
  | last _ _ _ _ _=>rw [hr] at hl; exact hl.elim
  | map _ _=>rw [hr] at hl; exact hl.elim
  | iter _ _ _ _=>rw [hr] at hl; exact hl.elim
section
variable {s':St} (hs:∀ j,s'.res j=match us[j]? with | some id=>Dv s us (s.res id) | none=>.unborn) (hres:∀ id,K8 s g w id (s.res id))
 include hs hres
theorem Ajn:∀ {ls ls':List Lf} {cs:List Value},Acx s us ls=some ls'→G7 s g w ls cs→G7 s' (Ou s us g) w ls' cs
 | [],ls',[],h,_=>by cases h; trivial
 | [],_,_::_,_,h=>h.elim
 | _::_,_,[],_,h=>h.elim
 | l::r,ls',c::cs,h,hL=>by
  simp only [Acx] at h
  obtain ⟨l',h1,h2⟩:=Option.bind_eq_some_iff.1 h
  obtain ⟨r',h3,rfl⟩:=Option.map_eq_some_iff.1 h2
  exact ⟨⟨Axg hs hres h1 hL.1.1,hL.1.2⟩,Ajn h3 hL.2⟩
theorem Axh {v v':Vl} {u:Value} (h:Axe s us v=some v') (hv:VlR s g w v u):VlR s' (Ou s us g) w v' u:=by
 cases v with
 | lf l=>
  obtain ⟨l',h1,rfl⟩:=Option.map_eq_some_iff.1 h
  exact ⟨Axg hs hres h1 hv.1,hv.2⟩
 | ag ls=>
  obtain ⟨l',h1,rfl⟩:=Option.map_eq_some_iff.1 h
  obtain ⟨cs,e1,e2⟩:=hv
  exact ⟨cs,e1,Ajn hs hres h1 e2⟩
 omit hs hres in
theorem Ak2:∀ {vs vs':List Vl} {j:Nat} {v':Vl},Afd s us vs=some vs'→vs'[j]?=some v'→∃ v,vs[j]?=some v∧Axe s us v=some v'
 | [],vs',j,v',h,hj=>by cases h; simp at hj
 | v::r,vs',j,v',h,hj=>by
  simp only [Afd] at h
  obtain ⟨l',h1,h2⟩:=Option.bind_eq_some_iff.1 h
  obtain ⟨r',h3,rfl⟩:=Option.map_eq_some_iff.1 h2
  cases j with
  | zero=>simp at hj; subst hj; exact ⟨v,rfl,h1⟩
  | succ j=>
   obtain ⟨x,e1,e2⟩:=Ak2 h3 (j:=j) (by simpa using hj)
   exact ⟨x,by simpa using e1,e2⟩
 omit hs hres in
theorem Ak3:∀ {vs vs':List Vl},Afd s us vs=some vs'→vs'.length=vs.length
 | [],vs',h=>by cases h; rfl
 | v::r,vs',h=>by
  simp only [Afd] at h
  obtain ⟨l',h1,h2⟩:=Option.bind_eq_some_iff.1 h
  obtain ⟨r',h3,rfl⟩:=Option.map_eq_some_iff.1 h2
  simp [Ak3 h3]
theorem A2z {v:AV} {u:Value} (hv:Uk s g w v u):Uk s' (Ou s us g) w (Ak0 s us v) u:=by
 cases v with
 | dead=>trivial
 | vl v=>
  simp only [Ak0]
  split
  ·rename_i v' h
   exact Axh hs hres h hv
  ·trivial
 | tp vs=>
  simp only [Ak0]
  split
  ·rename_i vs' h
   obtain ⟨cs,h1,h2,h3⟩:=hv
   refine ⟨cs,h1,by rw [Ak3 h]; exact h2,fun j l hl=>?_⟩
   obtain ⟨v,e1,e2⟩:=Ak2 h hl
   obtain ⟨x,e3,e4⟩:=h3 j v e1
   exact ⟨x,e3,Axh hs hres e2 e4⟩
  ·trivial
 | fn f ls=>
  simp only [Ak0]
  split
  ·rename_i ls' h
   obtain ⟨cs,h1,h2⟩:=hv
   exact ⟨cs,h1,Ajn hs hres h h2⟩
  ·trivial
end
end
theorem A0z (h:B8 n B Iq s g a w) {np:Nat} {live:List Nat} {s':St} {nid:Nat} (e:canon np live s=some (s',nid)):
  ∃ g',B8 n B Iq s' g' a w∧g'.av=g.av∧∀ id,id < np→(s'.res id=.unborn→s.res id=.unborn)∧(∀ T ls,s'.res id=.box T ls→(∃ T' ls',s.res id=.box T' ls')∧g'.blk id=g.blk id)∧(∀ e,∀ t:Ty,∀ xs:List t.D,s'.res id=.row e t xs→(∃ e',∃ xs':List t.D,s.res id=.row e' t xs')∧g'.blk id=g.blk id∧g'.hdr id=g.hdr id):=by
 unfold canon at e
 dsimp only at e
 generalize hus:Ajm s np live=us at e
 split at e<;>cases e
 rename_i hc
 simp only [Bool.and_eq_true] at hc
 have hnd:=Ace hc.1
 have hs:∀ j,(Atg (Aq8 s us live) (Anv s us us)).res j=match us[j]? with | some id=>Dv s us (s.res id) | none=>.unborn:=fun j=>Apf
 have hcell:∀ i,(Atg (Aq8 s us live) (Anv s us us)).cell i=if i∈live then Ak0 s us (s.cell i) else .dead:=fun i=>Apg
 generalize Atg (Aq8 s us live) (Anv s us us)=s' at hs hcell ⊢
 have hst:∀ k m l,j4 k m l=true→∀ j,j < m→l[j]?=some (k + j):=by
  intro k m
  induction m generalizing k with
  | zero=>intro l _ j hj; omega
  | succ m ih=>
   intro l hl j hj
   cases l with
   | nil=>simp [j4] at hl
   | cons i r=>
    simp only [j4,Bool.and_eq_true] at hl
    cases j with
    | zero=>simp [Nat.eq_of_beq_eq_true hl.1]
    | succ j=>
     have:=ih (k + 1) r hl.2 j (by omega)
     rw [List.getElem?_cons_succ,this]
     congr 1
     omega
 have hpin:∀ id,id < np→us[id]?=some id:=fun id hid=>by have:=hst 0 np us hc.2 id hid; simpa using this
 have blk_of:∀ j b,(Ou s us g).blk j=some b→∃ id,us[j]?=some id∧g.blk id=some b∧(Dv s us (s.res id)).live=true:=by
  intro j b hb
  simp only [Ou] at hb
  cases hu:us[j]? with
  | none=>rw [hu] at hb; cases hb
  | some id=>
   rw [hu] at hb
   simp only at hb
   split at hb
   ·rename_i hl
    exact ⟨id,rfl,hb,hl⟩
   ·cases hb
 refine ⟨Ou s us g,⟨h.size,h.defers,h.base,fun i=>?_,fun j=>?_,fun i j b hi hj=>?_,fun j b hb=>?_,h.avB⟩,rfl,fun id hid=>?_⟩
 ·rw [hcell]
  split
  ·exact A2z hs h.res (h.cell i)
  ·trivial
 ·rw [hs]
  cases hu:us[j]? with
  | none=>show (Ou s us g).blk j=none; simp only [Ou,hu]
  | some id=>
   simp only
   have r:=h.res id
   have hblk:(Ou s us g).blk j=if (Dv s us (s.res id)).live then g.blk id else none:=by simp only [Ou,hu]
   have hhdr:(Ou s us g).hdr j=g.hdr id:=by simp only [Ou,hu]
   have hSS:∀ b,Eu s g b→b < w.heap.size→Eu s' (Ou s us g) b:=fun b hb _=>A0y hs b hb
   cases hr:s.res id with
   | unborn=>rw [hr] at hblk; exact hblk
   | dead=>rw [hr] at hblk; exact hblk
   | box T ls=>
    rw [hr] at r hblk
    cases hq:Acx s us ls with
    | none=>
     have hrr:Dv s us (.box T ls)=.dead:=by simp only [Dv,hq]
     rw [hrr] at hblk ⊢
     exact hblk
    | some ls'=>
     have hrr:Dv s us (.box T ls)=.box T ls':=by simp only [Dv,hq]
     rw [hrr] at hblk ⊢
     obtain ⟨b,cs,h1,h2,h3⟩:=r
     exact ⟨b,cs,hblk.trans h1,h2,Ajn hs h.res hq h3⟩
   | row e t xs=>
    rw [hr] at r hblk
    obtain ⟨cs,h1,h2,h3⟩:=r
    exact ⟨cs,by rw [hhdr]; exact h1,h2.imp hSS,by rw [hhdr]; exact hblk.trans h3⟩
   | frozen t xs=>
    rw [hr] at r hblk
    exact ⟨by rw [hhdr]; exact Ty.K_keep (fun b hb hl=>⟨hSS b hb hl,rfl⟩) r.1,hblk⟩
   | last e t xs c k=>
    rw [hr] at r hblk
    cases hq:U9 us k with
    | none=>
     have hrr:Dv s us (.last e t xs c k)=.dead:=by simp only [Dv,hq]
     rw [hrr] at hblk ⊢
     exact hblk
    | some k'=>
     have hrr:Dv s us (.last e t xs c k)=.last e t xs c k':=by simp only [Dv,hq]
     rw [hrr] at hblk ⊢
     obtain ⟨cs,h1,h2,h3,h4⟩:=r
     refine ⟨cs,by rw [hhdr]; exact h1,h2.imp hSS,by rw [hhdr]; exact hblk.trans h3,fun u hc hu=>?_⟩
     have h5:=h4 u hc hu
     have hk':=Ape hq
     have e1:s'.res k'=Dv s us (s.res k):=by rw [hs,hk']
     have e2:(Ou s us g).hdr k'=g.hdr k:=by simp only [Ou,hk']
     rw [e1,e2]
     cases hrk:s.res k with
     | unborn=>rw [hrk] at h5; exact h5.elim
     | dead=>trivial
     | box T ls=>rw [hrk] at h5; exact h5.elim
     | row _ _ _=>rw [hrk] at h5; exact h5
     | frozen _ _=>rw [hrk] at h5; exact h5
     | last _ _ _ _ _=>rw [hrk] at h5; exact h5.elim
     | map _ _=>rw [hrk] at h5; exact h5.elim
     | iter _ _ _ _=>rw [hrk] at h5; exact h5.elim
   | map t xs=>
    rw [hr] at r hblk
    obtain ⟨b,es,clock,h1,h2,h3⟩:=r
    exact ⟨b,es,clock,hblk.trans h1,hhdr.trans h2,h3⟩
   | iter t xs seen cur=>
    rw [hr] at r hblk
    obtain ⟨b,r,es,clock,since,c0,sn,h1,h2,h3,h4,h5,h6⟩:=r
    exact ⟨b,r,es,clock,since,c0,sn,hblk.trans h1,hhdr.trans h2,h3,hSS b h4 h5,h5,h6⟩
 ·obtain ⟨i0,e1,e2,_⟩:=blk_of i b hi
  obtain ⟨j0,e3,e4,_⟩:=blk_of j b hj
  have:=h.inj i0 j0 b e2 e4
  subst this
  have hil:=(List.getElem?_eq_some_iff.1 e1).1
  exact (List.getElem?_inj hil hnd).1 (e1.trans e3.symm)
 ·obtain ⟨id,e1,e2,_⟩:=blk_of j b hb
  exact h.lt id b e2
 ·have hu:=hpin id hid
  have hsr:s'.res id=Dv s us (s.res id):=by rw [hs,hu]
  have hb:(Ou s us g).blk id=if (Dv s us (s.res id)).live then g.blk id else none:=by simp only [Ou,hu]
  have hh:(Ou s us g).hdr id=g.hdr id:=by simp only [Ou,hu]
  refine ⟨fun hq=>?_,fun T ls hq=>?_,fun e t xs hq=>?_⟩
  ·rw [hsr] at hq
   cases hr:s.res id with
   | unborn=>rfl
   | box T ls=>
    rw [hr] at hq
    simp only [Dv] at hq
    split at hq<;>cases hq
   | dead=>rw [hr] at hq; cases hq
   | row e t xs=>rw [hr] at hq; cases hq
   | frozen t xs=>rw [hr] at hq; cases hq
   | last _ _ _ _ _=>
    rw [hr] at hq
    simp only [Dv] at hq
    split at hq<;>cases hq
   | map _ _=>rw [hr] at hq; cases hq
   | iter _ _ _ _=>rw [hr] at hq; cases hq
  ·rw [hsr] at hq
   rw [hq] at hb
   refine ⟨?_,hb⟩
   cases hr:s.res id with
   | unborn=>rw [hr] at hq; cases hq
   | box T ls=>exact ⟨T,ls,rfl⟩
   | dead=>rw [hr] at hq; cases hq
   | row e t xs=>rw [hr] at hq; cases hq
   | frozen t xs=>rw [hr] at hq; cases hq
   | last _ _ _ _ _=>
    rw [hr] at hq
    simp only [Dv] at hq
    split at hq<;>cases hq
   | map _ _=>rw [hr] at hq; cases hq
   | iter _ _ _ _=>rw [hr] at hq; cases hq
  ·rw [hsr] at hq
   rw [hq] at hb
   refine ⟨?_,hb,hh⟩
   cases hr:s.res id with
   | unborn=>rw [hr] at hq; cases hq
   | box T ls=>
    rw [hr] at hq
    simp only [Dv] at hq
    split at hq<;>cases hq
   | dead=>rw [hr] at hq; cases hq
   | row e t xs=>rw [hr] at hq; cases hq; exact ⟨e,xs,rfl⟩
   | frozen t xs=>rw [hr] at hq; cases hq
   | last _ _ _ _ _=>
    rw [hr] at hq
    simp only [Dv] at hq
    split at hq<;>cases hq
   | map _ _=>rw [hr] at hq; cases hq
   | iter _ _ _ _=>rw [hr] at hq; cases hq
end
end Go.Proofs.YtfkefgbihlfjmaaGreat.R

