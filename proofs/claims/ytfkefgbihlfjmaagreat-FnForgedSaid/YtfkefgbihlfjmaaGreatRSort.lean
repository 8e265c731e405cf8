/- Pairs are sorted: the evaluator's step for sort.Slice. No condition. -/
import Derived.Test.YtfkefgbihlfjmaaGreatRPat
namespace Go.Proofs.YtfkefgbihlfjmaaGreat.R
open Go Go.RowKit
set_option linter.unusedVariables false
set_option linter.unusedSimpArgs false
theorem Atl (p:prD):∀ l:List prD,(Akm p l).length=l.length + 1
 | []=>rfl
 | q::r=>by
  simp only [Akm]
  cases ltK q p with
  | true=>simp only [cond_true,List.length_cons,Atl p r]
  | false=>rfl
theorem j6:∀ l:List prD,(U8 l).length=l.length
 | []=>rfl
 | p::r=>by show (Akm p (U8 r)).length=r.length + 1; rw [Atl,j6 r]
structure Apm where
 pre:List Oper
 o2:Oper
 o3:Oper
 o4:Oper
 V:TypeId
 z:Operand
 d2:Nat
 d3:Nat
 fs:FuncId
def Ajp (o2 o3 o4:Oper):Option (TypeId×Operand×Nat×Nat×FuncId):=match o2.op,o2.dst,o2.guard,o3.dst,o3.guard,Nh o4,o4.guard with
 | .makeInterface V z,some d2,none,some d3,none,some (fs,[.tmp p,.tmp q]),none=>if p=d2 then (if q=d3 then (if d2=d3 then none else some (V,z,d2,d3,fs)) else none) else none
 | _,_,_,_,_,_,_=>none
def Q4:List Oper→Option Apm
 | [o0,o1,o2,o3,o4]=>match Ajp o2 o3 o4 with
  | some (V,z,d2,d3,fs)=>some ⟨[o0,o1],o2,o3,o4,V,z,d2,d3,fs⟩
  | none=>none
 | _=>none
def A06:AV→Option (FuncId×Nat)
 | .fn fc [.ptr b 0]=>some (fc,b)
 | _=>none
def Ak7 (BT:TypeId):Res→Option Nat
 | .box T [.row r]=>if T=BT then some r else none
 | _=>none
def Arc:Option Lf→Option Nat
 | some (.row r)=>some r
 | _=>none
def A4c (P:Program) (T:Tb) (n:Nat) (s:St) (nid:Nat) (q:Apm):Option (List Bool×St):=match T.srt with
 | some (fs,fc,BT,U,e)=>match Arc (s.leaf q.z) with
  | some r=>match Rg P T (s.put n q.o2.dst .dead) nid q.o3 with
   | some (av,s3)=>match A06 av with
    | some (fc',b)=>match Ak7 BT (s3.res b),Ath e prT (s3.res r) with
     | some r',some xs=>if Ao4 P q.V=true then (if fs=q.fs then (if fc'=fc then (if q.V=U then (if r'=r then (if q.d2 < n then (if q.d3 < n then some ([Io xs,decide (xs.length≤1000)],((s3.put n q.o3.dst av).setRes r (.row e prT (U8 xs))).put n q.o4.dst (.tp [])) else none) else none) else none) else none) else none) else none) else none
     | _,_=>none
    | none=>none
   | none=>none
  | none=>none
 | none=>none
theorem Avw {e:TypeId} {t:Ty} {v:Res} {xs:List t.D} (h:Ath e t v=some xs):v=.row e t xs:=by
 unfold Ath at h
 split at h
 ·split at h
  ·rename_i he
   split at h
   ·rename_i ht
    cases h
    subst he ht
    rfl
   ·cases h
  ·cases h
 ·cases h
section
variable {P:Program} {n B:Nat} {Iq:List Nat} {s:St} {g:Gh} {a:Act} {w:World}
theorem Ard {o2 o3 o4:Oper} {V:TypeId} {z:Operand} {d2 d3:Nat} {fs:FuncId} (h:Ajp o2 o3 o4=some (V,z,d2,d3,fs)):
  o2.op=.makeInterface V z∧o2.dst=some d2∧o2.guard=none∧o3.dst=some d3∧o3.guard=none∧Nh o4=some (fs,[.tmp d2,.tmp d3])∧o4.guard=none∧d2≠d3:=by
 unfold Ajp at h
 split at h
 ·rename_i h1 h2 h3 h4 h5 h6 h7
  split at h
  ·rename_i e1
   split at h
   ·rename_i e2
    split at h
    ·cases h
    ·rename_i e3
     cases h
     subst e1 e2
     exact ⟨h1,h2,h3,h4,h5,h6,h7,e3⟩
   ·cases h
  ·cases h
 ·cases h
theorem Axo {a:Act} {d:Nat} {v:Value} (h:d < a.tmps.size):(a.put (some d) v).tmps.getD d undef=v:=by
 simp [Act.put,Array.getD_eq_getD_getElem?,h]
theorem Avx {a:Act} {d i:Nat} {v:Value} (h:i≠d):(a.put (some d) v).tmps.getD i undef=a.tmps.getD i undef:=by
 simp [Act.put,Array.getD_eq_getD_getElem?,Array.getElem?_setIfInBounds,h.symm]
theorem Ay3 (h:B8 n B Iq s g a w) {fs fc:FuncId} {BT U e:TypeId} (hok:A0i P fs fc BT U e) {b r:Nat} {xs:List prD} {bb:Nat} (hb:g.blk b=some bb) (hbox:s.res b=.box BT [.row r]) (hrow:s.res r=.row e prT xs)
  (hnd:Io xs=true) (hlen:xs.length≤1000):i9 P fs #[.iface U (g.hdr r),.func (.func fc) #[] #[.pointer (some ⟨bb,0,none⟩)]] n B Iq s g a w (.tp []) (s.setRes r (.row e prT (U8 xs))):=by
 have kb:=h.res b
 rw [hbox] at kb
 obtain ⟨bb',ccs,hb',hh,hL⟩:=kb
 obtain rfl:bb=bb':=Option.some.inj (hb.symm.trans hb')
 have kr:=h.res r
 rw [hrow] at kr
 obtain ⟨cs,o1,o2,o3⟩:=kr
 obtain ⟨v0,hcs⟩:∃ v0,ccs=#[v0]:=by
  have:=hL.length
  match ccs,this with
  | ⟨[x]⟩,_=>exact ⟨x,rfl⟩
 subst hcs
 have hv0:v0=g.hdr r:=by
  have:=hL.1.1
  simp only [Dq,hrow] at this
  exact this
 subst hv0
 have hbr:b≠r:=fun q=>by rw [q,hrow] at hbox; cases hbox
 have hne:(g.hdr r).ownBlock≠some bb:=by
  rw [← o3]
  intro q
  exact hbr (h.inj b r bb hb q)
 have hlive:(s.res r).live=true:=by rw [hrow]; rfl
 refine Calls.mono (hok w bb (g.hdr r) xs cs hnd hlen (h.lt b bb hb).1 hh o1 (o2.imp fun _ _ _=>trivial) hne) fun en w'=>?_
 rintro ⟨rfl,hk,cs',p1,p2⟩
 have hmem:∀ c,c∈(g.hdr r).ownBlock.toList→g.blk r=some c:=fun c hc=>by
  simp only [Option.mem_toList] at hc
  rw [o3]; exact hc
 have hS:∀ c,Eu s g c→c < w.heap.size→Eu (s.setRes r (.row e prT (U8 xs))) g c∧w'.heap[c]?=w.heap[c]?:=by
  intro c hc hc'
  refine ⟨⟨hc.1,fun j hj=>?_⟩,hk.block c hc' (fun q=>hc.2 r hlive (hmem c q))⟩
  by_cases q:j=r
  ·rw [q]; exact hc.2 r hlive
  ·rw [Aq s _ q] at hj; exact hc.2 j hj
 have hI:∀ j,A4 s g (s.setRes r (.row e prT (U8 xs))) g j:=by
  intro j
  by_cases q:j=r
  ·subst q
   unfold A4
   rw [hrow]
   exact .inr (.inl ⟨_,_,Ao _ _ _,j6 xs,rfl,rfl⟩)
  ·exact A4.same (Aq s _ q) rfl rfl
 refine ⟨.tuple #[],g,rfl,⟨hk.toKp h.base (fun c hc=>(h.lt r c (hmem c hc)).2.1),hS,hI,rfl⟩,?_,⟨#[],rfl,rfl,fun j v hv=>by simp at hv⟩⟩
 refine h.step h.size h.defers hk.size hS hI (fun i=>.inl ⟨rfl,rfl⟩) (fun j=>?_) h.inj (fun i c hi=>⟨Nat.lt_of_lt_of_le (h.lt i c hi).1 hk.size,(h.lt i c hi).2⟩) rfl
 by_cases q:j=r
 ·subst q
  right
  rw [Ao]
  exact ⟨cs',(show w'.ownsRow 0 e 2 (g.hdr j) (List.length (α:=prD) (U8 xs)) cs' by rw [j6]; exact p1),p2 _,o3⟩
 ·exact .inl ⟨Aq s _ q,rfl,rfl,fun c hc=>hk.block c (h.lt j c hc).1 (fun q2=>q (h.inj j r c hc (hmem c q2)))⟩
end
end Go.Proofs.YtfkefgbihlfjmaaGreat.R

