/- The evaluator's operations that make memory or write the call's own. No condition. -/
import Derived.Test.YtfkefgbihlfjmaaGreatROps
import Derived.Laws.Tables
import Derived.Laws.OwnMore
import Derived.Great.FillDense
namespace Go.Proofs.YtfkefgbihlfjmaaGreat.R
open Go Go.RowKit
set_option linter.unusedVariables false
set_option linter.unusedSimpArgs false
section
variable {P:Program} {n B:Nat} {Iq:List Nat} {s:St} {g:Gh} {a:Act} {w:World}
theorem Ao (s:St) (id:Nat) (r:Res):(s.setRes id r).res id=r:=by simp [St.setRes]
theorem Aq (s:St) {id j:Nat} (r:Res) (h:j≠id):(s.setRes id r).res j=s.res j:=by simp [St.setRes,A1 _ _ h]
def Gh.new (g:Gh) (id b:Nat) (hd:Value):Gh:=⟨S9 g.blk id (some b),S9 g.hdr id hd,g.av⟩
theorem g7 (h:B8 n B Iq s g a w) {id:Nat} (hf:s.res id=.unborn) (r:Res) (hd:Value) (obj:Obj):
  ∀ b,Eu s g b→b < w.heap.size→Eu (s.setRes id r) (g.new id w.heap.size hd) b∧(w.alloc obj).heap[b]?=w.heap[b]?:=by
 intro b hb hlt
 refine ⟨⟨hb.1,fun j hj hk=>?_⟩,Below.heap_alloc w obj b hlt⟩
 by_cases e:j=id
 ·subst e
  simp only [Gh.new,A9] at hk
  have:=Option.some.inj hk
  omega
 ·rw [Aq s r e] at hj
  simp only [Gh.new,A1 _ _ e] at hk
  exact hb.2 j hj hk
theorem Aqn {id:Nat} (hf:s.res id=.unborn) (r:Res) (hd:Value) (b:Nat):∀ j,A4 s g (s.setRes id r) (g.new id b hd) j:=by
 intro j
 by_cases e:j=id
 ·subst e
  unfold A4
  rw [hf]
  exact .inr trivial
 ·exact A4.same (Aq s r e) (by simp [Gh.new,A1 _ _ e]) (by simp [Gh.new,A1 _ _ e])
theorem B8.alloc (h:B8 n B Iq s g a w) {id:Nat} (hf:s.res id=.unborn) (r:Res) (hd:Value) (obj:Obj)
  (hr:K8 (s.setRes id r) (g.new id w.heap.size hd) (w.alloc obj) id r):B8 n B Iq (s.setRes id r) (g.new id w.heap.size hd) a (w.alloc obj):=by
 refine h.step h.size h.defers (by simp) (g7 h hf r hd obj) (Aqn hf r hd _) (fun i=>.inl ⟨rfl,rfl⟩) (fun j=>?_) (fun i j b hi hj=>?_) (fun i b hi=>?_) rfl
 ·by_cases e:j=id
  ·subst e
   right
   rw [Ao]
   exact hr
  ·left
   refine ⟨Aq s r e,by simp [Gh.new,A1 _ _ e],by simp [Gh.new,A1 _ _ e],fun b hb=>Below.heap_alloc w obj b (h.lt j b hb).1⟩
 ·by_cases e1:i=id<;>by_cases e2:j=id
  ·rw [e1,e2]
  ·simp only [Gh.new,e1,A9] at hi
   simp only [Gh.new,A1 _ _ e2] at hj
   have:=(h.lt j b hj).1
   have:=Option.some.inj hi
   omega
  ·simp only [Gh.new,A1 _ _ e1] at hi
   simp only [Gh.new,e2,A9] at hj
   have:=(h.lt i b hi).1
   have:=Option.some.inj hj
   omega
  ·simp only [Gh.new,A1 _ _ e1] at hi
   simp only [Gh.new,A1 _ _ e2] at hj
   exact h.inj i j b hi hj
 ·by_cases e1:i=id
  ·simp only [Gh.new,e1,A9] at hi
   have hsz:=Option.some.inj hi
   have:=h.base
   refine ⟨by simp; omega,.inr (by omega),fun q=>?_⟩
   have:=h.avB b q
   omega
  ·simp only [Gh.new,A1 _ _ e1] at hi
   obtain ⟨q1,q2,q3⟩:=h.lt i b hi
   exact ⟨by simp; omega,q2,q3⟩
theorem Kp.alloc (hB:B≤w.heap.size) (obj:Obj):Kp B Iq w (w.alloc obj):=⟨rfl,rfl,rfl,by simp,fun k hk _=>Below.heap_alloc w obj k (by omega)⟩
theorem Go.alloc (h:B8 n B Iq s g a w) {id:Nat} (hf:s.res id=.unborn) (r:Res) (hd:Value) (obj:Obj):Go B Iq s g w (s.setRes id r) (g.new id w.heap.size hd) (w.alloc obj):=
 ⟨Kp.alloc h.base obj,g7 h hf r hd obj,Aqn hf r hd _,rfl⟩
theorem Aj4 (w:World) (o:Obj):(w.alloc o).heap[w.heap.size]?=some o:=by
 show (w.heap.push o)[w.heap.size]?=_
 simp
theorem A31 (h:B8 n B Iq s g a w) {id:Nat} (hf:s.res id=.unborn) (T:TypeId) {ls:List Lf} {cs:Array Value} (hL:G7 s g w ls cs.toList) (hd:Value):
  K8 (s.setRes id (.box T ls)) (g.new id w.heap.size hd) (w.alloc (.cells cs T)) id (.box T ls):=
 ⟨w.heap.size,cs,by simp [Gh.new],Aj4 w _,hL.step (g7 h hf _ hd _) (Aqn hf _ hd _)⟩
theorem Az6 (h:B8 n B Iq s g a w) {nid:Nat} {T:TypeId} {v:Vl} {u:Value} {l:Lf} {s':St} (hv:VlR s g w v u) (e:Az3 s nid T v=some (l,s')):
  ∃ x w' g',(Instr.box T u).run P w=.ok x w'∧Go B Iq s g w s' g' w'∧B8 n B Iq s' g' a w'∧Dq s' g' w' l x∧x.oneCell'=true:=by
 unfold Az3 at e
 split at e<;>cases e
 rename_i hf
 refine ⟨.pointer (some ⟨w.heap.size,0,none⟩),w.alloc (.cells u.cells T),g.new nid w.heap.size undef,?_,Go.alloc h hf _ _ _,h.alloc hf _ _ _ (A31 h hf T hv.cells undef),?_,rfl⟩
 ·simp [Instr.box,newVar,newRow]
 ·simp only [Dq,Ao]
  exact ⟨w.heap.size,by simp [Gh.new],rfl⟩
theorem M8 {T:TypeId} {ls:List Lf} (e:Wh P T=some ls) (s:St) (g:Gh) (w:World):∃ z,(∀ w,(zeroValue T).run P w=.ok z w)∧G7 s g w ls z.cells.toList∧(∃ i,P.info? T=some i∧i.zero=some z):=by
 unfold Wh at e
 cases hi:P.info? T with
 | none=>rw [hi] at e; cases e
 | some i=>
  rw [hi] at e
  simp only at e
  cases hz:i.zero with
  | none=>rw [hz] at e; cases e
  | some z=>
   rw [hz] at e
   simp only at e
   split at e<;>cases e
   rename_i h1
   exact ⟨z,fun w=>by simp [zeroValue,typeInfo,hi,hz],G7.ofConsts h1,i,rfl,hz⟩
theorem Avb (h:B8 n B Iq s g a w) {nid:Nat} {T:TypeId} {l:Lf} {s':St} (e:Aqk P s nid T=some (l,s')):
  ∃ x w' g',(Instr.alloc T true (.tuple #[])).run P w=.ok x w'∧Go B Iq s g w s' g' w'∧B8 n B Iq s' g' a w'∧Dq s' g' w' l x∧x.oneCell'=true:=by
 unfold Aqk at e
 split at e<;>cases e
 rename_i ls hf hz
 obtain ⟨z,hzr,hL,_⟩:=M8 hz s g w
 refine ⟨.pointer (some ⟨w.heap.size,0,none⟩),w.alloc (.cells z.cells T),g.new nid w.heap.size undef,?_,Go.alloc h hf _ _ _,h.alloc hf _ _ _ (A31 h hf T hL undef),?_,rfl⟩
 ·simp [Instr.alloc,hzr,newVar,newRow]
 ·simp only [Dq,Ao]
  exact ⟨w.heap.size,by simp [Gh.new],rfl⟩
theorem Az7 (off:Nat) (v:Array Value) (cs:Array Value) (hle:off + v.size≤cs.size):
  (v.zipIdx.foldl (fun cs (x:Value×Nat)=>cs.setIfInBounds (off + x.2) x.1) cs).toList=cs.toList.take off++v.toList++cs.toList.drop (off + v.size):=by
 have hz:v.zipIdx.foldl (fun cs (x:Value×Nat)=>cs.setIfInBounds (off + x.2) x.1) cs=(v.toList.zipIdx 0).foldl (fun cs (x:Value×Nat)=>cs.setIfInBounds (off + x.2) x.1) cs:=by
  rw [← Array.foldl_toList,Array.toList_zipIdx]
 rw [hz]
 obtain ⟨h1,h2⟩:=Great.foldl_set off v.toList 0 cs
 apply List.ext_getElem?
 intro k
 rw [Array.getElem?_toList,h2 k]
 simp only [Nat.add_zero,Array.length_toList,Nat.sub_zero]
 by_cases k1:k < off
 ·rw [if_neg (by omega),List.append_assoc,List.getElem?_append_left (by simp; omega),List.getElem?_take,if_pos k1,Array.getElem?_toList]
 ·by_cases k2:k < off + v.size
  ·rw [if_pos ⟨by omega,k2,by omega⟩,List.append_assoc,List.getElem?_append_right (by simp; omega),List.getElem?_append_left (by simp; omega)]
   congr 1
   simp
   omega
  ·rw [if_neg (by omega),List.getElem?_append_right (by simp; omega),List.getElem?_drop,Array.getElem?_toList]
   congr 1
   simp
   omega
theorem G7.splice {ls vs:List Lf} {cs us:List Value} {off:Nat} (h:G7 s g w ls cs) (hv:G7 s g w vs us):G7 s g w (ls.take off++vs++ls.drop (off + vs.length)) (cs.take off++us++cs.drop (off + us.length)):=by
 rw [hv.length]
 exact ((h.take off).append hv).append (h.drop _)
def VsR (s:St) (g:Gh) (w:World):List (Nat×Vl)→List (Nat×Value)→Prop
 | [],[]=>True
 | (i,v)::r,(j,u)::q=>(i=j∧VlR s g w v u)∧VsR s g w r q
 | _,_=>False
theorem Aac (h:B8 n B Iq s g a w):∀ {parts:List (Nat×Operand)} {vs:List (Nat×Vl)},Yx s parts=some vs→VsR s g w vs (parts.map fun p=>(p.1,a.eval p.2))
 | [],_,e=>by cases e; trivial
 | (i,x)::r,vs,e=>by
  simp only [Yx] at e
  split at e<;>cases e
  rename_i v vs' hx hr
  exact ⟨⟨rfl,Wj h hx⟩,Aac h hr⟩
theorem Aqo {place:Nat→Option (Nat×Nat)}:∀ {vs:List (Nat×Vl)} {us:List (Nat×Value)} {ls ls':List Lf} {cs:Array Value},Yw place ls vs=some ls'→VsR s g w vs us→G7 s g w ls cs.toList→
  ∃ cs',Instr.fill place cs us=some cs'∧G7 s g w ls' cs'.toList
 | [],[],ls,ls',cs,e,_,hL=>by cases e; exact ⟨cs,rfl,hL⟩
 | [],_::_,_,_,_,_,h,_=>h.elim
 | _::_,[],_,_,_,_,h,_=>h.elim
 | (i,v)::r,(j,u)::q,ls,ls',cs,e,⟨⟨hij,hv⟩,hr⟩,hL=>by
  subst hij
  simp only [Yw] at e
  split at e
  ·cases e
  ·rename_i off size hp
   split at e
   ·rename_i hsz
    split at e
    ·rename_i hle
     have hc:=hv.cells
     have hcl:=hc.length
     have hll:=hL.length
     simp only [Array.length_toList] at hcl hll
     obtain ⟨cs',h1,h2⟩:=Aqo (cs:=u.cells.zipIdx.foldl (fun cs (x:Value×Nat)=>cs.setIfInBounds (off + x.2) x.1) cs) e hr (by
      rw [Az7 off u.cells cs (by omega)]
      have:=hL.splice (off:=off) hc
      rw [Array.length_toList] at this
      exact this)
     refine ⟨cs',?_,h2⟩
     simp only [Instr.fill,hp]
     rw [if_neg (by simp; omega)]
     exact h1
    ·cases e
   ·cases e
theorem Agy:∀ {fs:List Field} {pl:List (Nat×Nat)},Ab6 P fs=some pl→fs.mapM (fun f=>(P.info? f.type).map fun i=>(f.offset,i.size))=some pl
 | [],_,e=>by cases e; rfl
 | f::r,pl,e=>by
  simp only [Ab6] at e
  split at e<;>cases e
  rename_i i l hi hl
  simp [List.mapM_cons,hi,Agy hl]
theorem Avc (h:B8 n B Iq s g a w) {T:TypeId} {parts:Array (Nat×Operand)} {v:Vl} (e:Aql P s T parts=some v):
  ∃ u,(Instr.build T (parts.map fun (i,x)=>(i,a.eval x))).run P w=.ok u w∧VlR s g w v u:=by
 unfold Aql at e
 split at e
 ·rename_i fs hU
  split at e
  ·rename_i pl z vs hp hz hvs
   cases hfl:Yw (fun i=>pl[i]?) z vs with
   | none=>rw [hfl] at e; cases e
   | some ls'=>
    rw [hfl] at e
    cases e
    obtain ⟨zv,_,hL,it,hi,hzz⟩:=M8 hz s g w
    have hV:=Aac h hvs
    obtain ⟨cs',h1,h2⟩:=Aqo hfl hV hL
    have hmap:(parts.map fun (i,x)=>(i,a.eval x)).toList=parts.toList.map fun p=>(p.1,a.eval p.2):=by rw [Array.toList_map]
    refine ⟨.agg cs',run_build w T _ cs' ?_,cs',rfl,h2⟩
    unfold Program.built
    simp only [hi,hU,hzz,Agy hp,hmap]
    have:(fun i:Nat=>pl.toArray[i]?)=fun i:Nat=>pl[i]?:=by funext i; simp
    rw [this]
    exact h1
  ·cases e
 ·cases e
end
end Go.Proofs.YtfkefgbihlfjmaaGreat.R

