/- The kinds of data that the evaluator knows, what is read of them in memory, and the evaluator's state. No condition. -/
import Derived.Below
import Derived.OwnWalk
import Derived.Maps.AppendAt
import Derived.MapKept
namespace Go.Proofs.YtfkefgbihlfjmaaGreat.R
open Go Go.RowKit
set_option linter.unusedVariables false
set_option linter.unusedSimpArgs false
inductive Ty where
 | int (k:IntKind)
 | bool
 | str
 | sl (t:Ty)
 | unit
 | pair (a b:Ty)
 deriving DecidableEq
def Ty.D:Ty→Type
 | .int _=>Int
 | .bool=>Bool
 | .str=>ByteArray
 | .sl t=>List t.D
 | .unit=>Unit
 | .pair a b=>a.D×b.D
def Ty.sz:Ty→Nat
 | .unit=>0
 | .pair a b=>a.sz + b.sz
 | _=>1
def Ty.zero:(t:Ty)→t.D
 | .int _=>(0:Int)
 | .bool=>false
 | .str=>(⟨#[]⟩:ByteArray)
 | .sl _=>[]
 | .unit=>()
 | .pair a b=>(a.zero,b.zero)
abbrev nth {α:Type} (xs:List α) (i:Nat):Option α:=xs[i]?
def Ty.K (w:World) (S:Nat→Prop):(t:Ty)→t.D→List Value→Prop
 | .int k,n,cs=>cs=[.int k n]
 | .bool,b,cs=>cs=[.bool b]
 | .str,s,cs=>cs=[.string s]
 | .sl t,xs,cs=>∃ (A:Option Addr) (c:Nat),cs=[.slice A (List.length xs) c]∧List.length xs≤c∧
   ∀ (i:Nat) (x:t.D),nth (α:=t.D) xs i=some x→∃ ad,A=some ad∧S ad.block∧ad.block < w.heap.size∧
    ∃ cs',List.length cs'=t.sz∧t.K w S x cs'∧∀ (j:Nat) (u:Value),cs'[j]?=some u→w.cell? (ad.add (i * t.sz + j))=some u
 | .unit,_,cs=>cs=[]
 | .pair a b,x,cs=>∃ c1 c2,cs=c1++c2∧a.K w S x.1 c1∧b.K w S x.2 c2
theorem Ty.K_len {w:World} {S:Nat→Prop}:∀ {t:Ty} {x:t.D} {cs:List Value},t.K w S x cs→cs.length=t.sz
 | .int _,_,_,h=>by cases h; rfl
 | .bool,_,_,h=>by cases h; rfl
 | .str,_,_,h=>by cases h; rfl
 | .sl _,_,_,⟨_,_,h,_⟩=>by cases h; rfl
 | .unit,_,_,h=>by cases h; rfl
 | .pair a b,_,_,⟨_,_,h,h1,h2⟩=>by
  subst h
  rw [List.length_append,K_len h1,K_len h2]
  rfl
theorem Ty.K_one {w:World} {S:Nat→Prop}:∀ {t:Ty} {x:t.D} {cs:List Value},t.K w S x cs→∀ u∈cs,u.oneCell'=true
 | .int _,_,_,h,u,hu=>by cases h; simp at hu; subst hu; rfl
 | .bool,_,_,h,u,hu=>by cases h; simp at hu; subst hu; rfl
 | .str,_,_,h,u,hu=>by cases h; simp at hu; subst hu; rfl
 | .sl _,_,_,⟨_,_,h,_⟩,u,hu=>by cases h; simp at hu; subst hu; rfl
 | .unit,_,_,h,u,hu=>by cases h; simp at hu
 | .pair a b,_,_,⟨_,_,h,h1,h2⟩,u,hu=>by
  subst h
  rcases List.mem_append.1 hu with hu | hu
  ·exact K_one h1 u hu
  ·exact K_one h2 u hu
theorem Ajx {w w':World} {a:Addr} (h:w'.heap[a.block]?=w.heap[a.block]?):w'.cell? a=w.cell? a:=by
 unfold World.cell?
 rw [h]
theorem z8 {w w':World} {b:Nat} (hb:b < w.heap.size) (h:w'.heap[b]?=w.heap[b]?):b < w'.heap.size:=by
 rw [Array.getElem?_eq_getElem hb] at h
 exact (Array.getElem?_eq_some_iff.1 h).1
theorem U0 (a:Addr) (n:Nat):(a.add n).block=a.block:=by unfold Addr.add; split<;>rfl
theorem Ai9 (a:Addr) (m n:Nat):(a.add m).add n=a.add (m + n):=by
 unfold Addr.add
 by_cases h1:m=0<;>by_cases h2:n=0<;>simp [h1,h2,Nat.add_assoc]
theorem Ajy (g j:Nat):(⟨g,0,none⟩:Addr).add j=⟨g,j,none⟩:=by unfold Addr.add; split<;>simp_all
theorem Ab4 (g i j:Nat):(⟨g,i,none⟩:Addr).add j=⟨g,i + j,none⟩:=by unfold Addr.add; split<;>simp_all
theorem Ty.K_keep {w w':World} {S S':Nat→Prop} (hS:∀ b,S b→b < w.heap.size→S' b∧w'.heap[b]?=w.heap[b]?):
  ∀ {t:Ty} {x:t.D} {cs:List Value},t.K w S x cs→t.K w' S' x cs
 | .int _,_,_,h=>h
 | .bool,_,_,h=>h
 | .str,_,_,h=>h
 | .sl t,xs,cs,⟨A,c,h1,h2,h3⟩=>⟨A,c,h1,h2,fun i x hx=>by
   obtain ⟨ad,e,hs,hlt,cs',hl,hk,hc⟩:=h3 i x hx
   obtain ⟨s1,s2⟩:=hS _ hs hlt
   refine ⟨ad,e,s1,z8 hlt s2,cs',hl,K_keep hS hk,fun j u hu=>?_⟩
   exact (Ajx (by rw [U0]; exact s2)).trans (hc j u hu)⟩
 | .unit,_,_,h=>h
 | .pair a b,_,_,⟨c1,c2,h,h1,h2⟩=>⟨c1,c2,h,K_keep hS h1,K_keep hS h2⟩
inductive Lf where
 | c (v:Value)
 | sl (t:Ty) (xs:List t.D)
 | row (id:Nat)
 | ptr (id off:Nat)
 | ep (t:Ty) (xs:List t.D) (i off:Nat)
 | rp (id i off:Nat)
 | sp (id:Nat)
inductive Vl where
 | lf (l:Lf)
 | ag (ls:List Lf)
inductive AV where
 | dead
 | vl (v:Vl)
 | tp (vs:List Vl)
 | fn (f:FuncId) (ls:List Lf)
inductive Res where
 | unborn
 | dead
 | box (T:TypeId) (ls:List Lf)
 | row (e:TypeId) (t:Ty) (xs:List t.D)
 | frozen (t:Ty) (xs:List t.D)
 | last (e:TypeId) (t:Ty) (xs:List (List t.D)) (c:Bool) (j:Nat)
 | map (t:Ty) (xs:List (ByteArray×t.D))
 | iter (t:Ty) (xs:List (ByteArray×t.D)) (left:List (ByteArray×t.D)) (cur:Option (ByteArray×t.D))
structure St where
 cell:Nat→AV
 res:Nat→Res
structure Gh where
 blk:Nat→Option Nat
 hdr:Nat→Value
 av:Nat→Prop
def Res.live:Res→Bool
 | .box _ _=>true
 | .row _ _ _=>true
 | .last _ _ _ _ _=>true
 | .map _ _=>true
 | .iter _ _ _ _=>true
 | _=>false
def Eu (s:St) (g:Gh):Nat→Prop:=fun b=>¬ g.av b∧∀ id,(s.res id).live=true→g.blk id≠some b
def Dq (s:St) (g:Gh) (w:World):Lf→Value→Prop
 | .c v,u=>u=v
 | .sl t xs,u=>(Ty.sl t).K w (Eu s g) xs [u]
 | .row id,u=>match s.res id with
   | .row _ _ _=>u=g.hdr id
   | .frozen _ _=>u=g.hdr id
   | .last _ _ _ _ _=>u=g.hdr id
   | .map _ _=>u=g.hdr id
   | .iter _ _ _ _=>u=g.hdr id
   | .dead=>True
   | _=>False
 | .ptr id off,u=>match s.res id with
   | .box _ _=>∃ b,g.blk id=some b∧u=.pointer (some ⟨b,off,none⟩)
   | .dead=>True
   | _=>False
 | .ep t xs i off,u=>∃ (ad:Addr) (cs:List Value),u=.pointer (some (ad.add (i * t.sz + off)))∧Eu s g ad.block∧ad.block < w.heap.size∧
   t.K w (Eu s g) (xs.getD i t.zero) cs∧∀ (j:Nat) (v:Value),cs[j]?=some v→w.cell? (ad.add (i * t.sz + j))=some v
 | .rp id i off,u=>match s.res id with
   | .row _ t xs=>i < xs.length∧∃ b,g.blk id=some b∧u=.pointer (some ⟨b,i * t.sz + off,none⟩)
   | .last _ _ xs c _=>i < xs.length + c.toNat∧∃ b,g.blk id=some b∧u=.pointer (some ⟨b,i + off,none⟩)
   | .frozen _ _=>True
   | .dead=>True
   | _=>False
 | .sp id,u=>match s.res id with
   | .box _ _=>u=.pointer none∨∃ b,g.blk id=some b∧u=.pointer (some ⟨b,0,none⟩)
   | .dead=>True
   | _=>False
def G7 (s:St) (g:Gh) (w:World):List Lf→List Value→Prop
 | [],[]=>True
 | l::ls,v::vs=>(Dq s g w l v∧v.oneCell'=true)∧G7 s g w ls vs
 | _,_=>False
def VlR (s:St) (g:Gh) (w:World):Vl→Value→Prop
 | .lf l,u=>Dq s g w l u∧u.oneCell'=true
 | .ag ls,u=>∃ cs:Array Value,u=.agg cs∧G7 s g w ls cs.toList
def Uk (s:St) (g:Gh) (w:World):AV→Value→Prop
 | .dead,_=>True
 | .vl v,u=>VlR s g w v u
 | .tp vs,u=>∃ us:Array Value,u=.tuple us∧us.size=vs.length∧∀ (j:Nat) (v:Vl),vs[j]?=some v→∃ x,us[j]?=some x∧VlR s g w v x
 | .fn f ls,u=>∃ cs:Array Value,u=.func (.func f) #[] cs∧G7 s g w ls cs.toList
def H8 (w:World) (S:Nat→Prop) (t:Ty) (xs:List t.D) (cs:List Value):Prop:=
 cs.length=xs.length * t.sz∧∀ (i:Nat) (x:t.D),xs[i]?=some x→t.K w S x ((cs.drop (i * t.sz)).take t.sz)
def Yu:(t:Ty)→t.D→Value
 | .int k,n=>.int k n
 | .bool,b=>.bool b
 | .str,s=>.string s
 | _,_=>.bool false
def Og (es:Array MapEntry) (t:Ty) (xs:List (ByteArray×t.D)):Prop:=es.toList.map (fun e=>(e.key,e.val))=xs.map fun p=>(Value.string p.1,Yu t p.2)
def Az2 (es:Array MapEntry) (seen:Array Nat) (t:Ty) (left:List (ByteArray×t.D)):Prop:=(es.toList.filter fun e=>!seen.contains e.born).map (fun e=>(e.key,e.val))=left.map fun p=>(Value.string p.1,Yu t p.2)
def mkT:Ty→Bool
 | .pair (.int .u8) .unit=>true
 | _=>false
def Au6 (t:Ty) (k:Nat):Nat×Nat:=bif mkT t then (k,k + 1) else (0,0)
def M7 (w:World) (t:Ty) (base:Nat) (e:TypeId) (size:Nat) (v:Value) (n:Nat) (xs:List Value):Prop:=
 xs.length=n * size∧
 ((v=.slice none 0 0∧n=0)∨
  ∃ g cap cur,v=.slice (some ⟨g,0,none⟩) n cap∧base≤g∧w.heap[g]?=some (.cells cur e (Au6 t (cap * size)))∧n≤cap∧cap≤maxLen∧cur.size=cap * size∧cur.toList.take (n * size)=xs)
theorem On {w:World} {t:Ty} (h:mkT t=false) {base:Nat} {e:TypeId} {size:Nat} {v:Value} {n:Nat} {xs:List Value}:M7 w t base e size v n xs↔w.ownsRow base e size v n xs:=by
 unfold M7 World.ownsRow Au6
 rw [h]
 exact Iff.rfl
theorem Aym (w:World) (t:Ty) (base:Nat) (e:TypeId) (size:Nat):M7 w t base e size (.slice none 0 0) 0 []:=⟨by simp,.inl ⟨rfl,rfl⟩⟩
theorem M7.cells {w:World} {t:Ty} {base:Nat} {e:TypeId} {size:Nat} {v:Value} {n:Nat} {xs:List Value} (h:M7 w t base e size v n xs) {g:Nat} (hg:v.ownBlock=some g):∀ j u,xs[j]?=some u→w.cell? ((⟨g,0,none⟩:Addr).add j)=some u:=by
 intro j u hu
 rcases h.2 with ⟨rfl,_⟩ | ⟨g',cap,cur,rfl,_,hgg,_,_,_,htake⟩
 ·simp [Value.ownBlock] at hg
 ·simp [Value.ownBlock] at hg
  subst hg
  have hadd:(⟨g',0,none⟩:Addr).add j=⟨g',j,none⟩:=by unfold Addr.add; split<;>simp_all
  rw [hadd,cell_of_row w g' j cur e _ hgg]
  rw [← htake,List.getElem?_take] at hu
  split at hu
  ·simpa using hu
  ·cases hu
def K8 (s:St) (g:Gh) (w:World) (id:Nat):Res→Prop
 | .box T ls=>∃ b cs,g.blk id=some b∧w.heap[b]?=some (.cells cs T (0,0))∧G7 s g w ls cs.toList
 | .row e t xs=>∃ cs,M7 w t 0 e t.sz (g.hdr id) xs.length cs∧H8 w (Eu s g) t xs cs∧g.blk id=(g.hdr id).ownBlock
 | .frozen t xs=>(Ty.sl t).K w (Eu s g) xs [g.hdr id]∧g.blk id=none
 | .last e t xs c j=>∃ cs,M7 w (.sl t) 0 e 1 (g.hdr id) (xs.length + c.toNat) cs∧H8 w (Eu s g) (.sl t) xs (cs.take xs.length)∧g.blk id=(g.hdr id).ownBlock∧
   ∀ u,c=true→cs[xs.length]?=some u→match s.res j with
    | .row _ _ _=>u=g.hdr j
    | .frozen _ _=>u=g.hdr j
    | .dead=>True
    | _=>False
 | .map t xs=>∃ b es clock,g.blk id=some b∧g.hdr id=.map (some b)∧w.heap[b]?=some (.map es clock)∧MapKept.Stamped es clock∧Og es t xs
 | .iter t xs left cur=>∃ b r es clock since c0 seen,g.blk id=some r∧g.hdr id=.pointer (some ⟨r,0,none⟩)∧w.heap[r]?=some (.mapIter (some b) since seen c0)∧Eu s g b∧b < w.heap.size∧
   w.heap[b]?=some (.map es clock)∧MapKept.Stamped es clock∧Og es t xs∧Az2 es seen t left∧(∀ x∈es.toList,x.born < since)∧since≤c0∧since≤clock∧∀ k v,cur=some (k,v)→c0=clock∧∃ e∈es.toList,∃ seen0:Array Nat,seen=seen0.push e.born∧e.key=.string k∧e.val=Yu t v
 | _=>g.blk id=none
structure B8 (n B:Nat) (Iq:List Nat) (s:St) (g:Gh) (a:Act) (w:World):Prop where
 size:a.tmps.size=n
 defers:a.defers=[]
 base:B≤w.heap.size
 cell:∀ i,Uk s g w (s.cell i) (a.tmps.getD i undef)
 res:∀ id,K8 s g w id (s.res id)
 inj:∀ id id' b,g.blk id=some b→g.blk id'=some b→id=id'
 lt:∀ id b,g.blk id=some b→b < w.heap.size∧(b∈Iq∨B≤b)∧¬ g.av b
 avB:∀ b,g.av b→b < B
structure Jr (Iq:List Nat) (w w':World):Prop where
 os:w'.os=w.os
 tape:w'.tape=w.tape
 output:w'.output=w.output
 size:w.heap.size≤w'.heap.size
 block:∀ k,k < w.heap.size→k ∉ Iq→w'.heap[k]?=w.heap[k]?
theorem Jr.refl (Iq:List Nat) (w:World):Jr Iq w w:=⟨rfl,rfl,rfl,Nat.le_refl _,fun _ _ _=>rfl⟩
theorem Jr.trans {Iq:List Nat} {a b c:World} (h:Jr Iq a b) (k:Jr Iq b c):Jr Iq a c:=
 ⟨k.os.trans h.os,k.tape.trans h.tape,k.output.trans h.output,Nat.le_trans h.size k.size,fun i hi hn=>(k.block i (Nat.lt_of_lt_of_le hi h.size) hn).trans (h.block i hi hn)⟩
theorem Jr.below {w w':World} (h:Jr [] w w'):Below w.heap.size w w':=⟨h.os,h.tape,h.output,h.size,fun k hk=>h.block k hk (by simp)⟩
def A4 (s:St) (g:Gh) (s':St) (g':Gh) (id:Nat):Prop:=
 s'.res id=.dead∨match s.res id with
  | .row _ t xs=>(∃ e' xs',s'.res id=.row e' t xs'∧xs'.length=xs.length∧g'.hdr id=g.hdr id∧g'.blk id=g.blk id)∨(∃ t' xs',s'.res id=.frozen t' xs'∧g'.hdr id=g.hdr id)
  | .frozen _ _=>∃ t' xs',s'.res id=.frozen t' xs'∧g'.hdr id=g.hdr id
  | .box _ _=>∃ T ls,s'.res id=.box T ls∧g'.blk id=g.blk id
  | .last _ _ xs c _=>(∃ e' t' xs' c' j',s'.res id=.last e' t' xs' c' j'∧List.length xs' + c'.toNat=List.length xs + c.toNat∧g'.hdr id=g.hdr id∧g'.blk id=g.blk id)∨(∃ t' xs',s'.res id=.frozen t' xs'∧g'.hdr id=g.hdr id)
  | .map _ _=>∃ t xs,s'.res id=.map t xs∧g'.hdr id=g.hdr id∧g'.blk id=g.blk id
  | .iter _ _ _ _=>∃ t xs seen cur,s'.res id=.iter t xs seen cur∧g'.hdr id=g.hdr id∧g'.blk id=g.blk id
  | .dead=>False
  | .unborn=>True
theorem A4.same {s s':St} {g g':Gh} {id:Nat} (h:s'.res id=s.res id) (hb:g'.blk id=g.blk id) (hh:g'.hdr id=g.hdr id):A4 s g s' g' id:=by
 unfold A4
 rw [h]
 cases hs:s.res id with
 | unborn=>exact .inr trivial
 | dead=>exact .inl rfl
 | box T ls=>exact .inr ⟨T,ls,rfl,hb⟩
 | row e t xs=>exact .inr (.inl ⟨e,xs,rfl,rfl,hh,hb⟩)
 | frozen t xs=>exact .inr ⟨t,xs,rfl,hh⟩
 | last e t xs c j=>exact .inr (.inl ⟨e,t,xs,c,j,rfl,rfl,hh,hb⟩)
 | map t xs=>exact .inr ⟨t,xs,rfl,hh,hb⟩
 | iter t xs seen cur=>exact .inr ⟨t,xs,seen,cur,rfl,hh,hb⟩
theorem A4.trans {s s1 s2:St} {g g1 g2:Gh} {id:Nat} (h:A4 s g s1 g1 id) (k:A4 s1 g1 s2 g2 id):A4 s g s2 g2 id:=by
 unfold A4 at h k ⊢
 rcases k with k | k
 ·exact .inl k
 ·rcases h with h | h
  ·rw [h] at k
   exact k.elim
  ·cases hs:s.res id with
   | unborn=>exact .inr trivial
   | dead=>rw [hs] at h; exact h.elim
   | box T ls=>
    rw [hs] at h
    obtain ⟨T',ls',e1,e2⟩:=h
    rw [e1] at k
    obtain ⟨T2,ls2,k1,k2⟩:=k
    exact .inr ⟨T2,ls2,k1,k2.trans e2⟩
   | row e t xs=>
    rw [hs] at h
    rcases h with ⟨e',xs',h1,h2,h3,h4⟩ | ⟨t',xs',h1,h2⟩
    ·rw [h1] at k
     rcases k with ⟨e2,xs2,k1,k2,k3,k4⟩ | ⟨t2,xs2,k1,k2⟩
     ·exact .inr (.inl ⟨e2,xs2,k1,k2.trans h2,k3.trans h3,k4.trans h4⟩)
     ·exact .inr (.inr ⟨t2,xs2,k1,k2.trans h3⟩)
    ·rw [h1] at k
     obtain ⟨t2,xs2,k1,k2⟩:=k
     exact .inr (.inr ⟨t2,xs2,k1,k2.trans h2⟩)
   | frozen t xs=>
    rw [hs] at h
    obtain ⟨t',xs',h1,h2⟩:=h
    rw [h1] at k
    obtain ⟨t2,xs2,k1,k2⟩:=k
    exact .inr ⟨t2,xs2,k1,k2.trans h2⟩
   | last e t xs c j=>
    rw [hs] at h
    rcases h with ⟨e',t',xs',c',j',h1,h2,h3,h4⟩ | ⟨t',xs',h1,h2⟩
    ·rw [h1] at k
     rcases k with ⟨e2,t2,xs2,c2,j2,k1,k2,k3,k4⟩ | ⟨t2,xs2,k1,k2⟩
     ·exact .inr (.inl ⟨e2,t2,xs2,c2,j2,k1,k2.trans h2,k3.trans h3,k4.trans h4⟩)
     ·exact .inr (.inr ⟨t2,xs2,k1,k2.trans h3⟩)
    ·rw [h1] at k
     obtain ⟨t2,xs2,k1,k2⟩:=k
     exact .inr (.inr ⟨t2,xs2,k1,k2.trans h2⟩)
   | map t xs=>
    rw [hs] at h
    obtain ⟨t',xs',h1,h2,h3⟩:=h
    rw [h1] at k
    obtain ⟨t2,xs2,k1,k2,k3⟩:=k
    exact .inr ⟨t2,xs2,k1,k2.trans h2,k3.trans h3⟩
   | iter t xs seen cur=>
    rw [hs] at h
    obtain ⟨t',xs',seen',cur',h1,h2,h3⟩:=h
    rw [h1] at k
    obtain ⟨t2,xs2,seen2,cur2,k1,k2,k3⟩:=k
    exact .inr ⟨t2,xs2,seen2,cur2,k1,k2.trans h2,k3.trans h3⟩
section
variable {s s':St} {g g':Gh} {w w':World}
theorem Dq.step (hS:∀ b,Eu s g b→b < w.heap.size→Eu s' g' b∧w'.heap[b]?=w.heap[b]?) (hI:∀ id,A4 s g s' g' id):
  ∀ {l:Lf} {u:Value},Dq s g w l u→Dq s' g' w' l u
 | .c _,_,h=>h
 | .sl _ _,_,h=>Ty.K_keep hS h
 | .row id,u,h=>by
  have r:=hI id
  unfold A4 at r
  simp only [Dq] at h ⊢
  rcases r with r | r
  ·rw [r]; trivial
  ·cases hs:s.res id<;>rw [hs] at h r<;>simp only at h r
   ·rcases r with ⟨_,_,e,_,e2,_⟩ | ⟨_,_,e,e2⟩
    ·rw [e]; exact h.trans e2.symm
    ·rw [e]; exact h.trans e2.symm
   ·obtain ⟨_,_,e,e2⟩:=r
    rw [e]; exact h.trans e2.symm
   ·rcases r with ⟨_,_,_,_,_,e,_,e2,_⟩ | ⟨_,_,e,e2⟩
    ·rw [e]; exact h.trans e2.symm
    ·rw [e]; exact h.trans e2.symm
   ·obtain ⟨_,_,e,e2,_⟩:=r
    rw [e]; exact h.trans e2.symm
   ·obtain ⟨_,_,_,_,e,e2,_⟩:=r
    rw [e]; exact h.trans e2.symm
 | .ptr id off,u,h=>by
  have r:=hI id
  unfold A4 at r
  simp only [Dq] at h ⊢
  rcases r with r | r
  ·rw [r]; trivial
  ·cases hs:s.res id<;>rw [hs] at h r<;>simp only at h r
   obtain ⟨_,_,e,e2⟩:=r
   obtain ⟨b,hb,hu⟩:=h
   rw [e]; exact ⟨b,e2.trans hb,hu⟩
 | .ep t xs i off,u,⟨ad,cs,h1,h2,h3,h4,h5⟩=>by
  obtain ⟨s1,s2⟩:=hS _ h2 h3
  refine ⟨ad,cs,h1,s1,z8 h3 s2,Ty.K_keep hS h4,fun j v hv=>?_⟩
  exact (Ajx (by rw [U0]; exact s2)).trans (h5 j v hv)
 | .rp id i off,u,h=>by
  have r:=hI id
  unfold A4 at r
  simp only [Dq] at h ⊢
  rcases r with r | r
  ·rw [r]; trivial
  ·cases hs:s.res id<;>rw [hs] at h r<;>simp only at h r
   ·rcases r with ⟨_,xs',e,e1,_,e3⟩ | ⟨_,_,e,_⟩
    ·obtain ⟨hl,b,hb,hu⟩:=h
     rw [e]; exact ⟨by rw [e1]; exact hl,b,e3.trans hb,hu⟩
    ·rw [e]; trivial
   ·obtain ⟨_,_,e,_⟩:=r
    rw [e]; trivial
   ·rcases r with ⟨_,_,xs',_,_,e,e1,_,e3⟩ | ⟨_,_,e,_⟩
    ·obtain ⟨hl,b,hb,hu⟩:=h
     rw [e]; exact ⟨by rw [e1]; exact hl,b,e3.trans hb,hu⟩
    ·rw [e]; trivial
 | .sp id,u,h=>by
  have r:=hI id
  unfold A4 at r
  simp only [Dq] at h ⊢
  rcases r with r | r
  ·rw [r]; trivial
  ·cases hs:s.res id<;>rw [hs] at h r<;>simp only at h r
   obtain ⟨_,_,e,e2⟩:=r
   rw [e]
   rcases h with h | ⟨b,hb,hu⟩
   ·exact .inl h
   ·exact .inr ⟨b,e2.trans hb,hu⟩
theorem G7.step (hS:∀ b,Eu s g b→b < w.heap.size→Eu s' g' b∧w'.heap[b]?=w.heap[b]?) (hI:∀ id,A4 s g s' g' id):
  ∀ {ls:List Lf} {cs:List Value},G7 s g w ls cs→G7 s' g' w' ls cs
 | [],[],_=>trivial
 | [],_::_,h=>h.elim
 | _::_,[],h=>h.elim
 | _::_,_::_,h=>⟨⟨Dq.step hS hI h.1.1,h.1.2⟩,G7.step hS hI h.2⟩
theorem VlR.step (hS:∀ b,Eu s g b→b < w.heap.size→Eu s' g' b∧w'.heap[b]?=w.heap[b]?) (hI:∀ id,A4 s g s' g' id):
  ∀ {v:Vl} {u:Value},VlR s g w v u→VlR s' g' w' v u
 | .lf _,_,h=>⟨Dq.step hS hI h.1,h.2⟩
 | .ag _,_,⟨cs,h1,h2⟩=>⟨cs,h1,G7.step hS hI h2⟩
theorem Uk.step (hS:∀ b,Eu s g b→b < w.heap.size→Eu s' g' b∧w'.heap[b]?=w.heap[b]?) (hI:∀ id,A4 s g s' g' id):
  ∀ {v:AV} {u:Value},Uk s g w v u→Uk s' g' w' v u
 | .dead,_,_=>trivial
 | .vl _,_,h=>VlR.step hS hI h
 | .tp _,_,⟨us,h1,h2,h3⟩=>⟨us,h1,h2,fun j l hl=>by
   obtain ⟨v,e1,e2⟩:=h3 j l hl
   exact ⟨v,e1,VlR.step hS hI e2⟩⟩
 | .fn _ _,_,⟨cs,h1,h2⟩=>⟨cs,h1,G7.step hS hI h2⟩
theorem H8.keep {S S':Nat→Prop} (hS:∀ b,S b→b < w.heap.size→S' b∧w'.heap[b]?=w.heap[b]?) {t:Ty} {xs:List t.D} {cs:List Value} (h:H8 w S t xs cs):H8 w' S' t xs cs:=
 ⟨h.1,fun i x hx=>Ty.K_keep hS (h.2 i x hx)⟩
theorem Aos {t:Ty} {b0:Nat} {e:TypeId} {sz n:Nat} {v:Value} {cs:List Value} (h:M7 w t b0 e sz v n cs) (hb:∀ b,v.ownBlock=some b→w'.heap[b]?=w.heap[b]?):M7 w' t b0 e sz v n cs:=by
 obtain ⟨h1,h2⟩:=h
 refine ⟨h1,?_⟩
 rcases h2 with h2 | ⟨gg,cap,cur,rfl,q1,q2,q3⟩
 ·exact .inl h2
 ·exact .inr ⟨gg,cap,cur,rfl,q1,(hb gg rfl).trans q2,q3⟩
theorem K8.step (hS:∀ b,Eu s g b→b < w.heap.size→Eu s' g' b∧w'.heap[b]?=w.heap[b]?) (hI:∀ id,A4 s g s' g' id) {id:Nat}
  (hb:g'.blk id=g.blk id) (hh:g'.hdr id=g.hdr id) (hk:∀ b,g.blk id=some b→w'.heap[b]?=w.heap[b]?):
  ∀ {r:Res},K8 s g w id r→K8 s' g' w' id r
 | .unborn,h=>hb.trans h
 | .dead,h=>hb.trans h
 | .box T ls,⟨b,cs,h1,h2,h3⟩=>⟨b,cs,hb.trans h1,(hk b h1).trans h2,G7.step hS hI h3⟩
 | .row e t xs,⟨cs,h1,h2,h3⟩=>⟨cs,by rw [hh]; exact Aos h1 (fun b hb'=>hk b (by rw [h3]; exact hb')),h2.keep hS,by rw [hb,hh]; exact h3⟩
 | .frozen t xs,⟨h1,h2⟩=>⟨by rw [hh]; exact Ty.K_keep hS h1,hb.trans h2⟩
 | .last e t xs c j,⟨cs,h1,h2,h3,h4⟩=>⟨cs,by rw [hh]; exact Aos h1 (fun b hb'=>hk b (by rw [h3]; exact hb')),h2.keep hS,by rw [hb,hh]; exact h3,fun u hc hu=>by
   have r:=hI j
   have q:=h4 u hc hu
   unfold A4 at r
   rcases r with r | r
   ·rw [r]; trivial
   ·cases hs:s.res j<;>rw [hs] at q r<;>simp only at q r
    ·rcases r with ⟨_,_,e,_,e2,_⟩ | ⟨_,_,e,e2⟩
     ·rw [e]; exact q.trans e2.symm
     ·rw [e]; exact q.trans e2.symm
    ·obtain ⟨_,_,e,e2⟩:=r
     rw [e]; exact q.trans e2.symm⟩
 | .map t xs,⟨b,es,clock,h1,h2,h3,h4,h5⟩=>⟨b,es,clock,hb.trans h1,hh.trans h2,(hk b h1).trans h3,h4,h5⟩
 | .iter t xs left cur,⟨b,r,es,clock,since,c0,sn,h1,h2,h3,h4,h5,h6,h7⟩=>by
  obtain ⟨s1,s2⟩:=hS b h4 h5
  exact ⟨b,r,es,clock,since,c0,sn,hb.trans h1,hh.trans h2,(hk r h1).trans h3,s1,z8 h5 s2,s2.trans h6,h7⟩
theorem B8.step {n B:Nat} {Iq:List Nat} {a a':Act} (h:B8 n B Iq s g a w) (hsz:a'.tmps.size=n) (hd:a'.defers=[]) (hB:w.heap.size≤w'.heap.size)
  (hS:∀ b,Eu s g b→b < w.heap.size→Eu s' g' b∧w'.heap[b]?=w.heap[b]?) (hI:∀ id,A4 s g s' g' id)
  (hc:∀ i,(s'.cell i=s.cell i∧a'.tmps.getD i undef=a.tmps.getD i undef)∨Uk s' g' w' (s'.cell i) (a'.tmps.getD i undef))
  (hr:∀ id,(s'.res id=s.res id∧g'.blk id=g.blk id∧g'.hdr id=g.hdr id∧∀ b,g.blk id=some b→w'.heap[b]?=w.heap[b]?)∨K8 s' g' w' id (s'.res id))
  (hinj:∀ id id' b,g'.blk id=some b→g'.blk id'=some b→id=id')
  (hlt:∀ id b,g'.blk id=some b→b < w'.heap.size∧(b∈Iq∨B≤b)∧¬ g.av b) (hav:g'.av=g.av):B8 n B Iq s' g' a' w' where
 size:=hsz
 defers:=hd
 base:=Nat.le_trans h.base hB
 cell i:=by
  rcases hc i with ⟨e1,e2⟩ | e
  ·rw [e1,e2]; exact Uk.step hS hI (h.cell i)
  ·exact e
 res id:=by
  rcases hr id with ⟨e1,e2,e3,e4⟩ | e
  ·rw [e1]; exact K8.step hS hI e2 e3 e4 (h.res id)
  ·exact e
 inj:=hinj
 lt:=by rw [hav]; exact hlt
 avB:=by rw [hav]; exact h.avB
end
section
variable {s:St} {g:Gh} {w:World}
theorem G7.length:∀ {ls:List Lf} {cs:List Value},G7 s g w ls cs→cs.length=ls.length
 | [],[],_=>rfl
 | [],_::_,h=>h.elim
 | _::_,[],h=>h.elim
 | _::ls,_::cs,h=>by simp [G7.length h.2]
theorem G7.one:∀ {ls:List Lf} {cs:List Value},G7 s g w ls cs→∀ u∈cs,u.oneCell'=true
 | [],[],_,_,hu=>by simp at hu
 | [],_::_,h,_,_=>h.elim
 | _::_,[],h,_,_=>h.elim
 | _::ls,_::cs,h,u,hu=>by
  rcases List.mem_cons.1 hu with rfl | hu
  ·exact h.1.2
  ·exact G7.one h.2 u hu
theorem G7.drop (n:Nat):∀ {ls:List Lf} {cs:List Value},G7 s g w ls cs→G7 s g w (ls.drop n) (cs.drop n):=by
 induction n with
 | zero=>intro ls cs h; exact h
 | succ n ih=>
  intro ls cs h
  cases ls<;>cases cs
  ·exact trivial
  ·exact h.elim
  ·exact h.elim
  ·exact ih h.2
theorem G7.take (n:Nat):∀ {ls:List Lf} {cs:List Value},G7 s g w ls cs→G7 s g w (ls.take n) (cs.take n):=by
 induction n with
 | zero=>intro ls cs h; exact trivial
 | succ n ih=>
  intro ls cs h
  cases ls<;>cases cs
  ·exact trivial
  ·exact h.elim
  ·exact h.elim
  ·exact ⟨h.1,ih h.2⟩
theorem G7.append:∀ {ls:List Lf} {cs:List Value} {ls':List Lf} {cs':List Value},G7 s g w ls cs→G7 s g w ls' cs'→G7 s g w (ls++ls') (cs++cs')
 | [],[],_,_,_,h'=>h'
 | [],_::_,_,_,h,_=>h.elim
 | _::_,[],_,_,h,_=>h.elim
 | _::_,_::_,_,_,h,h'=>⟨h.1,G7.append h.2 h'⟩
theorem G7.get:∀ {ls:List Lf} {cs:List Value} {j:Nat} {l:Lf},G7 s g w ls cs→ls[j]?=some l→∃ v,cs[j]?=some v∧Dq s g w l v∧v.oneCell'=true
 | [],_,j,_,_,h=>by simp at h
 | _::_,[],_,_,h,_=>h.elim
 | l::ls,v::cs,0,_,h,hj=>by
  simp at hj
  subst hj
  exact ⟨v,rfl,h.1⟩
 | l::ls,v::cs,j + 1,_,h,hj=>by
  obtain ⟨u,e1,e2⟩:=G7.get h.2 (j:=j) (by simpa using hj)
  exact ⟨u,by simpa using e1,e2⟩
theorem G7.set:∀ {ls:List Lf} {cs:List Value} {j:Nat} {l:Lf} {v:Value},G7 s g w ls cs→Dq s g w l v→v.oneCell'=true→G7 s g w (ls.set j l) (cs.set j v)
 | [],[],_,_,_,_,_,_=>trivial
 | [],_::_,_,_,_,h,_,_=>h.elim
 | _::_,[],_,_,_,h,_,_=>h.elim
 | l::ls,v::cs,0,_,_,h,hl,hv=>⟨⟨hl,hv⟩,h.2⟩
 | l::ls,v::cs,j + 1,_,_,h,hl,hv=>⟨h.1,G7.set h.2 hl hv⟩
def Vl.ls:Vl→List Lf
 | .lf l=>[l]
 | .ag ls=>ls
theorem VlR.cells {v:Vl} {u:Value} (h:VlR s g w v u):G7 s g w v.ls u.cells.toList:=by
 cases v with
 | lf l=>
  obtain ⟨h1,h2⟩:=h
  have:u.cells=#[u]:=by cases u<;>first | rfl | simp [Value.oneCell'] at h2
  rw [this]
  exact ⟨⟨h1,h2⟩,trivial⟩
 | ag ls=>
  obtain ⟨cs,rfl,h2⟩:=h
  exact h2
def Ty.leafs:(t:Ty)→t.D→List Lf
 | .int k,n=>[.c (.int k n)]
 | .bool,b=>[.c (.bool b)]
 | .str,s=>[.c (.string s)]
 | .sl t,xs=>[.sl t xs]
 | .unit,_=>[]
 | .pair a b,x=>a.leafs x.1++b.leafs x.2
theorem Ty.K_leafs:∀ {t:Ty} {x:t.D} {cs:List Value},t.K w (Eu s g) x cs→G7 s g w (t.leafs x) cs
 | .int _,_,_,h=>by cases h; exact ⟨⟨rfl,rfl⟩,trivial⟩
 | .bool,_,_,h=>by cases h; exact ⟨⟨rfl,rfl⟩,trivial⟩
 | .str,_,_,h=>by cases h; exact ⟨⟨rfl,rfl⟩,trivial⟩
 | .sl t,xs,cs,⟨A,c,h1,h2,h3⟩=>by subst h1; exact ⟨⟨⟨A,c,rfl,h2,h3⟩,rfl⟩,trivial⟩
 | .unit,_,_,h=>by cases h; exact trivial
 | .pair a b,_,_,⟨c1,c2,h,h1,h2⟩=>by subst h; exact (K_leafs h1).append (K_leafs h2)
def St.leafD (s:St):(t:Ty)→Lf→Option t.D
 | .int k,.c (.int k' n)=>if k'=k then some n else none
 | .bool,.c (.bool b)=>some b
 | .str,.c (.string b)=>some b
 | .sl t,.sl t' xs=>if h:t'=t then some (h ▸ xs) else none
 | .sl _,.c (.slice none 0 0)=>some []
 | .sl t,.row id=>match s.res id with
  | .frozen t' xs=>if h:t'=t then some (h ▸ xs) else none
  | _=>none
 | _,_=>none
theorem St.leafD_K:∀ {t:Ty} {l:Lf} {x:t.D} {u:Value},s.leafD t l=some x→Dq s g w l u→(∀ id,K8 s g w id (s.res id))→t.K w (Eu s g) x [u]:=by
 intro t l x u h hl hr
 unfold St.leafD at h
 split at h
 ·split at h<;>cases h
  rename_i hk
  subst hk
  cases hl
  rfl
 ·cases h; cases hl; rfl
 ·cases h; cases hl; rfl
 ·split at h<;>cases h
  rename_i t t' xs hk
  subst hk
  exact hl
 ·cases h
  cases hl
  exact ⟨none,0,rfl,Nat.le_refl _,fun i x hx=>by simp [nth] at hx⟩
 ·split at h
  ·rename_i id _ t' xs hres
   split at h<;>cases h
   rename_i hk
   subst hk
   have:=hr id
   rw [hres] at this
   simp only [Dq,hres] at hl
   rw [hl]
   exact this.1
  ·cases h
 ·cases h
def St.parse (s:St):(t:Ty)→List Lf→Option (t.D×List Lf)
 | .unit,ls=>some ((),ls)
 | .pair a b,ls=>(s.parse a ls).bind fun p=>(s.parse b p.2).bind fun q=>some ((p.1,q.1),q.2)
 | .int k,l::r=>(s.leafD (.int k) l).bind fun x=>some (x,r)
 | .bool,l::r=>(s.leafD .bool l).bind fun x=>some (x,r)
 | .str,l::r=>(s.leafD .str l).bind fun x=>some (x,r)
 | .sl t,l::r=>(s.leafD (.sl t) l).bind fun x=>some (x,r)
 | _,[]=>none
theorem St.parse_K (hr:∀ id,K8 s g w id (s.res id)):∀ {t:Ty} {ls:List Lf} {cs:List Value} {x:t.D} {r:List Lf},s.parse t ls=some (x,r)→G7 s g w ls cs→
  r=ls.drop t.sz∧t.K w (Eu s g) x (cs.take t.sz):=by
 have one:∀ {t:Ty} {l:Lf} {ls':List Lf} {cs:List Value} {x:t.D} {r:List Lf},t.sz=1→((s.leafD t l).bind fun x=>some (x,ls'))=some (x,r)→G7 s g w (l::ls') cs→r=(l::ls').drop t.sz∧t.K w (Eu s g) x (cs.take t.sz):=by
  intro t l ls' cs x r hz h hL
  obtain ⟨y,h1,h2⟩:=Option.bind_eq_some_iff.1 h
  cases h2
  cases cs with
  | nil=>exact hL.elim
  | cons v cs=>
   rw [hz]
   exact ⟨rfl,St.leafD_K h1 hL.1.1 hr⟩
 intro t
 induction t with
 | unit=>
  intro ls cs x r h _
  simp only [St.parse] at h
  cases h
  exact ⟨rfl,rfl⟩
 | pair a b iha ihb=>
  intro ls cs x r h hL
  simp only [St.parse] at h
  obtain ⟨p,h1,h2⟩:=Option.bind_eq_some_iff.1 h
  obtain ⟨q,h3,h4⟩:=Option.bind_eq_some_iff.1 h2
  cases h4
  obtain ⟨e1,k1⟩:=iha h1 hL
  have hL2:G7 s g w p.2 (cs.drop a.sz):=by rw [e1]; exact hL.drop _
  obtain ⟨e2,k2⟩:=ihb h3 hL2
  refine ⟨by rw [e2,e1,List.drop_drop]; rfl,cs.take a.sz,(cs.drop a.sz).take b.sz,?_,k1,k2⟩
  show cs.take (a.sz + b.sz)=_
  rw [List.take_add]
 | int k=>
  intro ls cs x r h hL
  cases ls with
  | nil=>simp [St.parse] at h
  | cons l ls=>exact one rfl h hL
 | bool=>
  intro ls cs x r h hL
  cases ls with
  | nil=>simp [St.parse] at h
  | cons l ls=>exact one rfl h hL
 | str=>
  intro ls cs x r h hL
  cases ls with
  | nil=>simp [St.parse] at h
  | cons l ls=>exact one rfl h hL
 | sl t _=>
  intro ls cs x r h hL
  cases ls with
  | nil=>simp [St.parse] at h
  | cons l ls=>exact one rfl h hL
end
end Go.Proofs.YtfkefgbihlfjmaaGreat.R

