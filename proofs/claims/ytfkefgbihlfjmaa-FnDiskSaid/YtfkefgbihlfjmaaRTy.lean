/- The kinds of data that the evaluator knows, what is read of them in memory, and the evaluator's state. No condition. -/
import Derived.Below
import Derived.OwnWalk
import Derived.Maps.AppendAt
import Derived.MapKept
import Derived.Laws.BytesArg
import Derived.Orders
import Derived.Laws.Cells
import Derived.Laws.CopyRow
import Derived.Laws.Entries
import Derived.Great.BuildSlice
import Derived.Laws.Tables
import Derived.Laws.OwnMore
import Derived.Great.FillDense
import Derived.Deep.AppendSrc
import Derived.Laws.BytesString
import Derived.WideShapes
import Derived.Laws.Concat
import Derived.Laws.StructEq
import Derived.Laws.Strings3
import Derived.Laws.DeepStrings4
import Derived.Laws.Slices
import Derived.Laws.IdiomStrings
import Derived.Maps.Range
import Derived.Maps.RangeRun
import Derived.BigCall
noncomputable section
set_option linter.unusedVariables false
set_option linter.unusedSimpArgs false
namespace Go.Proofs.Ytfkefgbihlfjmaa.R
open Go Go.RowKit
section
abbrev Ab:=ByteArray
abbrev Ae:ByteArray:=ByteArray.mk #[]
theorem Ag {p:Prop} [Decidable p] (h:p):decide p=true:=decide_eq_true h
theorem Bh {p:Prop} [Decidable p] (h:¬p):decide p=false:=decide_eq_false h
theorem Hm {p:Prop} [Decidable p] (h:decide p=true):p:=of_decide_eq_true h
theorem Fg {α:Type _} {x y:List α}:(x++y).length=x.length + y.length:=List.length_append
theorem D9 {α:Type _} {a:α}:[a].length=1:=rfl
theorem Jh (n:Nat):(n:Int).toNat=n:=Int.toNat_natCast n
theorem A6 {α β:Type _} {x:Option α} {f:α→Option β} {b:β} (h:x.bind f=some b):∃ a,x=some a∧f a=some b:=Option.bind_eq_some_iff.1 h
inductive Ty where
 | int (k:IntKind)
 | bool
 | str
 | sl (t:Ty)
 | unit
 | pair (a b:Ty)
 deriving DecidableEq
def Ty.D:Ty→Type
 | .int _=>Int
 | .bool=>Bool
 | .str=>Ab
 | .sl t=>List t.D
 | .unit=>Unit
 | .pair a b=>a.D×b.D
def Ty.sz:Ty→Nat
 | .unit=>0
 | .pair a b=>a.sz + b.sz
 | _=>1
def Ty.zero:(t:Ty)→t.D
 | .int _=>(0:Int)
 | .bool=>false
 | .str=>(⟨#[]⟩:Ab)
 | .sl _=>[]
 | .unit=>()
 | .pair a b=>(a.zero,b.zero)
abbrev nth {α:Type} (xs:List α) (i:Nat):Option α:=xs[i]?
def Ty.K (w:World) (S:Nat→Prop):(t:Ty)→t.D→List Value→Prop
 | .int k,n,cs=>cs=[.int k n]
 | .bool,b,cs=>cs=[.bool b]
 | .str,s,cs=>cs=[.string s]
 | .sl t,xs,cs=>∃ (A:Option Addr) (c:Nat),cs=[.slice A (List.length xs) c]∧List.length xs≤c∧
   ∀ (i:Nat) (x:t.D),nth (α:=t.D) xs i=some x→∃ ad,A=some ad∧S ad.block∧ad.block < w.heap.size∧
    ∃ cs',List.length cs'=t.sz∧t.K w S x cs'∧∀ (j:Nat) (u:Value),cs'[j]? = some u→w.cell? (ad.add (i * t.sz + j))=some u
 | .unit,_,cs=>cs=[]
 | .pair a b,x,cs=>∃ c1 c2,cs=c1++c2∧a.K w S x.1 c1∧b.K w S x.2 c2
theorem Ty.K_len {w:World} {S:Nat→Prop}:∀ {t:Ty} {x:t.D} {cs:List Value},t.K w S x cs→cs.length=t.sz
 | .int _,_,_,h=>by cases h; rfl
 | .bool,_,_,h=>by cases h; rfl
 | .str,_,_,h=>by cases h; rfl
 | .sl _,_,_,⟨_,_,h,_⟩=>by cases h; rfl
 | .unit,_,_,h=>by cases h; rfl
 | .pair a b,_,_,⟨_,_,h,h1,h2⟩=>by
  subst h
  rw [Fg,K_len h1,K_len h2]
  rfl
theorem Ty.K_one {w:World} {S:Nat→Prop}:∀ {t:Ty} {x:t.D} {cs:List Value},t.K w S x cs→∀ u∈cs,u.oneCell'=true
 | .int _,_,_,h,u,hu=>by cases h; simp at hu; subst hu; rfl
 | .bool,_,_,h,u,hu=>by cases h; simp at hu; subst hu; rfl
 | .str,_,_,h,u,hu=>by cases h; simp at hu; subst hu; rfl
 | .sl _,_,_,⟨_,_,h,_⟩,u,hu=>by cases h; simp at hu; subst hu; rfl
 | .unit,_,_,h,u,hu=>by cases h; simp at hu
 | .pair a b,_,_,⟨_,_,h,h1,h2⟩,u,hu=>by
  subst h
  rcases List.mem_append.1 hu with hu | hu
  ·exact K_one h1 u hu
  ·exact K_one h2 u hu
theorem Ang {w w':World} {a:Addr} (h:w'.heap[a.block]? = w.heap[a.block]?):w'.cell? a=w.cell? a:=by
 unfold World.cell?
 rw [h]
theorem Ad9 {w w':World} {b:Nat} (hb:b < w.heap.size) (h:w'.heap[b]? = w.heap[b]?):b < w'.heap.size:=by
 rw [Array.getElem?_eq_getElem hb] at h
 exact (Array.getElem?_eq_some_iff.1 h).1
theorem Xd (a:Addr) (n:Nat):(a.add n).block=a.block:=by unfold Addr.add; split<;>rfl
theorem Amr (a:Addr) (m n:Nat):(a.add m).add n=a.add (m + n):=by
 unfold Addr.add
 by_cases h1:m=0<;>by_cases h2:n=0<;>simp [h1,h2,Nat.add_assoc]
theorem Atu (g j:Nat):(⟨g,0,none⟩:Addr).add j=⟨g,j,none⟩:=by unfold Addr.add; split<;>simp_all
theorem Afu (g i j:Nat):(⟨g,i,none⟩:Addr).add j=⟨g,i + j,none⟩:=by unfold Addr.add; split<;>simp_all
theorem Ty.K_keep {w w':World} {S S':Nat→Prop} (hS:∀ b,S b→b < w.heap.size→S' b∧w'.heap[b]? = w.heap[b]?):
  ∀ {t:Ty} {x:t.D} {cs:List Value},t.K w S x cs→t.K w' S' x cs
 | .int _,_,_,h=>h
 | .bool,_,_,h=>h
 | .str,_,_,h=>h
 | .sl t,xs,cs,⟨A,c,h1,h2,h3⟩=>⟨A,c,h1,h2,fun i x hx=>by
   obtain ⟨ad,e,hs,hlt,cs',hl,hk,hc⟩:=h3 i x hx
   obtain ⟨s1,s2⟩:=hS _ hs hlt
   refine ⟨ad,e,s1,Ad9 hlt s2,cs',hl,K_keep hS hk,fun j u hu=>?_⟩
   exact (Ang (by rw [Xd]; exact s2)).trans (hc j u hu)⟩
 | .unit,_,_,h=>h
 | .pair a b,_,_,⟨c1,c2,h,h1,h2⟩=>⟨c1,c2,h,K_keep hS h1,K_keep hS h2⟩
inductive Lf where
 | c (v:Value)
 | sl (t:Ty) (xs:List t.D)
 | row (id:Nat)
 | ptr (id off:Nat)
 | ep (t:Ty) (xs:List t.D) (i off:Nat)
 | rp (id i off:Nat)
 | sp (id:Nat)
inductive Vl where
 | lf (l:Lf)
 | ag (ls:List Lf)
inductive AV where
 | dead
 | vl (v:Vl)
 | tp (vs:List Vl)
 | fn (f:FuncId) (ls:List Lf)
inductive Qp where
 | unborn
 | dead
 | box (T:TypeId) (ls:List Lf)
 | row (e:TypeId) (t:Ty) (xs:List t.D)
 | frozen (t:Ty) (xs:List t.D)
 | last (e:TypeId) (t:Ty) (xs:List (List t.D)) (c:Bool) (j:Nat)
 | map (t:Ty) (xs:List (Ab×t.D))
 | iter (t:Ty) (xs:List (Ab×t.D)) (left:List (Ab×t.D)) (cur:Option (Ab×t.D))
structure St where
 cell:Nat→AV
 res:Nat→Qp
structure Gh where
 blk:Nat→Option Nat
 hdr:Nat→Value
 av:Nat→Prop
def Qp.live:Qp→Bool
 | .box _ _=>true
 | .row _ _ _=>true
 | .last _ _ _ _ _=>true
 | .map _ _=>true
 | .iter _ _ _ _=>true
 | _=>false
def Ev (s:St) (g:Gh):Nat→Prop:=fun b=>¬ g.av b∧∀ id,(s.res id).live=true→g.blk id≠some b
def Dp (s:St) (g:Gh) (w:World):Lf→Value→Prop
 | .c v,u=>u=v
 | .sl t xs,u=>(Ty.sl t).K w (Ev s g) xs [u]
 | .row id,u=>match s.res id with
   | .row _ _ _=>u=g.hdr id
   | .frozen _ _=>u=g.hdr id
   | .last _ _ _ _ _=>u=g.hdr id
   | .map _ _=>u=g.hdr id
   | .iter _ _ _ _=>u=g.hdr id
   | .dead=>True
   | _=>False
 | .ptr id off,u=>match s.res id with
   | .box _ _=>∃ b,g.blk id=some b∧u=.pointer (some ⟨b,off,none⟩)
   | .dead=>True
   | _=>False
 | .ep t xs i off,u=>∃ (ad:Addr) (cs:List Value),u=.pointer (some (ad.add (i * t.sz + off)))∧Ev s g ad.block∧ad.block < w.heap.size∧
   t.K w (Ev s g) (xs.getD i t.zero) cs∧∀ (j:Nat) (v:Value),cs[j]? = some v→w.cell? (ad.add (i * t.sz + j))=some v
 | .rp id i off,u=>match s.res id with
   | .row _ t xs=>i < xs.length∧∃ b,g.blk id=some b∧u=.pointer (some ⟨b,i * t.sz + off,none⟩)
   | .last _ _ xs c _=>i < xs.length + c.toNat∧∃ b,g.blk id=some b∧u=.pointer (some ⟨b,i + off,none⟩)
   | .frozen _ _=>True
   | .dead=>True
   | _=>False
 | .sp id,u=>match s.res id with
   | .box _ _=>u=.pointer none∨∃ b,g.blk id=some b∧u=.pointer (some ⟨b,0,none⟩)
   | .dead=>True
   | _=>False
def Hl (s:St) (g:Gh) (w:World):List Lf→List Value→Prop
 | [],[]=>True
 | l::ls,v::vs=>(Dp s g w l v∧v.oneCell'=true)∧Hl s g w ls vs
 | _,_=>False
def VlR (s:St) (g:Gh) (w:World):Vl→Value→Prop
 | .lf l,u=>Dp s g w l u∧u.oneCell'=true
 | .ag ls,u=>∃ cs:Array Value,u=.agg cs∧Hl s g w ls cs.toList
def Wz (s:St) (g:Gh) (w:World):AV→Value→Prop
 | .dead,_=>True
 | .vl v,u=>VlR s g w v u
 | .tp vs,u=>∃ us:Array Value,u=.tuple us∧us.size=vs.length∧∀ (j:Nat) (v:Vl),vs[j]? = some v→∃ x,us[j]? = some x∧VlR s g w v x
 | .fn f ls,u=>∃ cs:Array Value,u=.func (.func f) #[] cs∧Hl s g w ls cs.toList
def Iv (w:World) (S:Nat→Prop) (t:Ty) (xs:List t.D) (cs:List Value):Prop:=
 cs.length=xs.length * t.sz∧∀ (i:Nat) (x:t.D),xs[i]? = some x→t.K w S x ((cs.drop (i * t.sz)).take t.sz)
def n6:(t:Ty)→t.D→Value
 | .int k,n=>.int k n
 | .bool,b=>.bool b
 | .str,s=>.string s
 | _,_=>.bool false
def Pp (es:Array MapEntry) (t:Ty) (xs:List (Ab×t.D)):Prop:=es.toList.map (fun e=>(e.key,e.val))=xs.map fun p=>(Value.string p.1,n6 t p.2)
def A2z (es:Array MapEntry) (seen:Array Nat) (t:Ty) (left:List (Ab×t.D)):Prop:=(es.toList.filter fun e=>!seen.contains e.born).map (fun e=>(e.key,e.val))=left.map fun p=>(Value.string p.1,n6 t p.2)
def mkT:Ty→Bool
 | .pair (.int .u8) .unit=>true
 | _=>false
def Ax4 (t:Ty) (k:Nat):Nat×Nat:=bif mkT t then (k,k + 1) else (0,0)
def N3 (w:World) (t:Ty) (base:Nat) (e:TypeId) (size:Nat) (v:Value) (n:Nat) (xs:List Value):Prop:=
 xs.length=n * size∧
 ((v=.slice none 0 0∧n=0)∨
  ∃ g cap cur,v=.slice (some ⟨g,0,none⟩) n cap∧base≤g∧w.heap[g]? = some (.cells cur e (Ax4 t (cap * size)))∧n≤cap∧cap≤maxLen∧cur.size=cap * size∧cur.toList.take (n * size)=xs)
theorem P1 {w:World} {t:Ty} (h:mkT t=false) {base:Nat} {e:TypeId} {size:Nat} {v:Value} {n:Nat} {xs:List Value}:N3 w t base e size v n xs↔w.ownsRow base e size v n xs:=by
 unfold N3 World.ownsRow Ax4
 rw [h]
 exact Iff.rfl
theorem A1g (w:World) (t:Ty) (base:Nat) (e:TypeId) (size:Nat):N3 w t base e size (.slice none 0 0) 0 []:=⟨by simp,.inl ⟨rfl,rfl⟩⟩
theorem N3.cells {w:World} {t:Ty} {base:Nat} {e:TypeId} {size:Nat} {v:Value} {n:Nat} {xs:List Value} (h:N3 w t base e size v n xs) {g:Nat} (hg:v.ownBlock=some g):∀ j u,xs[j]? = some u→w.cell? ((⟨g,0,none⟩:Addr).add j)=some u:=by
 intro j u hu
 rcases h.2 with ⟨rfl,_⟩ | ⟨g',cap,cur,rfl,_,hgg,_,_,_,htake⟩
 ·simp [Value.ownBlock] at hg
 ·simp [Value.ownBlock] at hg
  subst hg
  have hadd:(⟨g',0,none⟩:Addr).add j=⟨g',j,none⟩:=by unfold Addr.add; split<;>simp_all
  rw [hadd,cell_of_row w g' j cur e _ hgg]
  rw [← htake,List.getElem?_take] at hu
  split at hu
  ·simpa using hu
  ·cases hu
def Mc (s:St) (g:Gh) (w:World) (id:Nat):Qp→Prop
 | .box T ls=>∃ b cs,g.blk id=some b∧w.heap[b]? = some (.cells cs T (0,0))∧Hl s g w ls cs.toList
 | .row e t xs=>∃ cs,N3 w t 0 e t.sz (g.hdr id) xs.length cs∧Iv w (Ev s g) t xs cs∧g.blk id=(g.hdr id).ownBlock
 | .frozen t xs=>(Ty.sl t).K w (Ev s g) xs [g.hdr id]∧g.blk id=none
 | .last e t xs c j=>∃ cs,N3 w (.sl t) 0 e 1 (g.hdr id) (xs.length + c.toNat) cs∧Iv w (Ev s g) (.sl t) xs (cs.take xs.length)∧g.blk id=(g.hdr id).ownBlock∧
   ∀ u,c=true→cs[xs.length]? = some u→match s.res j with
    | .row _ _ _=>u=g.hdr j
    | .frozen _ _=>u=g.hdr j
    | .dead=>True
    | _=>False
 | .map t xs=>∃ b es clock,g.blk id=some b∧g.hdr id=.map (some b)∧w.heap[b]? = some (.map es clock)∧MapKept.Stamped es clock∧Pp es t xs
 | .iter t xs left cur=>∃ b r es clock since c0 seen,g.blk id=some r∧g.hdr id=.pointer (some ⟨r,0,none⟩)∧w.heap[r]? = some (.mapIter (some b) since seen c0)∧Ev s g b∧b < w.heap.size∧
   w.heap[b]? = some (.map es clock)∧MapKept.Stamped es clock∧Pp es t xs∧A2z es seen t left∧(∀ x∈es.toList,x.born < since)∧since≤c0∧since≤clock∧∀ k v,cur=some (k,v)→c0=clock∧∃ e∈es.toList,∃ seen0:Array Nat,seen=seen0.push e.born∧e.key=.string k∧e.val=n6 t v
 | _=>g.blk id=none
structure B5 (n B:Nat) (Iq:List Nat) (s:St) (g:Gh) (a:Act) (w:World):Prop where
 size:a.tmps.size=n
 defers:a.defers=[]
 base:B≤w.heap.size
 cell:∀ i,Wz s g w (s.cell i) (a.tmps.getD i undef)
 res:∀ id,Mc s g w id (s.res id)
 inj:∀ id id' b,g.blk id=some b→g.blk id'=some b→id=id'
 lt:∀ id b,g.blk id=some b→b < w.heap.size∧(b∈Iq∨B≤b)∧¬ g.av b
 avB:∀ b,g.av b→b < B
structure Ob (Iq:List Nat) (w w':World):Prop where
 os:w'.os=w.os
 tape:w'.tape=w.tape
 output:w'.output=w.output
 size:w.heap.size≤w'.heap.size
 block:∀ k,k < w.heap.size→k ∉ Iq→w'.heap[k]? = w.heap[k]?
theorem Ob.refl (Iq:List Nat) (w:World):Ob Iq w w:=⟨rfl,rfl,rfl,Nat.le_refl _,fun _ _ _=>rfl⟩
theorem Ob.trans {Iq:List Nat} {a b c:World} (h:Ob Iq a b) (k:Ob Iq b c):Ob Iq a c:=
 ⟨k.os.trans h.os,k.tape.trans h.tape,k.output.trans h.output,Nat.le_trans h.size k.size,fun i hi hn=>(k.block i (Nat.lt_of_lt_of_le hi h.size) hn).trans (h.block i hi hn)⟩
theorem Ob.below {w w':World} (h:Ob [] w w'):Below w.heap.size w w':=⟨h.os,h.tape,h.output,h.size,fun k hk=>h.block k hk (by simp)⟩
def Ay (s:St) (g:Gh) (s':St) (g':Gh) (id:Nat):Prop:=
 s'.res id=.dead∨match s.res id with
  | .row _ t xs=>(∃ e' xs',s'.res id=.row e' t xs'∧xs'.length=xs.length∧g'.hdr id=g.hdr id∧g'.blk id=g.blk id)∨(∃ t' xs',s'.res id=.frozen t' xs'∧g'.hdr id=g.hdr id)
  | .frozen _ _=>∃ t' xs',s'.res id=.frozen t' xs'∧g'.hdr id=g.hdr id
  | .box _ _=>∃ T ls,s'.res id=.box T ls∧g'.blk id=g.blk id
  | .last _ _ xs c _=>(∃ e' t' xs' c' j',s'.res id=.last e' t' xs' c' j'∧List.length xs' + c'.toNat=List.length xs + c.toNat∧g'.hdr id=g.hdr id∧g'.blk id=g.blk id)∨(∃ t' xs',s'.res id=.frozen t' xs'∧g'.hdr id=g.hdr id)
  | .map _ _=>∃ t xs,s'.res id=.map t xs∧g'.hdr id=g.hdr id∧g'.blk id=g.blk id
  | .iter _ _ _ _=>∃ t xs seen cur,s'.res id=.iter t xs seen cur∧g'.hdr id=g.hdr id∧g'.blk id=g.blk id
  | .dead=>False
  | .unborn=>True
theorem Ay.same {s s':St} {g g':Gh} {id:Nat} (h:s'.res id=s.res id) (hb:g'.blk id=g.blk id) (hh:g'.hdr id=g.hdr id):Ay s g s' g' id:=by
 unfold Ay
 rw [h]
 cases hs:s.res id with
 | unborn=>exact .inr trivial
 | dead=>exact .inl rfl
 | box T ls=>exact .inr ⟨T,ls,rfl,hb⟩
 | row e t xs=>exact .inr (.inl ⟨e,xs,rfl,rfl,hh,hb⟩)
 | frozen t xs=>exact .inr ⟨t,xs,rfl,hh⟩
 | last e t xs c j=>exact .inr (.inl ⟨e,t,xs,c,j,rfl,rfl,hh,hb⟩)
 | map t xs=>exact .inr ⟨t,xs,rfl,hh,hb⟩
 | iter t xs seen cur=>exact .inr ⟨t,xs,seen,cur,rfl,hh,hb⟩
theorem Ay.trans {s s1 s2:St} {g g1 g2:Gh} {id:Nat} (h:Ay s g s1 g1 id) (k:Ay s1 g1 s2 g2 id):Ay s g s2 g2 id:=by
 unfold Ay at h k ⊢
 rcases k with k | k
 ·exact .inl k
 ·rcases h with h | h
  ·rw [h] at k
   exact k.elim
  ·cases hs:s.res id with
   | unborn=>exact .inr trivial
   | dead=>rw [hs] at h; exact h.elim
   | box T ls=>
    rw [hs] at h
    obtain ⟨T',ls',e1,e2⟩:=h
    rw [e1] at k
    obtain ⟨T2,ls2,k1,k2⟩:=k
    exact .inr ⟨T2,ls2,k1,k2.trans e2⟩
   | row e t xs=>
    rw [hs] at h
    rcases h with ⟨e',xs',h1,h2,h3,h4⟩ | ⟨t',xs',h1,h2⟩
    ·rw [h1] at k
     rcases k with ⟨e2,xs2,k1,k2,k3,k4⟩ | ⟨t2,xs2,k1,k2⟩
     ·exact .inr (.inl ⟨e2,xs2,k1,k2.trans h2,k3.trans h3,k4.trans h4⟩)
     ·exact .inr (.inr ⟨t2,xs2,k1,k2.trans h3⟩)
    ·rw [h1] at k
     obtain ⟨t2,xs2,k1,k2⟩:=k
     exact .inr (.inr ⟨t2,xs2,k1,k2.trans h2⟩)
   | frozen t xs=>
    rw [hs] at h
    obtain ⟨t',xs',h1,h2⟩:=h
    rw [h1] at k
    obtain ⟨t2,xs2,k1,k2⟩:=k
    exact .inr ⟨t2,xs2,k1,k2.trans h2⟩
   | last e t xs c j=>
    rw [hs] at h
    rcases h with ⟨e',t',xs',c',j',h1,h2,h3,h4⟩ | ⟨t',xs',h1,h2⟩
    ·rw [h1] at k
     rcases k with ⟨e2,t2,xs2,c2,j2,k1,k2,k3,k4⟩ | ⟨t2,xs2,k1,k2⟩
     ·exact .inr (.inl ⟨e2,t2,xs2,c2,j2,k1,k2.trans h2,k3.trans h3,k4.trans h4⟩)
     ·exact .inr (.inr ⟨t2,xs2,k1,k2.trans h3⟩)
    ·rw [h1] at k
     obtain ⟨t2,xs2,k1,k2⟩:=k
     exact .inr (.inr ⟨t2,xs2,k1,k2.trans h2⟩)
   | map t xs=>
    rw [hs] at h
    obtain ⟨t',xs',h1,h2,h3⟩:=h
    rw [h1] at k
    obtain ⟨t2,xs2,k1,k2,k3⟩:=k
    exact .inr ⟨t2,xs2,k1,k2.trans h2,k3.trans h3⟩
   | iter t xs seen cur=>
    rw [hs] at h
    obtain ⟨t',xs',seen',cur',h1,h2,h3⟩:=h
    rw [h1] at k
    obtain ⟨t2,xs2,seen2,cur2,k1,k2,k3⟩:=k
    exact .inr ⟨t2,xs2,seen2,cur2,k1,k2.trans h2,k3.trans h3⟩
section
variable {s s':St} {g g':Gh} {w w':World}
theorem Dp.step (hS:∀ b,Ev s g b→b < w.heap.size→Ev s' g' b∧w'.heap[b]? = w.heap[b]?) (hI:∀ id,Ay s g s' g' id):
  ∀ {l:Lf} {u:Value},Dp s g w l u→Dp s' g' w' l u
 | .c _,_,h=>h
 | .sl _ _,_,h=>Ty.K_keep hS h
 | .row id,u,h=>by
  have r:=hI id
  unfold Ay at r
  simp only [Dp] at h ⊢
  rcases r with r | r
  ·rw [r]; trivial
  ·cases hs:s.res id<;>rw [hs] at h r<;>simp only at h r
   ·rcases r with ⟨_,_,e,_,e2,_⟩ | ⟨_,_,e,e2⟩
    ·rw [e]; exact h.trans e2.symm
    ·rw [e]; exact h.trans e2.symm
   ·obtain ⟨_,_,e,e2⟩:=r
    rw [e]; exact h.trans e2.symm
   ·rcases r with ⟨_,_,_,_,_,e,_,e2,_⟩ | ⟨_,_,e,e2⟩
    ·rw [e]; exact h.trans e2.symm
    ·rw [e]; exact h.trans e2.symm
   ·obtain ⟨_,_,e,e2,_⟩:=r
    rw [e]; exact h.trans e2.symm
   ·obtain ⟨_,_,_,_,e,e2,_⟩:=r
    rw [e]; exact h.trans e2.symm
 | .ptr id off,u,h=>by
  have r:=hI id
  unfold Ay at r
  simp only [Dp] at h ⊢
  rcases r with r | r
  ·rw [r]; trivial
  ·cases hs:s.res id<;>rw [hs] at h r<;>simp only at h r
   obtain ⟨_,_,e,e2⟩:=r
   obtain ⟨b,hb,hu⟩:=h
   rw [e]; exact ⟨b,e2.trans hb,hu⟩
 | .ep t xs i off,u,⟨ad,cs,h1,h2,h3,h4,h5⟩=>by
  obtain ⟨s1,s2⟩:=hS _ h2 h3
  refine ⟨ad,cs,h1,s1,Ad9 h3 s2,Ty.K_keep hS h4,fun j v hv=>?_⟩
  exact (Ang (by rw [Xd]; exact s2)).trans (h5 j v hv)
 | .rp id i off,u,h=>by
  have r:=hI id
  unfold Ay at r
  simp only [Dp] at h ⊢
  rcases r with r | r
  ·rw [r]; trivial
  ·cases hs:s.res id<;>rw [hs] at h r<;>simp only at h r
   ·rcases r with ⟨_,xs',e,e1,_,e3⟩ | ⟨_,_,e,_⟩
    ·obtain ⟨hl,b,hb,hu⟩:=h
     rw [e]; exact ⟨by rw [e1]; exact hl,b,e3.trans hb,hu⟩
    ·rw [e]; trivial
   ·obtain ⟨_,_,e,_⟩:=r
    rw [e]; trivial
   ·rcases r with ⟨_,_,xs',_,_,e,e1,_,e3⟩ | ⟨_,_,e,_⟩
    ·obtain ⟨hl,b,hb,hu⟩:=h
     rw [e]; exact ⟨by rw [e1]; exact hl,b,e3.trans hb,hu⟩
    ·rw [e]; trivial
 | .sp id,u,h=>by
  have r:=hI id
  unfold Ay at r
  simp only [Dp] at h ⊢
  rcases r with r | r
  ·rw [r]; trivial
  ·cases hs:s.res id<;>rw [hs] at h r<;>simp only at h r
   obtain ⟨_,_,e,e2⟩:=r
   rw [e]
   rcases h with h | ⟨b,hb,hu⟩
   ·exact .inl h
   ·exact .inr ⟨b,e2.trans hb,hu⟩
theorem Hl.step (hS:∀ b,Ev s g b→b < w.heap.size→Ev s' g' b∧w'.heap[b]? = w.heap[b]?) (hI:∀ id,Ay s g s' g' id):
  ∀ {ls:List Lf} {cs:List Value},Hl s g w ls cs→Hl s' g' w' ls cs
 | [],[],_=>trivial
 | [],_::_,h=>h.elim
 | _::_,[],h=>h.elim
 | _::_,_::_,h=>⟨⟨Dp.step hS hI h.1.1,h.1.2⟩,Hl.step hS hI h.2⟩
theorem VlR.step (hS:∀ b,Ev s g b→b < w.heap.size→Ev s' g' b∧w'.heap[b]? = w.heap[b]?) (hI:∀ id,Ay s g s' g' id):
  ∀ {v:Vl} {u:Value},VlR s g w v u→VlR s' g' w' v u
 | .lf _,_,h=>⟨Dp.step hS hI h.1,h.2⟩
 | .ag _,_,⟨cs,h1,h2⟩=>⟨cs,h1,Hl.step hS hI h2⟩
theorem Wz.step (hS:∀ b,Ev s g b→b < w.heap.size→Ev s' g' b∧w'.heap[b]? = w.heap[b]?) (hI:∀ id,Ay s g s' g' id):
  ∀ {v:AV} {u:Value},Wz s g w v u→Wz s' g' w' v u
 | .dead,_,_=>trivial
 | .vl _,_,h=>VlR.step hS hI h
 | .tp _,_,⟨us,h1,h2,h3⟩=>⟨us,h1,h2,fun j l hl=>by
   obtain ⟨v,e1,e2⟩:=h3 j l hl
   exact ⟨v,e1,VlR.step hS hI e2⟩⟩
 | .fn _ _,_,⟨cs,h1,h2⟩=>⟨cs,h1,Hl.step hS hI h2⟩
theorem Iv.keep {S S':Nat→Prop} (hS:∀ b,S b→b < w.heap.size→S' b∧w'.heap[b]? = w.heap[b]?) {t:Ty} {xs:List t.D} {cs:List Value} (h:Iv w S t xs cs):Iv w' S' t xs cs:=
 ⟨h.1,fun i x hx=>Ty.K_keep hS (h.2 i x hx)⟩
theorem Ar9 {t:Ty} {b0:Nat} {e:TypeId} {sz n:Nat} {v:Value} {cs:List Value} (h:N3 w t b0 e sz v n cs) (hb:∀ b,v.ownBlock=some b→w'.heap[b]? = w.heap[b]?):N3 w' t b0 e sz v n cs:=by
 obtain ⟨h1,h2⟩:=h
 refine ⟨h1,?_⟩
 rcases h2 with h2 | ⟨gg,cap,cur,rfl,q1,q2,q3⟩
 ·exact .inl h2
 ·exact .inr ⟨gg,cap,cur,rfl,q1,(hb gg rfl).trans q2,q3⟩
theorem Mc.step (hS:∀ b,Ev s g b→b < w.heap.size→Ev s' g' b∧w'.heap[b]? = w.heap[b]?) (hI:∀ id,Ay s g s' g' id) {id:Nat}
  (hb:g'.blk id=g.blk id) (hh:g'.hdr id=g.hdr id) (hk:∀ b,g.blk id=some b→w'.heap[b]? = w.heap[b]?):
  ∀ {r:Qp},Mc s g w id r→Mc s' g' w' id r
 | .unborn,h=>hb.trans h
 | .dead,h=>hb.trans h
 | .box T ls,⟨b,cs,h1,h2,h3⟩=>⟨b,cs,hb.trans h1,(hk b h1).trans h2,Hl.step hS hI h3⟩
 | .row e t xs,⟨cs,h1,h2,h3⟩=>⟨cs,by rw [hh]; exact Ar9 h1 (fun b hb'=>hk b (by rw [h3]; exact hb')),h2.keep hS,by rw [hb,hh]; exact h3⟩
 | .frozen t xs,⟨h1,h2⟩=>⟨by rw [hh]; exact Ty.K_keep hS h1,hb.trans h2⟩
 | .last e t xs c j,⟨cs,h1,h2,h3,h4⟩=>⟨cs,by rw [hh]; exact Ar9 h1 (fun b hb'=>hk b (by rw [h3]; exact hb')),h2.keep hS,by rw [hb,hh]; exact h3,fun u hc hu=>by
   have r:=hI j
   have q:=h4 u hc hu
   unfold Ay at r
   rcases r with r | r
   ·rw [r]; trivial
   ·cases hs:s.res j<;>rw [hs] at q r<;>simp only at q r
    ·rcases r with ⟨_,_,e,_,e2,_⟩ | ⟨_,_,e,e2⟩
     ·rw [e]; exact q.trans e2.symm
     ·rw [e]; exact q.trans e2.symm
    ·obtain ⟨_,_,e,e2⟩:=r
     rw [e]; exact q.trans e2.symm⟩
 | .map t xs,⟨b,es,clock,h1,h2,h3,h4,h5⟩=>⟨b,es,clock,hb.trans h1,hh.trans h2,(hk b h1).trans h3,h4,h5⟩
 | .iter t xs left cur,⟨b,r,es,clock,since,c0,sn,h1,h2,h3,h4,h5,h6,h7⟩=>by
  obtain ⟨s1,s2⟩:=hS b h4 h5
  exact ⟨b,r,es,clock,since,c0,sn,hb.trans h1,hh.trans h2,(hk r h1).trans h3,s1,Ad9 h5 s2,s2.trans h6,h7⟩
theorem B5.step {n B:Nat} {Iq:List Nat} {a a':Act} (h:B5 n B Iq s g a w) (hsz:a'.tmps.size=n) (hd:a'.defers=[]) (hB:w.heap.size≤w'.heap.size)
  (hS:∀ b,Ev s g b→b < w.heap.size→Ev s' g' b∧w'.heap[b]? = w.heap[b]?) (hI:∀ id,Ay s g s' g' id)
  (hc:∀ i,(s'.cell i=s.cell i∧a'.tmps.getD i undef=a.tmps.getD i undef)∨Wz s' g' w' (s'.cell i) (a'.tmps.getD i undef))
  (hr:∀ id,(s'.res id=s.res id∧g'.blk id=g.blk id∧g'.hdr id=g.hdr id∧∀ b,g.blk id=some b→w'.heap[b]? = w.heap[b]?)∨Mc s' g' w' id (s'.res id))
  (hinj:∀ id id' b,g'.blk id=some b→g'.blk id'=some b→id=id')
  (hlt:∀ id b,g'.blk id=some b→b < w'.heap.size∧(b∈Iq∨B≤b)∧¬ g.av b) (hav:g'.av=g.av):B5 n B Iq s' g' a' w' where
 size:=hsz
 defers:=hd
 base:=Nat.le_trans h.base hB
 cell i:=by
  rcases hc i with ⟨e1,e2⟩ | e
  ·rw [e1,e2]; exact Wz.step hS hI (h.cell i)
  ·exact e
 res id:=by
  rcases hr id with ⟨e1,e2,e3,e4⟩ | e
  ·rw [e1]; exact Mc.step hS hI e2 e3 e4 (h.res id)
  ·exact e
 inj:=hinj
 lt:=by rw [hav]; exact hlt
 avB:=by rw [hav]; exact h.avB
end
section
variable {s:St} {g:Gh} {w:World}
theorem Hl.length:∀ {ls:List Lf} {cs:List Value},Hl s g w ls cs→cs.length=ls.length
 | [],[],_=>rfl
 | [],_::_,h=>h.elim
 | _::_,[],h=>h.elim
 | _::ls,_::cs,h=>by simp [Hl.length h.2]
theorem Hl.one:∀ {ls:List Lf} {cs:List Value},Hl s g w ls cs→∀ u∈cs,u.oneCell'=true
 | [],[],_,_,hu=>by simp at hu
 | [],_::_,h,_,_=>h.elim
 | _::_,[],h,_,_=>h.elim
 | _::ls,_::cs,h,u,hu=>by
  rcases List.mem_cons.1 hu with rfl | hu
  ·exact h.1.2
  ·exact Hl.one h.2 u hu
theorem Hl.drop (n:Nat):∀ {ls:List Lf} {cs:List Value},Hl s g w ls cs→Hl s g w (ls.drop n) (cs.drop n):=by
 induction n with
 | zero=>intro ls cs h; exact h
 | succ n ih=>
  intro ls cs h
  cases ls<;>cases cs
  ·exact trivial
  ·exact h.elim
  ·exact h.elim
  ·exact ih h.2
theorem Hl.take (n:Nat):∀ {ls:List Lf} {cs:List Value},Hl s g w ls cs→Hl s g w (ls.take n) (cs.take n):=by
 induction n with
 | zero=>intro ls cs h; exact trivial
 | succ n ih=>
  intro ls cs h
  cases ls<;>cases cs
  ·exact trivial
  ·exact h.elim
  ·exact h.elim
  ·exact ⟨h.1,ih h.2⟩
theorem Hl.append:∀ {ls:List Lf} {cs:List Value} {ls':List Lf} {cs':List Value},Hl s g w ls cs→Hl s g w ls' cs'→Hl s g w (ls++ls') (cs++cs')
 | [],[],_,_,_,h'=>h'
 | [],_::_,_,_,h,_=>h.elim
 | _::_,[],_,_,h,_=>h.elim
 | _::_,_::_,_,_,h,h'=>⟨h.1,Hl.append h.2 h'⟩
theorem Hl.get:∀ {ls:List Lf} {cs:List Value} {j:Nat} {l:Lf},Hl s g w ls cs→ls[j]? = some l→∃ v,cs[j]? = some v∧Dp s g w l v∧v.oneCell'=true
 | [],_,j,_,_,h=>by simp at h
 | _::_,[],_,_,h,_=>h.elim
 | l::ls,v::cs,0,_,h,hj=>by
  simp at hj
  subst hj
  exact ⟨v,rfl,h.1⟩
 | l::ls,v::cs,j + 1,_,h,hj=>by
  obtain ⟨u,e1,e2⟩:=Hl.get h.2 (j:=j) (by simpa using hj)
  exact ⟨u,by simpa using e1,e2⟩
theorem Hl.set:∀ {ls:List Lf} {cs:List Value} {j:Nat} {l:Lf} {v:Value},Hl s g w ls cs→Dp s g w l v→v.oneCell'=true→Hl s g w (ls.set j l) (cs.set j v)
 | [],[],_,_,_,_,_,_=>trivial
 | [],_::_,_,_,_,h,_,_=>h.elim
 | _::_,[],_,_,_,h,_,_=>h.elim
 | l::ls,v::cs,0,_,_,h,hl,hv=>⟨⟨hl,hv⟩,h.2⟩
 | l::ls,v::cs,j + 1,_,_,h,hl,hv=>⟨h.1,Hl.set h.2 hl hv⟩
def Vl.ls:Vl→List Lf
 | .lf l=>[l]
 | .ag ls=>ls
theorem VlR.cells {v:Vl} {u:Value} (h:VlR s g w v u):Hl s g w v.ls u.cells.toList:=by
 cases v with
 | lf l=>
  obtain ⟨h1,h2⟩:=h
  have:u.cells=#[u]:=by cases u<;>first | rfl | simp [Value.oneCell'] at h2
  rw [this]
  exact ⟨⟨h1,h2⟩,trivial⟩
 | ag ls=>
  obtain ⟨cs,rfl,h2⟩:=h
  exact h2
def Ty.leafs:(t:Ty)→t.D→List Lf
 | .int k,n=>[.c (.int k n)]
 | .bool,b=>[.c (.bool b)]
 | .str,s=>[.c (.string s)]
 | .sl t,xs=>[.sl t xs]
 | .unit,_=>[]
 | .pair a b,x=>a.leafs x.1++b.leafs x.2
theorem Ty.K_leafs:∀ {t:Ty} {x:t.D} {cs:List Value},t.K w (Ev s g) x cs→Hl s g w (t.leafs x) cs
 | .int _,_,_,h=>by cases h; exact ⟨⟨rfl,rfl⟩,trivial⟩
 | .bool,_,_,h=>by cases h; exact ⟨⟨rfl,rfl⟩,trivial⟩
 | .str,_,_,h=>by cases h; exact ⟨⟨rfl,rfl⟩,trivial⟩
 | .sl t,xs,cs,⟨A,c,h1,h2,h3⟩=>by subst h1; exact ⟨⟨⟨A,c,rfl,h2,h3⟩,rfl⟩,trivial⟩
 | .unit,_,_,h=>by cases h; exact trivial
 | .pair a b,_,_,⟨c1,c2,h,h1,h2⟩=>by subst h; exact (K_leafs h1).append (K_leafs h2)
def St.leafD (s:St):(t:Ty)→Lf→Option t.D
 | .int k,.c (.int k' n)=>if k'=k then some n else none
 | .bool,.c (.bool b)=>some b
 | .str,.c (.string b)=>some b
 | .sl t,.sl t' xs=>if h:t'=t then some (h ▸ xs) else none
 | .sl _,.c (.slice none 0 0)=>some []
 | .sl t,.row id=>match s.res id with
  | .frozen t' xs=>if h:t'=t then some (h ▸ xs) else none
  | _=>none
 | _,_=>none
theorem St.leafD_K:∀ {t:Ty} {l:Lf} {x:t.D} {u:Value},s.leafD t l=some x→Dp s g w l u→(∀ id,Mc s g w id (s.res id))→t.K w (Ev s g) x [u]:=by
 intro t l x u h hl hr
 unfold St.leafD at h
 split at h
 ·split at h<;>cases h
  rename_i hk
  subst hk
  cases hl
  rfl
 ·cases h; cases hl; rfl
 ·cases h; cases hl; rfl
 ·split at h<;>cases h
  rename_i t t' xs hk
  subst hk
  exact hl
 ·cases h
  cases hl
  exact ⟨none,0,rfl,Nat.le_refl _,fun i x hx=>by simp [nth] at hx⟩
 ·split at h
  ·rename_i id _ t' xs hres
   split at h<;>cases h
   rename_i hk
   subst hk
   have:=hr id
   rw [hres] at this
   simp only [Dp,hres] at hl
   rw [hl]
   exact this.1
  ·cases h
 ·cases h
def St.parse (s:St):(t:Ty)→List Lf→Option (t.D×List Lf)
 | .unit,ls=>some ((),ls)
 | .pair a b,ls=>(s.parse a ls).bind fun p=>(s.parse b p.2).bind fun q=>some ((p.1,q.1),q.2)
 | .int k,l::r=>(s.leafD (.int k) l).bind fun x=>some (x,r)
 | .bool,l::r=>(s.leafD .bool l).bind fun x=>some (x,r)
 | .str,l::r=>(s.leafD .str l).bind fun x=>some (x,r)
 | .sl t,l::r=>(s.leafD (.sl t) l).bind fun x=>some (x,r)
 | _,[]=>none
theorem St.parse_K (hr:∀ id,Mc s g w id (s.res id)):∀ {t:Ty} {ls:List Lf} {cs:List Value} {x:t.D} {r:List Lf},s.parse t ls=some (x,r)→Hl s g w ls cs→
  r=ls.drop t.sz∧t.K w (Ev s g) x (cs.take t.sz):=by
 have one:∀ {t:Ty} {l:Lf} {ls':List Lf} {cs:List Value} {x:t.D} {r:List Lf},t.sz=1→((s.leafD t l).bind fun x=>some (x,ls'))=some (x,r)→Hl s g w (l::ls') cs→r=(l::ls').drop t.sz∧t.K w (Ev s g) x (cs.take t.sz):=by
  intro t l ls' cs x r hz h hL
  obtain ⟨y,h1,h2⟩:=A6 h
  cases h2
  cases cs with
  | nil=>exact hL.elim
  | cons v cs=>
   rw [hz]
   exact ⟨rfl,St.leafD_K h1 hL.1.1 hr⟩
 intro t
 induction t with
 | unit=>
  intro ls cs x r h _
  simp only [St.parse] at h
  cases h
  exact ⟨rfl,rfl⟩
 | pair a b iha ihb=>
  intro ls cs x r h hL
  simp only [St.parse] at h
  obtain ⟨p,h1,h2⟩:=A6 h
  obtain ⟨q,h3,h4⟩:=A6 h2
  cases h4
  obtain ⟨e1,k1⟩:=iha h1 hL
  have hL2:Hl s g w p.2 (cs.drop a.sz):=by rw [e1]; exact hL.drop _
  obtain ⟨e2,k2⟩:=ihb h3 hL2
  refine ⟨by rw [e2,e1,List.drop_drop]; rfl,cs.take a.sz,(cs.drop a.sz).take b.sz,?_,k1,k2⟩
  show cs.take (a.sz + b.sz)=_
  rw [List.take_add]
 | int k=>
  intro ls cs x r h hL
  cases ls with
  | nil=>simp [St.parse] at h
  | cons l ls=>exact one rfl h hL
 | bool=>
  intro ls cs x r h hL
  cases ls with
  | nil=>simp [St.parse] at h
  | cons l ls=>exact one rfl h hL
 | str=>
  intro ls cs x r h hL
  cases ls with
  | nil=>simp [St.parse] at h
  | cons l ls=>exact one rfl h hL
 | sl t _=>
  intro ls cs x r h hL
  cases ls with
  | nil=>simp [St.parse] at h
  | cons l ls=>exact one rfl h hL
end
end
def quiet {α:Type} (P:Program):Sem α→Option α
 | .pure a=>some a
 | .program k=>quiet P (k P)
 | .mark _ k=>quiet P k
 | _=>none
theorem Ain {α:Type} {P:Program}:∀ {s:Sem α} {a:α},quiet P s=some a→∀ w,s.run P w=.ok a w
 | .pure a,_,h,w=>by cases h; rfl
 | .program k,_,h,w=>Ain (s:=k P) h w
 | .mark _ k,_,h,w=>Ain (s:=k) h w
 | .load ..,_,h,_ | .store ..,_,h,_ | .new ..,_,h,_ | .shape ..,_,h,_ | .freeze ..,_,h,_ | .frozen ..,_,h,_ | .getObj ..,_,h,_ | .setObj ..,_,h,_
 | .choose ..,_,h,_ | .sys ..,_,h,_ | .halt ..,_,h,_=>by simp [quiet] at h
def Vf {α:Type} (f:Nat→α) (i:Nat) (v:α):Nat→α:=fun j=>if j=i then v else f j
@[simp] theorem A2 {α:Type} (f:Nat→α) (i:Nat) (v:α):Vf f i v i=v:=by simp [Vf]
theorem Ax {α:Type} (f:Nat→α) {i j:Nat} (v:α) (h:j≠i):Vf f i v j=f j:=by simp [Vf,h]
def St.setRes (s:St) (id:Nat) (r:Qp):St:={ s with res:=Vf s.res id r }
def St.setCell (s:St) (i:Nat) (v:AV):St:={ s with cell:=Vf s.cell i v }
def Anh:List Value→Bool
 | []=>true
 | v::r=>v.oneCell'&&Anh r
def Ams (v:Value):AV:=match v with
 | .agg cs=>if Anh cs.toList then .vl (.ag (cs.toList.map .c)) else .dead
 | .tuple _=>.dead
 | v=>.vl (.lf (.c v))
def St.op (s:St):Operand→AV
 | .tmp t=>s.cell t
 | .const v=>Ams v
 | _=>.dead
def St.conc (s:St) (x:Operand):Option Value:=match s.op x with
 | .vl (.lf (.c v))=>some v
 | _=>none
def St.leaf (s:St) (x:Operand):Option Lf:=match s.op x with
 | .vl (.lf l)=>some l
 | _=>none
def St.value (s:St) (x:Operand):Option Vl:=match s.op x with
 | .vl v=>some v
 | _=>none
def Y7 (s:St):List Operand→Bool
 | []=>true
 | x::r=>(match s.conc x with | some _=>true | none=>false)&&Y7 s r
def Nk (P:Program) (s:St) (o:Oper):Option Value:=
 if Y7 s o.op.operands.toList then
  match quiet P (execOp (fun x=>(s.conc x).getD undef) o) with
  | some (.value v)=>if v.oneCell' then some v else none
  | _=>none
 else none
def Y8 {α:Type} (c:Bool) (xs:List α) (y:α):List α:=bif c then xs++[y] else xs
def St.frz (s:St):List Lf→St
 | []=>s
 | .row id::r=>match s.res id with
  | .row _ t xs=>(s.setRes id (.frozen t xs)).frz r
  | .last _ t xs c j=>match s.res j with
   | .row _ t' ys=>if h:t'=t then ((s.setRes j (.frozen t' ys)).setRes id (.frozen (.sl t) (Y8 c xs (h ▸ ys)))).frz r else s.frz r
   | _=>s.frz r
  | _=>s.frz r
 | _::r=>s.frz r
def St.at_ (s:St):Lf→Option (List Lf)
 | .ptr id off=>match s.res id with
  | .box _ ls=>some (ls.drop off)
  | _=>none
 | .ep t xs i off=>some ((t.leafs (xs.getD i t.zero)).drop off)
 | .rp id i off=>match s.res id with
  | .row _ t xs=>some ((t.leafs (xs.getD i t.zero)).drop off)
  | _=>none
 | _=>none
def Afv (P:Program) (t:TypeId):Option Bool:=match P.underlying t with
 | some (.struct _)=>some true
 | some (.array _ _)=>some true
 | some _=>some false
 | none=>none
def Y9 (P:Program) (t:TypeId) (ls:List Lf):Option Vl:=match Afv P t with
 | some true=>match P.info? t with
  | some i=>if i.size≤ls.length then some (.ag (ls.take i.size)) else none
  | none=>none
 | some false=>match ls with
  | l::_=>some (.lf l)
  | []=>none
 | none=>none
def Ani (P:Program) (s:St) (t:TypeId) (x:Operand):Option Vl:=
 (s.leaf x).bind fun l=>(s.at_ l).bind fun ls=>Y9 P t ls
def Amt (P:Program) (s:St) (t:TypeId) (x y:Operand):Option St:=
 (s.leaf x).bind fun l=>(s.value y).bind fun v=>match P.info? t with
  | none=>none
  | some i=>if v.ls.length=i.size then match l with
    | .ptr id off=>match s.res id with
     | .box T ls=>if off + v.ls.length≤ls.length then some (s.setRes id (.box T (ls.take off++v.ls++ls.drop (off + v.ls.length)))) else none
     | _=>none
    | .rp id i off=>match (s.frz v.ls).res id with
     | .row e t xs=>if i < xs.length then let old:=t.leafs (xs.getD i t.zero)
       if off + v.ls.length≤old.length then match (s.frz v.ls).parse t (old.take off++v.ls++old.drop (off + v.ls.length)) with
        | some (x,[])=>some ((s.frz v.ls).setRes id (.row e t (List.set xs i x)))
        | _=>none
       else none
      else none
     | _=>none
    | _=>none
   else none
def Anj (P:Program) (S:TypeId) (f:Nat):Option Nat:=match P.underlying S with
 | some (.struct fs)=>match fs[f]? with
  | some fd=>match P.info? fd.type with
   | some i=>if i.size=0 then none else some fd.offset
   | none=>none
  | none=>none
 | _=>none
def n7 (P:Program) (s:St) (S:TypeId) (x:Operand) (f:Nat):Option Lf:=
 (Anj P S f).bind fun d=>(s.leaf x).bind fun l=>(s.at_ l).bind fun _=>match l with
  | .ptr id off=>some (.ptr id (off + d))
  | .ep t xs i off=>some (.ep t xs i (off + d))
  | .rp id i off=>some (.rp id i (off + d))
  | _=>none
def Atv (P:Program) (s:St) (S:TypeId) (x:Operand) (f:Nat):Option Vl:=match s.value x,P.underlying S with
 | some (.ag ls),some (.struct fs)=>match fs[f]? with
  | some fd=>Y9 P fd.type (ls.drop fd.offset)
  | none=>none
 | _,_=>none
inductive Sl where
 | rd (t:Ty) (xs:List t.D)
 | own (id:Nat) (t:Ty) (xs:List t.D)
def St.sl (s:St):Lf→Option Sl
 | .sl t xs=>some (.rd t xs)
 | .row id=>match s.res id with
  | .row _ t xs=>some (.own id t xs)
  | .frozen t xs=>some (.rd t xs)
  | _=>none
 | _=>none
def Vg (P:Program) (s:St) (T:TypeId) (x y:Operand):Option Lf:=
 match P.underlying T with
 | some (.slice e)=>match P.info? e,(s.leaf x).bind s.sl,s.conc y with
  | some i,some (.rd t xs),some (.int _ n)=>if i.size=t.sz then (if 0≤n then (if n < (xs.length:Int) then some (.ep t xs n.toNat 0) else none) else none) else none
  | some i,some (.own id t xs),some (.int _ n)=>if i.size=t.sz then (if 0≤n then (if n < (xs.length:Int) then some (.rp id n.toNat 0) else none) else none) else none
  | _,_,_=>none
 | _=>none
def Asa (P:Program) (s:St) (T:TypeId) (x:Operand):Option Value:=
 match P.underlying T with
 | some (.slice _)=>match (s.leaf x).bind s.sl with
  | some (.rd _ xs)=>some (.int .i64 (xs.length:Int))
  | some (.own _ _ xs)=>some (.int .i64 (xs.length:Int))
  | none=>match s.conc x with
   | some (.slice none 0 0)=>some (.int .i64 0)
   | _=>none
 | _=>none
def A20 (s:St) (nid:Nat) (T:TypeId) (v:Vl):Option (Lf×St):=match s.res nid with
 | .unborn=>some (.ptr nid 0,s.setRes nid (.box T v.ls))
 | _=>none
def Za (P:Program) (T:TypeId):Option (List Lf):=match P.info? T with
 | some i=>match i.zero with
  | some z=>if Anh z.cells.toList then some (z.cells.toList.map .c) else none
  | none=>none
 | none=>none
def Atw (P:Program) (s:St) (nid:Nat) (T:TypeId):Option (Lf×St):=match s.res nid,Za P T with
 | .unborn,some ls=>some (.ptr nid 0,s.setRes nid (.box T ls))
 | _,_=>none
def n9 (place:Nat→Option (Nat×Nat)) (ls:List Lf):List (Nat×Vl)→Option (List Lf)
 | []=>some ls
 | (i,v)::rest=>match place i with
  | none=>none
  | some (off,size)=>if v.ls.length=size then (if off + v.ls.length≤ls.length then n9 place (ls.take off++v.ls++ls.drop (off + v.ls.length)) rest else none) else none
def o5 (s:St):List (Nat×Operand)→Option (List (Nat×Vl))
 | []=>some []
 | (i,x)::r=>match s.value x,o5 s r with
  | some v,some vs=>some ((i,v)::vs)
  | _,_=>none
def Afw (P:Program):List Field→Option (List (Nat×Nat))
 | []=>some []
 | f::r=>match P.info? f.type,Afw P r with
  | some i,some l=>some ((f.offset,i.size)::l)
  | _,_=>none
def Atx (P:Program) (s:St) (T:TypeId) (parts:Array (Nat×Operand)):Option Vl:=
 match P.underlying T with
 | some (.struct fs)=>match Afw P fs.toList,Za P T,o5 s parts.toList with
   | some pl,some z,some vs=>(n9 (fun i=>pl[i]?) z vs).map .ag
   | _,_,_=>none
 | _=>none
def Afx (s:St) (t:Ty):Nat→List Lf→Option (List t.D)
 | 0,[]=>some []
 | 0,_::_=>none
 | k + 1,ls=>(s.parse t ls).bind fun p=>(Afx s t k p.2).bind fun r=>some (p.1::r)
def A63 (f:TypeId→Option Ty):List Field→Nat→Option Ty
 | [],_=>some .unit
 | d::r,off=>if d.offset=off then (f d.type).bind fun a=>(A63 f r (off + a.sz)).bind fun b=>some (.pair a b) else none
def A5m (P:Program):Nat→TypeId→Option Ty
 | 0,_=>none
 | k + 1,t=>match P.underlying t with
  | some (.int i)=>some (.int i)
  | some .bool=>some .bool
  | some .string=>some .str
  | some (.slice e)=>(A5m P k e).map .sl
  | some (.struct fs)=>A63 (A5m P k) fs.toList 0
  | _=>none
structure El where
 e:TypeId
 t:Ty
 z:List Lf
 bytes:Nat
def Afy (P:Program) (T:TypeId):Option El:=match P.underlying T with
 | some (.slice e)=>match A5m P 12 e,P.info? e,Za P e with
  | some t,some i,some z=>if i.size=t.sz then (if 0 < t.sz then (if z.length=t.sz then (if 0 < i.bytes∧mkT t=false then some ⟨e,t,z,i.bytes⟩ else none) else none) else none) else none
  | _,_,_=>none
 | _=>none
def o6 (z:List Lf):Nat→List Lf
 | 0=>[]
 | k + 1=>z++o6 z k
def Avr:List (Nat×Vl)→List Lf
 | []=>[]
 | (_,v)::r=>v.ls++Avr r
def Zb (P:Program) (s:St) (nid:Nat) (T:TypeId) (len:Nat) (parts:Array (Nat×Operand)):Option (Lf×St):=
 match s.res nid,Afy P T,o5 s parts.toList with
 | .unborn,some el,some vs=>if len * el.t.sz≤16777216 then
   (n9 (fun i=>some (i * el.t.sz,el.t.sz)) (o6 el.z len) vs).bind fun ls=>
    match (s.frz (Avr vs)).res nid with
    | .unborn=>(Afx (s.frz (Avr vs)) el.t len ls).bind fun xs=>some (.row nid,(s.frz (Avr vs)).setRes nid (.row el.e el.t xs))
    | _=>none
  else none
 | _,_,_=>none
def Vh (P:Program) (s:St) (nid:Nat) (T:TypeId) (x y:Operand):Option (Lf×St):=
 match s.res nid,Afy P T,s.conc x,s.conc y with
 | .unborn,some el,some (.int _ k),some (.int _ c)=>if k=c then (if 0≤k then (if k.toNat * el.bytes≤140737488355328 then
   (match s.parse el.t el.z with
   | some (x0,[])=>some (.row nid,s.setRes nid (.row el.e el.t (List.replicate k.toNat x0)))
   | _=>none) else none) else none) else none
 | _,_,_,_=>none
def Xe (s:St) (el:El):Lf→Option (Option Nat×List el.t.D)
 | .c (.slice none 0 0)=>some (none,[])
 | .row id=>match s.res id with
  | .row e t xs=>if e=el.e then (if h:t=el.t then some (some id,h ▸ xs) else none) else none
  | _=>none
 | _=>none
def Vi (s:St) (t:Ty):Lf→Option (List t.D)
 | .c (.slice none 0 0)=>some []
 | .sl t' xs=>if h:t'=t then some (h ▸ xs) else none
 | .row id=>match s.res id with
  | .row _ t' xs=>if h:t'=t then some (h ▸ xs) else none
  | .frozen t' xs=>if h:t'=t then some (h ▸ xs) else none
  | _=>none
 | _=>none
def Fo (s:St):Option Nat→St
 | some id=>s.setRes id .dead
 | none=>s
def Afz (P:Program) (s:St) (nid:Nat) (T:TypeId) (x y:Operand):Option (Lf×St):=
 match s.res nid,Afy P T,s.leaf x,s.leaf y with
 | .unborn,some el,some lx,some ly=>(Xe s el lx).bind fun p=>(Vi s el.t ly).bind fun ys=>
   if (p.2.length + List.length ys) * el.bytes≤140737488355328 then some (.row nid,(Fo s p.1).setRes nid (.row el.e el.t (p.2++ys))) else none
 | _,_,_,_=>none
def Ad (s:Ab):List Int:=s.data.toList.map fun b=>(b.toNat:Int)
def Vj (P:Program) (s:St) (nid:Nat) (T U:TypeId) (x y:Operand):Option (Lf×St):=
 match s.res nid,P.underlying T,P.underlying U,s.leaf x,s.conc y with
 | .unborn,some (.slice e),some .string,some lx,some (.string q)=>match P.info? e,Za P e with
  | some i,some z=>if i.size=1 then (if i.bytes=1 then (match z with
   | [.c (.int .u8 0)]=>(Xe s ⟨e,.int .u8,z,1⟩ lx).bind fun p=>
    if p.2.length + q.size≤140737488355328 then some (.row nid,(Fo s p.1).setRes nid (.row e (.int .u8) ((show List Int from p.2)++Ad q))) else none
   | _=>none) else none) else none
  | _,_=>none
 | _,_,_,_,_=>none
def Amu (P:Program) (s:St) (T:TypeId) (x:Operand) (lo hi:Option Operand):Option (Lf×St):=
 match P.underlying T with
 | some (.slice e)=>match P.info? e,s.leaf x with
  | some i,some l=>match (s.frz [l]).sl l with
   | some (.rd t xs)=>if i.size=t.sz then
     (match (match lo with | some y=>s.conc y | none=>some (.int .i64 0)),(match hi with | some y=>s.conc y | none=>some (.int .i64 (List.length xs))) with
     | some (.int _ a),some (.int _ b)=>if 0≤a then (if a≤b then (if b≤(List.length xs:Int) then some (.sl t (List.drop a.toNat (List.take b.toNat xs)),s.frz [l]) else none) else none) else none
     | _,_=>none) else none
   | _=>none
  | _,_=>none
 | _=>none
abbrev tMk:Ty:=.pair (.int .u8) .unit
def Ax5 (xs:List Int):List (Int×Unit):=xs.map fun x=>(x,())
def Ax6 (xs:List (Int×Unit)):List Int:=xs.map fun x=>x.1
def Aea (P:Program) (s:St) (nid:Nat) (src dst:TypeId) (x:Operand):Option (List Bool×Lf×St):=
 match s.res nid,P.underlying src,P.underlying dst,s.conc x with
 | .unborn,some .string,some (.slice e),some (.string q)=>match P.underlying e with
  | some (.int .u8)=>some ([decide (q.size≤140737488355328)],.row nid,s.setRes nid (.row e tMk (Ax5 (Ad q))))
  | _=>none
 | _,_,_,_=>none
def Aeb (P:Program) (s:St) (src dst:TypeId) (x:Operand):Option Value:=
 match P.underlying src,P.underlying dst with
 | some (.slice e),some .string=>match P.underlying e,(s.leaf x).bind (Vi s (.int .u8)) with
  | some (.int .u8),some xs=>some (.string (strOfNums xs))
  | some (.int .u8),none=>match (s.leaf x).bind (Vi s tMk) with
   | some xs=>some (.string (strOfNums (Ax6 xs)))
   | none=>none
  | _,_=>none
 | _,_=>none
section
structure Kp (B:Nat) (Iq:List Nat) (w w':World):Prop where
 os:w'.os=w.os
 tape:w'.tape=w.tape
 output:w'.output=w.output
 size:w.heap.size≤w'.heap.size
 block:∀ k,k < B→k ∉ Iq→w'.heap[k]? = w.heap[k]?
theorem Kp.refl (B:Nat) (Iq:List Nat) (w:World):Kp B Iq w w:=⟨rfl,rfl,rfl,Nat.le_refl _,fun _ _ _=>rfl⟩
theorem Kp.trans {B:Nat} {Iq:List Nat} {a b c:World} (h:Kp B Iq a b) (k:Kp B Iq b c):Kp B Iq a c:=
 ⟨k.os.trans h.os,k.tape.trans h.tape,k.output.trans h.output,Nat.le_trans h.size k.size,fun i hi hn=>(k.block i hi hn).trans (h.block i hi hn)⟩
structure Go (B:Nat) (Iq:List Nat) (s:St) (g:Gh) (w:World) (s':St) (g':Gh) (w':World):Prop where
 kp:Kp B Iq w w'
 S:∀ b,Ev s g b→b < w.heap.size→Ev s' g' b∧w'.heap[b]? = w.heap[b]?
 ref:∀ id,Ay s g s' g' id
 av:g'.av=g.av
theorem Go.refl (B:Nat) (Iq:List Nat) (s:St) (g:Gh) (w:World):Go B Iq s g w s g w:=⟨Kp.refl B Iq w,fun _ h _=>⟨h,rfl⟩,fun _=>Ay.same rfl rfl rfl,rfl⟩
theorem Go.trans {B:Nat} {Iq:List Nat} {s s1 s2:St} {g g1 g2:Gh} {w w1 w2:World} (h:Go B Iq s g w s1 g1 w1) (k:Go B Iq s1 g1 w1 s2 g2 w2):Go B Iq s g w s2 g2 w2:=
 ⟨h.kp.trans k.kp,fun b hb hl=>by
  obtain ⟨h1,h2⟩:=h.S b hb hl
  obtain ⟨k1,k2⟩:=k.S b h1 (Nat.lt_of_lt_of_le hl h.kp.size)
  exact ⟨k1,k2.trans h2⟩,fun id=>(h.ref id).trans (k.ref id),k.av.trans h.av⟩
section
variable {P:Program} {n B:Nat} {Iq:List Nat} {s:St} {g:Gh} {a:Act} {w:World}
theorem Hl.ofConsts:∀ {cs:List Value},Anh cs=true→Hl s g w (cs.map .c) cs
 | [],_=>trivial
 | v::r,h=>by
  simp only [Anh,Bool.and_eq_true] at h
  exact ⟨⟨rfl,h.1⟩,Hl.ofConsts h.2⟩
theorem A1h (v:Value):Wz s g w (Ams v) v:=by
 unfold Ams
 split
 ·split
  ·rename_i cs hc
   exact ⟨cs,rfl,Hl.ofConsts hc⟩
  ·trivial
 ·trivial
 ·rename_i h1 h2
  exact ⟨rfl,by cases v<;>first | rfl | exact absurd rfl (h1 _) | exact absurd rfl (h2 _)⟩
theorem Ax7 (h:B5 n B Iq s g a w) (x:Operand):Wz s g w (s.op x) (a.eval x):=by
 cases x with
 | tmp t=>exact h.cell t
 | const v=>exact A1h v
 | global _=>trivial
 | func _=>trivial
theorem C7 (h:B5 n B Iq s g a w) {x:Operand} {v:Value} (e:s.conc x=some v):a.eval x=v∧v.oneCell'=true:=by
 have k:=Ax7 h x
 unfold St.conc at e
 split at e
 ·rename_i hq
  rw [hq] at k
  cases e
  have k1:a.eval x=v:=k.1
  exact ⟨k1,by rw [← k1]; exact k.2⟩
 ·cases e
theorem C8 (h:B5 n B Iq s g a w) {x:Operand} {l:Lf} (e:s.leaf x=some l):Dp s g w l (a.eval x)∧(a.eval x).oneCell'=true:=by
 have k:=Ax7 h x
 unfold St.leaf at e
 split at e
 ·rename_i hq
  rw [hq] at k
  cases e
  exact k
 ·cases e
theorem Zc (h:B5 n B Iq s g a w) {x:Operand} {v:Vl} (e:s.value x=some v):VlR s g w v (a.eval x):=by
 have k:=Ax7 h x
 unfold St.value at e
 split at e
 ·rename_i hq
  rw [hq] at k
  cases e
  exact k
 ·cases e
theorem Asb (h:B5 n B Iq s g a w):∀ {l:List Operand},Y7 s l=true→∀ x∈l,a.eval x=(s.conc x).getD undef
 | [],_,x,hx=>by cases hx
 | y::r,e,x,hx=>by
  simp only [Y7,Bool.and_eq_true] at e
  rcases List.mem_cons.1 hx with rfl | hx
  ·cases hc:s.conc x with
   | none=>rw [hc] at e; simp at e
   | some v=>rw [(C7 h hc).1]; rfl
  ·exact Asb h e.2 x hx
theorem A1i (h:B5 n B Iq s g a w) {o:Oper} {v:Value} (hs:∀ cs b,o.op≠.select cs b) (e:Nk P s o=some v):(execOp a.eval o).run P w=.ok (.value v) w∧v.oneCell'=true:=by
 unfold Nk at e
 split at e
 ·rename_i hc
  split at e
  ·rename_i u hq
   split at e<;>cases e
   rename_i h1
   rw [execOp_congr o hs (fun x hx=>Asb h hc x (Array.mem_toList_iff.2 hx))]
   exact ⟨Ain hq w,h1⟩
  ·cases e
 ·cases e
theorem A7u (h:B5 n B Iq s g a w) {l:Lf} {u:Value} {ls:List Lf} (e:s.at_ l=some ls) (hl:Dp s g w l u):
  ∃ ad cs,u=.pointer (some ad)∧Hl s g w ls cs∧∀ j v,cs[j]? = some v→w.cell? (ad.add j)=some v:=by
 unfold St.at_ at e
 split at e
 ·rename_i id off
  split at e
  ·rename_i T ls0 hr
   cases e
   have r:=h.res id
   rw [hr] at r
   obtain ⟨b,cs,hb,hh,hL⟩:=r
   simp only [Dp,hr] at hl
   obtain ⟨b',hb',hu⟩:=hl
   obtain rfl:b=b':=Option.some.inj (hb.symm.trans hb')
   refine ⟨_,cs.toList.drop off,hu,hL.drop off,fun j v hv=>?_⟩
   rw [Afu,cell_of_row w b _ cs T (0,0) hh]
   simpa using hv
  ·cases e
 ·rename_i t xs i off
  cases e
  obtain ⟨ad,cs,h1,h2,h3,h4,h5⟩:=hl
  refine ⟨_,cs.drop off,h1,(Ty.K_leafs h4).drop off,fun j v hv=>?_⟩
  rw [Amr,Nat.add_assoc]
  exact h5 (off + j) v (by simpa using hv)
 ·rename_i id i off
  split at e
  ·rename_i ee t xs hr
   cases e
   have r:=h.res id
   rw [hr] at r
   obtain ⟨cs,h1,h2,h3⟩:=r
   simp only [Dp,hr] at hl
   obtain ⟨hi,b,hb,hu⟩:=hl
   obtain ⟨hlen,hown⟩:=h1
   have hx:nth xs i=some (xs.getD i t.zero):=by simp [nth,List.getElem?_eq_getElem hi]
   have hK:=h2.2 i _ hx
   rcases hown with ⟨hv,hn⟩ | ⟨gg,cap,cur,hv,_,hh,hcap,_,hsz,hcs⟩
   ·omega
   ·have hbg:b=gg:=by
     rw [h3,hv] at hb
     exact (Option.some.inj hb).symm
    subst hbg
    refine ⟨_,((cs.drop (i * t.sz)).take t.sz).drop off,hu,(Ty.K_leafs hK).drop off,fun j v hv=>?_⟩
    rw [Afu,cell_of_row w b _ cur ee _ hh]
    rw [List.getElem?_drop,List.getElem?_take] at hv
    split at hv
    ·rw [List.getElem?_drop,← hcs,List.getElem?_take] at hv
     split at hv
     ·rw [← Array.getElem?_toList,← hv]
      congr 1
      omega
     ·cases hv
    ·cases hv
  ·cases e
 ·cases e
theorem Xf {t:TypeId} {b:Bool} (e:Afv P t=some b) (w:World):(isAgg t).run P w=.ok b w:=by
 unfold Afv at e
 cases hu:P.underlying t with
 | none=>rw [hu] at e; cases e
 | some d=>
  rw [hu] at e
  unfold isAgg
  rw [Sem.run_bind,run_underlying hu w]
  cases d<;>simp_all
theorem Zd {t:TypeId} {ls:List Lf} {v:Vl} {ad:Addr} {cs:List Value} (e:Y9 P t ls=some v) (hL:Hl s g w ls cs) (hc:∀ j u,cs[j]? = some u→w.cell? (ad.add j)=some u):
  ∃ u,(loadVar t ad).run P w=.ok u w∧VlR s g w v u:=by
 unfold Y9 at e
 split at e
 ·rename_i hA
  split at e
  ·rename_i i hi
   split at e<;>cases e
   rename_i hle
   have hlen:=hL.length
   have hn:(cs.take i.size).length=i.size:=by rw [List.length_take,hlen]; omega
   have hl:=run_loadCells_list (P:=P) (w:=w) ad (cs.take i.size) (fun j u hu=>hc j u (by rw [List.getElem?_take] at hu; split at hu<;>first | exact hu | cases hu))
   rw [hn] at hl
   refine ⟨.agg (cs.take i.size).toArray,?_,_,rfl,by simpa using hL.take i.size⟩
   simp [loadVar,Sem.run_bind,Xf hA w,sizeOf,typeInfo,hi,hl]
  ·cases e
 ·rename_i hA
  split at e
  ·rename_i l ls'
   cases e
   cases cs with
   | nil=>exact hL.elim
   | cons u cs=>
    have h0:=hc 0 u rfl
    have hz:ad.add 0=ad:=by simp [Addr.add]
    rw [hz] at h0
    refine ⟨u,?_,hL.1⟩
    simp [loadVar,Sem.run_bind,Xf hA w,load,Sem.run,h0]
  ·cases e
 ·cases e
theorem A1j (h:B5 n B Iq s g a w) {t:TypeId} {x:Operand} {v:Vl} (e:Ani P s t x=some v):∃ u,(Instr.loadAt t (a.eval x)).run P w=.ok u w∧VlR s g w v u:=by
 unfold Ani at e
 obtain ⟨l,e1,e⟩:=A6 e
 obtain ⟨ls,e2,e⟩:=A6 e
 obtain ⟨hl,_⟩:=C8 h e1
 obtain ⟨ad,cs,hu,hL,hc⟩:=A7u h e2 hl
 obtain ⟨u,hr,hv⟩:=Zd e hL hc
 refine ⟨u,?_,hv⟩
 rw [hu]
 simpa [Instr.loadAt,Instr.sureAddr] using hr
theorem Aty {S:TypeId} {f d:Nat} (e1:Anj P S f=some d) (ad:Addr) (w:World):(Instr.fieldAt S (.pointer (some ad)) f).run P w=.ok (.pointer (some (ad.add d))) w:=by
 unfold Anj at e1
 cases hU:P.underlying S with
 | none=>rw [hU] at e1; cases e1
 | some D=>
  rw [hU] at e1
  cases D with
  | struct fs=>
   simp only at e1
   cases hf:fs[f]? with
   | none=>rw [hf] at e1; cases e1
   | some fd=>
    rw [hf] at e1
    simp only at e1
    cases hi:P.info? fd.type with
    | none=>rw [hi] at e1; cases e1
    | some i=>
     rw [hi] at e1
     simp only at e1
     split at e1<;>cases e1
     rename_i hz
     simp [Instr.fieldAt,Sem.run_bind,run_underlying hU w,hf,Instr.sureAddr,fieldPlace,sizeOf,typeInfo,hi,hz]
  | _=>simp at e1
theorem Ank (h:B5 n B Iq s g a w) {S:TypeId} {x:Operand} {f:Nat} {l:Lf} (e:n7 P s S x f=some l):∃ u,(Instr.fieldAt S (a.eval x) f).run P w=.ok u w∧Dp s g w l u∧u.oneCell'=true:=by
 unfold n7 at e
 obtain ⟨d,e1,e⟩:=A6 e
 obtain ⟨l0,e2,e⟩:=A6 e
 obtain ⟨ls,e3,e⟩:=A6 e
 obtain ⟨hl,_⟩:=C8 h e2
 obtain ⟨ad,cs,hu,_,_⟩:=A7u h e3 hl
 refine ⟨.pointer (some (ad.add d)),by rw [hu]; exact Aty e1 ad w,?_,rfl⟩
 rw [hu] at hl
 split at e
 ·rename_i id off
  cases e
  simp only [St.at_] at e3
  split at e3
  ·rename_i T ls0 hr
   simp only [Dp,hr] at hl ⊢
   obtain ⟨b,hb,hu⟩:=hl
   cases hu
   exact ⟨b,hb,by rw [Afu]⟩
  ·cases e3
 ·rename_i t xs i off
  cases e
  obtain ⟨ad0,cs0,h1,h2⟩:=hl
  cases h1
  exact ⟨ad0,cs0,by rw [Amr,Nat.add_assoc],h2⟩
 ·rename_i id i off
  cases e
  simp only [St.at_] at e3
  split at e3
  ·rename_i ee t xs hr
   simp only [Dp,hr] at hl ⊢
   obtain ⟨hi,b,hb,hu⟩:=hl
   cases hu
   exact ⟨hi,b,hb,by rw [Afu,Nat.add_assoc]⟩
  ·cases e3
 ·cases e
theorem Ax8 (h:B5 n B Iq s g a w) {S:TypeId} {x:Operand} {f:Nat} {v:Vl} (e:Atv P s S x f=some v):∃ u,(Instr.field S (a.eval x) f).run P w=.ok u w∧VlR s g w v u:=by
 unfold Atv at e
 split at e
 ·rename_i ls fs hx hU
  split at e
  ·rename_i fd hf
   obtain ⟨cs,hu,hL⟩:=Zc h hx
   have hL2:=hL.drop fd.offset
   rw [hu]
   unfold Y9 at e
   split at e
   ·rename_i hA
    split at e
    ·rename_i i hi
     split at e<;>cases e
     rename_i hle
     have h3:=hL2.take i.size
     refine ⟨.agg (cs.extract fd.offset (fd.offset + i.size)),?_,_,rfl,?_⟩
     ·simp [Instr.field,Sem.run_bind,run_underlying hU w,hf,asAgg,part,Xf hA w,sizeOf,typeInfo,hi]
     ·rw [Array.toList_extract,List.extract_eq_take_drop]
      simpa using h3
    ·cases e
   ·rename_i hA
    split at e
    ·rename_i l ls' hls
     cases e
     rw [hls] at hL2
     cases hd:cs.toList.drop fd.offset with
     | nil=>rw [hd] at hL2; exact hL2.elim
     | cons u us=>
      rw [hd] at hL2
      have hget:cs[fd.offset]? = some u:=by
       have:=congrArg (fun q:List Value=>q[0]?) hd
       simpa using this
      refine ⟨u,?_,hL2.1⟩
      simp [Instr.field,Sem.run_bind,run_underlying hU w,hf,asAgg,part,Xf hA w,hget]
    ·cases e
   ·cases e
  ·cases e
 ·cases e
theorem A21 (h:B5 n B Iq s g a w) {l:Lf} {u:Value} {q:Sl} (e:s.sl l=some q) (hl:Dp s g w l u):
  ∃ A c,match q with
   | .rd t xs=>u=.slice A (List.length xs) c∧(Ty.sl t).K w (Ev s g) xs [u]
   | .own id t xs=>u=.slice A (List.length xs) c∧l=.row id∧∃ ee,s.res id=.row ee t xs:=by
 unfold St.sl at e
 split at e
 ·rename_i t xs
  cases e
  obtain ⟨A,c,h1,h2⟩:=hl
  cases h1
  exact ⟨A,c,rfl,A,c,rfl,h2⟩
 ·rename_i id
  split at e
  ·rename_i ee t xs hr
   cases e
   have r:=h.res id
   rw [hr] at r
   obtain ⟨cs,h1,h2,h3⟩:=r
   simp only [Dp,hr] at hl
   rw [hl]
   rcases h1.2 with ⟨hv,hn⟩ | ⟨gg,cap,cur,hv,_⟩
   ·refine ⟨none,0,?_,rfl,ee,hr⟩
    rw [hv,hn]
   ·exact ⟨_,cap,hv,rfl,ee,hr⟩
  ·rename_i t xs hr
   cases e
   have r:=h.res id
   rw [hr] at r
   simp only [Dp,hr] at hl
   have hK:=r.1
   rw [← hl] at hK
   have hK2:=hK
   obtain ⟨A,c,h1,h2⟩:=hK2
   cases h1
   exact ⟨A,c,rfl,hK⟩
  ·cases e
 ·cases e
theorem Anl (h:B5 n B Iq s g a w) {T:TypeId} {x y:Operand} {l:Lf} (e:Vg P s T x y=some l):∃ u,(Instr.indexAt T (a.eval x) (a.eval y)).run P w=.ok u w∧Dp s g w l u∧u.oneCell'=true:=by
 unfold Vg at e
 split at e
 ·rename_i el hU
  have hel:P.elem T=el:=by simp [Program.elem,hU]
  have hU':P.underlying T=some (.slice (P.elem T)):=by rw [hel]; exact hU
  split at e
  ·rename_i i t xs k m hi hx hy
   split at e
   ·rename_i hsz
    split at e
    ·rename_i h0
     split at e
     ·rename_i h1
      cases e
      obtain ⟨l0,e1,e2⟩:=A6 hx
      obtain ⟨hl,_⟩:=C8 h e1
      obtain ⟨A,c,hu,hK⟩:=A21 h e2 hl
      obtain ⟨A',c',hu',hc',hk⟩:=hK
      rw [hu] at hu'
      cases hu'
      have hx:nth xs m.toNat=some (xs.getD m.toNat t.zero):=by
       have:m.toNat < xs.length:=by omega
       simp [nth,List.getElem?_eq_getElem this]
      obtain ⟨ad,rfl,hs,hlt,cs',hl',hk',hc⟩:=hk _ _ hx
      refine ⟨.pointer (some (ad.add (m.toNat * t.sz))),?_,⟨ad,cs',by rw [Nat.add_zero],hs,hlt,hk',hc⟩,rfl⟩
      rw [(C7 h hy).1,hu,run_indexAt_slice w T ad _ _ k m hU',if_pos ⟨h0,h1⟩,hel]
      simp [sizeOf,typeInfo,hi,hsz,Result.andThen]
     ·cases e
    ·cases e
   ·cases e
  ·rename_i i id t xs k m hi hx hy
   split at e
   ·rename_i hsz
    split at e
    ·rename_i h0
     split at e
     ·rename_i h1
      cases e
      obtain ⟨l0,e1,e2⟩:=A6 hx
      obtain ⟨hl,_⟩:=C8 h e1
      obtain ⟨A,c,hu,rfl,ee,hr⟩:=A21 h e2 hl
      have r:=h.res id
      rw [hr] at r
      obtain ⟨cs,q1,q2,q3⟩:=r
      simp only [Dp,hr] at hl
      rcases q1.2 with ⟨hv,hn⟩ | ⟨gg,cap,cur,hv,_⟩
      ·omega
      ·rw [hl] at hu
       rw [hv] at hu
       cases hu
       refine ⟨.pointer (some ((⟨gg,0,none⟩:Addr).add (m.toNat * t.sz))),?_,?_,rfl⟩
       ·rw [(C7 h hy).1,hl,hv,run_indexAt_slice w T _ _ _ k m hU',if_pos ⟨h0,h1⟩,hel]
        simp [sizeOf,typeInfo,hi,hsz,Result.andThen]
       ·simp only [Dp,hr]
        refine ⟨by omega,gg,by rw [q3,hv]; rfl,by rw [Atu]; rfl⟩
     ·cases e
    ·cases e
   ·cases e
  ·cases e
 ·cases e
theorem A22 (h:B5 n B Iq s g a w) {T ty:TypeId} {x:Operand} {v:Value} (e:Asa P s T x=some v):(Builtin.len_ #[T] ty #[a.eval x]).run P w=.ok v w∧v.oneCell'=true:=by
 unfold Asa at e
 split at e
 ·rename_i el hU
  have hel:P.elem T=el:=by simp [Program.elem,hU]
  have hU':P.underlying T=some (.slice (P.elem T)):=by rw [hel]; exact hU
  split at e
  ·rename_i t xs hx
   cases e
   obtain ⟨l0,e1,e2⟩:=A6 hx
   obtain ⟨hl,_⟩:=C8 h e1
   obtain ⟨A,c,hu,_⟩:=A21 h e2 hl
   rw [hu,run_len_slice w T ty A _ c hU']
   exact ⟨rfl,rfl⟩
  ·rename_i id t xs hx
   cases e
   obtain ⟨l0,e1,e2⟩:=A6 hx
   obtain ⟨hl,_⟩:=C8 h e1
   obtain ⟨A,c,hu,_⟩:=A21 h e2 hl
   rw [hu,run_len_slice w T ty A _ c hU']
   exact ⟨rfl,rfl⟩
  ·split at e
   ·rename_i hx
    cases e
    rw [(C7 h hx).1,run_len_slice w T ty none 0 0 hU']
    exact ⟨rfl,rfl⟩
   ·cases e
 ·cases e
end
end
section
section
variable {P:Program} {n B:Nat} {Iq:List Nat} {s:St} {g:Gh} {a:Act} {w:World}
theorem Ao (s:St) (id:Nat) (r:Qp):(s.setRes id r).res id=r:=by simp [St.setRes]
theorem Ap (s:St) {id j:Nat} (r:Qp) (h:j≠id):(s.setRes id r).res j=s.res j:=by simp [St.setRes,Ax _ _ h]
def Gh.new (g:Gh) (id b:Nat) (hd:Value):Gh:=⟨Vf g.blk id (some b),Vf g.hdr id hd,g.av⟩
theorem Abl (h:B5 n B Iq s g a w) {id:Nat} (hf:s.res id=.unborn) (r:Qp) (hd:Value) (obj:Obj):
  ∀ b,Ev s g b→b < w.heap.size→Ev (s.setRes id r) (g.new id w.heap.size hd) b∧(w.alloc obj).heap[b]? = w.heap[b]? := by
 intro b hb hlt
 refine ⟨⟨hb.1,fun j hj hk=>?_⟩,Below.heap_alloc w obj b hlt⟩
 by_cases e:j=id
 ·subst e
  simp only [Gh.new,A2] at hk
  have:=Option.some.inj hk
  omega
 ·rw [Ap s r e] at hj
  simp only [Gh.new,Ax _ _ e] at hk
  exact hb.2 j hj hk
theorem Atz {id:Nat} (hf:s.res id=.unborn) (r:Qp) (hd:Value) (b:Nat):∀ j,Ay s g (s.setRes id r) (g.new id b hd) j:=by
 intro j
 by_cases e:j=id
 ·subst e
  unfold Ay
  rw [hf]
  exact .inr trivial
 ·exact Ay.same (Ap s r e) (by simp [Gh.new,Ax _ _ e]) (by simp [Gh.new,Ax _ _ e])
theorem B5.alloc (h:B5 n B Iq s g a w) {id:Nat} (hf:s.res id=.unborn) (r:Qp) (hd:Value) (obj:Obj)
  (hr:Mc (s.setRes id r) (g.new id w.heap.size hd) (w.alloc obj) id r):B5 n B Iq (s.setRes id r) (g.new id w.heap.size hd) a (w.alloc obj):=by
 refine h.step h.size h.defers (by simp) (Abl h hf r hd obj) (Atz hf r hd _) (fun i=>.inl ⟨rfl,rfl⟩) (fun j=>?_) (fun i j b hi hj=>?_) (fun i b hi=>?_) rfl
 ·by_cases e:j=id
  ·subst e
   right
   rw [Ao]
   exact hr
  ·left
   refine ⟨Ap s r e,by simp [Gh.new,Ax _ _ e],by simp [Gh.new,Ax _ _ e],fun b hb=>Below.heap_alloc w obj b (h.lt j b hb).1⟩
 ·by_cases e1:i=id<;>by_cases e2:j=id
  ·rw [e1,e2]
  ·simp only [Gh.new,e1,A2] at hi
   simp only [Gh.new,Ax _ _ e2] at hj
   have:=(h.lt j b hj).1
   have:=Option.some.inj hi
   omega
  ·simp only [Gh.new,Ax _ _ e1] at hi
   simp only [Gh.new,e2,A2] at hj
   have:=(h.lt i b hi).1
   have:=Option.some.inj hj
   omega
  ·simp only [Gh.new,Ax _ _ e1] at hi
   simp only [Gh.new,Ax _ _ e2] at hj
   exact h.inj i j b hi hj
 ·by_cases e1:i=id
  ·simp only [Gh.new,e1,A2] at hi
   have hsz:=Option.some.inj hi
   have:=h.base
   refine ⟨by simp; omega,.inr (by omega),fun q=>?_⟩
   have:=h.avB b q
   omega
  ·simp only [Gh.new,Ax _ _ e1] at hi
   obtain ⟨q1,q2,q3⟩:=h.lt i b hi
   exact ⟨by simp; omega,q2,q3⟩
theorem Kp.alloc (hB:B≤w.heap.size) (obj:Obj):Kp B Iq w (w.alloc obj):=⟨rfl,rfl,rfl,by simp,fun k hk _=>Below.heap_alloc w obj k (by omega)⟩
theorem Go.alloc (h:B5 n B Iq s g a w) {id:Nat} (hf:s.res id=.unborn) (r:Qp) (hd:Value) (obj:Obj):Go B Iq s g w (s.setRes id r) (g.new id w.heap.size hd) (w.alloc obj):=
 ⟨Kp.alloc h.base obj,Abl h hf r hd obj,Atz hf r hd _,rfl⟩
theorem Anm (w:World) (o:Obj):(w.alloc o).heap[w.heap.size]? = some o:=by
 show (w.heap.push o)[w.heap.size]? = _
 simp
theorem A65 (h:B5 n B Iq s g a w) {id:Nat} (hf:s.res id=.unborn) (T:TypeId) {ls:List Lf} {cs:Array Value} (hL:Hl s g w ls cs.toList) (hd:Value):
  Mc (s.setRes id (.box T ls)) (g.new id w.heap.size hd) (w.alloc (.cells cs T)) id (.box T ls):=
 ⟨w.heap.size,cs,by simp [Gh.new],Anm w _,hL.step (Abl h hf _ hd _) (Atz hf _ hd _)⟩
theorem A23 (h:B5 n B Iq s g a w) {nid:Nat} {T:TypeId} {v:Vl} {u:Value} {l:Lf} {s':St} (hv:VlR s g w v u) (e:A20 s nid T v=some (l,s')):
  ∃ x w' g',(Instr.box T u).run P w=.ok x w'∧Go B Iq s g w s' g' w'∧B5 n B Iq s' g' a w'∧Dp s' g' w' l x∧x.oneCell'=true:=by
 unfold A20 at e
 split at e<;>cases e
 rename_i hf
 refine ⟨.pointer (some ⟨w.heap.size,0,none⟩),w.alloc (.cells u.cells T),g.new nid w.heap.size undef,?_,Go.alloc h hf _ _ _,h.alloc hf _ _ _ (A65 h hf T hv.cells undef),?_,rfl⟩
 ·simp [Instr.box,newVar,newRow]
 ·simp only [Dp,Ao]
  exact ⟨w.heap.size,by simp [Gh.new],rfl⟩
theorem N4 {T:TypeId} {ls:List Lf} (e:Za P T=some ls) (s:St) (g:Gh) (w:World):∃ z,(∀ w,(zeroValue T).run P w=.ok z w)∧Hl s g w ls z.cells.toList∧(∃ i,P.info? T=some i∧i.zero=some z):=by
 unfold Za at e
 cases hi:P.info? T with
 | none=>rw [hi] at e; cases e
 | some i=>
  rw [hi] at e
  simp only at e
  cases hz:i.zero with
  | none=>rw [hz] at e; cases e
  | some z=>
   rw [hz] at e
   simp only at e
   split at e<;>cases e
   rename_i h1
   exact ⟨z,fun w=>by simp [zeroValue,typeInfo,hi,hz],Hl.ofConsts h1,i,rfl,hz⟩
theorem Ax9 (h:B5 n B Iq s g a w) {nid:Nat} {T:TypeId} {l:Lf} {s':St} (e:Atw P s nid T=some (l,s')):
  ∃ x w' g',(Instr.alloc T true (.tuple #[])).run P w=.ok x w'∧Go B Iq s g w s' g' w'∧B5 n B Iq s' g' a w'∧Dp s' g' w' l x∧x.oneCell'=true:=by
 unfold Atw at e
 split at e<;>cases e
 rename_i ls hf hz
 obtain ⟨z,hzr,hL,_⟩:=N4 hz s g w
 refine ⟨.pointer (some ⟨w.heap.size,0,none⟩),w.alloc (.cells z.cells T),g.new nid w.heap.size undef,?_,Go.alloc h hf _ _ _,h.alloc hf _ _ _ (A65 h hf T hL undef),?_,rfl⟩
 ·simp [Instr.alloc,hzr,newVar,newRow]
 ·simp only [Dp,Ao]
  exact ⟨w.heap.size,by simp [Gh.new],rfl⟩
theorem A24 (off:Nat) (v cs:Array Value) (hle:off + v.size≤cs.size):
  (v.zipIdx.foldl (fun cs (x:Value×Nat)=>cs.setIfInBounds (off + x.2) x.1) cs).toList=cs.toList.take off++v.toList++cs.toList.drop (off + v.size):=by
 have hz:v.zipIdx.foldl (fun cs (x:Value×Nat)=>cs.setIfInBounds (off + x.2) x.1) cs=(v.toList.zipIdx 0).foldl (fun cs (x:Value×Nat)=>cs.setIfInBounds (off + x.2) x.1) cs:=by
  rw [← Array.foldl_toList,Array.toList_zipIdx]
 rw [hz]
 obtain ⟨h1,h2⟩:=Great.foldl_set off v.toList 0 cs
 apply List.ext_getElem?
 intro k
 rw [Array.getElem?_toList,h2 k]
 simp only [Nat.add_zero,Array.length_toList,Nat.sub_zero]
 by_cases k1:k < off
 ·rw [if_neg (by omega),List.append_assoc,List.getElem?_append_left (by simp; omega),List.getElem?_take,if_pos k1,Array.getElem?_toList]
 ·by_cases k2:k < off + v.size
  ·rw [if_pos ⟨by omega,k2,by omega⟩,List.append_assoc,List.getElem?_append_right (by simp; omega),List.getElem?_append_left (by simp; omega)]
   congr 1
   simp
   omega
  ·rw [if_neg (by omega),List.getElem?_append_right (by simp; omega),List.getElem?_drop,Array.getElem?_toList]
   congr 1
   simp
   omega
theorem Hl.splice {ls vs:List Lf} {cs us:List Value} {off:Nat} (h:Hl s g w ls cs) (hv:Hl s g w vs us):Hl s g w (ls.take off++vs++ls.drop (off + vs.length)) (cs.take off++us++cs.drop (off + us.length)):=by
 rw [hv.length]
 exact ((h.take off).append hv).append (h.drop _)
def VsR (s:St) (g:Gh) (w:World):List (Nat×Vl)→List (Nat×Value)→Prop
 | [],[]=>True
 | (i,v)::r,(j,u)::q=>(i=j∧VlR s g w v u)∧VsR s g w r q
 | _,_=>False
theorem Aec (h:B5 n B Iq s g a w):∀ {parts:List (Nat×Operand)} {vs:List (Nat×Vl)},o5 s parts=some vs→VsR s g w vs (parts.map fun p=>(p.1,a.eval p.2))
 | [],_,e=>by cases e; trivial
 | (i,x)::r,vs,e=>by
  simp only [o5] at e
  split at e<;>cases e
  rename_i v vs' hx hr
  exact ⟨⟨rfl,Zc h hx⟩,Aec h hr⟩
theorem At0 {place:Nat→Option (Nat×Nat)}:∀ {vs:List (Nat×Vl)} {us:List (Nat×Value)} {ls ls':List Lf} {cs:Array Value},n9 place ls vs=some ls'→VsR s g w vs us→Hl s g w ls cs.toList→
  ∃ cs',Instr.fill place cs us=some cs'∧Hl s g w ls' cs'.toList
 | [],[],ls,ls',cs,e,_,hL=>by cases e; exact ⟨cs,rfl,hL⟩
 | [],_::_,_,_,_,_,h,_=>h.elim
 | _::_,[],_,_,_,_,h,_=>h.elim
 | (i,v)::r,(j,u)::q,ls,ls',cs,e,⟨⟨hij,hv⟩,hr⟩,hL=>by
  subst hij
  simp only [n9] at e
  split at e
  ·cases e
  ·rename_i off size hp
   split at e
   ·rename_i hsz
    split at e
    ·rename_i hle
     have hc:=hv.cells
     have hcl:=hc.length
     have hll:=hL.length
     simp only [Array.length_toList] at hcl hll
     obtain ⟨cs',h1,h2⟩:=At0 (cs:=u.cells.zipIdx.foldl (fun cs (x:Value×Nat)=>cs.setIfInBounds (off + x.2) x.1) cs) e hr (by
      rw [A24 off u.cells cs (by omega)]
      have:=hL.splice (off:=off) hc
      rw [Array.length_toList] at this
      exact this)
     refine ⟨cs',?_,h2⟩
     simp only [Instr.fill,hp]
     rw [if_neg (by simp; omega)]
     exact h1
    ·cases e
   ·cases e
theorem Aki:∀ {fs:List Field} {pl:List (Nat×Nat)},Afw P fs=some pl→fs.mapM (fun f=>(P.info? f.type).map fun i=>(f.offset,i.size))=some pl
 | [],_,e=>by cases e; rfl
 | f::r,pl,e=>by
  simp only [Afw] at e
  split at e<;>cases e
  rename_i i l hi hl
  simp [List.mapM_cons,hi,Aki hl]
theorem Aya (h:B5 n B Iq s g a w) {T:TypeId} {parts:Array (Nat×Operand)} {v:Vl} (e:Atx P s T parts=some v):
  ∃ u,(Instr.build T (parts.map fun (i,x)=>(i,a.eval x))).run P w=.ok u w∧VlR s g w v u:=by
 unfold Atx at e
 split at e
 ·rename_i fs hU
  split at e
  ·rename_i pl z vs hp hz hvs
   cases hfl:n9 (fun i=>pl[i]?) z vs with
   | none=>rw [hfl] at e; cases e
   | some ls'=>
    rw [hfl] at e
    cases e
    obtain ⟨zv,_,hL,it,hi,hzz⟩:=N4 hz s g w
    have hV:=Aec h hvs
    obtain ⟨cs',h1,h2⟩:=At0 hfl hV hL
    have hmap:(parts.map fun (i,x)=>(i,a.eval x)).toList=parts.toList.map fun p=>(p.1,a.eval p.2):=by rw [Array.toList_map]
    refine ⟨.agg cs',run_build w T _ cs' ?_,cs',rfl,h2⟩
    unfold Program.built
    simp only [hi,hU,hzz,Aki hp,hmap]
    have:(fun i:Nat=>pl.toArray[i]?)=fun i:Nat=>pl[i]? := by funext i; simp
    rw [this]
    exact h1
  ·cases e
 ·cases e
end
end
section
section
variable {P:Program} {n B:Nat} {Iq:List Nat} {s:St} {g:Gh} {a:Act} {w:World}
theorem Ann {S:Nat→Prop} {e:TypeId} {t:Ty} {xs:List t.D} {v:Value} {cs:List Value} (h1:N3 w t 0 e t.sz v xs.length cs) (h2:Iv w S t xs cs) (hS:∀ b,v.ownBlock=some b→S b) (hlt:∀ b,v.ownBlock=some b→b < w.heap.size):
  (Ty.sl t).K w S xs [v]:=by
 obtain ⟨hl,hv⟩:=h1
 rcases hv with ⟨rfl,hn⟩ | ⟨b,cap,cur,rfl,_,hh,hcap,_,hsz,hcs⟩
 ·refine ⟨none,0,by rw [hn],by omega,fun i x hx=>?_⟩
  have:i < xs.length:=(List.getElem?_eq_some_iff.1 hx).1
  omega
 ·refine ⟨_,cap,rfl,hcap,fun i x hx=>⟨_,rfl,hS b rfl,hlt b rfl,_,?_,h2.2 i x hx,fun j u hu=>?_⟩⟩
  ·exact Ty.K_len (h2.2 i x hx)
  ·rw [Atu,cell_of_row w b _ cur e _ hh]
   rw [List.getElem?_take] at hu
   split at hu
   ·rw [List.getElem?_drop,← hcs,List.getElem?_take] at hu
    split at hu
    ·rw [← Array.getElem?_toList,← hu]
    ·cases hu
   ·cases hu
def Gh.off (g:Gh) (id:Nat):Gh:=⟨Vf g.blk id none,g.hdr,g.av⟩
theorem A7v (h:B5 n B Iq s g a w) {id:Nat} {e:TypeId} {t:Ty} {xs:List t.D} (hr:s.res id=.row e t xs):
  (∀ b,Ev s g b→b < w.heap.size→Ev (s.setRes id (.frozen t xs)) (g.off id) b∧w.heap[b]? = w.heap[b]?)∧(∀ j,Ay s g (s.setRes id (.frozen t xs)) (g.off id) j)∧
  B5 n B Iq (s.setRes id (.frozen t xs)) (g.off id) a w:=by
 have hS:∀ b,Ev s g b→b < w.heap.size→Ev (s.setRes id (.frozen t xs)) (g.off id) b∧w.heap[b]? = w.heap[b]? := by
  intro b hb _
  refine ⟨⟨hb.1,fun j hj hk=>?_⟩,rfl⟩
  by_cases q:j=id
  ·subst q
   simp [Gh.off] at hk
  ·rw [Ap s _ q] at hj
   simp only [Gh.off,Ax _ _ q] at hk
   exact hb.2 j hj hk
 have hI:∀ j,Ay s g (s.setRes id (.frozen t xs)) (g.off id) j:=by
  intro j
  by_cases q:j=id
  ·subst q
   unfold Ay
   rw [hr,Ao]
   exact .inr (.inr ⟨t,xs,rfl,rfl⟩)
  ·exact Ay.same (Ap s _ q) (by simp [Gh.off,Ax _ _ q]) rfl
 refine ⟨hS,hI,h.step h.size h.defers (Nat.le_refl _) hS hI (fun i=>.inl ⟨rfl,rfl⟩) (fun j=>?_) (fun i j b hi hj=>?_) (fun i b hi=>?_) rfl⟩
 ·by_cases q:j=id
  ·subst q
   right
   rw [Ao]
   have r:=h.res j
   rw [hr] at r
   obtain ⟨cs,h1,h2,h3⟩:=r
   refine ⟨?_,by simp [Gh.off]⟩
   refine Ann (e:=e) h1 (h2.keep hS) (fun b hb=>⟨(h.lt j b (h3.trans hb)).2.2,fun k hk hkb=>?_⟩) (fun b hb=>(h.lt j b (h3.trans hb)).1)
   by_cases q2:k=j
   ·subst q2
    simp [Gh.off] at hkb
   ·simp only [Gh.off,Ax _ _ q2] at hkb
    exact q2 (h.inj k j b hkb (h3.trans hb))
  ·left
   exact ⟨Ap s _ q,by simp [Gh.off,Ax _ _ q],rfl,fun _ _=>rfl⟩
 ·by_cases q1:i=id
  ·simp [Gh.off,q1] at hi
  ·by_cases q2:j=id
   ·simp [Gh.off,q2] at hj
   ·simp only [Gh.off,Ax _ _ q1] at hi
    simp only [Gh.off,Ax _ _ q2] at hj
    exact h.inj i j b hi hj
 ·by_cases q1:i=id
  ·simp [Gh.off,q1] at hi
  ·simp only [Gh.off,Ax _ _ q1] at hi
   exact h.lt i b hi
theorem Iv.snoc {S:Nat→Prop} {t:Ty} {xs:List t.D} {y:t.D} {cs:List Value} {u:Value} (h1:t.sz=1) (h:Iv w S t xs (cs.take xs.length)) (hl:cs.length=xs.length + 1) (hu:cs[xs.length]? = some u) (hy:t.K w S y [u]):Iv w S t (xs++[y]) cs:=by
 refine ⟨by rw [h1]; simp [hl],fun i x hx=>?_⟩
 by_cases q:i < xs.length
 ·rw [List.getElem?_append_left q] at hx
  have:=h.2 i x hx
  rw [h1,Nat.mul_one] at this ⊢
  rw [List.drop_take,List.take_take,Nat.min_eq_left (by omega)] at this
  exact this
 ·rw [List.getElem?_append_right (by omega)] at hx
  have hi:i=xs.length:=by
   have:=(List.getElem?_eq_some_iff.1 hx).1
   simp at this
   omega
  subst hi
  simp at hx
  subst hx
  rw [h1,Nat.mul_one]
  have hd:(cs.drop xs.length).take 1=[u]:=by
   rw [List.drop_eq_getElem_cons (by omega)]
   rw [List.getElem?_eq_getElem (by omega)] at hu
   simp [Option.some.inj hu]
  rw [hd]
  exact hy
theorem Avs (h:B5 n B Iq s g a w) {id j:Nat} {e:TypeId} {t:Ty} {xs:List (List t.D)} {c:Bool} {ys:List t.D} (hr:s.res id=.last e t xs c j) (hj:s.res j=.frozen t ys):
  ∃ cs,N3 w (.sl t) 0 e (Ty.sl t).sz (g.hdr id) (Y8 c xs ys).length cs∧Iv w (Ev s g) (.sl t) (Y8 c xs ys) cs∧g.blk id=(g.hdr id).ownBlock∧(Y8 c xs ys).length=xs.length + c.toNat:=by
 have r:=h.res id
 rw [hr] at r
 obtain ⟨cs,h1,h2,h3,h4⟩:=r
 have hl:(Y8 c xs ys).length=xs.length + c.toNat:=by cases c<;>simp [Y8]
 refine ⟨cs,by rw [hl]; exact h1,?_,h3,hl⟩
 have hcl:cs.length=xs.length + c.toNat:=by simpa using h1.1
 cases c with
 | false=>
  have:cs.take xs.length=cs:=List.take_of_length_le (by simp at hcl; omega)
  rw [this] at h2
  exact h2
 | true=>
  simp only [Bool.toNat_true] at hcl
  obtain ⟨u,hu⟩:∃ u,cs[xs.length]? = some u:=⟨_,List.getElem?_eq_getElem (by omega)⟩
  have hq:=h4 u rfl hu
  rw [hj] at hq
  have hrj:=h.res j
  rw [hj] at hrj
  simp only at hq
  exact Iv.snoc (t:=.sl t) rfl h2 hcl hu (by rw [hq]; exact hrj.1)
theorem A9m (h:B5 n B Iq s g a w) {id j:Nat} {e:TypeId} {t:Ty} {xs:List (List t.D)} {c:Bool} {ys:List t.D} (hr:s.res id=.last e t xs c j) (hj:s.res j=.frozen t ys):
  (∀ b,Ev s g b→b < w.heap.size→Ev (s.setRes id (.frozen (.sl t) (Y8 c xs ys))) (g.off id) b∧w.heap[b]? = w.heap[b]?)∧(∀ k,Ay s g (s.setRes id (.frozen (.sl t) (Y8 c xs ys))) (g.off id) k)∧
  B5 n B Iq (s.setRes id (.frozen (.sl t) (Y8 c xs ys))) (g.off id) a w:=by
 have hS:∀ b,Ev s g b→b < w.heap.size→Ev (s.setRes id (.frozen (.sl t) (Y8 c xs ys))) (g.off id) b∧w.heap[b]? = w.heap[b]? := by
  intro b hb _
  refine ⟨⟨hb.1,fun j hj hk=>?_⟩,rfl⟩
  by_cases q:j=id
  ·subst q
   simp [Gh.off] at hk
  ·rw [Ap s _ q] at hj
   simp only [Gh.off,Ax _ _ q] at hk
   exact hb.2 j hj hk
 have hI:∀ j,Ay s g (s.setRes id (.frozen (.sl t) (Y8 c xs ys))) (g.off id) j:=by
  intro j
  by_cases q:j=id
  ·subst q
   unfold Ay
   rw [hr,Ao]
   exact .inr (.inr ⟨_,_,rfl,rfl⟩)
  ·exact Ay.same (Ap s _ q) (by simp [Gh.off,Ax _ _ q]) rfl
 refine ⟨hS,hI,h.step h.size h.defers (Nat.le_refl _) hS hI (fun i=>.inl ⟨rfl,rfl⟩) (fun j=>?_) (fun i j b hi hj=>?_) (fun i b hi=>?_) rfl⟩
 ·by_cases q:j=id
  ·subst q
   right
   rw [Ao]
   obtain ⟨cs,h1,h2,h3,_⟩:=Avs h hr hj
   refine ⟨?_,by simp [Gh.off]⟩
   refine Ann (e:=e) h1 (h2.keep hS) (fun b hb=>⟨(h.lt j b (h3.trans hb)).2.2,fun k hk hkb=>?_⟩) (fun b hb=>(h.lt j b (h3.trans hb)).1)
   by_cases q2:k=j
   ·subst q2
    simp [Gh.off] at hkb
   ·simp only [Gh.off,Ax _ _ q2] at hkb
    exact q2 (h.inj k j b hkb (h3.trans hb))
  ·left
   exact ⟨Ap s _ q,by simp [Gh.off,Ax _ _ q],rfl,fun _ _=>rfl⟩
 ·by_cases q1:i=id
  ·simp [Gh.off,q1] at hi
  ·by_cases q2:j=id
   ·simp [Gh.off,q2] at hj
   ·simp only [Gh.off,Ax _ _ q1] at hi
    simp only [Gh.off,Ax _ _ q2] at hj
    exact h.inj i j b hi hj
 ·by_cases q1:i=id
  ·simp [Gh.off,q1] at hi
  ·simp only [Gh.off,Ax _ _ q1] at hi
   exact h.lt i b hi
theorem Fl:∀ {ls:List Lf} {s:St} {g:Gh},B5 n B Iq s g a w→∃ g',B5 n B Iq (s.frz ls) g' a w∧Go B Iq s g w (s.frz ls) g' w∧
  (∀ l u,Dp s g w l u→Dp (s.frz ls) g' w l u)
 | [],s,g,h=>⟨g,h,Go.refl B Iq s g w,fun _ _ q=>q⟩
 | .c _::r,s,g,h=>Fl (ls:=r) h
 | .sl _ _::r,s,g,h=>Fl (ls:=r) h
 | .ptr _ _::r,s,g,h=>Fl (ls:=r) h
 | .ep _ _ _ _::r,s,g,h=>Fl (ls:=r) h
 | .rp _ _ _::r,s,g,h=>Fl (ls:=r) h
 | .sp _::r,s,g,h=>Fl (ls:=r) h
 | .row id::r,s,g,h=>by
  unfold St.frz
  cases hr:s.res id with
  | row e t xs=>
   obtain ⟨h1,h2,h3⟩:=A7v h hr
   obtain ⟨g',k1,k2,k3⟩:=Fl (ls:=r) h3
   exact ⟨g',k1,Go.trans ⟨Kp.refl B Iq w,h1,h2,rfl⟩ k2,fun l u q=>k3 l u (Dp.step h1 h2 q)⟩
  | unborn=>exact Fl (ls:=r) h
  | dead=>exact Fl (ls:=r) h
  | box T ls=>exact Fl (ls:=r) h
  | frozen t xs=>exact Fl (ls:=r) h
  | last e t xs c j=>
   simp only
   cases hj:s.res j with
   | row e' t' ys=>
    simp only
    split
    ·rename_i ht
     subst ht
     obtain ⟨h1,h2,h3⟩:=A7v h hj
     have hne:id≠j:=fun q=>by rw [q,hj] at hr; cases hr
     obtain ⟨f1,f2,f3⟩:=A9m h3 (id:=id) (j:=j) ((Ap s _ hne).trans hr) (Ao s j _)
     obtain ⟨g',k1,k2,k3⟩:=Fl (ls:=r) f3
     exact ⟨g',k1,Go.trans ⟨Kp.refl B Iq w,h1,h2,rfl⟩ (Go.trans ⟨Kp.refl B Iq w,f1,f2,rfl⟩ k2),fun l u q=>k3 l u (Dp.step f1 f2 (Dp.step h1 h2 q))⟩
    ·exact Fl (ls:=r) h
   | unborn=>exact Fl (ls:=r) h
   | dead=>exact Fl (ls:=r) h
   | box T ls=>exact Fl (ls:=r) h
   | frozen t xs=>exact Fl (ls:=r) h
   | last _ _ _ _ _=>exact Fl (ls:=r) h
   | map _ _=>exact Fl (ls:=r) h
   | iter _ _ _ _=>exact Fl (ls:=r) h
  | map _ _=>exact Fl (ls:=r) h
  | iter _ _ _ _=>exact Fl (ls:=r) h
theorem Hl.imp {s':St} {g':Gh} (k:∀ l u,Dp s g w l u→Dp s' g' w l u):∀ {ls:List Lf} {cs:List Value},Hl s g w ls cs→Hl s' g' w ls cs
 | [],[],_=>trivial
 | [],_::_,h=>h.elim
 | _::_,[],h=>h.elim
 | _::_,_::_,h=>⟨⟨k _ _ h.1.1,h.1.2⟩,Hl.imp k h.2⟩
end
end
section
section
variable {P:Program} {n B:Nat} {Iq:List Nat} {s:St} {g:Gh} {a:Act} {w:World}
theorem At1 (w:World) (t tx ty e:TypeId) (i:TypeInfo) (z:Value) (ht:P.underlying t=some (.slice e)) (hi:P.info? e=some i) (hz:i.zero=some z) (hzs:z.cells.size=i.size)
  {v:Value} {k:Nat} {xs:List Value} (hown:w.ownsRow 0 e i.size v k xs) {x:Value} {m:Nat} {news:List Value} (hs:Src P i.size tx x m news w)
  (h63:k + m≤maxLen) (hbytes:(k + m) * i.bytes≤140737488355328):
  ∃ v' w',(Builtin.append_ #[t,tx] ty #[v,x]).run P w=.ok v' w'∧w'.ownsRow 0 e i.size v' (k + m) (xs++news)∧w.grownBy w' v.ownBlock∧(v'.ownBlock=v.ownBlock∨v'.ownBlock=some w.heap.size):=by
 have hlen:(xs++news).length=(k + m) * i.size:=by rw [Fg,hown.1,hs.newsLen,Nat.add_mul]
 have grown:∀ (base:Option Addr) (cap:Nat),cap < k + m→(Builtin.firstCells i.size k (.slice base k cap)).run P w.drew=.ok xs.toArray w.drew→∀ row:Option Nat,
   ∃ v' w',(Builtin.append_ #[t,tx] ty #[.slice base k cap,x]).run P w=.ok v' w'∧w'.ownsRow 0 e i.size v' (k + m) (xs++news)∧w.grownBy w' row∧v'.ownBlock=some w.heap.size:=by
  intro base cap hc hold row
  have hr:=run_append_grow_src (P:=P) w t tx ty e i z ht hi hz base k cap xs hold x m news hs hc (by simp only [maxLen] at h63; omega) (growslice_fits hc hbytes)
  have hge:=grownCap_ge w (k + m) cap e
  have hcm:=grownCap_le_maxLen w (k + m) cap e h63
  refine ⟨_,_,hr,⟨hlen,.inr ⟨w.heap.size,_,_,rfl,Nat.zero_le _,heap_alloc_new w.drew _,hge,hcm,?_,?_⟩⟩,⟨rfl,rfl,rfl,by simp,fun j hj _=>Below.heap_alloc w.drew _ j hj⟩,rfl⟩
  ·simp only [Array.size_append,List.size_toArray,size_zeroCells,hzs,hlen,← Nat.add_mul]
   congr 1
   omega
  ·simp only [Array.toList_append]
   rw [← hlen]
   exact List.take_left
 rcases hown.2 with ⟨rfl,rfl⟩ | ⟨b,cap,cur,rfl,_,hg,hnc,hcm,hcs,htake⟩
 ·have hx:xs=[]:=List.eq_nil_of_length_eq_zero (by simpa using hown.1)
  subst hx
  by_cases hm:m=0
  ·subst hm
   have hn:news=[]:=List.eq_nil_of_length_eq_zero (by simpa using hs.newsLen)
   subst hn
   refine ⟨.slice none 0 0,w,?_,World.ownsRow_nil w 0 e i.size,⟨rfl,rfl,rfl,Nat.le_refl _,fun _ _ _=>rfl⟩,Or.inl rfl⟩
   rcases hs.kind with ⟨e',hk⟩ | hk<;>simp [Builtin.append_,run_underlying ht,run_underlying hk,sizeOf,typeInfo,hi,hs.len,hs.cells]
  ·obtain ⟨v',w',h1,h2,h3,h4⟩:=grown none 0 (by omega) (run_firstCells_none w.drew i.size 0 0 0) (Value.ownBlock (.slice none 0 0))
   exact ⟨v',w',h1,h2,h3,.inr h4⟩
 ·by_cases hroom:k + m≤cap
  ·have hfit:k * i.size + news.length≤cur.size:=by rw [hs.newsLen,hcs,← Nat.add_mul]; exact Nat.mul_le_mul_right _ hroom
   have hst:=run_storeCells_at (P:=P) b (k * i.size) e news 0 cur w hg (by omega) hs.one
   simp only [Nat.add_zero] at hst
   have hr:(Builtin.append_ #[t,tx] ty #[.slice (some ⟨b,0,none⟩) k cap,x]).run P w=.ok (.slice (some ⟨b,0,none⟩) (k + m) cap) (w.setRow b (cur.toList.take (k * i.size)++news++cur.toList.drop (k * i.size + news.length)).toArray):=by
    rcases hs.kind with ⟨e',hk⟩ | hk<;>simp [Builtin.append_,run_underlying ht,run_underlying hk,sizeOf,typeInfo,hi,hs.len,hroom,hs.cells,Atu,hst]
   refine ⟨_,_,hr,⟨hlen,.inr ⟨b,cap,_,rfl,Nat.zero_le _,setRow_heap w b cur _ e _ hg,hroom,hcm,?_,?_⟩⟩,⟨rfl,rfl,rfl,by simp,fun j _ hj=>setRow_other w b j _ (fun q=>hj (by simp [Value.ownBlock,q]))⟩,Or.inl rfl⟩
   ·simp only [List.size_toArray,Fg,List.length_take,List.length_drop,Array.length_toList]
    omega
   ·rw [htake,← hlen]
    exact List.take_left
  ·have holds:∀ j u,xs[j]? = some u→w.cell? ((⟨b,0,none⟩:Addr).add j)=some u:=hown.cells (g:=b) rfl
   obtain ⟨v',w',h1,h2,h3,h4⟩:=grown (some ⟨b,0,none⟩) cap (by omega) (run_firstCells_some w.drew i.size k ⟨b,0,none⟩ k cap xs hown.1 (by simpa using holds)) (Value.ownBlock (.slice (some ⟨b,0,none⟩) k cap))
   exact ⟨v',w',h1,h2,h3,.inr h4⟩
def Gh.mv (g:Gh) (o:Option Nat) (nid:Nat) (v':Value):Gh:=⟨Vf (match o with | some id=>Vf g.blk id none | none=>g.blk) nid v'.ownBlock,Vf g.hdr nid v',g.av⟩
theorem B5.growR (h:B5 n B Iq s g a w) {o:Option Nat} {nid:Nat} (hf:s.res nid=.unborn) {v v':Value} {w':World}
  (ho:∀ id,o=some id→(s.res id).live=true∧v=g.hdr id∧g.blk id=v.ownBlock) (ho':o=none→v.ownBlock=none)
  (hg:w.grownBy w' v.ownBlock) (hat:v'.ownBlock=v.ownBlock∨v'.ownBlock=some w.heap.size) (hsz':∀ b,v'.ownBlock=some b→b < w'.heap.size)
  {r:Qp} (hrr:(∀ b,Ev s g b→b < w.heap.size→Ev ((Fo s o).setRes nid r) (g.mv o nid v') b∧w'.heap[b]? = w.heap[b]?)→(∀ j,Ay s g ((Fo s o).setRes nid r) (g.mv o nid v') j)→Mc ((Fo s o).setRes nid r) (g.mv o nid v') w' nid r):
  (∀ b,Ev s g b→b < w.heap.size→Ev ((Fo s o).setRes nid r) (g.mv o nid v') b∧w'.heap[b]? = w.heap[b]?)∧
  (∀ j,Ay s g ((Fo s o).setRes nid r) (g.mv o nid v') j)∧
  B5 n B Iq ((Fo s o).setRes nid r) (g.mv o nid v') a w'∧Kp B Iq w w':=by
 have hne:∀ id,o=some id→id≠nid:=fun id q=>by
  rintro rfl
  have hr:=(ho id q).1
  rw [hf] at hr
  cases hr
 have hlive:∀ id,o=some id→(s.res id).live=true:=fun id q=>by
  exact (ho id q).1
 have hblk:∀ b,v.ownBlock=some b→∃ id,o=some id∧g.blk id=some b:=fun b hb=>by
  cases ho0:o with
  | none=>rw [ho' ho0] at hb; cases hb
  | some id=>exact ⟨id,rfl,by rw [(ho id ho0).2.2]; exact hb⟩
 have rr1:∀ j,j≠nid→(∀ id,o=some id→j≠id)→((Fo s o).setRes nid r).res j=s.res j:=fun j h1 h2=>by
  rw [Ap _ _ h1]
  cases ho0:o with
  | none=>rfl
  | some id=>exact Ap s _ (h2 id ho0)
 have rr2:∀ id,o=some id→((Fo s o).setRes nid r).res id=.dead:=fun id q=>by
  rw [Ap _ _ (hne id q),q]
  exact Ao s id _
 have b1:∀ j,j≠nid→(∀ id,o=some id→j≠id)→(g.mv o nid v').blk j=g.blk j:=fun j h1 h2=>by
  simp only [Gh.mv,Ax _ _ h1]
  cases ho0:o with
  | none=>rfl
  | some id=>exact Ax _ _ (h2 id ho0)
 have b2:∀ id,o=some id→(g.mv o nid v').blk id=none:=fun id q=>by
  simp only [Gh.mv,Ax _ _ (hne id q),q]
  simp
 have b3:(g.mv o nid v').blk nid=v'.ownBlock:=by simp [Gh.mv]
 have hS:∀ b,Ev s g b→b < w.heap.size→Ev ((Fo s o).setRes nid r) (g.mv o nid v') b∧w'.heap[b]? = w.heap[b]? := by
  intro b hb hlt
  have hvb:v.ownBlock≠some b:=fun q=>by
   obtain ⟨id,h1,h2⟩:=hblk b q
   exact hb.2 id (hlive id h1) h2
  refine ⟨⟨hb.1,fun j hj hk=>?_⟩,hg.block b hlt (fun q=>hvb q.symm)⟩
  by_cases h1:j=nid
  ·rw [h1,b3] at hk
   rcases hat with q | q
   ·exact hvb (q.symm.trans hk)
   ·rw [q] at hk
    have:=Option.some.inj hk
    omega
  ·by_cases h2:∀ id,o=some id→j≠id
   ·rw [rr1 j h1 h2] at hj
    rw [b1 j h1 h2] at hk
    exact hb.2 j hj hk
   ·simp only [Classical.not_forall] at h2
    obtain ⟨id,q,h3⟩:=h2
    have h3:j=id:=Classical.not_not.1 h3
    rw [h3,b2 id q] at hk
    cases hk
 have hI:∀ j,Ay s g ((Fo s o).setRes nid r) (g.mv o nid v') j:=by
  intro j
  by_cases h1:j=nid
  ·subst h1
   unfold Ay
   rw [hf]
   exact .inr trivial
  ·by_cases h2:∀ id,o=some id→j≠id
   ·exact Ay.same (rr1 j h1 h2) (b1 j h1 h2) (by simp [Gh.mv,Ax _ _ h1])
   ·simp only [Classical.not_forall] at h2
    obtain ⟨id,q,h3⟩:=h2
    have h3:j=id:=Classical.not_not.1 h3
    subst h3
    exact .inl (rr2 j q)
 refine ⟨hS,hI,h.step h.size h.defers hg.size hS hI (fun i=>.inl ⟨?_,rfl⟩) (fun j=>?_) (fun i j b hi hj=>?_) (fun i b hi=>?_) rfl,⟨hg.os,hg.tape,hg.output,hg.size,fun k hk hn=>?_⟩⟩
 ·cases o<;>rfl
 ·by_cases h1:j=nid
  ·subst h1
   right
   rw [Ao]
   exact hrr hS hI
  ·by_cases h2:∀ id,o=some id→j≠id
   ·left
    refine ⟨rr1 j h1 h2,b1 j h1 h2,by simp [Gh.mv,Ax _ _ h1],fun b hb=>hg.block b (h.lt j b hb).1 (fun q=>?_)⟩
    obtain ⟨id,k1,k2⟩:=hblk b q.symm
    exact h2 id k1 (h.inj j id b hb k2)
   ·simp only [Classical.not_forall] at h2
    obtain ⟨id,q,h3⟩:=h2
    have h3:j=id:=Classical.not_not.1 h3
    subst h3
    right
    rw [rr2 j q]
    exact b2 j q
 ·have key:∀ i b,(g.mv o nid v').blk i=some b→(i=nid∧v'.ownBlock=some b)∨(i≠nid∧g.blk i=some b∧v'.ownBlock≠some b):=by
   intro i b hi
   by_cases h1:i=nid
   ·left
    rw [h1,b3] at hi
    exact ⟨h1,hi⟩
   ·right
    by_cases h2:∀ id,o=some id→i≠id
    ·rw [b1 i h1 h2] at hi
     refine ⟨h1,hi,fun q=>?_⟩
     rcases hat with q1 | q1
     ·rw [q1] at q
      obtain ⟨id,k1,k2⟩:=hblk b q
      exact h2 id k1 (h.inj i id b hi k2)
     ·rw [q1] at q
      have:=Option.some.inj q
      have:=(h.lt i b hi).1
      omega
    ·simp only [Classical.not_forall] at h2
     obtain ⟨id,q,h3⟩:=h2
     have h3:i=id:=Classical.not_not.1 h3
     rw [h3,b2 id q] at hi
     cases hi
  rcases key i b hi with ⟨h1,h2⟩ | ⟨h1,h2,h3⟩<;>rcases key j b hj with ⟨k1,k2⟩ | ⟨k1,k2,k3⟩
  ·rw [h1,k1]
  ·exact absurd h2 k3
  ·exact absurd k2 h3
  ·exact h.inj i j b h2 k2
 ·by_cases h1:i=nid
  ·rw [h1,b3] at hi
   refine ⟨hsz' b hi,?_⟩
   rcases hat with q | q
   ·rw [q] at hi
    obtain ⟨id,k1,k2⟩:=hblk b hi
    exact (h.lt id b k2).2
   ·rw [q] at hi
    have hsz:=Option.some.inj hi
    have:=h.base
    refine ⟨.inr (by omega),fun q5=>?_⟩
    have:=h.avB b q5
    omega
  ·by_cases h2:∀ id,o=some id→i≠id
   ·rw [b1 i h1 h2] at hi
    obtain ⟨q1,q2⟩:=h.lt i b hi
    exact ⟨Nat.lt_of_lt_of_le q1 hg.size,q2⟩
   ·simp only [Classical.not_forall] at h2
    obtain ⟨id,q,h3⟩:=h2
    have h3:i=id:=Classical.not_not.1 h3
    rw [h3,b2 id q] at hi
    cases hi
 ·refine hg.block k (Nat.lt_of_lt_of_le hk h.base) (fun q=>?_)
  obtain ⟨id,k1,k2⟩:=hblk k q.symm
  rcases (h.lt id k k2).2.1 with q2 | q2
  ·exact hn q2
  ·omega
theorem B5.grow (h:B5 n B Iq s g a w) {o:Option Nat} {nid:Nat} (hf:s.res nid=.unborn) {v v':Value} {w':World}
  (ho:∀ id,o=some id→(∃ e t xs,s.res id=.row e t xs)∧v=g.hdr id∧g.blk id=v.ownBlock) (ho':o=none→v.ownBlock=none)
  (hg:w.grownBy w' v.ownBlock) (hat:v'.ownBlock=v.ownBlock∨v'.ownBlock=some w.heap.size) (hsz':∀ b,v'.ownBlock=some b→b < w'.heap.size)
  {e:TypeId} {t:Ty} {zs:List t.D} {cs:List Value} (hown:N3 w' t 0 e t.sz v' zs.length cs)
  (hrep:(∀ b,Ev s g b→b < w.heap.size→Ev ((Fo s o).setRes nid (.row e t zs)) (g.mv o nid v') b∧w'.heap[b]? = w.heap[b]?)→Iv w' (Ev ((Fo s o).setRes nid (.row e t zs)) (g.mv o nid v')) t zs cs):
  (∀ b,Ev s g b→b < w.heap.size→Ev ((Fo s o).setRes nid (.row e t zs)) (g.mv o nid v') b∧w'.heap[b]? = w.heap[b]?)∧
  (∀ j,Ay s g ((Fo s o).setRes nid (.row e t zs)) (g.mv o nid v') j)∧
  B5 n B Iq ((Fo s o).setRes nid (.row e t zs)) (g.mv o nid v') a w'∧Kp B Iq w w':=by
 refine h.growR hf (fun id q=>?_) ho' hg hat hsz' fun hS _=>⟨cs,?_,hrep hS,?_⟩
 ·obtain ⟨⟨e,t,xs,hr⟩,k2,k3⟩:=ho id q
  exact ⟨by rw [hr]; rfl,k2,k3⟩
 ·simpa [Gh.mv] using hown
 ·simp [Gh.mv]
end
end
section
section
variable {P:Program} {n B:Nat} {Iq:List Nat} {s:St} {g:Gh} {a:Act} {w:World}
theorem Iv.append {S:Nat→Prop} {t:Ty} {xs ys:List t.D} {cs ds:List Value} (h1:Iv w S t xs cs) (h2:Iv w S t ys ds):Iv w S t (xs++ys) (cs++ds):=by
 refine ⟨by rw [Fg,Fg,h1.1,h2.1,Nat.add_mul],fun i x hx=>?_⟩
 by_cases hi:i < xs.length
 ·rw [List.getElem?_append_left hi] at hx
  have:=h1.2 i x hx
  have hle:(i + 1) * t.sz≤cs.length:=by rw [h1.1]; exact Nat.mul_le_mul_right _ hi
  have hle2:i * t.sz + t.sz≤cs.length:=by rw [← Nat.succ_mul]; exact hle
  rw [List.drop_append_of_le_length (by omega),List.take_append_of_le_length (by simp; omega)]
  exact this
 ·rw [List.getElem?_append_right (by omega)] at hx
  have:=h2.2 (i - xs.length) x hx
  have e:i * t.sz=cs.length + (i - xs.length) * t.sz:=by rw [h1.1,← Nat.add_mul]; congr 1; omega
  rw [e,← List.drop_drop,List.drop_left]
  exact this
theorem Iv.one {S:Nat→Prop} {t:Ty} {xs:List t.D} {cs:List Value} (h:Iv w S t xs cs):∀ u∈cs,u.oneCell'=true:=by
 intro u hu
 obtain ⟨j,hj⟩:=List.getElem?_of_mem hu
 have hjl:=(List.getElem?_eq_some_iff.1 hj).1
 rw [h.1] at hjl
 have hsz:0 < t.sz:=by
  rcases Nat.eq_zero_or_pos t.sz with q | q
  ·rw [q] at hjl; omega
  ·exact q
 have hi:j / t.sz < xs.length:=(Nat.div_lt_iff_lt_mul hsz).2 hjl
 have hK:=h.2 (j / t.sz) _ (List.getElem?_eq_getElem hi)
 refine Ty.K_one hK u ?_
 refine List.mem_of_getElem? (i:=j % t.sz) ?_
 rw [List.getElem?_take,if_pos (Nat.mod_lt _ hsz),List.getElem?_drop]
 have e:j / t.sz * t.sz + j % t.sz=j:=by rw [Nat.mul_comm]; exact Nat.div_add_mod j t.sz
 rw [e]
 exact hj
theorem Azs (h:B5 n B Iq s g a w) {el:El} {l:Lf} {u:Value} {o:Option Nat} {xs:List el.t.D} (e:Xe s el l=some (o,xs)) (hl:Dp s g w l u):
  ∃ cs,N3 w el.t 0 el.e el.t.sz u xs.length cs∧Iv w (Ev s g) el.t xs cs∧(∀ id,o=some id→(∃ e t xs,s.res id=.row e t xs)∧u=g.hdr id∧g.blk id=u.ownBlock)∧(o=none→u.ownBlock=none):=by
 unfold Xe at e
 split at e
 ·cases e
  cases hl
  exact ⟨[],A1g w el.t 0 el.e el.t.sz,⟨by simp,fun i x hx=>by simp at hx⟩,(fun id q=>by cases q),fun _=>rfl⟩
 ·rename_i id
  split at e
  ·rename_i e' t xs' hr
   split at e
   ·rename_i he
    split at e
    ·rename_i ht
     subst ht
     cases e
     have r:=h.res id
     rw [hr] at r
     obtain ⟨cs,h1,h2,h3⟩:=r
     simp only [Dp,hr] at hl
     refine ⟨cs,by rw [hl,← he]; exact h1,h2,(fun j q=>?_),(fun q=>by cases q)⟩
     cases q
     exact ⟨⟨_,_,_,hr⟩,hl,by rw [hl]; exact h3⟩
    ·cases e
   ·cases e
  ·cases e
 ·cases e
theorem A66 {S:Nat→Prop} {T e':TypeId} (hT:P.underlying T=some (.slice e')) {t:Ty} {ys:List t.D} {u:Value} (hK:(Ty.sl t).K w S ys [u]):
  ∃ news,Src P t.sz T u ys.length news w∧Iv w S t ys news:=by
 obtain ⟨A,c,hu,hle,hx⟩:=hK
 cases hu
 have hcs:∀ i,i < ys.length→∃ cs',cs'.length=t.sz∧(∀ x,ys[i]? = some x→t.K w S x cs')∧∃ ad,A=some ad∧∀ j u,cs'[j]? = some u→w.cell? (ad.add (i * t.sz + j))=some u:=fun i hi=>by
  obtain ⟨ad,h1,_,_,cs',h2,h3,h4⟩:=hx i _ (List.getElem?_eq_getElem hi)
  refine ⟨cs',h2,fun x hx=>?_,ad,h1,h4⟩
  rw [List.getElem?_eq_getElem hi] at hx
  cases hx
  exact h3
 by_cases h0:ys.length=0
 ·have hy:ys=[]:=List.eq_nil_of_length_eq_zero h0
  subst hy
  refine ⟨[],?_,⟨by simp,fun i x hx=>by simp at hx⟩⟩
  cases A with
  | none=>exact Src.ofNil w hT c
  | some ad=>exact Src.ofSlice w hT ad 0 c [] (by simp) (fun j u hu=>by simp at hu) (fun u hu=>by cases hu)
 ·obtain ⟨_,_,_,ad,hA,_⟩:=hcs 0 (by omega)
  subst hA
  have build:∀ k,k≤ys.length→∃ news:List Value,news.length=k * t.sz∧(∀ i x,i < k→ys[i]? = some x→t.K w S x ((news.drop (i * t.sz)).take t.sz))∧∀ j u,news[j]? = some u→w.cell? (ad.add j)=some u:=by
   intro k
   induction k with
   | zero=>intro _; exact ⟨[],by simp,fun i x hi=>by omega,fun j u hu=>by simp at hu⟩
   | succ k ih=>
    intro hk
    obtain ⟨news,h1,h2,h3⟩:=ih (by omega)
    obtain ⟨cs',k1,k2,ad',k3,k4⟩:=hcs k (by omega)
    cases k3
    refine ⟨news++cs',by rw [Fg,h1,k1,Nat.succ_mul],fun i x hi hx=>?_,fun j u hu=>?_⟩
    ·by_cases hik:i < k
     ·have hle:(i + 1) * t.sz≤news.length:=by rw [h1]; exact Nat.mul_le_mul_right _ hik
      have hle2:i * t.sz + t.sz≤news.length:=by rw [← Nat.succ_mul]; exact hle
      rw [List.drop_append_of_le_length (by omega),List.take_append_of_le_length (by simp; omega)]
      exact h2 i x hik hx
     ·have:i=k:=by omega
      subst this
      rw [← h1,List.drop_left,← k1,List.take_length]
      exact k2 x hx
    ·by_cases hj:j < news.length
     ·rw [List.getElem?_append_left hj] at hu
      exact h3 j u hu
     ·rw [List.getElem?_append_right (by omega)] at hu
      have:=k4 _ u hu
      rw [h1] at this hj
      have e:k * t.sz + (j - k * t.sz)=j:=by omega
      rw [e] at this
      exact this
  obtain ⟨news,h1,h2,h3⟩:=build ys.length (Nat.le_refl _)
  have hrep:Iv w S t ys news:=⟨h1,fun i x hx=>h2 i x (List.getElem?_eq_some_iff.1 hx).1 hx⟩
  exact ⟨news,Src.ofSlice w hT ad ys.length c news h1 h3 hrep.one,hrep⟩
theorem A1k (h:B5 n B Iq s g a w) {T e':TypeId} (hT:P.underlying T=some (.slice e')) {t:Ty} {l:Lf} {u:Value} {ys:List t.D} (e:Vi s t l=some ys) (hl:Dp s g w l u):
  ∃ news,Src P t.sz T u (List.length ys) news w∧Iv w (Ev s g) t ys news:=by
 unfold Vi at e
 split at e
 ·cases e
  cases hl
  exact ⟨[],Src.ofNil w hT 0,by simp,fun i x hx=>by simp at hx⟩
 ·split at e<;>cases e
  rename_i t' xs ht
  subst ht
  exact A66 hT hl
 ·rename_i id
  split at e
  ·rename_i e' t' xs hr
   split at e<;>cases e
   rename_i ht
   subst ht
   have r:=h.res id
   rw [hr] at r
   obtain ⟨cs,h1,h2,h3⟩:=r
   simp only [Dp,hr] at hl
   rw [hl]
   refine ⟨cs,?_,h2⟩
   rcases h1.2 with ⟨hv,hn⟩ | ⟨b,cap,cur,hv,_⟩
   ·have hx:xs=[]:=List.eq_nil_of_length_eq_zero hn
    subst hx
    have hc:cs=[]:=List.eq_nil_of_length_eq_zero (by simpa using h2.1)
    subst hc
    rw [hv]
    exact Src.ofNil w hT 0
   ·have hc:=h1.cells (g:=b) (by rw [hv]; rfl)
    rw [hv]
    exact Src.ofSlice w hT _ _ cap cs h2.1 hc h2.one
  ·rename_i t' xs hr
   split at e<;>cases e
   rename_i ht
   subst ht
   have r:=h.res id
   rw [hr] at r
   simp only [Dp,hr] at hl
   rw [hl]
   exact A66 hT r.1
  ·cases e
 ·cases e
theorem Af0 {T:TypeId} {el:El} (e:Afy P T=some el):P.underlying T=some (.slice el.e)∧0 < el.t.sz∧el.z.length=el.t.sz∧0 < el.bytes∧
  (∃ i z,P.info? el.e=some i∧i.zero=some z∧i.size=el.t.sz∧i.bytes=el.bytes∧z.cells.size=el.t.sz)∧Za P el.e=some el.z:=by
 unfold Afy at e
 split at e
 ·rename_i e0 hU
  split at e
  ·rename_i t i z h1 h2 h3
   split at e
   ·rename_i q1
    split at e
    ·rename_i q2
     split at e
     ·rename_i q3
      split at e<;>cases e
      rename_i q4
      obtain ⟨zv,_,hL,i',hi',hz'⟩:=N4 h3 ⟨fun _=>.dead,fun _=>.unborn⟩ ⟨fun _=>none,fun _=>undef,fun _=>False⟩ (default:World)
      obtain rfl:i=i':=Option.some.inj (h2.symm.trans hi')
      have:=hL.length
      rw [Array.length_toList] at this
      exact ⟨hU,q2,q3,q4.1,⟨i,zv,h2,hz',q1,rfl,by rw [this,q3]⟩,h3⟩
     ·cases e
    ·cases e
   ·cases e
  ·cases e
 ·cases e
theorem Amv {T:TypeId} {el:El} (e:Afy P T=some el):mkT el.t=false:=by
 unfold Afy at e
 split at e
 ·split at e
  ·split at e
   ·split at e
    ·split at e
     ·split at e<;>cases e
      rename_i q4
      exact q4.2
     ·cases e
    ·cases e
   ·cases e
  ·cases e
 ·cases e
theorem Af1 {t:Ty} {e:TypeId} {sz k:Nat} {v:Value} {cs:List Value} (h:N3 w t 0 e sz v k cs):∀ b,v.ownBlock=some b→b < w.heap.size:=by
 intro b hb
 rcases h.2 with ⟨rfl,_⟩ | ⟨b',cap,cur,rfl,_,hh,_⟩
 ·cases hb
 ·cases hb
  exact (Array.getElem?_eq_some_iff.1 hh).1
theorem Abm {t:Ty} {e:TypeId} {sz k:Nat} {v:Value} {cs:List Value} (h:N3 w t 0 e sz v k cs):v.oneCell'=true:=by
 rcases h.2 with ⟨rfl,_⟩ | ⟨b',cap,cur,rfl,_⟩<;>rfl
theorem Avt (h:B5 n B Iq s g a w) {nid:Nat} {T ty:TypeId} {x y:Operand} {l:Lf} {s':St} (e:Afz P s nid T x y=some (l,s')):
  ∃ u w' g',(Builtin.append_ #[T,T] ty #[a.eval x,a.eval y]).run P w=.ok u w'∧Go B Iq s g w s' g' w'∧B5 n B Iq s' g' a w'∧Dp s' g' w' l u∧u.oneCell'=true:=by
 unfold Afz at e
 split at e
 ·rename_i el lx ly hf hel hx hy
  obtain ⟨⟨o,xs⟩,e1,e⟩:=A6 e
  obtain ⟨ys,e2,e⟩:=A6 e
  rcases Decidable.em ((xs.length + List.length ys) * el.bytes≤140737488355328) with hb | hb
  rotate_left
  ·simp only [if_neg hb] at e
   cases e
  simp only [if_pos hb] at e
  cases e
  obtain ⟨hU,hsz,_,hby,⟨i,z,hi,hz,hi1,hi2,hzs⟩,_⟩:=Af0 hel
  obtain ⟨hlx,_⟩:=C8 h hx
  obtain ⟨hly,_⟩:=C8 h hy
  obtain ⟨cs,k1,k2,k3,k4⟩:=Azs h e1 hlx
  obtain ⟨news,k5,k6⟩:=A1k h hU e2 hly
  rw [← hi1] at k1 k5
  have hlen:xs.length + List.length ys≤140737488355328:=Nat.le_trans (Nat.le_mul_of_pos_right _ hby) hb
  obtain ⟨v',w',q1,q2,q3,q4⟩:=At1 w T T ty el.e i z hU hi hz (by rw [hzs,hi1]) ((P1 (Amv hel)).1 k1) k5 (by simp only [maxLen]; omega) (by rw [hi2]; exact hb)
  rw [hi1,← Fg] at q2
  have q2:=(P1 (Amv hel)).2 q2
  obtain ⟨m1,m2,m3,m4⟩:=h.grow hf (v:=a.eval x) (v':=v') k3 k4 q3 q4 (Af1 q2) (e:=el.e) (t:=el.t) (zs:=xs++ys) q2 (fun hS=>(k2.keep hS).append (k6.keep hS))
  refine ⟨v',w',_,q1,⟨m4,m1,m2,rfl⟩,m3,?_,Abm q2⟩
  simp only [Dp,Ao]
  simp [Gh.mv]
 ·cases e
theorem Iv.bytes {S:Nat→Prop} (q:Ab):Iv w S (.int .u8) (Ad q) (byteCells q):=by
 have hl:(byteCells q).length=(Ad q).length:=by simp [byteCells,Ad]
 refine ⟨by rw [hl]; exact (Nat.mul_one _).symm,fun i x hx=>?_⟩
 show ((byteCells q).drop (i * 1)).take 1=[.int .u8 x]
 rw [Nat.mul_one]
 have hx':(Ad q)[i]? = some x:=hx
 have hi:(byteCells q)[i]? = some (.int .u8 x):=by
  unfold byteCells
  unfold Ad at hx'
  rw [List.getElem?_map] at hx' ⊢
  cases hq:q.data.toList[i]? with
  | none=>rw [hq] at hx'; cases hx'
  | some b=>
   rw [hq] at hx'
   cases hx'
   rfl
 have hlt:=(List.getElem?_eq_some_iff.1 hi)
 rw [List.drop_eq_getElem_cons hlt.1,hlt.2]
 rfl
theorem Ano (h:B5 n B Iq s g a w) {nid:Nat} {T U ty:TypeId} {x y:Operand} {l:Lf} {s':St} (e:Vj P s nid T U x y=some (l,s')):
  ∃ u w' g',(Builtin.append_ #[T,U] ty #[a.eval x,a.eval y]).run P w=.ok u w'∧Go B Iq s g w s' g' w'∧B5 n B Iq s' g' a w'∧Dp s' g' w' l u∧u.oneCell'=true:=by
 unfold Vj at e
 split at e
 ·rename_i el lx q hf hT hU hx hy
  split at e
  ·rename_i i z hi hz
   split at e
   ·rename_i i1
    split at e
    ·rename_i i2
     split at e
     ·obtain ⟨⟨o,xs⟩,e1,e⟩:=A6 e
      rcases Decidable.em (xs.length + q.size≤140737488355328) with hb | hb
      rotate_left
      ·simp only [if_neg hb] at e
       cases e
      simp only [if_pos hb] at e
      cases e
      obtain ⟨hlx,_⟩:=C8 h hx
      obtain ⟨cs,k1,k2,k3,k4⟩:=Azs h e1 hlx
      obtain ⟨zv,_,hL,i',hi',hz'⟩:=N4 hz s g w
      obtain rfl:i=i':=Option.some.inj (hi.symm.trans hi')
      have hzs:=hL.length
      rw [Array.length_toList] at hzs
      have hsrc:Src P 1 U (.string q) q.size (byteCells q) w:=Src.ofString w hU q
      have hs1:(Ty.int IntKind.u8).sz=i.size:=i1.symm
      simp only at k1 k2
      rw [hs1] at k1
      rw [← i1] at hsrc
      obtain ⟨v',w',q1,q2,q3,q4⟩:=At1 w T U ty el i zv hT hi hz' (by rw [hzs,i1]; rfl) k1 hsrc (by simp only [maxLen]; omega) (by rw [i2,Nat.mul_one]; exact hb)
      have hlen:List.length xs + q.size=((show List Int from xs)++Ad q).length:=by
       rw [Fg]
       congr 1
       simp [Ad]
      have hlen2:xs.length + q.size=List.length (α:=(Ty.int IntKind.u8).D) ((show List Int from xs)++Ad q):=hlen
      rw [hlen2,← hs1] at q2
      have q2:=(P1 (t:=.int .u8) rfl).2 q2
      obtain ⟨m1,m2,m3,m4⟩:=h.grow hf (v:=a.eval x) (v':=v') k3 k4 q3 q4 (Af1 q2) (e:=el) (t:=.int .u8) (zs:=((show List Int from xs)++Ad q)) q2 (fun hS=>(k2.keep hS).append (Iv.bytes q))
      refine ⟨v',w',_,?_,⟨m4,m1,m2,rfl⟩,m3,?_,Abm q2⟩
      ·rw [(C7 h hy).1]; exact q1
      ·simp only [Dp,Ao]
       simp [Gh.mv]
     ·cases e
    ·cases e
   ·cases e
  ·cases e
 ·cases e
end
end
section
section
variable {P:Program} {n B:Nat} {Iq:List Nat} {s:St} {g:Gh} {a:Act} {w:World}
theorem B5.newRow (h:B5 n B Iq s g a w) {nid:Nat} (hf:s.res nid=.unborn) {e:TypeId} {t:Ty} (hmk:mkT t=false) {xs:List t.D} {arr:Array Value} (hlen:xs.length≤maxLen) (hsz:arr.size=xs.length * t.sz) (hrep:Iv w (Ev s g) t xs arr.toList):
  B5 n B Iq (s.setRes nid (.row e t xs)) (g.new nid w.heap.size (.slice (some ⟨w.heap.size,0,none⟩) xs.length xs.length)) a (w.alloc (.cells arr e))∧
  (∀ b,Ev s g b→b < w.heap.size→Ev (s.setRes nid (.row e t xs)) (g.new nid w.heap.size (.slice (some ⟨w.heap.size,0,none⟩) xs.length xs.length)) b∧(w.alloc (.cells arr e)).heap[b]? = w.heap[b]?)∧
  Dp (s.setRes nid (.row e t xs)) (g.new nid w.heap.size (.slice (some ⟨w.heap.size,0,none⟩) xs.length xs.length)) (w.alloc (.cells arr e)) (.row nid) (.slice (some ⟨w.heap.size,0,none⟩) xs.length xs.length):=by
 have hS:=Abl h hf (.row e t xs) (.slice (some ⟨w.heap.size,0,none⟩) xs.length xs.length) (.cells arr e)
 refine ⟨h.alloc hf _ _ _ ⟨arr.toList,?_,hrep.keep hS,?_⟩,hS,?_⟩
 ·simp only [Gh.new,A2]
  exact (P1 hmk).2 (World.ownsRow_lit w arr xs.length (Nat.zero_le _) hlen hsz)
 ·simp only [Gh.new,A2,Value.ownBlock]
 ·simp only [Dp,Ao,Gh.new,A2]
theorem Hl.ofGet:∀ {ls:List Lf} {cs:List Value},ls.length=cs.length→(∀ (j:Nat) (l:Lf) (v:Value),ls[j]? = some l→cs[j]? = some v→Dp s g w l v∧v.oneCell'=true)→Hl s g w ls cs
 | [],[],_,_=>trivial
 | [],_::_,h,_=>by simp at h
 | _::_,[],h,_=>by simp at h
 | l::ls,v::cs,h,k=>⟨k 0 l v rfl rfl,Hl.ofGet (by simpa using h) (fun j l' v' h1 h2=>k (j + 1) l' v' (by simpa using h1) (by simpa using h2))⟩
theorem Ze (z:List Lf) (k:Nat):(o6 z k).length=k * z.length:=by
 induction k with
 | zero=>simp [o6]
 | succ k ih=>simp [o6,ih,Nat.succ_mul]; omega
theorem A1l (z:List Lf) (hz:0 < z.length):∀ (k j:Nat),j < k * z.length→(o6 z k)[j]? = z[j % z.length]? := by
 intro k
 induction k with
 | zero=>intro j hj; omega
 | succ k ih=>
  intro j hj
  simp only [o6]
  by_cases h:j < z.length
  ·rw [List.getElem?_append_left h,Nat.mod_eq_of_lt h]
  ·rw [List.getElem?_append_right (by omega),ih (j - z.length) (by rw [Nat.succ_mul] at hj; omega)]
   congr 1
   exact (Nat.mod_eq_sub_mod (by omega)).symm
theorem A67 {z:List Lf} {cs:Array Value} (hL:Hl s g w z cs.toList) (hz:0 < z.length) (k:Nat):Hl s g w (o6 z k) (madeCells cs (k * z.length)).toList:=by
 have hl:=hL.length
 rw [Array.length_toList] at hl
 refine Hl.ofGet (by rw [Ze]; simp [size_madeCells]) (fun j l v h1 h2=>?_)
 have hj:j < k * z.length:=by
  have:=(List.getElem?_eq_some_iff.1 h1).1
  rwa [Ze] at this
 rw [A1l z hz k j hj] at h1
 obtain ⟨u,k1,k2⟩:=hL.get h1
 have:v=u:=by
  have hm:j % z.length < cs.size:=by rw [hl]; exact Nat.mod_lt _ hz
  rw [Array.getElem?_toList] at h2 k1
  unfold madeCells at h2
  rw [Array.getElem?_map] at h2
  have hr:(Array.range (k * z.length))[j]? = some j:=by simp [hj]
  rw [hr] at h2
  simp only [Option.map_some,Option.some.injEq] at h2
  rw [hl,getElem!_pos cs _ hm] at h2
  rw [Array.getElem?_eq_getElem hm] at k1
  rw [← h2]
  exact Option.some.inj k1
 rw [this]
 exact k2
theorem Anp (hr:∀ id,Mc s g w id (s.res id)) {t:Ty}:∀ {k:Nat} {ls:List Lf} {xs:List t.D} {cs:List Value},Afx s t k ls=some xs→Hl s g w ls cs→xs.length=k∧Iv w (Ev s g) t xs cs
 | 0,[],xs,cs,e,hL=>by
  cases e
  cases cs with
  | nil=>exact ⟨rfl,by simp,fun i x hx=>by simp at hx⟩
  | cons _ _=>exact hL.elim
 | 0,_::_,xs,cs,e,hL=>by cases e
 | k + 1,ls,xs,cs,e,hL=>by
  simp only [Afx] at e
  obtain ⟨p,h1,e⟩:=A6 e
  obtain ⟨r,h2,e⟩:=A6 e
  cases e
  obtain ⟨k1,k2⟩:=St.parse_K hr (x:=p.1) (r:=p.2) h1 hL
  have hL2:Hl s g w p.2 (cs.drop t.sz):=by rw [k1]; exact hL.drop _
  obtain ⟨m1,m2,m3⟩:=Anp hr h2 hL2
  have hlen:=Ty.K_len k2
  rw [List.length_take] at hlen
  refine ⟨by simp [m1],?_,fun i x hx=>?_⟩
  ·rw [List.length_drop] at m2
   simp only [List.length_cons,Nat.succ_mul]
   omega
  ·cases i with
   | zero=>
    simp at hx
    subst hx
    simpa using k2
   | succ i=>
    have:=m3 i x (by simpa using hx)
    rw [List.drop_drop] at this
    rw [Nat.succ_mul,Nat.add_comm]
    exact this
theorem Hl.all {vs:List (Nat×Vl)}:True:=trivial
theorem Ali (h:B5 n B Iq s g a w) {nid:Nat} {T:TypeId} {len:Nat} {parts:Array (Nat×Operand)} {l:Lf} {s':St} (e:Zb P s nid T len parts=some (l,s')):
  ∃ u w' g',(Instr.buildSlice T len (parts.map fun (i,x)=>(i,a.eval x))).run P w=.ok u w'∧Go B Iq s g w s' g' w'∧B5 n B Iq s' g' a w'∧Dp s' g' w' l u∧u.oneCell'=true:=by
 unfold Zb at e
 split at e
 ·rename_i el vs hf hel hvs
  split at e
  ·rename_i hsmall
   obtain ⟨ls,e1,e⟩:=A6 e
   split at e
   ·rename_i hf2
    obtain ⟨xs,e2,e⟩:=A6 e
    cases e
    obtain ⟨hU,hsz,hzl,hby,⟨i,z,hi,hz,hi1,hi2,hzs⟩,hzL⟩:=Af0 hel
    have hV:=Aec h hvs
    obtain ⟨zv,_,hL0,i',hi',hz'⟩:=N4 hzL s g w
    obtain rfl:i=i':=Option.some.inj (hi.symm.trans hi')
    obtain rfl:z=zv:=Option.some.inj (hz.symm.trans hz')
    have hL1:=A67 hL0 (by omega) len
    rw [hzl] at hL1
    obtain ⟨cs',f1,f2⟩:=At0 e1 hV hL1
    obtain ⟨g1,hR1,go1,tr⟩:=Fl (ls:=Avr vs) h
    have hL2:=Hl.imp tr f2
    obtain ⟨p1,p2⟩:=Anp hR1.res e2 hL2
    have hmap:(parts.map fun (i,x)=>(i,a.eval x)).toList=parts.toList.map fun p=>(p.1,a.eval p.2):=by rw [Array.toList_map]
    have hcs:cs'.size=xs.length * el.t.sz:=by
     have:=p2.1
     rwa [Array.length_toList] at this
    obtain ⟨q1,q2,q3⟩:=hR1.newRow hf2 (Amv hel) (e:=el.e) (arr:=cs') (by simp only [maxLen]; rw [p1]; have:len≤len * el.t.sz:=Nat.le_mul_of_pos_right _ hsz; omega) hcs p2
    have hrun:(Instr.buildSlice T len (parts.map fun (i,x)=>(i,a.eval x))).run P w=.ok (.slice (some ⟨w.heap.size,0,none⟩) len len) (w.alloc (.cells cs' el.e)):=by
     by_cases h0:len * i.size=0
     ·have hl0:len=0:=by
       rcases Nat.mul_eq_zero.1 h0 with q | q
       ·exact q
       ·omega
      have hm0:madeCells z.cells (len * el.t.sz)=#[]:=by rw [hl0]; simp [madeCells]
      rw [hm0] at f1
      rw [hi1] at h0
      simp [Instr.buildSlice,run_underlying hU,sizeOf,typeInfo,hi,hi1,hl0,hmap,newRow,Array.range_zero']
      rw [f1]
      rfl
     ·refine run_buildSlice w T el.e len _ cs' i z hU hi hz (by rw [hi1]; omega) h0 ?_
      rw [hmap,hi1]
      exact f1
    rw [← p1] at hrun ⊢
    exact ⟨_,_,_,hrun,go1.trans (Go.alloc hR1 hf2 _ _ _),q1,q3,rfl⟩
   ·cases e
  ·cases e
 ·cases e
theorem Iv.replicate {S:Nat→Prop} {t:Ty} {x0:t.D} {cs:List Value} (hK:t.K w S x0 cs) (k:Nat) {ds:List Value} (hl:ds.length=k * t.sz) (hd:∀ j,j < k * t.sz→ds[j]? = cs[j % t.sz]?):Iv w S t (List.replicate k x0) ds:=by
 refine ⟨by simpa using hl,fun i x hx=>?_⟩
 have hi:i < k:=by have:=(List.getElem?_eq_some_iff.1 hx).1; simpa using this
 have hx0:x=x0:=by
  rw [List.getElem?_replicate,if_pos hi] at hx
  exact (Option.some.inj hx).symm
 subst hx0
 have hcl:=Ty.K_len hK
 have hle:i * t.sz + t.sz≤k * t.sz:=by rw [← Nat.succ_mul]; exact Nat.mul_le_mul_right _ hi
 have:(ds.drop (i * t.sz)).take t.sz=cs:=by
  apply List.ext_getElem?
  intro j
  by_cases hj:j < t.sz
  ·rw [List.getElem?_take,if_pos hj,List.getElem?_drop,hd _ (by omega)]
   congr 1
   rw [Nat.mul_comm,Nat.mul_add_mod,Nat.mod_eq_of_lt hj]
  ·rw [List.getElem?_take,if_neg hj,List.getElem?_eq_none (by omega)]
 rw [this]
 exact hK
theorem Anq (h:B5 n B Iq s g a w) {nid:Nat} {T:TypeId} {x y:Operand} {l:Lf} {s':St} (e:Vh P s nid T x y=some (l,s')):
  ∃ u w' g',(Instr.makeSlice T (a.eval x) (a.eval y)).run P w=.ok u w'∧Go B Iq s g w s' g' w'∧B5 n B Iq s' g' a w'∧Dp s' g' w' l u∧u.oneCell'=true:=by
 unfold Vh at e
 split at e
 ·rename_i el kx k ky c hf hel hx hy
  split at e
  ·rename_i hkc
   subst hkc
   split at e
   ·rename_i h0
    split at e
    ·rename_i hb
     split at e
     ·rename_i x0 hp
      cases e
      obtain ⟨hU,hsz,hzl,hby,⟨i,z,hi,hz,hi1,hi2,hzs⟩,hzL⟩:=Af0 hel
      obtain ⟨zv,_,hL0,i',hi',hz'⟩:=N4 hzL s g w
      obtain rfl:i=i':=Option.some.inj (hi.symm.trans hi')
      obtain rfl:z=zv:=Option.some.inj (hz.symm.trans hz')
      obtain ⟨_,hK⟩:=St.parse_K h.res hp hL0
      have hzl2:z.cells.toList.length=el.t.sz:=by rw [Array.length_toList]; exact hzs
      rw [List.take_of_length_le (by omega)] at hK
      obtain ⟨m,rfl⟩:=Int.eq_ofNat_of_zero_le h0
      rw [Jh] at hb ⊢
      have hm:m≤140737488355328:=Nat.le_trans (Nat.le_mul_of_pos_right _ hby) hb
      have hrun:=run_make (P:=P) w T el.e i z hU hi hz kx ky m m (by omega) (Int.le_refl _) (by rw [hi2,Int.mul_comm]; omega) (by omega)
      simp only [Jh] at hrun
      rw [hi1] at hrun
      have hrep:Iv w (Ev s g) el.t (List.replicate m x0) (madeCells z.cells (m * el.t.sz)).toList:=by
       refine Iv.replicate hK m (by rw [Array.length_toList,size_madeCells]) (fun j hj=>?_)
       have hmod:j % el.t.sz < z.cells.size:=by rw [hzs]; exact Nat.mod_lt _ hsz
       unfold madeCells
       rw [Array.getElem?_toList,Array.getElem?_map]
       have hr:(Array.range (m * el.t.sz))[j]? = some j:=by simp [hj]
       rw [hr]
       simp only [Option.map_some]
       rw [hzs,getElem!_pos z.cells _ hmod,Array.getElem?_toList,Array.getElem?_eq_getElem hmod]
      obtain ⟨q1,q2,q3⟩:=h.newRow hf (Amv hel) (e:=el.e) (xs:=List.replicate m x0) (arr:=madeCells z.cells (m * el.t.sz)) (by simp only [maxLen,List.length_replicate]; omega) (by rw [size_madeCells,List.length_replicate]) hrep
      simp only [List.length_replicate] at q1 q3
      refine ⟨_,_,_,?_,by have:=Go.alloc h hf (.row el.e el.t (List.replicate m x0)) (.slice (some ⟨w.heap.size,0,none⟩) m m) (.cells (madeCells z.cells (m * el.t.sz)) el.e); exact this,q1,q3,rfl⟩
      rw [(C7 h hx).1,(C7 h hy).1]
      exact hrun
     ·cases e
    ·cases e
   ·cases e
  ·cases e
 ·cases e
theorem A7w {S:Nat→Prop} {t:Ty} {xs:List t.D} {A:Option Addr} {len cap lo hi:Nat} (hK:(Ty.sl t).K w S xs [.slice A len cap]) (h1:lo≤hi) (h2:hi≤List.length xs):
  (Ty.sl t).K w S (List.drop lo (List.take hi xs)) [.slice (if cap=lo then A else A.map (·.add (lo * t.sz))) (hi - lo) (cap - lo)]:=by
 obtain ⟨A',c',hu,hle,hx⟩:=hK
 cases hu
 have hl:List.length (List.drop lo (List.take hi xs))=hi - lo:=by rw [List.length_drop,List.length_take]; omega
 refine ⟨_,cap - lo,by rw [hl],by rw [hl]; omega,fun i x hix=>?_⟩
 have hix':(List.drop lo (List.take hi xs))[i]? = some x:=hix
 rw [List.getElem?_drop,List.getElem?_take] at hix'
 split at hix'
 ·rename_i hi2
  obtain ⟨ad,hA,hs,hlt,cs',k1,k2,k3⟩:=hx (lo + i) x hix'
  subst hA
  rw [if_neg (by omega)]
  refine ⟨_,rfl,by rw [Xd]; exact hs,by rw [Xd]; exact hlt,cs',k1,k2,fun j u hu=>?_⟩
  have:=k3 j u hu
  rw [Amr]
  have e:lo * t.sz + (i * t.sz + j)=(lo + i) * t.sz + j:=by rw [Nat.add_mul]; omega
  rw [e]
  exact this
 ·cases hix'
theorem Ayb (h:B5 n B Iq s g a w) {T:TypeId} {x:Operand} {lo hi:Option Operand} {l:Lf} {s':St} (e:Amu P s T x lo hi=some (l,s')):
  ∃ u g',(Instr.sliceAt T (a.eval x) (lo.map a.eval) (hi.map a.eval) none).run P w=.ok u w∧Go B Iq s g w s' g' w∧B5 n B Iq s' g' a w∧Dp s' g' w l u∧u.oneCell'=true:=by
 unfold Amu at e
 split at e
 ·rename_i el hU
  split at e
  ·rename_i i l0 hi0 hx
   split at e
   ·rename_i t xs hsl
    split at e
    ·rename_i hsz
     split at e
     ·rename_i ka p kb q hlo hhi
      split at e
      ·rename_i h0
       split at e
       ·rename_i h1
        split at e
        ·rename_i h2
         cases e
         obtain ⟨g1,hR1,go1,tr⟩:=Fl (ls:=[l0]) h
         obtain ⟨hl,_⟩:=C8 h hx
         obtain ⟨A,c,hu,hK⟩:=A21 hR1 hsl (tr _ _ hl)
         obtain ⟨p',rfl⟩:=Int.eq_ofNat_of_zero_le h0
         obtain ⟨q',rfl⟩:=Int.eq_ofNat_of_zero_le (Int.le_trans h0 h1)
         rw [Jh,Jh]
         have hel:P.elem T=el:=by simp [Program.elem,hU]
         have hcle:List.length xs≤c:=by
          obtain ⟨_,_,e1,e2,_⟩:=hK
          rw [hu] at e1
          cases e1
          exact e2
         rw [hu] at hK
         have hpart:=A7w hK (lo:=p') (hi:=q') (by omega) (by omega)
         refine ⟨.slice (if c=p' then A else A.map (·.add (p' * t.sz))) (q' - p') (c - p'),g1,?_,go1,hR1,hpart,rfl⟩
         have blo:∀ w,(match lo.map a.eval with | some v=>Instr.sliceBound v q' .sliceB | none=>pure 0:Sem Nat).run P w=.ok p' w:=by
          intro w
          cases lo with
          | none=>
           simp only at hlo
           cases hlo
           rfl
          | some y=>
           simp only at hlo
           simp only [Option.map_some,(C7 h hlo).1]
           simp [Instr.sliceBound,asIntOf,h0,show p'≤q' by omega]
         have bhi:∀ w,(match hi.map a.eval with | some v=>Instr.sliceBound v c .sliceAcap | none=>pure (List.length xs):Sem Nat).run P w=.ok q' w:=by
          intro w
          cases hi with
          | none=>
           simp only [Option.some.injEq,Value.int.injEq] at hhi
           have:List.length xs=q':=by omega
           rw [← this]
           rfl
          | some y=>
           simp only at hhi
           simp only [Option.map_some,(C7 h hhi).1]
           simp [Instr.sliceBound,asIntOf,show q'≤c by omega]
         rw [hu]
         cases hi with
         | none=>
          have b2:=bhi
          simp only [Option.map_none] at b2
          have hq:List.length xs=q':=by
           have:=b2 w
           simp at this
           exact this
          cases lo with
          | none=>
           have b1:=blo w
           simp at b1
           subst b1
           simp [Instr.sliceAt,Instr.slice,run_underlying hU,Instr.sliceBounds,sizeOf,typeInfo,hi0,hsz,hq]
          | some y=>
           have b1:=blo
           simp only [Option.map_some] at b1 ⊢
           simp [Instr.sliceAt,Instr.slice,run_underlying hU,Instr.sliceBounds,sizeOf,typeInfo,hi0,hsz,hq,b1]
         | some y2=>
          have b2:=bhi
          simp only [Option.map_some] at b2 ⊢
          cases lo with
          | none=>
           have b1:=blo w
           simp at b1
           subst b1
           simp [Instr.sliceAt,Instr.slice,run_underlying hU,Instr.sliceBounds,sizeOf,typeInfo,hi0,hsz,b2]
          | some y=>
           have b1:=blo
           simp only [Option.map_some] at b1 ⊢
           simp [Instr.sliceAt,Instr.slice,run_underlying hU,Instr.sliceBounds,sizeOf,typeInfo,hi0,hsz,b2,b1]
        ·cases e
       ·cases e
      ·cases e
     ·cases e
    ·cases e
   ·cases e
  ·cases e
 ·cases e
end
end
section
section
variable {P:Program} {n B:Nat} {Iq:List Nat} {s:St} {g:Gh} {a:Act} {w:World}
theorem Af2 {t:Ty} (ht:t.sz=1) {T e':TypeId} (hT:P.underlying T=some (.slice e')) (h:B5 n B Iq s g a w) {l:Lf} {u:Value} {ys:List t.D} (e:Vi s t l=some ys) (hl:Dp s g w l u):
  ∃ A c,u=.slice A (List.length ys) c∧((A=none∧ys=[])∨∃ ad,A=some ad∧∀ (j:Nat) (y:t.D),nth ys j=some y→∃ v,t.K w (Ev s g) y [v]∧w.cell? (ad.add j)=some v):=by
 have viaK:(Ty.sl t).K w (Ev s g) ys [u]→∃ A c,u=.slice A (List.length ys) c∧((A=none∧ys=[])∨∃ ad,A=some ad∧∀ (j:Nat) (y:t.D),nth ys j=some y→∃ v,t.K w (Ev s g) y [v]∧w.cell? (ad.add j)=some v):=by
  rintro ⟨A,c,hu,hle,hx⟩
  cases hu
  refine ⟨A,c,rfl,?_⟩
  cases A with
  | none=>
   left
   refine ⟨rfl,?_⟩
   cases hy:ys with
   | nil=>rfl
   | cons y r=>
    obtain ⟨ad,q,_⟩:=hx 0 y (by rw [hy]; rfl)
    cases q
  | some ad=>
   right
   refine ⟨ad,rfl,fun j y hj=>?_⟩
   obtain ⟨ad',q,_,_,cs',k1,k2,k3⟩:=hx j y hj
   cases q
   rw [ht] at k1
   match cs',k1 with
   | [v],_=>exact ⟨v,k2,by have:=k3 0 v rfl; rw [ht] at this; simpa using this⟩
 unfold Vi at e
 split at e
 ·cases e
  cases hl
  exact ⟨none,0,rfl,.inl ⟨rfl,rfl⟩⟩
 ·split at e<;>cases e
  rename_i t' xs hq
  subst hq
  exact viaK hl
 ·rename_i id
  split at e
  ·rename_i e' t' xs hr
   split at e<;>cases e
   rename_i hq
   subst hq
   have r:=h.res id
   rw [hr] at r
   obtain ⟨cs,h1,h2,h3⟩:=r
   simp only [Dp,hr] at hl
   have hS:(Ty.sl t').K w (fun _=>True) xs [u]:=by
    rw [hl]
    refine Ann h1 ⟨h2.1,fun i x hx=>Ty.K_keep (fun b hb _=>⟨trivial,rfl⟩) (h2.2 i x hx)⟩ (fun _ _=>trivial) (Af1 h1)
   obtain ⟨A,c,hu,hle,hx⟩:=hS
   cases hu
   refine ⟨A,c,rfl,?_⟩
   cases A with
   | none=>
    left
    refine ⟨rfl,?_⟩
    cases hy:xs with
    | nil=>rfl
    | cons y r=>
     obtain ⟨ad,q,_⟩:=hx 0 y (by rw [hy]; rfl)
     cases q
   | some ad=>
    right
    refine ⟨ad,rfl,fun j y hj=>?_⟩
    obtain ⟨ad',q,_,_,cs',k1,k2,k3⟩:=hx j y hj
    cases q
    have hK:=h2.2 j y hj
    rw [ht] at k1
    match cs',k1 with
    | [v],_=>
     have hc:=k3 0 v rfl
     rw [ht] at hc
     rcases h1.2 with ⟨hv,hn⟩ | ⟨b,cap,cur,hv,_⟩
     ·rw [← hl] at hv; cases hv
     ·rw [← hl] at hv
      cases hv
      have hlt:j < xs.length:=(List.getElem?_eq_some_iff.1 hj).1
      have hcl:=h2.1
      rw [ht,Nat.mul_one] at hcl
      have hcj:cs[j]? = some cs[j]:=List.getElem?_eq_getElem (by omega)
      have hcell:=h1.cells (g:=b) (by rw [← hl]; rfl) j _ hcj
      rw [ht,Nat.mul_one,List.drop_eq_getElem_cons (by omega:j < cs.length)] at hK
      simp only [Nat.mul_one,Nat.add_zero] at hc
      rw [hcell] at hc
      refine ⟨v,?_,hcell.trans hc⟩
      have hvv:cs[j]=v:=Option.some.inj hc
      simpa [hvv] using hK
  ·rename_i t' xs hr
   split at e<;>cases e
   rename_i hq
   subst hq
   have r:=h.res id
   rw [hr] at r
   simp only [Dp,hr] at hl
   rw [hl]
   rw [hl] at viaK
   exact viaK r.1
  ·cases e
 ·cases e
theorem Akj:∀ (ns:List Int) (q:Ab),(ns.foldl (fun r k=>r.push (UInt8.ofNat k.toNat)) q).data.toList=q.data.toList++ns.map fun k=>UInt8.ofNat k.toNat
 | [],q=>by simp
 | k::ns,q=>by
  simp only [List.foldl_cons]
  rw [Akj ns]
  simp [ByteArray.push]
theorem Anr (ns:List Int):ns.foldl (fun r k=>r.push (UInt8.ofNat k.toNat)) ByteArray.empty=strOfNums ns:=by
 refine WideShapes.bytes_inj ?_
 rw [Akj]
 rfl
theorem Asc {src dst el:TypeId} (hU:P.underlying src=some (.slice el)) (hE:P.underlying el=some (.int .u8)) (hD:P.underlying dst=some .string) (c:Nat):
  (convert src dst (.slice none 0 c)).run P w=.ok (.string (strOfNums [])) w:=by
 simp [convert,run_underlying hU,run_underlying hD,run_underlying hE,Conv.bytesToString,strOfNums,ByteArray.empty,ByteArray.emptyWithCapacity]
 rfl
theorem Asd {src dst el:TypeId} (hU:P.underlying src=some (.slice el)) (hE:P.underlying el=some (.int .u8)) (hD:P.underlying dst=some .string) {ad:Addr} {c:Nat} (xs:List Int) (hc:∀ (j:Nat) (y:Int),xs[j]? = some y→w.cell? (ad.add j)=some (.int .u8 y)):
  (convert src dst (.slice (some ad) xs.length c)).run P w=.ok (.string (strOfNums xs)) w:=by
 have hld:=run_loadCells_list (P:=P) (w:=w) ad (xs.map (Value.int .u8)) (fun j v hv=>by
  rw [List.getElem?_map] at hv
  cases hq:xs[j]? with
  | none=>rw [hq] at hv; cases hv
  | some y=>
   rw [hq] at hv
   cases hv
   exact hc j y hq)
 rw [List.length_map] at hld
 have hb:=run_bytesToString (P:=P) w ad xs.length c xs hld
 rw [Anr] at hb
 simp only [convert,Sem.run_bind,run_underlying hU,run_underlying hD,run_underlying hE,Result.andThen_ok]
 exact hb
theorem A25 (xs:List (Int×Unit)):xs.length=(Ax6 xs).length:=by simp [Ax6]
theorem A26 {xs:List (Int×Unit)} {j:Nat} {y:Int} (h:(Ax6 xs)[j]? = some y):∃ y0,xs[j]? = some y0∧y0.1=y:=by
 unfold Ax6 at h
 rw [List.getElem?_map] at h
 cases hq:xs[j]? with
 | none=>rw [hq] at h; cases h
 | some y0=>rw [hq] at h; cases h; exact ⟨y0,rfl,rfl⟩
theorem Aq0 (h:B5 n B Iq s g a w) {src dst:TypeId} {x:Operand} {v:Value} (e:Aeb P s src dst x=some v):(convert src dst (a.eval x)).run P w=.ok v w∧v.oneCell'=true:=by
 unfold Aeb at e
 split at e
 ·rename_i el hU hD
  split at e
  ·rename_i xs hE hx
   cases e
   obtain ⟨l,e1,e2⟩:=A6 hx
   obtain ⟨hl,_⟩:=C8 h e1
   obtain ⟨A,c,hu,hc⟩:=Af2 (t:=.int .u8) rfl hU h e2 hl
   refine ⟨?_,rfl⟩
   rw [hu]
   rcases hc with ⟨rfl,rfl⟩ | ⟨ad,rfl,hc⟩
   ·exact Asc hU hE hD c
   ·refine Asd hU hE hD (show List Int from xs) (fun j y hj=>?_)
    obtain ⟨v',k1,k2⟩:=hc j y hj
    have:[v']=[Value.int .u8 y]:=k1
    cases this
    exact k2
  ·rename_i hE _
   split at e
   ·rename_i xs hx
    cases e
    obtain ⟨l,e1,e2⟩:=A6 hx
    obtain ⟨hl,_⟩:=C8 h e1
    obtain ⟨A,c,hu,hc⟩:=Af2 (t:=tMk) rfl hU h e2 hl
    refine ⟨?_,rfl⟩
    rw [hu]
    rcases hc with ⟨rfl,rfl⟩ | ⟨ad,rfl,hc⟩
    ·exact Asc hU hE hD c
    ·have hlen:List.length xs=(Ax6 xs).length:=A25 xs
     rw [hlen]
     refine Asd hU hE hD (Ax6 xs) (fun j y hj=>?_)
     obtain ⟨y0,hq,rfl⟩:=A26 hj
     obtain ⟨v',k1,k2⟩:=hc j y0 hq
     obtain ⟨c1,c2,k3,k4,k5⟩:=k1
     have k4:c1=[Value.int .u8 y0.1]:=k4
     have k5:c2=[]:=k5
     subst k4 k5
     cases k3
     exact k2
   ·cases e
  ·cases e
 ·cases e
theorem S1 {α:Type} (cs us:List α) (p k:Nat) (h:p + us.length≤cs.length):(cs.take p++us++cs.drop (p + us.length))[k]? = if k < p then cs[k]? else if k < p + us.length then us[k - p]? else cs[k]? := by
 have hp:(cs.take p).length=p:=by rw [List.length_take]; omega
 by_cases k1:k < p
 ·rw [if_pos k1,List.append_assoc,List.getElem?_append_left (by omega),List.getElem?_take,if_pos k1]
 ·rw [if_neg k1]
  by_cases k2:k < p + us.length
  ·rw [if_pos k2,List.append_assoc,List.getElem?_append_right (by omega),List.getElem?_append_left (by omega),hp]
  ·have hpu:(cs.take p++us).length=p + us.length:=by rw [Fg,hp]
   rw [if_neg k2,List.getElem?_append_right (by omega),List.getElem?_drop,hpu]
   congr 1
   omega
theorem W0 {α:Type} (cs us:List α) (p:Nat) (h:p + us.length≤cs.length):(cs.take p++us++cs.drop (p + us.length)).length=cs.length:=by
 rw [Fg,Fg,List.length_take,List.length_drop]
 omega
theorem Avu {α:Type} (cur us:List α) (p m:Nat) (h:p + us.length≤m) (hm:m≤cur.length):(cur.take p++us++cur.drop (p + us.length)).take m=(cur.take m).take p++us++(cur.take m).drop (p + us.length):=by
 apply List.ext_getElem?
 intro k
 rw [List.getElem?_take,S1 cur us p k (by omega),S1 (cur.take m) us p k (by rw [List.length_take]; omega),List.getElem?_take]
 by_cases k1:k < m
 ·rw [if_pos k1,if_pos k1]
 ·rw [if_neg k1,if_neg k1,if_neg (by omega),if_neg (by omega)]
theorem Ayc {α:Type} (cs us:List α) (q off m:Nat) (h:off + us.length≤m) (hm:q + m≤cs.length):((cs.take (q + off)++us++cs.drop (q + off + us.length)).drop q).take m=(((cs.drop q).take m).take off++us++((cs.drop q).take m).drop (off + us.length)).take m:=by
 have hl:((cs.drop q).take m).length=m:=by rw [List.length_take,List.length_drop]; omega
 apply List.ext_getElem?
 intro k
 rw [List.getElem?_take,List.getElem?_take]
 by_cases k1:k < m
 ·rw [if_pos k1,if_pos k1,List.getElem?_drop,S1 cs us (q + off) (q + k) (by omega),S1 _ us off k (by omega),List.getElem?_take,if_pos k1,List.getElem?_drop]
  by_cases k2:k < off
  ·rw [if_pos (by omega),if_pos k2]
  ·rw [if_neg (by omega),if_neg k2]
   by_cases k3:k < off + us.length
   ·rw [if_pos (by omega),if_pos k3]
    congr 1
    omega
   ·rw [if_neg (by omega),if_neg k3]
 ·rw [if_neg k1,if_neg k1]
theorem At2 {α:Type} (cs us:List α) (p q m:Nat) (h:p + us.length≤cs.length) (ha:q + m≤p∨p + us.length≤q):((cs.take p++us++cs.drop (p + us.length)).drop q).take m=(cs.drop q).take m:=by
 apply List.ext_getElem?
 intro k
 rw [List.getElem?_take,List.getElem?_take]
 by_cases k1:k < m
 ·rw [if_pos k1,if_pos k1,List.getElem?_drop,List.getElem?_drop,S1 cs us p (q + k) h]
  rcases ha with ha | ha
  ·rw [if_pos (by omega)]
  ·rw [if_neg (by omega),if_neg (by omega)]
 ·rw [if_neg k1,if_neg k1]
theorem A7x {t:Ty} {n k:Nat} (h:n=k):(Ax4 t k).1 < (Ax4 t k).2→n≤(Ax4 t k).1:=by
 subst h
 unfold Ax4
 cases mkT t with
 | true=>exact fun _=>Nat.le_refl _
 | false=>exact fun q=>absurd q (Nat.lt_irrefl 0)
theorem S2 (g o:Nat) (t:TypeId) (fz:Nat×Nat):∀ (vs:List Value) (i:Nat) (cur:Array Value) (w:World),w.heap[g]? = some (.cells cur t fz)→(fz.1 < fz.2→cur.size≤fz.1)→o + i + vs.length≤cur.size→(∀ v∈vs,v.oneCell'=true)→
  (storeCells ⟨g,o,none⟩ vs i).run P w=.ok () (w.setRow g (cur.toList.take (o + i)++vs++cur.toList.drop (o + i + vs.length)).toArray)
 | [],i,cur,w,hg,_,_,_=>by
  simp only [storeCells,List.append_nil,List.length_nil,Nat.add_zero,List.take_append_drop,Array.toArray_toList]
  rw [setRow_self w g cur t fz hg]
  rfl
 | v::rest,i,cur,w,hg,hfz,hl,h1=>by
  have hi:o + i < cur.size:=by simp at hl; omega
  have hadd:(⟨g,o,none⟩:Addr).add i=⟨g,o + i,none⟩:=by unfold Addr.add; split<;>simp_all
  have hcell:w.cell? ⟨g,o + i,none⟩=some cur[o + i]:=by simp [World.cell?,hg,hi]
  have hfro:w.frozen? ⟨g,o + i,none⟩=false:=by
   obtain ⟨lo,hi'⟩:=fz
   simp only [World.frozen?,hg,Bool.and_eq_false_iff,decide_eq_false_iff_not]
   simp only at hfz
   omega
  have hst:(store ((⟨g,o,none⟩:Addr).add i) v).run P w=.ok () (w.setRow g (cur.setIfInBounds (o + i) v)):=by
   rw [hadd,run_store P w _ v _ (h1 v (by simp)),hcell]
   simp [hfro,setCell_eq_setRow w g (o + i) cur t fz v hg]
  have ih:=S2 g o t fz rest (i + 1) (cur.setIfInBounds (o + i) v) (w.setRow g (cur.setIfInBounds (o + i) v)) (setRow_heap w g cur _ t _ hg) (by simpa using hfz) (by simp at hl ⊢; omega) (fun x hx=>h1 x (by simp [hx]))
  simp only [storeCells,Sem.run_bind,hst,Result.andThen_ok,ih,setRow_setRow]
  congr 3
  have e:=list_seg_step cur.toList (o + i) v rest (by simp at hl ⊢; omega)
  simpa [Array.toList_setIfInBounds,Nat.add_assoc] using e
theorem Zf {T:TypeId} {i:TypeInfo} (hi:P.info? T=some i) {b off:Nat} {t:TypeId} {cur:Array Value} {fz:Nat×Nat} (hg:w.heap[b]? = some (.cells cur t fz)) (hfz:fz.1 < fz.2→cur.size≤fz.1) {v:Value} (hsz:v.cells.toList.length=i.size) (hle:off + v.cells.toList.length≤cur.size) (h1:∀ u∈v.cells.toList,u.oneCell'=true):
  (Instr.storeAt T (.pointer (some ⟨b,off,none⟩)) v).run P w=.ok () (w.setRow b (cur.toList.take off++v.cells.toList++cur.toList.drop (off + v.cells.toList.length)).toArray):=by
 have hst:=S2 (P:=P) b off t fz v.cells.toList 0 cur w hg hfz (by omega) h1
 simp only [Nat.add_zero] at hst
 have hsz':v.cells.size=i.size:=by simpa using hsz
 simp [Instr.storeAt,Instr.sureAddr,storeVar,sizeOf,typeInfo,hi,hsz',hst]
theorem Ayd (h:B5 n B Iq s g a w) {T:TypeId} {x y:Operand} {s':St} (e:Amt P s T x y=some s'):
  ∃ w' g',(Instr.storeAt T (a.eval x) (a.eval y)).run P w=.ok () w'∧Go B Iq s g w s' g' w'∧B5 n B Iq s' g' a w':=by
 unfold Amt at e
 obtain ⟨l,e1,e⟩:=A6 e
 obtain ⟨v,e2,e⟩:=A6 e
 obtain ⟨hl,_⟩:=C8 h e1
 have hv:=Zc h e2
 have hV:=hv.cells
 have hVl:=hV.length
 split at e
 ·cases e
 ·rename_i i hi
  split at e
  ·rename_i hsz
   split at e
   ·rename_i id off _
    split at e
    ·rename_i T0 ls hr
     split at e
     ·rename_i hle
      cases e
      have r:=h.res id
      rw [hr] at r
      obtain ⟨b,cs,hb,hh,hL⟩:=r
      simp only [Dp,hr] at hl
      obtain ⟨b',hb',hu⟩:=hl
      obtain rfl:b=b':=Option.some.inj (hb.symm.trans hb')
      have hLl:=hL.length
      rw [Array.length_toList] at hLl
      have hrun:=Zf (P:=P) (T:=T) hi hh (fun q=>absurd q (Nat.lt_irrefl 0)) (v:=a.eval y) (off:=off) (by rw [hVl,hsz]) (by omega) hV.one
      rw [← hu] at hrun
      have hne:∀ k,k≠b→(w.setRow b (cs.toList.take off++(a.eval y).cells.toList++cs.toList.drop (off + (a.eval y).cells.toList.length)).toArray).heap[k]? = w.heap[k]? := fun k hk=>setRow_other w b k _ hk
      have hlive:(s.res id).live=true:=by rw [hr]; rfl
      have hS:∀ c,Ev s g c→c < w.heap.size→Ev (s.setRes id (.box T0 (ls.take off++v.ls++ls.drop (off + v.ls.length)))) g c∧(w.setRow b (cs.toList.take off++(a.eval y).cells.toList++cs.toList.drop (off + (a.eval y).cells.toList.length)).toArray).heap[c]? = w.heap[c]? := by
       intro c hc _
       refine ⟨⟨hc.1,fun j hj=>?_⟩,hne c (fun q=>hc.2 id hlive (by rw [q]; exact hb))⟩
       by_cases q:j=id
       ·rw [q]; exact hc.2 id hlive
       ·rw [Ap s _ q] at hj; exact hc.2 j hj
      have hI:∀ j,Ay s g (s.setRes id (.box T0 (ls.take off++v.ls++ls.drop (off + v.ls.length)))) g j:=by
       intro j
       by_cases q:j=id
       ·subst q
        unfold Ay
        rw [hr,Ao]
        exact .inr ⟨_,_,rfl,rfl⟩
       ·exact Ay.same (Ap s _ q) rfl rfl
      refine ⟨_,g,hrun,⟨⟨rfl,rfl,rfl,by simp,fun k hk hn=>hne k (fun q=>?_)⟩,hS,hI,rfl⟩,h.step h.size h.defers (by simp) hS hI (fun i=>.inl ⟨rfl,rfl⟩) (fun j=>?_) h.inj (fun j c hj=>?_) rfl⟩
      ·subst q
       rcases (h.lt id k hb).2.1 with q2 | q2
       ·exact hn q2
       ·omega
      ·by_cases q:j=id
       ·subst q
        right
        rw [Ao]
        refine ⟨b,_,hb,setRow_heap w b cs _ T0 _ hh,?_⟩
        simp only
        exact (hL.splice (off:=off) hV).step hS hI
       ·left
        exact ⟨Ap s _ q,rfl,rfl,fun c hc=>hne c (fun q2=>q (h.inj j id c hc (by rw [q2]; exact hb)))⟩
      ·have:=h.lt j c hj
       simpa using this
     ·cases e
    ·cases e
   ·rename_i id ix off _
    split at e
    ·rename_i e0 t xs hr
     split at e
     ·rename_i hix
      simp only at e
      split at e
      ·rename_i hle
       split at e
       ·rename_i x' hp
        cases e
        obtain ⟨g1,hR,go1,tr⟩:=Fl (ls:=v.ls) h
        have r:=hR.res id
        rw [hr] at r
        obtain ⟨cs,⟨hcl,hown⟩,hrep,hblk⟩:=r
        have hl1:=tr _ _ hl
        simp only [Dp,hr] at hl1
        obtain ⟨_,b,hb,hu⟩:=hl1
        have hV1:=Hl.imp tr hV
        have hx:nth xs ix=some (xs.getD ix t.zero):=by simp [nth,List.getElem?_eq_getElem hix]
        have hK:=hrep.2 ix _ hx
        have hLk:=Ty.K_leafs hK
        have hLkl:=hLk.length
        have hseg:((cs.drop (ix * t.sz)).take t.sz).length=t.sz:=Ty.K_len hK
        have hfit:ix * t.sz + t.sz≤xs.length * t.sz:=by rw [← Nat.succ_mul]; exact Nat.mul_le_mul_right _ hix
        obtain ⟨_,hK'⟩:=St.parse_K hR.res hp (hLk.splice (off:=off) hV1)
        rcases hown with ⟨hv0,hn0⟩ | ⟨b',cap,cur,hv0,_,hh,hcap,hcm,hcsz,hct⟩
        ·omega
        ·have hbb:b=b':=by
          rw [hblk,hv0] at hb
          exact (Option.some.inj hb).symm
         subst hbb
         have hcap2:xs.length * t.sz≤cap * t.sz:=Nat.mul_le_mul_right _ hcap
         have hoff:off + v.ls.length≤t.sz:=by omega
         have hrun:=Zf (P:=P) (T:=T) hi hh (A7x hcsz) (v:=a.eval y) (off:=ix * t.sz + off) (by rw [hVl,hsz]) (by omega) hV.one
         rw [← hu] at hrun
         have hsp:(cur.toList.take (ix * t.sz + off)++(a.eval y).cells.toList++cur.toList.drop (ix * t.sz + off + (a.eval y).cells.toList.length)).take (xs.length * t.sz)=cs.take (ix * t.sz + off)++(a.eval y).cells.toList++cs.drop (ix * t.sz + off + (a.eval y).cells.toList.length):=by
          rw [← hct]
          exact Avu cur.toList _ (ix * t.sz + off) (xs.length * t.sz) (by omega) (by rw [show cur.toList.length=cur.size from Array.length_toList ..]; omega)
         have hne:∀ k,k≠b→(w.setRow b (cur.toList.take (ix * t.sz + off)++(a.eval y).cells.toList++cur.toList.drop (ix * t.sz + off + (a.eval y).cells.toList.length)).toArray).heap[k]? = w.heap[k]? := fun k hk=>setRow_other w b k _ hk
         have hlive:((s.frz v.ls).res id).live=true:=by rw [hr]; rfl
         have hS:∀ c,Ev (s.frz v.ls) g1 c→c < w.heap.size→Ev ((s.frz v.ls).setRes id (.row e0 t (List.set xs ix x'))) g1 c∧(w.setRow b (cur.toList.take (ix * t.sz + off)++(a.eval y).cells.toList++cur.toList.drop (ix * t.sz + off + (a.eval y).cells.toList.length)).toArray).heap[c]? = w.heap[c]? := by
          intro c hc _
          refine ⟨⟨hc.1,fun j hj=>?_⟩,hne c (fun q=>hc.2 id hlive (by rw [q]; exact hb))⟩
          by_cases q:j=id
          ·rw [q]; exact hc.2 id hlive
          ·rw [Ap _ _ q] at hj; exact hc.2 j hj
         have hI:∀ j,Ay (s.frz v.ls) g1 ((s.frz v.ls).setRes id (.row e0 t (List.set xs ix x'))) g1 j:=by
          intro j
          by_cases q:j=id
          ·subst q
           unfold Ay
           rw [hr,Ao]
           exact .inr (.inl ⟨e0,_,rfl,by simp,rfl,rfl⟩)
          ·exact Ay.same (Ap _ _ q) rfl rfl
         refine ⟨_,g1,hrun,go1.trans ⟨⟨rfl,rfl,rfl,by simp,fun k hk hn=>hne k (fun q=>?_)⟩,hS,hI,rfl⟩,hR.step hR.size hR.defers (by simp) hS hI (fun i=>.inl ⟨rfl,rfl⟩) (fun j=>?_) hR.inj (fun j c hj=>?_) rfl⟩
         ·subst q
          rcases (hR.lt id k hb).2.1 with q2 | q2
          ·exact hn q2
          ·omega
         ·by_cases q:j=id
          ·subst q
           right
           rw [Ao]
           have hset:(List.set xs ix x').length=xs.length:=List.length_set ..
           refine ⟨cs.take (ix * t.sz + off)++(a.eval y).cells.toList++cs.drop (ix * t.sz + off + (a.eval y).cells.toList.length),⟨?_,.inr ⟨b,cap,_,?_,Nat.zero_le _,setRow_heap w b cur _ e0 _ hh,by rw [hset]; exact hcap,hcm,?_,?_⟩⟩,⟨?_,?_⟩,hblk⟩
           ·rw [hset,W0 _ _ _ (by omega)]; exact hcl
           ·rw [hset]; exact hv0
           ·rw [List.size_toArray,W0 _ _ _ (by rw [show cur.toList.length=cur.size from Array.length_toList ..]; omega)]
            exact (show cur.toList.length=cur.size from Array.length_toList ..).trans hcsz
           ·rw [hset]; exact hsp
           ·rw [hset,W0 _ _ _ (by omega)]; exact hcl
           ·intro i2 x2 hx2
            refine Ty.K_keep hS ?_
            by_cases q:ix=i2
            ·subst q
             rw [List.getElem?_set_self hix] at hx2
             cases hx2
             have:=Ayc cs (a.eval y).cells.toList (ix * t.sz) off t.sz (by omega) (by omega)
             rw [this]
             exact hK'
            ·rw [List.getElem?_set_ne q] at hx2
             have hk2:=hrep.2 i2 x2 hx2
             have hi2:i2 < xs.length:=(List.getElem?_eq_some_iff.1 hx2).1
             have hfit2:i2 * t.sz + t.sz≤xs.length * t.sz:=by rw [← Nat.succ_mul]; exact Nat.mul_le_mul_right _ hi2
             have hapart:i2 * t.sz + t.sz≤ix * t.sz∨ix * t.sz + t.sz≤i2 * t.sz:=by
              rcases Nat.lt_or_gt_of_ne q with q | q
              ·right; rw [← Nat.succ_mul]; exact Nat.mul_le_mul_right _ q
              ·left; rw [← Nat.succ_mul]; exact Nat.mul_le_mul_right _ q
             have:=At2 cs (a.eval y).cells.toList (ix * t.sz + off) (i2 * t.sz) t.sz (by omega) (by omega)
             rw [this]
             exact hk2
          ·left
           exact ⟨Ap _ _ q,rfl,rfl,fun c hc=>hne c (fun q2=>q (hR.inj j id c hc (by rw [q2]; exact hb)))⟩
         ·have:=hR.lt j c hj
          simpa using this
       ·cases e
      ·cases e
     ·cases e
    ·cases e
   ·cases e
  ·cases e
end
end
inductive Md where
 | rd (t:Ty)
 | own (e:TypeId) (t:Ty)
 | bx (T:TypeId) (t:Ty)
 | mu (e:TypeId) (t:Ty)
def Md.D:Md→Type
 | .rd t=>t.D
 | .own _ t=>List t.D
 | .bx _ t=>t.D
 | .mu _ t=>List t.D
def Vk:List Md→Type
 | []=>Unit
 | m::ms=>m.D×Vk ms
def BxD:List Md→Type
 | []=>Unit
 | .rd _::ms=>BxD ms
 | .own _ _::ms=>BxD ms
 | .bx _ t::ms=>t.D×BxD ms
 | .mu _ t::ms=>List t.D×BxD ms
def A5n (w:World) (S:Nat→Prop) (e:TypeId) (t:Ty) (xs:List t.D) (u:Value):Prop:=∃ cs,N3 w t 0 e t.sz u xs.length cs∧Iv w S t xs cs
def A8w (w:World) (S:Nat→Prop) (T:TypeId) (t:Ty) (x:t.D) (b:Nat):Prop:=∃ cs,w.heap[b]? = some (.cells cs T (0,0))∧t.K w S x cs.toList
def HR (w:World) (S:Nat→Prop):(ms:List Md)→Vk ms→List Value→Prop
 | [],_,us=>us=[]
 | .rd t::ms,x,us=>∃ c1 c2,us=c1++c2∧t.K w S x.1 c1∧HR w S ms x.2 c2
 | .own e t::ms,x,us=>∃ u c2,us=u::c2∧A5n w S e t x.1 u∧HR w S ms x.2 c2
 | .bx T t::ms,x,us=>∃ b c2,us=.pointer (some ⟨b,0,none⟩)::c2∧A8w w S T t x.1 b∧HR w S ms x.2 c2
 | .mu e t::ms,x,us=>∃ u c2,us=u::c2∧A5n w S e t x.1 u∧HR w S ms x.2 c2
def Qx:Value→Option Nat
 | .pointer (some a)=>some a.block
 | _=>none
def Fh:List Md→List Value→List Nat
 | [],_=>[]
 | .rd t::ms,us=>Fh ms (us.drop t.sz)
 | .own _ _::ms,us=>((us.head?).bind Value.ownBlock).toList++Fh ms us.tail
 | .bx _ _::ms,us=>((us.head?).bind Qx).toList++Fh ms us.tail
 | .mu _ _::ms,us=>((us.head?).bind Value.ownBlock).toList++Fh ms us.tail
def Zg:List Md→List Value→List Nat
 | [],_=>[]
 | .rd t::ms,us=>Zg ms (us.drop t.sz)
 | .own _ _::ms,us=>Zg ms us.tail
 | .bx _ _::ms,us=>((us.head?).bind Qx).toList++Zg ms us.tail
 | .mu _ _::ms,us=>((us.head?).bind Value.ownBlock).toList++Zg ms us.tail
def BkR (w:World) (S:Nat→Prop):(ms:List Md)→BxD ms→List Value→Prop
 | [],_,_=>True
 | .rd t::ms,y,us=>BkR w S ms y (us.drop t.sz)
 | .own _ _::ms,y,us=>BkR w S ms y us.tail
 | .bx T t::ms,y,us=>(∃ b,us.head? = some (.pointer (some ⟨b,0,none⟩))∧A8w w S T t y.1 b)∧BkR w S ms y.2 us.tail
 | .mu e t::ms,y,us=>(∃ u,us.head? = some u∧A5n w S e t y.1 u)∧BkR w S ms y.2 us.tail
def ShR:List (Option Nat)→List Value→List Value→Prop
 | [],us,cs=>us=[]∧cs=[]
 | none::sh,us,cs=>∃ u us' cs',us=u::us'∧cs=u::cs'∧u.oneCell'=true∧ShR sh us' cs'
 | some k::sh,us,cs=>∃ c1 us' cs',us=.agg c1::us'∧cs=c1.toList++cs'∧c1.size=k∧ShR sh us' cs'
structure Ji where
 ps:List Md
 psh:List (Option Nat)
 rs:List Md
 rsh:List (Option Nat)
def At3:List Value→Value
 | [v]=>v
 | vs=>.tuple vs.toArray
def A68 (w:World) (S:Nat→Prop) (bs:List Nat):Prop:=bs.Nodup∧∀ b∈bs,b < w.heap.size∧¬ S b
def Akk (w:World) (S:Nat→Prop) (bs gone:List Nat):Nat→Prop:=fun b=>(S b∨b∈bs∨w.heap.size≤b)∧b ∉ gone
def Akl (P:Program) (f:FuncId) (sg:Ji) (den:Vk sg.ps→Option (Vk sg.rs×BxD sg.ps)):Prop:=
 ∀ x r,den x=some r→∀ (w:World) (S:Nat→Prop) (us args:List Value),HR w S sg.ps x us→ShR sg.psh args us→A68 w S (Fh sg.ps us)→
  Calls P f args.toArray w fun e w'=>∃ vs us',e=.returned (At3 vs)∧ShR sg.rsh vs us'∧Ob (Fh sg.ps us) w w'∧
   HR w' (Akk w S (Fh sg.ps us) (Fh sg.rs us'++Zg sg.ps us)) sg.rs r.1 us'∧
   BkR w' (Akk w S (Fh sg.ps us) (Fh sg.rs us'++Zg sg.ps us)) sg.ps r.2 us∧
   (Fh sg.rs us'++Zg sg.ps us).Nodup∧∀ b∈Fh sg.rs us',b < w'.heap.size∧(b∈Fh sg.ps us∨w.heap.size≤b)
def Lo:List Md→Nat
 | []=>0
 | .rd _::ms=>Lo ms
 | .own _ _::ms=>Lo ms + 1
 | .bx _ _::ms=>Lo ms + 1
 | .mu _ _::ms=>Lo ms + 1
def At4:(ms:List Md)→Vk ms→Nat→List Lf
 | [],_,_=>[]
 | .rd t::ms,x,id=>t.leafs x.1++At4 ms x.2 id
 | .own _ _::ms,x,id=>.row id::At4 ms x.2 (id + 1)
 | .bx _ _::ms,x,id=>.ptr id 0::At4 ms x.2 (id + 1)
 | .mu _ _::ms,x,id=>.row id::At4 ms x.2 (id + 1)
def Mz:(ms:List Md)→Vk ms→Nat→(Nat→Qp)→Nat→Qp
 | [],_,_,res=>res
 | .rd _::ms,x,id,res=>Mz ms x.2 id res
 | .own e t::ms,x,id,res=>Mz ms x.2 (id + 1) (Vf res id (.row e t x.1))
 | .bx T t::ms,x,id,res=>Mz ms x.2 (id + 1) (Vf res id (.box T (t.leafs x.1)))
 | .mu e t::ms,x,id,res=>Mz ms x.2 (id + 1) (Vf res id (.row e t x.1))
def Kh:List Md→List Value→Nat→Gh→Gh
 | [],_,_,g=>g
 | .rd t::ms,us,id,g=>Kh ms (us.drop t.sz) id g
 | .own _ _::ms,us,id,g=>Kh ms us.tail (id + 1) ⟨Vf g.blk id ((us.head?).bind Value.ownBlock),Vf g.hdr id (us.headD undef),g.av⟩
 | .bx _ _::ms,us,id,g=>Kh ms us.tail (id + 1) ⟨Vf g.blk id ((us.head?).bind Qx),g.hdr,g.av⟩
 | .mu _ _::ms,us,id,g=>Kh ms us.tail (id + 1) ⟨Vf g.blk id ((us.head?).bind Value.ownBlock),Vf g.hdr id (us.headD undef),g.av⟩
theorem Iw:∀ (ms:List Md) (x:Vk ms) (id:Nat) (res:Nat→Qp) (j:Nat),(j < id∨id + Lo ms≤j)→Mz ms x id res j=res j
 | [],_,_,_,_,_=>rfl
 | .rd _::ms,x,id,res,j,h=>Iw ms x.2 id res j h
 | .own e t::ms,x,id,res,j,h=>by
  simp only [Mz,Lo] at h ⊢
  rw [Iw ms x.2 _ _ j (by omega),Ax _ _ (by omega)]
 | .bx T t::ms,x,id,res,j,h=>by
  simp only [Mz,Lo] at h ⊢
  rw [Iw ms x.2 _ _ j (by omega),Ax _ _ (by omega)]
 | .mu e t::ms,x,id,res,j,h=>by
  simp only [Mz,Lo] at h ⊢
  rw [Iw ms x.2 _ _ j (by omega),Ax _ _ (by omega)]
theorem Cf:∀ (ms:List Md) (us:List Value) (id:Nat) (g:Gh) (j:Nat),(j < id∨id + Lo ms≤j)→(Kh ms us id g).blk j=g.blk j∧(Kh ms us id g).hdr j=g.hdr j
 | [],_,_,_,_,_=>⟨rfl,rfl⟩
 | .rd t::ms,us,id,g,j,h=>Cf ms _ id g j h
 | .own e t::ms,us,id,g,j,h=>by
  simp only [Kh,Lo] at h ⊢
  obtain ⟨h1,h2⟩:=Cf ms us.tail (id + 1) ⟨Vf g.blk id ((us.head?).bind Value.ownBlock),Vf g.hdr id (us.headD undef),g.av⟩ j (by omega)
  rw [h1,h2]
  exact ⟨Ax _ _ (by omega),Ax _ _ (by omega)⟩
 | .bx T t::ms,us,id,g,j,h=>by
  simp only [Kh,Lo] at h ⊢
  obtain ⟨h1,h2⟩:=Cf ms us.tail (id + 1) ⟨Vf g.blk id ((us.head?).bind Qx),g.hdr,g.av⟩ j (by omega)
  rw [h1,h2]
  exact ⟨Ax _ _ (by omega),rfl⟩
 | .mu e t::ms,us,id,g,j,h=>by
  simp only [Kh,Lo] at h ⊢
  obtain ⟨h1,h2⟩:=Cf ms us.tail (id + 1) ⟨Vf g.blk id ((us.head?).bind Value.ownBlock),Vf g.hdr id (us.headD undef),g.av⟩ j (by omega)
  rw [h1,h2]
  exact ⟨Ax _ _ (by omega),Ax _ _ (by omega)⟩
theorem Zh:∀ (ms:List Md) (us:List Value) (id:Nat) (g:Gh),(Kh ms us id g).av=g.av
 | [],_,_,_=>rfl
 | .rd t::ms,us,id,g=>Zh ms _ id g
 | .own _ _::ms,us,id,g=>Zh ms _ _ _
 | .bx _ _::ms,us,id,g=>Zh ms _ _ _
 | .mu _ _::ms,us,id,g=>Zh ms _ _ _
theorem Ea {o:Option Nat} {b:Nat} (h:o=some b):b∈o.toList:=by subst h; simp
theorem Me:∀ (ms:List Md) (us:List Value) (id:Nat) (g:Gh) (j b:Nat),id≤j→j < id + Lo ms→(Kh ms us id g).blk j=some b→b∈Fh ms us
 | [],_,_,_,j,b,h1,h2,_=>by simp [Lo] at h2; omega
 | .rd t::ms,us,id,g,j,b,h1,h2,h=>Me ms _ id g j b h1 h2 h
 | .own e t::ms,us,id,g,j,b,h1,h2,h=>by
  simp only [Kh,Lo,Fh] at h h2 ⊢
  by_cases q:j=id
  ·rw [(Cf ms us.tail (id + 1) _ j (by omega)).1] at h
   subst q
   simp only [A2] at h
   exact List.mem_append_left _ (Ea h)
  ·exact List.mem_append_right _ (Me ms us.tail (id + 1) _ j b (by omega) (by omega) h)
 | .bx T t::ms,us,id,g,j,b,h1,h2,h=>by
  simp only [Kh,Lo,Fh] at h h2 ⊢
  by_cases q:j=id
  ·rw [(Cf ms us.tail (id + 1) _ j (by omega)).1] at h
   subst q
   simp only [A2] at h
   exact List.mem_append_left _ (Ea h)
  ·exact List.mem_append_right _ (Me ms us.tail (id + 1) _ j b (by omega) (by omega) h)
 | .mu e t::ms,us,id,g,j,b,h1,h2,h=>by
  simp only [Kh,Lo,Fh] at h h2 ⊢
  by_cases q:j=id
  ·rw [(Cf ms us.tail (id + 1) _ j (by omega)).1] at h
   subst q
   simp only [A2] at h
   exact List.mem_append_left _ (Ea h)
  ·exact List.mem_append_right _ (Me ms us.tail (id + 1) _ j b (by omega) (by omega) h)
theorem Xg:∀ (ms:List Md) (us:List Value) (id:Nat) (g:Gh) (i j b:Nat),(Fh ms us).Nodup→id≤i→i < id + Lo ms→id≤j→j < id + Lo ms→
  (Kh ms us id g).blk i=some b→(Kh ms us id g).blk j=some b→i=j
 | [],_,_,_,_,_,_,_,h1,h2,_,_,_,_=>by simp [Lo] at h2; omega
 | .rd t::ms,us,id,g,i,j,b,hn,h1,h2,h3,h4,h5,h6=>Xg ms _ id g i j b hn h1 h2 h3 h4 h5 h6
 | .own e t::ms,us,id,g,i,j,b,hn,h1,h2,h3,h4,h5,h6=>by
  simp only [Kh,Lo,Fh] at hn h2 h4 h5 h6
  obtain ⟨n1,n2,n3⟩:=List.nodup_append.1 hn
  by_cases q1:i=id<;>by_cases q2:j=id
  ·omega
  ·exfalso
   rw [(Cf ms us.tail (id + 1) _ i (by omega)).1] at h5
   subst q1
   simp only [A2] at h5
   exact n3 b (Ea h5) b (Me ms us.tail _ _ j b (by omega) (by omega) h6) rfl
  ·exfalso
   rw [(Cf ms us.tail (id + 1) _ j (by omega)).1] at h6
   subst q2
   simp only [A2] at h6
   exact n3 b (Ea h6) b (Me ms us.tail _ _ i b (by omega) (by omega) h5) rfl
  ·exact Xg ms us.tail (id + 1) _ i j b n2 (by omega) (by omega) (by omega) (by omega) h5 h6
 | .bx T t::ms,us,id,g,i,j,b,hn,h1,h2,h3,h4,h5,h6=>by
  simp only [Kh,Lo,Fh] at hn h2 h4 h5 h6
  obtain ⟨n1,n2,n3⟩:=List.nodup_append.1 hn
  by_cases q1:i=id<;>by_cases q2:j=id
  ·omega
  ·exfalso
   rw [(Cf ms us.tail (id + 1) _ i (by omega)).1] at h5
   subst q1
   simp only [A2] at h5
   exact n3 b (Ea h5) b (Me ms us.tail _ _ j b (by omega) (by omega) h6) rfl
  ·exfalso
   rw [(Cf ms us.tail (id + 1) _ j (by omega)).1] at h6
   subst q2
   simp only [A2] at h6
   exact n3 b (Ea h6) b (Me ms us.tail _ _ i b (by omega) (by omega) h5) rfl
  ·exact Xg ms us.tail (id + 1) _ i j b n2 (by omega) (by omega) (by omega) (by omega) h5 h6
 | .mu e t::ms,us,id,g,i,j,b,hn,h1,h2,h3,h4,h5,h6=>by
  simp only [Kh,Lo,Fh] at hn h2 h4 h5 h6
  obtain ⟨n1,n2,n3⟩:=List.nodup_append.1 hn
  by_cases q1:i=id<;>by_cases q2:j=id
  ·omega
  ·exfalso
   rw [(Cf ms us.tail (id + 1) _ i (by omega)).1] at h5
   subst q1
   simp only [A2] at h5
   exact n3 b (Ea h5) b (Me ms us.tail _ _ j b (by omega) (by omega) h6) rfl
  ·exfalso
   rw [(Cf ms us.tail (id + 1) _ j (by omega)).1] at h6
   subst q2
   simp only [A2] at h6
   exact n3 b (Ea h6) b (Me ms us.tail _ _ i b (by omega) (by omega) h5) rfl
  ·exact Xg ms us.tail (id + 1) _ i j b n2 (by omega) (by omega) (by omega) (by omega) h5 h6
theorem Avv {w:World} {t:Ty} {e:TypeId} {sz n:Nat} {u:Value} {cs:List Value} (h:N3 w t 0 e sz u n cs):u.oneCell'=true:=by
 rcases h.2 with ⟨rfl,_⟩ | ⟨_,_,_,rfl,_⟩<;>rfl
theorem Iv.imp {w:World} {S S':Nat→Prop} (hS:∀ b,S b→b < w.heap.size→S' b) {t:Ty} {xs:List t.D} {cs:List Value} (h:Iv w S t xs cs):Iv w S' t xs cs:=
 ⟨h.1,fun i x hx=>Ty.K_keep (fun b hb hl=>⟨hS b hb hl,rfl⟩) (h.2 i x hx)⟩
theorem Ase {s:St} {g:Gh} {w:World} {S:Nat→Prop} (hS:∀ b,S b→b < w.heap.size→Ev s g b):∀ (ms:List Md) (x:Vk ms) (us:List Value) (id:Nat) (res:Nat→Qp) (g0:Gh),
  HR w S ms x us→(∀ j,id≤j→j < id + Lo ms→s.res j=Mz ms x id res j∧g.blk j=(Kh ms us id g0).blk j∧g.hdr j=(Kh ms us id g0).hdr j)→
  Hl s g w (At4 ms x id) us∧∀ j,id≤j→j < id + Lo ms→Mc s g w j (s.res j)∧(s.res j).live=true
 | [],_,us,id,res,g0,h,_=>by
  simp only [HR] at h
  subst h
  exact ⟨trivial,fun j h1 h2=>by simp [Lo] at h2; omega⟩
 | .rd t::ms,x,us,id,res,g0,⟨c1,c2,h1,h2,h3⟩,hag=>by
  subst h1
  have hd:(c1++c2).drop t.sz=c2:=by rw [← Ty.K_len h2]; simp
  obtain ⟨k1,k2⟩:=Ase hS ms x.2 c2 id res g0 h3 (fun j q1 q2=>by have:=hag j q1 q2; simp only [Mz,Kh,hd] at this; exact this)
  exact ⟨Hl.append (Ty.K_leafs (Ty.K_keep (fun b hb hl=>⟨hS b hb hl,rfl⟩) h2)) k1,k2⟩
 | .own e t::ms,x,us,id,res,g0,⟨u,c2,h1,⟨cs,h2,h2'⟩,h3⟩,hag=>by
  subst h1
  obtain ⟨k1,k2⟩:=Ase hS ms x.2 c2 (id + 1) _ _ h3 (fun j q1 q2=>by have:=hag j (by omega) (by simp only [Lo]; omega); simp only [Mz,Kh,List.tail_cons] at this; exact this)
  obtain ⟨a1,a2,a3⟩:=hag id (Nat.le_refl _) (by simp only [Lo]; omega)
  simp only [Mz,Kh,List.tail_cons,List.head?_cons,List.headD_cons] at a1 a2 a3
  rw [Iw ms x.2 (id + 1) _ id (by omega),A2] at a1
  rw [(Cf ms c2 (id + 1) _ id (by omega)).1] at a2
  rw [(Cf ms c2 (id + 1) _ id (by omega)).2] at a3
  simp only [A2] at a2 a3
  have hr:Mc s g w id (s.res id):=by
   rw [a1]
   exact ⟨cs,by rw [a3]; exact h2,h2'.imp hS,by rw [a2,a3]; rfl⟩
  refine ⟨⟨⟨?_,Avv h2⟩,k1⟩,fun j q1 q2=>?_⟩
  ·simp only [Dp,a1]
   exact a3.symm
  ·by_cases q:j=id
   ·subst q
    exact ⟨hr,by rw [a1]; rfl⟩
   ·exact k2 j (by omega) (by simp only [Lo] at q2; omega)
 | .bx T t::ms,x,us,id,res,g0,⟨b,c2,h1,⟨cs,h2,h2'⟩,h3⟩,hag=>by
  subst h1
  obtain ⟨k1,k2⟩:=Ase hS ms x.2 c2 (id + 1) _ _ h3 (fun j q1 q2=>by have:=hag j (by omega) (by simp only [Lo]; omega); simp only [Mz,Kh,List.tail_cons] at this; exact this)
  obtain ⟨a1,a2,a3⟩:=hag id (Nat.le_refl _) (by simp only [Lo]; omega)
  simp only [Mz,Kh,List.tail_cons,List.head?_cons,List.headD_cons] at a1 a2 a3
  rw [Iw ms x.2 (id + 1) _ id (by omega),A2] at a1
  rw [(Cf ms c2 (id + 1) _ id (by omega)).1] at a2
  simp only [A2] at a2
  have a2':g.blk id=some b:=a2
  have hr:Mc s g w id (s.res id):=by
   rw [a1]
   exact ⟨b,cs,a2',h2,Ty.K_leafs (Ty.K_keep (fun b hb hl=>⟨hS b hb hl,rfl⟩) h2')⟩
  refine ⟨⟨⟨?_,rfl⟩,k1⟩,fun j q1 q2=>?_⟩
  ·simp only [Dp,a1]
   exact ⟨b,a2',rfl⟩
  ·by_cases q:j=id
   ·subst q
    exact ⟨hr,by rw [a1]; rfl⟩
   ·exact k2 j (by omega) (by simp only [Lo] at q2; omega)
 | .mu e t::ms,x,us,id,res,g0,⟨u,c2,h1,⟨cs,h2,h2'⟩,h3⟩,hag=>by
  subst h1
  obtain ⟨k1,k2⟩:=Ase hS ms x.2 c2 (id + 1) _ _ h3 (fun j q1 q2=>by have:=hag j (by omega) (by simp only [Lo]; omega); simp only [Mz,Kh,List.tail_cons] at this; exact this)
  obtain ⟨a1,a2,a3⟩:=hag id (Nat.le_refl _) (by simp only [Lo]; omega)
  simp only [Mz,Kh,List.tail_cons,List.head?_cons,List.headD_cons] at a1 a2 a3
  rw [Iw ms x.2 (id + 1) _ id (by omega),A2] at a1
  rw [(Cf ms c2 (id + 1) _ id (by omega)).1] at a2
  rw [(Cf ms c2 (id + 1) _ id (by omega)).2] at a3
  simp only [A2] at a2 a3
  have hr:Mc s g w id (s.res id):=by
   rw [a1]
   exact ⟨cs,by rw [a3]; exact h2,h2'.imp hS,by rw [a2,a3]; rfl⟩
  refine ⟨⟨⟨?_,Avv h2⟩,k1⟩,fun j q1 q2=>?_⟩
  ·simp only [Dp,a1]
   exact a3.symm
  ·by_cases q:j=id
   ·subst q
    exact ⟨hr,by rw [a1]; rfl⟩
   ·exact k2 j (by omega) (by simp only [Lo] at q2; omega)
section
def Pn (s:St):(ms:List Md)→List Lf→Option (Vk ms×List (Option Nat))
 | [],[]=>some ((),[])
 | [],_::_=>none
 | .rd t::ms,ls=>(s.parse t ls).bind fun p=>(Pn s ms p.2).bind fun q=>some ((p.1,q.1),q.2)
 | .own e t::ms,l::ls=>(Xe s ⟨e,t,[],0⟩ l).bind fun p=>(Pn s ms ls).bind fun q=>some ((p.2,q.1),p.1::q.2)
 | .own _ _::_,[]=>none
 | .bx T t::ms,.ptr id off::ls=>match s.res id with
  | .box T' bl=>if T'=T then (if off=0 then (match s.parse t bl with
   | some (x,[])=>(Pn s ms ls).bind fun q=>some ((x,q.1),some id::q.2)
   | _=>none) else none) else none
  | _=>none
 | .bx _ _::_,_=>none
 | .mu e t::ms,l::ls=>(Xe s ⟨e,t,[],0⟩ l).bind fun p=>(Pn s ms ls).bind fun q=>some ((p.2,q.1),p.1::q.2)
 | .mu _ _::_,[]=>none
def Ld (s:St):List Md→List Lf→List Lf
 | [],_=>[]
 | .rd t::ms,ls=>ls.take t.sz++Ld s ms (ls.drop t.sz)
 | .own _ _::ms,ls=>Ld s ms ls.tail
 | .bx _ _::ms,ls=>(match ls.head? with
  | some (.ptr id _)=>match s.res id with
   | .box _ bl=>bl
   | _=>[]
  | _=>[])++Ld s ms ls.tail
 | .mu _ _::ms,ls=>Ld s ms ls.tail
def Ba:List (Option Nat)→List Nat
 | []=>[]
 | some i::r=>i::Ba r
 | none::r=>Ba r
def S3:List Nat→Bool
 | []=>true
 | i::r=>!(r.contains i)&&S3 r
theorem Af3:∀ {l:List Nat},S3 l=true→l.Nodup
 | [],_=>List.nodup_nil
 | i::r,h=>by
  simp only [S3,Bool.and_eq_true,Bool.not_eq_true',List.contains_eq_mem,decide_eq_false_iff_not] at h
  exact List.nodup_cons.2 ⟨h.1,Af3 h.2⟩
def owB (g:Gh):List (Option Nat)→List Nat
 | []=>[]
 | o::r=>(o.bind g.blk).toList++owB g r
theorem Sq {g:Gh}:∀ {ow:List (Option Nat)} {b:Nat},b∈owB g ow↔∃ id,id∈Ba ow∧g.blk id=some b
 | [],b=>by simp [owB,Ba]
 | none::r,b=>by simp [owB,Ba,Sq (ow:=r)]
 | some i::r,b=>by
  simp only [owB,Ba,List.mem_append,Sq (ow:=r),List.mem_cons,Option.bind_some,Option.mem_toList]
  constructor
  ·rintro (h | ⟨id,h1,h2⟩)
   ·exact ⟨i,.inl rfl,h⟩
   ·exact ⟨id,.inr h1,h2⟩
  ·rintro ⟨id,rfl | h1,h2⟩
   ·exact .inl h2
   ·exact .inr ⟨id,h1,h2⟩
theorem Abn {g:Gh} (hi:∀ id id' b,g.blk id=some b→g.blk id'=some b→id=id'):∀ {ow:List (Option Nat)},(Ba ow).Nodup→(owB g ow).Nodup
 | [],_=>by simp [owB]
 | none::r,h=>by simpa [owB] using Abn hi (ow:=r) h
 | some i::r,h=>by
  simp only [Ba,List.nodup_cons] at h
  simp only [owB,Option.bind_some]
  refine List.nodup_append.2 ⟨by cases g.blk i<;>simp,Abn hi h.2,fun b hb c hc=>?_⟩
  rintro rfl
  simp only [Option.mem_toList] at hb
  obtain ⟨id,h1,h2⟩:=Sq.1 hc
  exact h.1 (by rw [hi i id b hb h2]; exact h1)
theorem St.parse_drop {s:St}:∀ {t:Ty} {ls:List Lf} {x:t.D} {r:List Lf},s.parse t ls=some (x,r)→r=ls.drop t.sz:=by
 intro t
 induction t with
 | unit=>intro ls x r h; simp only [St.parse] at h; cases h; rfl
 | pair a b iha ihb=>
  intro ls x r h
  simp only [St.parse] at h
  obtain ⟨p,h1,h2⟩:=A6 h
  obtain ⟨q,h3,h4⟩:=A6 h2
  cases h4
  rw [ihb (x:=q.1) (r:=q.2) h3,iha (x:=p.1) (r:=p.2) h1,List.drop_drop]
  rfl
 | int k=>intro ls x r h; cases ls<;>simp only [St.parse] at h<;>first | (cases h; done) | (obtain ⟨y,h1,h2⟩:=A6 h; cases h2; rfl)
 | bool=>intro ls x r h; cases ls<;>simp only [St.parse] at h<;>first | (cases h; done) | (obtain ⟨y,h1,h2⟩:=A6 h; cases h2; rfl)
 | str=>intro ls x r h; cases ls<;>simp only [St.parse] at h<;>first | (cases h; done) | (obtain ⟨y,h1,h2⟩:=A6 h; cases h2; rfl)
 | sl t _=>intro ls x r h; cases ls<;>simp only [St.parse] at h<;>first | (cases h; done) | (obtain ⟨y,h1,h2⟩:=A6 h; cases h2; rfl)
section
variable {P:Program} {n B:Nat} {Iq:List Nat} {s:St} {g:Gh} {a:Act} {w:World}
theorem Hl.split (k:Nat) {ls:List Lf} {cs:List Value} (h:Hl s g w ls cs):Hl s g w (ls.drop k) (cs.drop k):=h.drop k
theorem Ans (S:Nat→Prop) (t:Ty):Iv w S t ([]:List t.D) []:=⟨by simp,fun i x hx=>by simp at hx⟩
theorem o7 (hres:∀ id,Mc s g w id (s.res id)) {e:TypeId} {t:Ty} {l:Lf} {p:Option Nat×List t.D} {u:Value} (h:Xe s ⟨e,t,[],0⟩ l=some p) (hl:Dp s g w l u):
  A5n w (Ev s g) e t p.2 u∧(u.ownBlock=p.1.bind g.blk)∧∀ id,p.1=some id→(s.res id).live=true:=by
 unfold Xe at h
 split at h
 ·cases h
  cases hl
  exact ⟨⟨[],⟨by simp,.inl ⟨rfl,rfl⟩⟩,Ans _ _⟩,rfl,by intro id h; cases h⟩
 ·rename_i id
  split at h
  ·rename_i e' t' xs hr
   split at h
   ·rename_i he
    split at h<;>cases h
    rename_i ht
    have ht':t'=t:=ht
    subst ht'
    subst he
    have r:=hres id
    rw [hr] at r
    obtain ⟨cs,h1,h2,h3⟩:=r
    simp only [Dp,hr] at hl
    subst hl
    exact ⟨⟨cs,h1,h2⟩,h3.symm,by intro j hj; cases hj; rw [hr]; rfl⟩
   ·cases h
  ·cases h
 ·cases h
theorem Asf {e:TypeId} {t:Ty} {l:Lf} {p:Option Nat×List t.D} (h:Xe s ⟨e,t,[],0⟩ l=some p):∀ id,p.1=some id→∃ e',s.res id=.row e' t p.2∧l=.row id:=by
 intro id hid
 unfold Xe at h
 split at h
 ·cases h; cases hid
 ·rename_i j
  split at h
  ·rename_i e' t' xs hr
   split at h
   ·split at h<;>cases h
    rename_i ht
    have ht':t'=t:=ht
    subst ht'
    cases hid
    exact ⟨e',hr,rfl⟩
   ·cases h
  ·cases h
 ·cases h
theorem A27 {w w':World} {t t':Ty} {e e':TypeId} {sz sz' n n':Nat} {v:Value} {cs cs':List Value} (h:N3 w t 0 e sz v n cs) (h':N3 w' t' 0 e' sz' v n' cs'):n=n':=by
 rcases h.2 with ⟨h1,h2⟩ | ⟨gg,cap,cur,h1,h2⟩<;>rcases h'.2 with ⟨k1,k2⟩ | ⟨gg',cap',cur',k1,k2⟩
 ·rw [h2,k2]
 ·rw [h1] at k1; cases k1
 ·rw [h1] at k1; cases k1
 ·rw [h1] at k1; cases k1; rfl
theorem Asg (hres:∀ id,Mc s g w id (s.res id)):∀ {ms:List Md} {ls:List Lf} {us:List Value} {x:Vk ms} {ow:List (Option Nat)},Pn s ms ls=some (x,ow)→Hl s g w ls us→
  HR w (Ev s g) ms x us∧Fh ms us=owB g ow∧∀ id∈Ba ow,(s.res id).live=true
 | [],[],[],x,ow,h,_=>by
  simp only [Pn] at h
  cases h
  exact ⟨rfl,rfl,by simp [Ba]⟩
 | [],[],_::_,_,_,_,hL=>hL.elim
 | [],_::_,_,_,_,h,_=>by simp [Pn] at h
 | .rd t::ms,ls,us,x,ow,h,hL=>by
  simp only [Pn] at h
  obtain ⟨p,h1,h2⟩:=A6 h
  obtain ⟨q,h3,h4⟩:=A6 h2
  cases h4
  obtain ⟨e1,k1⟩:=St.parse_K hres (x:=p.1) (r:=p.2) h1 hL
  obtain ⟨i1,i2,i3⟩:=Asg (ms:=ms) (us:=us.drop t.sz) hres h3 (by rw [e1]; exact hL.drop _)
  exact ⟨⟨us.take t.sz,us.drop t.sz,(List.take_append_drop _ _).symm,k1,i1⟩,i2,i3⟩
 | .own e t::ms,[],us,x,ow,h,hL=>by simp [Pn] at h
 | .own e t::ms,l::ls,[],x,ow,h,hL=>hL.elim
 | .own e t::ms,l::ls,u::us,x,ow,h,hL=>by
  simp only [Pn] at h
  obtain ⟨p,h1,h2⟩:=A6 h
  obtain ⟨q,h3,h4⟩:=A6 h2
  cases h4
  obtain ⟨k1,k2,k3⟩:=o7 hres h1 hL.1.1
  obtain ⟨i1,i2,i3⟩:=Asg (ms:=ms) hres h3 hL.2
  refine ⟨⟨u,us,rfl,k1,i1⟩,?_,?_⟩
  ·simp only [Fh,owB,List.head?_cons,Option.bind_some,List.tail_cons,k2,i2]
  ·intro id hid
   cases hp:p.1 with
   | none=>rw [hp] at hid; exact i3 id hid
   | some j=>
    rw [hp] at hid
    simp only [Ba,List.mem_cons] at hid
    rcases hid with rfl | hid
    ·exact k3 _ hp
    ·exact i3 id hid
 | .bx T t::ms,[],us,x,ow,h,hL=>by simp [Pn] at h
 | .bx T t::ms,.c _::ls,us,x,ow,h,hL=>by simp [Pn] at h
 | .bx T t::ms,.sl _ _::ls,us,x,ow,h,hL=>by simp [Pn] at h
 | .bx T t::ms,.row _::ls,us,x,ow,h,hL=>by simp [Pn] at h
 | .bx T t::ms,.ep _ _ _ _::ls,us,x,ow,h,hL=>by simp [Pn] at h
 | .bx T t::ms,.rp _ _ _::ls,us,x,ow,h,hL=>by simp [Pn] at h
 | .bx T t::ms,.sp _::ls,us,x,ow,h,hL=>by simp [Pn] at h
 | .bx T t::ms,.ptr id off::ls,[],x,ow,h,hL=>hL.elim
 | .bx T t::ms,.ptr id off::ls,u::us,x,ow,h,hL=>by
  simp only [Pn] at h
  split at h
  ·rename_i T' bl hr
   split at h
   ·rename_i hT
    split at h
    ·rename_i ho
     split at h
     ·rename_i y hp
      obtain ⟨q,h3,h4⟩:=A6 h
      cases h4
      subst hT ho
      obtain ⟨i1,i2,i3⟩:=Asg (ms:=ms) hres h3 hL.2
      have r:=hres id
      rw [hr] at r
      obtain ⟨b,cs,hb,hh,hbl⟩:=r
      have hl:=hL.1.1
      simp only [Dp,hr] at hl
      obtain ⟨b',hb',hu⟩:=hl
      obtain rfl:b=b':=Option.some.inj (hb.symm.trans hb')
      obtain ⟨e1,k1⟩:=St.parse_K hres hp hbl
      have hlen:cs.toList.take t.sz=cs.toList:=by
       apply List.take_of_length_le
       have:bl.length≤t.sz:=List.drop_eq_nil_iff.1 e1.symm
       rw [hbl.length]; exact this
      rw [hlen] at k1
      subst hu
      refine ⟨⟨b,us,rfl,⟨cs,hh,k1⟩,i1⟩,?_,?_⟩
      ·simp only [Fh,owB,List.head?_cons,Option.bind_some,List.tail_cons,Qx,hb,i2]
      ·intro j hj
       simp only [Ba,List.mem_cons] at hj
       rcases hj with rfl | hj
       ·rw [hr]; rfl
       ·exact i3 j hj
     ·cases h
    ·cases h
   ·cases h
  ·cases h
 | .mu e t::ms,[],us,x,ow,h,hL=>by simp [Pn] at h
 | .mu e t::ms,l::ls,[],x,ow,h,hL=>hL.elim
 | .mu e t::ms,l::ls,u::us,x,ow,h,hL=>by
  simp only [Pn] at h
  obtain ⟨p,h1,h2⟩:=A6 h
  obtain ⟨q,h3,h4⟩:=A6 h2
  cases h4
  obtain ⟨k1,k2,k3⟩:=o7 hres h1 hL.1.1
  obtain ⟨i1,i2,i3⟩:=Asg (ms:=ms) hres h3 hL.2
  refine ⟨⟨u,us,rfl,k1,i1⟩,?_,?_⟩
  ·simp only [Fh,owB,List.head?_cons,Option.bind_some,List.tail_cons,k2,i2]
  ·intro id hid
   cases hp:p.1 with
   | none=>rw [hp] at hid; exact i3 id hid
   | some j=>
    rw [hp] at hid
    simp only [Ba,List.mem_cons] at hid
    rcases hid with rfl | hid
    ·exact k3 _ hp
    ·exact i3 id hid
def Mr:(ms:List Md)→BxD ms→List (Option Nat)→(Nat→Qp)→Nat→Qp
 | [],_,_,res=>res
 | .rd _::ms,y,ow,res=>Mr ms y ow res
 | .own _ _::ms,y,ow,res=>Mr ms y ow.tail (match ow.head? with | some (some id)=>Vf res id .dead | _=>res)
 | .bx T t::ms,y,ow,res=>Mr ms y.2 ow.tail (match ow.head? with | some (some id)=>Vf res id (.box T (t.leafs y.1)) | _=>res)
 | .mu e t::ms,y,ow,res=>Mr ms y.2 ow.tail (match ow.head? with | some (some id)=>Vf res id (.row e t y.1) | _=>res)
def S4:List Md→List (Option Nat)→(Nat→Option Nat)→Nat→Option Nat
 | [],_,blk=>blk
 | .rd _::ms,ow,blk=>S4 ms ow blk
 | .own _ _::ms,ow,blk=>S4 ms ow.tail (match ow.head? with | some (some id)=>Vf blk id none | _=>blk)
 | .bx _ _::ms,ow,blk=>S4 ms ow.tail blk
 | .mu _ _::ms,ow,blk=>S4 ms ow.tail blk
theorem Fb:∀ {ms:List Md} {y:BxD ms} {ow:List (Option Nat)} {res:Nat→Qp} {j:Nat},j ∉ Ba ow→Mr ms y ow res j=res j
 | [],_,_,_,_,_=>rfl
 | .rd _::ms,y,ow,res,j,h=>Fb (ms:=ms) h
 | .own _ _::ms,y,[],res,j,h=>Fb (ms:=ms) h
 | .own _ _::ms,y,none::ow,res,j,h=>Fb (ms:=ms) (ow:=ow) h
 | .own _ _::ms,y,some id::ow,res,j,h=>by
  simp only [Ba,List.mem_cons,not_or] at h
  exact (Fb (ms:=ms) (y:=y) (ow:=ow) h.2).trans (Ax _ _ h.1)
 | .bx _ _::ms,y,[],res,j,h=>Fb (ms:=ms) h
 | .bx _ _::ms,y,none::ow,res,j,h=>Fb (ms:=ms) (ow:=ow) h
 | .bx _ _::ms,y,some id::ow,res,j,h=>by
  simp only [Ba,List.mem_cons,not_or] at h
  exact (Fb (ms:=ms) (y:=y.2) (ow:=ow) h.2).trans (Ax _ _ h.1)
 | .mu _ _::ms,y,[],res,j,h=>Fb (ms:=ms) h
 | .mu _ _::ms,y,none::ow,res,j,h=>Fb (ms:=ms) (ow:=ow) h
 | .mu _ _::ms,y,some id::ow,res,j,h=>by
  simp only [Ba,List.mem_cons,not_or] at h
  exact (Fb (ms:=ms) (y:=y.2) (ow:=ow) h.2).trans (Ax _ _ h.1)
theorem Fp:∀ {ms:List Md} {ow:List (Option Nat)} {blk:Nat→Option Nat} {j:Nat},j ∉ Ba ow→S4 ms ow blk j=blk j
 | [],_,_,_,_=>rfl
 | .rd _::ms,ow,blk,j,h=>Fp (ms:=ms) h
 | .own _ _::ms,[],blk,j,h=>Fp (ms:=ms) h
 | .own _ _::ms,none::ow,blk,j,h=>Fp (ms:=ms) (ow:=ow) h
 | .own _ _::ms,some id::ow,blk,j,h=>by
  simp only [Ba,List.mem_cons,not_or] at h
  simp only [S4,List.head?_cons,List.tail_cons]
  rw [Fp (ms:=ms) h.2,Ax _ _ h.1]
 | .bx _ _::ms,[],blk,j,h=>Fp (ms:=ms) h
 | .bx _ _::ms,none::ow,blk,j,h=>Fp (ms:=ms) (ow:=ow) h
 | .bx _ _::ms,some id::ow,blk,j,h=>by
  simp only [Ba,List.mem_cons,not_or] at h
  simp only [S4,List.head?_cons,List.tail_cons]
  exact Fp (ms:=ms) h.2
 | .mu _ _::ms,[],blk,j,h=>Fp (ms:=ms) h
 | .mu _ _::ms,none::ow,blk,j,h=>Fp (ms:=ms) (ow:=ow) h
 | .mu _ _::ms,some id::ow,blk,j,h=>by
  simp only [Ba,List.mem_cons,not_or] at h
  simp only [S4,List.head?_cons,List.tail_cons]
  exact Fp (ms:=ms) h.2
theorem Nl:∀ {ms:List Md} {ow:List (Option Nat)} {blk:Nat→Option Nat} {j b:Nat},S4 ms ow blk j=some b→blk j=some b
 | [],_,_,_,_,h=>h
 | .rd _::ms,ow,blk,j,b,h=>Nl (ms:=ms) h
 | .own _ _::ms,[],blk,j,b,h=>Nl (ms:=ms) h
 | .own _ _::ms,none::ow,blk,j,b,h=>Nl (ms:=ms) (ow:=ow) h
 | .own _ _::ms,some id::ow,blk,j,b,h=>by
  simp only [S4,List.head?_cons,List.tail_cons] at h
  have:=Nl (ms:=ms) h
  by_cases q:j=id
  ·subst q; simp at this
  ·rwa [Ax _ _ q] at this
 | .bx _ _::ms,ow,blk,j,b,h=>Nl (ms:=ms) h
 | .mu _ _::ms,ow,blk,j,b,h=>Nl (ms:=ms) h
inductive S5 (s:St) (g:Gh) (w:World) (us:List Value) (ms:List Md) (s2:St) (g2:Gh) (w':World) (id:Nat):Prop where
 | gone:s2.res id=.dead→g2.blk id=none→S5 s g w us ms s2 g2 w' id
 | box (T:TypeId) (ls:List Lf) (b:Nat):(∃ T' ls',s.res id=.box T' ls')→s2.res id=.box T ls→g2.blk id=g.blk id→g.blk id=some b→b∈Zg ms us→Mc s2 g2 w' id (.box T ls)→S5 s g w us ms s2 g2 w' id
 | row (e:TypeId) (t:Ty) (xs:List t.D):(∃ e',∃ xs':List t.D,s.res id=.row e' t xs'∧xs.length=xs'.length)→s2.res id=.row e t xs→g2.blk id=g.blk id→g2.hdr id=g.hdr id→(∀ b,g.blk id=some b→b∈Zg ms us)→Mc s2 g2 w' id (.row e t xs)→S5 s g w us ms s2 g2 w' id
theorem Aee {s2:St} {g2:Gh} {w':World} (hres:∀ id,Mc s g w id (s.res id)):∀ {ms:List Md} {ls:List Lf} {us:List Value} {x:Vk ms} {y:BxD ms} {ow:List (Option Nat)} {res:Nat→Qp} {blk:Nat→Option Nat},
  Pn s ms ls=some (x,ow)→Hl s g w ls us→(Ba ow).Nodup→BkR w' (Ev s2 g2) ms y us→
  (∀ id∈Ba ow,s2.res id=Mr ms y ow res id∧g2.blk id=S4 ms ow blk id∧blk id=g.blk id∧(∀ e,∀ t:Ty,∀ xs:List t.D,s.res id=.row e t xs→g2.hdr id=g.hdr id))→∀ id∈Ba ow,S5 s g w us ms s2 g2 w' id
 | [],[],us,x,y,ow,res,blk,h,hL,hn,hB,hag,id,hid=>by
  simp only [Pn] at h
  cases h
  simp [Ba] at hid
 | [],_::_,us,x,y,ow,res,blk,h,hL,hn,hB,hag,id,hid=>by simp [Pn] at h
 | .rd t::ms,ls,us,x,y,ow,res,blk,h,hL,hn,hB,hag,id,hid=>by
  simp only [Pn] at h
  obtain ⟨p,h1,h2⟩:=A6 h
  obtain ⟨q,h3,h4⟩:=A6 h2
  cases h4
  have e1:p.2=ls.drop t.sz:=St.parse_drop (x:=p.1) (r:=p.2) h1
  cases Aee hres (ms:=ms) (us:=us.drop t.sz) h3 (by rw [e1]; exact hL.drop _) hn hB hag id hid with
  | gone a b=>exact .gone a b
  | box T l b a1 a2 a3 a4 a5 a6=>exact .box T l b a1 a2 a3 a4 a5 a6
  | row e1 t1 xs a1 a2 a3 a4 a5 a6=>exact .row e1 t1 xs a1 a2 a3 a4 a5 a6
 | .own e t::ms,[],us,x,y,ow,res,blk,h,hL,hn,hB,hag,id,hid=>by simp [Pn] at h
 | .own e t::ms,l::ls,[],x,y,ow,res,blk,h,hL,hn,hB,hag,id,hid=>hL.elim
 | .own e t::ms,l::ls,u::us,x,y,ow,res,blk,h,hL,hn,hB,hag,id,hid=>by
  simp only [Pn] at h
  obtain ⟨p,h1,h2⟩:=A6 h
  obtain ⟨q,h3,h4⟩:=A6 h2
  cases h4
  have lift:∀ id,S5 s g w us ms s2 g2 w' id→S5 s g w (u::us) (.own e t::ms) s2 g2 w' id:=by
   intro id hb
   cases hb with
   | gone a b=>exact .gone a b
   | box T l b a1 a2 a3 a4 a5 a6=>exact .box T l b a1 a2 a3 a4 a5 a6
   | row e1 t1 xs a1 a2 a3 a4 a5 a6=>exact .row e1 t1 xs a1 a2 a3 a4 a5 a6
  cases hp:p.1 with
  | none=>
   rw [hp] at hid hn hag
   exact lift id (Aee hres (ms:=ms) h3 hL.2 hn hB hag id hid)
  | some j=>
   rw [hp] at hid hn hag
   simp only [Ba,List.nodup_cons] at hn
   simp only [Ba,List.mem_cons] at hid
   rcases hid with rfl | hid
   ·obtain ⟨a1,a2,_⟩:=hag id (by simp [Ba])
    refine .gone (a1.trans ?_) (a2.trans ?_)
    ·exact (Fb (ms:=ms) (y:=y) hn.1).trans (A2 _ _ _)
    ·exact (Fp (ms:=ms) hn.1).trans (A2 _ _ _)
   ·refine lift id (Aee hres (ms:=ms) (res:=Vf res j .dead) (blk:=Vf blk j none) h3 hL.2 hn.2 hB (fun k hk=>?_) id hid)
    obtain ⟨a1,a2,a3,a4⟩:=hag k (by simp [Ba,hk])
    have:k≠j:=by rintro rfl; exact hn.1 hk
    exact ⟨a1,a2,by rw [Ax _ _ this]; exact a3,a4⟩
 | .bx T t::ms,[],us,x,y,ow,res,blk,h,hL,hn,hB,hag,id,hid=>by simp [Pn] at h
 | .bx T t::ms,.c _::ls,us,x,y,ow,res,blk,h,hL,hn,hB,hag,id,hid=>by simp [Pn] at h
 | .bx T t::ms,.sl _ _::ls,us,x,y,ow,res,blk,h,hL,hn,hB,hag,id,hid=>by simp [Pn] at h
 | .bx T t::ms,.row _::ls,us,x,y,ow,res,blk,h,hL,hn,hB,hag,id,hid=>by simp [Pn] at h
 | .bx T t::ms,.ep _ _ _ _::ls,us,x,y,ow,res,blk,h,hL,hn,hB,hag,id,hid=>by simp [Pn] at h
 | .bx T t::ms,.rp _ _ _::ls,us,x,y,ow,res,blk,h,hL,hn,hB,hag,id,hid=>by simp [Pn] at h
 | .bx T t::ms,.sp _::ls,us,x,y,ow,res,blk,h,hL,hn,hB,hag,id,hid=>by simp [Pn] at h
 | .bx T t::ms,.ptr j off::ls,[],x,y,ow,res,blk,h,hL,hn,hB,hag,id,hid=>hL.elim
 | .bx T t::ms,.ptr j off::ls,u::us,x,y,ow,res,blk,h,hL,hn,hB,hag,id,hid=>by
  simp only [Pn] at h
  split at h
  ·rename_i T' bl hr
   split at h
   ·rename_i hT
    split at h
    ·rename_i ho
     split at h
     ·rename_i z hp
      obtain ⟨q,h3,h4⟩:=A6 h
      cases h4
      subst hT ho
      have hl:=hL.1.1
      simp only [Dp,hr] at hl
      obtain ⟨b,hb,hu⟩:=hl
      subst hu
      simp only [Ba,List.nodup_cons] at hn
      simp only [Ba,List.mem_cons] at hid
      simp only [BkR,List.head?_cons,List.tail_cons] at hB
      obtain ⟨⟨b2,e2,⟨cs,hh,hk⟩⟩,hB2⟩:=hB
      cases e2
      rcases hid with rfl | hid
      ·obtain ⟨a1,a2,a3,_⟩:=hag id (by simp [Ba])
       have a1:=a1.trans ((Fb (ms:=ms) (y:=y.2) hn.1).trans (A2 _ _ _))
       have a2:=a2.trans ((Fp (ms:=ms) hn.1).trans a3)
       exact .box T' _ b ⟨_,_,hr⟩ a1 a2 hb (by simp [Zg,Qx]) ⟨b,cs,by rw [a2]; exact hb,hh,Ty.K_leafs hk⟩
      ·have:=Aee hres (ms:=ms) (res:=Vf res j (.box T' (t.leafs y.1))) (blk:=blk) h3 hL.2 hn.2 hB2 (fun k hk=>?_) id hid
       ·cases this with
        | gone a b=>exact .gone a b
        | box T l b a1 a2 a3 a4 a5 a6=>exact .box T l b a1 a2 a3 a4 (by simp only [Zg,List.tail_cons]; exact List.mem_append_right _ a5) a6
        | row e1 t1 xs a1 a2 a3 a4 a5 a6=>exact .row e1 t1 xs a1 a2 a3 a4 (fun b hb=>by simp only [Zg,List.tail_cons]; exact List.mem_append_right _ (a5 b hb)) a6
       ·obtain ⟨a1,a2,a3⟩:=hag k (by simp [Ba,hk])
        exact ⟨a1,a2,a3⟩
     ·cases h
    ·cases h
   ·cases h
  ·cases h
 | .mu e t::ms,[],us,x,y,ow,res,blk,h,hL,hn,hB,hag,id,hid=>by simp [Pn] at h
 | .mu e t::ms,l::ls,[],x,y,ow,res,blk,h,hL,hn,hB,hag,id,hid=>hL.elim
 | .mu e t::ms,l::ls,u::us,x,y,ow,res,blk,h,hL,hn,hB,hag,id,hid=>by
  simp only [Pn] at h
  obtain ⟨p,h1,h2⟩:=A6 h
  obtain ⟨q,h3,h4⟩:=A6 h2
  cases h4
  simp only [BkR,List.head?_cons,List.tail_cons] at hB
  obtain ⟨⟨u2,e2,⟨cs,hh,hk⟩⟩,hB2⟩:=hB
  cases e2
  have lift:∀ id,S5 s g w us ms s2 g2 w' id→S5 s g w (u::us) (.mu e t::ms) s2 g2 w' id:=by
   intro id hb
   cases hb with
   | gone a b=>exact .gone a b
   | box T l b a1 a2 a3 a4 a5 a6=>exact .box T l b a1 a2 a3 a4 (by simp only [Zg,List.tail_cons]; exact List.mem_append_right _ a5) a6
   | row e1 t1 xs a1 a2 a3 a4 a5 a6=>exact .row e1 t1 xs a1 a2 a3 a4 (fun b hb=>by simp only [Zg,List.tail_cons]; exact List.mem_append_right _ (a5 b hb)) a6
  obtain ⟨k1,k2,k3⟩:=o7 hres h1 hL.1.1
  have hrow:=Asf h1
  cases hp:p.1 with
  | none=>
   rw [hp] at hid hn hag
   exact lift id (Aee hres (ms:=ms) (y:=y.2) h3 hL.2 hn hB2 hag id hid)
  | some j=>
   rw [hp] at hid hn hag
   simp only [Ba,List.nodup_cons] at hn
   simp only [Ba,List.mem_cons] at hid
   rcases hid with rfl | hid
   ·obtain ⟨e',r1,r2⟩:=hrow id hp
    obtain ⟨a1,a2,a3,a4⟩:=hag id (by simp [Ba])
    have a1:=a1.trans ((Fb (ms:=ms) (y:=y.2) hn.1).trans (A2 _ _ _))
    have a2:=a2.trans ((Fp (ms:=ms) hn.1).trans a3)
    have a4:=a4 _ _ _ r1
    have hl:=hL.1.1
    rw [r2] at hl
    simp only [Dp,r1] at hl
    subst hl
    obtain ⟨cs1,o1,_⟩:=k1
    rw [hp] at k2
    refine .row e t y.1 ⟨e',p.2,r1,A27 hh o1⟩ a1 a2 a4 (fun b hb=>?_) ⟨cs,by rw [a4]; exact hh,hk,by rw [a2,a4]; exact k2.symm⟩
    have:(g.hdr id).ownBlock=some b:=k2.trans hb
    simp only [Zg,List.head?_cons,Option.bind_some]
    exact List.mem_append_left _ (Ea this)
   ·refine lift id (Aee hres (ms:=ms) (y:=y.2) (res:=Vf res j (.row e t y.1)) (blk:=blk) h3 hL.2 hn.2 hB2 (fun k hk=>?_) id hid)
    obtain ⟨a1,a2,a3,a4⟩:=hag k (by simp [Ba,hk])
    exact ⟨a1,a2,a3,a4⟩
end
end
section
def shL:List (Option Nat)→List Vl→Option (List Lf)
 | [],[]=>some []
 | none::sh,.lf l::vs=>(shL sh vs).bind fun r=>some (l::r)
 | some k::sh,.ag ls::vs=>if ls.length=k then (shL sh vs).bind fun r=>some (ls++r) else none
 | _,_=>none
def shV:List (Option Nat)→List Lf→Option (List Vl)
 | [],[]=>some []
 | none::sh,l::ls=>(shV sh ls).bind fun r=>some (.lf l::r)
 | some k::sh,ls=>if k≤ls.length then (shV sh (ls.drop k)).bind fun r=>some (.ag (ls.take k)::r) else none
 | _,_=>none
def VLR (s:St) (g:Gh) (w:World):List Vl→List Value→Prop
 | [],[]=>True
 | v::vs,u::us=>VlR s g w v u∧VLR s g w vs us
 | _,_=>False
def Alj:Ty→Bool
 | .sl _=>false
 | .pair a b=>Alj a&&Alj b
 | _=>true
def Jj:List Md→Bool
 | []=>true
 | .rd t::ms=>Alj t&&Jj ms
 | .own _ t::ms=>Alj t&&Jj ms
 | .bx _ t::ms=>Alj t&&Jj ms
 | .mu _ t::ms=>Alj t&&Jj ms
def Oc:List Md→Bool
 | []=>true
 | .bx _ t::ms=>Alj t&&Oc ms
 | .mu _ t::ms=>Alj t&&Oc ms
 | .rd _::ms=>Oc ms
 | .own _ _::ms=>Oc ms
def P2 (s:St) (nid:Nat):Nat→Bool
 | 0=>true
 | k + 1=>(match s.res nid with | .unborn=>true | _=>false)&&P2 s (nid + 1) k
def Ayf:List Vl→AV
 | [v]=>.vl v
 | vs=>.tp vs
def Aef (sg:Ji) (den:Vk sg.ps→Option (Vk sg.rs×BxD sg.ps)) (s:St) (nid:Nat) (vs:List Vl):Option (AV×St):=
 (shL sg.psh vs).bind fun ls=>
  let sF:=s.frz (Ld s sg.ps ls)
  let sA:=if Jj sg.rs&&Oc sg.ps then s else sF
  (Pn sF sg.ps ls).bind fun q=>if S3 (Ba q.2) then (if P2 sA nid (Lo sg.rs) then (den q.1).bind fun r=>
   (shV sg.rsh (At4 sg.rs r.1 nid)).bind fun vs'=>some (Ayf vs',⟨sA.cell,Mz sg.rs r.1 nid (Mr sg.ps r.2 q.2 sA.res)⟩)
   else none) else none
section
variable {P:Program} {n B:Nat} {Iq:List Nat} {s:St} {g:Gh} {a:Act} {w:World}
theorem Azu:∀ {sh:List (Option Nat)} {vs:List Vl} {us:List Value} {ls:List Lf},shL sh vs=some ls→VLR s g w vs us→∃ cs,ShR sh us cs∧Hl s g w ls cs
 | [],[],[],ls,h,_=>by simp only [shL] at h; cases h; exact ⟨[],⟨rfl,rfl⟩,trivial⟩
 | [],[],_::_,ls,h,hV=>hV.elim
 | [],_::_,us,ls,h,hV=>by simp [shL] at h
 | none::sh,[],us,ls,h,hV=>by simp [shL] at h
 | none::sh,.ag _::vs,us,ls,h,hV=>by simp [shL] at h
 | none::sh,.lf l::vs,[],ls,h,hV=>hV.elim
 | none::sh,.lf l::vs,u::us,ls,h,hV=>by
  simp only [shL] at h
  obtain ⟨r,h1,h2⟩:=A6 h
  cases h2
  obtain ⟨cs,k1,k2⟩:=Azu h1 hV.2
  exact ⟨u::cs,⟨u,us,cs,rfl,rfl,hV.1.2,k1⟩,⟨hV.1.1,hV.1.2⟩,k2⟩
 | some k::sh,[],us,ls,h,hV=>by simp [shL] at h
 | some k::sh,.lf _::vs,us,ls,h,hV=>by simp [shL] at h
 | some k::sh,.ag l::vs,[],ls,h,hV=>hV.elim
 | some k::sh,.ag l::vs,u::us,ls,h,hV=>by
  simp only [shL] at h
  split at h
  ·rename_i hk
   obtain ⟨r,h1,h2⟩:=A6 h
   cases h2
   obtain ⟨cs,k1,k2⟩:=Azu h1 hV.2
   obtain ⟨c1,rfl,e2⟩:=hV.1
   exact ⟨c1.toList++cs,⟨c1,us,cs,rfl,rfl,by have:=e2.length; simp at this; omega,k1⟩,e2.append k2⟩
  ·cases h
theorem Azv:∀ {sh:List (Option Nat)} {ls:List Lf} {us cs:List Value} {vs:List Vl},shV sh ls=some vs→Hl s g w ls cs→ShR sh us cs→VLR s g w vs us
 | [],[],us,cs,vs,h,_,hS=>by simp only [shV] at h; cases h; obtain ⟨rfl,rfl⟩:=hS; trivial
 | [],_::_,us,cs,vs,h,hL,hS=>by simp [shV] at h
 | none::sh,[],us,cs,vs,h,hL,hS=>by simp [shV] at h
 | none::sh,l::ls,us,cs,vs,h,hL,⟨u,us',cs',e1,e2,e3,hS⟩=>by
  simp only [shV] at h
  obtain ⟨r,h1,h2⟩:=A6 h
  cases h2
  subst e1 e2
  exact ⟨hL.1,Azv h1 hL.2 hS⟩
 | some k::sh,ls,us,cs,vs,h,hL,⟨c1,us',cs',e1,e2,e3,hS⟩=>by
  simp only [shV] at h
  split at h
  ·obtain ⟨r,h1,h2⟩:=A6 h
   cases h2
   subst e1 e2
   have hc:c1.toList.length=k:=by simpa using e3
   refine ⟨⟨c1,rfl,?_⟩,Azv h1 (cs:=cs') ?_ hS⟩
   ·have:=hL.take k
    rwa [List.take_left' hc] at this
   ·have:=hL.drop k
    rwa [List.drop_left' hc] at this
  ·cases h
theorem VLR.length:∀ {vs:List Vl} {us:List Value},VLR s g w vs us→us.length=vs.length
 | [],[],_=>rfl
 | [],_::_,h=>h.elim
 | _::_,[],h=>h.elim
 | _::_,_::_,h=>by simp [VLR.length h.2]
theorem VLR.get:∀ {vs:List Vl} {us:List Value} {j:Nat} {v:Vl},VLR s g w vs us→vs[j]? = some v→∃ u,us[j]? = some u∧VlR s g w v u
 | [],_,j,v,_,h=>by simp at h
 | _::_,[],_,_,h,_=>h.elim
 | x::vs,u::us,0,v,h,hj=>by simp at hj; subst hj; exact ⟨u,rfl,h.1⟩
 | x::vs,u::us,j + 1,v,h,hj=>by
  obtain ⟨u',e1,e2⟩:=VLR.get h.2 (j:=j) (by simpa using hj)
  exact ⟨u',by simpa using e1,e2⟩
theorem VLR.imp {s':St} {g':Gh} {w':World} (k:∀ v u,VlR s g w v u→VlR s' g' w' v u):∀ {vs:List Vl} {us:List Value},VLR s g w vs us→VLR s' g' w' vs us
 | [],[],_=>trivial
 | [],_::_,h=>h.elim
 | _::_,[],h=>h.elim
 | _::_,_::_,h=>⟨k _ _ h.1,VLR.imp k h.2⟩
theorem A29 {vs:List Vl} {us:List Value} (h:VLR s g w vs us):Wz s g w (Ayf vs) (At3 us):=by
 match vs,us,h with
 | [],[],_=>exact ⟨#[],rfl,rfl,fun j v hv=>by simp at hv⟩
 | [v],[u],h=>exact h.1
 | v::v'::vs,u::u'::us,h=>
  refine ⟨(u::u'::us).toArray,rfl,by simp [h.2.2.length],fun j x hx=>?_⟩
  obtain ⟨y,e1,e2⟩:=VLR.get h hx
  exact ⟨y,by simpa using e1,e2⟩
theorem Aio {w w':World} {S S':Nat→Prop}:∀ {t:Ty},Alj t=true→∀ {x:t.D} {cs:List Value},t.K w S x cs→t.K w' S' x cs
 | .int _,_,_,_,h=>h
 | .bool,_,_,_,h=>h
 | .str,_,_,_,h=>h
 | .sl _,h,_,_,_=>by simp [Alj] at h
 | .unit,_,_,_,h=>h
 | .pair a b,h,_,_,⟨c1,c2,e,h1,h2⟩=>by
  simp only [Alj,Bool.and_eq_true] at h
  exact ⟨c1,c2,e,Aio h.1 h1,Aio h.2 h2⟩
theorem Ant {w w':World} {S S':Nat→Prop} {t:Ty} (ht:Alj t=true) {xs:List t.D} {cs:List Value} (h:Iv w S t xs cs):Iv w' S' t xs cs:=
 ⟨h.1,fun i x hx=>Aio ht (h.2 i x hx)⟩
theorem Aip {w:World} {S S':Nat→Prop}:∀ {ms:List Md} {x:Vk ms} {us:List Value},(Jj ms=true∨∀ b,S b→b < w.heap.size→S' b)→HR w S ms x us→HR w S' ms x us
 | [],_,_,_,h=>h
 | .rd t::ms,x,us,hf,⟨c1,c2,e,h1,h2⟩=>by
  refine ⟨c1,c2,e,?_,Aip ?_ h2⟩
  ·rcases hf with hf | hf
   ·simp only [Jj,Bool.and_eq_true] at hf; exact Aio hf.1 h1
   ·exact Ty.K_keep (fun b hb hl=>⟨hf b hb hl,rfl⟩) h1
  ·exact hf.imp_left (fun q=>by simp only [Jj,Bool.and_eq_true] at q; exact q.2)
 | .own e t::ms,x,us,hf,⟨u,c2,e1,⟨cs,h1,h1'⟩,h2⟩=>by
  refine ⟨u,c2,e1,⟨cs,h1,?_⟩,Aip ?_ h2⟩
  ·rcases hf with hf | hf
   ·simp only [Jj,Bool.and_eq_true] at hf; exact Ant hf.1 h1'
   ·exact h1'.imp hf
  ·exact hf.imp_left (fun q=>by simp only [Jj,Bool.and_eq_true] at q; exact q.2)
 | .bx T t::ms,x,us,hf,⟨b,c2,e1,⟨cs,h1,h1'⟩,h2⟩=>by
  refine ⟨b,c2,e1,⟨cs,h1,?_⟩,Aip ?_ h2⟩
  ·rcases hf with hf | hf
   ·simp only [Jj,Bool.and_eq_true] at hf; exact Aio hf.1 h1'
   ·exact Ty.K_keep (fun b hb hl=>⟨hf b hb hl,rfl⟩) h1'
  ·exact hf.imp_left (fun q=>by simp only [Jj,Bool.and_eq_true] at q; exact q.2)
 | .mu e t::ms,x,us,hf,⟨u,c2,e1,⟨cs,h1,h1'⟩,h2⟩=>by
  refine ⟨u,c2,e1,⟨cs,h1,?_⟩,Aip ?_ h2⟩
  ·rcases hf with hf | hf
   ·simp only [Jj,Bool.and_eq_true] at hf; exact Ant hf.1 h1'
   ·exact h1'.imp hf
  ·exact hf.imp_left (fun q=>by simp only [Jj,Bool.and_eq_true] at q; exact q.2)
theorem Abo {w:World} {S S':Nat→Prop}:∀ {ms:List Md} {y:BxD ms} {us:List Value},(Oc ms=true∨∀ b,S b→b < w.heap.size→S' b)→BkR w S ms y us→BkR w S' ms y us
 | [],_,_,_,h=>h
 | .rd t::ms,y,us,hf,h=>Abo (ms:=ms) (hf.imp_left (fun q=>by simpa only [Oc] using q)) h
 | .own e t::ms,y,us,hf,h=>Abo (ms:=ms) (hf.imp_left (fun q=>by simpa only [Oc] using q)) h
 | .bx T t::ms,y,us,hf,⟨⟨b,e1,cs,h1,h1'⟩,h2⟩=>by
  refine ⟨⟨b,e1,cs,h1,?_⟩,Abo ?_ h2⟩
  ·rcases hf with hf | hf
   ·simp only [Oc,Bool.and_eq_true] at hf; exact Aio hf.1 h1'
   ·exact Ty.K_keep (fun b hb hl=>⟨hf b hb hl,rfl⟩) h1'
  ·exact hf.imp_left (fun q=>by simp only [Oc,Bool.and_eq_true] at q; exact q.2)
 | .mu e t::ms,y,us,hf,⟨⟨u,e1,cs,h1,h1'⟩,h2⟩=>by
  refine ⟨⟨u,e1,cs,h1,?_⟩,Abo ?_ h2⟩
  ·rcases hf with hf | hf
   ·simp only [Oc,Bool.and_eq_true] at hf; exact Ant hf.1 h1'
   ·exact h1'.imp hf
  ·exact hf.imp_left (fun q=>by simp only [Oc,Bool.and_eq_true] at q; exact q.2)
theorem Anu:∀ {k nid:Nat},P2 s nid k=true→∀ j,nid≤j→j < nid + k→s.res j=.unborn
 | 0,nid,_,j,h1,h2=>by omega
 | k + 1,nid,h,j,h1,h2=>by
  simp only [P2,Bool.and_eq_true] at h
  by_cases q:j=nid
  ·subst q
   have:=h.1
   split at this
   ·assumption
   ·cases this
  ·exact Anu h.2 j (by omega) (by omega)
theorem Anv {ls:List Lf}:∀ {s:St} {id:Nat},((s.frz ls).res id).live=true→(s.res id)=(s.frz ls).res id:=by
 induction ls with
 | nil=>intro s id _; rfl
 | cons l r ih=>
  intro s id h
  cases l with
  | row j=>
   unfold St.frz at h ⊢
   split at h
   ·rename_i e t xs hr
    have:=ih h
    by_cases q:id=j
    ·subst q
     rw [Ao] at this
     rw [← this] at h
     cases h
    ·rw [Ap s _ q] at this
     exact this
   ·rename_i e t xs c k hr
    cases hk:s.res k with
    | row e' t' ys=>
     simp only [hk] at h ⊢
     split at h
     ·rename_i ht
      simp only [ht,dif_pos] at h ⊢
      have:=ih h
      by_cases q:id=j
      ·subst q
       rw [Ao] at this
       rw [← this] at h
       cases h
      ·rw [Ap _ _ q] at this
       by_cases q2:id=k
       ·subst q2
        rw [Ao] at this
        rw [← this] at h
        cases h
       ·rw [Ap _ _ q2] at this
        exact this
     ·rename_i ht
      simp only [ht,dif_neg,not_false_eq_true] at h ⊢
      exact ih h
    | unborn=>simp only [hk] at h ⊢; exact ih h
    | dead=>simp only [hk] at h ⊢; exact ih h
    | box T ls=>simp only [hk] at h ⊢; exact ih h
    | frozen t xs=>simp only [hk] at h ⊢; exact ih h
    | last _ _ _ _ _=>simp only [hk] at h ⊢; exact ih h
    | map _ _=>simp only [hk] at h ⊢; exact ih h
    | iter _ _ _ _=>simp only [hk] at h ⊢; exact ih h
   ·exact ih h
  | _=>exact ih h
theorem A3a (h:B5 n B Iq s g a w) {w':World} {ps rs:List Md} {ow:List (Option Nat)} {nid:Nat} {r:Vk rs×BxD ps} {us us':List Value}
  (hlive:∀ id∈Ba ow,(s.res id).live=true) (hfresh:∀ j,nid≤j→j < nid + Lo rs→s.res j=.unborn) (hk:Ob (owB g ow) w w')
  (hnd:(Fh rs us'++Zg ps us).Nodup) (hnew:∀ b∈Fh rs us',b < w'.heap.size∧(b∈owB g ow∨w.heap.size≤b))
  (s2:St) (g2:Gh) (hs2:s2=⟨s.cell,Mz rs r.1 nid (Mr ps r.2 ow s.res)⟩) (hg2:g2=Kh rs us' nid ⟨S4 ps ow g.blk,g.hdr,g.av⟩)
  (hback:∀ id∈Ba ow,S5 s g w us ps s2 g2 w' id) (hH:HR w' (Ev s2 g2) rs r.1 us'):
  B5 n B Iq s2 g2 a w'∧Go B Iq s g w s2 g2 w'∧Hl s2 g2 w' (At4 rs r.1 nid) us':=by
 have hav:g2.av=g.av:=by rw [hg2]; exact Zh _ _ _ _
 have hin:∀ j,nid≤j→j < nid + Lo rs→j ∉ Ba ow:=by
  intro j h1 h2 h3
  have:=hlive j h3
  rw [hfresh j h1 h2] at this
  cases this
 have hother:∀ j,¬ (nid≤j∧j < nid + Lo rs)→j ∉ Ba ow→s2.res j=s.res j∧g2.blk j=g.blk j∧g2.hdr j=g.hdr j:=by
  intro j h1 h2
  have hj:j < nid∨nid + Lo rs≤j:=by omega
  subst hs2 hg2
  refine ⟨?_,?_,?_⟩
  ·exact (Iw rs r.1 nid _ j hj).trans (Fb h2)
  ·exact (Cf rs us' nid _ j hj).1.trans (Fp h2)
  ·exact (Cf rs us' nid _ j hj).2
 have hsomes:∀ j,j∈Ba ow→¬ (nid≤j∧j < nid + Lo rs):=fun j h1 h2=>hin j h2.1 h2.2 h1
 obtain ⟨hL,hR⟩:=Ase (s:=s2) (g:=g2) (w:=w') (fun b hb _=>hb) rs r.1 us' nid (Mr ps r.2 ow s.res) ⟨S4 ps ow g.blk,g.hdr,g.av⟩ hH (fun j h1 h2=>by
  rw [hs2,hg2]; exact ⟨rfl,rfl,rfl⟩)
 have hblkin:∀ j b,nid≤j→j < nid + Lo rs→g2.blk j=some b→b∈Fh rs us':=fun j b h1 h2 h3=>by rw [hg2] at h3; exact Me rs us' nid _ j b h1 h2 h3
 have hown:∀ b,b∈owB g ow→∃ id,id∈Ba ow∧g.blk id=some b∧(s.res id).live=true:=fun b hb=>by
  obtain ⟨id,h1,h2⟩:=Sq.1 hb
  exact ⟨id,h1,h2,hlive id h1⟩
 have hSn:∀ b,Ev s g b→b ∉ owB g ow:=fun b hb hq=>by
  obtain ⟨id,h1,h2,h3⟩:=hown b hq
  exact hb.2 id h3 h2
 have hS:∀ b,Ev s g b→b < w.heap.size→Ev s2 g2 b∧w'.heap[b]? = w.heap[b]? := by
  intro b hb hlt
  refine ⟨⟨by rw [hav]; exact hb.1,fun j hj hjb=>?_⟩,hk.block b hlt (hSn b hb)⟩
  by_cases q1:nid≤j∧j < nid + Lo rs
  ·have:=hblkin j b q1.1 q1.2 hjb
   rcases (hnew b this).2 with q | q
   ·exact hSn b hb q
   ·omega
  ·by_cases q2:j∈Ba ow
   ·cases hback j q2 with
    | gone e1 e2=>rw [e2] at hjb; cases hjb
    | box T l b' e0 e1 e2 e3 e4 e5=>
     rw [e2] at hjb
     exact hb.2 j (hlive j q2) hjb
    | row e t xs e0 e1 e2 e3 e4 e5=>
     rw [e2] at hjb
     exact hb.2 j (hlive j q2) hjb
   ·obtain ⟨e1,e2,_⟩:=hother j q1 q2
    rw [e1] at hj
    rw [e2] at hjb
    exact hb.2 j hj hjb
 have hI:∀ j,Ay s g s2 g2 j:=by
  intro j
  by_cases q1:nid≤j∧j < nid + Lo rs
  ·unfold Ay
   rw [hfresh j q1.1 q1.2]
   exact .inr trivial
  ·by_cases q2:j∈Ba ow
   ·cases hback j q2 with
    | gone e1 e2=>exact .inl e1
    | box T l b' e0 e1 e2 e3 e4 e5=>
     obtain ⟨T',l',e0⟩:=e0
     unfold Ay
     rw [e0]
     exact .inr ⟨T,l,e1,e2⟩
    | row e t xs e0 e1 e2 e3 e4 e5=>
     obtain ⟨e',xs',e0,el⟩:=e0
     unfold Ay
     rw [e0]
     exact .inr (.inl ⟨e,xs,e1,el,e3,e2⟩)
   ·obtain ⟨e1,e2,e3⟩:=hother j q1 q2
    exact Ay.same e1 e2 e3
 refine ⟨?_,?_,hL⟩
 ·refine h.step h.size h.defers hk.size hS hI (fun i=>.inl ⟨by rw [hs2],rfl⟩) (fun j=>?_) (fun i j b hi hj=>?_) (fun i b hi=>?_) hav
  ·by_cases q1:nid≤j∧j < nid + Lo rs
   ·exact .inr (hR j q1.1 q1.2).1
   ·by_cases q2:j∈Ba ow
    ·right
     cases hback j q2 with
     | gone e1 e2=>rw [e1]; exact e2
     | box T l b' e0 e1 e2 e3 e4 e5=>rw [e1]; exact e5
     | row e t xs e0 e1 e2 e3 e4 e5=>rw [e1]; exact e5
    ·obtain ⟨e1,e2,e3⟩:=hother j q1 q2
     refine .inl ⟨e1,e2,e3,fun b hb=>hk.block b (h.lt j b hb).1 (fun hq=>?_)⟩
     obtain ⟨id,h1,h2,h3⟩:=hown b hq
     exact q2 (by rw [h.inj j id b hb h2]; exact h1)
  ·have cl:∀ j b,g2.blk j=some b→(nid≤j∧j < nid + Lo rs)∨(j∈Ba ow∧g.blk j=some b∧b∈Zg ps us)∨(¬ (nid≤j∧j < nid + Lo rs)∧j ∉ Ba ow∧g.blk j=some b):=by
    intro j b hb
    by_cases q1:nid≤j∧j < nid + Lo rs
    ·exact .inl q1
    ·by_cases q2:j∈Ba ow
     ·cases hback j q2 with
      | gone e1 e2=>rw [e2] at hb; cases hb
      | box T l b' e0 e1 e2 e3 e4 e5=>
       rw [e2] at hb
       rw [e3] at hb
       cases hb
       exact .inr (.inl ⟨q2,e3,e4⟩)
      | row e t xs e0 e1 e2 e3 e4 e5=>
       rw [e2] at hb
       exact .inr (.inl ⟨q2,hb,e4 b hb⟩)
     ·exact .inr (.inr ⟨q1,q2,by rw [← (hother j q1 q2).2.1]; exact hb⟩)
   have nd:=List.nodup_append.1 hnd
   have far:∀ i j b,(nid≤i∧i < nid + Lo rs)→g2.blk i=some b→j ∉ Ba ow→g.blk j=some b→False:=by
    intro i j b q1 hi q2 hj
    rcases (hnew b (hblkin i b q1.1 q1.2 hi)).2 with q | q
    ·obtain ⟨id,h1,h2,h3⟩:=hown b q
     exact q2 (by rw [h.inj j id b hj h2]; exact h1)
    ·have:=(h.lt j b hj).1
     omega
   rcases cl i b hi with qi | ⟨i1,i2,i3⟩ | ⟨i1,i2,i3⟩<;>rcases cl j b hj with qj | ⟨j1,j2,j3⟩ | ⟨j1,j2,j3⟩
   ·rw [hg2] at hi hj
    exact Xg rs us' nid _ i j b nd.1 qi.1 qi.2 qj.1 qj.2 hi hj
   ·exact absurd rfl (nd.2.2 b (hblkin i b qi.1 qi.2 hi) b j3)
   ·exact (far i j b qi hi j2 j3).elim
   ·exact absurd rfl (nd.2.2 b (hblkin j b qj.1 qj.2 hj) b i3)
   ·exact h.inj i j b i2 j2
   ·exact h.inj i j b i2 j3
   ·exact (far j i b qj hj i2 i3).elim
   ·exact h.inj i j b i3 j2
   ·exact h.inj i j b i3 j3
  ·by_cases q1:nid≤i∧i < nid + Lo rs
   ·have hb:=hblkin i b q1.1 q1.2 hi
    obtain ⟨k1,k2⟩:=hnew b hb
    refine ⟨k1,?_⟩
    rcases k2 with k2 | k2
    ·obtain ⟨id,h1,h2,h3⟩:=hown b k2
     exact (h.lt id b h2).2
    ·refine ⟨.inr (by have:=h.base; omega),fun q=>?_⟩
     have:=h.avB b q
     have:=h.base
     omega
   ·have hb:g.blk i=some b:=by
     by_cases q2:i∈Ba ow
     ·cases hback i q2 with
      | gone e1 e2=>rw [e2] at hi; cases hi
      | box T l b' e0 e1 e2 e3 e4 e5=>rw [e2] at hi; exact hi
      | row e t xs e0 e1 e2 e3 e4 e5=>rw [e2] at hi; exact hi
     ·rw [← (hother i q1 q2).2.1]; exact hi
    obtain ⟨k1,k2⟩:=h.lt i b hb
    exact ⟨Nat.lt_of_lt_of_le k1 hk.size,k2⟩
 ·refine ⟨⟨hk.os,hk.tape,hk.output,hk.size,fun k hkB hkI=>?_⟩,hS,hI,hav⟩
  refine hk.block k (by have:=h.base; omega) (fun hq=>?_)
  obtain ⟨id,h1,h2,h3⟩:=hown k hq
  rcases (h.lt id k h2).2.1 with q | q
  ·exact hkI q
  ·omega
theorem Aiq {g g':Gh}:∀ {ow:List (Option Nat)},(∀ id∈Ba ow,g'.blk id=g.blk id)→owB g' ow=owB g ow
 | [],_=>rfl
 | none::r,h=>by simp only [owB,Option.bind_none]; rw [Aiq (ow:=r) h]
 | some i::r,h=>by
  simp only [Ba,List.mem_cons,forall_eq_or_imp] at h
  simp only [owB,Option.bind_some,h.1]
  rw [Aiq (ow:=r) h.2]
theorem A5o {s':St} {g':Gh} (hI:∀ id,Ay s g s' g' id) {id:Nat} (hl:(s'.res id).live=true) (he:s.res id=s'.res id):g'.blk id=g.blk id:=by
 have r:=hI id
 unfold Ay at r
 rcases r with r | r
 ·rw [r] at hl; cases hl
 ·cases hs:s.res id with
  | unborn=>rw [← he,hs] at hl; cases hl
  | dead=>rw [← he,hs] at hl; cases hl
  | frozen t xs=>rw [← he,hs] at hl; cases hl
  | box T ls=>rw [hs] at r; obtain ⟨_,_,_,e⟩:=r; exact e
  | row e t xs=>
   rw [hs] at r
   rcases r with ⟨_,_,_,_,_,e⟩ | ⟨_,_,e,_⟩
   ·exact e
   ·rw [← he,hs] at e; cases e
  | last e t xs c j=>
   rw [hs] at r
   rcases r with ⟨_,_,_,_,_,_,_,_,e⟩ | ⟨_,_,e,_⟩
   ·exact e
   ·rw [← he,hs] at e; cases e
  | map t xs=>rw [hs] at r; obtain ⟨_,_,_,_,e⟩:=r; exact e
  | iter t xs seen cur=>rw [hs] at r; obtain ⟨_,_,_,_,_,_,e⟩:=r; exact e
theorem A5p {s':St} {g':Gh} (hI:∀ id,Ay s g s' g' id) {id:Nat} {e:TypeId} {t:Ty} {xs:List t.D} (hl:s'.res id=.row e t xs) (he:s.res id=s'.res id):g'.hdr id=g.hdr id:=by
 have r:=hI id
 unfold Ay at r
 rcases r with r | r
 ·rw [r] at hl; cases hl
 ·rw [he,hl] at r
  rcases r with ⟨_,_,_,_,e,_⟩ | ⟨_,_,_,e⟩
  ·exact e
  ·exact e
theorem S6 (hres:∀ id,Mc s g w id (s.res id)):∀ {ms:List Md} {ls:List Lf} {us:List Value} {x:Vk ms} {y:BxD ms} {ow:List (Option Nat)} {res:Nat→Qp},
  Pn s ms ls=some (x,ow)→Hl s g w ls us→(Ba ow).Nodup→∀ id∈Ba ow,Mr ms y ow res id=.dead∨∀ b,g.blk id=some b→b∈Zg ms us
 | [],[],us,x,y,ow,res,h,hL,hn,id,hid=>by
  simp only [Pn] at h
  cases h
  simp [Ba] at hid
 | [],_::_,us,x,y,ow,res,h,hL,hn,id,hid=>by simp [Pn] at h
 | .rd t::ms,ls,us,x,y,ow,res,h,hL,hn,id,hid=>by
  simp only [Pn] at h
  obtain ⟨p,h1,h2⟩:=A6 h
  obtain ⟨q,h3,h4⟩:=A6 h2
  cases h4
  have e1:p.2=ls.drop t.sz:=St.parse_drop (x:=p.1) (r:=p.2) h1
  exact S6 hres (ms:=ms) (us:=us.drop t.sz) (y:=y) h3 (by rw [e1]; exact hL.drop _) hn id hid
 | .own e t::ms,[],us,x,y,ow,res,h,hL,hn,id,hid=>by simp [Pn] at h
 | .own e t::ms,l::ls,[],x,y,ow,res,h,hL,hn,id,hid=>hL.elim
 | .own e t::ms,l::ls,u::us,x,y,ow,res,h,hL,hn,id,hid=>by
  simp only [Pn] at h
  obtain ⟨p,h1,h2⟩:=A6 h
  obtain ⟨q,h3,h4⟩:=A6 h2
  cases h4
  cases hp:p.1 with
  | none=>
   rw [hp] at hid hn
   exact S6 hres (ms:=ms) (y:=y) h3 hL.2 hn id hid
  | some j=>
   rw [hp] at hid hn
   simp only [Ba,List.nodup_cons] at hn
   simp only [Ba,List.mem_cons] at hid
   rcases hid with rfl | hid
   ·exact .inl ((Fb (ms:=ms) (y:=y) hn.1).trans (A2 _ _ _))
   ·exact S6 hres (ms:=ms) (y:=y) h3 hL.2 hn.2 id hid
 | .bx T t::ms,[],us,x,y,ow,res,h,hL,hn,id,hid=>by simp [Pn] at h
 | .bx T t::ms,.c _::ls,us,x,y,ow,res,h,hL,hn,id,hid=>by simp [Pn] at h
 | .bx T t::ms,.sl _ _::ls,us,x,y,ow,res,h,hL,hn,id,hid=>by simp [Pn] at h
 | .bx T t::ms,.row _::ls,us,x,y,ow,res,h,hL,hn,id,hid=>by simp [Pn] at h
 | .bx T t::ms,.ep _ _ _ _::ls,us,x,y,ow,res,h,hL,hn,id,hid=>by simp [Pn] at h
 | .bx T t::ms,.rp _ _ _::ls,us,x,y,ow,res,h,hL,hn,id,hid=>by simp [Pn] at h
 | .bx T t::ms,.sp _::ls,us,x,y,ow,res,h,hL,hn,id,hid=>by simp [Pn] at h
 | .bx T t::ms,.ptr j off::ls,[],x,y,ow,res,h,hL,hn,id,hid=>hL.elim
 | .bx T t::ms,.ptr j off::ls,u::us,x,y,ow,res,h,hL,hn,id,hid=>by
  simp only [Pn] at h
  split at h
  ·rename_i T' bl hr
   split at h
   ·rename_i hT
    split at h
    ·rename_i ho
     split at h
     ·rename_i z hp
      obtain ⟨q,h3,h4⟩:=A6 h
      cases h4
      subst hT ho
      have hl:=hL.1.1
      simp only [Dp,hr] at hl
      obtain ⟨b,hb,hu⟩:=hl
      subst hu
      simp only [Ba,List.nodup_cons] at hn
      simp only [Ba,List.mem_cons] at hid
      rcases hid with rfl | hid
      ·exact .inr fun b' hb'=>by rw [hb] at hb'; cases hb'; simp [Zg,Qx]
      ·rcases S6 hres (ms:=ms) (y:=y.2) (res:=Vf res j (.box T' (t.leafs y.1))) h3 hL.2 hn.2 id hid with q | q
       ·exact .inl q
       ·exact .inr fun b' q1=>by simp only [Zg,List.tail_cons]; exact List.mem_append_right _ (q b' q1)
     ·cases h
    ·cases h
   ·cases h
  ·cases h
 | .mu e t::ms,[],us,x,y,ow,res,h,hL,hn,id,hid=>by simp [Pn] at h
 | .mu e t::ms,l::ls,[],x,y,ow,res,h,hL,hn,id,hid=>hL.elim
 | .mu e t::ms,l::ls,u::us,x,y,ow,res,h,hL,hn,id,hid=>by
  simp only [Pn] at h
  obtain ⟨p,h1,h2⟩:=A6 h
  obtain ⟨q,h3,h4⟩:=A6 h2
  cases h4
  have up:∀ {r1:Prop},(r1∨∀ b,g.blk id=some b→b∈Zg ms us)→(r1∨∀ b,g.blk id=some b→b∈Zg (.mu e t::ms) (u::us)):=fun h=>h.imp_right fun q b hb=>by simp only [Zg,List.tail_cons]; exact List.mem_append_right _ (q b hb)
  obtain ⟨k1,k2,k3⟩:=o7 hres h1 hL.1.1
  cases hp:p.1 with
  | none=>
   rw [hp] at hid hn
   exact up (S6 hres (ms:=ms) (y:=y.2) h3 hL.2 hn id hid)
  | some j=>
   rw [hp] at hid hn
   simp only [Ba,List.nodup_cons] at hn
   simp only [Ba,List.mem_cons] at hid
   rcases hid with rfl | hid
   ·rw [hp] at k2
    refine .inr fun b hb=>?_
    have:u.ownBlock=some b:=k2.trans hb
    simp only [Zg,List.head?_cons,Option.bind_some]
    exact List.mem_append_left _ (Ea this)
   ·exact up (S6 hres (ms:=ms) (y:=y.2) (res:=Vf res j (.row e t y.1)) h3 hL.2 hn.2 id hid)
theorem Ash (h:B5 n B Iq s g a w) {f:FuncId} {sg:Ji} {den:Vk sg.ps→Option (Vk sg.rs×BxD sg.ps)} (hf:Akl P f sg den) {vs:List Vl} {args:List Value} (hv:VLR s g w vs args)
  {nid:Nat} {av:AV} {s':St} (e:Aef sg den s nid vs=some (av,s')):
  Calls P f args.toArray w fun e w'=>∃ v g',e=.returned v∧Go B Iq s g w s' g' w'∧B5 n B Iq s' g' a w'∧Wz s' g' w' av v:=by
 unfold Aef at e
 obtain ⟨ls,e1,e⟩:=A6 e
 obtain ⟨⟨x,ow⟩,e2,e⟩:=A6 e
 dsimp only at e
 split at e
 ·rename_i hnd
  generalize hsA:(if (Jj sg.rs&&Oc sg.ps)=true then s else s.frz (Ld s sg.ps ls))=sA0 at e
  split at e
  ·rename_i hfr
   obtain ⟨r,e3,e⟩:=A6 e
   obtain ⟨vs',e4,e⟩:=A6 e
   cases e
   obtain ⟨cs,hsh,hL⟩:=Azu e1 hv
   obtain ⟨gF,hF,goF,hlf⟩:=Fl (ls:=Ld s sg.ps ls) h
   have hLF:=hL.imp hlf
   obtain ⟨h1,h2,h3⟩:=Asg hF.res e2 hLF
   have hnod:=Af3 hnd
   have hown:A68 w (Ev (s.frz (Ld s sg.ps ls)) gF) (Fh sg.ps cs):=by
    rw [h2]
    refine ⟨Abn hF.inj hnod,fun b hb=>?_⟩
    obtain ⟨id,q1,q2⟩:=Sq.1 hb
    exact ⟨(hF.lt id b q2).1,fun q=>q.2 id (h3 id q1) q2⟩
   refine Calls.mono (hf x r e3 w _ cs args h1 hsh hown) fun en w'=>?_
   rintro ⟨us,us',rfl,hsh',hk,hH,hB,hN,hnew⟩
   rw [h2] at hk hH hB hnew
   have key:∀ (sA:St) (gA:Gh),B5 n B Iq sA gA a w→Go B Iq s g w sA gA w→(∀ id∈Ba ow,sA.res id=(s.frz (Ld s sg.ps ls)).res id∧gA.blk id=gF.blk id∧(∀ e,∀ t:Ty,∀ xs:List t.D,(s.frz (Ld s sg.ps ls)).res id=.row e t xs→gA.hdr id=gF.hdr id))→P2 sA nid (Lo sg.rs)=true→
     ((Jj sg.rs=true∧Oc sg.ps=true)∨(sA=s.frz (Ld s sg.ps ls)∧gA=gF))→
     ∃ g',Go B Iq s g w ⟨sA.cell,Mz sg.rs r.1 nid (Mr sg.ps r.2 ow sA.res)⟩ g' w'∧B5 n B Iq ⟨sA.cell,Mz sg.rs r.1 nid (Mr sg.ps r.2 ow sA.res)⟩ g' a w'∧Wz ⟨sA.cell,Mz sg.rs r.1 nid (Mr sg.ps r.2 ow sA.res)⟩ g' w' (Ayf vs') (At3 us):=by
    intro sA gA hA goA hag hfresh hcase
    have hfresh':=Anu hfresh
    have hliveA:∀ id∈Ba ow,(sA.res id).live=true:=fun id hid=>by rw [(hag id hid).1]; exact h3 id hid
    have hout:∀ id∈Ba ow,id < nid∨nid + Lo sg.rs≤id:=fun id hid=>by
     rcases Nat.lt_or_ge id nid with q | q
     ·exact .inl q
     ·rcases Nat.lt_or_ge id (nid + Lo sg.rs) with q2 | q2
      ·have:=hliveA id hid
       rw [hfresh' id q q2] at this
       cases this
      ·exact .inr q2
    have hbl:owB gF ow=owB gA ow:=Aiq (fun id hid=>(hag id hid).2.1.symm)
    rw [hbl] at hk hH hB hnew
    generalize hs2:(⟨sA.cell,Mz sg.rs r.1 nid (Mr sg.ps r.2 ow sA.res)⟩:St)=s2
    generalize hg2:Kh sg.rs us' nid ⟨S4 sg.ps ow gA.blk,gA.hdr,gA.av⟩=g2
    have hag2:∀ id∈Ba ow,s2.res id=Mr sg.ps r.2 ow sA.res id∧g2.blk id=S4 sg.ps ow gA.blk id∧gA.blk id=gF.blk id∧(∀ e,∀ t:Ty,∀ xs:List t.D,(s.frz (Ld s sg.ps ls)).res id=.row e t xs→g2.hdr id=gF.hdr id):=fun id hid=>by
     refine ⟨?_,?_,(hag id hid).2.1,?_⟩
     ·rw [← hs2]; exact Iw _ _ _ _ _ (hout id hid)
     ·rw [← hg2]; exact (Cf _ _ _ _ _ (hout id hid)).1
     ·intro e t xs hr
      rw [← hg2]; exact (Cf _ _ _ _ _ (hout id hid)).2.trans ((hag id hid).2.2 e t xs hr)
    have hav:g2.av=gA.av:=by rw [← hg2]; exact Zh _ _ _ _
    have hback0:∀ id∈Ba ow,S5 (s.frz (Ld s sg.ps ls)) gF w cs sg.ps s2 g2 w' id→S5 sA gA w cs sg.ps s2 g2 w' id:=by
     intro id hid hb
     obtain ⟨q1,q2,q3⟩:=hag id hid
     cases hb with
     | gone a b=>exact .gone a b
     | box T l b a1 a2 a3 a4 a5 a6=>exact .box T l b (by rw [q1]; exact a1) a2 (by rw [q2]; exact a3) (by rw [q2]; exact a4) a5 a6
     | row e1 t1 xs a1 a2 a3 a4 a5 a6=>
      obtain ⟨e',xs',c1,c2⟩:=a1
      exact .row e1 t1 xs ⟨e',xs',by rw [q1]; exact c1,c2⟩ a2 (by rw [q2]; exact a3) (by rw [q3 _ _ _ c1]; exact a4) (by rw [q2]; exact a5) a6
    have hbox:∀ id∈Ba ow,∀ b,(s2.res id).live=true→g2.blk id=some b→b∈Zg sg.ps cs:=by
     intro id hid b hl hb
     obtain ⟨p1,p2,p3,_⟩:=hag2 id hid
     rcases S6 hF.res (y:=r.2) (res:=sA.res) e2 hLF hnod id hid with q | q
     ·rw [p1,q] at hl; cases hl
     ·rw [p2] at hb
      have:=Nl hb
      rw [p3] at this
      exact q b this
    have hSin:(Jj sg.rs=true∧Oc sg.ps=true)∨∀ b,Akk w (Ev (s.frz (Ld s sg.ps ls)) gF) (owB gA ow) (Fh sg.rs us'++Zg sg.ps cs) b→Ev s2 g2 b:=by
     rcases hcase with q | ⟨rfl,rfl⟩
     ·exact .inl q
     ·right
      rintro b ⟨k1,k2⟩
      have hnav:¬ gA.av b:=by
       rcases k1 with k1 | k1 | k1
       ·exact k1.1
       ·obtain ⟨id,q1,q2⟩:=Sq.1 k1
        exact (hA.lt id b q2).2.2
       ·intro q
        have:=hA.avB b q
        have:=hA.base
        omega
      refine ⟨by rw [hav]; exact hnav,fun j hj hjb=>?_⟩
      simp only [List.mem_append,not_or] at k2
      by_cases q1:nid≤j∧j < nid + Lo sg.rs
      ·rw [← hg2] at hjb
       exact k2.1 (Me _ _ _ _ j b q1.1 q1.2 hjb)
      ·by_cases q2:j∈Ba ow
       ·exact k2.2 (hbox j q2 b hj hjb)
       ·have hj':j < nid∨nid + Lo sg.rs≤j:=by omega
        rw [← hs2] at hj
        rw [← hg2,(Cf _ _ _ _ _ hj').1] at hjb
        have hjb:=(Fp q2).symm.trans hjb
        have:Mz sg.rs r.1 nid (Mr sg.ps r.2 ow (s.frz (Ld s sg.ps ls)).res) j=(s.frz (Ld s sg.ps ls)).res j:=(Iw _ _ _ _ _ hj').trans (Fb q2)
        simp only [this] at hj
        rcases k1 with k1 | k1 | k1
        ·exact k1.2 j hj hjb
        ·obtain ⟨id,p1,p2⟩:=Sq.1 k1
         exact q2 (by rw [hA.inj j id b hjb p2]; exact p1)
        ·have:=(hA.lt j b hjb).1
         omega
    have hH2:=Aip (hSin.imp (fun q=>q.1) (fun q b hb _=>q b hb)) hH
    have hB2:=Abo (hSin.imp (fun q=>q.2) (fun q b hb _=>q b hb)) hB
    have hback:=fun id hid=>hback0 id hid (Aee hF.res e2 hLF hnod hB2 hag2 id hid)
    obtain ⟨f1,f2,f3⟩:=A3a hA hliveA hfresh' hk hN hnew s2 g2 hs2.symm hg2.symm hback hH2
    exact ⟨g2,goA.trans f2,f1,A29 (Azv e4 f3 hsh')⟩
   have fin:∃ g',Go B Iq s g w ⟨sA0.cell,Mz sg.rs r.1 nid (Mr sg.ps r.2 ow sA0.res)⟩ g' w'∧B5 n B Iq ⟨sA0.cell,Mz sg.rs r.1 nid (Mr sg.ps r.2 ow sA0.res)⟩ g' a w'∧Wz ⟨sA0.cell,Mz sg.rs r.1 nid (Mr sg.ps r.2 ow sA0.res)⟩ g' w' (Ayf vs') (At3 us):=by
    by_cases hfl:(Jj sg.rs&&Oc sg.ps)=true
    ·rw [if_pos hfl] at hsA
     subst hsA
     simp only [Bool.and_eq_true] at hfl
     exact key s g h (Go.refl B Iq s g w) (fun id hid=>⟨Anv (h3 id hid),(A5o goF.ref (h3 id hid) (Anv (h3 id hid))).symm,fun e t xs hr=>(A5p goF.ref hr (Anv (h3 id hid))).symm⟩) hfr (.inl hfl)
    ·rw [if_neg hfl] at hsA
     subst hsA
     exact key _ gF hF goF (fun id hid=>⟨rfl,rfl,fun _ _ _ _=>rfl⟩) hfr (.inr ⟨rfl,rfl⟩)
   obtain ⟨g',q1,q2,q3⟩:=fin
   exact ⟨At3 us,g',rfl,q1,q2,q3⟩
  ·cases e
 ·cases e
end
end
section
def Ra:List Bool→Bool
 | []=>true
 | c::r=>c&&Ra r
def Nm {α:Type} (x:Option (List Bool×α)):Option α:=match x with
 | some (cs,r)=>if Ra cs=true then some r else none
 | none=>none
theorem Cg {α:Type} {x:Option (List Bool×α)} {r:α} (h:Nm x=some r):∃ cs,x=some (cs,r)∧Ra cs=true:=by
 unfold Nm at h
 split at h
 ·rename_i cs r'
  split at h<;>cases h
  exact ⟨cs,rfl,by assumption⟩
 ·cases h
def At (s:Ab) (i:Int):Int:=((s.data.toList.getD i.toNat 0).toNat:Int)
def Af (s:Ab) (i j:Int):Ab:=s.extract i.toNat j.toNat
def Aeg (P:Program) (s:St) (T:TypeId) (x y:Operand):Option (List Bool×Value):=
 match P.underlying T,s.conc x,s.conc y with
 | some .string,some (.string q),some (.int _ i)=>some ([decide (0≤i),decide (i < (q.size:Int))],.int .u8 (At q i))
 | _,_,_=>none
def Aeh (P:Program) (s:St) (T:TypeId) (x:Operand) (lo hi mx:Option Operand):Option (List Bool×Value):=
 match P.underlying T,s.conc x,mx with
 | some .string,some (.string q),none=>match lo,hi with
  | none,none=>some ([],.string q)
  | some l,none=>match s.conc l with
   | some (.int _ i)=>some ([decide (0≤i),decide (i≤(q.size:Int))],.string (Af q i q.size))
   | _=>none
  | none,some h=>match s.conc h with
   | some (.int _ j)=>some ([decide (0≤j),decide (j≤(q.size:Int))],.string (Af q 0 j))
   | _=>none
  | some l,some h=>match s.conc l,s.conc h with
   | some (.int _ i),some (.int _ j)=>some ([decide (0≤i),decide (i≤j),decide (j≤(q.size:Int))],.string (Af q i j))
   | _,_=>none
 | _,_,_=>none
def Anw (s:St) (op:BinOp) (x y:Operand):Option (List Bool×Value):=
 match op,s.conc x,s.conc y with
 | .add,some (.string p),some (.string q)=>some ([decide (p.size + q.size≤9223372036854775807)],.string (p++q))
 | _,_,_=>none
def Avw (s:St) (op:BinOp) (x y:Operand):Option (List Bool×Value):=
 match op,s.conc x,s.conc y with
 | .rem,some (.int k a),some (.int k' b)=>if k=k' then some ([!decide (b=0)],.int k (a.tmod b)) else none
 | .quo,some (.int k a),some (.int k' b)=>if k=k' then some ([!decide (b=0)],.int k (k.wrap (a.tdiv b))) else none
 | .shl,some (.int k a),some (.int _ b)=>some ([decide (0≤b)],.int k (k.wrap (a * 2 ^ min b.toNat k.bits)))
 | _,_,_=>none
def Ayg (P:Program):List Field→List Lf→List Lf→Option Bool
 | [],_,_=>some true
 | f :: fs, xs, ys => if f.name = "_" then none else match P.underlying f.type, xs[f.offset]?, ys[f.offset]? with
  | some (.int _),some (.c (.int k a)),some (.c (.int k' b))=>if k=k' then (Ayg P fs xs ys).bind fun r=>some (a==b&&r) else none
  | some .bool,some (.c (.bool a)),some (.c (.bool b))=>(Ayg P fs xs ys).bind fun r=>some (a==b&&r)
  | some .string,some (.c (.string a)),some (.c (.string b))=>(Ayg P fs xs ys).bind fun r=>some (a.toList==b.toList&&r)
  | _,_,_=>none
def At5 (P:Program) (s:St) (op:BinOp) (T:TypeId) (x y:Operand):Option Value:=
 match P.underlying T,s.value x,s.value y with
 | some (.struct fs),some (.ag xs),some (.ag ys)=>if P.stoodInHeld T=false then (if P.eqGuardType P.depth T=false then (Ayg P fs.toList xs ys).bind fun r=>match op with
  | .eql=>some (.bool r)
  | .neq=>some (.bool (!r))
  | _=>none else none) else none
 | _,_,_=>none
section
variable {P:Program} {n B:Nat} {Iq:List Nat} {s:St} {g:Gh} {a:Act} {w:World}
theorem P3 {c:Bool} {r:List Bool} (h:Ra (c::r)=true):c=true∧Ra r=true:=by simpa [Ra] using h
theorem A3 {c:Prop} [Decidable c] {r:List Bool} (h:Ra (decide c::r)=true):c∧Ra r=true:=by
 obtain ⟨h1,h2⟩:=P3 h
 exact ⟨Hm h1,h2⟩
theorem Aq1 (h:B5 n B Iq s g a w) {T:TypeId} {x y:Operand} {v:Value} (e:Nm (Aeg P s T x y)=some v):(Instr.index T (a.eval x) (a.eval y)).run P w=.ok v w∧v.oneCell'=true:=by
 obtain ⟨cs,e,hc⟩:=Cg e
 unfold Aeg at e
 split at e<;>cases e
 rename_i q k i hU hx hy
 obtain ⟨h0,hc⟩:=A3 hc
 obtain ⟨h1,_⟩:=A3 hc
 rw [(C7 h hx).1,(C7 h hy).1,run_index_string w T q k i hU,dif_pos ⟨h0,h1⟩]
 refine ⟨?_,rfl⟩
 have hlt:i.toNat < q.data.toList.length:=by
  rw [Array.length_toList]
  show i.toNat < q.size
  omega
 unfold At
 rw [List.getD_eq_getElem?_getD,List.getElem?_eq_getElem hlt]
 rfl
theorem Aq2 (h:B5 n B Iq s g a w) {T:TypeId} {x:Operand} {lo hi mx:Option Operand} {v:Value} (e:Nm (Aeh P s T x lo hi mx)=some v):
  (Instr.sliceAt T (a.eval x) (lo.map a.eval) (hi.map a.eval) (mx.map a.eval)).run P w=.ok v w∧v.oneCell'=true:=by
 obtain ⟨cs,e,hc⟩:=Cg e
 unfold Aeh at e
 split at e
 ·rename_i q hU hx hm
  rw [Option.map_none,run_sliceAt_string _ _ _ _ _ _ hU,(C7 h hx).1]
  split at e
  ·cases e
   refine ⟨?_,rfl⟩
   have:q.extract 0 q.size=q:=by
    apply ByteArray.ext
    rw [ByteArray.data_extract]
    exact Array.extract_size
   show (Instr.slice T (.string q) none none none).run P w=_
   rw [Go.run_slice_string_all _ _ _ hU,this]
  ·rename_i l
   split at e<;>cases e
   rename_i k i hl
   obtain ⟨h0,hc⟩:=A3 hc
   obtain ⟨h1,_⟩:=A3 hc
   refine ⟨?_,rfl⟩
   rw [Option.map_some,(C7 h hl).1,Option.map_none,run_slice_string_from_if _ _ _ _ _ hU,if_pos ⟨h0,h1⟩]
   rfl
  ·rename_i l
   split at e<;>cases e
   rename_i k j hl
   obtain ⟨h0,hc⟩:=A3 hc
   obtain ⟨h1,_⟩:=A3 hc
   refine ⟨?_,rfl⟩
   rw [Option.map_some,(C7 h hl).1,Option.map_none,run_slice_string_to_if _ _ _ _ _ hU,if_pos ⟨h0,h1⟩]
   rfl
  ·rename_i l hh
   split at e<;>cases e
   rename_i k i k' j hl hr
   obtain ⟨h0,hc⟩:=A3 hc
   obtain ⟨h1,hc⟩:=A3 hc
   obtain ⟨h2,_⟩:=A3 hc
   refine ⟨?_,rfl⟩
   rw [Option.map_some,Option.map_some,(C7 h hl).1,(C7 h hr).1,run_slice_string _ _ _ _ _ _ _ hU h0 h1 h2]
   rfl
 ·cases e
theorem Avx (h:B5 n B Iq s g a w) {op:BinOp} {T:TypeId} {x y:Operand} {v:Value} (e:Nm (Anw s op x y)=some v):
  ((do eqGuard op T x y (a.eval x) (a.eval y); binOp op T (a.eval x) (a.eval y)):Sem Value).run P w=.ok v w∧v.oneCell'=true:=by
 obtain ⟨cs,e,hc⟩:=Cg e
 unfold Anw at e
 split at e<;>cases e
 rename_i p q hx hy
 obtain ⟨h0,_⟩:=A3 hc
 rw [(C7 h hx).1,(C7 h hy).1,eqGuard_add,binOp_string_add]
 refine ⟨?_,rfl⟩
 simp only [Sem.run_bind,Sem.run_pure,Result.andThen_ok]
 exact run_string_add_sum w p q h0
theorem Anx (h:B5 n B Iq s g a w) {op:BinOp} {T:TypeId} {x y:Operand} {v:Value} (e:Nm (Avw s op x y)=some v):
  ((do eqGuard op T x y (a.eval x) (a.eval y); binOp op T (a.eval x) (a.eval y)):Sem Value).run P w=.ok v w∧v.oneCell'=true:=by
 obtain ⟨cs,e,hc⟩:=Cg e
 unfold Avw at e
 split at e
 ·split at e<;>cases e
  rename_i k p k' q hx hy hk
  subst hk
  obtain ⟨h0,_⟩:=P3 hc
  have h0:¬ q=0:=by simpa using h0
  rw [(C7 h hx).1,(C7 h hy).1,eqGuard_rem]
  refine ⟨?_,rfl⟩
  simp [binOp,Op.intDiv,h0]
 ·split at e<;>cases e
  rename_i k p k' q hx hy hk
  subst hk
  obtain ⟨h0,_⟩:=P3 hc
  have h0:¬ q=0:=by simpa using h0
  rw [(C7 h hx).1,(C7 h hy).1,eqGuard_quo]
  refine ⟨?_,rfl⟩
  simp [binOp,Op.intDiv,h0]
 ·cases e
  rename_i k p k' q hx hy
  obtain ⟨h0,_⟩:=P3 hc
  have h0:¬ q < 0:=by simpa using h0
  rw [(C7 h hx).1,(C7 h hy).1,eqGuard_shl]
  refine ⟨?_,rfl⟩
  simp [binOp,Op.shift,h0]
 ·cases e
theorem Azw {t:TypeId} (hA:Afv P t=some false) {cs:Array Value} {off:Nat} {v:Value} (hv:cs[off]? = some v):(part t cs off).run P w=.ok v w:=by
 simp [part,Xf hA w,hv]
theorem Avy:∀ {fs:List Field} {xs ys:List Lf} {r:Bool},Ayg P fs xs ys=some r→∀ {cs ds:Array Value},Hl s g w xs cs.toList→Hl s g w ys ds.toList→(Op.eqFields 9999 cs ds fs).run P w=.ok r w
 | [],xs,ys,r,e,cs,ds,_,_=>by cases e; rfl
 | f::fs,xs,ys,r,e,cs,ds,hx,hy=>by
  unfold Ayg at e
  split at e
  ·cases e
  ·rename_i hn
   have fin:∀ {u v:Value} {q:Bool},Afv P f.type=some false→cs[f.offset]? = some u→ds[f.offset]? = some v→(Op.equalIn 9999 f.type u v).run P w=.ok q w→
     ((Ayg P fs xs ys).bind fun r=>some (q&&r))=some r→(Op.eqFields 9999 cs ds (f::fs)).run P w=.ok r w:=by
    intro u v q hA h1 h2 h3 h4
    obtain ⟨r',e1,e2⟩:=A6 h4
    cases e2
    have ih:=Avy e1 hx hy
    simp only [Op.eqFields,ne_eq,hn,not_false_eq_true,if_true,Sem.run_bind,Azw hA h1,Azw hA h2,Result.andThen_ok,h3]
    cases q
    ·simp
    ·simpa using ih
   have cell:∀ {l:List Lf} {c:Array Value} {u:Value},Hl s g w l c.toList→l[f.offset]? = some (.c u)→c[f.offset]? = some u:=by
    intro l c u hL hl
    obtain ⟨v,e1,e2,_⟩:=hL.get hl
    cases e2
    rw [← Array.getElem?_toList]
    exact e1
   split at e
   ·rename_i k0 k p k' q hU h1 h2
    split at e
    ·rename_i hk
     subst hk
     refine fin (q:=p==q) (by unfold Afv; rw [hU]) (cell hx h1) (cell hy h2) (run_equalIn_int w 9998 _ _ _ _ _ hU) e
    ·cases e
   ·rename_i p q hU h1 h2
    exact fin (q:=p==q) (by unfold Afv; rw [hU]) (cell hx h1) (cell hy h2) (run_equalIn_bool' w 9998 _ _ _ hU) e
   ·rename_i p q hU h1 h2
    exact fin (q:=p.toList==q.toList) (by unfold Afv; rw [hU]) (cell hx h1) (cell hy h2) (run_equalIn_string w 9998 _ _ _ hU) e
   ·cases e
theorem Asi (h:B5 n B Iq s g a w) {op:BinOp} {T:TypeId} {x y:Operand} {v:Value} (e:At5 P s op T x y=some v):
  ((do eqGuard op T x y (a.eval x) (a.eval y); binOp op T (a.eval x) (a.eval y)):Sem Value).run P w=.ok v w∧v.oneCell'=true:=by
 unfold At5 at e
 split at e
 ·rename_i fs xs ys hU hx hy
  split at e
  ·rename_i hp
   split at e
   ·rename_i hm
    obtain ⟨r,e1,e⟩:=A6 e
    obtain ⟨cs,hcs,hX⟩:=Zc h hx
    obtain ⟨ds,hds,hY⟩:=Zc h hy
    have hf:P.fieldsOf T=fs:=by simp [Program.fieldsOf,hU]
    have hrun:=Avy e1 hX hY
    have heq:(Op.equalIn 10000 T (.agg cs) (.agg ds)).run P w=.ok r w:=by
     rw [run_equalIn_agg w 9999 T cs ds (by rw [hf]; exact hU) hp,hf]
     exact hrun
    rw [hcs,hds]
    simp only [Sem.run_bind,run_eqGuard_agg w _ _ _ _ _ _ hm,Result.andThen_ok]
    split at e<;>cases e
    ·exact ⟨by rw [run_eql_struct,heq]; rfl,rfl⟩
    ·exact ⟨by rw [run_neq_struct,heq]; rfl,rfl⟩
   ·cases e
  ·cases e
 ·cases e
theorem A3b {w:World} {S:Nat→Prop} (q:Ab):Iv w S tMk (Ax5 (Ad q)) (byteCells q):=by
 obtain ⟨h1,h2⟩:=Iv.bytes (w:=w) (S:=S) q
 refine ⟨?_,fun i x hx=>?_⟩
 ·rw [h1]
  show (Ad q).length * 1=(Ax5 (Ad q)).length * 1
  simp [Ax5]
 ·have hx':((Ad q).map fun x=>(x,()))[i]? = some x:=hx
  rw [List.getElem?_map] at hx'
  cases hq:(Ad q)[i]? with
  | none=>rw [hq] at hx'; cases hx'
  | some y=>
   rw [hq] at hx'
   cases hx'
   have:=h2 i y hq
   exact ⟨_,[],(List.append_nil _).symm,this,rfl⟩
theorem Aq3 (h:B5 n B Iq s g a w) {nid:Nat} {src dst:TypeId} {x:Operand} {l:Lf} {s':St} (e:Nm (Aea P s nid src dst x)=some (l,s')):
  ∃ u w' g',(convert src dst (a.eval x)).run P w=.ok u w'∧Go B Iq s g w s' g' w'∧B5 n B Iq s' g' a w'∧Dp s' g' w' l u∧u.oneCell'=true:=by
 obtain ⟨cs,e,hc⟩:=Cg e
 unfold Aea at e
 split at e
 ·rename_i el q hf hU hD hq
  split at e
  ·rename_i hE
   cases e
   obtain ⟨hc,_⟩:=A3 hc
   have hlen:(Ax5 (Ad q)).length=q.size:=by simp [Ax5,Ad]
   have hge:=grownCap_ge w q.size 0 el
   have hcm:=grownCap_le_maxLen w q.size 0 el (by simp only [maxLen]; omega)
   have hsz:(bytesRow q (grownCap w q.size 0 el)).size=grownCap w q.size 0 el:=by
    unfold bytesRow
    simp
    omega
   have hrun:=run_bytes_of_string (P:=P) w src dst el q hU hD hE
   rw [hsz] at hrun
   have hg:w.grownBy (w.drew.alloc (.cells (bytesRow q (grownCap w q.size 0 el)) el (grownCap w q.size 0 el,grownCap w q.size 0 el + 1))) (Value.ownBlock (.slice none 0 0)):=
    ⟨rfl,rfl,rfl,by simp,fun j hj _=>Below.heap_alloc w.drew _ j hj⟩
   have hown:N3 (w.drew.alloc (.cells (bytesRow q (grownCap w q.size 0 el)) el (grownCap w q.size 0 el,grownCap w q.size 0 el + 1))) tMk 0 el (Ty.sz tMk) (.slice (some ⟨w.heap.size,0,none⟩) q.size (grownCap w q.size 0 el)) (Ax5 (Ad q)).length (byteCells q):=by
    rw [hlen]
    refine ⟨by simp [byteCells,Ty.sz],.inr ⟨w.heap.size,grownCap w q.size 0 el,_,rfl,Nat.zero_le _,?_,hge,hcm,by rw [hsz]; exact (Nat.mul_one _).symm,?_⟩⟩
    ·have:Ax4 tMk (grownCap w q.size 0 el * Ty.sz tMk)=(grownCap w q.size 0 el,grownCap w q.size 0 el + 1):=by
      show (grownCap w q.size 0 el * 1,grownCap w q.size 0 el * 1 + 1)=_
      rw [Nat.mul_one]
     rw [this]
     exact heap_alloc_new w.drew _
    ·show (bytesRow q (grownCap w q.size 0 el)).toList.take (q.size * 1)=byteCells q
     rw [Nat.mul_one]
     unfold bytesRow byteCells
     rw [Array.toList_append,List.take_append_of_le_length (by simp)]
     rw [List.take_of_length_le (by simp)]
     simp
   obtain ⟨m1,m2,m3,m4⟩:=h.grow (o:=none) hf (v:=.slice none 0 0) (v':=.slice (some ⟨w.heap.size,0,none⟩) q.size (grownCap w q.size 0 el)) (fun id q=>by cases q) (fun _=>rfl) hg (.inr rfl) (Af1 hown) hown (fun _=>A3b q)
   refine ⟨_,_,_,?_,⟨m4,m1,m2,rfl⟩,m3,?_,Abm hown⟩
   ·rw [(C7 h hq).1]
    exact hrun
   ·simp only [Dp,Ao]
    simp [Gh.mv]
  ·cases e
 ·cases e
end
end
section
def Avz (P:Program) (s:St) (nid:Nat) (T:TypeId):Option (AV×St):=
 match s.res nid,Afy P T with
 | .unborn,some el=>some (.vl (.lf (.row nid)),s.setRes nid (.row el.e el.t []))
 | _,_=>none
def Af4 (s:St) (x:Operand):Bool:=match s.leaf x with
 | some (.rp id _ _)=>(match s.res id with
  | .last _ _ _ _ _=>true
  | _=>false)
 | _=>false
def Abp (s:St) (x:Operand):Bool:=match s.leaf x with
 | some (.row id)=>(match s.res id with
  | .last _ _ _ _ _=>true
  | _=>false)
 | _=>false
def A3c (P:Program) (T:TypeId) (len:Nat):Bool:=match Afy P T with
 | some el=>(match el.t with
  | .sl _=>Nat.beq len 1
  | _=>false)
 | none=>false
def At6 (P:Program) (s:St) (T:TypeId) (x:Operand):Option (List Bool×Lf):=match s.leaf x,Afv P T with
 | some (.rp id i off),some false=>match s.res id with
  | .last e t xs c j=>match s.res j with
   | .row _ _ _=>if off=0 then some ([c,decide (i=xs.length)],.row j) else none
   | _=>none
  | _=>none
 | _,_=>none
def Af5 (P:Program) (s:St) (T:TypeId) (x y:Operand):Option (List Bool×St):=match s.leaf x,s.leaf y,P.info? T with
 | some (.rp id i off),some (.row k),some inf=>match s.res id with
  | .last e t xs c j=>match s.res k with
   | .row _ t' _=>if off=0 then (if inf.size=1 then (if t'=t then some ([c,decide (i=xs.length)],s.setRes id (.last e t xs c k)) else none) else none) else none
   | _=>none
  | _=>none
 | _,_,_=>none
def Xh (P:Program) (s:St) (T:TypeId) (x y:Operand):Option (List Bool×Lf):=match P.underlying T with
 | some (.slice e0)=>match P.info? e0,s.leaf x,s.conc y with
  | some inf,some (.row id),some (.int _ n)=>match s.res id with
   | .last e t xs c j=>if inf.size=1 then some ([decide (0≤n),decide (n < ((xs.length + c.toNat:Nat):Int))],.rp id n.toNat 0) else none
   | _=>none
  | _,_,_=>none
 | _=>none
def Air (P:Program) (s:St) (T:TypeId) (x:Operand):Option Value:=match P.underlying T with
 | some (.slice _)=>match s.leaf x with
  | some (.row id)=>match s.res id with
   | .last e t xs c j=>some (.int .i64 ((xs.length + c.toNat:Nat):Int))
   | _=>none
  | _=>none
 | _=>none
def At7 (s:St) (j:Nat):Bool:=match s.res j with
 | .row _ _ _=>true
 | _=>false
def Ais (P:Program) (s:St) (nid:Nat) (T:TypeId) (x y:Operand):Option (List Bool×Lf×St):=match Afy P T,s.leaf x,s.leaf y with
 | some el,some (.row ix),some (.row iy)=>match s.res ix,s.res iy with
  | .last e t xs c j,.last e2 t2 xs2 c2 j2=>match s.res j,s.res nid with
   | .row ej tj ys,.unborn=>if At7 s j2 then (if h:tj=t then (if e=el.e then (if el.t.sz=1 then
     some ([c2,decide (xs2.length=0),decide (el.t=.sl t),decide ((xs.length + c.toNat + 1) * el.bytes≤140737488355328)],.row nid,
      ((s.setRes j (.frozen t (h ▸ ys))).setRes ix .dead).setRes nid (.last el.e t (Y8 c xs (h ▸ ys)) true j2)) else none) else none) else none) else none
   | _,_=>none
  | _,_=>none
 | _,_,_=>none
def Af6 (P:Program) (s:St) (nid:Nat) (T:TypeId) (l:Lf):Option (Lf×St):=match Afy P T,s.res nid,l with
 | some el,.unborn,.row j=>match s.res j with
  | .row _ t _=>if el.t=.sl t then (if Nat.beq j nid then none else some (.row nid,s.setRes nid (.last el.e t [] true j))) else none
  | _=>none
 | _,_,_=>none
def Any (P:Program) (s:St) (nid:Nat) (T:TypeId) (parts:List (Nat×Operand)):Option (Lf×St):=match parts with
 | [(0,x)]=>match s.leaf x,Afy P T with
  | some (.c (.slice none 0 0)),some el=>(match Avz P s (nid + 1) el.e with
   | some (_,s1)=>Af6 P s1 nid T (.row (nid + 1))
   | none=>none)
  | some l,some _=>Af6 P s nid T l
  | _,_=>none
 | _=>none
section
variable {P:Program} {n B:Nat} {Iq:List Nat} {s:St} {g:Gh} {a:Act} {w:World}
theorem Azx (h:B5 n B Iq s g a w) {id j i:Nat} {e:TypeId} {t:Ty} {xs:List (List t.D)} {c:Bool} {u:Value} (hr:s.res id=.last e t xs c j) (hl:Dp s g w (.rp id i 0) u):
  ∃ b cap cs cur,u=.pointer (some ⟨b,i,none⟩)∧g.blk id=some b∧g.hdr id=.slice (some ⟨b,0,none⟩) (xs.length + c.toNat) cap∧w.heap[b]? = some (.cells cur e (0,0))∧i < xs.length + c.toNat∧
   xs.length + c.toNat≤cap∧cap≤maxLen∧cur.size=cap * 1∧cur.toList.take ((xs.length + c.toNat) * 1)=cs∧Iv w (Ev s g) (.sl t) xs (cs.take xs.length)∧cs.length=xs.length + c.toNat∧
   (∀ u,c=true→cs[xs.length]? = some u→match s.res j with
    | .row _ _ _=>u=g.hdr j
    | .frozen _ _=>u=g.hdr j
    | .dead=>True
    | _=>False):=by
 have r:=h.res id
 rw [hr] at r
 obtain ⟨cs,h1,h2,h3,h4⟩:=r
 simp only [Dp,hr,Nat.add_zero] at hl
 obtain ⟨hi,b,hb,hu⟩:=hl
 obtain ⟨hlen,hown⟩:=h1
 rcases hown with ⟨hv,hn⟩ | ⟨gg,cap,cur,hv,_,hh,hcap,hmx,hsz,hcs⟩
 ·omega
 ·have hbg:b=gg:=by
   rw [h3,hv] at hb
   exact (Option.some.inj hb).symm
  subst hbg
  exact ⟨b,cap,cs,cur,hu,hb,hv,hh,hi,hcap,hmx,hsz,hcs,h2,by simpa using hlen,h4⟩
theorem Ayh (h:B5 n B Iq s g a w) {T:TypeId} {x:Operand} {l:Lf} (e:Nm (At6 P s T x)=some l):∃ u,(Instr.loadAt T (a.eval x)).run P w=.ok u w∧Dp s g w l u∧u.oneCell'=true:=by
 obtain ⟨cs0,e,hc⟩:=Cg e
 unfold At6 at e
 split at e
 ·rename_i id i off hx hA
  split at e
  ·rename_i e0 t xs c j hr
   split at e
   ·rename_i ej tj ys hj
    split at e<;>cases e
    rename_i h0
    subst h0
    obtain ⟨hc1,hc⟩:=P3 hc
    obtain ⟨hc2,_⟩:=A3 hc
    subst hc1
    obtain ⟨hl,_⟩:=C8 h hx
    obtain ⟨b,cap,cs,cur,hu,hb,hv,hh,hi,hcap,_,hsz,hcs,h2,hlen,h4⟩:=Azx h hr hl
    simp only [Bool.toNat_true] at hi hlen hcs
    obtain ⟨u,hu2⟩:∃ u,cs[xs.length]? = some u:=⟨_,List.getElem?_eq_getElem (by omega)⟩
    have hq:=h4 u rfl hu2
    rw [hj] at hq
    simp only at hq
    have hcur:cur[i]? = some u:=by
     rw [← hcs,List.getElem?_take] at hu2
     split at hu2
     ·rw [← Array.getElem?_toList,hc2]; exact hu2
     ·cases hu2
    have h1:u.oneCell'=true:=by
     have rj:=h.res j
     rw [hj] at rj
     obtain ⟨_,q1,_⟩:=rj
     rw [hq]
     exact Abm q1
    refine ⟨u,?_,by simp only [Dp,hj]; exact hq,h1⟩
    rw [hu]
    have hb1:Y9 P T [.c u]=some (.lf (.c u)):=by simp [Y9,hA]
    obtain ⟨u',hr',hv'⟩:=Zd (s:=s) (g:=g) (w:=w) (ad:=⟨b,i,none⟩) hb1 (cs:=[u]) ⟨⟨rfl,h1⟩,trivial⟩ (fun k v hk=>by
     cases k with
     | zero=>
      simp at hk
      subst hk
      rw [Afu,Nat.add_zero,cell_of_row w b _ cur e0 (0,0) hh]
      exact hcur
     | succ k=>simp at hk)
    cases hv'.1
    simpa [Instr.loadAt,Instr.sureAddr] using hr'
   ·cases e
  ·cases e
 ·cases e
theorem Av0 (h:B5 n B Iq s g a w) {T:TypeId} {x y:Operand} {l:Lf} (e:Nm (Xh P s T x y)=some l):∃ u,(Instr.indexAt T (a.eval x) (a.eval y)).run P w=.ok u w∧Dp s g w l u∧u.oneCell'=true:=by
 obtain ⟨cs0,e,hc⟩:=Cg e
 unfold Xh at e
 split at e
 ·rename_i el hU
  have hel:P.elem T=el:=by simp [Program.elem,hU]
  have hU':P.underlying T=some (.slice (P.elem T)):=by rw [hel]; exact hU
  split at e
  ·rename_i inf id k m hi hx hy
   split at e
   ·rename_i e0 t xs c j hr
    split at e<;>cases e
    rename_i hsz
    obtain ⟨h0,hc⟩:=A3 hc
    obtain ⟨h1,_⟩:=A3 hc
    obtain ⟨hl,_⟩:=C8 h hx
    have r:=h.res id
    rw [hr] at r
    obtain ⟨cs,q1,q2,q3,_⟩:=r
    simp only [Dp,hr] at hl
    rcases q1.2 with ⟨hv,hn⟩ | ⟨gg,cap,cur,hv,_⟩
    ·omega
    ·refine ⟨.pointer (some ((⟨gg,0,none⟩:Addr).add (m.toNat * 1))),?_,?_,rfl⟩
     ·rw [(C7 h hy).1,hl,hv,run_indexAt_slice w T _ _ _ k m hU',if_pos ⟨h0,h1⟩,hel]
      simp [sizeOf,typeInfo,hi,hsz,Result.andThen]
     ·simp only [Dp,hr]
      refine ⟨by omega,gg,by rw [q3,hv]; rfl,by rw [Atu,Nat.mul_one]; rfl⟩
   ·cases e
  ·cases e
 ·cases e
theorem A1m (h:B5 n B Iq s g a w) {T ty:TypeId} {x:Operand} {v:Value} (e:Air P s T x=some v):(Builtin.len_ #[T] ty #[a.eval x]).run P w=.ok v w∧v.oneCell'=true:=by
 unfold Air at e
 split at e
 ·rename_i el hU
  have hel:P.elem T=el:=by simp [Program.elem,hU]
  have hU':P.underlying T=some (.slice (P.elem T)):=by rw [hel]; exact hU
  split at e
  ·rename_i id hx
   split at e
   ·rename_i e0 t xs c j hr
    cases e
    obtain ⟨hl,_⟩:=C8 h hx
    have r:=h.res id
    rw [hr] at r
    obtain ⟨cs,q1,q2,q3,_⟩:=r
    simp only [Dp,hr] at hl
    have:∃ A cap,g.hdr id=.slice A (xs.length + c.toNat) cap:=by
     rcases q1.2 with ⟨hv,hn⟩ | ⟨gg,cap,cur,hv,_⟩
     ·exact ⟨none,0,by rw [hv,hn]⟩
     ·exact ⟨_,_,hv⟩
    obtain ⟨A,cap,hv⟩:=this
    rw [hl,hv,run_len_slice w T ty A _ cap hU']
    exact ⟨rfl,rfl⟩
   ·cases e
  ·cases e
 ·cases e
theorem Av1 (h:B5 n B Iq s g a w) {nid:Nat} {T:TypeId} {av:AV} {s':St} (e:Avz P s nid T=some (av,s')):
  ∃ g',Go B Iq s g w s' g' w∧B5 n B Iq s' g' a w∧Wz s' g' w av (.slice none 0 0):=by
 unfold Avz at e
 split at e<;>cases e
 rename_i el hf hel
 have hS:∀ b,Ev s g b→b < w.heap.size→Ev (s.setRes nid (.row el.e el.t [])) ⟨Vf g.blk nid none,Vf g.hdr nid (.slice none 0 0),g.av⟩ b∧w.heap[b]? = w.heap[b]? := by
  intro b hb _
  refine ⟨⟨hb.1,fun j hj hk=>?_⟩,rfl⟩
  by_cases q:j=nid
  ·subst q; simp at hk
  ·rw [Ap s _ q] at hj
   simp only [Ax _ _ q] at hk
   exact hb.2 j hj hk
 have hI:∀ j,Ay s g (s.setRes nid (.row el.e el.t [])) ⟨Vf g.blk nid none,Vf g.hdr nid (.slice none 0 0),g.av⟩ j:=by
  intro j
  by_cases q:j=nid
  ·subst q
   unfold Ay
   rw [hf]
   exact .inr trivial
  ·exact Ay.same (Ap s _ q) (by simp [Ax _ _ q]) (by simp [Ax _ _ q])
 refine ⟨_,⟨Kp.refl B Iq w,hS,hI,rfl⟩,h.step h.size h.defers (Nat.le_refl _) hS hI (fun i=>.inl ⟨rfl,rfl⟩) (fun j=>?_) (fun i j b hi hj=>?_) (fun i b hi=>?_) rfl,?_⟩
 ·by_cases q:j=nid
  ·subst q
   right
   rw [Ao]
   refine ⟨[],⟨by simp,.inl ⟨by simp,rfl⟩⟩,Ans _ _,by simp [Value.ownBlock]⟩
  ·left
   exact ⟨Ap s _ q,by simp [Ax _ _ q],by simp [Ax _ _ q],fun _ _=>rfl⟩
 ·by_cases q1:i=nid
  ·simp [q1] at hi
  ·by_cases q2:j=nid
   ·simp [q2] at hj
   ·simp only [Ax _ _ q1] at hi
    simp only [Ax _ _ q2] at hj
    exact h.inj i j b hi hj
 ·by_cases q1:i=nid
  ·simp [q1] at hi
  ·simp only [Ax _ _ q1] at hi
   exact h.lt i b hi
 ·refine ⟨?_,rfl⟩
  simp only [Dp,Ao,A2]
theorem A1n {u:Value} (h:u.oneCell'=true):u.cells=#[u]:=by cases u<;>first | rfl | simp [Value.oneCell'] at h
theorem Av2 (h:B5 n B Iq s g a w) {T:TypeId} {x y:Operand} {s':St} (e:Nm (Af5 P s T x y)=some s'):
  ∃ w' g',(Instr.storeAt T (a.eval x) (a.eval y)).run P w=.ok () w'∧Go B Iq s g w s' g' w'∧B5 n B Iq s' g' a w':=by
 obtain ⟨cs0,e,hc⟩:=Cg e
 unfold Af5 at e
 split at e
 ·rename_i id i off k inf hx hy hinf
  split at e
  ·rename_i e0 t xs c j hr
   split at e
   ·rename_i ek tk ys hk
    split at e
    ·rename_i h0
     split at e
     ·rename_i hsz1
      split at e<;>cases e
      rename_i ht
      subst ht
      subst h0
      obtain ⟨hc1,hc⟩:=P3 hc
      obtain ⟨hc2,_⟩:=A3 hc
      subst hc1
      obtain ⟨hl,_⟩:=C8 h hx
      obtain ⟨hly,h1y⟩:=C8 h hy
      simp only [Dp,hk] at hly
      obtain ⟨b,cap,cs,cur,hu,hb,hv,hh,hi,hcap,hmx,hsz,hcs,h2,hlen,h4⟩:=Azx h hr hl
      simp only [Bool.toNat_true] at hi hlen hcs hcap hv
      have hcl:=A1n h1y
      have hrun:=Zf (P:=P) (T:=T) hinf hh (fun q=>absurd q (Nat.lt_irrefl 0)) (v:=a.eval y) (off:=i) (by rw [hcl,hsz1]; rfl) (by rw [hcl]; simp; omega) (by rw [hcl]; simpa using h1y)
      rw [← hu,hcl] at hrun
      have hne:∀ k,k≠b→(w.setRow b (cur.toList.take i++#[a.eval y].toList++cur.toList.drop (i + #[a.eval y].toList.length)).toArray).heap[k]? = w.heap[k]? := fun k hk=>setRow_other w b k _ hk
      have hlive:(s.res id).live=true:=by rw [hr]; rfl
      have hS:∀ c,Ev s g c→c < w.heap.size→Ev (s.setRes id (.last e0 tk xs true k)) g c∧(w.setRow b (cur.toList.take i++#[a.eval y].toList++cur.toList.drop (i + #[a.eval y].toList.length)).toArray).heap[c]? = w.heap[c]? := by
       intro c hc _
       refine ⟨⟨hc.1,fun j hj=>?_⟩,hne c (fun q=>hc.2 id hlive (by rw [q]; exact hb))⟩
       by_cases q:j=id
       ·rw [q]; exact hc.2 id hlive
       ·rw [Ap s _ q] at hj; exact hc.2 j hj
      have hI:∀ j,Ay s g (s.setRes id (.last e0 tk xs true k)) g j:=by
       intro j
       by_cases q:j=id
       ·subst q
        unfold Ay
        rw [hr,Ao]
        exact .inr (.inl ⟨_,_,_,_,_,rfl,rfl,rfl,rfl⟩)
       ·exact Ay.same (Ap s _ q) rfl rfl
      have hik:k≠id:=fun q=>by rw [q,hr] at hk; cases hk
      refine ⟨_,g,hrun,⟨⟨rfl,rfl,rfl,by simp,fun k hk hn=>hne k (fun q=>?_)⟩,hS,hI,rfl⟩,h.step h.size h.defers (by simp) hS hI (fun i=>.inl ⟨rfl,rfl⟩) (fun j'=>?_) h.inj (fun j' c hj=>?_) rfl⟩
      ·subst q
       rcases (h.lt id k hb).2.1 with q2 | q2
       ·exact hn q2
       ·omega
      ·by_cases q:j'=id
       ·subst q
        right
        rw [Ao]
        have hcur:cur.toList.length=cap:=by rw [Array.length_toList]; omega
        have htk:(cur.toList.take i++#[a.eval y].toList++cur.toList.drop (i + #[a.eval y].toList.length)).take ((xs.length + 1) * 1)=cur.toList.take i++[a.eval y]:=by
         rw [← hc2]
         have:(cur.toList.take i++#[a.eval y].toList).length=(i + 1) * 1:=by simp; omega
         rw [← this]
         exact List.take_left
        refine ⟨cur.toList.take i++[a.eval y],⟨by simp; omega,.inr ⟨b,cap,_,hv,Nat.zero_le _,setRow_heap w b cur _ e0 _ hh,by simpa using hcap,hmx,?_,htk⟩⟩,?_,by rw [hb,hv]; rfl,fun u _ hu2=>?_⟩
        ·simp only [List.size_toArray,Fg,List.length_take,List.length_drop,hcur]
         simp
         omega
        ·have e1:(cur.toList.take i++[a.eval y]).take xs.length=cs.take xs.length:=by
          rw [← hc2,← hcs,List.take_take,List.take_append_of_le_length (by simp; omega),List.take_take]
          congr 1
          omega
         rw [e1]
         exact h2.keep hS
        ·rw [List.getElem?_append_right (by simp; omega)] at hu2
         have:xs.length - (cur.toList.take i).length=0:=by simp; omega
         rw [this] at hu2
         simp at hu2
         rw [Ap s _ hik,hk]
         exact hu2.symm.trans hly
       ·left
        exact ⟨Ap s _ q,rfl,rfl,fun c hc=>hne c (fun q2=>q (h.inj j' id c hc (by rw [q2]; exact hb)))⟩
      ·have:=h.lt j' c hj
       simpa using this
     ·cases e
    ·cases e
   ·cases e
  ·cases e
 ·cases e
theorem Av3 {j:Nat} (h:At7 s j=true):∃ (e:TypeId) (t:Ty) (ys:List t.D),s.res j=.row e t ys:=by
 unfold At7 at h
 split at h
 ·exact ⟨_,_,_,by assumption⟩
 ·cases h
theorem At8 (h:B5 n B Iq s g a w) {nid:Nat} {T ty:TypeId} {x y:Operand} {l:Lf} {s':St} (e:Nm (Ais P s nid T x y)=some (l,s')):
  ∃ u w' g',(Builtin.append_ #[T,T] ty #[a.eval x,a.eval y]).run P w=.ok u w'∧Go B Iq s g w s' g' w'∧B5 n B Iq s' g' a w'∧Dp s' g' w' l u∧u.oneCell'=true:=by
 obtain ⟨cs0,e,hc⟩:=Cg e
 unfold Ais at e
 split at e
 ·rename_i el ix iy hel hx hy
  split at e
  ·rename_i e0 t xs c j e2 t2 xs2 c2 j2 hr hr2
   split at e
   ·rename_i ej tj ys hj hnid
    split at e
    ·rename_i hl2
     split at e
     ·rename_i ht
      split at e
      ·rename_i he
       split at e<;>cases e
       rename_i hsz
       subst ht
       obtain ⟨c1,hc⟩:=P3 hc
       obtain ⟨c3,hc⟩:=A3 hc
       obtain ⟨c4,hc⟩:=A3 hc
       obtain ⟨c5,_⟩:=A3 hc
       subst c1
       obtain ⟨ej2,tj2,ys2,hj2⟩:=Av3 hl2
       obtain ⟨hU,_,_,hby,⟨i,z,hi,hz,hi1,hi2,hzs⟩,_⟩:=Af0 hel
       obtain ⟨f1,f2,f3⟩:=A7v h hj
       have hixj:ix≠j:=fun q=>by rw [q,hj] at hr; cases hr
       have hr':(s.setRes j (.frozen tj ys)).res ix=.last e0 tj xs c j:=(Ap s _ hixj).trans hr
       obtain ⟨cs,k1,k2,k3,k4⟩:=Avs f3 hr' (Ao s j _)
       have hlx:a.eval x=g.hdr ix:=by
        obtain ⟨hl,_⟩:=C8 h hx
        simpa only [Dp,hr] using hl
       have hly:a.eval y=g.hdr iy:=by
        obtain ⟨hl,_⟩:=C8 h hy
        simpa only [Dp,hr2] using hl
       have ry:=h.res iy
       rw [hr2] at ry
       obtain ⟨csy,y1,y2,y3,y4⟩:=ry
       rw [c3] at y1 y4
       simp only [Bool.toNat_true] at y1
       have hyl:csy.length=1:=by simpa using y1.1
       obtain ⟨u,rfl⟩:∃ u,csy=[u]:=by
        match csy,hyl with
        | [u],_=>exact ⟨u,rfl⟩
       have hu:=y4 u rfl rfl
       rw [hj2] at hu
       simp only at hu
       have hu1:u.oneCell'=true:=by
        have rj:=h.res j2
        rw [hj2] at rj
        obtain ⟨_,q1,_⟩:=rj
        rw [hu]
        exact Abm q1
       have hsrc:Src P i.size T (a.eval y) 1 [u] w:=by
        rw [hi1,hsz,hly]
        rcases y1.2 with ⟨_,hn⟩ | ⟨b,cap,cur,hv,_⟩
        ·omega
        ·have hc:=y1.cells (g:=b) (by rw [hv]; rfl)
         rw [hv]
         exact Src.ofSlice w hU _ _ cap [u] (by simp) hc (by simpa using hu1)
       have kk:w.ownsRow 0 el.e i.size (a.eval x) (Y8 c xs ys).length cs:=by
        refine (P1 (t:=.sl tj) rfl).1 ?_
        rw [hi1,hsz,hlx,← he]
        exact k1
       have hlen:xs.length + c.toNat + 1≤140737488355328:=Nat.le_trans (Nat.le_mul_of_pos_right _ hby) c5
       obtain ⟨v',w',q1,q2,q3,q4⟩:=At1 w T T ty el.e i z hU hi hz (by rw [hzs,hi1]) kk hsrc (by simp only [maxLen]; omega) (by rw [hi2,k4]; exact c5)
       have q2:=(P1 (t:=.sl tj) rfl).2 q2
       have hcl:cs.length=(Y8 c xs ys).length:=by simpa [Ty.sz] using k1.1
       have hnj:nid≠j:=fun q=>by rw [q,hj] at hnid; cases hnid
       have hnix:nid≠ix:=fun q=>by rw [q,hr] at hnid; cases hnid
       have hf1:(s.setRes j (.frozen tj ys)).res nid=.unborn:=(Ap s _ hnj).trans hnid
       obtain ⟨m1,m2,m3,m4⟩:=f3.growR (o:=some ix) hf1 (v:=a.eval x) (v':=v') (w':=w') (r:=.last el.e tj (Y8 c xs ys) true j2) (fun id q=>by
        cases q
        exact ⟨by rw [hr']; rfl,hlx,by rw [hlx]; exact k3⟩) (fun q=>by cases q) q3 q4 (Af1 q2) (fun hS _=>by
        refine ⟨cs++[u],?_,?_,?_,fun u' _ hu'=>?_⟩
        ·rw [hi1,hsz] at q2
         simpa [Gh.mv] using q2
        ·rw [← hcl,List.take_left]
         exact k2.keep hS
        ·simp [Gh.mv]
        ·rw [← hcl,List.getElem?_append_right (Nat.le_refl _),Nat.sub_self] at hu'
         have hu':u=u':=by simpa using hu'
         have h1:j2≠nid:=fun q=>by rw [q,hnid] at hj2; cases hj2
         have h2:j2≠ix:=fun q=>by rw [q,hr] at hj2; cases hj2
         rw [Ap _ _ h1]
         show match ((s.setRes j (.frozen tj ys)).setRes ix .dead).res j2 with
          | .row _ _ _=>_
          | .frozen _ _=>_
          | .dead=>_
          | _=>_
         rw [Ap _ _ h2]
         have hd:(Gh.mv (g.off j) (some ix) nid v').hdr j2=g.hdr j2:=by simp [Gh.mv,Gh.off,Ax _ _ h1]
         rw [hd]
         by_cases h3:j2=j
         ·rw [h3,Ao]
          rw [← h3]
          exact hu'.symm.trans hu
         ·rw [Ap _ _ h3,hj2]
          exact hu'.symm.trans hu)
       refine ⟨v',w',_,q1,Go.trans ⟨Kp.refl B Iq w,f1,f2,rfl⟩ ⟨m4,m1,m2,rfl⟩,m3,?_,Abm q2⟩
       simp only [Dp,Ao]
       simp [Gh.mv]
      ·cases e
     ·cases e
    ·cases e
   ·cases e
  ·cases e
 ·cases e
theorem Akm (h:B5 n B Iq s g a w) {nid:Nat} {T:TypeId} {l0:Lf} {u0:Value} (hl0:Dp s g w l0 u0) (h10:u0.oneCell'=true) {l:Lf} {s':St} (e:Af6 P s nid T l0=some (l,s')):
  ∃ u w' g',(Instr.buildSlice T 1 #[(0,u0)]).run P w=.ok u w'∧Go B Iq s g w s' g' w'∧B5 n B Iq s' g' a w'∧Dp s' g' w' l u∧u.oneCell'=true:=by
 unfold Af6 at e
 split at e
 ·rename_i el j hel hf
  split at e
  ·rename_i ej t ys hj
   split at e
   ·rename_i ht
    split at e<;>cases e
    obtain ⟨hU,hsz,hzl,hby,⟨i,z,hi,hz,hi1,hi2,hzs⟩,hzL⟩:=Af0 hel
    have hs1:el.t.sz=1:=by rw [ht]; rfl
    have hlj:u0=g.hdr j:=by simpa only [Dp,hj] using hl0
    have hnj:j≠nid:=fun q=>by rw [q,hf] at hj; cases hj
    obtain ⟨zv,_,hL0,i',hi',hz'⟩:=N4 hzL s g w
    obtain rfl:i=i':=Option.some.inj (hi.symm.trans hi')
    obtain rfl:z=zv:=Option.some.inj (hz.symm.trans hz')
    have hL1:=A67 hL0 (by omega) 1
    rw [hzl,hs1] at hL1
    have hfl:n9 (fun i=>some (i * 1,1)) (o6 el.z 1) [(0,.lf (.row j))]=some [.row j]:=by
     have:(o6 el.z 1).length=1:=by rw [Ze,hzl,hs1]
     match hq:o6 el.z 1,this with
     | [z0],_=>simp [n9,Vl.ls]
    obtain ⟨cs',f1,f2⟩:=At0 hfl (us:=[(0,u0)]) ⟨⟨rfl,hl0,h10⟩,trivial⟩ hL1
    obtain ⟨u',hcs'⟩:∃ u',cs'=#[u']:=by
     have:=f2.length
     simp at this
     exact ⟨cs'[0],by apply Array.ext<;>simp [this]; intro i p; subst p; rfl⟩
    subst hcs'
    have hu':u'=g.hdr j:=by
     have:=f2.1.1
     simpa only [Dp,hj] using this
    have hrun:(Instr.buildSlice T 1 #[(0,u0)]).run P w=.ok (.slice (some ⟨w.heap.size,0,none⟩) 1 1) (w.alloc (.cells #[u'] el.e)):=by
     refine run_buildSlice w T el.e 1 _ #[u'] i z hU hi hz (by rw [hi1,hs1]; decide) (by rw [hi1,hs1]; decide) ?_
     rw [hi1,hs1]
     exact f1
    have hS:=Abl h hf (.last el.e t [] true j) (.slice (some ⟨w.heap.size,0,none⟩) 1 1) (.cells #[u'] el.e)
    refine ⟨_,_,_,hrun,Go.alloc h hf _ (.slice (some ⟨w.heap.size,0,none⟩) 1 1) _,h.alloc hf _ (.slice (some ⟨w.heap.size,0,none⟩) 1 1) _ ⟨[u'],?_,?_,?_,fun u2 _ hu2=>?_⟩,?_,rfl⟩
    ·simp only [Gh.new,A2]
     exact (P1 (t:=.sl t) rfl).2 (World.ownsRow_lit w #[u'] 1 (Nat.zero_le _) (by decide) (by simp))
    ·exact ⟨rfl,fun i x hx=>by cases hx⟩
    ·simp only [Gh.new,A2,Value.ownBlock]
    ·simp at hu2
     rw [Ap _ _ hnj,hj]
     simp only [Gh.new,Ax _ _ hnj]
     exact hu2.symm.trans hu'
    ·simp only [Dp,Ao,Gh.new,A2]
   ·cases e
  ·cases e
 ·cases e
theorem Av4 (h:B5 n B Iq s g a w) {nid:Nat} {T:TypeId} {parts:Array (Nat×Operand)} {l:Lf} {s':St} (e:Any P s nid T parts.toList=some (l,s')):
  ∃ u w' g',(Instr.buildSlice T 1 (parts.map fun (i,x)=>(i,a.eval x))).run P w=.ok u w'∧Go B Iq s g w s' g' w'∧B5 n B Iq s' g' a w'∧Dp s' g' w' l u∧u.oneCell'=true:=by
 unfold Any at e
 split at e
 ·rename_i x hp
  have hpa:(parts.map fun (i,x)=>(i,a.eval x))=#[(0,a.eval x)]:=by
   have:parts=#[(0,x)]:=by
    apply Array.toList_inj.1
    rw [hp]
   rw [this]
   simp
  rw [hpa]
  split at e
  ·rename_i el hx hel
   split at e
   ·rename_i v1 s1 hn
    obtain ⟨g1,n1,n2,n3⟩:=Av1 h hn
    have hv1:v1=.vl (.lf (.row (nid + 1))):=by
     unfold Avz at hn
     split at hn<;>cases hn
     rfl
    subst hv1
    obtain ⟨hl,_⟩:=C8 h hx
    have hl:a.eval x=.slice none 0 0:=hl
    rw [hl]
    obtain ⟨u,w',g',k1,k2,k3,k4,k5⟩:=Akm n2 n3.1 n3.2 e
    exact ⟨u,w',g',k1,n1.trans k2,k3,k4,k5⟩
   ·cases e
  ·rename_i l0 el _ hx _
   obtain ⟨hl,h1⟩:=C8 h hx
   exact Akm h hl h1 e
  ·cases e
 ·cases e
end
end
section
theorem Ait {α β:Type} (f:α→β):∀ (l:List α) (i:Nat),(l.eraseIdx i).map f=(l.map f).eraseIdx i
 | [],_=>rfl
 | _::_,0=>rfl
 | a::l,i + 1=>by simp [List.eraseIdx_cons_succ,Ait f l i]
def o8 (a b:Ab):Bool:=ByteArray.toList a==ByteArray.toList b
theorem Gd {a b:Ab}:o8 a b=true↔a=b:=by
 unfold o8
 constructor
 ·intro h
  have h:a.toList=b.toList:=eq_of_beq h
  rw [ByteArray.toList_eq,ByteArray.toList_eq] at h
  apply ByteArray.ext
  exact Array.ext' h
 ·rintro rfl
  simp
theorem Xi {a b:Ab} (h:a≠b):o8 a b=false:=by
 cases hq:o8 a b
 ·rfl
 ·exact absurd (Gd.1 hq) h
def Ab6 {α:Type} (k:Ab) (v:α):List (Ab×α)→List (Ab×α)
 | []=>[(k,v)]
 | p::r=>bif o8 p.1 k then (k,v)::r else p::Ab6 k v r
def Ab7 {α:Type} (k:Ab):List (Ab×α)→List (Ab×α)
 | []=>[]
 | p::r=>bif o8 p.1 k then r else p::Ab7 k r
def Akn (k:Ab):List (Ab×Bool)→Bool
 | []=>false
 | p::r=>bif o8 p.1 k then p.2 else Akn k r
section
variable {α:Type} {k:Ab} {v:α}
theorem Asj:∀ {xs:List (Ab×α)},(∀ p∈xs,p.1≠k)→Ab6 k v xs=xs++[(k,v)]
 | [],_=>rfl
 | p::r,h=>by
  simp only [Ab6,Xi (h p (by simp)),cond_false]
  rw [Asj (fun q hq=>h q (by simp [hq]))]
  rfl
theorem Azy:∀ {xs:List (Ab×α)} {j:Nat} {y:α},xs[j]? = some (k,y)→(xs.map Prod.fst).Nodup→Ab6 k v xs=xs.set j (k,v)
 | [],j,y,h,_=>by simp at h
 | p::r,0,y,h,_=>by
  simp at h
  subst h
  simp only [Ab6,Gd.2 rfl,cond_true,List.set_cons_zero]
 | p::r,j + 1,y,h,hn=>by
  simp only [List.getElem?_cons_succ] at h
  simp only [List.map_cons,List.nodup_cons] at hn
  have:p.1≠k:=fun q=>hn.1 (List.mem_map.2 ⟨(k,y),List.mem_of_getElem? h,q.symm⟩)
  simp only [Ab6,Xi this,cond_false,List.set_cons_succ]
  rw [Azy h hn.2]
theorem Asl:∀ {xs:List (Ab×α)},(∀ p∈xs,p.1≠k)→Ab7 k xs=xs
 | [],_=>rfl
 | p::r,h=>by
  simp only [Ab7,Xi (h p (by simp)),cond_false]
  rw [Asl (fun q hq=>h q (by simp [hq]))]
theorem Azz:∀ {xs:List (Ab×α)} {j:Nat} {y:α},xs[j]? = some (k,y)→(xs.map Prod.fst).Nodup→Ab7 k xs=xs.eraseIdx j
 | [],j,y,h,_=>by simp at h
 | p::r,0,y,h,_=>by
  simp at h
  subst h
  simp only [Ab7,Gd.2 rfl,cond_true,List.eraseIdx_zero,List.tail_cons]
 | p::r,j + 1,y,h,hn=>by
  simp only [List.getElem?_cons_succ] at h
  simp only [List.map_cons,List.nodup_cons] at hn
  have:p.1≠k:=fun q=>hn.1 (List.mem_map.2 ⟨(k,y),List.mem_of_getElem? h,q.symm⟩)
  simp only [Ab7,Xi this,cond_false,List.eraseIdx_cons_succ]
  rw [Azz h hn.2]
theorem Anz:∀ {xs:List (Ab×Bool)},(∀ p∈xs,p.1≠k)→Akn k xs=false
 | [],_=>rfl
 | p::r,h=>by
  simp only [Akn,Xi (h p (by simp)),cond_false]
  exact Anz (fun q hq=>h q (by simp [hq]))
theorem Av5:∀ {xs:List (Ab×Bool)} {j:Nat} {y:Bool},xs[j]? = some (k,y)→(xs.map Prod.fst).Nodup→Akn k xs=y
 | [],j,y,h,_=>by simp at h
 | p::r,0,y,h,_=>by
  simp at h
  subst h
  simp only [Akn,Gd.2 rfl,cond_true]
 | p::r,j + 1,y,h,hn=>by
  simp only [List.getElem?_cons_succ] at h
  simp only [List.map_cons,List.nodup_cons] at hn
  have:p.1≠k:=fun q=>hn.1 (List.mem_map.2 ⟨(k,y),List.mem_of_getElem? h,q.symm⟩)
  simp only [Akn,Xi this,cond_false]
  exact Av5 h hn.2
end
def Af7:Ty→Bool
 | .int _=>true
 | .bool=>true
 | .str=>true
 | _=>false
def A7y (P:Program) (T:TypeId):Bool:=match P.underlying T with
 | some (.map _ _)=>true
 | _=>false
def Aiu (P:Program) (s:St) (nid:Nat) (T:TypeId):Option (Lf×St):=match P.underlying T,s.res nid with
 | some (.map kt et),.unborn=>match P.underlying kt,A5m P 12 et with
  | some .string,some t=>if Af7 t then some (.row nid,s.setRes nid (.map t [])) else none
  | _,_=>none
 | _,_=>none
def An0 (P:Program) (s:St) (T:TypeId) (m k v:Operand):Option St:=match P.underlying T,s.leaf m,s.conc k,s.leaf v with
 | some (.map kt et),some (.row id),some (.string kb),some lv=>match P.underlying kt,s.res id with
  | some .string,.map t xs=>if Af7 t then (s.leafD t lv).bind fun x=>some (s.setRes id (.map t (Ab6 kb x xs))) else none
  | _,_=>none
 | _,_,_,_=>none
def An1 (P:Program) (s:St) (T U:TypeId) (m k:Operand):Option St:=match P.underlying T,s.leaf m,s.conc k with
 | some (.map kt et),some (.row id),some (.string kb)=>match P.underlying kt,s.res id with
  | some .string,.map t xs=>if U=kt then some (s.setRes id (.map t (Ab7 kb xs))) else none
  | _,_=>none
 | _,_,_=>none
def Xj (P:Program) (s:St) (T:TypeId) (m:Operand):Option Value:=match P.underlying T,s.leaf m with
 | some (.map kt et),some (.row id)=>match s.res id with
  | .map t xs=>some (.int .i64 (List.length xs:Int))
  | _=>none
 | _,_=>none
def A3d (t:Ty) (xs:List (Ab×t.D)):Option (List (Ab×Bool)):=if h:t=.bool then some (show List (Ab×Ty.bool.D) from h ▸ xs) else none
def Aiv (P:Program) (s:St) (T:TypeId) (m k:Operand):Option Value:=match P.underlying T,s.leaf m,s.conc k with
 | some (.map kt et),some (.row id),some (.string kb)=>match P.underlying kt,Za P et,P.info? et,s.res id with
  | some .string,some ls,some inf,.map t xs=>match inf.zero with
   | some (.bool false)=>(A3d t xs).bind fun ys=>some (.bool (Akn kb ys))
   | _=>none
  | _,_,_,_=>none
 | _,_,_=>none
def At9 (P:Program) (s:St) (nid:Nat) (T:TypeId) (m:Operand):Option (Lf×St):=match P.underlying T,s.leaf m,s.res nid with
 | some (.map kt et),some (.row id),.unborn=>match s.res id with
  | .map t xs=>some (.row nid,(s.setRes id .dead).setRes nid (.iter t xs xs none))
  | _=>none
 | _,_,_=>none
def Aua (s:St) (it:Operand):Option AV:=match s.leaf it with
 | some (.row id)=>match s.res id with
  | .iter t _ _ (some p)=>if Af7 t then some (.tp [.lf (.c (.string p.1)),.lf (.c (n6 t p.2))]) else none
  | _=>none
 | _=>none
section
variable {P:Program} {n B:Nat} {Iq:List Nat} {s:St} {g:Gh} {a:Act} {w:World}
theorem Pp.len {es:Array MapEntry} {t:Ty} {xs:List (Ab×t.D)} (h:Pp es t xs):es.size=xs.length:=by
 have:=congrArg List.length h
 simpa using this
theorem Pp.keys {es:Array MapEntry} {t:Ty} {xs:List (Ab×t.D)} (h:Pp es t xs):es.toList.map (·.key)=xs.map fun p=>Value.string p.1:=by
 have:=congrArg (List.map Prod.fst) h
 simpa [List.map_map,Function.comp_def] using this
theorem Pp.isKey {es:Array MapEntry} {t:Ty} {xs:List (Ab×t.D)} (h:Pp es t xs):∀ x∈es.toList,MapKept.IsKey .string x.key:=fun x hx=>by
 have:x.key∈es.toList.map (·.key):=List.mem_map_of_mem hx
 rw [h.keys] at this
 obtain ⟨p,_,hp⟩:=List.mem_map.1 this
 rw [← hp]
 trivial
theorem Pp.nodup {es:Array MapEntry} {t:Ty} {xs:List (Ab×t.D)} {clock:Nat} (h:Pp es t xs) (hs:MapKept.Stamped es clock):(xs.map Prod.fst).Nodup:=by
 have:=hs.2.2
 rw [h.keys] at this
 have h2:(xs.map fun p=>Value.string p.1)=(xs.map Prod.fst).map Value.string:=by simp [List.map_map,Function.comp_def]
 rw [h2] at this
 exact List.Pairwise.imp (fun {a b} (q:Value.string a≠Value.string b) hab=>q (congrArg Value.string hab)) (List.pairwise_map.1 this)
theorem Pp.get {es:Array MapEntry} {t:Ty} {xs:List (Ab×t.D)} (h:Pp es t xs) {j:Nat} {e:MapEntry} (he:es.toList[j]? = some e):∃ p,xs[j]? = some p∧e.key=.string p.1∧e.val=n6 t p.2:=by
 have h1:(es.toList.map (fun e=>(e.key,e.val)))[j]? = some (e.key,e.val):=by rw [List.getElem?_map,he]; rfl
 rw [h,List.getElem?_map] at h1
 obtain ⟨p,hp,hq⟩:=Option.map_eq_some_iff.1 h1
 obtain ⟨h2,h3⟩:=Prod.mk.inj hq
 exact ⟨p,hp,h2.symm,h3.symm⟩
theorem Pp.none_of {es:Array MapEntry} {t:Ty} {xs:List (Ab×t.D)} (h:Pp es t xs) {k:Ab} (hn:∀ x∈es.toList,x.key≠.string k):∀ p∈xs,p.1≠k:=fun p hp q=>by
 have:Value.string p.1∈xs.map (fun p=>Value.string p.1):=List.mem_map_of_mem (f:=fun p:Ab×t.D=>Value.string p.1) hp
 rw [← h.keys] at this
 obtain ⟨x,hx,hk⟩:=List.mem_map.1 this
 exact hn x hx (by rw [hk,q])
theorem Amw (h:B5 n B Iq s g a w) {id b:Nat} {t:Ty} {xs xs':List (Ab×t.D)} {es es':Array MapEntry} {clock clock':Nat} (hr:s.res id=.map t xs) (hb:g.blk id=some b) (hh:w.heap[b]? = some (.map es clock))
  (hs':MapKept.Stamped es' clock') (hm':Pp es' t xs'):
  Go B Iq s g w (s.setRes id (.map t xs')) g { w with heap:=w.heap.setIfInBounds b (.map es' clock') }∧B5 n B Iq (s.setRes id (.map t xs')) g a { w with heap:=w.heap.setIfInBounds b (.map es' clock') }:=by
 obtain ⟨hset1,hset2⟩:=MapKept.heap_set (o':=.map es' clock') hh
 have hlive:(s.res id).live=true:=by rw [hr]; rfl
 have hne:∀ k,k≠b→({ w with heap:=w.heap.setIfInBounds b (.map es' clock') }:World).heap[k]? = w.heap[k]? := fun k hk=>hset2 k hk
 have hS:∀ c,Ev s g c→c < w.heap.size→Ev (s.setRes id (.map t xs')) g c∧({ w with heap:=w.heap.setIfInBounds b (.map es' clock') }:World).heap[c]? = w.heap[c]? := by
  intro c hc _
  refine ⟨⟨hc.1,fun j hj=>?_⟩,hne c (fun q=>hc.2 id hlive (by rw [q]; exact hb))⟩
  by_cases q:j=id
  ·rw [q]; exact hc.2 id hlive
  ·rw [Ap s _ q] at hj; exact hc.2 j hj
 have hI:∀ j,Ay s g (s.setRes id (.map t xs')) g j:=by
  intro j
  by_cases q:j=id
  ·subst q
   unfold Ay
   rw [hr,Ao]
   exact .inr ⟨_,_,rfl,rfl,rfl⟩
  ·exact Ay.same (Ap s _ q) rfl rfl
 refine ⟨⟨⟨rfl,rfl,rfl,by simp,fun k hk hn=>hne k (fun q=>?_)⟩,hS,hI,rfl⟩,h.step h.size h.defers (by simp) hS hI (fun i=>.inl ⟨rfl,rfl⟩) (fun j=>?_) h.inj (fun j c hj=>?_) rfl⟩
 ·subst q
  rcases (h.lt id k hb).2.1 with q2 | q2
  ·exact hn q2
  ·omega
 ·by_cases q:j=id
  ·subst q
   right
   rw [Ao]
   have r:=h.res j
   rw [hr] at r
   obtain ⟨b',_,_,h1,h2,_⟩:=r
   obtain rfl:b'=b:=Option.some.inj (h1.symm.trans hb)
   exact ⟨b',es',clock',h1,h2,hset1,hs',hm'⟩
  ·left
   exact ⟨Ap s _ q,rfl,rfl,fun c hc=>hne c (fun q2=>q (h.inj j id c hc (by rw [q2]; exact hb)))⟩
 ·have:=h.lt j c hj
  simpa using this
theorem A5q {t:Ty} (ht:Af7 t=true) {S:Nat→Prop} {x:t.D} {u:Value} (h:t.K w S x [u]):u=n6 t x:=by
 cases t<;>first | (cases h; rfl) | (cases ht; done)
theorem Av6 (h:B5 n B Iq s g a w) {T:TypeId} {m k v:Operand} {s':St} (e:An0 P s T m k v=some s'):
  ∃ w' g',(Instr.mapUpdate T (a.eval m) (a.eval k) (a.eval v)).run P w=.ok () w'∧Go B Iq s g w s' g' w'∧B5 n B Iq s' g' a w':=by
 unfold An0 at e
 split at e
 ·rename_i kt et id kb lv hT hm hk hv
  split at e
  ·rename_i t xs hkt hr
   split at e
   ·rename_i hpt
    obtain ⟨x,hx,e⟩:=A6 e
    cases e
    obtain ⟨hl,_⟩:=C8 h hm
    obtain ⟨hlv,_⟩:=C8 h hv
    have hv2:a.eval v=n6 t x:=A5q hpt (St.leafD_K hx hlv h.res)
    have r:=h.res id
    rw [hr] at r
    obtain ⟨b,es,clock,r1,r2,r3,r4,r5⟩:=r
    simp only [Dp,hr] at hl
    rw [hl,r2,(C7 h hk).1,hv2]
    have hik:MapKept.IsKey .string (.string kb):=trivial
    rcases MapKept.findNow_spec hik es.toList 0 r5.isKey with ⟨h1,h2⟩ | ⟨j,e0,h1,h2,h3⟩
    ·have hno:=r5.none_of h2
     obtain ⟨k1,k2⟩:=Amw h (xs':=Ab6 kb x xs) (es':=es.push ⟨.string kb,n6 t x,clock⟩) (clock':=clock + 1) hr r1 r3 (MapKept.stamped_push r4 h2) (by
      unfold Pp
      rw [Asj hno,Array.toList_push,List.map_append,List.map_append,r5]
      rfl)
     refine ⟨_,g,?_,k1,k2⟩
     simp [Instr.mapUpdate,run_underlying hT,MapKept.run_getObj_map r3,MapKept.run_checkKey hkt hik,MapKept.run_findKey hkt h1,MapKept.run_setObj_map _ r3,Result.andThen]
    ·obtain ⟨p,hp1,hp2,hp3⟩:=r5.get h2
     have hpk:p.1=kb:=by rw [h3] at hp2; cases hp2; rfl
     obtain ⟨pk,py⟩:=p
     simp only at hpk
     subst hpk
     have hj:es[j]? = some e0:=by simpa using h2
     have hjs:j < es.size:=(Array.getElem?_eq_some_iff.1 hj).1
     have hkey:∀ e',es[j]? = some e'→({ e' with key:=Value.string pk,val:=n6 t x }:MapEntry).key=e'.key:=fun e' he'=>by rw [hj] at he'; cases he'; exact h3.symm
     have hup:=Azy (v:=x) hp1 (r5.nodup r4)
     obtain ⟨k1,k2⟩:=Amw h (xs':=Ab6 pk x xs) (es':=es.modify j (fun e'=>{ e' with key:=.string pk,val:=n6 t x })) (clock':=clock) hr r1 r3 (MapKept.stamped_modify r4 _ _ (fun _ _=>rfl) (fun e' _ he'=>hkey e' he')) (by
      unfold Pp
      rw [hup,Array.toList_modify,List.map_set]
      apply List.ext_getElem?
      intro i
      have hi:=congrArg (fun l=>l[i]?) r5
      simp only [List.getElem?_map] at hi
      simp only [List.getElem?_map,List.getElem?_modify,List.getElem?_set,List.length_map]
      by_cases q:j=i
      ·subst q
       have hxl:j < xs.length:=by rw [← r5.len]; exact hjs
       rw [h2]
       simp [hxl]
      ·simpa [q] using hi)
     refine ⟨_,g,?_,k1,k2⟩
     simp [Instr.mapUpdate,run_underlying hT,MapKept.run_getObj_map r3,MapKept.run_checkKey hkt hik,MapKept.run_findKey hkt h1,hj,h3,MapKept.run_keyThatStays hik,MapKept.run_setObj_map _ r3,Result.andThen]
   ·cases e
  ·cases e
 ·cases e
theorem Av7 (h:B5 n B Iq s g a w) {T U ty:TypeId} {m k:Operand} {s':St} (e:An1 P s T U m k=some s'):
  ∃ w' g',(Builtin.delete_ #[T,U] ty #[a.eval m,a.eval k]).run P w=.ok (.tuple #[]) w'∧Go B Iq s g w s' g' w'∧B5 n B Iq s' g' a w':=by
 unfold An1 at e
 split at e
 ·rename_i kt et id kb hT hm hk
  split at e
  ·rename_i t xs hkt hr
   split at e
   ·rename_i hU
    subst hU
    cases e
    obtain ⟨hl,_⟩:=C8 h hm
    have r:=h.res id
    rw [hr] at r
    obtain ⟨b,es,clock,r1,r2,r3,r4,r5⟩:=r
    simp only [Dp,hr] at hl
    rw [hl,r2,(C7 h hk).1]
    have hik:MapKept.IsKey .string (.string kb):=trivial
    rcases MapKept.findNow_spec hik es.toList 0 r5.isKey with ⟨h1,h2⟩ | ⟨j,e0,h1,h2,h3⟩
    ·have hno:=r5.none_of h2
     obtain ⟨k1,k2⟩:=Amw h (xs':=Ab7 kb xs) (es':=es) (clock':=clock) hr r1 r3 r4 (by rw [Asl hno]; exact r5)
     refine ⟨_,g,?_,k1,k2⟩
     simp [Builtin.delete_,run_underlying hT,MapKept.run_getObj_map r3,MapKept.run_checkKey hkt hik,MapKept.run_findKey hkt h1,MapKept.run_setObj_map _ r3,Result.andThen]
    ·obtain ⟨p,hp1,hp2,hp3⟩:=r5.get h2
     have hpk:p.1=kb:=by rw [h3] at hp2; cases hp2; rfl
     obtain ⟨pk,py⟩:=p
     simp only at hpk
     subst hpk
     have hjl:j < es.toList.length:=(List.getElem?_eq_some_iff.1 h2).1
     have hjs:j < es.size:=by simpa using hjl
     have hsub:(es.eraseIdxIfInBounds j).toList=es.toList.eraseIdx j:=by
      unfold Array.eraseIdxIfInBounds
      rw [dif_pos hjs]
      simp
     obtain ⟨k1,k2⟩:=Amw h (xs':=Ab7 pk xs) (es':=es.eraseIdxIfInBounds j) (clock':=clock) hr r1 r3 (MapKept.stamped_erase r4 j) (by
      unfold Pp
      rw [Azz hp1 (r5.nodup r4),hsub,Ait,Ait,r5])
     refine ⟨_,g,?_,k1,k2⟩
     simp [Builtin.delete_,run_underlying hT,MapKept.run_getObj_map r3,MapKept.run_checkKey hkt hik,MapKept.run_findKey hkt h1,MapKept.run_setObj_map _ r3,Result.andThen]
   ·cases e
  ·cases e
 ·cases e
theorem Av8 (h:B5 n B Iq s g a w) {T ty:TypeId} {m:Operand} {v:Value} (e:Xj P s T m=some v):(Builtin.len_ #[T] ty #[a.eval m]).run P w=.ok v w∧v.oneCell'=true:=by
 unfold Xj at e
 split at e
 ·rename_i kt et id hT hm
  split at e
  ·rename_i t xs hr
   cases e
   obtain ⟨hl,_⟩:=C8 h hm
   have r:=h.res id
   rw [hr] at r
   obtain ⟨b,es,clock,r1,r2,r3,r4,r5⟩:=r
   simp only [Dp,hr] at hl
   rw [hl,r2,← r5.len]
   exact ⟨by simp [Builtin.len_,run_underlying hT,MapKept.run_getObj_map r3,goInt,Result.andThen],rfl⟩
  ·cases e
 ·cases e
theorem Aub (h:B5 n B Iq s g a w) {T:TypeId} {m k:Operand} {v:Value} (e:Aiv P s T m k=some v):(Instr.lookup T (a.eval m) (a.eval k) false).run P w=.ok v w∧v.oneCell'=true:=by
 unfold Aiv at e
 split at e
 ·rename_i kt et id kb hT hm hk
  split at e
  ·rename_i ls inf t xs hkt hz hi hr
   split at e
   ·rename_i hiz
    obtain ⟨ys,hys,e⟩:=A6 e
    cases e
    unfold A3d at hys
    split at hys<;>cases hys
    rename_i ht
    subst ht
    obtain ⟨z,hz1,_,i',hi',hz'⟩:=N4 hz s g w
    obtain rfl:inf=i':=Option.some.inj (hi.symm.trans hi')
    obtain rfl:Value.bool false=z:=Option.some.inj (hiz.symm.trans hz')
    obtain ⟨hl,_⟩:=C8 h hm
    have r:=h.res id
    rw [hr] at r
    obtain ⟨b,es,clock,r1,r2,r3,r4,r5⟩:=r
    simp only [Dp,hr] at hl
    rw [hl,r2,(C7 h hk).1]
    have hik:MapKept.IsKey .string (.string kb):=trivial
    refine ⟨?_,rfl⟩
    show _=Result.ok (Value.bool (Akn kb xs)) w
    rcases MapKept.findNow_spec hik es.toList 0 r5.isKey with ⟨h1,h2⟩ | ⟨j,e0,h1,h2,h3⟩
    ·have:=Anz (xs:=xs) (r5.none_of h2)
     rw [this]
     simp [Instr.lookup,run_underlying hT,MapKept.run_getObj_map r3,MapKept.run_checkKey hkt hik,MapKept.run_findKey hkt h1,hz1,Result.andThen]
    ·obtain ⟨p,hp1,hp2,hp3⟩:=r5.get h2
     have hpk:p.1=kb:=by rw [h3] at hp2; cases hp2; rfl
     obtain ⟨pk,py⟩:=p
     simp only at hpk
     subst hpk
     have:=Av5 (xs:=xs) hp1 (r5.nodup r4)
     rw [this]
     have hp3:e0.val=.bool py:=hp3
     simp [Instr.lookup,run_underlying hT,MapKept.run_getObj_map r3,MapKept.run_checkKey hkt hik,MapKept.run_findKey hkt h1,hz1,hp3,Result.andThen]
   ·cases e
  ·cases e
 ·cases e
theorem Auc (h:B5 n B Iq s g a w) {nid:Nat} {T:TypeId} {l:Lf} {s':St} (e:Aiu P s nid T=some (l,s')):
  ∃ u w' g',(Instr.makeMap T none).run P w=.ok u w'∧Go B Iq s g w s' g' w'∧B5 n B Iq s' g' a w'∧Dp s' g' w' l u∧u.oneCell'=true:=by
 unfold Aiu at e
 split at e
 ·rename_i kt et hT hf
  split at e
  ·rename_i t hkt ht
   split at e<;>cases e
   refine ⟨.map (some w.heap.size),w.alloc (.map #[] 0),_,?_,Go.alloc h hf _ (.map (some w.heap.size)) _,h.alloc hf _ (.map (some w.heap.size)) _ ⟨w.heap.size,#[],0,?_,?_,Anm w _,MapKept.stamped_empty 0,rfl⟩,?_,rfl⟩
   ·simp [Instr.makeMap,Result.andThen]
   ·simp only [Gh.new,A2]
   ·simp only [Gh.new,A2]
   ·simp only [Dp,Ao,Gh.new,A2]
  ·cases e
 ·cases e
theorem A5r (h:B5 n B Iq s g a w) (id:Nat):B5 n B Iq (s.setRes id .dead) (g.off id) a w∧Go B Iq s g w (s.setRes id .dead) (g.off id) w:=by
 have hS:∀ b,Ev s g b→b < w.heap.size→Ev (s.setRes id .dead) (g.off id) b∧w.heap[b]? = w.heap[b]? := by
  intro b hb _
  refine ⟨⟨hb.1,fun j hj hk=>?_⟩,rfl⟩
  by_cases q:j=id
  ·subst q
   simp [Gh.off] at hk
  ·rw [Ap s _ q] at hj
   simp only [Gh.off,Ax _ _ q] at hk
   exact hb.2 j hj hk
 have hI:∀ j,Ay s g (s.setRes id .dead) (g.off id) j:=by
  intro j
  by_cases q:j=id
  ·subst q
   exact .inl (Ao s _ _)
  ·exact Ay.same (Ap s _ q) (by simp [Gh.off,Ax _ _ q]) rfl
 refine ⟨h.step h.size h.defers (Nat.le_refl _) hS hI (fun i=>.inl ⟨rfl,rfl⟩) (fun j=>?_) (fun i j b hi hj=>?_) (fun i b hi=>?_) rfl,⟨Kp.refl B Iq w,hS,hI,rfl⟩⟩
 ·by_cases q:j=id
  ·subst q
   right
   rw [Ao]
   show (g.off j).blk j=none
   simp [Gh.off]
  ·left
   exact ⟨Ap s _ q,by simp [Gh.off,Ax _ _ q],rfl,fun _ _=>rfl⟩
 ·by_cases q1:i=id
  ·simp [Gh.off,q1] at hi
  ·by_cases q2:j=id
   ·simp [Gh.off,q2] at hj
   ·simp only [Gh.off,Ax _ _ q1] at hi
    simp only [Gh.off,Ax _ _ q2] at hj
    exact h.inj i j b hi hj
 ·by_cases q1:i=id
  ·simp [Gh.off,q1] at hi
  ·simp only [Gh.off,Ax _ _ q1] at hi
   exact h.lt i b hi
theorem Ayi (h:B5 n B Iq s g a w) {nid:Nat} {T:TypeId} {m:Operand} {l:Lf} {s':St} (e:At9 P s nid T m=some (l,s')):
  ∃ u w' g',(Instr.range T (a.eval m)).run P w=.ok u w'∧Go B Iq s g w s' g' w'∧B5 n B Iq s' g' a w'∧Dp s' g' w' l u∧u.oneCell'=true:=by
 unfold At9 at e
 split at e
 ·rename_i kt et id hT hm hf
  split at e
  ·rename_i t xs hr
   cases e
   obtain ⟨hl,_⟩:=C8 h hm
   have r:=h.res id
   rw [hr] at r
   obtain ⟨b,es,clock,r1,r2,r3,r4,r5⟩:=r
   simp only [Dp,hr] at hl
   obtain ⟨k1,k2⟩:=A5r h id
   have hin:id≠nid:=fun q=>by rw [q,hf] at hr; cases hr
   have hf':(s.setRes id .dead).res nid=.unborn:=(Ap s _ hin.symm).trans hf
   have hSb:Ev (s.setRes id .dead) (g.off id) b:=by
    refine ⟨(h.lt id b r1).2.2,fun j hj hk=>?_⟩
    by_cases q:j=id
    ·subst q
     simp [Gh.off] at hk
    ·simp only [Gh.off,Ax _ _ q] at hk
     exact q (h.inj j id b hk r1)
   have hlt:=(h.lt id b r1).1
   have hS2:=Abl k1 hf' (.iter t xs xs none) (.pointer (some ⟨w.heap.size,0,none⟩)) (.mapIter (some b) clock #[] clock)
   obtain ⟨q1,q2⟩:=hS2 b hSb hlt
   refine ⟨.pointer (some ⟨w.heap.size,0,none⟩),_,_,?_,k2.trans (Go.alloc k1 hf' _ (.pointer (some ⟨w.heap.size,0,none⟩)) (.mapIter (some b) clock #[] clock)),k1.alloc hf' _ (.pointer (some ⟨w.heap.size,0,none⟩)) (.mapIter (some b) clock #[] clock) ⟨b,w.heap.size,es,clock,clock,clock,#[],?_,?_,Anm w _,q1,by simp; omega,q2.trans r3,r4,r5,by unfold A2z; rw [List.filter_eq_self.2 (fun x _=>by simp)]; exact r5,r4.1,Nat.le_refl _,Nat.le_refl _,fun _ _ q=>by cases q⟩,?_,rfl⟩
   ·rw [hl,r2]
    exact run_range_map w T kt et b es clock hT r3
   ·simp only [Gh.new,A2]
   ·simp only [Gh.new,A2]
   ·simp only [Dp,Ao,Gh.new,A2]
  ·cases e
 ·cases e
theorem A1o {t:Ty} {v:t.D} (h:Af7 t=true):(n6 t v).oneCell'=true:=by
 cases t<;>first | rfl | (cases h; done)
theorem Ayj (h:B5 n B Iq s g a w) {it:Operand} {av:AV} (e:Aua s it=some av):∃ v,(Instr.entry (a.eval it)).run P w=.ok v w∧Wz s g w av v:=by
 unfold Aua at e
 split at e
 ·rename_i id hm
  split at e
  ·rename_i t xs left p hr
   split at e<;>cases e
   rename_i hp
   obtain ⟨hl,_⟩:=C8 h hm
   have r:=h.res id
   rw [hr] at r
   obtain ⟨b,r,es,clock,since,c0,sn,r1,r2,r3,r4,r5,r6,r7,r8,r9,r10,r11,r12,r13⟩:=r
   simp only [Dp,hr] at hl
   obtain ⟨hcl,en,he,seen0,hs,hk,hv⟩:=r13 p.1 p.2 rfl
   rw [hl,r2]
   subst hs
   subst hcl
   refine ⟨_,run_entry_at w r b since seen0 es _ en r3 r6 he r7.2.1,?_⟩
   refine ⟨_,rfl,rfl,?_⟩
   intro j v hj
   match j,hj with
   | 0,hj=>cases hj; exact ⟨en.key,rfl,hk,by rw [hk]; rfl⟩
   | 1,hj=>cases hj; exact ⟨en.val,rfl,hv,by rw [hv]; exact A1o hp⟩
  ·cases e
 ·cases e
end
end
section
def Mf (P:Program) (s:St) (T:TypeId) (x y:Operand):Option (List Bool×Lf):=
 match P.underlying T with
 | some (.slice e)=>match P.info? e,(s.leaf x).bind s.sl,s.conc y with
  | some i,some (.rd t xs),some (.int _ n)=>if i.size=t.sz then some ([decide (0≤n),decide (n < (xs.length:Int))],.ep t xs n.toNat 0) else none
  | some i,some (.own id t xs),some (.int _ n)=>if i.size=t.sz then some ([decide (0≤n),decide (n < (xs.length:Int))],.rp id n.toNat 0) else none
  | _,_,_=>none
 | _=>none
def Zi (P:Program) (s:St) (nid:Nat) (T:TypeId) (x y:Operand):Option (List Bool×Lf×St):=
 match s.res nid,Afy P T,s.conc x,s.conc y with
 | .unborn,some el,some (.int _ k),some (.int _ c)=>match s.parse el.t el.z with
   | some (x0,[])=>some ([decide (k=c),decide (0≤k),decide (k.toNat * el.bytes≤140737488355328)],.row nid,s.setRes nid (.row el.e el.t (List.replicate k.toNat x0)))
   | _=>none
 | _,_,_,_=>none
def Aiw (P:Program) (s:St) (nid:Nat) (T:TypeId) (x y:Operand):Option (List Bool×Lf×St):=
 match s.res nid,Afy P T,s.leaf x,s.leaf y with
 | .unborn,some el,some lx,some ly=>(Xe s el lx).bind fun p=>(Vi s el.t ly).bind fun ys=>
   some ([decide ((p.2.length + List.length ys) * el.bytes≤140737488355328)],.row nid,(Fo s p.1).setRes nid (.row el.e el.t (p.2++ys)))
 | _,_,_,_=>none
def Zj (P:Program) (s:St) (nid:Nat) (T U:TypeId) (x y:Operand):Option (List Bool×Lf×St):=
 match s.res nid,P.underlying T,P.underlying U,s.leaf x,s.conc y with
 | .unborn,some (.slice e),some .string,some lx,some (.string q)=>match P.info? e,Za P e with
  | some i,some z=>if i.size=1 then (if i.bytes=1 then (match z with
   | [.c (.int .u8 0)]=>(Xe s ⟨e,.int .u8,z,1⟩ lx).bind fun p=>
    some ([decide (p.2.length + q.size≤140737488355328)],.row nid,(Fo s p.1).setRes nid (.row e (.int .u8) ((show List Int from p.2)++Ad q)))
   | _=>none) else none) else none
  | _,_=>none
 | _,_,_,_,_=>none
def An2 (P:Program) (s:St) (T:TypeId) (x:Operand) (lo hi:Option Operand):Option (List Bool×Lf×St):=
 match P.underlying T with
 | some (.slice e)=>match P.info? e,s.leaf x with
  | some i,some l=>match (s.frz [l]).sl l with
   | some (.rd t xs)=>if i.size=t.sz then
     (match (match lo with | some y=>s.conc y | none=>some (.int .i64 0)),(match hi with | some y=>s.conc y | none=>some (.int .i64 (List.length xs))) with
     | some (.int _ a),some (.int _ b)=>some ([decide (0≤a),decide (a≤b),decide (b≤(List.length xs:Int))],.sl t (List.drop a.toNat (List.take b.toNat xs)),s.frz [l])
     | _,_=>none) else none
   | _=>none
  | _,_=>none
 | _=>none
def o9 (P:Program) (s:St) (t:TypeId) (x y:Operand):Option (List Bool×St):=
 (s.leaf x).bind fun l=>(s.value y).bind fun v=>match P.info? t with
  | none=>none
  | some i=>if v.ls.length=i.size then match l with
    | .ptr id off=>match s.res id with
     | .box T ls=>if off + v.ls.length≤ls.length then some ([],s.setRes id (.box T (ls.take off++v.ls++ls.drop (off + v.ls.length)))) else none
     | _=>none
    | .rp id i off=>match (s.frz v.ls).res id with
     | .row e t xs=>(let old:=t.leafs (xs.getD i t.zero)
       if off + v.ls.length≤old.length then match (s.frz v.ls).parse t (old.take off++v.ls++old.drop (off + v.ls.length)) with
        | some (x,[])=>some ([decide (i < xs.length)],(s.frz v.ls).setRes id (.row e t (List.set xs i x)))
        | _=>none
       else none)
     | _=>none
    | _=>none
   else none
section
variable {P:Program} {s:St}
theorem Aix {T:TypeId} {x y:Operand} {l:Lf} (h:Nm (Mf P s T x y)=some l):Vg P s T x y=some l:=by
 obtain ⟨cs,e,hc⟩:=Cg h
 unfold Mf at e
 unfold Vg
 split at e
 ·split at e
  ·split at e<;>cases e
   rename_i hs
   obtain ⟨h0,hc⟩:=A3 hc
   obtain ⟨h1,_⟩:=A3 hc
   simp only [*,if_true]
  ·split at e<;>cases e
   rename_i hs
   obtain ⟨h0,hc⟩:=A3 hc
   obtain ⟨h1,_⟩:=A3 hc
   simp only [*,if_true]
  ·cases e
 ·cases e
theorem Aiy {nid:Nat} {T:TypeId} {x y:Operand} {l:Lf×St} (h:Nm (Zi P s nid T x y)=some l):Vh P s nid T x y=some l:=by
 obtain ⟨cs,e,hc⟩:=Cg h
 unfold Zi at e
 unfold Vh
 split at e
 ·split at e<;>cases e
  rename_i hp
  obtain ⟨h0,hc⟩:=A3 hc
  obtain ⟨h1,hc⟩:=A3 hc
  obtain ⟨h2,_⟩:=A3 hc
  subst h0
  simp only [*,if_true]
 ·cases e
theorem Aq4 {nid:Nat} {T:TypeId} {x y:Operand} {l:Lf×St} (h:Nm (Aiw P s nid T x y)=some l):Afz P s nid T x y=some l:=by
 obtain ⟨cs,e,hc⟩:=Cg h
 unfold Aiw at e
 unfold Afz
 split at e
 ·obtain ⟨p,e1,e⟩:=A6 e
  obtain ⟨ys,e2,e⟩:=A6 e
  cases e
  obtain ⟨h0,hc⟩:=A3 hc
  simp only [*,Option.bind_some,if_true]
 ·cases e
theorem Aiz {nid:Nat} {T U:TypeId} {x y:Operand} {l:Lf×St} (h:Nm (Zj P s nid T U x y)=some l):Vj P s nid T U x y=some l:=by
 obtain ⟨cs,e,hc⟩:=Cg h
 unfold Zj at e
 unfold Vj
 split at e
 ·split at e
  ·split at e
   ·split at e
    ·split at e
     ·obtain ⟨p,e1,e⟩:=A6 e
      cases e
      obtain ⟨h0,hc⟩:=A3 hc
      simp only [*,if_true,Option.bind_some]
     ·cases e
    ·cases e
   ·cases e
  ·cases e
 ·cases e
theorem Aud {T:TypeId} {x:Operand} {lo hi:Option Operand} {l:Lf×St} (h:Nm (An2 P s T x lo hi)=some l):Amu P s T x lo hi=some l:=by
 obtain ⟨cs,e,hc⟩:=Cg h
 unfold An2 at e
 unfold Amu
 split at e
 ·rename_i el hU
  split at e
  ·rename_i i l0 hi0 hl0
   split at e
   ·rename_i t xs hsl
    split at e
    ·rename_i hsz
     split at e
     ·rename_i ka p kb q h1 h2
      cases e
      obtain ⟨c0,hc⟩:=A3 hc
      obtain ⟨c1,hc⟩:=A3 hc
      obtain ⟨c2,_⟩:=A3 hc
      cases lo<;>cases hi<;>simp only at h1 h2 ⊢<;>(try simp only [hU,hi0,hl0,hsl,hsz,if_true,h1,h2])<;>first | (rw [if_pos c0,if_pos c1,if_pos c2]; done) | (cases h1; cases h2; rw [if_pos c0,if_pos c1,if_pos c2]; done) | (cases h1; rw [if_pos c0,if_pos c1,if_pos c2]; done) | (cases h2; rw [if_pos c0,if_pos c1,if_pos c2]; done)
     ·cases e
    ·cases e
   ·cases e
  ·cases e
 ·cases e
theorem Aue {t:TypeId} {x y:Operand} {s':St} (h:Nm (o9 P s t x y)=some s'):Amt P s t x y=some s':=by
 obtain ⟨cs,e,hc⟩:=Cg h
 unfold o9 at e
 unfold Amt
 obtain ⟨l,e1,e⟩:=A6 e
 obtain ⟨v,e2,e⟩:=A6 e
 simp only [e1,e2,Option.bind_some]
 split at e
 ·cases e
 ·rename_i i hi
  try simp only [hi]
  split at e
  ·rename_i hsz
   simp only [hsz,if_true] at e ⊢
   split at e
   ·rename_i id off
    split at e
    ·rename_i T ls hr
     try simp only [hr]
     split at e<;>cases e
     rename_i hle
     simp only [hle,if_true]
    ·cases e
   ·rename_i id k off
    split at e
    ·rename_i e0 t0 xs hr
     try simp only [hr]
     split at e
     ·rename_i hle
      split at e
      ·rename_i z hp
       cases e
       obtain ⟨h0,_⟩:=A3 hc
       simp only [h0,if_true,hle,hp]
      ·cases e
     ·cases e
    ·cases e
   ·cases e
  ·cases e
end
end
section
structure SD where
 sg:Ji
 den:Vk sg.ps→Option (Vk sg.rs×BxD sg.ps)
def Lq (P : Program) (f : FuncId) : Prop := ∃ fn, P.funcs[f]? = some fn ∧ (fn.name == "runtime.NumGoroutine") = false ∧ fn.body.isNone = false
def Ako:Operand→Bool
 | .const (.slice none 0 0)=>true
 | _=>false
def q9 (P:Program) (s:St) (nid:Nat) (T:TypeId) (x:Operand):Option (AV×St):=
 if Ako x then Avz P s nid T else some (s.op x,s)
def Auf (s:St) (x y:Operand):Option (Bool×Bool):=match s.conc x,s.conc y with
 | some (.bool p),some (.bool q)=>some (p,q)
 | _,_=>none
def s4 (s:St) (c x y:Operand):Option AV:=match s.conc c with
 | some (.bool t)=>match Auf s x y with
  | some (p,q)=>some (.vl (.lf (.c (.bool (bif t then p else q)))))
  | none=>some (bif t then s.op x else s.op y)
 | _=>none
def Ai0 (s:St) (x:Operand) (i:Nat):Option AV:=match s.op x with
 | .tp vs=>match vs[i]? with
  | some v=>some (.vl v)
  | none=>none
 | _=>none
def Aei (s:St) (x:Operand):Option AV:=match s.leaf x with
 | some (.ptr id off)=>match s.res id with
  | .box _ _=>some (.vl (.lf (.ptr id off)))
  | _=>none
 | some (.ep t xs i off)=>some (.vl (.lf (.ep t xs i off)))
 | some (.rp id i off)=>match s.res id with
  | .row _ _ _=>some (.vl (.lf (.rp id i off)))
  | _=>none
 | _=>none
abbrev Cd:=Option (List Bool×AV×St)
def lfC (s:St) (x:Option (List Bool×Lf)):Cd:=match x with
 | some (cs,l)=>some (cs,.vl (.lf l),s)
 | none=>none
def lfS (x:Option (List Bool×Lf×St)):Cd:=match x with
 | some (cs,l,s)=>some (cs,.vl (.lf l),s)
 | none=>none
def lf0 (x:Option (Lf×St)):Cd:=match x with
 | some (l,s)=>some ([],.vl (.lf l),s)
 | none=>none
def vC (s:St) (x:Option (List Bool×Value)):Cd:=match x with
 | some (cs,v)=>some (cs,.vl (.lf (.c v)),s)
 | none=>none
def v0 (s:St) (x:Option Value):Cd:=match x with
 | some v=>some ([],.vl (.lf (.c v)),s)
 | none=>none
def vl0 (s:St) (x:Option Vl):Cd:=match x with
 | some v=>some ([],.vl v,s)
 | none=>none
def av0 (s:St) (x:Option AV):Cd:=match x with
 | some v=>some ([],v,s)
 | none=>none
def avS (x:Option (AV×St)):Cd:=match x with
 | some (v,s)=>some ([],v,s)
 | none=>none
def stC (x:Option (List Bool×St)):Cd:=match x with
 | some (cs,s)=>some (cs,.dead,s)
 | none=>none
def A7b (s:St) (x:Operand):Bool:=match s.value x with
 | some (.ag _)=>true
 | _=>false
def A7z (s:St) (x:Operand):Bool:=match s.conc x with
 | some (.string _)=>true
 | _=>false
def Asm (P:Program) (T:TypeId):Bool:=match P.underlying T with
 | some (.slice _)=>true
 | _=>false
def A3e (P:Program) (T:TypeId):Bool:=match P.underlying T with
 | some .string=>true
 | _=>false
def Amx (s:St):List Operand→Option (List Lf)
 | []=>some []
 | x::r=>(s.leaf x).bind fun l=>(Amx s r).bind fun ls=>some (l::ls)
def An3 (s:St) (f:Fn) (first captured:List Operand):Option AV:=match f,first with
 | .func f,[]=>(Amx s captured).map (AV.fn f)
 | _,_=>none
def Xk (P:Program) (s:St) (nid:Nat) (o:Oper):Cd:=match o.op with
 | .move x=>avS (q9 P s nid o.type x)
 | .assign x=>avS (q9 P s nid o.type x)
 | .pick c x y=>av0 s (s4 s c x y)
 | .alloc T=>lf0 (Atw P s nid T)
 | .box T x=>match s.value x with
  | some v=>lf0 (A20 s nid T v)
  | none=>none
 | .build T parts=>vl0 s (Atx P s T parts)
 | .buildSlice T len parts=>if A3c P T len then lf0 (Any P s nid T parts.toList) else lf0 (Zb P s nid T len parts)
 | .load T x=>if Af4 s x then lfC s (At6 P s T x) else vl0 s (Ani P s T x)
 | .store T x y=>if Af4 s x then stC (Af5 P s T x y) else stC (o9 P s T x y)
 | .nilCheck x=>av0 s (Aei s x)
 | .binOp op T x y U=>match op with
  | .add=>if A7z s x then vC s (Anw s .add x y) else v0 s (Nk P s o)
  | .quo=>vC s (Avw s .quo x y)
  | .rem=>vC s (Avw s .rem x y)
  | .shl=>vC s (Avw s .shl x y)
  | .eql=>if A7b s x then v0 s (At5 P s .eql T x y) else v0 s (Nk P s o)
  | .neq=>if A7b s x then v0 s (At5 P s .neq T x y) else v0 s (Nk P s o)
  | _=>v0 s (Nk P s o)
 | .unOp _ _ _=>v0 s (Nk P s o)
 | .convert T U x=>if Asm P T then v0 s (Aeb P s T U x) else if Asm P U then lfS (Aea P s nid T U x) else v0 s (Nk P s o)
 | .makeSlice T x y=>lfS (Zi P s nid T x y)
 | .slice T x lo hi mx=>if A3e P T then vC s (Aeh P s T x lo hi mx) else (match mx with
  | none=>lfS (An2 P s T x lo hi)
  | some _=>none)
 | .fieldAddr T x f=>lf0 ((n7 P s T x f).map fun l=>(l,s))
 | .field T x f=>vl0 s (Atv P s T x f)
 | .indexAddr T x y=>if Abp s x then lfC s (Xh P s T x y) else lfC s (Mf P s T x y)
 | .index T x y=>vC s (Aeg P s T x y)
 | .extract x i=>av0 s (Ai0 s x i)
 | .makeMap T h=>(match h with
  | none=>lf0 (Aiu P s nid T)
  | some _=>none)
 | .mapUpdate T m k v=>stC ((An0 P s T m k v).map fun s'=>([],s'))
 | .lookup T m k ok=>if ok then none else v0 s (Aiv P s T m k)
 | .range T m=>lf0 (At9 P s nid T m)
 | .entry it=>av0 s (Aua s it)
 | .makeFunc f first captured=>av0 s (An3 s f first.toList captured.toList)
 | .call c=>match c.callee with
  | .builtin .len=>(match c.args.toList,c.argTypes.toList with
   | [x],[T]=>if Asm P T then (if Abp s x then v0 s (Air P s T x) else v0 s (Asa P s T x)) else if A7y P T then v0 s (Xj P s T x) else v0 s (Nk P s o)
   | _,_=>none)
  | .builtin .append=>(match c.args.toList,c.argTypes.toList with
   | [x,y],[T,U]=>if A3e P U then lfS (Zj P s nid T U x y) else if U=T then (if Abp s x then lfS (Ais P s nid T x y) else lfS (Aiw P s nid T x y)) else none
   | _,_=>none)
  | .builtin .delete=>(match c.args.toList,c.argTypes.toList with
   | [x,y],[T,U]=>stC ((An1 P s T U x y).map fun s'=>([],s'))
   | _,_=>none)
  | .builtin .min=>v0 s (Nk P s o)
  | .builtin .max=>v0 s (Nk P s o)
  | _=>none
 | _=>none
section
variable {P:Program} {n B:Nat} {Iq:List Nat} {s:St} {g:Gh} {a:Act} {w:World}
def Od (P:Program) (n B:Nat) (Iq:List Nat) (s:St) (g:Gh) (a:Act) (w:World) (o:Oper) (av:AV) (s':St):Prop:=
 ∀ (K:Act→World→Prop) (Q:Exit→Act→World→Prop),(∀ v g' w',Go B Iq s g w s' g' w'→B5 n B Iq s' g' a w'→Wz s' g' w' av v→K (a.put o.dst v) w')→o.wp P a w K Q
theorem Od.val {o:Oper} {av:AV} {s':St} {v:Value} {w':World} {g':Gh} (hr:(execOp a.eval o).run P w=.ok (.value v) w') (h1:Go B Iq s g w s' g' w') (h2:B5 n B Iq s' g' a w') (h3:Wz s' g' w' av v):Od P n B Iq s g a w o av s':=by
 intro K Q hK
 unfold Oper.wp
 rw [hr,Oper.upon_value]
 exact hK v g' w' h1 h2 h3
theorem Od.skip {o:Oper} {s':St} {w':World} {g':Gh} (hr:(execOp a.eval o).run P w=.ok .skip w') (h1:Go B Iq s g w s' g' w') (h2:B5 n B Iq s' g' a w'):Od P n B Iq s g a w o .dead s':=by
 intro K Q hK
 unfold Oper.wp
 rw [hr,Oper.upon_skip]
 exact hK _ g' w' h1 h2 trivial
theorem Od.here {o:Oper} {av:AV} {v:Value} (h:B5 n B Iq s g a w) (hr:(execOp a.eval o).run P w=.ok (.value v) w) (h3:Wz s g w av v):Od P n B Iq s g a w o av s:=
 Od.val hr (Go.refl B Iq s g w) h h3
theorem Asn (h:B5 n B Iq s g a w) {nid:Nat} {T:TypeId} {x:Operand} {av:AV} {s':St} (e:q9 P s nid T x=some (av,s')):
  ∃ g',Go B Iq s g w s' g' w∧B5 n B Iq s' g' a w∧Wz s' g' w av (a.eval x):=by
 unfold q9 at e
 split at e
 ·rename_i hn
  unfold Ako at hn
  split at hn
  ·exact Av1 h e
  ·cases hn
 ·cases e
  exact ⟨g,Go.refl B Iq s g w,h,Ax7 h x⟩
theorem A1p (h:B5 n B Iq s g a w) {c x y:Operand} {av:AV} (e:s4 s c x y=some av):
  ∃ t:Bool,a.eval c=.bool t∧Wz s g w av (bif t then a.eval x else a.eval y):=by
 unfold s4 at e
 split at e
 ·rename_i t hc
  refine ⟨t,(C7 h hc).1,?_⟩
  split at e
  ·rename_i p q hb
   cases e
   unfold Auf at hb
   split at hb<;>cases hb
   rename_i hx hy
   rw [(C7 h hx).1,(C7 h hy).1]
   cases t
   ·exact ⟨rfl,rfl⟩
   ·exact ⟨rfl,rfl⟩
  ·cases e
   cases t
   ·exact Ax7 h y
   ·exact Ax7 h x
 ·cases e
theorem Aug (h:B5 n B Iq s g a w) {x:Operand} {i:Nat} {av:AV} (e:Ai0 s x i=some av):
  ∃ v,(Instr.extract (a.eval x) i).run P w=.ok v w∧Wz s g w av v:=by
 unfold Ai0 at e
 split at e
 ·rename_i vs hx
  split at e<;>cases e
  rename_i v hv
  have k:=Ax7 h x
  rw [hx] at k
  obtain ⟨us,hu,hsz,hk⟩:=k
  obtain ⟨u,e1,e2⟩:=hk i v hv
  refine ⟨u,?_,e2⟩
  rw [hu]
  simp [Instr.extract,e1]
 ·cases e
theorem Aq5 (h:B5 n B Iq s g a w) {x:Operand} {av:AV} (e:Aei s x=some av):
  (∃ ad,a.eval x=.pointer (some ad))∧Wz s g w av (a.eval x):=by
 unfold Aei at e
 split at e
 ·rename_i id off hx
  obtain ⟨hl,h1⟩:=C8 h hx
  split at e<;>cases e
  rename_i T ls hr
  refine ⟨?_,hl,h1⟩
  simp only [Dp,hr] at hl
  obtain ⟨b,_,hu⟩:=hl
  exact ⟨_,hu⟩
 ·rename_i t xs i off hx
  obtain ⟨hl,h1⟩:=C8 h hx
  cases e
  refine ⟨?_,hl,h1⟩
  obtain ⟨ad,cs,hu,_⟩:=hl
  exact ⟨_,hu⟩
 ·rename_i id i off hx
  obtain ⟨hl,h1⟩:=C8 h hx
  split at e<;>cases e
  rename_i T t xs hr
  refine ⟨?_,hl,h1⟩
  simp only [Dp,hr] at hl
  obtain ⟨_,b,_,hu⟩:=hl
  exact ⟨_,hu⟩
 ·cases e
theorem Aso (h:B5 n B Iq s g a w):∀ {xs:List Operand} {ls:List Lf},Amx s xs=some ls→Hl s g w ls (xs.map a.eval)
 | [],ls,e=>by cases e; trivial
 | x::r,ls,e=>by
  simp only [Amx] at e
  obtain ⟨l,e1,e⟩:=A6 e
  obtain ⟨ls',e2,e⟩:=A6 e
  cases e
  exact ⟨C8 h e1,Aso h e2⟩
theorem Amy {x:Option (List Bool×Lf)} {r:AV×St} (e:Nm (lfC s x)=some r):∃ l,Nm x=some l∧r=(.vl (.lf l),s):=by
 obtain ⟨cs,e1,e2⟩:=Cg e
 unfold lfC at e1
 split at e1<;>cases e1
 exact ⟨_,by simp [Nm,e2],rfl⟩
theorem Abq {x:Option (List Bool×Lf×St)} {r:AV×St} (e:Nm (lfS x)=some r):∃ l s',Nm x=some (l,s')∧r=(.vl (.lf l),s'):=by
 obtain ⟨cs,e1,e2⟩:=Cg e
 unfold lfS at e1
 split at e1<;>cases e1
 exact ⟨_,_,by simp [Nm,e2],rfl⟩
theorem Af8 {x:Option (List Bool×St)} {r:AV×St} (e:Nm (stC x)=some r):∃ s',Nm x=some s'∧r=(.dead,s'):=by
 obtain ⟨cs,e1,e2⟩:=Cg e
 unfold stC at e1
 split at e1<;>cases e1
 exact ⟨_,by simp [Nm,e2],rfl⟩
theorem Aej {x:Option (List Bool×Value)} {r:AV×St} (e:Nm (vC s x)=some r):∃ v,Nm x=some v∧r=(.vl (.lf (.c v)),s):=by
 obtain ⟨cs,e1,e2⟩:=Cg e
 unfold vC at e1
 split at e1<;>cases e1
 exact ⟨_,by simp [Nm,e2],rfl⟩
theorem Vm {x:Option (Lf×St)} {r:AV×St} (e:Nm (lf0 x)=some r):∃ l s',x=some (l,s')∧r=(.vl (.lf l),s'):=by
 obtain ⟨cs,e1,e2⟩:=Cg e
 unfold lf0 at e1
 split at e1<;>cases e1
 exact ⟨_,_,rfl,rfl⟩
theorem Zk {x:Option Value} {r:AV×St} (e:Nm (v0 s x)=some r):∃ v,x=some v∧r=(.vl (.lf (.c v)),s):=by
 obtain ⟨cs,e1,e2⟩:=Cg e
 unfold v0 at e1
 split at e1<;>cases e1
 exact ⟨_,rfl,rfl⟩
theorem Amz {x:Option Vl} {r:AV×St} (e:Nm (vl0 s x)=some r):∃ v,x=some v∧r=(.vl v,s):=by
 obtain ⟨cs,e1,e2⟩:=Cg e
 unfold vl0 at e1
 split at e1<;>cases e1
 exact ⟨_,rfl,rfl⟩
theorem Abr {x:Option AV} {r:AV×St} (e:Nm (av0 s x)=some r):∃ v,x=some v∧r=(v,s):=by
 obtain ⟨cs,e1,e2⟩:=Cg e
 unfold av0 at e1
 split at e1<;>cases e1
 exact ⟨_,rfl,rfl⟩
theorem Am0 {x:Option (AV×St)} {r:AV×St} (e:Nm (avS x)=some r):x=some r:=by
 obtain ⟨cs,e1,e2⟩:=Cg e
 unfold avS at e1
 split at e1<;>cases e1
 rfl
theorem Az0 {x:Option St} {s':St} (e:Nm (x.map fun s'=>(([]:List Bool),s'))=some s'):x=some s':=by
 cases x with
 | none=>cases e
 | some y=>exact e
theorem Oe {v:Value} (h1:v.oneCell'=true):Wz s g w (.vl (.lf (.c v))) v:=⟨rfl,h1⟩
theorem Av9 (h:B5 n B Iq s g a w) {nid:Nat} {o:Oper} {av:AV} {s':St} (e:Nm (Xk P s nid o)=some (av,s')):Od P n B Iq s g a w o av s':=by
 obtain ⟨dst,op,type,pos,after,guard⟩:=o
 have viaConc:∀ {op:Op},(∀ cs b,op≠.select cs b)→Nm (v0 s (Nk P s ⟨dst,op,type,pos,after,guard⟩))=some (av,s')→Od P n B Iq s g a w ⟨dst,op,type,pos,after,guard⟩ av s':=by
  intro op hs e
  obtain ⟨v,e1,e2⟩:=Zk e
  cases e2
  obtain ⟨k1,k2⟩:=A1i h hs e1
  exact Od.here h k1 (Oe k2)
 cases op<;>simp only [Xk] at e<;>first | (cases e; done) | skip
 case move x=>
  obtain ⟨g',k1,k2,k3⟩:=Asn h (Am0 e)
  exact Od.val (v:=a.eval x) (by simp [execOp]) k1 k2 k3
 case assign x=>
  obtain ⟨g',k1,k2,k3⟩:=Asn h (Am0 e)
  exact Od.val (v:=a.eval x) (by simp [execOp]) k1 k2 k3
 case pick c x y=>
  obtain ⟨v,e1,e2⟩:=Abr e
  cases e2
  obtain ⟨t,k1,k2⟩:=A1p h e1
  refine Od.here h (v:=bif t then a.eval x else a.eval y) ?_ k2
  simp only [execOp,k1]
  cases t<;>simp [asBool]
 case alloc T=>
  obtain ⟨l,s1,e1,e2⟩:=Vm e
  cases e2
  obtain ⟨x,w',g',k1,k2,k3,k4,k5⟩:=Ax9 h e1
  exact Od.val (v:=x) (by simp [execOp,k1]) k2 k3 ⟨k4,k5⟩
 case box T x=>
  split at e
  ·rename_i v hv
   obtain ⟨l,s1,e1,e2⟩:=Vm e
   cases e2
   obtain ⟨x',w',g',k1,k2,k3,k4,k5⟩:=A23 (P:=P) h (Zc h hv) e1
   exact Od.val (v:=x') (by simp [execOp,k1]) k2 k3 ⟨k4,k5⟩
  ·cases e
 case build T parts=>
  obtain ⟨v,e1,e2⟩:=Amz e
  cases e2
  obtain ⟨u,k1,k2⟩:=Aya h e1
  exact Od.here h (v:=u) (by simp only [execOp,Sem.run_bind,k1]; rfl) k2
 case buildSlice T len parts=>
  split at e
  ·rename_i hsl
   have hlen:len=1:=by
    unfold A3c at hsl
    split at hsl
    ·split at hsl
     ·exact Nat.eq_of_beq_eq_true hsl
     ·cases hsl
    ·cases hsl
   subst hlen
   obtain ⟨l,s1,e1,e2⟩:=Vm e
   cases e2
   obtain ⟨u,w',g',k1,k2,k3,k4,k5⟩:=Av4 h e1
   exact Od.val (v:=u) (by simp only [execOp,Sem.run_bind,k1]; rfl) k2 k3 ⟨k4,k5⟩
  ·obtain ⟨l,s1,e1,e2⟩:=Vm e
   cases e2
   obtain ⟨u,w',g',k1,k2,k3,k4,k5⟩:=Ali h e1
   exact Od.val (v:=u) (by simp only [execOp,Sem.run_bind,k1]; rfl) k2 k3 ⟨k4,k5⟩
 case load T x=>
  split at e
  ·obtain ⟨l,e1,e2⟩:=Amy e
   cases e2
   obtain ⟨u,k1,k2,k3⟩:=Ayh h e1
   exact Od.here h (v:=u) (by simp [execOp,k1]) ⟨k2,k3⟩
  ·obtain ⟨v,e1,e2⟩:=Amz e
   cases e2
   obtain ⟨u,k1,k2⟩:=A1j h e1
   exact Od.here h (v:=u) (by simp [execOp,k1]) k2
 case store T x y=>
  split at e
  ·obtain ⟨s1,e1,e2⟩:=Af8 e
   cases e2
   obtain ⟨w',g',k1,k2,k3⟩:=Av2 h e1
   exact Od.skip (by simp [execOp,k1]) k2 k3
  ·obtain ⟨s1,e1,e2⟩:=Af8 e
   cases e2
   obtain ⟨w',g',k1,k2,k3⟩:=Ayd h (Aue e1)
   exact Od.skip (by simp [execOp,k1]) k2 k3
 case nilCheck x=>
  obtain ⟨v,e1,e2⟩:=Abr e
  cases e2
  obtain ⟨⟨ad,k1⟩,k2⟩:=Aq5 h e1
  refine Od.here h (v:=a.eval x) ?_ k2
  simp [execOp,k1]
 case binOp op T x y U=>
  have viaV:∀ {op:BinOp} {v:Value},((do eqGuard op T x y (a.eval x) (a.eval y); binOp op T (a.eval x) (a.eval y)):Sem Value).run P w=.ok v w∧v.oneCell'=true→Od P n B Iq s g a w ⟨dst,.binOp op T x y U,type,pos,after,guard⟩ (.vl (.lf (.c v))) s:=by
   intro op v hv
   refine Od.here h (v:=v) ?_ (Oe hv.2)
   simp only [execOp,Sem.run_bind] at hv ⊢
   rw [hv.1]
   rfl
  have hsel:∀ (op:BinOp) cs b,Op.binOp op T x y U≠.select cs b:=by intro op cs b q; cases q
  split at e
  ·split at e
   ·obtain ⟨v,e1,e2⟩:=Aej e
    cases e2
    exact viaV (Avx h e1)
   ·exact viaConc (hsel _) e
  ·obtain ⟨v,e1,e2⟩:=Aej e
   cases e2
   exact viaV (Anx h e1)
  ·obtain ⟨v,e1,e2⟩:=Aej e
   cases e2
   exact viaV (Anx h e1)
  ·obtain ⟨v,e1,e2⟩:=Aej e
   cases e2
   exact viaV (Anx h e1)
  ·split at e
   ·obtain ⟨v,e1,e2⟩:=Zk e
    cases e2
    exact viaV (Asi h e1)
   ·exact viaConc (hsel _) e
  ·split at e
   ·obtain ⟨v,e1,e2⟩:=Zk e
    cases e2
    exact viaV (Asi h e1)
   ·exact viaConc (hsel _) e
  ·exact viaConc (hsel _) e
 case unOp op T x=>exact viaConc (by intro cs b q; cases q) e
 case convert T U x=>
  split at e
  ·obtain ⟨v,e1,e2⟩:=Zk e
   cases e2
   obtain ⟨k1,k2⟩:=Aq0 h e1
   exact Od.here h (v:=v) (by simp [execOp,k1]) (Oe k2)
  ·split at e
   ·obtain ⟨l,s1,e1,e2⟩:=Abq e
    cases e2
    obtain ⟨u,w',g',k1,k2,k3,k4,k5⟩:=Aq3 h e1
    exact Od.val (v:=u) (by simp [execOp,k1]) k2 k3 ⟨k4,k5⟩
   ·exact viaConc (by intro cs b q; cases q) e
 case makeSlice T x y=>
  obtain ⟨l,s1,e1,e2⟩:=Abq e
  cases e2
  obtain ⟨u,w',g',k1,k2,k3,k4,k5⟩:=Anq h (Aiy e1)
  exact Od.val (v:=u) (by simp [execOp,k1]) k2 k3 ⟨k4,k5⟩
 case slice T x lo hi mx=>
  split at e
  ·obtain ⟨v,e1,e2⟩:=Aej e
   cases e2
   obtain ⟨k1,k2⟩:=Aq2 h e1
   exact Od.here h (v:=v) (by simp only [execOp,Sem.run_bind,k1]; rfl) (Oe k2)
  ·split at e
   ·obtain ⟨l,s1,e1,e2⟩:=Abq e
    cases e2
    obtain ⟨u,g',k1,k2,k3,k4,k5⟩:=Ayb h (Aud e1)
    exact Od.val (v:=u) (by simp only [execOp,Sem.run_bind,Option.map_none,k1]; rfl) k2 k3 ⟨k4,k5⟩
   ·cases e
 case fieldAddr T x f=>
  obtain ⟨l,s1,e1,e2⟩:=Vm e
  cases e2
  obtain ⟨l',e3,e4⟩:=Option.map_eq_some_iff.1 e1
  cases e4
  obtain ⟨u,k1,k2,k3⟩:=Ank h e3
  exact Od.here h (v:=u) (by simp [execOp,k1]) ⟨k2,k3⟩
 case field T x f=>
  obtain ⟨v,e1,e2⟩:=Amz e
  cases e2
  obtain ⟨u,k1,k2⟩:=Ax8 h e1
  exact Od.here h (v:=u) (by simp [execOp,k1]) k2
 case indexAddr T x y=>
  split at e
  ·obtain ⟨l,e1,e2⟩:=Amy e
   cases e2
   obtain ⟨u,k1,k2,k3⟩:=Av0 h e1
   exact Od.here h (v:=u) (by simp [execOp,k1]) ⟨k2,k3⟩
  ·obtain ⟨l,e1,e2⟩:=Amy e
   cases e2
   obtain ⟨u,k1,k2,k3⟩:=Anl h (Aix e1)
   exact Od.here h (v:=u) (by simp [execOp,k1]) ⟨k2,k3⟩
 case index T x y=>
  obtain ⟨v,e1,e2⟩:=Aej e
  cases e2
  obtain ⟨k1,k2⟩:=Aq1 h e1
  exact Od.here h (v:=v) (by simp [execOp,k1]) (Oe k2)
 case extract x i=>
  obtain ⟨v,e1,e2⟩:=Abr e
  cases e2
  obtain ⟨u,k1,k2⟩:=Aug (P:=P) h e1
  exact Od.here h (v:=u) (by simp [execOp,k1]) k2
 case makeMap T hint=>
  cases hint with
  | some _=>cases e
  | none=>
   obtain ⟨l,s1,e1,e2⟩:=Vm e
   cases e2
   obtain ⟨u,w',g',k1,k2,k3,k4,k5⟩:=Auc h e1
   exact Od.val (v:=u) (by simp [execOp,k1]) k2 k3 ⟨k4,k5⟩
 case mapUpdate T m k v=>
  obtain ⟨s1,e1,e2⟩:=Af8 e
  cases e2
  obtain ⟨w',g',k1,k2,k3⟩:=Av6 h (Az0 e1)
  exact Od.skip (by simp [execOp,k1]) k2 k3
 case lookup T m k ok=>
  cases ok with
  | true=>cases e
  | false=>
   obtain ⟨v,e1,e2⟩:=Zk e
   cases e2
   obtain ⟨k1,k2⟩:=Aub h e1
   exact Od.here h (v:=v) (by simp [execOp,k1]) (Oe k2)
 case range T m=>
  obtain ⟨l,s1,e1,e2⟩:=Vm e
  cases e2
  obtain ⟨u,w',g',k1,k2,k3,k4,k5⟩:=Ayi h e1
  exact Od.val (v:=u) (by simp [execOp,k1]) k2 k3 ⟨k4,k5⟩
 case entry it=>
  obtain ⟨av,e1,e2⟩:=Abr e
  cases e2
  obtain ⟨v,k1,k2⟩:=Ayj (P:=P) h e1
  exact Od.here h (v:=v) (by simp [execOp,k1]) k2
 case makeFunc f first captured=>
  obtain ⟨v,e1,e2⟩:=Abr e
  cases e2
  unfold An3 at e1
  split at e1
  ·rename_i f0 hfirst
   obtain ⟨ls,q1,rfl⟩:=Option.map_eq_some_iff.1 e1
   have hf':first=#[]:=by apply Array.toList_inj.1; simpa using hfirst
   subst hf'
   refine Od.here h (v:=.func (.func f0) #[] (captured.map a.eval)) (by simp [execOp,Instr.makeFunc]) ⟨_,rfl,?_⟩
   rw [Array.toList_map]
   exact Aso h q1
  ·cases e1
 case call c=>
  obtain ⟨callee,args,argTypes⟩:=c
  simp only at e
  split at e
  ·split at e
   ·rename_i x T ha ht
    have ha':args=#[x]:=by apply Array.toList_inj.1; simpa using ha
    have ht':argTypes=#[T]:=by apply Array.toList_inj.1; simpa using ht
    subst ha' ht'
    split at e
    ·split at e
     ·obtain ⟨v,e1,e2⟩:=Zk e
      cases e2
      obtain ⟨k1,k2⟩:=A1m (ty:=type) h e1
      exact Od.here h (v:=v) (by simp [execOp,resolve,invoke,builtin,k1]) (Oe k2)
     ·obtain ⟨v,e1,e2⟩:=Zk e
      cases e2
      obtain ⟨k1,k2⟩:=A22 (ty:=type) h e1
      exact Od.here h (v:=v) (by simp [execOp,resolve,invoke,builtin,k1]) (Oe k2)
    ·split at e
     ·obtain ⟨v,e1,e2⟩:=Zk e
      cases e2
      obtain ⟨k1,k2⟩:=Av8 (ty:=type) h e1
      exact Od.here h (v:=v) (by simp [execOp,resolve,invoke,builtin,k1]) (Oe k2)
     ·exact viaConc (by intro cs b q; cases q) e
   ·cases e
  ·split at e
   ·rename_i x y T U ha ht
    have ha':args=#[x,y]:=by apply Array.toList_inj.1; simpa using ha
    have ht':argTypes=#[T,U]:=by apply Array.toList_inj.1; simpa using ht
    subst ha' ht'
    split at e
    ·obtain ⟨l,s1,e1,e2⟩:=Abq e
     cases e2
     obtain ⟨u,w',g',k1,k2,k3,k4,k5⟩:=Ano (ty:=type) h (Aiz e1)
     exact Od.val (v:=u) (by simp [execOp,resolve,invoke,builtin,k1]) k2 k3 ⟨k4,k5⟩
    ·split at e
     ·rename_i hUT
      subst hUT
      split at e
      ·obtain ⟨l,s1,e1,e2⟩:=Abq e
       cases e2
       obtain ⟨u,w',g',k1,k2,k3,k4,k5⟩:=At8 (ty:=type) h e1
       exact Od.val (v:=u) (by simp [execOp,resolve,invoke,builtin,k1]) k2 k3 ⟨k4,k5⟩
      ·obtain ⟨l,s1,e1,e2⟩:=Abq e
       cases e2
       obtain ⟨u,w',g',k1,k2,k3,k4,k5⟩:=Avt (ty:=type) h (Aq4 e1)
       exact Od.val (v:=u) (by simp [execOp,resolve,invoke,builtin,k1]) k2 k3 ⟨k4,k5⟩
     ·cases e
   ·cases e
  ·split at e
   ·rename_i x y T U ha ht
    have ha':args=#[x,y]:=by apply Array.toList_inj.1; simpa using ha
    have ht':argTypes=#[T,U]:=by apply Array.toList_inj.1; simpa using ht
    subst ha' ht'
    obtain ⟨s1,e1,e2⟩:=Af8 e
    cases e2
    obtain ⟨w',g',k1,k2,k3⟩:=Av7 (ty:=type) h (Az0 e1)
    exact Od.val (v:=.tuple #[]) (by simp [execOp,resolve,invoke,builtin,k1]) k2 k3 trivial
   ·cases e
  ·exact viaConc (by intro cs b q; cases q) e
  ·exact viaConc (by intro cs b q; cases q) e
  ·cases e
end
end
end Go.Proofs.Ytfkefgbihlfjmaa.R
end
