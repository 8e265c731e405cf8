/- The kinds of data that the evaluator knows, what is read of them in memory, and the evaluator's state. No condition. -/
import Derived.Below
import Derived.OwnWalk
import Derived.Maps.AppendAt
import Derived.MapKept
import Derived.Laws.BytesArg
import Derived.Orders
import Derived.Laws.Cells
import Derived.Laws.CopyRow
import Derived.Laws.Entries
import Derived.Great.BuildSlice
import Derived.Laws.Tables
import Derived.Laws.OwnMore
import Derived.Great.FillDense
import Derived.Deep.AppendSrc
import Derived.Laws.BytesString
import Derived.WideShapes
import Derived.Laws.Concat
import Derived.Laws.StructEq
import Derived.Laws.Strings3
import Derived.Laws.DeepStrings4
import Derived.Laws.Slices
import Derived.Laws.IdiomStrings
noncomputable section
set_option linter.unusedVariables false
set_option linter.unusedSimpArgs false
namespace Go.Proofs.YtjokieaajjmoeaaGreat.R
open Go Go.RowKit
section
abbrev Aa:=ByteArray
abbrev Ac:ByteArray:=ByteArray.mk #[]
theorem Ap {p:Prop} [Decidable p] (h:p):decide p=true:=decide_eq_true h
theorem Bd {p:Prop} [Decidable p] (h:¬p):decide p=false:=decide_eq_false h
theorem F0 {p:Prop} [Decidable p] (h:decide p=true):p:=of_decide_eq_true h
theorem Lw {α:Type _} {x y:List α}:(x++y).length=x.length + y.length:=List.length_append
theorem Nz {α:Type _} {a:α}:[a].length=1:=rfl
theorem Eo (n:Nat):(n:Int).toNat=n:=Int.toNat_natCast n
theorem A6 {α β:Type _} {x:Option α} {f:α→Option β} {b:β} (h:x.bind f=some b):∃ a,x=some a∧f a=some b:=Option.bind_eq_some_iff.1 h
inductive Ty where
 | int (k:IntKind)
 | bool
 | str
 | sl (t:Ty)
 | unit
 | pair (a b:Ty)
 deriving DecidableEq
def Ty.D:Ty→Type
 | .int _=>Int
 | .bool=>Bool
 | .str=>Aa
 | .sl t=>List t.D
 | .unit=>Unit
 | .pair a b=>a.D×b.D
def Ty.sz:Ty→Nat
 | .unit=>0
 | .pair a b=>a.sz + b.sz
 | _=>1
def Ty.zero:(t:Ty)→t.D
 | .int _=>(0:Int)
 | .bool=>false
 | .str=>(⟨#[]⟩:Aa)
 | .sl _=>[]
 | .unit=>()
 | .pair a b=>(a.zero,b.zero)
abbrev nth {α:Type} (xs:List α) (i:Nat):Option α:=xs[i]?
def Ty.K (w:World) (S:Nat→Prop):(t:Ty)→t.D→List Value→Prop
 | .int k,n,cs=>cs=[.int k n]
 | .bool,b,cs=>cs=[.bool b]
 | .str,s,cs=>cs=[.string s]
 | .sl t,xs,cs=>∃ (A:Option Addr) (c:Nat),cs=[.slice A (List.length xs) c]∧List.length xs≤c∧
   ∀ (i:Nat) (x:t.D),nth (α:=t.D) xs i=some x→∃ ad,A=some ad∧S ad.block∧ad.block < w.heap.size∧
    ∃ cs',List.length cs'=t.sz∧t.K w S x cs'∧∀ (j:Nat) (u:Value),cs'[j]? = some u→w.cell? (ad.add (i * t.sz + j))=some u
 | .unit,_,cs=>cs=[]
 | .pair a b,x,cs=>∃ c1 c2,cs=c1++c2∧a.K w S x.1 c1∧b.K w S x.2 c2
theorem Ty.K_len {w:World} {S:Nat→Prop}:∀ {t:Ty} {x:t.D} {cs:List Value},t.K w S x cs→cs.length=t.sz
 | .int _,_,_,h=>by cases h; rfl
 | .bool,_,_,h=>by cases h; rfl
 | .str,_,_,h=>by cases h; rfl
 | .sl _,_,_,⟨_,_,h,_⟩=>by cases h; rfl
 | .unit,_,_,h=>by cases h; rfl
 | .pair a b,_,_,⟨_,_,h,h1,h2⟩=>by
  subst h
  rw [Lw,K_len h1,K_len h2]
  rfl
theorem Ty.K_one {w:World} {S:Nat→Prop}:∀ {t:Ty} {x:t.D} {cs:List Value},t.K w S x cs→∀ u∈cs,u.oneCell'=true
 | .int _,_,_,h,u,hu=>by cases h; simp at hu; subst hu; rfl
 | .bool,_,_,h,u,hu=>by cases h; simp at hu; subst hu; rfl
 | .str,_,_,h,u,hu=>by cases h; simp at hu; subst hu; rfl
 | .sl _,_,_,⟨_,_,h,_⟩,u,hu=>by cases h; simp at hu; subst hu; rfl
 | .unit,_,_,h,u,hu=>by cases h; simp at hu
 | .pair a b,_,_,⟨_,_,h,h1,h2⟩,u,hu=>by
  subst h
  rcases List.mem_append.1 hu with hu | hu
  ·exact K_one h1 u hu
  ·exact K_one h2 u hu
theorem Ayt {w w':World} {a:Addr} (h:w'.heap[a.block]? = w.heap[a.block]?):w'.cell? a=w.cell? a:=by
 unfold World.cell?
 rw [h]
theorem Als {w w':World} {b:Nat} (hb:b < w.heap.size) (h:w'.heap[b]? = w.heap[b]?):b < w'.heap.size:=by
 rw [Array.getElem?_eq_getElem hb] at h
 exact (Array.getElem?_eq_some_iff.1 h).1
theorem Aap (a:Addr) (n:Nat):(a.add n).block=a.block:=by unfold Addr.add; split<;>rfl
theorem Ax1 (a:Addr) (m n:Nat):(a.add m).add n=a.add (m + n):=by
 unfold Addr.add
 by_cases h1:m=0<;>by_cases h2:n=0<;>simp [h1,h2,Nat.add_assoc]
theorem Ayu (g j:Nat):(⟨g,0,none⟩:Addr).add j=⟨g,j,none⟩:=by unfold Addr.add; split<;>simp_all
theorem Ac8 (g i j:Nat):(⟨g,i,none⟩:Addr).add j=⟨g,i + j,none⟩:=by unfold Addr.add; split<;>simp_all
theorem Ty.K_keep {w w':World} {S S':Nat→Prop} (hS:∀ b,S b→b < w.heap.size→S' b∧w'.heap[b]? = w.heap[b]?):
  ∀ {t:Ty} {x:t.D} {cs:List Value},t.K w S x cs→t.K w' S' x cs
 | .int _,_,_,h=>h
 | .bool,_,_,h=>h
 | .str,_,_,h=>h
 | .sl t,xs,cs,⟨A,c,h1,h2,h3⟩=>⟨A,c,h1,h2,fun i x hx=>by
   obtain ⟨ad,e,hs,hlt,cs',hl,hk,hc⟩:=h3 i x hx
   obtain ⟨s1,s2⟩:=hS _ hs hlt
   refine ⟨ad,e,s1,Als hlt s2,cs',hl,K_keep hS hk,fun j u hu=>?_⟩
   exact (Ayt (by rw [Aap]; exact s2)).trans (hc j u hu)⟩
 | .unit,_,_,h=>h
 | .pair a b,_,_,⟨c1,c2,h,h1,h2⟩=>⟨c1,c2,h,K_keep hS h1,K_keep hS h2⟩
inductive Lf where
 | c (v:Value)
 | sl (t:Ty) (xs:List t.D)
 | row (id:Nat)
 | ptr (id off:Nat)
 | ep (t:Ty) (xs:List t.D) (i off:Nat)
 | rp (id i off:Nat)
 | sp (id:Nat)
inductive Vl where
 | lf (l:Lf)
 | ag (ls:List Lf)
inductive AV where
 | dead
 | vl (v:Vl)
 | tp (vs:List Vl)
 | fn (f:FuncId) (ls:List Lf)
structure NE where
 o:TypeId
 i:TypeId
 u:Bool
 deriving DecidableEq
inductive Jw where
 | unborn
 | dead
 | box (T:TypeId) (ls:List Lf)
 | row (e:TypeId) (t:Ty) (xs:List t.D)
 | frozen (t:Ty) (xs:List t.D)
 | last (e:NE) (t:Ty) (xs:List (List t.D)) (c:Bool) (j:Nat)
 | mid (e:NE) (t:Ty) (xs:List (List t.D)) (i j:Nat)
 | map (t:Ty) (xs:List (Aa×t.D))
 | iter (t:Ty) (xs:List (Aa×t.D)) (left:List (Aa×t.D)) (cur:Option (Aa×t.D))
structure St where
 cell:Nat→AV
 res:Nat→Jw
structure Gh where
 blk:Nat→Option Nat
 hdr:Nat→Value
 av:Nat→Prop
 innL:Nat→List Nat
abbrev Gh.inn (g:Gh) (id b:Nat):Prop:=b∈g.innL id
def Jw.live:Jw→Bool
 | .box _ _=>true
 | .row _ _ _=>true
 | .last _ _ _ _ _=>true
 | .mid _ _ _ _ _=>true
 | .map _ _=>true
 | .iter _ _ _ _=>true
 | _=>false
def Jw.nst:Jw→Bool
 | .last _ _ _ _ _=>true
 | .mid _ _ _ _ _=>true
 | _=>false
def Jw.nst0:Jw→Bool
 | .last _ _ _ c _=>!c
 | _=>false
def Jw.nlen:Jw→Option Nat
 | .last _ _ xs c _=>some (xs.length + c.toNat)
 | .mid _ _ xs _ _=>some xs.length
 | _=>none
theorem Jw.nlen_some:∀ {r:Jw} {n:Nat},r.nlen=some n→(∃ (e:NE) (t:Ty) (xs:List (List t.D)) (c:Bool) (j:Nat),r=.last e t xs c j∧xs.length + c.toNat=n)∨∃ (e:NE) (t:Ty) (xs:List (List t.D)) (i j:Nat),r=.mid e t xs i j∧xs.length=n
 | .last e t xs c j,n,h=>.inl ⟨e,t,xs,c,j,rfl,Option.some.inj h⟩
 | .mid e t xs i j,n,h=>.inr ⟨e,t,xs,i,j,rfl,Option.some.inj h⟩
theorem Jw.nst_of0:∀ {r:Jw},r.nst0=true→r.nst=true
 | .last _ _ _ _ _,_=>rfl
def Eg (s:St) (g:Gh):Nat→Prop:=fun b=>¬ g.av b∧(∀ id,(s.res id).live=true→g.blk id≠some b)∧∀ id,(s.res id).nst=true→¬ g.inn id b
def Cx (s:St) (g:Gh) (w:World):Lf→Value→Prop
 | .c v,u=>u=v
 | .sl t xs,u=>(Ty.sl t).K w (Eg s g) xs [u]
 | .row id,u=>match s.res id with
   | .row _ _ _=>u=g.hdr id
   | .frozen _ _=>u=g.hdr id
   | .last _ _ _ _ _=>u=g.hdr id
   | .mid _ _ _ _ _=>u=g.hdr id
   | .map _ _=>u=g.hdr id
   | .iter _ _ _ _=>u=g.hdr id
   | .dead=>True
   | _=>False
 | .ptr id off,u=>match s.res id with
   | .box _ _=>∃ b,g.blk id=some b∧u=.pointer (some ⟨b,off,none⟩)
   | .dead=>True
   | _=>False
 | .ep t xs i off,u=>∃ (ad:Addr) (cs:List Value),u=.pointer (some (ad.add (i * t.sz + off)))∧Eg s g ad.block∧ad.block < w.heap.size∧
   t.K w (Eg s g) (xs.getD i t.zero) cs∧∀ (j:Nat) (v:Value),cs[j]? = some v→w.cell? (ad.add (i * t.sz + j))=some v
 | .rp id i off,u=>match s.res id with
   | .row _ t xs=>i < xs.length∧∃ b,g.blk id=some b∧u=.pointer (some ⟨b,i * t.sz + off,none⟩)
   | .last _ _ xs c _=>i < xs.length + c.toNat∧∃ b,g.blk id=some b∧u=.pointer (some ⟨b,i + off,none⟩)
   | .mid _ _ xs _ _=>i < xs.length∧∃ b,g.blk id=some b∧u=.pointer (some ⟨b,i + off,none⟩)
   | .frozen _ _=>True
   | .dead=>True
   | _=>False
 | .sp id,u=>match s.res id with
   | .box _ _=>u=.pointer none∨∃ b,g.blk id=some b∧u=.pointer (some ⟨b,0,none⟩)
   | .dead=>True
   | _=>False
def I6 (s:St) (g:Gh) (w:World):List Lf→List Value→Prop
 | [],[]=>True
 | l::ls,v::vs=>(Cx s g w l v∧v.oneCell'=true)∧I6 s g w ls vs
 | _,_=>False
def VlR (s:St) (g:Gh) (w:World):Vl→Value→Prop
 | .lf l,u=>Cx s g w l u∧u.oneCell'=true
 | .ag ls,u=>∃ cs:Array Value,u=.agg cs∧I6 s g w ls cs.toList
def c9 (s:St) (g:Gh) (w:World):AV→Value→Prop
 | .dead,_=>True
 | .vl v,u=>VlR s g w v u
 | .tp vs,u=>∃ us:Array Value,u=.tuple us∧us.size=vs.length∧∀ (j:Nat) (v:Vl),vs[j]? = some v→∃ x,us[j]? = some x∧VlR s g w v x
 | .fn f ls,u=>∃ cs:Array Value,u=.func (.func f) #[] cs∧I6 s g w ls cs.toList
def Ik (w:World) (S:Nat→Prop) (t:Ty) (xs:List t.D) (cs:List Value):Prop:=
 cs.length=xs.length * t.sz∧∀ (i:Nat) (x:t.D),xs[i]? = some x→t.K w S x ((cs.drop (i * t.sz)).take t.sz)
def Q7:(t:Ty)→t.D→Value
 | .int k,n=>.int k n
 | .bool,b=>.bool b
 | .str,s=>.string s
 | _,_=>.bool false
def Q8 (es:Array MapEntry) (t:Ty) (xs:List (Aa×t.D)):Prop:=es.toList.map (fun e=>(e.key,e.val))=xs.map fun p=>(Value.string p.1,Q7 t p.2)
def Alu (es:Array MapEntry) (seen:Array Nat) (t:Ty) (left:List (Aa×t.D)):Prop:=(es.toList.filter fun e=>!seen.contains e.born).map (fun e=>(e.key,e.val))=left.map fun p=>(Value.string p.1,Q7 t p.2)
def S5:Ty→Bool
 | .pair (.int .u8) .unit=>true
 | _=>false
def Ba4 (t:Ty) (k:Nat):Nat×Nat:=bif S5 t then (k,k + 1) else (0,0)
def Hr (w:World) (t:Ty) (base:Nat) (e:TypeId) (size:Nat) (v:Value) (n:Nat) (xs:List Value):Prop:=
 xs.length=n * size∧
 ((v=.slice none 0 0∧n=0)∨
  ∃ g cap cur,v=.slice (some ⟨g,0,none⟩) n cap∧base≤g∧w.heap[g]? = some (.cells cur e (Ba4 t (cap * size)))∧n≤cap∧cap≤maxLen∧cur.size=cap * size∧cur.toList.take (n * size)=xs)
theorem E4 {w:World} {t:Ty} (h:S5 t=false) {base:Nat} {e:TypeId} {size:Nat} {v:Value} {n:Nat} {xs:List Value}:Hr w t base e size v n xs↔w.ownsRow base e size v n xs:=by
 unfold Hr World.ownsRow Ba4
 rw [h]
 exact Iff.rfl
theorem Arv (w:World) (t:Ty) (base:Nat) (e:TypeId) (size:Nat):Hr w t base e size (.slice none 0 0) 0 []:=⟨by simp,.inl ⟨rfl,rfl⟩⟩
theorem Hr.cells {w:World} {t:Ty} {base:Nat} {e:TypeId} {size:Nat} {v:Value} {n:Nat} {xs:List Value} (h:Hr w t base e size v n xs) {g:Nat} (hg:v.ownBlock=some g):∀ j u,xs[j]? = some u→w.cell? ((⟨g,0,none⟩:Addr).add j)=some u:=by
 intro j u hu
 rcases h.2 with ⟨rfl,_⟩ | ⟨g',cap,cur,rfl,_,hgg,_,_,_,htake⟩
 ·simp [Value.ownBlock] at hg
 ·simp [Value.ownBlock] at hg
  subst hg
  have hadd:(⟨g',0,none⟩:Addr).add j=⟨g',j,none⟩:=by unfold Addr.add; split<;>simp_all
  rw [hadd,cell_of_row w g' j cur e _ hgg]
  rw [← htake,List.getElem?_take] at hu
  split at hu
  ·simpa using hu
  ·cases hu
structure Ayv (w:World) (S I:Nat→Prop) (e:TypeId) (t:Ty) (xs:List (List t.D)) (cs:List Value):Prop where
 row:∀ (i:Nat) (x:List t.D) (u:Value),xs[i]? = some x→cs[i]? = some u→∃ ds,Hr w t 0 e t.sz u (List.length x) ds∧Ik w S t x ds∧∀ b,u.ownBlock=some b→I b
 one:∀ (i i':Nat) (u u':Value) (b:Nat),i < xs.length→i' < xs.length→cs[i]? = some u→cs[i']? = some u'→u.ownBlock=some b→u'.ownBlock=some b→i=i'
structure Bfp (w:World) (S I:Nat→Prop) (e:TypeId) (t:Ty) (xs:List (List t.D)) (k:Nat) (cs:List Value):Prop where
 row:∀ (i:Nat) (x:List t.D) (u:Value),i≠k→xs[i]? = some x→cs[i]? = some u→∃ ds,Hr w t 0 e t.sz u (List.length x) ds∧Ik w S t x ds∧∀ b,u.ownBlock=some b→I b
 one:∀ (i i':Nat) (u u':Value) (b:Nat),i≠k→i'≠k→i < xs.length→i' < xs.length→cs[i]? = some u→cs[i']? = some u'→u.ownBlock=some b→u'.ownBlock=some b→i=i'
def Lr (s:St) (g:Gh) (w:World) (id:Nat):Jw→Prop
 | .box T ls=>∃ b cs,g.blk id=some b∧w.heap[b]? = some (.cells cs T (0,0))∧I6 s g w ls cs.toList
 | .row e t xs=>∃ cs,Hr w t 0 e t.sz (g.hdr id) xs.length cs∧Ik w (Eg s g) t xs cs∧g.blk id=(g.hdr id).ownBlock
 | .frozen t xs=>(Ty.sl t).K w (Eg s g) xs [g.hdr id]∧g.blk id=none
 | .last e t xs c j=>∃ cs,Hr w (.sl t) 0 e.o 1 (g.hdr id) (xs.length + c.toNat) cs∧Ayv w (Eg s g) (g.inn id) e.i t xs cs∧g.blk id=(g.hdr id).ownBlock∧
   ∀ u,c=true→cs[xs.length]? = some u→match s.res j with
    | .row _ _ _=>u=g.hdr j
    | .frozen _ _=>u=g.hdr j
    | .dead=>True
    | _=>False
 | .mid e t xs i j=>∃ cs,Hr w (.sl t) 0 e.o 1 (g.hdr id) xs.length cs∧Bfp w (Eg s g) (g.inn id) e.i t xs i cs∧g.blk id=(g.hdr id).ownBlock∧
   ∀ u,cs[i]? = some u→match s.res j with
    | .row _ _ _=>u=g.hdr j
    | .frozen _ _=>u=g.hdr j
    | .dead=>True
    | _=>False
 | .map t xs=>∃ b es clock,g.blk id=some b∧g.hdr id=.map (some b)∧w.heap[b]? = some (.map es clock)∧MapKept.Stamped es clock∧Q8 es t xs
 | .iter t xs left cur=>∃ b r es clock since c0 seen,g.blk id=some r∧g.hdr id=.pointer (some ⟨r,0,none⟩)∧w.heap[r]? = some (.mapIter (some b) since seen c0)∧Eg s g b∧b < w.heap.size∧
   w.heap[b]? = some (.map es clock)∧MapKept.Stamped es clock∧Q8 es t xs∧Alu es seen t left∧(∀ x∈es.toList,x.born < since)∧since≤c0∧since≤clock∧∀ k v,cur=some (k,v)→c0=clock∧∃ e∈es.toList,∃ seen0:Array Nat,seen=seen0.push e.born∧e.key=.string k∧e.val=Q7 t v
 | _=>g.blk id=none
structure Bp (n B:Nat) (Iq:List Nat) (s:St) (g:Gh) (a:Act) (w:World):Prop where
 size:a.tmps.size=n
 defers:a.defers=[]
 base:B≤w.heap.size
 cell:∀ i,c9 s g w (s.cell i) (a.tmps.getD i undef)
 res:∀ id,Lr s g w id (s.res id)
 inj:∀ id id' b,g.blk id=some b→g.blk id'=some b→id=id'
 lt:∀ id b,g.blk id=some b→b < w.heap.size∧(b∈Iq∨B≤b)∧¬ g.av b
 avB:∀ b,g.av b→b < B
 inn:∀ id b,(s.res id).nst=true→g.inn id b→(b < w.heap.size∧(b∈Iq∨B≤b)∧¬ g.av b)∧(∀ id',g.blk id'≠some b)∧∀ id',id'≠id→(s.res id').nst=true→¬ g.inn id' b
structure Lx (Iq:List Nat) (w w':World):Prop where
 os:w'.os=w.os
 tape:w'.tape=w.tape
 output:w'.output=w.output
 size:w.heap.size≤w'.heap.size
 block:∀ k,k < w.heap.size→k ∉ Iq→w'.heap[k]? = w.heap[k]?
theorem Lx.refl (Iq:List Nat) (w:World):Lx Iq w w:=⟨rfl,rfl,rfl,Nat.le_refl _,fun _ _ _=>rfl⟩
theorem Lx.trans {Iq:List Nat} {a b c:World} (h:Lx Iq a b) (k:Lx Iq b c):Lx Iq a c:=
 ⟨k.os.trans h.os,k.tape.trans h.tape,k.output.trans h.output,Nat.le_trans h.size k.size,fun i hi hn=>(k.block i (Nat.lt_of_lt_of_le hi h.size) hn).trans (h.block i hi hn)⟩
theorem Lx.below {w w':World} (h:Lx [] w w'):Below w.heap.size w w':=⟨h.os,h.tape,h.output,h.size,fun k hk=>h.block k hk (by simp)⟩
def Az (s:St) (g:Gh) (s':St) (g':Gh) (id:Nat):Prop:=
 s'.res id=.dead∨match s.res id with
  | .row _ t xs=>(∃ e' xs',s'.res id=.row e' t xs'∧xs'.length=xs.length∧g'.hdr id=g.hdr id∧g'.blk id=g.blk id)∨(∃ t' xs',s'.res id=.frozen t' xs'∧g'.hdr id=g.hdr id)
  | .frozen _ _=>∃ t' xs',s'.res id=.frozen t' xs'∧g'.hdr id=g.hdr id
  | .box _ _=>∃ T ls,s'.res id=.box T ls∧g'.blk id=g.blk id
  | .last _ _ xs c _=>((s'.res id).nlen=some (List.length xs + c.toNat)∧g'.hdr id=g.hdr id∧g'.blk id=g.blk id)∨(∃ t' xs',s'.res id=.frozen t' xs'∧g'.hdr id=g.hdr id)
  | .mid _ _ xs _ _=>((s'.res id).nlen=some (List.length xs)∧g'.hdr id=g.hdr id∧g'.blk id=g.blk id)∨(∃ t' xs',s'.res id=.frozen t' xs'∧g'.hdr id=g.hdr id)
  | .map _ _=>∃ t xs,s'.res id=.map t xs∧g'.hdr id=g.hdr id∧g'.blk id=g.blk id
  | .iter _ _ _ _=>∃ t xs seen cur,s'.res id=.iter t xs seen cur∧g'.hdr id=g.hdr id∧g'.blk id=g.blk id
  | .dead=>False
  | .unborn=>True
theorem Az.same {s s':St} {g g':Gh} {id:Nat} (h:s'.res id=s.res id) (hb:g'.blk id=g.blk id) (hh:g'.hdr id=g.hdr id):Az s g s' g' id:=by
 unfold Az
 rw [h]
 cases hs:s.res id with
 | unborn=>exact .inr trivial
 | dead=>exact .inl rfl
 | box T ls=>exact .inr ⟨T,ls,rfl,hb⟩
 | row e t xs=>exact .inr (.inl ⟨e,xs,rfl,rfl,hh,hb⟩)
 | frozen t xs=>exact .inr ⟨t,xs,rfl,hh⟩
 | last e t xs c j=>exact .inr (.inl ⟨rfl,hh,hb⟩)
 | mid e t xs i j=>exact .inr (.inl ⟨rfl,hh,hb⟩)
 | map t xs=>exact .inr ⟨t,xs,rfl,hh,hb⟩
 | iter t xs seen cur=>exact .inr ⟨t,xs,seen,cur,rfl,hh,hb⟩
theorem Az.trans {s s1 s2:St} {g g1 g2:Gh} {id:Nat} (h:Az s g s1 g1 id) (k:Az s1 g1 s2 g2 id):Az s g s2 g2 id:=by
 unfold Az at h k ⊢
 rcases k with k | k
 ·exact .inl k
 ·rcases h with h | h
  ·rw [h] at k
   exact k.elim
  ·cases hs:s.res id with
   | unborn=>exact .inr trivial
   | dead=>rw [hs] at h; exact h.elim
   | box T ls=>
    rw [hs] at h
    obtain ⟨T',ls',e1,e2⟩:=h
    rw [e1] at k
    obtain ⟨T2,ls2,k1,k2⟩:=k
    exact .inr ⟨T2,ls2,k1,k2.trans e2⟩
   | row e t xs=>
    rw [hs] at h
    rcases h with ⟨e',xs',h1,h2,h3,h4⟩ | ⟨t',xs',h1,h2⟩
    ·rw [h1] at k
     rcases k with ⟨e2,xs2,k1,k2,k3,k4⟩ | ⟨t2,xs2,k1,k2⟩
     ·exact .inr (.inl ⟨e2,xs2,k1,k2.trans h2,k3.trans h3,k4.trans h4⟩)
     ·exact .inr (.inr ⟨t2,xs2,k1,k2.trans h3⟩)
    ·rw [h1] at k
     obtain ⟨t2,xs2,k1,k2⟩:=k
     exact .inr (.inr ⟨t2,xs2,k1,k2.trans h2⟩)
   | frozen t xs=>
    rw [hs] at h
    obtain ⟨t',xs',h1,h2⟩:=h
    rw [h1] at k
    obtain ⟨t2,xs2,k1,k2⟩:=k
    exact .inr ⟨t2,xs2,k1,k2.trans h2⟩
   | last e t xs c j=>
    rw [hs] at h
    rcases h with ⟨h1,h3,h4⟩ | ⟨t',xs',h1,h2⟩
    ·rcases Jw.nlen_some h1 with ⟨e',t',xs',c',j',h1,h2⟩ | ⟨e',t',xs',i',j',h1,h2⟩<;>rw [h1] at k<;>rcases k with ⟨k1,k3,k4⟩ | ⟨t2,xs2,k1,k2⟩
     ·exact .inr (.inl ⟨by rw [k1,h2],k3.trans h3,k4.trans h4⟩)
     ·exact .inr (.inr ⟨t2,xs2,k1,k2.trans h3⟩)
     ·exact .inr (.inl ⟨by rw [k1,h2],k3.trans h3,k4.trans h4⟩)
     ·exact .inr (.inr ⟨t2,xs2,k1,k2.trans h3⟩)
    ·rw [h1] at k
     obtain ⟨t2,xs2,k1,k2⟩:=k
     exact .inr (.inr ⟨t2,xs2,k1,k2.trans h2⟩)
   | mid e t xs i j=>
    rw [hs] at h
    rcases h with ⟨h1,h3,h4⟩ | ⟨t',xs',h1,h2⟩
    ·rcases Jw.nlen_some h1 with ⟨e',t',xs',c',j',h1,h2⟩ | ⟨e',t',xs',i',j',h1,h2⟩<;>rw [h1] at k<;>rcases k with ⟨k1,k3,k4⟩ | ⟨t2,xs2,k1,k2⟩
     ·exact .inr (.inl ⟨by rw [k1,h2],k3.trans h3,k4.trans h4⟩)
     ·exact .inr (.inr ⟨t2,xs2,k1,k2.trans h3⟩)
     ·exact .inr (.inl ⟨by rw [k1,h2],k3.trans h3,k4.trans h4⟩)
     ·exact .inr (.inr ⟨t2,xs2,k1,k2.trans h3⟩)
    ·rw [h1] at k
     obtain ⟨t2,xs2,k1,k2⟩:=k
     exact .inr (.inr ⟨t2,xs2,k1,k2.trans h2⟩)
   | map t xs=>
    rw [hs] at h
    obtain ⟨t',xs',h1,h2,h3⟩:=h
    rw [h1] at k
    obtain ⟨t2,xs2,k1,k2,k3⟩:=k
    exact .inr ⟨t2,xs2,k1,k2.trans h2,k3.trans h3⟩
   | iter t xs seen cur=>
    rw [hs] at h
    obtain ⟨t',xs',seen',cur',h1,h2,h3⟩:=h
    rw [h1] at k
    obtain ⟨t2,xs2,seen2,cur2,k1,k2,k3⟩:=k
    exact .inr ⟨t2,xs2,seen2,cur2,k1,k2.trans h2,k3.trans h3⟩
section
variable {s s':St} {g g':Gh} {w w':World}
theorem Cx.step (hS:∀ b,Eg s g b→b < w.heap.size→Eg s' g' b∧w'.heap[b]? = w.heap[b]?) (hI:∀ id,Az s g s' g' id):
  ∀ {l:Lf} {u:Value},Cx s g w l u→Cx s' g' w' l u
 | .c _,_,h=>h
 | .sl _ _,_,h=>Ty.K_keep hS h
 | .row id,u,h=>by
  have r:=hI id
  unfold Az at r
  simp only [Cx] at h ⊢
  rcases r with r | r
  ·rw [r]; trivial
  ·cases hs:s.res id<;>rw [hs] at h r<;>simp only at h r
   ·rcases r with ⟨_,_,e,_,e2,_⟩ | ⟨_,_,e,e2⟩
    ·rw [e]; exact h.trans e2.symm
    ·rw [e]; exact h.trans e2.symm
   ·obtain ⟨_,_,e,e2⟩:=r
    rw [e]; exact h.trans e2.symm
   ·rcases r with ⟨e,e2,_⟩ | ⟨_,_,e,e2⟩
    ·rcases Jw.nlen_some e with ⟨_,_,_,_,_,e,_⟩ | ⟨_,_,_,_,_,e,_⟩<;>rw [e]<;>exact h.trans e2.symm
    ·rw [e]; exact h.trans e2.symm
   ·rcases r with ⟨e,e2,_⟩ | ⟨_,_,e,e2⟩
    ·rcases Jw.nlen_some e with ⟨_,_,_,_,_,e,_⟩ | ⟨_,_,_,_,_,e,_⟩<;>rw [e]<;>exact h.trans e2.symm
    ·rw [e]; exact h.trans e2.symm
   ·obtain ⟨_,_,e,e2,_⟩:=r
    rw [e]; exact h.trans e2.symm
   ·obtain ⟨_,_,_,_,e,e2,_⟩:=r
    rw [e]; exact h.trans e2.symm
 | .ptr id off,u,h=>by
  have r:=hI id
  unfold Az at r
  simp only [Cx] at h ⊢
  rcases r with r | r
  ·rw [r]; trivial
  ·cases hs:s.res id<;>rw [hs] at h r<;>simp only at h r
   obtain ⟨_,_,e,e2⟩:=r
   obtain ⟨b,hb,hu⟩:=h
   rw [e]; exact ⟨b,e2.trans hb,hu⟩
 | .ep t xs i off,u,⟨ad,cs,h1,h2,h3,h4,h5⟩=>by
  obtain ⟨s1,s2⟩:=hS _ h2 h3
  refine ⟨ad,cs,h1,s1,Als h3 s2,Ty.K_keep hS h4,fun j v hv=>?_⟩
  exact (Ayt (by rw [Aap]; exact s2)).trans (h5 j v hv)
 | .rp id i off,u,h=>by
  have r:=hI id
  unfold Az at r
  simp only [Cx] at h ⊢
  rcases r with r | r
  ·rw [r]; trivial
  ·cases hs:s.res id<;>rw [hs] at h r<;>simp only at h r
   ·rcases r with ⟨_,xs',e,e1,_,e3⟩ | ⟨_,_,e,_⟩
    ·obtain ⟨hl,b,hb,hu⟩:=h
     rw [e]; exact ⟨by rw [e1]; exact hl,b,e3.trans hb,hu⟩
    ·rw [e]; trivial
   ·obtain ⟨_,_,e,_⟩:=r
    rw [e]; trivial
   ·rcases r with ⟨e,_,e3⟩ | ⟨_,_,e,_⟩
    ·obtain ⟨hl,b,hb,hu⟩:=h
     rcases Jw.nlen_some e with ⟨_,_,_,_,_,e,e1⟩ | ⟨_,_,_,_,_,e,e1⟩<;>rw [e]<;>exact ⟨by rw [e1]; exact hl,b,e3.trans hb,hu⟩
    ·rw [e]; trivial
   ·rcases r with ⟨e,_,e3⟩ | ⟨_,_,e,_⟩
    ·obtain ⟨hl,b,hb,hu⟩:=h
     rcases Jw.nlen_some e with ⟨_,_,_,_,_,e,e1⟩ | ⟨_,_,_,_,_,e,e1⟩<;>rw [e]<;>exact ⟨by rw [e1]; exact hl,b,e3.trans hb,hu⟩
    ·rw [e]; trivial
 | .sp id,u,h=>by
  have r:=hI id
  unfold Az at r
  simp only [Cx] at h ⊢
  rcases r with r | r
  ·rw [r]; trivial
  ·cases hs:s.res id<;>rw [hs] at h r<;>simp only at h r
   obtain ⟨_,_,e,e2⟩:=r
   rw [e]
   rcases h with h | ⟨b,hb,hu⟩
   ·exact .inl h
   ·exact .inr ⟨b,e2.trans hb,hu⟩
theorem I6.step (hS:∀ b,Eg s g b→b < w.heap.size→Eg s' g' b∧w'.heap[b]? = w.heap[b]?) (hI:∀ id,Az s g s' g' id):
  ∀ {ls:List Lf} {cs:List Value},I6 s g w ls cs→I6 s' g' w' ls cs
 | [],[],_=>trivial
 | [],_::_,h=>h.elim
 | _::_,[],h=>h.elim
 | _::_,_::_,h=>⟨⟨Cx.step hS hI h.1.1,h.1.2⟩,I6.step hS hI h.2⟩
theorem VlR.step (hS:∀ b,Eg s g b→b < w.heap.size→Eg s' g' b∧w'.heap[b]? = w.heap[b]?) (hI:∀ id,Az s g s' g' id):
  ∀ {v:Vl} {u:Value},VlR s g w v u→VlR s' g' w' v u
 | .lf _,_,h=>⟨Cx.step hS hI h.1,h.2⟩
 | .ag _,_,⟨cs,h1,h2⟩=>⟨cs,h1,I6.step hS hI h2⟩
theorem c9.step (hS:∀ b,Eg s g b→b < w.heap.size→Eg s' g' b∧w'.heap[b]? = w.heap[b]?) (hI:∀ id,Az s g s' g' id):
  ∀ {v:AV} {u:Value},c9 s g w v u→c9 s' g' w' v u
 | .dead,_,_=>trivial
 | .vl _,_,h=>VlR.step hS hI h
 | .tp _,_,⟨us,h1,h2,h3⟩=>⟨us,h1,h2,fun j l hl=>by
   obtain ⟨v,e1,e2⟩:=h3 j l hl
   exact ⟨v,e1,VlR.step hS hI e2⟩⟩
 | .fn _ _,_,⟨cs,h1,h2⟩=>⟨cs,h1,I6.step hS hI h2⟩
theorem Ik.keep {S S':Nat→Prop} (hS:∀ b,S b→b < w.heap.size→S' b∧w'.heap[b]? = w.heap[b]?) {t:Ty} {xs:List t.D} {cs:List Value} (h:Ik w S t xs cs):Ik w' S' t xs cs:=
 ⟨h.1,fun i x hx=>Ty.K_keep hS (h.2 i x hx)⟩
theorem Xn {t:Ty} {b0:Nat} {e:TypeId} {sz n:Nat} {v:Value} {cs:List Value} (h:Hr w t b0 e sz v n cs) (hb:∀ b,v.ownBlock=some b→w'.heap[b]? = w.heap[b]?):Hr w' t b0 e sz v n cs:=by
 obtain ⟨h1,h2⟩:=h
 refine ⟨h1,?_⟩
 rcases h2 with h2 | ⟨gg,cap,cur,rfl,q1,q2,q3⟩
 ·exact .inl h2
 ·exact .inr ⟨gg,cap,cur,rfl,q1,(hb gg rfl).trans q2,q3⟩
theorem Ayv.keep {S S' I:Nat→Prop} (hS:∀ b,S b→b < w.heap.size→S' b∧w'.heap[b]? = w.heap[b]?) (hI:∀ b,I b→w'.heap[b]? = w.heap[b]?) {e:TypeId} {t:Ty} {xs:List (List t.D)} {cs:List Value} (h:Ayv w S I e t xs cs):Ayv w' S' I e t xs cs where
 row:=fun i x u h1 h2=>by
  obtain ⟨ds,q1,q2,q3⟩:=h.row i x u h1 h2
  exact ⟨ds,Xn q1 fun b hb=>hI b (q3 b hb),q2.keep hS,q3⟩
 one:=h.one
theorem Bfp.keep {S S' I:Nat→Prop} (hS:∀ b,S b→b < w.heap.size→S' b∧w'.heap[b]? = w.heap[b]?) (hI:∀ b,I b→w'.heap[b]? = w.heap[b]?) {e:TypeId} {t:Ty} {xs:List (List t.D)} {k:Nat} {cs:List Value} (h:Bfp w S I e t xs k cs):Bfp w' S' I e t xs k cs where
 row:=fun i x u h0 h1 h2=>by
  obtain ⟨ds,q1,q2,q3⟩:=h.row i x u h0 h1 h2
  exact ⟨ds,Xn q1 fun b hb=>hI b (q3 b hb),q2.keep hS,q3⟩
 one:=h.one
theorem Lr.step (hS:∀ b,Eg s g b→b < w.heap.size→Eg s' g' b∧w'.heap[b]? = w.heap[b]?) (hI:∀ id,Az s g s' g' id) {id:Nat}
  (hb:g'.blk id=g.blk id) (hh:g'.hdr id=g.hdr id) (hk:∀ b,g.blk id=some b→w'.heap[b]? = w.heap[b]?):
  ∀ {r:Jw},(r.nst=true→g'.inn id=g.inn id∧∀ b,g.inn id b→w'.heap[b]? = w.heap[b]?)→Lr s g w id r→Lr s' g' w' id r
 | .unborn,_,h=>hb.trans h
 | .dead,_,h=>hb.trans h
 | .box T ls,_,⟨b,cs,h1,h2,h3⟩=>⟨b,cs,hb.trans h1,(hk b h1).trans h2,I6.step hS hI h3⟩
 | .row e t xs,_,⟨cs,h1,h2,h3⟩=>⟨cs,by rw [hh]; exact Xn h1 (fun b hb'=>hk b (by rw [h3]; exact hb')),h2.keep hS,by rw [hb,hh]; exact h3⟩
 | .frozen t xs,_,⟨h1,h2⟩=>⟨by rw [hh]; exact Ty.K_keep hS h1,hb.trans h2⟩
 | .last e t xs c j,hN,⟨cs,h1,h2,h3,h4⟩=>⟨cs,by rw [hh]; exact Xn h1 (fun b hb'=>hk b (by rw [h3]; exact hb')),by rw [(hN rfl).1]; exact h2.keep hS (hN rfl).2,by rw [hb,hh]; exact h3,fun u hc hu=>by
   have r:=hI j
   have q:=h4 u hc hu
   unfold Az at r
   rcases r with r | r
   ·rw [r]; trivial
   ·cases hs:s.res j<;>rw [hs] at q r<;>simp only at q r
    ·rcases r with ⟨_,_,e,_,e2,_⟩ | ⟨_,_,e,e2⟩
     ·rw [e]; exact q.trans e2.symm
     ·rw [e]; exact q.trans e2.symm
    ·obtain ⟨_,_,e,e2⟩:=r
     rw [e]; exact q.trans e2.symm⟩
 | .mid e t xs i j,hN,⟨cs,h1,h2,h3,h4⟩=>⟨cs,by rw [hh]; exact Xn h1 (fun b hb'=>hk b (by rw [h3]; exact hb')),by rw [(hN rfl).1]; exact h2.keep hS (hN rfl).2,by rw [hb,hh]; exact h3,fun u hu=>by
   have r:=hI j
   have q:=h4 u hu
   unfold Az at r
   rcases r with r | r
   ·rw [r]; trivial
   ·cases hs:s.res j<;>rw [hs] at q r<;>simp only at q r
    ·rcases r with ⟨_,_,e,_,e2,_⟩ | ⟨_,_,e,e2⟩
     ·rw [e]; exact q.trans e2.symm
     ·rw [e]; exact q.trans e2.symm
    ·obtain ⟨_,_,e,e2⟩:=r
     rw [e]; exact q.trans e2.symm⟩
 | .map t xs,_,⟨b,es,clock,h1,h2,h3,h4,h5⟩=>⟨b,es,clock,hb.trans h1,hh.trans h2,(hk b h1).trans h3,h4,h5⟩
 | .iter t xs left cur,_,⟨b,r,es,clock,since,c0,sn,h1,h2,h3,h4,h5,h6,h7⟩=>by
  obtain ⟨s1,s2⟩:=hS b h4 h5
  exact ⟨b,r,es,clock,since,c0,sn,hb.trans h1,hh.trans h2,(hk r h1).trans h3,s1,Als h5 s2,s2.trans h6,h7⟩
structure NK (B:Nat) (Iq:List Nat) (s:St) (g:Gh) (w:World) (s':St) (g':Gh) (w':World):Prop where
 same:∀ id,s'.res id=s.res id→(s.res id).nst=true→(g'.inn id=g.inn id∧∀ b,g.inn id b→w'.heap[b]? = w.heap[b]?)∨Lr s' g' w' id (s'.res id)
 inn:∀ id b,(s'.res id).nst=true→g'.inn id b→(b < w'.heap.size∧(b∈Iq∨B≤b)∧¬ g.av b)∧(∀ id',g'.blk id'≠some b)∧∀ id',id'≠id→(s'.res id').nst=true→¬ g'.inn id' b
theorem Bp.step {n B:Nat} {Iq:List Nat} {a a':Act} (h:Bp n B Iq s g a w) (hsz:a'.tmps.size=n) (hd:a'.defers=[]) (hB:w.heap.size≤w'.heap.size)
  (hS:∀ b,Eg s g b→b < w.heap.size→Eg s' g' b∧w'.heap[b]? = w.heap[b]?) (hI:∀ id,Az s g s' g' id)
  (hc:∀ i,(s'.cell i=s.cell i∧a'.tmps.getD i undef=a.tmps.getD i undef)∨c9 s' g' w' (s'.cell i) (a'.tmps.getD i undef))
  (hr:∀ id,(s'.res id=s.res id∧g'.blk id=g.blk id∧g'.hdr id=g.hdr id∧∀ b,g.blk id=some b→w'.heap[b]? = w.heap[b]?)∨Lr s' g' w' id (s'.res id))
  (hinj:∀ id id' b,g'.blk id=some b→g'.blk id'=some b→id=id')
  (hlt:∀ id b,g'.blk id=some b→b < w'.heap.size∧(b∈Iq∨B≤b)∧¬ g.av b) (hav:g'.av=g.av) (hN:NK B Iq s g w s' g' w'):Bp n B Iq s' g' a' w' where
 size:=hsz
 defers:=hd
 base:=Nat.le_trans h.base hB
 cell i:=by
  rcases hc i with ⟨e1,e2⟩ | e
  ·rw [e1,e2]; exact c9.step hS hI (h.cell i)
  ·exact e
 res id:=by
  rcases hr id with ⟨e1,e2,e3,e4⟩ | e
  ·cases hq:(s.res id).nst with
   | false=>rw [e1]; exact Lr.step hS hI e2 e3 e4 (fun q=>by rw [hq] at q; cases q) (h.res id)
   | true=>
    rcases hN.same id e1 hq with q | q
    ·rw [e1]; exact Lr.step hS hI e2 e3 e4 (fun _=>q) (h.res id)
    ·exact q
  ·exact e
 inj:=hinj
 lt:=by rw [hav]; exact hlt
 avB:=by rw [hav]; exact h.avB
 inn:=by rw [hav]; exact hN.inn
theorem NK.of {n B:Nat} {Iq:List Nat} {a:Act} (h:Bp n B Iq s g a w) (hB:w.heap.size≤w'.heap.size) (hn:∀ id b,(s'.res id).nst=true→g'.inn id b→(s.res id).nst=true∧g.inn id b) (hi:∀ id,(s.res id).nst=true→g'.inn id=g.inn id)
  (hk:∀ b,b < w.heap.size→(∀ id',g.blk id'≠some b)→w'.heap[b]? = w.heap[b]?) (hb:∀ id b,g'.blk id=some b→(∃ id',g.blk id'=some b)∨w.heap.size≤b):NK B Iq s g w s' g' w' where
 same:=fun id _ h1=>.inl ⟨hi id h1,fun b hb=>by
  obtain ⟨⟨k1,_,_⟩,k4,_⟩:=h.inn id b h1 hb
  exact hk b k1 k4⟩
 inn:=fun id b h1 h2=>by
  obtain ⟨q1,q2⟩:=hn id b h1 h2
  obtain ⟨⟨k1,k2,k3⟩,k4,k5⟩:=h.inn id b q1 q2
  refine ⟨⟨Nat.lt_of_lt_of_le k1 hB,k2,k3⟩,fun id' hb'=>?_,fun id' hne h' q=>?_⟩
  ·rcases hb id' b hb' with ⟨i,q⟩ | q
   ·exact k4 i q
   ·omega
  ·obtain ⟨r1,r2⟩:=hn id' b h' q
   exact k5 id' hne r1 r2
theorem NK.same_world {n B:Nat} {Iq:List Nat} {a:Act} (h:Bp n B Iq s g a w) (hn:∀ id,(s'.res id).nst=true→(s.res id).nst=true) (hi:g'.inn=g.inn) (hb:∀ id b,g'.blk id=some b→∃ id',g.blk id'=some b):NK B Iq s g w s' g' w:=
 NK.of h (Nat.le_refl _) (fun id b h1 h2=>⟨hn id h1,by rw [hi] at h2; exact h2⟩) (fun id _=>by rw [hi]) (fun _ _ _=>rfl) fun id b q=>.inl (hb id b q)
theorem NK.alike {n B:Nat} {Iq:List Nat} {a:Act} (h:Bp n B Iq s g a w) (hr:s'.res=s.res):NK B Iq s g w s' g w:=
 NK.same_world h (fun id=>by rw [hr]; exact fun h=>h) rfl fun id b q=>⟨id,q⟩
end
section
variable {s:St} {g:Gh} {w:World}
theorem I6.length:∀ {ls:List Lf} {cs:List Value},I6 s g w ls cs→cs.length=ls.length
 | [],[],_=>rfl
 | [],_::_,h=>h.elim
 | _::_,[],h=>h.elim
 | _::ls,_::cs,h=>by simp [I6.length h.2]
theorem I6.one:∀ {ls:List Lf} {cs:List Value},I6 s g w ls cs→∀ u∈cs,u.oneCell'=true
 | [],[],_,_,hu=>by simp at hu
 | [],_::_,h,_,_=>h.elim
 | _::_,[],h,_,_=>h.elim
 | _::ls,_::cs,h,u,hu=>by
  rcases List.mem_cons.1 hu with rfl | hu
  ·exact h.1.2
  ·exact I6.one h.2 u hu
theorem I6.drop (n:Nat):∀ {ls:List Lf} {cs:List Value},I6 s g w ls cs→I6 s g w (ls.drop n) (cs.drop n):=by
 induction n with
 | zero=>intro ls cs h; exact h
 | succ n ih=>
  intro ls cs h
  cases ls<;>cases cs
  ·exact trivial
  ·exact h.elim
  ·exact h.elim
  ·exact ih h.2
theorem I6.take (n:Nat):∀ {ls:List Lf} {cs:List Value},I6 s g w ls cs→I6 s g w (ls.take n) (cs.take n):=by
 induction n with
 | zero=>intro ls cs h; exact trivial
 | succ n ih=>
  intro ls cs h
  cases ls<;>cases cs
  ·exact trivial
  ·exact h.elim
  ·exact h.elim
  ·exact ⟨h.1,ih h.2⟩
theorem I6.append:∀ {ls:List Lf} {cs:List Value} {ls':List Lf} {cs':List Value},I6 s g w ls cs→I6 s g w ls' cs'→I6 s g w (ls++ls') (cs++cs')
 | [],[],_,_,_,h'=>h'
 | [],_::_,_,_,h,_=>h.elim
 | _::_,[],_,_,h,_=>h.elim
 | _::_,_::_,_,_,h,h'=>⟨h.1,I6.append h.2 h'⟩
theorem I6.get:∀ {ls:List Lf} {cs:List Value} {j:Nat} {l:Lf},I6 s g w ls cs→ls[j]? = some l→∃ v,cs[j]? = some v∧Cx s g w l v∧v.oneCell'=true
 | [],_,j,_,_,h=>by simp at h
 | _::_,[],_,_,h,_=>h.elim
 | l::ls,v::cs,0,_,h,hj=>by
  simp at hj
  subst hj
  exact ⟨v,rfl,h.1⟩
 | l::ls,v::cs,j + 1,_,h,hj=>by
  obtain ⟨u,e1,e2⟩:=I6.get h.2 (j:=j) (by simpa using hj)
  exact ⟨u,by simpa using e1,e2⟩
theorem I6.set:∀ {ls:List Lf} {cs:List Value} {j:Nat} {l:Lf} {v:Value},I6 s g w ls cs→Cx s g w l v→v.oneCell'=true→I6 s g w (ls.set j l) (cs.set j v)
 | [],[],_,_,_,_,_,_=>trivial
 | [],_::_,_,_,_,h,_,_=>h.elim
 | _::_,[],_,_,_,h,_,_=>h.elim
 | l::ls,v::cs,0,_,_,h,hl,hv=>⟨⟨hl,hv⟩,h.2⟩
 | l::ls,v::cs,j + 1,_,_,h,hl,hv=>⟨h.1,I6.set h.2 hl hv⟩
def Vl.ls:Vl→List Lf
 | .lf l=>[l]
 | .ag ls=>ls
theorem VlR.cells {v:Vl} {u:Value} (h:VlR s g w v u):I6 s g w v.ls u.cells.toList:=by
 cases v with
 | lf l=>
  obtain ⟨h1,h2⟩:=h
  have:u.cells=#[u]:=by cases u<;>first | rfl | simp [Value.oneCell'] at h2
  rw [this]
  exact ⟨⟨h1,h2⟩,trivial⟩
 | ag ls=>
  obtain ⟨cs,rfl,h2⟩:=h
  exact h2
def Ty.leafs:(t:Ty)→t.D→List Lf
 | .int k,n=>[.c (.int k n)]
 | .bool,b=>[.c (.bool b)]
 | .str,s=>[.c (.string s)]
 | .sl t,xs=>[.sl t xs]
 | .unit,_=>[]
 | .pair a b,x=>a.leafs x.1++b.leafs x.2
theorem Ty.K_leafs:∀ {t:Ty} {x:t.D} {cs:List Value},t.K w (Eg s g) x cs→I6 s g w (t.leafs x) cs
 | .int _,_,_,h=>by cases h; exact ⟨⟨rfl,rfl⟩,trivial⟩
 | .bool,_,_,h=>by cases h; exact ⟨⟨rfl,rfl⟩,trivial⟩
 | .str,_,_,h=>by cases h; exact ⟨⟨rfl,rfl⟩,trivial⟩
 | .sl t,xs,cs,⟨A,c,h1,h2,h3⟩=>by subst h1; exact ⟨⟨⟨A,c,rfl,h2,h3⟩,rfl⟩,trivial⟩
 | .unit,_,_,h=>by cases h; exact trivial
 | .pair a b,_,_,⟨c1,c2,h,h1,h2⟩=>by subst h; exact (K_leafs h1).append (K_leafs h2)
def St.leafD (s:St):(t:Ty)→Lf→Option t.D
 | .int k,.c (.int k' n)=>if k'=k then some n else none
 | .bool,.c (.bool b)=>some b
 | .str,.c (.string b)=>some b
 | .sl t,.sl t' xs=>if h:t'=t then some (h ▸ xs) else none
 | .sl _,.c (.slice none 0 0)=>some []
 | .sl t,.row id=>match s.res id with
  | .frozen t' xs=>if h:t'=t then some (h ▸ xs) else none
  | _=>none
 | _,_=>none
theorem St.leafD_K:∀ {t:Ty} {l:Lf} {x:t.D} {u:Value},s.leafD t l=some x→Cx s g w l u→(∀ id,Lr s g w id (s.res id))→t.K w (Eg s g) x [u]:=by
 intro t l x u h hl hr
 unfold St.leafD at h
 split at h
 ·split at h<;>cases h
  rename_i hk
  subst hk
  cases hl
  rfl
 ·cases h; cases hl; rfl
 ·cases h; cases hl; rfl
 ·split at h<;>cases h
  rename_i t t' xs hk
  subst hk
  exact hl
 ·cases h
  cases hl
  exact ⟨none,0,rfl,Nat.le_refl _,fun i x hx=>by simp [nth] at hx⟩
 ·split at h
  ·rename_i id _ t' xs hres
   split at h<;>cases h
   rename_i hk
   subst hk
   have:=hr id
   rw [hres] at this
   simp only [Cx,hres] at hl
   rw [hl]
   exact this.1
  ·cases h
 ·cases h
def St.parse (s:St):(t:Ty)→List Lf→Option (t.D×List Lf)
 | .unit,ls=>some ((),ls)
 | .pair a b,ls=>(s.parse a ls).bind fun p=>(s.parse b p.2).bind fun q=>some ((p.1,q.1),q.2)
 | .int k,l::r=>(s.leafD (.int k) l).bind fun x=>some (x,r)
 | .bool,l::r=>(s.leafD .bool l).bind fun x=>some (x,r)
 | .str,l::r=>(s.leafD .str l).bind fun x=>some (x,r)
 | .sl t,l::r=>(s.leafD (.sl t) l).bind fun x=>some (x,r)
 | _,[]=>none
theorem St.parse_K (hr:∀ id,Lr s g w id (s.res id)):∀ {t:Ty} {ls:List Lf} {cs:List Value} {x:t.D} {r:List Lf},s.parse t ls=some (x,r)→I6 s g w ls cs→
  r=ls.drop t.sz∧t.K w (Eg s g) x (cs.take t.sz):=by
 have one:∀ {t:Ty} {l:Lf} {ls':List Lf} {cs:List Value} {x:t.D} {r:List Lf},t.sz=1→((s.leafD t l).bind fun x=>some (x,ls'))=some (x,r)→I6 s g w (l::ls') cs→r=(l::ls').drop t.sz∧t.K w (Eg s g) x (cs.take t.sz):=by
  intro t l ls' cs x r hz h hL
  obtain ⟨y,h1,h2⟩:=A6 h
  cases h2
  cases cs with
  | nil=>exact hL.elim
  | cons v cs=>
   rw [hz]
   exact ⟨rfl,St.leafD_K h1 hL.1.1 hr⟩
 intro t
 induction t with
 | unit=>
  intro ls cs x r h _
  simp only [St.parse] at h
  cases h
  exact ⟨rfl,rfl⟩
 | pair a b iha ihb=>
  intro ls cs x r h hL
  simp only [St.parse] at h
  obtain ⟨p,h1,h2⟩:=A6 h
  obtain ⟨q,h3,h4⟩:=A6 h2
  cases h4
  obtain ⟨e1,k1⟩:=iha h1 hL
  have hL2:I6 s g w p.2 (cs.drop a.sz):=by rw [e1]; exact hL.drop _
  obtain ⟨e2,k2⟩:=ihb h3 hL2
  refine ⟨by rw [e2,e1,List.drop_drop]; rfl,cs.take a.sz,(cs.drop a.sz).take b.sz,?_,k1,k2⟩
  show cs.take (a.sz + b.sz)=_
  rw [List.take_add]
 | int k=>
  intro ls cs x r h hL
  cases ls with
  | nil=>simp [St.parse] at h
  | cons l ls=>exact one rfl h hL
 | bool=>
  intro ls cs x r h hL
  cases ls with
  | nil=>simp [St.parse] at h
  | cons l ls=>exact one rfl h hL
 | str=>
  intro ls cs x r h hL
  cases ls with
  | nil=>simp [St.parse] at h
  | cons l ls=>exact one rfl h hL
 | sl t _=>
  intro ls cs x r h hL
  cases ls with
  | nil=>simp [St.parse] at h
  | cons l ls=>exact one rfl h hL
end
end
def quiet {α:Type} (P:Program):Sem α→Option α
 | .pure a=>some a
 | .program k=>quiet P (k P)
 | .mark _ k=>quiet P k
 | _=>none
theorem Arw {α:Type} {P:Program}:∀ {s:Sem α} {a:α},quiet P s=some a→∀ w,s.run P w=.ok a w
 | .pure a,_,h,w=>by cases h; rfl
 | .program k,_,h,w=>Arw (s:=k P) h w
 | .mark _ k,_,h,w=>Arw (s:=k) h w
 | .load ..,_,h,_ | .store ..,_,h,_ | .new ..,_,h,_ | .shape ..,_,h,_ | .freeze ..,_,h,_ | .frozen ..,_,h,_ | .getObj ..,_,h,_ | .setObj ..,_,h,_
 | .choose ..,_,h,_ | .sys ..,_,h,_ | .halt ..,_,h,_=>by simp [quiet] at h
def K3 {α:Type} (f:Nat→α) (i:Nat) (v:α):Nat→α:=fun j=>if j=i then v else f j
@[simp] theorem Al {α:Type} (f:Nat→α) (i:Nat) (v:α):K3 f i v i=v:=by simp [K3]
theorem As {α:Type} (f:Nat→α) {i j:Nat} (v:α) (h:j≠i):K3 f i v j=f j:=by simp [K3,h]
def St.setRes (s:St) (id:Nat) (r:Jw):St:={ s with res:=K3 s.res id r }
def St.setCell (s:St) (i:Nat) (v:AV):St:={ s with cell:=K3 s.cell i v }
def Ayw:List Value→Bool
 | []=>true
 | v::r=>v.oneCell'&&Ayw r
def Ax2 (v:Value):AV:=match v with
 | .agg cs=>if Ayw cs.toList then .vl (.ag (cs.toList.map .c)) else .dead
 | .tuple _=>.dead
 | v=>.vl (.lf (.c v))
def St.op (s:St):Operand→AV
 | .tmp t=>s.cell t
 | .const v=>Ax2 v
 | _=>.dead
def St.conc (s:St) (x:Operand):Option Value:=match s.op x with
 | .vl (.lf (.c v))=>some v
 | _=>none
def St.leaf (s:St) (x:Operand):Option Lf:=match s.op x with
 | .vl (.lf l)=>some l
 | _=>none
def St.value (s:St) (x:Operand):Option Vl:=match s.op x with
 | .vl v=>some v
 | _=>none
def Ac9 (s:St):List Operand→Bool
 | []=>true
 | x::r=>(match s.conc x with | some _=>true | none=>false)&&Ac9 s r
def Pz (P:Program) (s:St) (o:Oper):Option Value:=
 if Ac9 s o.op.operands.toList then
  match quiet P (execOp (fun x=>(s.conc x).getD undef) o) with
  | some (.value v)=>if v.oneCell' then some v else none
  | _=>none
 else none
def K4 {α:Type} (c:Bool) (xs:List α) (y:α):List α:=bif c then xs++[y] else xs
def wrT (u:Bool) (t:Ty):Ty:=match u with
 | true=>.pair (.sl t) .unit
 | false=>.sl t
def wrX {t:Ty} (xs:List (List t.D)):(u:Bool)→List (wrT u t).D
 | true=>List.map (fun x=>(x,())) xs
 | false=>xs
theorem Bcu {t:Ty} (xs:List (List t.D)) (u:Bool):List.length (wrX xs u)=xs.length:=by
 cases u with
 | false=>rfl
 | true=>exact List.length_map _
theorem Ayx (u:Bool) (t:Ty):(wrT u t).sz=1:=by cases u<;>rfl
theorem Ba5 (u:Bool) (t:Ty):S5 (wrT u t)=false:=by cases u<;>rfl
def St.frzN (s:St) (id:Nat) (u:Bool) (t:Ty) (xs:List (List t.D)):Bool→St
 | true=>s
 | false=>s.setRes id (.frozen (wrT u t) (wrX xs u))
def St.frz (s:St):List Lf→St
 | []=>s
 | .row id::r=>match s.res id with
  | .row _ t xs=>(s.setRes id (.frozen t xs)).frz r
  | .last e t xs c j=>match s.res j with
   | .row _ t' ys=>if h:t'=t then ((s.setRes j (.frozen t' ys)).setRes id (.frozen (wrT e.u t) (wrX (K4 c xs (h ▸ ys)) e.u))).frz r else s.frz r
   | _=>(s.frzN id e.u t xs c).frz r
  | _=>s.frz r
 | _::r=>s.frz r
def St.at_ (s:St):Lf→Option (List Lf)
 | .ptr id off=>match s.res id with
  | .box _ ls=>some (ls.drop off)
  | _=>none
 | .ep t xs i off=>some ((t.leafs (xs.getD i t.zero)).drop off)
 | .rp id i off=>match s.res id with
  | .row _ t xs=>some ((t.leafs (xs.getD i t.zero)).drop off)
  | _=>none
 | _=>none
def Akq (P:Program) (t:TypeId):Option Bool:=match P.underlying t with
 | some (.struct _)=>some true
 | some (.array _ _)=>some true
 | some _=>some false
 | none=>none
def W6 (P:Program) (t:TypeId) (ls:List Lf):Option Vl:=match Akq P t with
 | some true=>match P.info? t with
  | some i=>if i.size≤ls.length then some (.ag (ls.take i.size)) else none
  | none=>none
 | some false=>match ls with
  | l::_=>some (.lf l)
  | []=>none
 | none=>none
def Ayy (P:Program) (s:St) (t:TypeId) (x:Operand):Option Vl:=
 (s.leaf x).bind fun l=>(s.at_ l).bind fun ls=>W6 P t ls
def Ax4 (P:Program) (s:St) (t:TypeId) (x y:Operand):Option St:=
 (s.leaf x).bind fun l=>(s.value y).bind fun v=>match P.info? t with
  | none=>none
  | some i=>if v.ls.length=i.size then match l with
    | .ptr id off=>match s.res id with
     | .box T ls=>if off + v.ls.length≤ls.length then some (s.setRes id (.box T (ls.take off++v.ls++ls.drop (off + v.ls.length)))) else none
     | _=>none
    | .rp id i off=>match (s.frz v.ls).res id with
     | .row e t xs=>if i < xs.length then let old:=t.leafs (xs.getD i t.zero)
       if off + v.ls.length≤old.length then match (s.frz v.ls).parse t (old.take off++v.ls++old.drop (off + v.ls.length)) with
        | some (x,[])=>some ((s.frz v.ls).setRes id (.row e t (List.set xs i x)))
        | _=>none
       else none
      else none
     | _=>none
    | _=>none
   else none
def An5 (P:Program) (S:TypeId) (f:Nat):Option Nat:=match P.underlying S with
 | some (.struct fs)=>match fs[f]? with
  | some fd=>match P.info? fd.type with
   | some i=>if i.size=0 then none else some fd.offset
   | none=>none
  | none=>none
 | _=>none
def Af5 (P:Program) (s:St) (S:TypeId) (x:Operand) (f:Nat):Option Lf:=
 (An5 P S f).bind fun d=>(s.leaf x).bind fun l=>(s.at_ l).bind fun _=>match l with
  | .ptr id off=>some (.ptr id (off + d))
  | .ep t xs i off=>some (.ep t xs i (off + d))
  | .rp id i off=>some (.rp id i (off + d))
  | _=>none
def A5x (P:Program) (s:St) (S:TypeId) (x:Operand) (f:Nat):Option Vl:=match s.value x,P.underlying S with
 | some (.ag ls),some (.struct fs)=>match fs[f]? with
  | some fd=>W6 P fd.type (ls.drop fd.offset)
  | none=>none
 | _,_=>none
inductive Sl where
 | rd (t:Ty) (xs:List t.D)
 | own (id:Nat) (t:Ty) (xs:List t.D)
def St.sl (s:St):Lf→Option Sl
 | .sl t xs=>some (.rd t xs)
 | .row id=>match s.res id with
  | .row _ t xs=>some (.own id t xs)
  | .frozen t xs=>some (.rd t xs)
  | _=>none
 | _=>none
def d7 (P:Program) (s:St) (T:TypeId) (x y:Operand):Option Lf:=
 match P.underlying T with
 | some (.slice e)=>match P.info? e,(s.leaf x).bind s.sl,s.conc y with
  | some i,some (.rd t xs),some (.int _ n)=>if i.size=t.sz then (if 0≤n then (if n < (xs.length:Int) then some (.ep t xs n.toNat 0) else none) else none) else none
  | some i,some (.own id t xs),some (.int _ n)=>if i.size=t.sz then (if 0≤n then (if n < (xs.length:Int) then some (.rp id n.toNat 0) else none) else none) else none
  | _,_,_=>none
 | _=>none
def A4g (P:Program) (s:St) (T:TypeId) (x:Operand):Option Value:=
 match P.underlying T with
 | some (.slice _)=>match (s.leaf x).bind s.sl with
  | some (.rd _ xs)=>some (.int .i64 (xs.length:Int))
  | some (.own _ _ xs)=>some (.int .i64 (xs.length:Int))
  | none=>match s.conc x with
   | some (.slice none 0 0)=>some (.int .i64 0)
   | _=>none
 | _=>none
def Bfq (s:St) (nid:Nat) (T:TypeId) (v:Vl):Option (Lf×St):=match s.res nid with
 | .unborn=>some (.ptr nid 0,s.setRes nid (.box T v.ls))
 | _=>none
def Ada (P:Program) (T:TypeId):Option (List Lf):=match P.info? T with
 | some i=>match i.zero with
  | some z=>if Ayw z.cells.toList then some (z.cells.toList.map .c) else none
  | none=>none
 | none=>none
def A5y (P:Program) (s:St) (nid:Nat) (T:TypeId):Option (Lf×St):=match s.res nid,Ada P T with
 | .unborn,some ls=>some (.ptr nid 0,s.setRes nid (.box T ls))
 | _,_=>none
def y9 (place:Nat→Option (Nat×Nat)) (ls:List Lf):List (Nat×Vl)→Option (List Lf)
 | []=>some ls
 | (i,v)::rest=>match place i with
  | none=>none
  | some (off,size)=>if v.ls.length=size then (if off + v.ls.length≤ls.length then y9 place (ls.take off++v.ls++ls.drop (off + v.ls.length)) rest else none) else none
def Af6 (s:St):List (Nat×Operand)→Option (List (Nat×Vl))
 | []=>some []
 | (i,x)::r=>match s.value x,Af6 s r with
  | some v,some vs=>some ((i,v)::vs)
  | _,_=>none
def An6 (P:Program):List Field→Option (List (Nat×Nat))
 | []=>some []
 | f::r=>match P.info? f.type,An6 P r with
  | some i,some l=>some ((f.offset,i.size)::l)
  | _,_=>none
def A5z (P:Program) (s:St) (T:TypeId) (parts:Array (Nat×Operand)):Option Vl:=
 match P.underlying T with
 | some (.struct fs)=>match An6 P fs.toList,Ada P T,Af6 s parts.toList with
   | some pl,some z,some vs=>(y9 (fun i=>pl[i]?) z vs).map .ag
   | _,_,_=>none
 | _=>none
def An7 (s:St) (t:Ty):Nat→List Lf→Option (List t.D)
 | 0,[]=>some []
 | 0,_::_=>none
 | k + 1,ls=>(s.parse t ls).bind fun p=>(An7 s t k p.2).bind fun r=>some (p.1::r)
def Bjj (f:TypeId→Option Ty):List Field→Nat→Option Ty
 | [],_=>some .unit
 | d::r,off=>if d.offset=off then (f d.type).bind fun a=>(Bjj f r (off + a.sz)).bind fun b=>some (.pair a b) else none
def Bh6 (P:Program):Nat→TypeId→Option Ty
 | 0,_=>none
 | k + 1,t=>match P.underlying t with
  | some (.int i)=>some (.int i)
  | some .bool=>some .bool
  | some .string=>some .str
  | some (.slice e)=>(Bh6 P k e).map .sl
  | some (.struct fs)=>Bjj (Bh6 P k) fs.toList 0
  | _=>none
structure El where
 e:TypeId
 t:Ty
 z:List Lf
 bytes:Nat
def Af7 (P:Program) (T:TypeId):Option El:=match P.underlying T with
 | some (.slice e)=>match Bh6 P 12 e,P.info? e,Ada P e with
  | some t,some i,some z=>if i.size=t.sz then (if 0 < t.sz then (if z.length=t.sz then (if 0 < i.bytes∧S5 t=false then some ⟨e,t,z,i.bytes⟩ else none) else none) else none) else none
  | _,_,_=>none
 | _=>none
def d8 (z:List Lf):Nat→List Lf
 | 0=>[]
 | k + 1=>z++d8 z k
def A74:List (Nat×Vl)→List Lf
 | []=>[]
 | (_,v)::r=>v.ls++A74 r
def Adb (P:Program) (s:St) (nid:Nat) (T:TypeId) (len:Nat) (parts:Array (Nat×Operand)):Option (Lf×St):=
 match s.res nid,Af7 P T,Af6 s parts.toList with
 | .unborn,some el,some vs=>if len * el.t.sz≤16777216 then
   (y9 (fun i=>some (i * el.t.sz,el.t.sz)) (d8 el.z len) vs).bind fun ls=>
    match (s.frz (A74 vs)).res nid with
    | .unborn=>(An7 (s.frz (A74 vs)) el.t len ls).bind fun xs=>some (.row nid,(s.frz (A74 vs)).setRes nid (.row el.e el.t xs))
    | _=>none
  else none
 | _,_,_=>none
def d9 (P:Program) (s:St) (nid:Nat) (T:TypeId) (x y:Operand):Option (Lf×St):=
 match s.res nid,Af7 P T,s.conc x,s.conc y with
 | .unborn,some el,some (.int _ k),some (.int _ c)=>if k=c then (if 0≤k then (if k.toNat * el.bytes≤140737488355328 then
   (match s.parse el.t el.z with
   | some (x0,[])=>some (.row nid,s.setRes nid (.row el.e el.t (List.replicate k.toNat x0)))
   | _=>none) else none) else none) else none
 | _,_,_,_=>none
def Aaq (s:St) (el:El):Lf→Option (Option Nat×List el.t.D)
 | .c (.slice none 0 0)=>some (none,[])
 | .row id=>match s.res id with
  | .row e t xs=>if e=el.e then (if h:t=el.t then some (some id,h ▸ xs) else none) else none
  | _=>none
 | _=>none
def e9 (s:St) (t:Ty):Lf→Option (List t.D)
 | .c (.slice none 0 0)=>some []
 | .sl t' xs=>if h:t'=t then some (h ▸ xs) else none
 | .row id=>match s.res id with
  | .row _ t' xs=>if h:t'=t then some (h ▸ xs) else none
  | .frozen t' xs=>if h:t'=t then some (h ▸ xs) else none
  | _=>none
 | _=>none
def Ei (s:St):Option Nat→St
 | some id=>s.setRes id .dead
 | none=>s
def An8 (P:Program) (s:St) (nid:Nat) (T:TypeId) (x y:Operand):Option (Lf×St):=
 match s.res nid,Af7 P T,s.leaf x,s.leaf y with
 | .unborn,some el,some lx,some ly=>(Aaq s el lx).bind fun p=>(e9 s el.t ly).bind fun ys=>
   if (p.2.length + List.length ys) * el.bytes≤140737488355328 then some (.row nid,(Ei s p.1).setRes nid (.row el.e el.t (p.2++ys))) else none
 | _,_,_,_=>none
def Ad (s:Aa):List Int:=s.data.toList.map fun b=>(b.toNat:Int)
def f4 (P:Program) (s:St) (nid:Nat) (T U:TypeId) (x y:Operand):Option (Lf×St):=
 match s.res nid,P.underlying T,P.underlying U,s.leaf x,s.conc y with
 | .unborn,some (.slice e),some .string,some lx,some (.string q)=>match P.info? e,Ada P e with
  | some i,some z=>if i.size=1 then (if i.bytes=1 then (match z with
   | [.c (.int .u8 0)]=>(Aaq s ⟨e,.int .u8,z,1⟩ lx).bind fun p=>
    if p.2.length + q.size≤140737488355328 then some (.row nid,(Ei s p.1).setRes nid (.row e (.int .u8) ((show List Int from p.2)++Ad q))) else none
   | _=>none) else none) else none
  | _,_=>none
 | _,_,_,_,_=>none
def Ax5 (P:Program) (s:St) (T:TypeId) (x:Operand) (lo hi:Option Operand):Option (Lf×St):=
 match P.underlying T with
 | some (.slice e)=>match P.info? e,s.leaf x with
  | some i,some l=>match (s.frz [l]).sl l with
   | some (.rd t xs)=>if i.size=t.sz then
     (match (match lo with | some y=>s.conc y | none=>some (.int .i64 0)),(match hi with | some y=>s.conc y | none=>some (.int .i64 (List.length xs))) with
     | some (.int _ a),some (.int _ b)=>if 0≤a then (if a≤b then (if b≤(List.length xs:Int) then some (.sl t (List.drop a.toNat (List.take b.toNat xs)),s.frz [l]) else none) else none) else none
     | _,_=>none) else none
   | _=>none
  | _,_=>none
 | _=>none
abbrev tMk:Ty:=.pair (.int .u8) .unit
def Ba6 (xs:List Int):List (Int×Unit):=xs.map fun x=>(x,())
def Ba7 (xs:List (Int×Unit)):List Int:=xs.map fun x=>x.1
def Alv (P:Program) (s:St) (nid:Nat) (src dst:TypeId) (x:Operand):Option (List Bool×Lf×St):=
 match s.res nid,P.underlying src,P.underlying dst,s.conc x with
 | .unborn,some .string,some (.slice e),some (.string q)=>match P.underlying e with
  | some (.int .u8)=>some ([decide (q.size≤140737488355328)],.row nid,s.setRes nid (.row e tMk (Ba6 (Ad q))))
  | _=>none
 | _,_,_,_=>none
def Alw (P:Program) (s:St) (src dst:TypeId) (x:Operand):Option Value:=
 match P.underlying src,P.underlying dst with
 | some (.slice e),some .string=>match P.underlying e,(s.leaf x).bind (e9 s (.int .u8)) with
  | some (.int .u8),some xs=>some (.string (strOfNums xs))
  | some (.int .u8),none=>match (s.leaf x).bind (e9 s tMk) with
   | some xs=>some (.string (strOfNums (Ba7 xs)))
   | none=>none
  | _,_=>none
 | _,_=>none
section
structure Kp (B:Nat) (Iq:List Nat) (w w':World):Prop where
 os:w'.os=w.os
 tape:w'.tape=w.tape
 output:w'.output=w.output
 size:w.heap.size≤w'.heap.size
 block:∀ k,k < B→k ∉ Iq→w'.heap[k]? = w.heap[k]?
theorem Kp.refl (B:Nat) (Iq:List Nat) (w:World):Kp B Iq w w:=⟨rfl,rfl,rfl,Nat.le_refl _,fun _ _ _=>rfl⟩
theorem Kp.trans {B:Nat} {Iq:List Nat} {a b c:World} (h:Kp B Iq a b) (k:Kp B Iq b c):Kp B Iq a c:=
 ⟨k.os.trans h.os,k.tape.trans h.tape,k.output.trans h.output,Nat.le_trans h.size k.size,fun i hi hn=>(k.block i hi hn).trans (h.block i hi hn)⟩
structure Go (B:Nat) (Iq:List Nat) (s:St) (g:Gh) (w:World) (s':St) (g':Gh) (w':World):Prop where
 kp:Kp B Iq w w'
 S:∀ b,Eg s g b→b < w.heap.size→Eg s' g' b∧w'.heap[b]? = w.heap[b]?
 ref:∀ id,Az s g s' g' id
 av:g'.av=g.av
theorem Go.refl (B:Nat) (Iq:List Nat) (s:St) (g:Gh) (w:World):Go B Iq s g w s g w:=⟨Kp.refl B Iq w,fun _ h _=>⟨h,rfl⟩,fun _=>Az.same rfl rfl rfl,rfl⟩
theorem Go.trans {B:Nat} {Iq:List Nat} {s s1 s2:St} {g g1 g2:Gh} {w w1 w2:World} (h:Go B Iq s g w s1 g1 w1) (k:Go B Iq s1 g1 w1 s2 g2 w2):Go B Iq s g w s2 g2 w2:=
 ⟨h.kp.trans k.kp,fun b hb hl=>by
  obtain ⟨h1,h2⟩:=h.S b hb hl
  obtain ⟨k1,k2⟩:=k.S b h1 (Nat.lt_of_lt_of_le hl h.kp.size)
  exact ⟨k1,k2.trans h2⟩,fun id=>(h.ref id).trans (k.ref id),k.av.trans h.av⟩
section
variable {P:Program} {n B:Nat} {Iq:List Nat} {s:St} {g:Gh} {a:Act} {w:World}
theorem I6.ofConsts:∀ {cs:List Value},Ayw cs=true→I6 s g w (cs.map .c) cs
 | [],_=>trivial
 | v::r,h=>by
  simp only [Ayw,Bool.and_eq_true] at h
  exact ⟨⟨rfl,h.1⟩,I6.ofConsts h.2⟩
theorem Bec (v:Value):c9 s g w (Ax2 v) v:=by
 unfold Ax2
 split
 ·split
  ·rename_i cs hc
   exact ⟨cs,rfl,I6.ofConsts hc⟩
  ·trivial
 ·trivial
 ·rename_i h1 h2
  exact ⟨rfl,by cases v<;>first | rfl | exact absurd rfl (h1 _) | exact absurd rfl (h2 _)⟩
theorem Ba8 (h:Bp n B Iq s g a w) (x:Operand):c9 s g w (s.op x) (a.eval x):=by
 cases x with
 | tmp t=>exact h.cell t
 | const v=>exact Bec v
 | global _=>trivial
 | func _=>trivial
theorem Dv (h:Bp n B Iq s g a w) {x:Operand} {v:Value} (e:s.conc x=some v):a.eval x=v∧v.oneCell'=true:=by
 have k:=Ba8 h x
 unfold St.conc at e
 split at e
 ·rename_i hq
  rw [hq] at k
  cases e
  have k1:a.eval x=v:=k.1
  exact ⟨k1,by rw [← k1]; exact k.2⟩
 ·cases e
theorem C7 (h:Bp n B Iq s g a w) {x:Operand} {l:Lf} (e:s.leaf x=some l):Cx s g w l (a.eval x)∧(a.eval x).oneCell'=true:=by
 have k:=Ba8 h x
 unfold St.leaf at e
 split at e
 ·rename_i hq
  rw [hq] at k
  cases e
  exact k
 ·cases e
theorem W7 (h:Bp n B Iq s g a w) {x:Operand} {v:Vl} (e:s.value x=some v):VlR s g w v (a.eval x):=by
 have k:=Ba8 h x
 unfold St.value at e
 split at e
 ·rename_i hq
  rw [hq] at k
  cases e
  exact k
 ·cases e
theorem A4h (h:Bp n B Iq s g a w):∀ {l:List Operand},Ac9 s l=true→∀ x∈l,a.eval x=(s.conc x).getD undef
 | [],_,x,hx=>by cases hx
 | y::r,e,x,hx=>by
  simp only [Ac9,Bool.and_eq_true] at e
  rcases List.mem_cons.1 hx with rfl | hx
  ·cases hc:s.conc x with
   | none=>rw [hc] at e; simp at e
   | some v=>rw [(Dv h hc).1]; rfl
  ·exact A4h h e.2 x hx
theorem Bed (h:Bp n B Iq s g a w) {o:Oper} {v:Value} (hs:∀ cs b,o.op≠.select cs b) (e:Pz P s o=some v):(execOp a.eval o).run P w=.ok (.value v) w∧v.oneCell'=true:=by
 unfold Pz at e
 split at e
 ·rename_i hc
  split at e
  ·rename_i u hq
   split at e<;>cases e
   rename_i h1
   rw [execOp_congr o hs (fun x hx=>A4h h hc x (Array.mem_toList_iff.2 hx))]
   exact ⟨Arw hq w,h1⟩
  ·cases e
 ·cases e
theorem Bj2 (h:Bp n B Iq s g a w) {l:Lf} {u:Value} {ls:List Lf} (e:s.at_ l=some ls) (hl:Cx s g w l u):
  ∃ ad cs,u=.pointer (some ad)∧I6 s g w ls cs∧∀ j v,cs[j]? = some v→w.cell? (ad.add j)=some v:=by
 unfold St.at_ at e
 split at e
 ·rename_i id off
  split at e
  ·rename_i T ls0 hr
   cases e
   have r:=h.res id
   rw [hr] at r
   obtain ⟨b,cs,hb,hh,hL⟩:=r
   simp only [Cx,hr] at hl
   obtain ⟨b',hb',hu⟩:=hl
   obtain rfl:b=b':=Option.some.inj (hb.symm.trans hb')
   refine ⟨_,cs.toList.drop off,hu,hL.drop off,fun j v hv=>?_⟩
   rw [Ac8,cell_of_row w b _ cs T (0,0) hh]
   simpa using hv
  ·cases e
 ·rename_i t xs i off
  cases e
  obtain ⟨ad,cs,h1,h2,h3,h4,h5⟩:=hl
  refine ⟨_,cs.drop off,h1,(Ty.K_leafs h4).drop off,fun j v hv=>?_⟩
  rw [Ax1,Nat.add_assoc]
  exact h5 (off + j) v (by simpa using hv)
 ·rename_i id i off
  split at e
  ·rename_i ee t xs hr
   cases e
   have r:=h.res id
   rw [hr] at r
   obtain ⟨cs,h1,h2,h3⟩:=r
   simp only [Cx,hr] at hl
   obtain ⟨hi,b,hb,hu⟩:=hl
   obtain ⟨hlen,hown⟩:=h1
   have hx:nth xs i=some (xs.getD i t.zero):=by simp [nth,List.getElem?_eq_getElem hi]
   have hK:=h2.2 i _ hx
   rcases hown with ⟨hv,hn⟩ | ⟨gg,cap,cur,hv,_,hh,hcap,_,hsz,hcs⟩
   ·omega
   ·have hbg:b=gg:=by
     rw [h3,hv] at hb
     exact (Option.some.inj hb).symm
    subst hbg
    refine ⟨_,((cs.drop (i * t.sz)).take t.sz).drop off,hu,(Ty.K_leafs hK).drop off,fun j v hv=>?_⟩
    rw [Ac8,cell_of_row w b _ cur ee _ hh]
    rw [List.getElem?_drop,List.getElem?_take] at hv
    split at hv
    ·rw [List.getElem?_drop,← hcs,List.getElem?_take] at hv
     split at hv
     ·rw [← Array.getElem?_toList,← hv]
      congr 1
      omega
     ·cases hv
    ·cases hv
  ·cases e
 ·cases e
theorem Aar {t:TypeId} {b:Bool} (e:Akq P t=some b) (w:World):(isAgg t).run P w=.ok b w:=by
 unfold Akq at e
 cases hu:P.underlying t with
 | none=>rw [hu] at e; cases e
 | some d=>
  rw [hu] at e
  unfold isAgg
  rw [Sem.run_bind,run_underlying hu w]
  cases d<;>simp_all
theorem W8 {t:TypeId} {ls:List Lf} {v:Vl} {ad:Addr} {cs:List Value} (e:W6 P t ls=some v) (hL:I6 s g w ls cs) (hc:∀ j u,cs[j]? = some u→w.cell? (ad.add j)=some u):
  ∃ u,(loadVar t ad).run P w=.ok u w∧VlR s g w v u:=by
 unfold W6 at e
 split at e
 ·rename_i hA
  split at e
  ·rename_i i hi
   split at e<;>cases e
   rename_i hle
   have hlen:=hL.length
   have hn:(cs.take i.size).length=i.size:=by rw [List.length_take,hlen]; omega
   have hl:=run_loadCells_list (P:=P) (w:=w) ad (cs.take i.size) (fun j u hu=>hc j u (by rw [List.getElem?_take] at hu; split at hu<;>first | exact hu | cases hu))
   rw [hn] at hl
   refine ⟨.agg (cs.take i.size).toArray,?_,_,rfl,by simpa using hL.take i.size⟩
   simp [loadVar,Sem.run_bind,Aar hA w,sizeOf,typeInfo,hi,hl]
  ·cases e
 ·rename_i hA
  split at e
  ·rename_i l ls'
   cases e
   cases cs with
   | nil=>exact hL.elim
   | cons u cs=>
    have h0:=hc 0 u rfl
    have hz:ad.add 0=ad:=by simp [Addr.add]
    rw [hz] at h0
    refine ⟨u,?_,hL.1⟩
    simp [loadVar,Sem.run_bind,Aar hA w,load,Sem.run,h0]
  ·cases e
 ·cases e
theorem Bee (h:Bp n B Iq s g a w) {t:TypeId} {x:Operand} {v:Vl} (e:Ayy P s t x=some v):∃ u,(Instr.loadAt t (a.eval x)).run P w=.ok u w∧VlR s g w v u:=by
 unfold Ayy at e
 obtain ⟨l,e1,e⟩:=A6 e
 obtain ⟨ls,e2,e⟩:=A6 e
 obtain ⟨hl,_⟩:=C7 h e1
 obtain ⟨ad,cs,hu,hL,hc⟩:=Bj2 h e2 hl
 obtain ⟨u,hr,hv⟩:=W8 e hL hc
 refine ⟨u,?_,hv⟩
 rw [hu]
 simpa [Instr.loadAt,Instr.sureAddr] using hr
theorem An9 {S:TypeId} {f d:Nat} (e1:An5 P S f=some d) (ad:Addr) (w:World):(Instr.fieldAt S (.pointer (some ad)) f).run P w=.ok (.pointer (some (ad.add d))) w:=by
 unfold An5 at e1
 cases hU:P.underlying S with
 | none=>rw [hU] at e1; cases e1
 | some D=>
  rw [hU] at e1
  cases D with
  | struct fs=>
   simp only at e1
   cases hf:fs[f]? with
   | none=>rw [hf] at e1; cases e1
   | some fd=>
    rw [hf] at e1
    simp only at e1
    cases hi:P.info? fd.type with
    | none=>rw [hi] at e1; cases e1
    | some i=>
     rw [hi] at e1
     simp only at e1
     split at e1<;>cases e1
     rename_i hz
     simp [Instr.fieldAt,Sem.run_bind,run_underlying hU w,hf,Instr.sureAddr,fieldPlace,sizeOf,typeInfo,hi,hz]
  | _=>simp at e1
theorem Ayz (h:Bp n B Iq s g a w) {S:TypeId} {x:Operand} {f:Nat} {l:Lf} (e:Af5 P s S x f=some l):∃ u,(Instr.fieldAt S (a.eval x) f).run P w=.ok u w∧Cx s g w l u∧u.oneCell'=true:=by
 unfold Af5 at e
 obtain ⟨d,e1,e⟩:=A6 e
 obtain ⟨l0,e2,e⟩:=A6 e
 obtain ⟨ls,e3,e⟩:=A6 e
 obtain ⟨hl,_⟩:=C7 h e2
 obtain ⟨ad,cs,hu,_,_⟩:=Bj2 h e3 hl
 refine ⟨.pointer (some (ad.add d)),by rw [hu]; exact An9 e1 ad w,?_,rfl⟩
 rw [hu] at hl
 split at e
 ·rename_i id off
  cases e
  simp only [St.at_] at e3
  split at e3
  ·rename_i T ls0 hr
   simp only [Cx,hr] at hl ⊢
   obtain ⟨b,hb,hu⟩:=hl
   cases hu
   exact ⟨b,hb,by rw [Ac8]⟩
  ·cases e3
 ·rename_i t xs i off
  cases e
  obtain ⟨ad0,cs0,h1,h2⟩:=hl
  cases h1
  exact ⟨ad0,cs0,by rw [Ax1,Nat.add_assoc],h2⟩
 ·rename_i id i off
  cases e
  simp only [St.at_] at e3
  split at e3
  ·rename_i ee t xs hr
   simp only [Cx,hr] at hl ⊢
   obtain ⟨hi,b,hb,hu⟩:=hl
   cases hu
   exact ⟨hi,b,hb,by rw [Ac8,Nat.add_assoc]⟩
  ·cases e3
 ·cases e
theorem Ba9 (h:Bp n B Iq s g a w) {S:TypeId} {x:Operand} {f:Nat} {v:Vl} (e:A5x P s S x f=some v):∃ u,(Instr.field S (a.eval x) f).run P w=.ok u w∧VlR s g w v u:=by
 unfold A5x at e
 split at e
 ·rename_i ls fs hx hU
  split at e
  ·rename_i fd hf
   obtain ⟨cs,hu,hL⟩:=W7 h hx
   have hL2:=hL.drop fd.offset
   rw [hu]
   unfold W6 at e
   split at e
   ·rename_i hA
    split at e
    ·rename_i i hi
     split at e<;>cases e
     rename_i hle
     have h3:=hL2.take i.size
     refine ⟨.agg (cs.extract fd.offset (fd.offset + i.size)),?_,_,rfl,?_⟩
     ·simp [Instr.field,Sem.run_bind,run_underlying hU w,hf,asAgg,part,Aar hA w,sizeOf,typeInfo,hi]
     ·rw [Array.toList_extract,List.extract_eq_take_drop]
      simpa using h3
    ·cases e
   ·rename_i hA
    split at e
    ·rename_i l ls' hls
     cases e
     rw [hls] at hL2
     cases hd:cs.toList.drop fd.offset with
     | nil=>rw [hd] at hL2; exact hL2.elim
     | cons u us=>
      rw [hd] at hL2
      have hget:cs[fd.offset]? = some u:=by
       have:=congrArg (fun q:List Value=>q[0]?) hd
       simpa using this
      refine ⟨u,?_,hL2.1⟩
      simp [Instr.field,Sem.run_bind,run_underlying hU w,hf,asAgg,part,Aar hA w,hget]
    ·cases e
   ·cases e
  ·cases e
 ·cases e
theorem Bfr (h:Bp n B Iq s g a w) {l:Lf} {u:Value} {q:Sl} (e:s.sl l=some q) (hl:Cx s g w l u):
  ∃ A c,match q with
   | .rd t xs=>u=.slice A (List.length xs) c∧(Ty.sl t).K w (Eg s g) xs [u]
   | .own id t xs=>u=.slice A (List.length xs) c∧l=.row id∧∃ ee,s.res id=.row ee t xs:=by
 unfold St.sl at e
 split at e
 ·rename_i t xs
  cases e
  obtain ⟨A,c,h1,h2⟩:=hl
  cases h1
  exact ⟨A,c,rfl,A,c,rfl,h2⟩
 ·rename_i id
  split at e
  ·rename_i ee t xs hr
   cases e
   have r:=h.res id
   rw [hr] at r
   obtain ⟨cs,h1,h2,h3⟩:=r
   simp only [Cx,hr] at hl
   rw [hl]
   rcases h1.2 with ⟨hv,hn⟩ | ⟨gg,cap,cur,hv,_⟩
   ·refine ⟨none,0,?_,rfl,ee,hr⟩
    rw [hv,hn]
   ·exact ⟨_,cap,hv,rfl,ee,hr⟩
  ·rename_i t xs hr
   cases e
   have r:=h.res id
   rw [hr] at r
   simp only [Cx,hr] at hl
   have hK:=r.1
   rw [← hl] at hK
   have hK2:=hK
   obtain ⟨A,c,h1,h2⟩:=hK2
   cases h1
   exact ⟨A,c,rfl,hK⟩
  ·cases e
 ·cases e
theorem Ay0 (h:Bp n B Iq s g a w) {T:TypeId} {x y:Operand} {l:Lf} (e:d7 P s T x y=some l):∃ u,(Instr.indexAt T (a.eval x) (a.eval y)).run P w=.ok u w∧Cx s g w l u∧u.oneCell'=true:=by
 unfold d7 at e
 split at e
 ·rename_i el hU
  have hel:P.elem T=el:=by simp [Program.elem,hU]
  have hU':P.underlying T=some (.slice (P.elem T)):=by rw [hel]; exact hU
  split at e
  ·rename_i i t xs k m hi hx hy
   split at e
   ·rename_i hsz
    split at e
    ·rename_i h0
     split at e
     ·rename_i h1
      cases e
      obtain ⟨l0,e1,e2⟩:=A6 hx
      obtain ⟨hl,_⟩:=C7 h e1
      obtain ⟨A,c,hu,hK⟩:=Bfr h e2 hl
      obtain ⟨A',c',hu',hc',hk⟩:=hK
      rw [hu] at hu'
      cases hu'
      have hx:nth xs m.toNat=some (xs.getD m.toNat t.zero):=by
       have:m.toNat < xs.length:=by omega
       simp [nth,List.getElem?_eq_getElem this]
      obtain ⟨ad,rfl,hs,hlt,cs',hl',hk',hc⟩:=hk _ _ hx
      refine ⟨.pointer (some (ad.add (m.toNat * t.sz))),?_,⟨ad,cs',by rw [Nat.add_zero],hs,hlt,hk',hc⟩,rfl⟩
      rw [(Dv h hy).1,hu,run_indexAt_slice w T ad _ _ k m hU',if_pos ⟨h0,h1⟩,hel]
      simp [sizeOf,typeInfo,hi,hsz,Result.andThen]
     ·cases e
    ·cases e
   ·cases e
  ·rename_i i id t xs k m hi hx hy
   split at e
   ·rename_i hsz
    split at e
    ·rename_i h0
     split at e
     ·rename_i h1
      cases e
      obtain ⟨l0,e1,e2⟩:=A6 hx
      obtain ⟨hl,_⟩:=C7 h e1
      obtain ⟨A,c,hu,rfl,ee,hr⟩:=Bfr h e2 hl
      have r:=h.res id
      rw [hr] at r
      obtain ⟨cs,q1,q2,q3⟩:=r
      simp only [Cx,hr] at hl
      rcases q1.2 with ⟨hv,hn⟩ | ⟨gg,cap,cur,hv,_⟩
      ·omega
      ·rw [hl] at hu
       rw [hv] at hu
       cases hu
       refine ⟨.pointer (some ((⟨gg,0,none⟩:Addr).add (m.toNat * t.sz))),?_,?_,rfl⟩
       ·rw [(Dv h hy).1,hl,hv,run_indexAt_slice w T _ _ _ k m hU',if_pos ⟨h0,h1⟩,hel]
        simp [sizeOf,typeInfo,hi,hsz,Result.andThen]
       ·simp only [Cx,hr]
        refine ⟨by omega,gg,by rw [q3,hv]; rfl,by rw [Ayu]; rfl⟩
     ·cases e
    ·cases e
   ·cases e
  ·cases e
 ·cases e
theorem Bfs (h:Bp n B Iq s g a w) {T ty:TypeId} {x:Operand} {v:Value} (e:A4g P s T x=some v):(Builtin.len_ #[T] ty #[a.eval x]).run P w=.ok v w∧v.oneCell'=true:=by
 unfold A4g at e
 split at e
 ·rename_i el hU
  have hel:P.elem T=el:=by simp [Program.elem,hU]
  have hU':P.underlying T=some (.slice (P.elem T)):=by rw [hel]; exact hU
  split at e
  ·rename_i t xs hx
   cases e
   obtain ⟨l0,e1,e2⟩:=A6 hx
   obtain ⟨hl,_⟩:=C7 h e1
   obtain ⟨A,c,hu,_⟩:=Bfr h e2 hl
   rw [hu,run_len_slice w T ty A _ c hU']
   exact ⟨rfl,rfl⟩
  ·rename_i id t xs hx
   cases e
   obtain ⟨l0,e1,e2⟩:=A6 hx
   obtain ⟨hl,_⟩:=C7 h e1
   obtain ⟨A,c,hu,_⟩:=Bfr h e2 hl
   rw [hu,run_len_slice w T ty A _ c hU']
   exact ⟨rfl,rfl⟩
  ·split at e
   ·rename_i hx
    cases e
    rw [(Dv h hx).1,run_len_slice w T ty none 0 0 hU']
    exact ⟨rfl,rfl⟩
   ·cases e
 ·cases e
end
end
section
section
variable {P:Program} {n B:Nat} {Iq:List Nat} {s:St} {g:Gh} {a:Act} {w:World}
theorem Ai (s:St) (id:Nat) (r:Jw):(s.setRes id r).res id=r:=by simp [St.setRes]
theorem Ak (s:St) {id j:Nat} (r:Jw) (h:j≠id):(s.setRes id r).res j=s.res j:=by simp [St.setRes,As _ _ h]
theorem Ej {r:Jw} (hr:r.nst=false) {k j:Nat} (h:((s.setRes k r).res j).nst=true):(s.res j).nst=true:=by
 by_cases e:j=k
 ·subst e
  rw [Ai,hr] at h
  cases h
 ·rwa [Ak s r e] at h
def Gh.new (g:Gh) (id b:Nat) (hd:Value):Gh:=⟨K3 g.blk id (some b),K3 g.hdr id hd,g.av,K3 g.innL id []⟩
theorem A50 {id:Nat} {r:Jw} {j b:Nat} (h:((s.setRes id r).res j).nst=true) (hi:b∈K3 g.innL id [] j):(s.res j).nst=true∧g.inn j b:=by
 by_cases e:j=id
 ·subst e
  rw [Al] at hi
  cases hi
 ·rw [Ak s r e] at h
  rw [As _ _ e] at hi
  exact ⟨h,hi⟩
theorem Bh7 {id:Nat} (hf:(s.res id).nst=false) {j:Nat} (h:(s.res j).nst=true):(fun b=>b∈K3 g.innL id [] j)=g.inn j:=by
 have e:j≠id:=fun e=>by subst e; rw [hf] at h; cases h
 rw [As _ _ e]
theorem Ai9 (h:Bp n B Iq s g a w) {id:Nat} (hf:s.res id=.unborn) (r:Jw) (hd:Value) (obj:Obj):
  ∀ b,Eg s g b→b < w.heap.size→Eg (s.setRes id r) (g.new id w.heap.size hd) b∧(w.alloc obj).heap[b]? = w.heap[b]? := by
 intro b hb hlt
 refine ⟨⟨hb.1,fun j hj hk=>?_,fun j hj hi=>hb.2.2 j (A50 hj hi).1 (A50 hj hi).2⟩,Below.heap_alloc w obj b hlt⟩
 by_cases e:j=id
 ·subst e
  simp only [Gh.new,Al] at hk
  have:=Option.some.inj hk
  omega
 ·rw [Ak s r e] at hj
  simp only [Gh.new,As _ _ e] at hk
  exact hb.2.1 j hj hk
theorem A51 {id:Nat} (hf:s.res id=.unborn) (r:Jw) (hd:Value) (b:Nat):∀ j,Az s g (s.setRes id r) (g.new id b hd) j:=by
 intro j
 by_cases e:j=id
 ·subst e
  unfold Az
  rw [hf]
  exact .inr trivial
 ·exact Az.same (Ak s r e) (by simp [Gh.new,As _ _ e]) (by simp [Gh.new,As _ _ e])
theorem Bp.alloc (h:Bp n B Iq s g a w) {id:Nat} (hf:s.res id=.unborn) (r:Jw) (hd:Value) (obj:Obj)
  (hr:Lr (s.setRes id r) (g.new id w.heap.size hd) (w.alloc obj) id r):Bp n B Iq (s.setRes id r) (g.new id w.heap.size hd) a (w.alloc obj):=by
 refine h.step h.size h.defers (by simp) (Ai9 h hf r hd obj) (A51 hf r hd _) (fun i=>.inl ⟨rfl,rfl⟩) (fun j=>?_) (fun i j b hi hj=>?_) (fun i b hi=>?_) rfl (NK.of h (by simp) (fun j b h1 h2=>A50 h1 h2) (fun j h1=>Bh7 (by rw [hf]; rfl) h1) (fun b hb _=>Below.heap_alloc w obj b hb) fun j b hb=>?_)
 ·by_cases e:j=id
  ·subst e
   right
   rw [Ai]
   exact hr
  ·left
   refine ⟨Ak s r e,by simp [Gh.new,As _ _ e],by simp [Gh.new,As _ _ e],fun b hb=>Below.heap_alloc w obj b (h.lt j b hb).1⟩
 ·by_cases e1:i=id<;>by_cases e2:j=id
  ·rw [e1,e2]
  ·simp only [Gh.new,e1,Al] at hi
   simp only [Gh.new,As _ _ e2] at hj
   have:=(h.lt j b hj).1
   have:=Option.some.inj hi
   omega
  ·simp only [Gh.new,As _ _ e1] at hi
   simp only [Gh.new,e2,Al] at hj
   have:=(h.lt i b hi).1
   have:=Option.some.inj hj
   omega
  ·simp only [Gh.new,As _ _ e1] at hi
   simp only [Gh.new,As _ _ e2] at hj
   exact h.inj i j b hi hj
 ·by_cases e1:i=id
  ·simp only [Gh.new,e1,Al] at hi
   have hsz:=Option.some.inj hi
   have:=h.base
   refine ⟨by simp; omega,.inr (by omega),fun q=>?_⟩
   have:=h.avB b q
   omega
  ·simp only [Gh.new,As _ _ e1] at hi
   obtain ⟨q1,q2,q3⟩:=h.lt i b hi
   exact ⟨by simp; omega,q2,q3⟩
 ·by_cases e:j=id
  ·simp only [Gh.new,e,Al] at hb
   have:=Option.some.inj hb
   exact .inr (by omega)
  ·simp only [Gh.new,As _ _ e] at hb
   exact .inl ⟨j,hb⟩
theorem Kp.alloc (hB:B≤w.heap.size) (obj:Obj):Kp B Iq w (w.alloc obj):=⟨rfl,rfl,rfl,by simp,fun k hk _=>Below.heap_alloc w obj k (by omega)⟩
theorem Go.alloc (h:Bp n B Iq s g a w) {id:Nat} (hf:s.res id=.unborn) (r:Jw) (hd:Value) (obj:Obj):Go B Iq s g w (s.setRes id r) (g.new id w.heap.size hd) (w.alloc obj):=
 ⟨Kp.alloc h.base obj,Ai9 h hf r hd obj,A51 hf r hd _,rfl⟩
theorem Ay1 (w:World) (o:Obj):(w.alloc o).heap[w.heap.size]? = some o:=by
 show (w.heap.push o)[w.heap.size]? = _
 simp
theorem Bjl (h:Bp n B Iq s g a w) {id:Nat} (hf:s.res id=.unborn) (T:TypeId) {ls:List Lf} {cs:Array Value} (hL:I6 s g w ls cs.toList) (hd:Value):
  Lr (s.setRes id (.box T ls)) (g.new id w.heap.size hd) (w.alloc (.cells cs T)) id (.box T ls):=
 ⟨w.heap.size,cs,by simp [Gh.new],Ay1 w _,hL.step (Ai9 h hf _ hd _) (A51 hf _ hd _)⟩
theorem Bft (h:Bp n B Iq s g a w) {nid:Nat} {T:TypeId} {v:Vl} {u:Value} {l:Lf} {s':St} (hv:VlR s g w v u) (e:Bfq s nid T v=some (l,s')):
  ∃ x w' g',(Instr.box T u).run P w=.ok x w'∧Go B Iq s g w s' g' w'∧Bp n B Iq s' g' a w'∧Cx s' g' w' l x∧x.oneCell'=true:=by
 unfold Bfq at e
 split at e<;>cases e
 rename_i hf
 refine ⟨.pointer (some ⟨w.heap.size,0,none⟩),w.alloc (.cells u.cells T),g.new nid w.heap.size undef,?_,Go.alloc h hf _ _ _,h.alloc hf _ _ _ (Bjl h hf T hv.cells undef),?_,rfl⟩
 ·simp [Instr.box,newVar,newRow]
 ·simp only [Cx,Ai]
  exact ⟨w.heap.size,by simp [Gh.new],rfl⟩
theorem Nf {T:TypeId} {ls:List Lf} (e:Ada P T=some ls) (s:St) (g:Gh) (w:World):∃ z,(∀ w,(zeroValue T).run P w=.ok z w)∧I6 s g w ls z.cells.toList∧(∃ i,P.info? T=some i∧i.zero=some z):=by
 unfold Ada at e
 cases hi:P.info? T with
 | none=>rw [hi] at e; cases e
 | some i=>
  rw [hi] at e
  simp only at e
  cases hz:i.zero with
  | none=>rw [hz] at e; cases e
  | some z=>
   rw [hz] at e
   simp only at e
   split at e<;>cases e
   rename_i h1
   exact ⟨z,fun w=>by simp [zeroValue,typeInfo,hi,hz],I6.ofConsts h1,i,rfl,hz⟩
theorem Bba (h:Bp n B Iq s g a w) {nid:Nat} {T:TypeId} {l:Lf} {s':St} (e:A5y P s nid T=some (l,s')):
  ∃ x w' g',(Instr.alloc T true (.tuple #[])).run P w=.ok x w'∧Go B Iq s g w s' g' w'∧Bp n B Iq s' g' a w'∧Cx s' g' w' l x∧x.oneCell'=true:=by
 unfold A5y at e
 split at e<;>cases e
 rename_i ls hf hz
 obtain ⟨z,hzr,hL,_⟩:=Nf hz s g w
 refine ⟨.pointer (some ⟨w.heap.size,0,none⟩),w.alloc (.cells z.cells T),g.new nid w.heap.size undef,?_,Go.alloc h hf _ _ _,h.alloc hf _ _ _ (Bjl h hf T hL undef),?_,rfl⟩
 ·simp [Instr.alloc,hzr,newVar,newRow]
 ·simp only [Cx,Ai]
  exact ⟨w.heap.size,by simp [Gh.new],rfl⟩
theorem Bfu (off:Nat) (v cs:Array Value) (hle:off + v.size≤cs.size):
  (v.zipIdx.foldl (fun cs (x:Value×Nat)=>cs.setIfInBounds (off + x.2) x.1) cs).toList=cs.toList.take off++v.toList++cs.toList.drop (off + v.size):=by
 have hz:v.zipIdx.foldl (fun cs (x:Value×Nat)=>cs.setIfInBounds (off + x.2) x.1) cs=(v.toList.zipIdx 0).foldl (fun cs (x:Value×Nat)=>cs.setIfInBounds (off + x.2) x.1) cs:=by
  rw [← Array.foldl_toList,Array.toList_zipIdx]
 rw [hz]
 obtain ⟨h1,h2⟩:=Great.foldl_set off v.toList 0 cs
 apply List.ext_getElem?
 intro k
 rw [Array.getElem?_toList,h2 k]
 simp only [Nat.add_zero,Array.length_toList,Nat.sub_zero]
 by_cases k1:k < off
 ·rw [if_neg (by omega),List.append_assoc,List.getElem?_append_left (by simp; omega),List.getElem?_take,if_pos k1,Array.getElem?_toList]
 ·by_cases k2:k < off + v.size
  ·rw [if_pos ⟨by omega,k2,by omega⟩,List.append_assoc,List.getElem?_append_right (by simp; omega),List.getElem?_append_left (by simp; omega)]
   congr 1
   simp
   omega
  ·rw [if_neg (by omega),List.getElem?_append_right (by simp; omega),List.getElem?_drop,Array.getElem?_toList]
   congr 1
   simp
   omega
theorem I6.splice {ls vs:List Lf} {cs us:List Value} {off:Nat} (h:I6 s g w ls cs) (hv:I6 s g w vs us):I6 s g w (ls.take off++vs++ls.drop (off + vs.length)) (cs.take off++us++cs.drop (off + us.length)):=by
 rw [hv.length]
 exact ((h.take off).append hv).append (h.drop _)
def VsR (s:St) (g:Gh) (w:World):List (Nat×Vl)→List (Nat×Value)→Prop
 | [],[]=>True
 | (i,v)::r,(j,u)::q=>(i=j∧VlR s g w v u)∧VsR s g w r q
 | _,_=>False
theorem Alx (h:Bp n B Iq s g a w):∀ {parts:List (Nat×Operand)} {vs:List (Nat×Vl)},Af6 s parts=some vs→VsR s g w vs (parts.map fun p=>(p.1,a.eval p.2))
 | [],_,e=>by cases e; trivial
 | (i,x)::r,vs,e=>by
  simp only [Af6] at e
  split at e<;>cases e
  rename_i v vs' hx hr
  exact ⟨⟨rfl,W7 h hx⟩,Alx h hr⟩
theorem Ay2 {place:Nat→Option (Nat×Nat)}:∀ {vs:List (Nat×Vl)} {us:List (Nat×Value)} {ls ls':List Lf} {cs:Array Value},y9 place ls vs=some ls'→VsR s g w vs us→I6 s g w ls cs.toList→
  ∃ cs',Instr.fill place cs us=some cs'∧I6 s g w ls' cs'.toList
 | [],[],ls,ls',cs,e,_,hL=>by cases e; exact ⟨cs,rfl,hL⟩
 | [],_::_,_,_,_,_,h,_=>h.elim
 | _::_,[],_,_,_,_,h,_=>h.elim
 | (i,v)::r,(j,u)::q,ls,ls',cs,e,⟨⟨hij,hv⟩,hr⟩,hL=>by
  subst hij
  simp only [y9] at e
  split at e
  ·cases e
  ·rename_i off size hp
   split at e
   ·rename_i hsz
    split at e
    ·rename_i hle
     have hc:=hv.cells
     have hcl:=hc.length
     have hll:=hL.length
     simp only [Array.length_toList] at hcl hll
     obtain ⟨cs',h1,h2⟩:=Ay2 (cs:=u.cells.zipIdx.foldl (fun cs (x:Value×Nat)=>cs.setIfInBounds (off + x.2) x.1) cs) e hr (by
      rw [Bfu off u.cells cs (by omega)]
      have:=hL.splice (off:=off) hc
      rw [Array.length_toList] at this
      exact this)
     refine ⟨cs',?_,h2⟩
     simp only [Instr.fill,hp]
     rw [if_neg (by simp; omega)]
     exact h1
    ·cases e
   ·cases e
theorem Auj:∀ {fs:List Field} {pl:List (Nat×Nat)},An6 P fs=some pl→fs.mapM (fun f=>(P.info? f.type).map fun i=>(f.offset,i.size))=some pl
 | [],_,e=>by cases e; rfl
 | f::r,pl,e=>by
  simp only [An6] at e
  split at e<;>cases e
  rename_i i l hi hl
  simp [List.mapM_cons,hi,Auj hl]
theorem Bbb (h:Bp n B Iq s g a w) {T:TypeId} {parts:Array (Nat×Operand)} {v:Vl} (e:A5z P s T parts=some v):
  ∃ u,(Instr.build T (parts.map fun (i,x)=>(i,a.eval x))).run P w=.ok u w∧VlR s g w v u:=by
 unfold A5z at e
 split at e
 ·rename_i fs hU
  split at e
  ·rename_i pl z vs hp hz hvs
   cases hfl:y9 (fun i=>pl[i]?) z vs with
   | none=>rw [hfl] at e; cases e
   | some ls'=>
    rw [hfl] at e
    cases e
    obtain ⟨zv,_,hL,it,hi,hzz⟩:=Nf hz s g w
    have hV:=Alx h hvs
    obtain ⟨cs',h1,h2⟩:=Ay2 hfl hV hL
    have hmap:(parts.map fun (i,x)=>(i,a.eval x)).toList=parts.toList.map fun p=>(p.1,a.eval p.2):=by rw [Array.toList_map]
    refine ⟨.agg cs',run_build w T _ cs' ?_,cs',rfl,h2⟩
    unfold Program.built
    simp only [hi,hU,hzz,Auj hp,hmap]
    have:(fun i:Nat=>pl.toArray[i]?)=fun i:Nat=>pl[i]? := by funext i; simp
    rw [this]
    exact h1
  ·cases e
 ·cases e
end
end
section
section
variable {P:Program} {n B:Nat} {Iq:List Nat} {s:St} {g:Gh} {a:Act} {w:World}
theorem Aoa {S:Nat→Prop} {e:TypeId} {t:Ty} {xs:List t.D} {v:Value} {cs:List Value} (h1:Hr w t 0 e t.sz v xs.length cs) (h2:Ik w S t xs cs) (hS:∀ b,v.ownBlock=some b→S b) (hlt:∀ b,v.ownBlock=some b→b < w.heap.size):
  (Ty.sl t).K w S xs [v]:=by
 obtain ⟨hl,hv⟩:=h1
 rcases hv with ⟨rfl,hn⟩ | ⟨b,cap,cur,rfl,_,hh,hcap,_,hsz,hcs⟩
 ·refine ⟨none,0,by rw [hn],by omega,fun i x hx=>?_⟩
  have:i < xs.length:=(List.getElem?_eq_some_iff.1 hx).1
  omega
 ·refine ⟨_,cap,rfl,hcap,fun i x hx=>⟨_,rfl,hS b rfl,hlt b rfl,_,?_,h2.2 i x hx,fun j u hu=>?_⟩⟩
  ·exact Ty.K_len (h2.2 i x hx)
  ·rw [Ayu,cell_of_row w b _ cur e _ hh]
   rw [List.getElem?_take] at hu
   split at hu
   ·rw [List.getElem?_drop,← hcs,List.getElem?_take] at hu
    split at hu
    ·rw [← Array.getElem?_toList,← hu]
    ·cases hu
   ·cases hu
def Gh.off (g:Gh) (id:Nat):Gh:=⟨K3 g.blk id none,g.hdr,g.av,g.innL⟩
theorem A52 (g:Gh) (id:Nat):∀ j b,(g.off id).blk j=some b→∃ j',g.blk j'=some b:=fun j b hb=>by
 by_cases q:j=id
 ·simp [Gh.off,q] at hb
 ·simp only [Gh.off,As _ _ q] at hb
  exact ⟨j,hb⟩
theorem Bky (h:Bp n B Iq s g a w) {id:Nat} {e:TypeId} {t:Ty} {xs:List t.D} (hr:s.res id=.row e t xs):
  (∀ b,Eg s g b→b < w.heap.size→Eg (s.setRes id (.frozen t xs)) (g.off id) b∧w.heap[b]? = w.heap[b]?)∧(∀ j,Az s g (s.setRes id (.frozen t xs)) (g.off id) j)∧
  Bp n B Iq (s.setRes id (.frozen t xs)) (g.off id) a w:=by
 have hS:∀ b,Eg s g b→b < w.heap.size→Eg (s.setRes id (.frozen t xs)) (g.off id) b∧w.heap[b]? = w.heap[b]? := by
  intro b hb _
  refine ⟨⟨hb.1,fun j hj hk=>?_,fun j hj=>hb.2.2 j (Ej rfl hj)⟩,rfl⟩
  by_cases q:j=id
  ·subst q
   simp [Gh.off] at hk
  ·rw [Ak s _ q] at hj
   simp only [Gh.off,As _ _ q] at hk
   exact hb.2.1 j hj hk
 have hI:∀ j,Az s g (s.setRes id (.frozen t xs)) (g.off id) j:=by
  intro j
  by_cases q:j=id
  ·subst q
   unfold Az
   rw [hr,Ai]
   exact .inr (.inr ⟨t,xs,rfl,rfl⟩)
  ·exact Az.same (Ak s _ q) (by simp [Gh.off,As _ _ q]) rfl
 refine ⟨hS,hI,h.step h.size h.defers (Nat.le_refl _) hS hI (fun i=>.inl ⟨rfl,rfl⟩) (fun j=>?_) (fun i j b hi hj=>?_) (fun i b hi=>?_) rfl (NK.same_world h (fun j=>Ej rfl) rfl (A52 g id))⟩
 ·by_cases q:j=id
  ·subst q
   right
   rw [Ai]
   have r:=h.res j
   rw [hr] at r
   obtain ⟨cs,h1,h2,h3⟩:=r
   refine ⟨?_,by simp [Gh.off]⟩
   refine Aoa (e:=e) h1 (h2.keep hS) (fun b hb=>⟨(h.lt j b (h3.trans hb)).2.2,fun k hk hkb=>?_,fun k hk hi=>(h.inn k b (Ej rfl hk) hi).2.1 j (h3.trans hb)⟩) (fun b hb=>(h.lt j b (h3.trans hb)).1)
   by_cases q2:k=j
   ·subst q2
    simp [Gh.off] at hkb
   ·simp only [Gh.off,As _ _ q2] at hkb
    exact q2 (h.inj k j b hkb (h3.trans hb))
  ·left
   exact ⟨Ak s _ q,by simp [Gh.off,As _ _ q],rfl,fun _ _=>rfl⟩
 ·by_cases q1:i=id
  ·simp [Gh.off,q1] at hi
  ·by_cases q2:j=id
   ·simp [Gh.off,q2] at hj
   ·simp only [Gh.off,As _ _ q1] at hi
    simp only [Gh.off,As _ _ q2] at hj
    exact h.inj i j b hi hj
 ·by_cases q1:i=id
  ·simp [Gh.off,q1] at hi
  ·simp only [Gh.off,As _ _ q1] at hi
   exact h.lt i b hi
theorem Ik.snoc {S:Nat→Prop} {t:Ty} {xs:List t.D} {y:t.D} {cs:List Value} {u:Value} (h1:t.sz=1) (h:Ik w S t xs (cs.take xs.length)) (hl:cs.length=xs.length + 1) (hu:cs[xs.length]? = some u) (hy:t.K w S y [u]):Ik w S t (xs++[y]) cs:=by
 refine ⟨by rw [h1]; simp [hl],fun i x hx=>?_⟩
 by_cases q:i < xs.length
 ·rw [List.getElem?_append_left q] at hx
  have:=h.2 i x hx
  rw [h1,Nat.mul_one] at this ⊢
  rw [List.drop_take,List.take_take,Nat.min_eq_left (by omega)] at this
  exact this
 ·rw [List.getElem?_append_right (by omega)] at hx
  have hi:i=xs.length:=by
   have:=(List.getElem?_eq_some_iff.1 hx).1
   simp at this
   omega
  subst hi
  simp at hx
  subst hx
  rw [h1,Nat.mul_one]
  have hd:(cs.drop xs.length).take 1=[u]:=by
   rw [List.drop_eq_getElem_cons (by omega)]
   rw [List.getElem?_eq_getElem (by omega)] at hu
   simp [Option.some.inj hu]
  rw [hd]
  exact hy
theorem Bh8 {S S' I:Nat→Prop} {e:TypeId} {t:Ty} {xs:List (List t.D)} {cs:List Value} (h:Ayv w S I e t xs cs) (hl:xs.length≤cs.length) (hS:∀ b,S b→b < w.heap.size→S' b) (hI:∀ b,I b→S' b∧b < w.heap.size):Ik w S' (.sl t) xs (cs.take xs.length):=by
 refine ⟨by show _=xs.length * 1; rw [List.length_take]; omega,fun i x hx=>?_⟩
 have hi:=(List.getElem?_eq_some_iff.1 hx).1
 have hi:i < xs.length:=hi
 obtain ⟨u,hu⟩:∃ u,cs[i]? = some u:=⟨_,List.getElem?_eq_getElem (by omega)⟩
 obtain ⟨ds,q1,q2,q3⟩:=h.row i x u hx hu
 have e1:((cs.take xs.length).drop (i * (Ty.sl t).sz)).take (Ty.sl t).sz=[u]:=by
  show ((cs.take xs.length).drop (i * 1)).take 1=[u]
  rw [Nat.mul_one,List.drop_eq_getElem_cons (by rw [List.length_take]; omega)]
  simp only [List.take_succ_cons,List.take_zero,List.getElem_take]
  rw [List.getElem?_eq_getElem (by omega)] at hu
  rw [Option.some.inj hu]
 rw [e1]
 exact Aoa q1 (q2.keep fun b hb hlt=>⟨hS b hb hlt,rfl⟩) (fun b hb=>(hI b (q3 b hb)).1) fun b hb=>(hI b (q3 b hb)).2
theorem Bj3 {S:Nat→Prop} {t:Ty} {xs:List (List t.D)} {cs:List Value} (h:Ik w S (.sl t) xs cs) (u:Bool):Ik w S (wrT u t) (wrX xs u) cs:=by
 cases u with
 | false=>exact h
 | true=>
  refine ⟨by rw [Bcu]; exact h.1,fun i x hx=>?_⟩
  obtain ⟨y,hy,rfl⟩:∃ y,xs[i]? = some y∧(y,())=x:=by
   have hx:(xs.map (fun x=>(x,())))[i]? = some x:=hx
   rw [List.getElem?_map] at hx
   obtain ⟨y,h1,h2⟩:=Option.map_eq_some_iff.1 hx
   exact ⟨y,h1,h2⟩
  exact ⟨_,[],(List.append_nil _).symm,h.2 i y hy,rfl⟩
theorem Bfv (h:Bp n B Iq s g a w) {id j:Nat} {e:NE} {t:Ty} {xs:List (List t.D)} {c:Bool} {ys:List t.D} (hr:s.res id=.last e t xs c j) (hj:c=true→s.res j=.frozen t ys) {S':Nat→Prop} (hS:∀ b,Eg s g b→b < w.heap.size→S' b) (hI:∀ b,g.inn id b→S' b):
  ∃ cs,Hr w (.sl t) 0 e.o (Ty.sl t).sz (g.hdr id) (K4 c xs ys).length cs∧Ik w S' (.sl t) (K4 c xs ys) cs∧g.blk id=(g.hdr id).ownBlock∧(K4 c xs ys).length=xs.length + c.toNat:=by
 have r:=h.res id
 rw [hr] at r
 obtain ⟨cs,h1,h2',h3,h4⟩:=r
 have hl:(K4 c xs ys).length=xs.length + c.toNat:=by cases c<;>simp [K4]
 refine ⟨cs,by rw [hl]; exact h1,?_,h3,hl⟩
 have hcl:cs.length=xs.length + c.toNat:=by simpa using h1.1
 have h2:=Bh8 h2' (by omega) hS fun b hb=>⟨hI b hb,(h.inn id b (by rw [hr]; rfl) hb).1.1⟩
 cases c with
 | false=>
  have:cs.take xs.length=cs:=List.take_of_length_le (by simp at hcl; omega)
  rw [this] at h2
  exact h2
 | true=>
  simp only [Bool.toNat_true] at hcl
  obtain ⟨u,hu⟩:∃ u,cs[xs.length]? = some u:=⟨_,List.getElem?_eq_getElem (by omega)⟩
  have hj:=hj rfl
  have hq:=h4 u rfl hu
  rw [hj] at hq
  have hrj:=h.res j
  rw [hj] at hrj
  simp only at hq
  exact Ik.snoc (t:=.sl t) rfl h2 hcl hu (by rw [hq]; exact Ty.K_keep (fun b hb hlt=>⟨hS b hb hlt,rfl⟩) hrj.1)
theorem Bkz (h:Bp n B Iq s g a w) {id j:Nat} {e:NE} {t:Ty} {xs:List (List t.D)} {c:Bool} {ys:List t.D} (hr:s.res id=.last e t xs c j) (hj:c=true→s.res j=.frozen t ys):
  (∀ b,Eg s g b→b < w.heap.size→Eg (s.setRes id (.frozen (wrT e.u t) (wrX (K4 c xs ys) e.u))) (g.off id) b∧w.heap[b]? = w.heap[b]?)∧(∀ k,Az s g (s.setRes id (.frozen (wrT e.u t) (wrX (K4 c xs ys) e.u))) (g.off id) k)∧
  Bp n B Iq (s.setRes id (.frozen (wrT e.u t) (wrX (K4 c xs ys) e.u))) (g.off id) a w:=by
 have hS:∀ b,Eg s g b→b < w.heap.size→Eg (s.setRes id (.frozen (wrT e.u t) (wrX (K4 c xs ys) e.u))) (g.off id) b∧w.heap[b]? = w.heap[b]? := by
  intro b hb _
  refine ⟨⟨hb.1,fun j hj hk=>?_,fun j hj=>hb.2.2 j (Ej rfl hj)⟩,rfl⟩
  by_cases q:j=id
  ·subst q
   simp [Gh.off] at hk
  ·rw [Ak s _ q] at hj
   simp only [Gh.off,As _ _ q] at hk
   exact hb.2.1 j hj hk
 have hI:∀ j,Az s g (s.setRes id (.frozen (wrT e.u t) (wrX (K4 c xs ys) e.u))) (g.off id) j:=by
  intro j
  by_cases q:j=id
  ·subst q
   unfold Az
   rw [hr,Ai]
   exact .inr (.inr ⟨_,_,rfl,rfl⟩)
  ·exact Az.same (Ak s _ q) (by simp [Gh.off,As _ _ q]) rfl
 refine ⟨hS,hI,h.step h.size h.defers (Nat.le_refl _) hS hI (fun i=>.inl ⟨rfl,rfl⟩) (fun j=>?_) (fun i j b hi hj=>?_) (fun i b hi=>?_) rfl (NK.same_world h (fun j=>Ej rfl) rfl (A52 g id))⟩
 ·by_cases q:j=id
  ·subst q
   right
   rw [Ai]
   have hin:∀ b,g.inn j b→Eg (s.setRes j (.frozen (wrT e.u t) (wrX (K4 c xs ys) e.u))) (g.off j) b:=fun b hb=>by
    obtain ⟨⟨_,_,k3⟩,k4,k5⟩:=h.inn j b (by rw [hr]; rfl) hb
    refine ⟨k3,fun k hk hkb=>?_,fun k hk hkb=>?_⟩
    ·by_cases q2:k=j
     ·subst q2; simp [Gh.off] at hkb
     ·simp only [Gh.off,As _ _ q2] at hkb; exact k4 k hkb
    ·by_cases q2:k=j
     ·subst q2; rw [Ai] at hk; cases hk
     ·rw [Ak s _ q2] at hk; exact k5 k q2 hk hkb
   obtain ⟨cs,h1,h2,h3,_⟩:=Bfv h hr hj (fun b hb hlt=>(hS b hb hlt).1) hin
   refine ⟨?_,by simp [Gh.off]⟩
   have h1:Hr w (wrT e.u t) 0 e.o (wrT e.u t).sz (g.hdr j) (List.length (wrX (K4 c xs ys) e.u)) cs:=by
    rw [Bcu,Ayx]
    refine (E4 (Ba5 e.u t)).2 ((E4 (t:=.sl t) rfl).1 h1)
   refine Aoa (e:=e.o) h1 (Bj3 h2 e.u) (fun b hb=>⟨(h.lt j b (h3.trans hb)).2.2,fun k hk hkb=>?_,fun k hk hi=>(h.inn k b (Ej rfl hk) hi).2.1 j (h3.trans hb)⟩) (fun b hb=>(h.lt j b (h3.trans hb)).1)
   by_cases q2:k=j
   ·subst q2
    simp [Gh.off] at hkb
   ·simp only [Gh.off,As _ _ q2] at hkb
    exact q2 (h.inj k j b hkb (h3.trans hb))
  ·left
   exact ⟨Ak s _ q,by simp [Gh.off,As _ _ q],rfl,fun _ _=>rfl⟩
 ·by_cases q1:i=id
  ·simp [Gh.off,q1] at hi
  ·by_cases q2:j=id
   ·simp [Gh.off,q2] at hj
   ·simp only [Gh.off,As _ _ q1] at hi
    simp only [Gh.off,As _ _ q2] at hj
    exact h.inj i j b hi hj
 ·by_cases q1:i=id
  ·simp [Gh.off,q1] at hi
  ·simp only [Gh.off,As _ _ q1] at hi
   exact h.lt i b hi
theorem I7:∀ {ls:List Lf} {s:St} {g:Gh},Bp n B Iq s g a w→∃ g',Bp n B Iq (s.frz ls) g' a w∧Go B Iq s g w (s.frz ls) g' w∧
  (∀ l u,Cx s g w l u→Cx (s.frz ls) g' w l u)∧g'.hdr=g.hdr
 | [],s,g,h=>⟨g,h,Go.refl B Iq s g w,fun _ _ q=>q,rfl⟩
 | .c _::r,s,g,h=>I7 (ls:=r) h
 | .sl _ _::r,s,g,h=>I7 (ls:=r) h
 | .ptr _ _::r,s,g,h=>I7 (ls:=r) h
 | .ep _ _ _ _::r,s,g,h=>I7 (ls:=r) h
 | .rp _ _ _::r,s,g,h=>I7 (ls:=r) h
 | .sp _::r,s,g,h=>I7 (ls:=r) h
 | .row id::r,s,g,h=>by
  unfold St.frz
  cases hr:s.res id with
  | row e t xs=>
   obtain ⟨h1,h2,h3⟩:=Bky h hr
   obtain ⟨g',k1,k2,k3,k4⟩:=I7 (ls:=r) h3
   exact ⟨g',k1,Go.trans ⟨Kp.refl B Iq w,h1,h2,rfl⟩ k2,fun l u q=>k3 l u (Cx.step h1 h2 q),k4⟩
  | unborn=>exact I7 (ls:=r) h
  | dead=>exact I7 (ls:=r) h
  | box T ls=>exact I7 (ls:=r) h
  | frozen t xs=>exact I7 (ls:=r) h
  | last e t xs c j=>
   have fN:∃ g',Bp n B Iq ((s.frzN id e.u t xs c).frz r) g' a w∧Go B Iq s g w ((s.frzN id e.u t xs c).frz r) g' w∧(∀ l u,Cx s g w l u→Cx ((s.frzN id e.u t xs c).frz r) g' w l u)∧g'.hdr=g.hdr:=by
    cases c with
    | true=>exact I7 (ls:=r) h
    | false=>
     obtain ⟨f1,f2,f3⟩:=Bkz h (id:=id) (j:=j) (ys:=[]) hr (fun q=>by cases q)
     obtain ⟨g',k1,k2,k3,k4⟩:=I7 (ls:=r) f3
     exact ⟨g',k1,Go.trans ⟨Kp.refl B Iq w,f1,f2,rfl⟩ k2,fun l u q=>k3 l u (Cx.step f1 f2 q),k4⟩
   simp only
   cases hj:s.res j with
   | row e' t' ys=>
    simp only
    split
    ·rename_i ht
     subst ht
     obtain ⟨h1,h2,h3⟩:=Bky h hj
     have hne:id≠j:=fun q=>by rw [q,hj] at hr; cases hr
     obtain ⟨f1,f2,f3⟩:=Bkz h3 (id:=id) (j:=j) ((Ak s _ hne).trans hr) (fun _=>Ai s j _)
     obtain ⟨g',k1,k2,k3,k4⟩:=I7 (ls:=r) f3
     exact ⟨g',k1,Go.trans ⟨Kp.refl B Iq w,h1,h2,rfl⟩ (Go.trans ⟨Kp.refl B Iq w,f1,f2,rfl⟩ k2),fun l u q=>k3 l u (Cx.step f1 f2 (Cx.step h1 h2 q)),k4⟩
    ·exact I7 (ls:=r) h
   | unborn=>exact fN
   | dead=>exact fN
   | box T ls=>exact fN
   | frozen t xs=>exact fN
   | last _ _ _ _ _=>exact fN
   | mid _ _ _ _ _=>exact fN
   | map _ _=>exact fN
   | iter _ _ _ _=>exact fN
  | mid _ _ _ _ _=>exact I7 (ls:=r) h
  | map _ _=>exact I7 (ls:=r) h
  | iter _ _ _ _=>exact I7 (ls:=r) h
theorem I6.imp {s':St} {g':Gh} (k:∀ l u,Cx s g w l u→Cx s' g' w l u):∀ {ls:List Lf} {cs:List Value},I6 s g w ls cs→I6 s' g' w ls cs
 | [],[],_=>trivial
 | [],_::_,h=>h.elim
 | _::_,[],h=>h.elim
 | _::_,_::_,h=>⟨⟨k _ _ h.1.1,h.1.2⟩,I6.imp k h.2⟩
end
end
section
section
variable {P:Program} {n B:Nat} {Iq:List Nat} {s:St} {g:Gh} {a:Act} {w:World}
theorem Ax6 (w:World) (t tx ty e:TypeId) (i:TypeInfo) (z:Value) (ht:P.underlying t=some (.slice e)) (hi:P.info? e=some i) (hz:i.zero=some z) (hzs:z.cells.size=i.size)
  {v:Value} {k:Nat} {xs:List Value} (hown:w.ownsRow 0 e i.size v k xs) {x:Value} {m:Nat} {news:List Value} (hs:Src P i.size tx x m news w)
  (h63:k + m≤maxLen) (hbytes:(k + m) * i.bytes≤140737488355328):
  ∃ v' w',(Builtin.append_ #[t,tx] ty #[v,x]).run P w=.ok v' w'∧w'.ownsRow 0 e i.size v' (k + m) (xs++news)∧w.grownBy w' v.ownBlock∧(v'.ownBlock=v.ownBlock∨v'.ownBlock=some w.heap.size):=by
 have hlen:(xs++news).length=(k + m) * i.size:=by rw [Lw,hown.1,hs.newsLen,Nat.add_mul]
 have grown:∀ (base:Option Addr) (cap:Nat),cap < k + m→(Builtin.firstCells i.size k (.slice base k cap)).run P w.drew=.ok xs.toArray w.drew→∀ row:Option Nat,
   ∃ v' w',(Builtin.append_ #[t,tx] ty #[.slice base k cap,x]).run P w=.ok v' w'∧w'.ownsRow 0 e i.size v' (k + m) (xs++news)∧w.grownBy w' row∧v'.ownBlock=some w.heap.size:=by
  intro base cap hc hold row
  have hr:=run_append_grow_src (P:=P) w t tx ty e i z ht hi hz base k cap xs hold x m news hs hc (by simp only [maxLen] at h63; omega) (growslice_fits hc hbytes)
  have hge:=grownCap_ge w (k + m) cap e
  have hcm:=grownCap_le_maxLen w (k + m) cap e h63
  refine ⟨_,_,hr,⟨hlen,.inr ⟨w.heap.size,_,_,rfl,Nat.zero_le _,heap_alloc_new w.drew _,hge,hcm,?_,?_⟩⟩,⟨rfl,rfl,rfl,by simp,fun j hj _=>Below.heap_alloc w.drew _ j hj⟩,rfl⟩
  ·simp only [Array.size_append,List.size_toArray,size_zeroCells,hzs,hlen,← Nat.add_mul]
   congr 1
   omega
  ·simp only [Array.toList_append]
   rw [← hlen]
   exact List.take_left
 rcases hown.2 with ⟨rfl,rfl⟩ | ⟨b,cap,cur,rfl,_,hg,hnc,hcm,hcs,htake⟩
 ·have hx:xs=[]:=List.eq_nil_of_length_eq_zero (by simpa using hown.1)
  subst hx
  by_cases hm:m=0
  ·subst hm
   have hn:news=[]:=List.eq_nil_of_length_eq_zero (by simpa using hs.newsLen)
   subst hn
   refine ⟨.slice none 0 0,w,?_,World.ownsRow_nil w 0 e i.size,⟨rfl,rfl,rfl,Nat.le_refl _,fun _ _ _=>rfl⟩,Or.inl rfl⟩
   rcases hs.kind with ⟨e',hk⟩ | hk<;>simp [Builtin.append_,run_underlying ht,run_underlying hk,sizeOf,typeInfo,hi,hs.len,hs.cells]
  ·obtain ⟨v',w',h1,h2,h3,h4⟩:=grown none 0 (by omega) (run_firstCells_none w.drew i.size 0 0 0) (Value.ownBlock (.slice none 0 0))
   exact ⟨v',w',h1,h2,h3,.inr h4⟩
 ·by_cases hroom:k + m≤cap
  ·have hfit:k * i.size + news.length≤cur.size:=by rw [hs.newsLen,hcs,← Nat.add_mul]; exact Nat.mul_le_mul_right _ hroom
   have hst:=run_storeCells_at (P:=P) b (k * i.size) e news 0 cur w hg (by omega) hs.one
   simp only [Nat.add_zero] at hst
   have hr:(Builtin.append_ #[t,tx] ty #[.slice (some ⟨b,0,none⟩) k cap,x]).run P w=.ok (.slice (some ⟨b,0,none⟩) (k + m) cap) (w.setRow b (cur.toList.take (k * i.size)++news++cur.toList.drop (k * i.size + news.length)).toArray):=by
    rcases hs.kind with ⟨e',hk⟩ | hk<;>simp [Builtin.append_,run_underlying ht,run_underlying hk,sizeOf,typeInfo,hi,hs.len,hroom,hs.cells,Ayu,hst]
   refine ⟨_,_,hr,⟨hlen,.inr ⟨b,cap,_,rfl,Nat.zero_le _,setRow_heap w b cur _ e _ hg,hroom,hcm,?_,?_⟩⟩,⟨rfl,rfl,rfl,by simp,fun j _ hj=>setRow_other w b j _ (fun q=>hj (by simp [Value.ownBlock,q]))⟩,Or.inl rfl⟩
   ·simp only [List.size_toArray,Lw,List.length_take,List.length_drop,Array.length_toList]
    omega
   ·rw [htake,← hlen]
    exact List.take_left
  ·have holds:∀ j u,xs[j]? = some u→w.cell? ((⟨b,0,none⟩:Addr).add j)=some u:=hown.cells (g:=b) rfl
   obtain ⟨v',w',h1,h2,h3,h4⟩:=grown (some ⟨b,0,none⟩) cap (by omega) (run_firstCells_some w.drew i.size k ⟨b,0,none⟩ k cap xs hown.1 (by simpa using holds)) (Value.ownBlock (.slice (some ⟨b,0,none⟩) k cap))
   exact ⟨v',w',h1,h2,h3,.inr h4⟩
def Gh.mv (g:Gh) (o:Option Nat) (nid:Nat) (v':Value) (I:List Nat:=[]):Gh:=⟨K3 (match o with | some id=>K3 g.blk id none | none=>g.blk) nid v'.ownBlock,K3 g.hdr nid v',g.av,K3 g.innL nid I⟩
theorem Bp.growR (h:Bp n B Iq s g a w) {o:Option Nat} {nid:Nat} (hf:s.res nid=.unborn) {v v':Value} {w':World}
  (ho:∀ id,o=some id→(s.res id).live=true∧v=g.hdr id∧g.blk id=v.ownBlock) (ho':o=none→v.ownBlock=none)
  (hg:w.grownBy w' v.ownBlock) (hat:v'.ownBlock=v.ownBlock∨v'.ownBlock=some w.heap.size) (hsz':∀ b,v'.ownBlock=some b→b < w'.heap.size)
  {r:Jw} {I:List Nat} (hI0:r.nst=true→∀ b,b∈I→∃ id,o=some id∧(s.res id).nst=true∧g.inn id b) (hrr:(∀ b,Eg s g b→b < w.heap.size→Eg ((Ei s o).setRes nid r) (g.mv o nid v' I) b∧w'.heap[b]? = w.heap[b]?)→(∀ j,Az s g ((Ei s o).setRes nid r) (g.mv o nid v' I) j)→Lr ((Ei s o).setRes nid r) (g.mv o nid v' I) w' nid r):
  (∀ b,Eg s g b→b < w.heap.size→Eg ((Ei s o).setRes nid r) (g.mv o nid v' I) b∧w'.heap[b]? = w.heap[b]?)∧
  (∀ j,Az s g ((Ei s o).setRes nid r) (g.mv o nid v' I) j)∧
  Bp n B Iq ((Ei s o).setRes nid r) (g.mv o nid v' I) a w'∧Kp B Iq w w':=by
 have hne:∀ id,o=some id→id≠nid:=fun id q=>by
  rintro rfl
  have hr:=(ho id q).1
  rw [hf] at hr
  cases hr
 have hlive:∀ id,o=some id→(s.res id).live=true:=fun id q=>by
  exact (ho id q).1
 have hblk:∀ b,v.ownBlock=some b→∃ id,o=some id∧g.blk id=some b:=fun b hb=>by
  cases ho0:o with
  | none=>rw [ho' ho0] at hb; cases hb
  | some id=>exact ⟨id,rfl,by rw [(ho id ho0).2.2]; exact hb⟩
 have rr1:∀ j,j≠nid→(∀ id,o=some id→j≠id)→((Ei s o).setRes nid r).res j=s.res j:=fun j h1 h2=>by
  rw [Ak _ _ h1]
  cases ho0:o with
  | none=>rfl
  | some id=>exact Ak s _ (h2 id ho0)
 have rr2:∀ id,o=some id→((Ei s o).setRes nid r).res id=.dead:=fun id q=>by
  rw [Ak _ _ (hne id q),q]
  exact Ai s id _
 have b1:∀ j,j≠nid→(∀ id,o=some id→j≠id)→(g.mv o nid v' I).blk j=g.blk j:=fun j h1 h2=>by
  simp only [Gh.mv,As _ _ h1]
  cases ho0:o with
  | none=>rfl
  | some id=>exact As _ _ (h2 id ho0)
 have b2:∀ id,o=some id→(g.mv o nid v' I).blk id=none:=fun id q=>by
  simp only [Gh.mv,As _ _ (hne id q),q]
  simp
 have b3:(g.mv o nid v' I).blk nid=v'.ownBlock:=by simp [Gh.mv]
 have hin:∀ j b,(((Ei s o).setRes nid r).res j).nst=true→(g.mv o nid v' I).inn j b→∃ id,(s.res id).nst=true∧g.inn id b∧(j=nid∧o=some id∨j≠nid∧id=j):=fun j b h1 h2=>by
  by_cases q:j=nid
  ·subst q
   rw [Ai] at h1
   have h2:b∈K3 g.innL j I j:=h2
   rw [Al] at h2
   obtain ⟨id,k1,k2,k3⟩:=hI0 h1 b h2
   exact ⟨id,k2,k3,.inl ⟨rfl,k1⟩⟩
  ·have h2:b∈K3 g.innL nid I j:=h2
   rw [As _ _ q] at h2
   by_cases q2:∀ id,o=some id→j≠id
   ·rw [rr1 j q q2] at h1
    exact ⟨j,h1,h2,.inr ⟨q,rfl⟩⟩
   ·simp only [Classical.not_forall] at q2
    obtain ⟨id,k1,k2⟩:=q2
    have k2:j=id:=Classical.not_not.1 k2
    subst k2
    rw [rr2 j k1] at h1
    cases h1
 have hS:∀ b,Eg s g b→b < w.heap.size→Eg ((Ei s o).setRes nid r) (g.mv o nid v' I) b∧w'.heap[b]? = w.heap[b]? := by
  intro b hb hlt
  have hvb:v.ownBlock≠some b:=fun q=>by
   obtain ⟨id,h1,h2⟩:=hblk b q
   exact hb.2.1 id (hlive id h1) h2
  refine ⟨⟨hb.1,fun j hj hk=>?_,fun j hj hi=>by obtain ⟨id,k1,k2,_⟩:=hin j b hj hi; exact hb.2.2 id k1 k2⟩,hg.block b hlt (fun q=>hvb q.symm)⟩
  by_cases h1:j=nid
  ·rw [h1,b3] at hk
   rcases hat with q | q
   ·exact hvb (q.symm.trans hk)
   ·rw [q] at hk
    have:=Option.some.inj hk
    omega
  ·by_cases h2:∀ id,o=some id→j≠id
   ·rw [rr1 j h1 h2] at hj
    rw [b1 j h1 h2] at hk
    exact hb.2.1 j hj hk
   ·simp only [Classical.not_forall] at h2
    obtain ⟨id,q,h3⟩:=h2
    have h3:j=id:=Classical.not_not.1 h3
    rw [h3,b2 id q] at hk
    cases hk
 have hI:∀ j,Az s g ((Ei s o).setRes nid r) (g.mv o nid v' I) j:=by
  intro j
  by_cases h1:j=nid
  ·subst h1
   unfold Az
   rw [hf]
   exact .inr trivial
  ·by_cases h2:∀ id,o=some id→j≠id
   ·exact Az.same (rr1 j h1 h2) (b1 j h1 h2) (by simp [Gh.mv,As _ _ h1])
   ·simp only [Classical.not_forall] at h2
    obtain ⟨id,q,h3⟩:=h2
    have h3:j=id:=Classical.not_not.1 h3
    subst h3
    exact .inl (rr2 j q)
 refine ⟨hS,hI,h.step h.size h.defers hg.size hS hI (fun i=>.inl ⟨?_,rfl⟩) (fun j=>?_) (fun i j b hi hj=>?_) (fun i b hi=>?_) rfl ⟨fun j h1 h2=>?_,fun j b h1 h2=>?_⟩,⟨hg.os,hg.tape,hg.output,hg.size,fun k hk hn=>?_⟩⟩
 ·cases o<;>rfl
 ·by_cases h1:j=nid
  ·subst h1
   right
   rw [Ai]
   exact hrr hS hI
  ·by_cases h2:∀ id,o=some id→j≠id
   ·left
    refine ⟨rr1 j h1 h2,b1 j h1 h2,by simp [Gh.mv,As _ _ h1],fun b hb=>hg.block b (h.lt j b hb).1 (fun q=>?_)⟩
    obtain ⟨id,k1,k2⟩:=hblk b q.symm
    exact h2 id k1 (h.inj j id b hb k2)
   ·simp only [Classical.not_forall] at h2
    obtain ⟨id,q,h3⟩:=h2
    have h3:j=id:=Classical.not_not.1 h3
    subst h3
    right
    rw [rr2 j q]
    exact b2 j q
 ·have key:∀ i b,(g.mv o nid v' I).blk i=some b→(i=nid∧v'.ownBlock=some b)∨(i≠nid∧g.blk i=some b∧v'.ownBlock≠some b):=by
   intro i b hi
   by_cases h1:i=nid
   ·left
    rw [h1,b3] at hi
    exact ⟨h1,hi⟩
   ·right
    by_cases h2:∀ id,o=some id→i≠id
    ·rw [b1 i h1 h2] at hi
     refine ⟨h1,hi,fun q=>?_⟩
     rcases hat with q1 | q1
     ·rw [q1] at q
      obtain ⟨id,k1,k2⟩:=hblk b q
      exact h2 id k1 (h.inj i id b hi k2)
     ·rw [q1] at q
      have:=Option.some.inj q
      have:=(h.lt i b hi).1
      omega
    ·simp only [Classical.not_forall] at h2
     obtain ⟨id,q,h3⟩:=h2
     have h3:i=id:=Classical.not_not.1 h3
     rw [h3,b2 id q] at hi
     cases hi
  rcases key i b hi with ⟨h1,h2⟩ | ⟨h1,h2,h3⟩<;>rcases key j b hj with ⟨k1,k2⟩ | ⟨k1,k2,k3⟩
  ·rw [h1,k1]
  ·exact absurd h2 k3
  ·exact absurd k2 h3
  ·exact h.inj i j b h2 k2
 ·by_cases h1:i=nid
  ·rw [h1,b3] at hi
   refine ⟨hsz' b hi,?_⟩
   rcases hat with q | q
   ·rw [q] at hi
    obtain ⟨id,k1,k2⟩:=hblk b hi
    exact (h.lt id b k2).2
   ·rw [q] at hi
    have hsz:=Option.some.inj hi
    have:=h.base
    refine ⟨.inr (by omega),fun q5=>?_⟩
    have:=h.avB b q5
    omega
  ·by_cases h2:∀ id,o=some id→i≠id
   ·rw [b1 i h1 h2] at hi
    obtain ⟨q1,q2⟩:=h.lt i b hi
    exact ⟨Nat.lt_of_lt_of_le q1 hg.size,q2⟩
   ·simp only [Classical.not_forall] at h2
    obtain ⟨id,q,h3⟩:=h2
    have h3:i=id:=Classical.not_not.1 h3
    rw [h3,b2 id q] at hi
    cases hi
 ·have hj:j≠nid:=fun e=>by subst e; rw [hf] at h2; cases h2
  refine .inl ⟨by show (fun b=>b∈K3 g.innL nid I j)=_; rw [As _ _ hj],fun b hb=>?_⟩
  obtain ⟨⟨k1,_,_⟩,k4,_⟩:=h.inn j b h2 hb
  exact hg.block b k1 fun q=>by
   obtain ⟨id,_,r2⟩:=hblk b q.symm
   exact k4 id r2
 ·obtain ⟨id,k1,k2,k3⟩:=hin j b h1 h2
  obtain ⟨⟨q1,q2,q3⟩,q4,q5⟩:=h.inn id b k1 k2
  refine ⟨⟨Nat.lt_of_lt_of_le q1 hg.size,q2,q3⟩,fun i hi=>?_,fun i hne hn hi=>?_⟩
  ·by_cases r1:i=nid
   ·rw [r1,b3] at hi
    rcases hat with q | q
    ·rw [q] at hi
     obtain ⟨i',_,r3⟩:=hblk b hi
     exact q4 i' r3
    ·rw [q] at hi
     have:=Option.some.inj hi
     omega
   ·by_cases r2:∀ id,o=some id→i≠id
    ·rw [b1 i r1 r2] at hi
     exact q4 i hi
    ·simp only [Classical.not_forall] at r2
     obtain ⟨id',q,r3⟩:=r2
     have r3:i=id':=Classical.not_not.1 r3
     rw [r3,b2 id' q] at hi
     cases hi
  ·obtain ⟨id',m1,m2,m3⟩:=hin i b hn hi
   by_cases r1:id'=id
   ·subst r1
    rcases k3 with ⟨e1,e2⟩ | ⟨e1,e2⟩<;>rcases m3 with ⟨e3,e4⟩ | ⟨e3,e4⟩
    ·exact hne (e3.trans e1.symm)
    ·subst e4
     rw [rr2 id' e2] at hn
     cases hn
    ·subst e2
     rw [rr2 id' e4] at h1
     cases h1
    ·exact hne (e4.symm.trans e2)
   ·exact q5 id' r1 m1 m2
 ·refine hg.block k (Nat.lt_of_lt_of_le hk h.base) (fun q=>?_)
  obtain ⟨id,k1,k2⟩:=hblk k q.symm
  rcases (h.lt id k k2).2.1 with q2 | q2
  ·exact hn q2
  ·omega
theorem Bp.grow (h:Bp n B Iq s g a w) {o:Option Nat} {nid:Nat} (hf:s.res nid=.unborn) {v v':Value} {w':World}
  (ho:∀ id,o=some id→(∃ e t xs,s.res id=.row e t xs)∧v=g.hdr id∧g.blk id=v.ownBlock) (ho':o=none→v.ownBlock=none)
  (hg:w.grownBy w' v.ownBlock) (hat:v'.ownBlock=v.ownBlock∨v'.ownBlock=some w.heap.size) (hsz':∀ b,v'.ownBlock=some b→b < w'.heap.size)
  {e:TypeId} {t:Ty} {zs:List t.D} {cs:List Value} (hown:Hr w' t 0 e t.sz v' zs.length cs)
  (hrep:(∀ b,Eg s g b→b < w.heap.size→Eg ((Ei s o).setRes nid (.row e t zs)) (g.mv o nid v') b∧w'.heap[b]? = w.heap[b]?)→Ik w' (Eg ((Ei s o).setRes nid (.row e t zs)) (g.mv o nid v')) t zs cs):
  (∀ b,Eg s g b→b < w.heap.size→Eg ((Ei s o).setRes nid (.row e t zs)) (g.mv o nid v') b∧w'.heap[b]? = w.heap[b]?)∧
  (∀ j,Az s g ((Ei s o).setRes nid (.row e t zs)) (g.mv o nid v') j)∧
  Bp n B Iq ((Ei s o).setRes nid (.row e t zs)) (g.mv o nid v') a w'∧Kp B Iq w w':=by
 refine h.growR hf (fun id q=>?_) ho' hg hat hsz' (fun q=>by cases q) fun hS _=>⟨cs,?_,hrep hS,?_⟩
 ·obtain ⟨⟨e,t,xs,hr⟩,k2,k3⟩:=ho id q
  exact ⟨by rw [hr]; rfl,k2,k3⟩
 ·simpa [Gh.mv] using hown
 ·simp [Gh.mv]
end
end
section
section
variable {P:Program} {n B:Nat} {Iq:List Nat} {s:St} {g:Gh} {a:Act} {w:World}
theorem Ik.append {S:Nat→Prop} {t:Ty} {xs ys:List t.D} {cs ds:List Value} (h1:Ik w S t xs cs) (h2:Ik w S t ys ds):Ik w S t (xs++ys) (cs++ds):=by
 refine ⟨by rw [Lw,Lw,h1.1,h2.1,Nat.add_mul],fun i x hx=>?_⟩
 by_cases hi:i < xs.length
 ·rw [List.getElem?_append_left hi] at hx
  have:=h1.2 i x hx
  have hle:(i + 1) * t.sz≤cs.length:=by rw [h1.1]; exact Nat.mul_le_mul_right _ hi
  have hle2:i * t.sz + t.sz≤cs.length:=by rw [← Nat.succ_mul]; exact hle
  rw [List.drop_append_of_le_length (by omega),List.take_append_of_le_length (by simp; omega)]
  exact this
 ·rw [List.getElem?_append_right (by omega)] at hx
  have:=h2.2 (i - xs.length) x hx
  have e:i * t.sz=cs.length + (i - xs.length) * t.sz:=by rw [h1.1,← Nat.add_mul]; congr 1; omega
  rw [e,← List.drop_drop,List.drop_left]
  exact this
theorem Ik.one {S:Nat→Prop} {t:Ty} {xs:List t.D} {cs:List Value} (h:Ik w S t xs cs):∀ u∈cs,u.oneCell'=true:=by
 intro u hu
 obtain ⟨j,hj⟩:=List.getElem?_of_mem hu
 have hjl:=(List.getElem?_eq_some_iff.1 hj).1
 rw [h.1] at hjl
 have hsz:0 < t.sz:=by
  rcases Nat.eq_zero_or_pos t.sz with q | q
  ·rw [q] at hjl; omega
  ·exact q
 have hi:j / t.sz < xs.length:=(Nat.div_lt_iff_lt_mul hsz).2 hjl
 have hK:=h.2 (j / t.sz) _ (List.getElem?_eq_getElem hi)
 refine Ty.K_one hK u ?_
 refine List.mem_of_getElem? (i:=j % t.sz) ?_
 rw [List.getElem?_take,if_pos (Nat.mod_lt _ hsz),List.getElem?_drop]
 have e:j / t.sz * t.sz + j % t.sz=j:=by rw [Nat.mul_comm]; exact Nat.div_add_mod j t.sz
 rw [e]
 exact hj
theorem Bcv (h:Bp n B Iq s g a w) {el:El} {l:Lf} {u:Value} {o:Option Nat} {xs:List el.t.D} (e:Aaq s el l=some (o,xs)) (hl:Cx s g w l u):
  ∃ cs,Hr w el.t 0 el.e el.t.sz u xs.length cs∧Ik w (Eg s g) el.t xs cs∧(∀ id,o=some id→(∃ e t xs,s.res id=.row e t xs)∧u=g.hdr id∧g.blk id=u.ownBlock)∧(o=none→u.ownBlock=none):=by
 unfold Aaq at e
 split at e
 ·cases e
  cases hl
  exact ⟨[],Arv w el.t 0 el.e el.t.sz,⟨by simp,fun i x hx=>by simp at hx⟩,(fun id q=>by cases q),fun _=>rfl⟩
 ·rename_i id
  split at e
  ·rename_i e' t xs' hr
   split at e
   ·rename_i he
    split at e
    ·rename_i ht
     subst ht
     cases e
     have r:=h.res id
     rw [hr] at r
     obtain ⟨cs,h1,h2,h3⟩:=r
     simp only [Cx,hr] at hl
     refine ⟨cs,by rw [hl,← he]; exact h1,h2,(fun j q=>?_),(fun q=>by cases q)⟩
     cases q
     exact ⟨⟨_,_,_,hr⟩,hl,by rw [hl]; exact h3⟩
    ·cases e
   ·cases e
  ·cases e
 ·cases e
theorem Bjm {S:Nat→Prop} {T e':TypeId} (hT:P.underlying T=some (.slice e')) {t:Ty} {ys:List t.D} {u:Value} (hK:(Ty.sl t).K w S ys [u]):
  ∃ news,Src P t.sz T u ys.length news w∧Ik w S t ys news:=by
 obtain ⟨A,c,hu,hle,hx⟩:=hK
 cases hu
 have hcs:∀ i,i < ys.length→∃ cs',cs'.length=t.sz∧(∀ x,ys[i]? = some x→t.K w S x cs')∧∃ ad,A=some ad∧∀ j u,cs'[j]? = some u→w.cell? (ad.add (i * t.sz + j))=some u:=fun i hi=>by
  obtain ⟨ad,h1,_,_,cs',h2,h3,h4⟩:=hx i _ (List.getElem?_eq_getElem hi)
  refine ⟨cs',h2,fun x hx=>?_,ad,h1,h4⟩
  rw [List.getElem?_eq_getElem hi] at hx
  cases hx
  exact h3
 by_cases h0:ys.length=0
 ·have hy:ys=[]:=List.eq_nil_of_length_eq_zero h0
  subst hy
  refine ⟨[],?_,⟨by simp,fun i x hx=>by simp at hx⟩⟩
  cases A with
  | none=>exact Src.ofNil w hT c
  | some ad=>exact Src.ofSlice w hT ad 0 c [] (by simp) (fun j u hu=>by simp at hu) (fun u hu=>by cases hu)
 ·obtain ⟨_,_,_,ad,hA,_⟩:=hcs 0 (by omega)
  subst hA
  have build:∀ k,k≤ys.length→∃ news:List Value,news.length=k * t.sz∧(∀ i x,i < k→ys[i]? = some x→t.K w S x ((news.drop (i * t.sz)).take t.sz))∧∀ j u,news[j]? = some u→w.cell? (ad.add j)=some u:=by
   intro k
   induction k with
   | zero=>intro _; exact ⟨[],by simp,fun i x hi=>by omega,fun j u hu=>by simp at hu⟩
   | succ k ih=>
    intro hk
    obtain ⟨news,h1,h2,h3⟩:=ih (by omega)
    obtain ⟨cs',k1,k2,ad',k3,k4⟩:=hcs k (by omega)
    cases k3
    refine ⟨news++cs',by rw [Lw,h1,k1,Nat.succ_mul],fun i x hi hx=>?_,fun j u hu=>?_⟩
    ·by_cases hik:i < k
     ·have hle:(i + 1) * t.sz≤news.length:=by rw [h1]; exact Nat.mul_le_mul_right _ hik
      have hle2:i * t.sz + t.sz≤news.length:=by rw [← Nat.succ_mul]; exact hle
      rw [List.drop_append_of_le_length (by omega),List.take_append_of_le_length (by simp; omega)]
      exact h2 i x hik hx
     ·have:i=k:=by omega
      subst this
      rw [← h1,List.drop_left,← k1,List.take_length]
      exact k2 x hx
    ·by_cases hj:j < news.length
     ·rw [List.getElem?_append_left hj] at hu
      exact h3 j u hu
     ·rw [List.getElem?_append_right (by omega)] at hu
      have:=k4 _ u hu
      rw [h1] at this hj
      have e:k * t.sz + (j - k * t.sz)=j:=by omega
      rw [e] at this
      exact this
  obtain ⟨news,h1,h2,h3⟩:=build ys.length (Nat.le_refl _)
  have hrep:Ik w S t ys news:=⟨h1,fun i x hx=>h2 i x (List.getElem?_eq_some_iff.1 hx).1 hx⟩
  exact ⟨news,Src.ofSlice w hT ad ys.length c news h1 h3 hrep.one,hrep⟩
theorem Beg (h:Bp n B Iq s g a w) {T e':TypeId} (hT:P.underlying T=some (.slice e')) {t:Ty} {l:Lf} {u:Value} {ys:List t.D} (e:e9 s t l=some ys) (hl:Cx s g w l u):
  ∃ news,Src P t.sz T u (List.length ys) news w∧Ik w (Eg s g) t ys news:=by
 unfold e9 at e
 split at e
 ·cases e
  cases hl
  exact ⟨[],Src.ofNil w hT 0,by simp,fun i x hx=>by simp at hx⟩
 ·split at e<;>cases e
  rename_i t' xs ht
  subst ht
  exact Bjm hT hl
 ·rename_i id
  split at e
  ·rename_i e' t' xs hr
   split at e<;>cases e
   rename_i ht
   subst ht
   have r:=h.res id
   rw [hr] at r
   obtain ⟨cs,h1,h2,h3⟩:=r
   simp only [Cx,hr] at hl
   rw [hl]
   refine ⟨cs,?_,h2⟩
   rcases h1.2 with ⟨hv,hn⟩ | ⟨b,cap,cur,hv,_⟩
   ·have hx:xs=[]:=List.eq_nil_of_length_eq_zero hn
    subst hx
    have hc:cs=[]:=List.eq_nil_of_length_eq_zero (by simpa using h2.1)
    subst hc
    rw [hv]
    exact Src.ofNil w hT 0
   ·have hc:=h1.cells (g:=b) (by rw [hv]; rfl)
    rw [hv]
    exact Src.ofSlice w hT _ _ cap cs h2.1 hc h2.one
  ·rename_i t' xs hr
   split at e<;>cases e
   rename_i ht
   subst ht
   have r:=h.res id
   rw [hr] at r
   simp only [Cx,hr] at hl
   rw [hl]
   exact Bjm hT r.1
  ·cases e
 ·cases e
theorem f5 {T:TypeId} {el:El} (e:Af7 P T=some el):P.underlying T=some (.slice el.e)∧0 < el.t.sz∧el.z.length=el.t.sz∧0 < el.bytes∧
  (∃ i z,P.info? el.e=some i∧i.zero=some z∧i.size=el.t.sz∧i.bytes=el.bytes∧z.cells.size=el.t.sz)∧Ada P el.e=some el.z:=by
 unfold Af7 at e
 split at e
 ·rename_i e0 hU
  split at e
  ·rename_i t i z h1 h2 h3
   split at e
   ·rename_i q1
    split at e
    ·rename_i q2
     split at e
     ·rename_i q3
      split at e<;>cases e
      rename_i q4
      obtain ⟨zv,_,hL,i',hi',hz'⟩:=Nf h3 ⟨fun _=>.dead,fun _=>.unborn⟩ ⟨fun _=>none,fun _=>undef,fun _=>False,fun _=>[]⟩ (default:World)
      obtain rfl:i=i':=Option.some.inj (h2.symm.trans hi')
      have:=hL.length
      rw [Array.length_toList] at this
      exact ⟨hU,q2,q3,q4.1,⟨i,zv,h2,hz',q1,rfl,by rw [this,q3]⟩,h3⟩
     ·cases e
    ·cases e
   ·cases e
  ·cases e
 ·cases e
theorem Ax7 {T:TypeId} {el:El} (e:Af7 P T=some el):S5 el.t=false:=by
 unfold Af7 at e
 split at e
 ·split at e
  ·split at e
   ·split at e
    ·split at e
     ·split at e<;>cases e
      rename_i q4
      exact q4.2
     ·cases e
    ·cases e
   ·cases e
  ·cases e
 ·cases e
theorem Aja {t:Ty} {e:TypeId} {sz k:Nat} {v:Value} {cs:List Value} (h:Hr w t 0 e sz v k cs):∀ b,v.ownBlock=some b→b < w.heap.size:=by
 intro b hb
 rcases h.2 with ⟨rfl,_⟩ | ⟨b',cap,cur,rfl,_,hh,_⟩
 ·cases hb
 ·cases hb
  exact (Array.getElem?_eq_some_iff.1 hh).1
theorem W9 {t:Ty} {e:TypeId} {sz k:Nat} {v:Value} {cs:List Value} (h:Hr w t 0 e sz v k cs):v.oneCell'=true:=by
 rcases h.2 with ⟨rfl,_⟩ | ⟨b',cap,cur,rfl,_⟩<;>rfl
theorem A75 (h:Bp n B Iq s g a w) {nid:Nat} {T ty:TypeId} {x y:Operand} {l:Lf} {s':St} (e:An8 P s nid T x y=some (l,s')):
  ∃ u w' g',(Builtin.append_ #[T,T] ty #[a.eval x,a.eval y]).run P w=.ok u w'∧Go B Iq s g w s' g' w'∧Bp n B Iq s' g' a w'∧Cx s' g' w' l u∧u.oneCell'=true:=by
 unfold An8 at e
 split at e
 ·rename_i el lx ly hf hel hx hy
  obtain ⟨⟨o,xs⟩,e1,e⟩:=A6 e
  obtain ⟨ys,e2,e⟩:=A6 e
  rcases Decidable.em ((xs.length + List.length ys) * el.bytes≤140737488355328) with hb | hb
  rotate_left
  ·simp only [if_neg hb] at e
   cases e
  simp only [if_pos hb] at e
  cases e
  obtain ⟨hU,hsz,_,hby,⟨i,z,hi,hz,hi1,hi2,hzs⟩,_⟩:=f5 hel
  obtain ⟨hlx,_⟩:=C7 h hx
  obtain ⟨hly,_⟩:=C7 h hy
  obtain ⟨cs,k1,k2,k3,k4⟩:=Bcv h e1 hlx
  obtain ⟨news,k5,k6⟩:=Beg h hU e2 hly
  rw [← hi1] at k1 k5
  have hlen:xs.length + List.length ys≤140737488355328:=Nat.le_trans (Nat.le_mul_of_pos_right _ hby) hb
  obtain ⟨v',w',q1,q2,q3,q4⟩:=Ax6 w T T ty el.e i z hU hi hz (by rw [hzs,hi1]) ((E4 (Ax7 hel)).1 k1) k5 (by simp only [maxLen]; omega) (by rw [hi2]; exact hb)
  rw [hi1,← Lw] at q2
  have q2:=(E4 (Ax7 hel)).2 q2
  obtain ⟨m1,m2,m3,m4⟩:=h.grow hf (v:=a.eval x) (v':=v') k3 k4 q3 q4 (Aja q2) (e:=el.e) (t:=el.t) (zs:=xs++ys) q2 (fun hS=>(k2.keep hS).append (k6.keep hS))
  refine ⟨v',w',_,q1,⟨m4,m1,m2,rfl⟩,m3,?_,W9 q2⟩
  simp only [Cx,Ai]
  simp [Gh.mv]
 ·cases e
theorem Ik.bytes {S:Nat→Prop} (q:Aa):Ik w S (.int .u8) (Ad q) (byteCells q):=by
 have hl:(byteCells q).length=(Ad q).length:=by simp [byteCells,Ad]
 refine ⟨by rw [hl]; exact (Nat.mul_one _).symm,fun i x hx=>?_⟩
 show ((byteCells q).drop (i * 1)).take 1=[.int .u8 x]
 rw [Nat.mul_one]
 have hx':(Ad q)[i]? = some x:=hx
 have hi:(byteCells q)[i]? = some (.int .u8 x):=by
  unfold byteCells
  unfold Ad at hx'
  rw [List.getElem?_map] at hx' ⊢
  cases hq:q.data.toList[i]? with
  | none=>rw [hq] at hx'; cases hx'
  | some b=>
   rw [hq] at hx'
   cases hx'
   rfl
 have hlt:=(List.getElem?_eq_some_iff.1 hi)
 rw [List.drop_eq_getElem_cons hlt.1,hlt.2]
 rfl
theorem Ay3 (h:Bp n B Iq s g a w) {nid:Nat} {T U ty:TypeId} {x y:Operand} {l:Lf} {s':St} (e:f4 P s nid T U x y=some (l,s')):
  ∃ u w' g',(Builtin.append_ #[T,U] ty #[a.eval x,a.eval y]).run P w=.ok u w'∧Go B Iq s g w s' g' w'∧Bp n B Iq s' g' a w'∧Cx s' g' w' l u∧u.oneCell'=true:=by
 unfold f4 at e
 split at e
 ·rename_i el lx q hf hT hU hx hy
  split at e
  ·rename_i i z hi hz
   split at e
   ·rename_i i1
    split at e
    ·rename_i i2
     split at e
     ·obtain ⟨⟨o,xs⟩,e1,e⟩:=A6 e
      rcases Decidable.em (xs.length + q.size≤140737488355328) with hb | hb
      rotate_left
      ·simp only [if_neg hb] at e
       cases e
      simp only [if_pos hb] at e
      cases e
      obtain ⟨hlx,_⟩:=C7 h hx
      obtain ⟨cs,k1,k2,k3,k4⟩:=Bcv h e1 hlx
      obtain ⟨zv,_,hL,i',hi',hz'⟩:=Nf hz s g w
      obtain rfl:i=i':=Option.some.inj (hi.symm.trans hi')
      have hzs:=hL.length
      rw [Array.length_toList] at hzs
      have hsrc:Src P 1 U (.string q) q.size (byteCells q) w:=Src.ofString w hU q
      have hs1:(Ty.int IntKind.u8).sz=i.size:=i1.symm
      simp only at k1 k2
      rw [hs1] at k1
      rw [← i1] at hsrc
      obtain ⟨v',w',q1,q2,q3,q4⟩:=Ax6 w T U ty el i zv hT hi hz' (by rw [hzs,i1]; rfl) k1 hsrc (by simp only [maxLen]; omega) (by rw [i2,Nat.mul_one]; exact hb)
      have hlen:List.length xs + q.size=((show List Int from xs)++Ad q).length:=by
       rw [Lw]
       congr 1
       simp [Ad]
      have hlen2:xs.length + q.size=List.length (α:=(Ty.int IntKind.u8).D) ((show List Int from xs)++Ad q):=hlen
      rw [hlen2,← hs1] at q2
      have q2:=(E4 (t:=.int .u8) rfl).2 q2
      obtain ⟨m1,m2,m3,m4⟩:=h.grow hf (v:=a.eval x) (v':=v') k3 k4 q3 q4 (Aja q2) (e:=el) (t:=.int .u8) (zs:=((show List Int from xs)++Ad q)) q2 (fun hS=>(k2.keep hS).append (Ik.bytes q))
      refine ⟨v',w',_,?_,⟨m4,m1,m2,rfl⟩,m3,?_,W9 q2⟩
      ·rw [(Dv h hy).1]; exact q1
      ·simp only [Cx,Ai]
       simp [Gh.mv]
     ·cases e
    ·cases e
   ·cases e
  ·cases e
 ·cases e
end
end
section
section
variable {P:Program} {n B:Nat} {Iq:List Nat} {s:St} {g:Gh} {a:Act} {w:World}
theorem Bp.newRow (h:Bp n B Iq s g a w) {nid:Nat} (hf:s.res nid=.unborn) {e:TypeId} {t:Ty} (hmk:S5 t=false) {xs:List t.D} {arr:Array Value} (hlen:xs.length≤maxLen) (hsz:arr.size=xs.length * t.sz) (hrep:Ik w (Eg s g) t xs arr.toList):
  Bp n B Iq (s.setRes nid (.row e t xs)) (g.new nid w.heap.size (.slice (some ⟨w.heap.size,0,none⟩) xs.length xs.length)) a (w.alloc (.cells arr e))∧
  (∀ b,Eg s g b→b < w.heap.size→Eg (s.setRes nid (.row e t xs)) (g.new nid w.heap.size (.slice (some ⟨w.heap.size,0,none⟩) xs.length xs.length)) b∧(w.alloc (.cells arr e)).heap[b]? = w.heap[b]?)∧
  Cx (s.setRes nid (.row e t xs)) (g.new nid w.heap.size (.slice (some ⟨w.heap.size,0,none⟩) xs.length xs.length)) (w.alloc (.cells arr e)) (.row nid) (.slice (some ⟨w.heap.size,0,none⟩) xs.length xs.length):=by
 have hS:=Ai9 h hf (.row e t xs) (.slice (some ⟨w.heap.size,0,none⟩) xs.length xs.length) (.cells arr e)
 refine ⟨h.alloc hf _ _ _ ⟨arr.toList,?_,hrep.keep hS,?_⟩,hS,?_⟩
 ·simp only [Gh.new,Al]
  exact (E4 hmk).2 (World.ownsRow_lit w arr xs.length (Nat.zero_le _) hlen hsz)
 ·simp only [Gh.new,Al,Value.ownBlock]
 ·simp only [Cx,Ai,Gh.new,Al]
theorem I6.ofGet:∀ {ls:List Lf} {cs:List Value},ls.length=cs.length→(∀ (j:Nat) (l:Lf) (v:Value),ls[j]? = some l→cs[j]? = some v→Cx s g w l v∧v.oneCell'=true)→I6 s g w ls cs
 | [],[],_,_=>trivial
 | [],_::_,h,_=>by simp at h
 | _::_,[],h,_=>by simp at h
 | l::ls,v::cs,h,k=>⟨k 0 l v rfl rfl,I6.ofGet (by simpa using h) (fun j l' v' h1 h2=>k (j + 1) l' v' (by simpa using h1) (by simpa using h2))⟩
theorem Xa (z:List Lf) (k:Nat):(d8 z k).length=k * z.length:=by
 induction k with
 | zero=>simp [d8]
 | succ k ih=>simp [d8,ih,Nat.succ_mul]; omega
theorem Beh (z:List Lf) (hz:0 < z.length):∀ (k j:Nat),j < k * z.length→(d8 z k)[j]? = z[j % z.length]? := by
 intro k
 induction k with
 | zero=>intro j hj; omega
 | succ k ih=>
  intro j hj
  simp only [d8]
  by_cases h:j < z.length
  ·rw [List.getElem?_append_left h,Nat.mod_eq_of_lt h]
  ·rw [List.getElem?_append_right (by omega),ih (j - z.length) (by rw [Nat.succ_mul] at hj; omega)]
   congr 1
   exact (Nat.mod_eq_sub_mod (by omega)).symm
theorem Bfw {z:List Lf} {cs:Array Value} (hL:I6 s g w z cs.toList) (hz:0 < z.length) (k:Nat):I6 s g w (d8 z k) (madeCells cs (k * z.length)).toList:=by
 have hl:=hL.length
 rw [Array.length_toList] at hl
 refine I6.ofGet (by rw [Xa]; simp [size_madeCells]) (fun j l v h1 h2=>?_)
 have hj:j < k * z.length:=by
  have:=(List.getElem?_eq_some_iff.1 h1).1
  rwa [Xa] at this
 rw [Beh z hz k j hj] at h1
 obtain ⟨u,k1,k2⟩:=hL.get h1
 have:v=u:=by
  have hm:j % z.length < cs.size:=by rw [hl]; exact Nat.mod_lt _ hz
  rw [Array.getElem?_toList] at h2 k1
  unfold madeCells at h2
  rw [Array.getElem?_map] at h2
  have hr:(Array.range (k * z.length))[j]? = some j:=by simp [hj]
  rw [hr] at h2
  simp only [Option.map_some,Option.some.injEq] at h2
  rw [hl,getElem!_pos cs _ hm] at h2
  rw [Array.getElem?_eq_getElem hm] at k1
  rw [← h2]
  exact Option.some.inj k1
 rw [this]
 exact k2
theorem Ay4 (hr:∀ id,Lr s g w id (s.res id)) {t:Ty}:∀ {k:Nat} {ls:List Lf} {xs:List t.D} {cs:List Value},An7 s t k ls=some xs→I6 s g w ls cs→xs.length=k∧Ik w (Eg s g) t xs cs
 | 0,[],xs,cs,e,hL=>by
  cases e
  cases cs with
  | nil=>exact ⟨rfl,by simp,fun i x hx=>by simp at hx⟩
  | cons _ _=>exact hL.elim
 | 0,_::_,xs,cs,e,hL=>by cases e
 | k + 1,ls,xs,cs,e,hL=>by
  simp only [An7] at e
  obtain ⟨p,h1,e⟩:=A6 e
  obtain ⟨r,h2,e⟩:=A6 e
  cases e
  obtain ⟨k1,k2⟩:=St.parse_K hr (x:=p.1) (r:=p.2) h1 hL
  have hL2:I6 s g w p.2 (cs.drop t.sz):=by rw [k1]; exact hL.drop _
  obtain ⟨m1,m2,m3⟩:=Ay4 hr h2 hL2
  have hlen:=Ty.K_len k2
  rw [List.length_take] at hlen
  refine ⟨by simp [m1],?_,fun i x hx=>?_⟩
  ·rw [List.length_drop] at m2
   simp only [List.length_cons,Nat.succ_mul]
   omega
  ·cases i with
   | zero=>
    simp at hx
    subst hx
    simpa using k2
   | succ i=>
    have:=m3 i x (by simpa using hx)
    rw [List.drop_drop] at this
    rw [Nat.succ_mul,Nat.add_comm]
    exact this
theorem I6.all {vs:List (Nat×Vl)}:True:=trivial
theorem Avy (h:Bp n B Iq s g a w) {nid:Nat} {T:TypeId} {len:Nat} {parts:Array (Nat×Operand)} {l:Lf} {s':St} (e:Adb P s nid T len parts=some (l,s')):
  ∃ u w' g',(Instr.buildSlice T len (parts.map fun (i,x)=>(i,a.eval x))).run P w=.ok u w'∧Go B Iq s g w s' g' w'∧Bp n B Iq s' g' a w'∧Cx s' g' w' l u∧u.oneCell'=true:=by
 unfold Adb at e
 split at e
 ·rename_i el vs hf hel hvs
  split at e
  ·rename_i hsmall
   obtain ⟨ls,e1,e⟩:=A6 e
   split at e
   ·rename_i hf2
    obtain ⟨xs,e2,e⟩:=A6 e
    cases e
    obtain ⟨hU,hsz,hzl,hby,⟨i,z,hi,hz,hi1,hi2,hzs⟩,hzL⟩:=f5 hel
    have hV:=Alx h hvs
    obtain ⟨zv,_,hL0,i',hi',hz'⟩:=Nf hzL s g w
    obtain rfl:i=i':=Option.some.inj (hi.symm.trans hi')
    obtain rfl:z=zv:=Option.some.inj (hz.symm.trans hz')
    have hL1:=Bfw hL0 (by omega) len
    rw [hzl] at hL1
    obtain ⟨cs',f1,f2⟩:=Ay2 e1 hV hL1
    obtain ⟨g1,hR1,go1,tr,_⟩:=I7 (ls:=A74 vs) h
    have hL2:=I6.imp tr f2
    obtain ⟨p1,p2⟩:=Ay4 hR1.res e2 hL2
    have hmap:(parts.map fun (i,x)=>(i,a.eval x)).toList=parts.toList.map fun p=>(p.1,a.eval p.2):=by rw [Array.toList_map]
    have hcs:cs'.size=xs.length * el.t.sz:=by
     have:=p2.1
     rwa [Array.length_toList] at this
    obtain ⟨q1,q2,q3⟩:=hR1.newRow hf2 (Ax7 hel) (e:=el.e) (arr:=cs') (by simp only [maxLen]; rw [p1]; have:len≤len * el.t.sz:=Nat.le_mul_of_pos_right _ hsz; omega) hcs p2
    have hrun:(Instr.buildSlice T len (parts.map fun (i,x)=>(i,a.eval x))).run P w=.ok (.slice (some ⟨w.heap.size,0,none⟩) len len) (w.alloc (.cells cs' el.e)):=by
     by_cases h0:len * i.size=0
     ·have hl0:len=0:=by
       rcases Nat.mul_eq_zero.1 h0 with q | q
       ·exact q
       ·omega
      have hm0:madeCells z.cells (len * el.t.sz)=#[]:=by rw [hl0]; simp [madeCells]
      rw [hm0] at f1
      rw [hi1] at h0
      simp [Instr.buildSlice,run_underlying hU,sizeOf,typeInfo,hi,hi1,hl0,hmap,newRow,Array.range_zero']
      rw [f1]
      rfl
     ·refine run_buildSlice w T el.e len _ cs' i z hU hi hz (by rw [hi1]; omega) h0 ?_
      rw [hmap,hi1]
      exact f1
    rw [← p1] at hrun ⊢
    exact ⟨_,_,_,hrun,go1.trans (Go.alloc hR1 hf2 _ _ _),q1,q3,rfl⟩
   ·cases e
  ·cases e
 ·cases e
theorem Ik.replicate {S:Nat→Prop} {t:Ty} {x0:t.D} {cs:List Value} (hK:t.K w S x0 cs) (k:Nat) {ds:List Value} (hl:ds.length=k * t.sz) (hd:∀ j,j < k * t.sz→ds[j]? = cs[j % t.sz]?):Ik w S t (List.replicate k x0) ds:=by
 refine ⟨by simpa using hl,fun i x hx=>?_⟩
 have hi:i < k:=by have:=(List.getElem?_eq_some_iff.1 hx).1; simpa using this
 have hx0:x=x0:=by
  rw [List.getElem?_replicate,if_pos hi] at hx
  exact (Option.some.inj hx).symm
 subst hx0
 have hcl:=Ty.K_len hK
 have hle:i * t.sz + t.sz≤k * t.sz:=by rw [← Nat.succ_mul]; exact Nat.mul_le_mul_right _ hi
 have:(ds.drop (i * t.sz)).take t.sz=cs:=by
  apply List.ext_getElem?
  intro j
  by_cases hj:j < t.sz
  ·rw [List.getElem?_take,if_pos hj,List.getElem?_drop,hd _ (by omega)]
   congr 1
   rw [Nat.mul_comm,Nat.mul_add_mod,Nat.mod_eq_of_lt hj]
  ·rw [List.getElem?_take,if_neg hj,List.getElem?_eq_none (by omega)]
 rw [this]
 exact hK
theorem Ay5 (h:Bp n B Iq s g a w) {nid:Nat} {T:TypeId} {x y:Operand} {l:Lf} {s':St} (e:d9 P s nid T x y=some (l,s')):
  ∃ u w' g',(Instr.makeSlice T (a.eval x) (a.eval y)).run P w=.ok u w'∧Go B Iq s g w s' g' w'∧Bp n B Iq s' g' a w'∧Cx s' g' w' l u∧u.oneCell'=true:=by
 unfold d9 at e
 split at e
 ·rename_i el kx k ky c hf hel hx hy
  split at e
  ·rename_i hkc
   subst hkc
   split at e
   ·rename_i h0
    split at e
    ·rename_i hb
     split at e
     ·rename_i x0 hp
      cases e
      obtain ⟨hU,hsz,hzl,hby,⟨i,z,hi,hz,hi1,hi2,hzs⟩,hzL⟩:=f5 hel
      obtain ⟨zv,_,hL0,i',hi',hz'⟩:=Nf hzL s g w
      obtain rfl:i=i':=Option.some.inj (hi.symm.trans hi')
      obtain rfl:z=zv:=Option.some.inj (hz.symm.trans hz')
      obtain ⟨_,hK⟩:=St.parse_K h.res hp hL0
      have hzl2:z.cells.toList.length=el.t.sz:=by rw [Array.length_toList]; exact hzs
      rw [List.take_of_length_le (by omega)] at hK
      obtain ⟨m,rfl⟩:=Int.eq_ofNat_of_zero_le h0
      rw [Eo] at hb ⊢
      have hm:m≤140737488355328:=Nat.le_trans (Nat.le_mul_of_pos_right _ hby) hb
      have hrun:=run_make (P:=P) w T el.e i z hU hi hz kx ky m m (by omega) (Int.le_refl _) (by rw [hi2,Int.mul_comm]; omega) (by omega)
      simp only [Eo] at hrun
      rw [hi1] at hrun
      have hrep:Ik w (Eg s g) el.t (List.replicate m x0) (madeCells z.cells (m * el.t.sz)).toList:=by
       refine Ik.replicate hK m (by rw [Array.length_toList,size_madeCells]) (fun j hj=>?_)
       have hmod:j % el.t.sz < z.cells.size:=by rw [hzs]; exact Nat.mod_lt _ hsz
       unfold madeCells
       rw [Array.getElem?_toList,Array.getElem?_map]
       have hr:(Array.range (m * el.t.sz))[j]? = some j:=by simp [hj]
       rw [hr]
       simp only [Option.map_some]
       rw [hzs,getElem!_pos z.cells _ hmod,Array.getElem?_toList,Array.getElem?_eq_getElem hmod]
      obtain ⟨q1,q2,q3⟩:=h.newRow hf (Ax7 hel) (e:=el.e) (xs:=List.replicate m x0) (arr:=madeCells z.cells (m * el.t.sz)) (by simp only [maxLen,List.length_replicate]; omega) (by rw [size_madeCells,List.length_replicate]) hrep
      simp only [List.length_replicate] at q1 q3
      refine ⟨_,_,_,?_,by have:=Go.alloc h hf (.row el.e el.t (List.replicate m x0)) (.slice (some ⟨w.heap.size,0,none⟩) m m) (.cells (madeCells z.cells (m * el.t.sz)) el.e); exact this,q1,q3,rfl⟩
      rw [(Dv h hx).1,(Dv h hy).1]
      exact hrun
     ·cases e
    ·cases e
   ·cases e
  ·cases e
 ·cases e
theorem Bj4 {S:Nat→Prop} {t:Ty} {xs:List t.D} {A:Option Addr} {len cap lo hi:Nat} (hK:(Ty.sl t).K w S xs [.slice A len cap]) (h1:lo≤hi) (h2:hi≤List.length xs):
  (Ty.sl t).K w S (List.drop lo (List.take hi xs)) [.slice (if cap=lo then A else A.map (·.add (lo * t.sz))) (hi - lo) (cap - lo)]:=by
 obtain ⟨A',c',hu,hle,hx⟩:=hK
 cases hu
 have hl:List.length (List.drop lo (List.take hi xs))=hi - lo:=by rw [List.length_drop,List.length_take]; omega
 refine ⟨_,cap - lo,by rw [hl],by rw [hl]; omega,fun i x hix=>?_⟩
 have hix':(List.drop lo (List.take hi xs))[i]? = some x:=hix
 rw [List.getElem?_drop,List.getElem?_take] at hix'
 split at hix'
 ·rename_i hi2
  obtain ⟨ad,hA,hs,hlt,cs',k1,k2,k3⟩:=hx (lo + i) x hix'
  subst hA
  rw [if_neg (by omega)]
  refine ⟨_,rfl,by rw [Aap]; exact hs,by rw [Aap]; exact hlt,cs',k1,k2,fun j u hu=>?_⟩
  have:=k3 j u hu
  rw [Ax1]
  have e:lo * t.sz + (i * t.sz + j)=(lo + i) * t.sz + j:=by rw [Nat.add_mul]; omega
  rw [e]
  exact this
 ·cases hix'
theorem Bbc (h:Bp n B Iq s g a w) {T:TypeId} {x:Operand} {lo hi:Option Operand} {l:Lf} {s':St} (e:Ax5 P s T x lo hi=some (l,s')):
  ∃ u g',(Instr.sliceAt T (a.eval x) (lo.map a.eval) (hi.map a.eval) none).run P w=.ok u w∧Go B Iq s g w s' g' w∧Bp n B Iq s' g' a w∧Cx s' g' w l u∧u.oneCell'=true:=by
 unfold Ax5 at e
 split at e
 ·rename_i el hU
  split at e
  ·rename_i i l0 hi0 hx
   split at e
   ·rename_i t xs hsl
    split at e
    ·rename_i hsz
     split at e
     ·rename_i ka p kb q hlo hhi
      split at e
      ·rename_i h0
       split at e
       ·rename_i h1
        split at e
        ·rename_i h2
         cases e
         obtain ⟨g1,hR1,go1,tr,_⟩:=I7 (ls:=[l0]) h
         obtain ⟨hl,_⟩:=C7 h hx
         obtain ⟨A,c,hu,hK⟩:=Bfr hR1 hsl (tr _ _ hl)
         obtain ⟨p',rfl⟩:=Int.eq_ofNat_of_zero_le h0
         obtain ⟨q',rfl⟩:=Int.eq_ofNat_of_zero_le (Int.le_trans h0 h1)
         rw [Eo,Eo]
         have hel:P.elem T=el:=by simp [Program.elem,hU]
         have hcle:List.length xs≤c:=by
          obtain ⟨_,_,e1,e2,_⟩:=hK
          rw [hu] at e1
          cases e1
          exact e2
         rw [hu] at hK
         have hpart:=Bj4 hK (lo:=p') (hi:=q') (by omega) (by omega)
         refine ⟨.slice (if c=p' then A else A.map (·.add (p' * t.sz))) (q' - p') (c - p'),g1,?_,go1,hR1,hpart,rfl⟩
         have blo:∀ w,(match lo.map a.eval with | some v=>Instr.sliceBound v q' .sliceB | none=>pure 0:Sem Nat).run P w=.ok p' w:=by
          intro w
          cases lo with
          | none=>
           simp only at hlo
           cases hlo
           rfl
          | some y=>
           simp only at hlo
           simp only [Option.map_some,(Dv h hlo).1]
           simp [Instr.sliceBound,asIntOf,h0,show p'≤q' by omega]
         have bhi:∀ w,(match hi.map a.eval with | some v=>Instr.sliceBound v c .sliceAcap | none=>pure (List.length xs):Sem Nat).run P w=.ok q' w:=by
          intro w
          cases hi with
          | none=>
           simp only [Option.some.injEq,Value.int.injEq] at hhi
           have:List.length xs=q':=by omega
           rw [← this]
           rfl
          | some y=>
           simp only at hhi
           simp only [Option.map_some,(Dv h hhi).1]
           simp [Instr.sliceBound,asIntOf,show q'≤c by omega]
         rw [hu]
         cases hi with
         | none=>
          have b2:=bhi
          simp only [Option.map_none] at b2
          have hq:List.length xs=q':=by
           have:=b2 w
           simp at this
           exact this
          cases lo with
          | none=>
           have b1:=blo w
           simp at b1
           subst b1
           simp [Instr.sliceAt,Instr.slice,run_underlying hU,Instr.sliceBounds,sizeOf,typeInfo,hi0,hsz,hq]
          | some y=>
           have b1:=blo
           simp only [Option.map_some] at b1 ⊢
           simp [Instr.sliceAt,Instr.slice,run_underlying hU,Instr.sliceBounds,sizeOf,typeInfo,hi0,hsz,hq,b1]
         | some y2=>
          have b2:=bhi
          simp only [Option.map_some] at b2 ⊢
          cases lo with
          | none=>
           have b1:=blo w
           simp at b1
           subst b1
           simp [Instr.sliceAt,Instr.slice,run_underlying hU,Instr.sliceBounds,sizeOf,typeInfo,hi0,hsz,b2]
          | some y=>
           have b1:=blo
           simp only [Option.map_some] at b1 ⊢
           simp [Instr.sliceAt,Instr.slice,run_underlying hU,Instr.sliceBounds,sizeOf,typeInfo,hi0,hsz,b2,b1]
        ·cases e
       ·cases e
      ·cases e
     ·cases e
    ·cases e
   ·cases e
  ·cases e
 ·cases e
end
end
section
section
variable {P:Program} {n B:Nat} {Iq:List Nat} {s:St} {g:Gh} {a:Act} {w:World}
theorem Aob {t:Ty} (ht:t.sz=1) {T e':TypeId} (hT:P.underlying T=some (.slice e')) (h:Bp n B Iq s g a w) {l:Lf} {u:Value} {ys:List t.D} (e:e9 s t l=some ys) (hl:Cx s g w l u):
  ∃ A c,u=.slice A (List.length ys) c∧((A=none∧ys=[])∨∃ ad,A=some ad∧∀ (j:Nat) (y:t.D),nth ys j=some y→∃ v,t.K w (Eg s g) y [v]∧w.cell? (ad.add j)=some v):=by
 have viaK:(Ty.sl t).K w (Eg s g) ys [u]→∃ A c,u=.slice A (List.length ys) c∧((A=none∧ys=[])∨∃ ad,A=some ad∧∀ (j:Nat) (y:t.D),nth ys j=some y→∃ v,t.K w (Eg s g) y [v]∧w.cell? (ad.add j)=some v):=by
  rintro ⟨A,c,hu,hle,hx⟩
  cases hu
  refine ⟨A,c,rfl,?_⟩
  cases A with
  | none=>
   left
   refine ⟨rfl,?_⟩
   cases hy:ys with
   | nil=>rfl
   | cons y r=>
    obtain ⟨ad,q,_⟩:=hx 0 y (by rw [hy]; rfl)
    cases q
  | some ad=>
   right
   refine ⟨ad,rfl,fun j y hj=>?_⟩
   obtain ⟨ad',q,_,_,cs',k1,k2,k3⟩:=hx j y hj
   cases q
   rw [ht] at k1
   match cs',k1 with
   | [v],_=>exact ⟨v,k2,by have:=k3 0 v rfl; rw [ht] at this; simpa using this⟩
 unfold e9 at e
 split at e
 ·cases e
  cases hl
  exact ⟨none,0,rfl,.inl ⟨rfl,rfl⟩⟩
 ·split at e<;>cases e
  rename_i t' xs hq
  subst hq
  exact viaK hl
 ·rename_i id
  split at e
  ·rename_i e' t' xs hr
   split at e<;>cases e
   rename_i hq
   subst hq
   have r:=h.res id
   rw [hr] at r
   obtain ⟨cs,h1,h2,h3⟩:=r
   simp only [Cx,hr] at hl
   have hS:(Ty.sl t').K w (fun _=>True) xs [u]:=by
    rw [hl]
    refine Aoa h1 ⟨h2.1,fun i x hx=>Ty.K_keep (fun b hb _=>⟨trivial,rfl⟩) (h2.2 i x hx)⟩ (fun _ _=>trivial) (Aja h1)
   obtain ⟨A,c,hu,hle,hx⟩:=hS
   cases hu
   refine ⟨A,c,rfl,?_⟩
   cases A with
   | none=>
    left
    refine ⟨rfl,?_⟩
    cases hy:xs with
    | nil=>rfl
    | cons y r=>
     obtain ⟨ad,q,_⟩:=hx 0 y (by rw [hy]; rfl)
     cases q
   | some ad=>
    right
    refine ⟨ad,rfl,fun j y hj=>?_⟩
    obtain ⟨ad',q,_,_,cs',k1,k2,k3⟩:=hx j y hj
    cases q
    have hK:=h2.2 j y hj
    rw [ht] at k1
    match cs',k1 with
    | [v],_=>
     have hc:=k3 0 v rfl
     rw [ht] at hc
     rcases h1.2 with ⟨hv,hn⟩ | ⟨b,cap,cur,hv,_⟩
     ·rw [← hl] at hv; cases hv
     ·rw [← hl] at hv
      cases hv
      have hlt:j < xs.length:=(List.getElem?_eq_some_iff.1 hj).1
      have hcl:=h2.1
      rw [ht,Nat.mul_one] at hcl
      have hcj:cs[j]? = some cs[j]:=List.getElem?_eq_getElem (by omega)
      have hcell:=h1.cells (g:=b) (by rw [← hl]; rfl) j _ hcj
      rw [ht,Nat.mul_one,List.drop_eq_getElem_cons (by omega:j < cs.length)] at hK
      simp only [Nat.mul_one,Nat.add_zero] at hc
      rw [hcell] at hc
      refine ⟨v,?_,hcell.trans hc⟩
      have hvv:cs[j]=v:=Option.some.inj hc
      simpa [hvv] using hK
  ·rename_i t' xs hr
   split at e<;>cases e
   rename_i hq
   subst hq
   have r:=h.res id
   rw [hr] at r
   simp only [Cx,hr] at hl
   rw [hl]
   rw [hl] at viaK
   exact viaK r.1
  ·cases e
 ·cases e
theorem Auk:∀ (ns:List Int) (q:Aa),(ns.foldl (fun r k=>r.push (UInt8.ofNat k.toNat)) q).data.toList=q.data.toList++ns.map fun k=>UInt8.ofNat k.toNat
 | [],q=>by simp
 | k::ns,q=>by
  simp only [List.foldl_cons]
  rw [Auk ns]
  simp [ByteArray.push]
theorem Ay6 (ns:List Int):ns.foldl (fun r k=>r.push (UInt8.ofNat k.toNat)) ByteArray.empty=strOfNums ns:=by
 refine WideShapes.bytes_inj ?_
 rw [Auk]
 rfl
theorem A4i {src dst el:TypeId} (hU:P.underlying src=some (.slice el)) (hE:P.underlying el=some (.int .u8)) (hD:P.underlying dst=some .string) (c:Nat):
  (convert src dst (.slice none 0 c)).run P w=.ok (.string (strOfNums [])) w:=by
 simp [convert,run_underlying hU,run_underlying hD,run_underlying hE,Conv.bytesToString,strOfNums,ByteArray.empty,ByteArray.emptyWithCapacity]
 rfl
theorem A4j {src dst el:TypeId} (hU:P.underlying src=some (.slice el)) (hE:P.underlying el=some (.int .u8)) (hD:P.underlying dst=some .string) {ad:Addr} {c:Nat} (xs:List Int) (hc:∀ (j:Nat) (y:Int),xs[j]? = some y→w.cell? (ad.add j)=some (.int .u8 y)):
  (convert src dst (.slice (some ad) xs.length c)).run P w=.ok (.string (strOfNums xs)) w:=by
 have hld:=run_loadCells_list (P:=P) (w:=w) ad (xs.map (Value.int .u8)) (fun j v hv=>by
  rw [List.getElem?_map] at hv
  cases hq:xs[j]? with
  | none=>rw [hq] at hv; cases hv
  | some y=>
   rw [hq] at hv
   cases hv
   exact hc j y hq)
 rw [List.length_map] at hld
 have hb:=run_bytesToString (P:=P) w ad xs.length c xs hld
 rw [Ay6] at hb
 simp only [convert,Sem.run_bind,run_underlying hU,run_underlying hD,run_underlying hE,Result.andThen_ok]
 exact hb
theorem Bfx (xs:List (Int×Unit)):xs.length=(Ba7 xs).length:=by simp [Ba7]
theorem Bfy {xs:List (Int×Unit)} {j:Nat} {y:Int} (h:(Ba7 xs)[j]? = some y):∃ y0,xs[j]? = some y0∧y0.1=y:=by
 unfold Ba7 at h
 rw [List.getElem?_map] at h
 cases hq:xs[j]? with
 | none=>rw [hq] at h; cases h
 | some y0=>rw [hq] at h; cases h; exact ⟨y0,rfl,rfl⟩
theorem A22 (h:Bp n B Iq s g a w) {src dst:TypeId} {x:Operand} {v:Value} (e:Alw P s src dst x=some v):(convert src dst (a.eval x)).run P w=.ok v w∧v.oneCell'=true:=by
 unfold Alw at e
 split at e
 ·rename_i el hU hD
  split at e
  ·rename_i xs hE hx
   cases e
   obtain ⟨l,e1,e2⟩:=A6 hx
   obtain ⟨hl,_⟩:=C7 h e1
   obtain ⟨A,c,hu,hc⟩:=Aob (t:=.int .u8) rfl hU h e2 hl
   refine ⟨?_,rfl⟩
   rw [hu]
   rcases hc with ⟨rfl,rfl⟩ | ⟨ad,rfl,hc⟩
   ·exact A4i hU hE hD c
   ·refine A4j hU hE hD (show List Int from xs) (fun j y hj=>?_)
    obtain ⟨v',k1,k2⟩:=hc j y hj
    have:[v']=[Value.int .u8 y]:=k1
    cases this
    exact k2
  ·rename_i hE _
   split at e
   ·rename_i xs hx
    cases e
    obtain ⟨l,e1,e2⟩:=A6 hx
    obtain ⟨hl,_⟩:=C7 h e1
    obtain ⟨A,c,hu,hc⟩:=Aob (t:=tMk) rfl hU h e2 hl
    refine ⟨?_,rfl⟩
    rw [hu]
    rcases hc with ⟨rfl,rfl⟩ | ⟨ad,rfl,hc⟩
    ·exact A4i hU hE hD c
    ·have hlen:List.length xs=(Ba7 xs).length:=Bfx xs
     rw [hlen]
     refine A4j hU hE hD (Ba7 xs) (fun j y hj=>?_)
     obtain ⟨y0,hq,rfl⟩:=Bfy hj
     obtain ⟨v',k1,k2⟩:=hc j y0 hq
     obtain ⟨c1,c2,k3,k4,k5⟩:=k1
     have k4:c1=[Value.int .u8 y0.1]:=k4
     have k5:c2=[]:=k5
     subst k4 k5
     cases k3
     exact k2
   ·cases e
  ·cases e
 ·cases e
theorem Xt {α:Type} (cs us:List α) (p k:Nat) (h:p + us.length≤cs.length):(cs.take p++us++cs.drop (p + us.length))[k]? = if k < p then cs[k]? else if k < p + us.length then us[k - p]? else cs[k]? := by
 have hp:(cs.take p).length=p:=by rw [List.length_take]; omega
 by_cases k1:k < p
 ·rw [if_pos k1,List.append_assoc,List.getElem?_append_left (by omega),List.getElem?_take,if_pos k1]
 ·rw [if_neg k1]
  by_cases k2:k < p + us.length
  ·rw [if_pos k2,List.append_assoc,List.getElem?_append_right (by omega),List.getElem?_append_left (by omega),hp]
  ·have hpu:(cs.take p++us).length=p + us.length:=by rw [Lw,hp]
   rw [if_neg k2,List.getElem?_append_right (by omega),List.getElem?_drop,hpu]
   congr 1
   omega
theorem z6 {α:Type} (cs us:List α) (p:Nat) (h:p + us.length≤cs.length):(cs.take p++us++cs.drop (p + us.length)).length=cs.length:=by
 rw [Lw,Lw,List.length_take,List.length_drop]
 omega
theorem A76 {α:Type} (cur us:List α) (p m:Nat) (h:p + us.length≤m) (hm:m≤cur.length):(cur.take p++us++cur.drop (p + us.length)).take m=(cur.take m).take p++us++(cur.take m).drop (p + us.length):=by
 apply List.ext_getElem?
 intro k
 rw [List.getElem?_take,Xt cur us p k (by omega),Xt (cur.take m) us p k (by rw [List.length_take]; omega),List.getElem?_take]
 by_cases k1:k < m
 ·rw [if_pos k1,if_pos k1]
 ·rw [if_neg k1,if_neg k1,if_neg (by omega),if_neg (by omega)]
theorem Bbd {α:Type} (cs us:List α) (q off m:Nat) (h:off + us.length≤m) (hm:q + m≤cs.length):((cs.take (q + off)++us++cs.drop (q + off + us.length)).drop q).take m=(((cs.drop q).take m).take off++us++((cs.drop q).take m).drop (off + us.length)).take m:=by
 have hl:((cs.drop q).take m).length=m:=by rw [List.length_take,List.length_drop]; omega
 apply List.ext_getElem?
 intro k
 rw [List.getElem?_take,List.getElem?_take]
 by_cases k1:k < m
 ·rw [if_pos k1,if_pos k1,List.getElem?_drop,Xt cs us (q + off) (q + k) (by omega),Xt _ us off k (by omega),List.getElem?_take,if_pos k1,List.getElem?_drop]
  by_cases k2:k < off
  ·rw [if_pos (by omega),if_pos k2]
  ·rw [if_neg (by omega),if_neg k2]
   by_cases k3:k < off + us.length
   ·rw [if_pos (by omega),if_pos k3]
    congr 1
    omega
   ·rw [if_neg (by omega),if_neg k3]
 ·rw [if_neg k1,if_neg k1]
theorem A53 {α:Type} (cs us:List α) (p q m:Nat) (h:p + us.length≤cs.length) (ha:q + m≤p∨p + us.length≤q):((cs.take p++us++cs.drop (p + us.length)).drop q).take m=(cs.drop q).take m:=by
 apply List.ext_getElem?
 intro k
 rw [List.getElem?_take,List.getElem?_take]
 by_cases k1:k < m
 ·rw [if_pos k1,if_pos k1,List.getElem?_drop,List.getElem?_drop,Xt cs us p (q + k) h]
  rcases ha with ha | ha
  ·rw [if_pos (by omega)]
  ·rw [if_neg (by omega),if_neg (by omega)]
 ·rw [if_neg k1,if_neg k1]
theorem Bj5 {t:Ty} {n k:Nat} (h:n=k):(Ba4 t k).1 < (Ba4 t k).2→n≤(Ba4 t k).1:=by
 subst h
 unfold Ba4
 cases S5 t with
 | true=>exact fun _=>Nat.le_refl _
 | false=>exact fun q=>absurd q (Nat.lt_irrefl 0)
theorem Xu (g o:Nat) (t:TypeId) (fz:Nat×Nat):∀ (vs:List Value) (i:Nat) (cur:Array Value) (w:World),w.heap[g]? = some (.cells cur t fz)→(fz.1 < fz.2→cur.size≤fz.1)→o + i + vs.length≤cur.size→(∀ v∈vs,v.oneCell'=true)→
  (storeCells ⟨g,o,none⟩ vs i).run P w=.ok () (w.setRow g (cur.toList.take (o + i)++vs++cur.toList.drop (o + i + vs.length)).toArray)
 | [],i,cur,w,hg,_,_,_=>by
  simp only [storeCells,List.append_nil,List.length_nil,Nat.add_zero,List.take_append_drop,Array.toArray_toList]
  rw [setRow_self w g cur t fz hg]
  rfl
 | v::rest,i,cur,w,hg,hfz,hl,h1=>by
  have hi:o + i < cur.size:=by simp at hl; omega
  have hadd:(⟨g,o,none⟩:Addr).add i=⟨g,o + i,none⟩:=by unfold Addr.add; split<;>simp_all
  have hcell:w.cell? ⟨g,o + i,none⟩=some cur[o + i]:=by simp [World.cell?,hg,hi]
  have hfro:w.frozen? ⟨g,o + i,none⟩=false:=by
   obtain ⟨lo,hi'⟩:=fz
   simp only [World.frozen?,hg,Bool.and_eq_false_iff,decide_eq_false_iff_not]
   simp only at hfz
   omega
  have hst:(store ((⟨g,o,none⟩:Addr).add i) v).run P w=.ok () (w.setRow g (cur.setIfInBounds (o + i) v)):=by
   rw [hadd,run_store P w _ v _ (h1 v (by simp)),hcell]
   simp [hfro,setCell_eq_setRow w g (o + i) cur t fz v hg]
  have ih:=Xu g o t fz rest (i + 1) (cur.setIfInBounds (o + i) v) (w.setRow g (cur.setIfInBounds (o + i) v)) (setRow_heap w g cur _ t _ hg) (by simpa using hfz) (by simp at hl ⊢; omega) (fun x hx=>h1 x (by simp [hx]))
  simp only [storeCells,Sem.run_bind,hst,Result.andThen_ok,ih,setRow_setRow]
  congr 3
  have e:=list_seg_step cur.toList (o + i) v rest (by simp at hl ⊢; omega)
  simpa [Array.toList_setIfInBounds,Nat.add_assoc] using e
theorem Xb {T:TypeId} {i:TypeInfo} (hi:P.info? T=some i) {b off:Nat} {t:TypeId} {cur:Array Value} {fz:Nat×Nat} (hg:w.heap[b]? = some (.cells cur t fz)) (hfz:fz.1 < fz.2→cur.size≤fz.1) {v:Value} (hsz:v.cells.toList.length=i.size) (hle:off + v.cells.toList.length≤cur.size) (h1:∀ u∈v.cells.toList,u.oneCell'=true):
  (Instr.storeAt T (.pointer (some ⟨b,off,none⟩)) v).run P w=.ok () (w.setRow b (cur.toList.take off++v.cells.toList++cur.toList.drop (off + v.cells.toList.length)).toArray):=by
 have hst:=Xu (P:=P) b off t fz v.cells.toList 0 cur w hg hfz (by omega) h1
 simp only [Nat.add_zero] at hst
 have hsz':v.cells.size=i.size:=by simpa using hsz
 simp [Instr.storeAt,Instr.sureAddr,storeVar,sizeOf,typeInfo,hi,hsz',hst]
theorem Bbe (h:Bp n B Iq s g a w) {T:TypeId} {x y:Operand} {s':St} (e:Ax4 P s T x y=some s'):
  ∃ w' g',(Instr.storeAt T (a.eval x) (a.eval y)).run P w=.ok () w'∧Go B Iq s g w s' g' w'∧Bp n B Iq s' g' a w':=by
 unfold Ax4 at e
 obtain ⟨l,e1,e⟩:=A6 e
 obtain ⟨v,e2,e⟩:=A6 e
 obtain ⟨hl,_⟩:=C7 h e1
 have hv:=W7 h e2
 have hV:=hv.cells
 have hVl:=hV.length
 split at e
 ·cases e
 ·rename_i i hi
  split at e
  ·rename_i hsz
   split at e
   ·rename_i id off _
    split at e
    ·rename_i T0 ls hr
     split at e
     ·rename_i hle
      cases e
      have r:=h.res id
      rw [hr] at r
      obtain ⟨b,cs,hb,hh,hL⟩:=r
      simp only [Cx,hr] at hl
      obtain ⟨b',hb',hu⟩:=hl
      obtain rfl:b=b':=Option.some.inj (hb.symm.trans hb')
      have hLl:=hL.length
      rw [Array.length_toList] at hLl
      have hrun:=Xb (P:=P) (T:=T) hi hh (fun q=>absurd q (Nat.lt_irrefl 0)) (v:=a.eval y) (off:=off) (by rw [hVl,hsz]) (by omega) hV.one
      rw [← hu] at hrun
      have hne:∀ k,k≠b→(w.setRow b (cs.toList.take off++(a.eval y).cells.toList++cs.toList.drop (off + (a.eval y).cells.toList.length)).toArray).heap[k]? = w.heap[k]? := fun k hk=>setRow_other w b k _ hk
      have hlive:(s.res id).live=true:=by rw [hr]; rfl
      have hS:∀ c,Eg s g c→c < w.heap.size→Eg (s.setRes id (.box T0 (ls.take off++v.ls++ls.drop (off + v.ls.length)))) g c∧(w.setRow b (cs.toList.take off++(a.eval y).cells.toList++cs.toList.drop (off + (a.eval y).cells.toList.length)).toArray).heap[c]? = w.heap[c]? := by
       intro c hc _
       refine ⟨⟨hc.1,fun j hj=>?_,fun j hj=>hc.2.2 j (Ej rfl hj)⟩,hne c (fun q=>hc.2.1 id hlive (by rw [q]; exact hb))⟩
       by_cases q:j=id
       ·rw [q]; exact hc.2.1 id hlive
       ·rw [Ak s _ q] at hj; exact hc.2.1 j hj
      have hI:∀ j,Az s g (s.setRes id (.box T0 (ls.take off++v.ls++ls.drop (off + v.ls.length)))) g j:=by
       intro j
       by_cases q:j=id
       ·subst q
        unfold Az
        rw [hr,Ai]
        exact .inr ⟨_,_,rfl,rfl⟩
       ·exact Az.same (Ak s _ q) rfl rfl
      refine ⟨_,g,hrun,⟨⟨rfl,rfl,rfl,by simp,fun k hk hn=>hne k (fun q=>?_)⟩,hS,hI,rfl⟩,h.step h.size h.defers (by simp) hS hI (fun i=>.inl ⟨rfl,rfl⟩) (fun j=>?_) h.inj (fun j c hj=>?_) rfl (NK.of h (by simp) (fun j c h1 h2=>⟨Ej rfl h1,h2⟩) (fun _ _=>rfl) (fun c _ hc=>hne c (fun q=>hc id (by rw [q]; exact hb))) fun j c hj=>.inl ⟨j,hj⟩)⟩
      ·subst q
       rcases (h.lt id k hb).2.1 with q2 | q2
       ·exact hn q2
       ·omega
      ·by_cases q:j=id
       ·subst q
        right
        rw [Ai]
        refine ⟨b,_,hb,setRow_heap w b cs _ T0 _ hh,?_⟩
        simp only
        exact (hL.splice (off:=off) hV).step hS hI
       ·left
        exact ⟨Ak s _ q,rfl,rfl,fun c hc=>hne c (fun q2=>q (h.inj j id c hc (by rw [q2]; exact hb)))⟩
      ·have:=h.lt j c hj
       simpa using this
     ·cases e
    ·cases e
   ·rename_i id ix off _
    split at e
    ·rename_i e0 t xs hr
     split at e
     ·rename_i hix
      simp only at e
      split at e
      ·rename_i hle
       split at e
       ·rename_i x' hp
        cases e
        obtain ⟨g1,hR,go1,tr,_⟩:=I7 (ls:=v.ls) h
        have r:=hR.res id
        rw [hr] at r
        obtain ⟨cs,⟨hcl,hown⟩,hrep,hblk⟩:=r
        have hl1:=tr _ _ hl
        simp only [Cx,hr] at hl1
        obtain ⟨_,b,hb,hu⟩:=hl1
        have hV1:=I6.imp tr hV
        have hx:nth xs ix=some (xs.getD ix t.zero):=by simp [nth,List.getElem?_eq_getElem hix]
        have hK:=hrep.2 ix _ hx
        have hLk:=Ty.K_leafs hK
        have hLkl:=hLk.length
        have hseg:((cs.drop (ix * t.sz)).take t.sz).length=t.sz:=Ty.K_len hK
        have hfit:ix * t.sz + t.sz≤xs.length * t.sz:=by rw [← Nat.succ_mul]; exact Nat.mul_le_mul_right _ hix
        obtain ⟨_,hK'⟩:=St.parse_K hR.res hp (hLk.splice (off:=off) hV1)
        rcases hown with ⟨hv0,hn0⟩ | ⟨b',cap,cur,hv0,_,hh,hcap,hcm,hcsz,hct⟩
        ·omega
        ·have hbb:b=b':=by
          rw [hblk,hv0] at hb
          exact (Option.some.inj hb).symm
         subst hbb
         have hcap2:xs.length * t.sz≤cap * t.sz:=Nat.mul_le_mul_right _ hcap
         have hoff:off + v.ls.length≤t.sz:=by omega
         have hrun:=Xb (P:=P) (T:=T) hi hh (Bj5 hcsz) (v:=a.eval y) (off:=ix * t.sz + off) (by rw [hVl,hsz]) (by omega) hV.one
         rw [← hu] at hrun
         have hsp:(cur.toList.take (ix * t.sz + off)++(a.eval y).cells.toList++cur.toList.drop (ix * t.sz + off + (a.eval y).cells.toList.length)).take (xs.length * t.sz)=cs.take (ix * t.sz + off)++(a.eval y).cells.toList++cs.drop (ix * t.sz + off + (a.eval y).cells.toList.length):=by
          rw [← hct]
          exact A76 cur.toList _ (ix * t.sz + off) (xs.length * t.sz) (by omega) (by rw [show cur.toList.length=cur.size from Array.length_toList ..]; omega)
         have hne:∀ k,k≠b→(w.setRow b (cur.toList.take (ix * t.sz + off)++(a.eval y).cells.toList++cur.toList.drop (ix * t.sz + off + (a.eval y).cells.toList.length)).toArray).heap[k]? = w.heap[k]? := fun k hk=>setRow_other w b k _ hk
         have hlive:((s.frz v.ls).res id).live=true:=by rw [hr]; rfl
         have hS:∀ c,Eg (s.frz v.ls) g1 c→c < w.heap.size→Eg ((s.frz v.ls).setRes id (.row e0 t (List.set xs ix x'))) g1 c∧(w.setRow b (cur.toList.take (ix * t.sz + off)++(a.eval y).cells.toList++cur.toList.drop (ix * t.sz + off + (a.eval y).cells.toList.length)).toArray).heap[c]? = w.heap[c]? := by
          intro c hc _
          refine ⟨⟨hc.1,fun j hj=>?_,fun j hj=>hc.2.2 j (Ej rfl hj)⟩,hne c (fun q=>hc.2.1 id hlive (by rw [q]; exact hb))⟩
          by_cases q:j=id
          ·rw [q]; exact hc.2.1 id hlive
          ·rw [Ak _ _ q] at hj; exact hc.2.1 j hj
         have hI:∀ j,Az (s.frz v.ls) g1 ((s.frz v.ls).setRes id (.row e0 t (List.set xs ix x'))) g1 j:=by
          intro j
          by_cases q:j=id
          ·subst q
           unfold Az
           rw [hr,Ai]
           exact .inr (.inl ⟨e0,_,rfl,by simp,rfl,rfl⟩)
          ·exact Az.same (Ak _ _ q) rfl rfl
         refine ⟨_,g1,hrun,go1.trans ⟨⟨rfl,rfl,rfl,by simp,fun k hk hn=>hne k (fun q=>?_)⟩,hS,hI,rfl⟩,hR.step hR.size hR.defers (by simp) hS hI (fun i=>.inl ⟨rfl,rfl⟩) (fun j=>?_) hR.inj (fun j c hj=>?_) rfl (NK.of hR (by simp) (fun j c h1 h2=>⟨Ej rfl h1,h2⟩) (fun _ _=>rfl) (fun c _ hc=>hne c (fun q=>hc id (by rw [q]; exact hb))) fun j c hj=>.inl ⟨j,hj⟩)⟩
         ·subst q
          rcases (hR.lt id k hb).2.1 with q2 | q2
          ·exact hn q2
          ·omega
         ·by_cases q:j=id
          ·subst q
           right
           rw [Ai]
           have hset:(List.set xs ix x').length=xs.length:=List.length_set ..
           refine ⟨cs.take (ix * t.sz + off)++(a.eval y).cells.toList++cs.drop (ix * t.sz + off + (a.eval y).cells.toList.length),⟨?_,.inr ⟨b,cap,_,?_,Nat.zero_le _,setRow_heap w b cur _ e0 _ hh,by rw [hset]; exact hcap,hcm,?_,?_⟩⟩,⟨?_,?_⟩,hblk⟩
           ·rw [hset,z6 _ _ _ (by omega)]; exact hcl
           ·rw [hset]; exact hv0
           ·rw [List.size_toArray,z6 _ _ _ (by rw [show cur.toList.length=cur.size from Array.length_toList ..]; omega)]
            exact (show cur.toList.length=cur.size from Array.length_toList ..).trans hcsz
           ·rw [hset]; exact hsp
           ·rw [hset,z6 _ _ _ (by omega)]; exact hcl
           ·intro i2 x2 hx2
            refine Ty.K_keep hS ?_
            by_cases q:ix=i2
            ·subst q
             rw [List.getElem?_set_self hix] at hx2
             cases hx2
             have:=Bbd cs (a.eval y).cells.toList (ix * t.sz) off t.sz (by omega) (by omega)
             rw [this]
             exact hK'
            ·rw [List.getElem?_set_ne q] at hx2
             have hk2:=hrep.2 i2 x2 hx2
             have hi2:i2 < xs.length:=(List.getElem?_eq_some_iff.1 hx2).1
             have hfit2:i2 * t.sz + t.sz≤xs.length * t.sz:=by rw [← Nat.succ_mul]; exact Nat.mul_le_mul_right _ hi2
             have hapart:i2 * t.sz + t.sz≤ix * t.sz∨ix * t.sz + t.sz≤i2 * t.sz:=by
              rcases Nat.lt_or_gt_of_ne q with q | q
              ·right; rw [← Nat.succ_mul]; exact Nat.mul_le_mul_right _ q
              ·left; rw [← Nat.succ_mul]; exact Nat.mul_le_mul_right _ q
             have:=A53 cs (a.eval y).cells.toList (ix * t.sz + off) (i2 * t.sz) t.sz (by omega) (by omega)
             rw [this]
             exact hk2
          ·left
           exact ⟨Ak _ _ q,rfl,rfl,fun c hc=>hne c (fun q2=>q (hR.inj j id c hc (by rw [q2]; exact hb)))⟩
         ·have:=hR.lt j c hj
          simpa using this
       ·cases e
      ·cases e
     ·cases e
    ·cases e
   ·cases e
  ·cases e
end
end
inductive Md where
 | rd (t:Ty)
 | own (e:TypeId) (t:Ty)
 | bx (T:TypeId) (t:Ty)
 | mu (e:TypeId) (t:Ty)
 | nst (e:NE) (t:Ty)
def Md.D:Md→Type
 | .rd t=>t.D
 | .own _ t=>List t.D
 | .bx _ t=>t.D
 | .mu _ t=>List t.D
 | .nst _ t=>List (List t.D)
def Xo:List Md→Type
 | []=>Unit
 | m::ms=>m.D×Xo ms
def BxD:List Md→Type
 | []=>Unit
 | .rd _::ms=>BxD ms
 | .own _ _::ms=>BxD ms
 | .bx _ t::ms=>t.D×BxD ms
 | .mu _ t::ms=>List t.D×BxD ms
 | .nst _ t::ms=>List (List t.D)×BxD ms
def Bh9 (w:World) (S:Nat→Prop) (e:TypeId) (t:Ty) (xs:List t.D) (u:Value):Prop:=∃ cs,Hr w t 0 e t.sz u xs.length cs∧Ik w S t xs cs
def Bk0 (w:World) (S:Nat→Prop) (T:TypeId) (t:Ty) (x:t.D) (b:Nat):Prop:=∃ cs,w.heap[b]? = some (.cells cs T (0,0))∧t.K w S x cs.toList
def Xv (w:World):Value→List Nat
 | .slice (some a) n _=>match w.heap[a.block]? with
  | some (.cells cur _ _)=>(cur.toList.take n).filterMap Value.ownBlock
  | _=>[]
 | _=>[]
theorem Af8 {w:World} {t:Ty} {e:TypeId} {n:Nat} {u:Value} {cs:List Value} (h:Hr w (.sl t) 0 e 1 u n cs):Xv w u=cs.filterMap Value.ownBlock:=by
 obtain ⟨hl,h⟩:=h
 rcases h with ⟨rfl,hn⟩ | ⟨g,cap,cur,rfl,_,hh,_,_,_,hcs⟩
 ·have:cs=[]:=List.eq_nil_of_length_eq_zero (by omega)
  rw [this]
  rfl
 ·unfold Xv
  simp only [hh]
  rw [Nat.mul_one] at hcs
  rw [hcs]
def Bk1 (w:World) (S:Nat→Prop) (e:NE) (t:Ty) (xs:List (List t.D)) (u:Value):Prop:=
 ∃ cs,Hr w (.sl t) 0 e.o 1 u xs.length cs∧∀ (i:Nat) (x:List t.D) (v:Value),xs[i]? = some x→cs[i]? = some v→∃ ds,Hr w t 0 e.i t.sz v (List.length x) ds∧Ik w S t x ds
theorem z7 {α β:Type} {f:α→Option β}:∀ {cs:List α},(cs.filterMap f).Nodup→∀ {i i':Nat} {u u':α} {b:β},cs[i]? = some u→cs[i']? = some u'→f u=some b→f u'=some b→i=i'
 | [],_,i,_,_,_,_,h,_,_,_=>by simp at h
 | c::cs,hn,i,i',u,u',b,h1,h2,h3,h4=>by
  have key:∀ {j:Nat} {v:α},cs[j]? = some v→f v=some b→b∈cs.filterMap f:=fun q1 q2=>List.mem_filterMap.2 ⟨_,List.mem_of_getElem? q1,q2⟩
  cases i with
  | zero=>
   cases i' with
   | zero=>rfl
   | succ i'=>
    simp at h1 h2
    subst h1
    rw [List.filterMap_cons_some h3] at hn
    exact absurd (key h2 h4) (List.nodup_cons.1 hn).1
  | succ i=>
   cases i' with
   | zero=>
    simp at h1 h2
    subst h2
    rw [List.filterMap_cons_some h4] at hn
    exact absurd (key h1 h3) (List.nodup_cons.1 hn).1
   | succ i'=>
    simp at h1 h2
    have hn':(cs.filterMap f).Nodup:=by
     cases hc:f c with
     | none=>rwa [List.filterMap_cons_none hc] at hn
     | some b'=>rw [List.filterMap_cons_some hc] at hn; exact (List.nodup_cons.1 hn).2
    rw [z7 hn' h1 h2 h3 h4]
def HR (w:World) (S:Nat→Prop):(ms:List Md)→Xo ms→List Value→Prop
 | [],_,us=>us=[]
 | .rd t::ms,x,us=>∃ c1 c2,us=c1++c2∧t.K w S x.1 c1∧HR w S ms x.2 c2
 | .own e t::ms,x,us=>∃ u c2,us=u::c2∧Bh9 w S e t x.1 u∧HR w S ms x.2 c2
 | .bx T t::ms,x,us=>∃ b c2,us=.pointer (some ⟨b,0,none⟩)::c2∧Bk0 w S T t x.1 b∧HR w S ms x.2 c2
 | .mu e t::ms,x,us=>∃ u c2,us=u::c2∧Bh9 w S e t x.1 u∧HR w S ms x.2 c2
 | .nst e t::ms,x,us=>∃ u c2,us=u::c2∧Bk1 w S e t x.1 u∧HR w S ms x.2 c2
def Xw:Value→Option Nat
 | .pointer (some a)=>some a.block
 | _=>none
def C8 (w:World):List Md→List Value→List Nat
 | [],_=>[]
 | .rd t::ms,us=>C8 w ms (us.drop t.sz)
 | .own _ _::ms,us=>((us.head?).bind Value.ownBlock).toList++C8 w ms us.tail
 | .bx _ _::ms,us=>((us.head?).bind Xw).toList++C8 w ms us.tail
 | .mu _ _::ms,us=>((us.head?).bind Value.ownBlock).toList++C8 w ms us.tail
 | .nst _ _::ms,us=>(((us.head?).bind Value.ownBlock).toList++Xv w (us.headD undef))++C8 w ms us.tail
def d5 (w:World):List Md→List Value→List Nat
 | [],_=>[]
 | .rd t::ms,us=>d5 w ms (us.drop t.sz)
 | .own _ _::ms,us=>d5 w ms us.tail
 | .bx _ _::ms,us=>((us.head?).bind Xw).toList++d5 w ms us.tail
 | .mu _ _::ms,us=>((us.head?).bind Value.ownBlock).toList++d5 w ms us.tail
 | .nst _ _::ms,us=>(((us.head?).bind Value.ownBlock).toList++Xv w (us.headD undef))++d5 w ms us.tail
def BkR (w:World) (S:Nat→Prop):(ms:List Md)→BxD ms→List Value→Prop
 | [],_,_=>True
 | .rd t::ms,y,us=>BkR w S ms y (us.drop t.sz)
 | .own _ _::ms,y,us=>BkR w S ms y us.tail
 | .bx T t::ms,y,us=>(∃ b,us.head? = some (.pointer (some ⟨b,0,none⟩))∧Bk0 w S T t y.1 b)∧BkR w S ms y.2 us.tail
 | .mu e t::ms,y,us=>(∃ u,us.head? = some u∧Bh9 w S e t y.1 u)∧BkR w S ms y.2 us.tail
 | .nst e t::ms,y,us=>(∃ u,us.head? = some u∧Bk1 w S e t y.1 u)∧BkR w S ms y.2 us.tail
def ShR:List (Option Nat)→List Value→List Value→Prop
 | [],us,cs=>us=[]∧cs=[]
 | none::sh,us,cs=>∃ u us' cs',us=u::us'∧cs=u::cs'∧u.oneCell'=true∧ShR sh us' cs'
 | some k::sh,us,cs=>∃ c1 us' cs',us=.agg c1::us'∧cs=c1.toList++cs'∧c1.size=k∧ShR sh us' cs'
structure E5 where
 ps:List Md
 psh:List (Option Nat)
 rs:List Md
 rsh:List (Option Nat)
def A54:List Value→Value
 | [v]=>v
 | vs=>.tuple vs.toArray
def Bjn (w:World) (S:Nat→Prop) (bs:List Nat):Prop:=bs.Nodup∧∀ b∈bs,b < w.heap.size∧¬ S b
def Aul (w:World) (S:Nat→Prop) (bs gone:List Nat):Nat→Prop:=fun b=>(S b∨b∈bs∨w.heap.size≤b)∧b ∉ gone
def Af9 (P:Program) (f:FuncId) (sg:E5) (den:Xo sg.ps→Option (Xo sg.rs×BxD sg.ps)):Prop:=
 ∀ x r,den x=some r→∀ (w:World) (S:Nat→Prop) (us args:List Value),HR w S sg.ps x us→ShR sg.psh args us→Bjn w S (C8 w sg.ps us)→
  Calls P f args.toArray w fun e w'=>∃ vs us',e=.returned (A54 vs)∧ShR sg.rsh vs us'∧Lx (C8 w sg.ps us) w w'∧
   HR w' (Aul w S (C8 w sg.ps us) (C8 w' sg.rs us'++d5 w' sg.ps us)) sg.rs r.1 us'∧
   BkR w' (Aul w S (C8 w sg.ps us) (C8 w' sg.rs us'++d5 w' sg.ps us)) sg.ps r.2 us∧
   (C8 w' sg.rs us'++d5 w' sg.ps us).Nodup∧∀ b∈C8 w' sg.rs us'++d5 w' sg.ps us,b < w'.heap.size∧(b∈C8 w sg.ps us∨w.heap.size≤b)
def Is:List Md→Nat
 | []=>0
 | .rd _::ms=>Is ms
 | .own _ _::ms=>Is ms + 1
 | .bx _ _::ms=>Is ms + 1
 | .mu _ _::ms=>Is ms + 1
 | .nst _ _::ms=>Is ms + 1
def A23:(ms:List Md)→Xo ms→Nat→List Lf
 | [],_,_=>[]
 | .rd t::ms,x,id=>t.leafs x.1++A23 ms x.2 id
 | .own _ _::ms,x,id=>.row id::A23 ms x.2 (id + 1)
 | .bx _ _::ms,x,id=>.ptr id 0::A23 ms x.2 (id + 1)
 | .mu _ _::ms,x,id=>.row id::A23 ms x.2 (id + 1)
 | .nst _ _::ms,x,id=>.row id::A23 ms x.2 (id + 1)
def Jb:(ms:List Md)→Xo ms→Nat→(Nat→Jw)→Nat→Jw
 | [],_,_,res=>res
 | .rd _::ms,x,id,res=>Jb ms x.2 id res
 | .own e t::ms,x,id,res=>Jb ms x.2 (id + 1) (K3 res id (.row e t x.1))
 | .bx T t::ms,x,id,res=>Jb ms x.2 (id + 1) (K3 res id (.box T (t.leafs x.1)))
 | .mu e t::ms,x,id,res=>Jb ms x.2 (id + 1) (K3 res id (.row e t x.1))
 | .nst e t::ms,x,id,res=>Jb ms x.2 (id + 1) (K3 res id (.last e t x.1 false id))
def Fc (w:World):List Md→List Value→Nat→Gh→Gh
 | [],_,_,g=>g
 | .rd t::ms,us,id,g=>Fc w ms (us.drop t.sz) id g
 | .own _ _::ms,us,id,g=>Fc w ms us.tail (id + 1) ⟨K3 g.blk id ((us.head?).bind Value.ownBlock),K3 g.hdr id (us.headD undef),g.av,g.innL⟩
 | .bx _ _::ms,us,id,g=>Fc w ms us.tail (id + 1) ⟨K3 g.blk id ((us.head?).bind Xw),g.hdr,g.av,g.innL⟩
 | .mu _ _::ms,us,id,g=>Fc w ms us.tail (id + 1) ⟨K3 g.blk id ((us.head?).bind Value.ownBlock),K3 g.hdr id (us.headD undef),g.av,g.innL⟩
 | .nst _ _::ms,us,id,g=>Fc w ms us.tail (id + 1) ⟨K3 g.blk id ((us.head?).bind Value.ownBlock),K3 g.hdr id (us.headD undef),g.av,K3 g.innL id (Xv w (us.headD undef))⟩
theorem C5:∀ (ms:List Md) (x:Xo ms) (id:Nat) (res:Nat→Jw) (j:Nat),(j < id∨id + Is ms≤j)→Jb ms x id res j=res j
 | [],_,_,_,_,_=>rfl
 | .rd _::ms,x,id,res,j,h=>C5 ms x.2 id res j h
 | .own e t::ms,x,id,res,j,h=>by
  simp only [Jb,Is] at h ⊢
  rw [C5 ms x.2 _ _ j (by omega),As _ _ (by omega)]
 | .bx T t::ms,x,id,res,j,h=>by
  simp only [Jb,Is] at h ⊢
  rw [C5 ms x.2 _ _ j (by omega),As _ _ (by omega)]
 | .mu e t::ms,x,id,res,j,h=>by
  simp only [Jb,Is] at h ⊢
  rw [C5 ms x.2 _ _ j (by omega),As _ _ (by omega)]
 | .nst e t::ms,x,id,res,j,h=>by
  simp only [Jb,Is] at h ⊢
  rw [C5 ms x.2 _ _ j (by omega),As _ _ (by omega)]
theorem Bb (w:World):∀ (ms:List Md) (us:List Value) (id:Nat) (g:Gh) (j:Nat),(j < id∨id + Is ms≤j)→(Fc w ms us id g).blk j=g.blk j∧(Fc w ms us id g).hdr j=g.hdr j∧(Fc w ms us id g).innL j=g.innL j
 | [],_,_,_,_,_=>⟨rfl,rfl,rfl⟩
 | .rd t::ms,us,id,g,j,h=>Bb w ms _ id g j h
 | .own e t::ms,us,id,g,j,h=>by
  simp only [Fc,Is] at h ⊢
  obtain ⟨h1,h2,h3⟩:=Bb w ms us.tail (id + 1) ⟨K3 g.blk id ((us.head?).bind Value.ownBlock),K3 g.hdr id (us.headD undef),g.av,g.innL⟩ j (by omega)
  rw [h1,h2,h3]
  exact ⟨As _ _ (by omega),As _ _ (by omega),rfl⟩
 | .bx T t::ms,us,id,g,j,h=>by
  simp only [Fc,Is] at h ⊢
  obtain ⟨h1,h2,h3⟩:=Bb w ms us.tail (id + 1) ⟨K3 g.blk id ((us.head?).bind Xw),g.hdr,g.av,g.innL⟩ j (by omega)
  rw [h1,h2,h3]
  exact ⟨As _ _ (by omega),rfl,rfl⟩
 | .mu e t::ms,us,id,g,j,h=>by
  simp only [Fc,Is] at h ⊢
  obtain ⟨h1,h2,h3⟩:=Bb w ms us.tail (id + 1) ⟨K3 g.blk id ((us.head?).bind Value.ownBlock),K3 g.hdr id (us.headD undef),g.av,g.innL⟩ j (by omega)
  rw [h1,h2,h3]
  exact ⟨As _ _ (by omega),As _ _ (by omega),rfl⟩
 | .nst e t::ms,us,id,g,j,h=>by
  simp only [Fc,Is] at h ⊢
  obtain ⟨h1,h2,h3⟩:=Bb w ms us.tail (id + 1) ⟨K3 g.blk id ((us.head?).bind Value.ownBlock),K3 g.hdr id (us.headD undef),g.av,K3 g.innL id (Xv w (us.headD undef))⟩ j (by omega)
  rw [h1,h2,h3]
  exact ⟨As _ _ (by omega),As _ _ (by omega),As _ _ (by omega)⟩
theorem f7 (w:World):∀ (ms:List Md) (us:List Value) (id:Nat) (g:Gh),(Fc w ms us id g).av=g.av
 | [],_,_,_=>rfl
 | .rd t::ms,us,id,g=>f7 w ms _ id g
 | .own _ _::ms,us,id,g=>f7 w ms _ _ _
 | .bx _ _::ms,us,id,g=>f7 w ms _ _ _
 | .mu _ _::ms,us,id,g=>f7 w ms _ _ _
 | .nst _ _::ms,us,id,g=>f7 w ms _ _ _
theorem Bfz (ms:List Md) (x:Xo ms) (id:Nat) (res:Nat→Jw) (j:Nat) (h:(Jb ms x id res j).nst=true):(id≤j∧j < id + Is ms)∨(res j).nst=true:=by
 by_cases q:id≤j∧j < id + Is ms
 ·exact .inl q
 ·rw [C5 ms x id res j (by omega)] at h
  exact .inr h
theorem Ci {o:Option Nat} {b:Nat} (h:o=some b):b∈o.toList:=by subst h; simp
theorem K5 (w:World):∀ (ms:List Md) (us:List Value) (id:Nat) (g:Gh) (j b:Nat),id≤j→j < id + Is ms→(Fc w ms us id g).blk j=some b→b∈C8 w ms us
 | [],_,_,_,j,b,h1,h2,_=>by simp [Is] at h2; omega
 | .rd t::ms,us,id,g,j,b,h1,h2,h=>K5 w ms _ id g j b h1 h2 h
 | .own e t::ms,us,id,g,j,b,h1,h2,h=>by
  simp only [Fc,Is,C8] at h h2 ⊢
  by_cases q:j=id
  ·rw [(Bb w ms us.tail (id + 1) _ j (by omega)).1] at h
   subst q
   simp only [Al] at h
   exact List.mem_append_left _ (Ci h)
  ·exact List.mem_append_right _ (K5 w ms us.tail (id + 1) _ j b (by omega) (by omega) h)
 | .bx T t::ms,us,id,g,j,b,h1,h2,h=>by
  simp only [Fc,Is,C8] at h h2 ⊢
  by_cases q:j=id
  ·rw [(Bb w ms us.tail (id + 1) _ j (by omega)).1] at h
   subst q
   simp only [Al] at h
   exact List.mem_append_left _ (Ci h)
  ·exact List.mem_append_right _ (K5 w ms us.tail (id + 1) _ j b (by omega) (by omega) h)
 | .mu e t::ms,us,id,g,j,b,h1,h2,h=>by
  simp only [Fc,Is,C8] at h h2 ⊢
  by_cases q:j=id
  ·rw [(Bb w ms us.tail (id + 1) _ j (by omega)).1] at h
   subst q
   simp only [Al] at h
   exact List.mem_append_left _ (Ci h)
  ·exact List.mem_append_right _ (K5 w ms us.tail (id + 1) _ j b (by omega) (by omega) h)
 | .nst e t::ms,us,id,g,j,b,h1,h2,h=>by
  simp only [Fc,Is,C8] at h h2 ⊢
  by_cases q:j=id
  ·rw [(Bb w ms us.tail (id + 1) _ j (by omega)).1] at h
   subst q
   simp only [Al] at h
   exact List.mem_append_left _ (List.mem_append_left _ (Ci h))
  ·exact List.mem_append_right _ (K5 w ms us.tail (id + 1) _ j b (by omega) (by omega) h)
theorem Xx (w:World):∀ (ms:List Md) (us:List Value) (id:Nat) (g:Gh) (i j b:Nat),(C8 w ms us).Nodup→id≤i→i < id + Is ms→id≤j→j < id + Is ms→
  (Fc w ms us id g).blk i=some b→(Fc w ms us id g).blk j=some b→i=j
 | [],_,_,_,_,_,_,_,h1,h2,_,_,_,_=>by simp [Is] at h2; omega
 | .rd t::ms,us,id,g,i,j,b,hn,h1,h2,h3,h4,h5,h6=>Xx w ms _ id g i j b hn h1 h2 h3 h4 h5 h6
 | .own e t::ms,us,id,g,i,j,b,hn,h1,h2,h3,h4,h5,h6=>by
  simp only [Fc,Is,C8] at hn h2 h4 h5 h6
  obtain ⟨n1,n2,n3⟩:=List.nodup_append.1 hn
  by_cases q1:i=id<;>by_cases q2:j=id
  ·omega
  ·exfalso
   rw [(Bb w ms us.tail (id + 1) _ i (by omega)).1] at h5
   subst q1
   simp only [Al] at h5
   exact n3 b (Ci h5) b (K5 w ms us.tail _ _ j b (by omega) (by omega) h6) rfl
  ·exfalso
   rw [(Bb w ms us.tail (id + 1) _ j (by omega)).1] at h6
   subst q2
   simp only [Al] at h6
   exact n3 b (Ci h6) b (K5 w ms us.tail _ _ i b (by omega) (by omega) h5) rfl
  ·exact Xx w ms us.tail (id + 1) _ i j b n2 (by omega) (by omega) (by omega) (by omega) h5 h6
 | .bx T t::ms,us,id,g,i,j,b,hn,h1,h2,h3,h4,h5,h6=>by
  simp only [Fc,Is,C8] at hn h2 h4 h5 h6
  obtain ⟨n1,n2,n3⟩:=List.nodup_append.1 hn
  by_cases q1:i=id<;>by_cases q2:j=id
  ·omega
  ·exfalso
   rw [(Bb w ms us.tail (id + 1) _ i (by omega)).1] at h5
   subst q1
   simp only [Al] at h5
   exact n3 b (Ci h5) b (K5 w ms us.tail _ _ j b (by omega) (by omega) h6) rfl
  ·exfalso
   rw [(Bb w ms us.tail (id + 1) _ j (by omega)).1] at h6
   subst q2
   simp only [Al] at h6
   exact n3 b (Ci h6) b (K5 w ms us.tail _ _ i b (by omega) (by omega) h5) rfl
  ·exact Xx w ms us.tail (id + 1) _ i j b n2 (by omega) (by omega) (by omega) (by omega) h5 h6
 | .mu e t::ms,us,id,g,i,j,b,hn,h1,h2,h3,h4,h5,h6=>by
  simp only [Fc,Is,C8] at hn h2 h4 h5 h6
  obtain ⟨n1,n2,n3⟩:=List.nodup_append.1 hn
  by_cases q1:i=id<;>by_cases q2:j=id
  ·omega
  ·exfalso
   rw [(Bb w ms us.tail (id + 1) _ i (by omega)).1] at h5
   subst q1
   simp only [Al] at h5
   exact n3 b (Ci h5) b (K5 w ms us.tail _ _ j b (by omega) (by omega) h6) rfl
  ·exfalso
   rw [(Bb w ms us.tail (id + 1) _ j (by omega)).1] at h6
   subst q2
   simp only [Al] at h6
   exact n3 b (Ci h6) b (K5 w ms us.tail _ _ i b (by omega) (by omega) h5) rfl
  ·exact Xx w ms us.tail (id + 1) _ i j b n2 (by omega) (by omega) (by omega) (by omega) h5 h6
 | .nst e t::ms,us,id,g,i,j,b,hn,h1,h2,h3,h4,h5,h6=>by
  simp only [Fc,Is,C8] at hn h2 h4 h5 h6
  obtain ⟨n1,n2,n3⟩:=List.nodup_append.1 hn
  by_cases q1:i=id<;>by_cases q2:j=id
  ·omega
  ·exfalso
   rw [(Bb w ms us.tail (id + 1) _ i (by omega)).1] at h5
   subst q1
   simp only [Al] at h5
   exact n3 b (List.mem_append_left _ (Ci h5)) b (K5 w ms us.tail _ _ j b (by omega) (by omega) h6) rfl
  ·exfalso
   rw [(Bb w ms us.tail (id + 1) _ j (by omega)).1] at h6
   subst q2
   simp only [Al] at h6
   exact n3 b (List.mem_append_left _ (Ci h6)) b (K5 w ms us.tail _ _ i b (by omega) (by omega) h5) rfl
  ·exact Xx w ms us.tail (id + 1) _ i j b n2 (by omega) (by omega) (by omega) (by omega) h5 h6
theorem Jc (w:World):∀ (ms:List Md) (x:Xo ms) (us:List Value) (id:Nat) (res:Nat→Jw) (g:Gh) (j b:Nat),id≤j→j < id + Is ms→(Jb ms x id res j).nst=true→b∈(Fc w ms us id g).innL j→b∈C8 w ms us
 | [],_,_,_,_,_,j,b,h1,h2,_,_=>by simp [Is] at h2; omega
 | .rd t::ms,x,us,id,res,g,j,b,h1,h2,hn,h=>Jc w ms x.2 _ id res g j b h1 h2 hn h
 | .own e t::ms,x,us,id,res,g,j,b,h1,h2,hn,h=>by
  simp only [Jb,Fc,Is,C8] at hn h h2 ⊢
  by_cases q:j=id
  ·subst q
   rw [C5 ms x.2 _ _ j (by omega),Al] at hn
   cases hn
  ·exact List.mem_append_right _ (Jc w ms x.2 us.tail (id + 1) _ _ j b (by omega) (by omega) hn h)
 | .bx T t::ms,x,us,id,res,g,j,b,h1,h2,hn,h=>by
  simp only [Jb,Fc,Is,C8] at hn h h2 ⊢
  by_cases q:j=id
  ·subst q
   rw [C5 ms x.2 _ _ j (by omega),Al] at hn
   cases hn
  ·exact List.mem_append_right _ (Jc w ms x.2 us.tail (id + 1) _ _ j b (by omega) (by omega) hn h)
 | .mu e t::ms,x,us,id,res,g,j,b,h1,h2,hn,h=>by
  simp only [Jb,Fc,Is,C8] at hn h h2 ⊢
  by_cases q:j=id
  ·subst q
   rw [C5 ms x.2 _ _ j (by omega),Al] at hn
   cases hn
  ·exact List.mem_append_right _ (Jc w ms x.2 us.tail (id + 1) _ _ j b (by omega) (by omega) hn h)
 | .nst e t::ms,x,us,id,res,g,j,b,h1,h2,hn,h=>by
  simp only [Jb,Fc,Is,C8] at hn h h2 ⊢
  by_cases q:j=id
  ·subst q
   rw [(Bb w ms us.tail _ _ j (by omega)).2.2] at h
   simp only [Al] at h
   exact List.mem_append_left _ (List.mem_append_right _ h)
  ·exact List.mem_append_right _ (Jc w ms x.2 us.tail (id + 1) _ _ j b (by omega) (by omega) hn h)
theorem Ok (w:World):∀ (ms:List Md) (x:Xo ms) (us:List Value) (id:Nat) (res:Nat→Jw) (g:Gh) (i j b:Nat),(C8 w ms us).Nodup→id≤i→i < id + Is ms→id≤j→j < id + Is ms→(Jb ms x id res i).nst=true→b∈(Fc w ms us id g).innL i→
  (Fc w ms us id g).blk j≠some b∧(j≠i→(Jb ms x id res j).nst=true→b ∉ (Fc w ms us id g).innL j)
 | [],_,_,_,_,_,_,_,_,_,h1,h2,_,_,_,_=>by simp [Is] at h2; omega
 | .rd t::ms,x,us,id,res,g,i,j,b,hd,h1,h2,h3,h4,hn,h=>Ok w ms x.2 _ id res g i j b hd h1 h2 h3 h4 hn h
 | .own e t::ms,x,us,id,res,g,i,j,b,hd,h1,h2,h3,h4,hn,h=>by
  simp only [Jb,Fc,Is,C8] at hd hn h h2 h4 ⊢
  obtain ⟨n1,n2,n3⟩:=List.nodup_append.1 hd
  by_cases q1:i=id
  ·subst q1
   rw [C5 ms x.2 _ _ i (by omega),Al] at hn
   cases hn
  ·have hb:=Jc w ms x.2 us.tail (id + 1) _ _ i b (by omega) (by omega) hn h
   by_cases q2:j=id
   ·subst q2
    refine ⟨fun hk=>?_,fun _ hn2=>?_⟩
    ·rw [(Bb w ms us.tail _ _ j (by omega)).1] at hk
     simp only [Al] at hk
     exact n3 b (Ci hk) b hb rfl
    ·rw [C5 ms x.2 _ _ j (by omega),Al] at hn2
     cases hn2
   ·exact Ok w ms x.2 us.tail (id + 1) _ _ i j b n2 (by omega) (by omega) (by omega) (by omega) hn h
 | .bx T t::ms,x,us,id,res,g,i,j,b,hd,h1,h2,h3,h4,hn,h=>by
  simp only [Jb,Fc,Is,C8] at hd hn h h2 h4 ⊢
  obtain ⟨n1,n2,n3⟩:=List.nodup_append.1 hd
  by_cases q1:i=id
  ·subst q1
   rw [C5 ms x.2 _ _ i (by omega),Al] at hn
   cases hn
  ·have hb:=Jc w ms x.2 us.tail (id + 1) _ _ i b (by omega) (by omega) hn h
   by_cases q2:j=id
   ·subst q2
    refine ⟨fun hk=>?_,fun _ hn2=>?_⟩
    ·rw [(Bb w ms us.tail _ _ j (by omega)).1] at hk
     simp only [Al] at hk
     exact n3 b (Ci hk) b hb rfl
    ·rw [C5 ms x.2 _ _ j (by omega),Al] at hn2
     cases hn2
   ·exact Ok w ms x.2 us.tail (id + 1) _ _ i j b n2 (by omega) (by omega) (by omega) (by omega) hn h
 | .mu e t::ms,x,us,id,res,g,i,j,b,hd,h1,h2,h3,h4,hn,h=>by
  simp only [Jb,Fc,Is,C8] at hd hn h h2 h4 ⊢
  obtain ⟨n1,n2,n3⟩:=List.nodup_append.1 hd
  by_cases q1:i=id
  ·subst q1
   rw [C5 ms x.2 _ _ i (by omega),Al] at hn
   cases hn
  ·have hb:=Jc w ms x.2 us.tail (id + 1) _ _ i b (by omega) (by omega) hn h
   by_cases q2:j=id
   ·subst q2
    refine ⟨fun hk=>?_,fun _ hn2=>?_⟩
    ·rw [(Bb w ms us.tail _ _ j (by omega)).1] at hk
     simp only [Al] at hk
     exact n3 b (Ci hk) b hb rfl
    ·rw [C5 ms x.2 _ _ j (by omega),Al] at hn2
     cases hn2
   ·exact Ok w ms x.2 us.tail (id + 1) _ _ i j b n2 (by omega) (by omega) (by omega) (by omega) hn h
 | .nst e t::ms,x,us,id,res,g,i,j,b,hd,h1,h2,h3,h4,hn,h=>by
  simp only [Jb,Fc,Is,C8] at hd hn h h2 h4 ⊢
  obtain ⟨n1,n2,n3⟩:=List.nodup_append.1 hd
  obtain ⟨m1,m2,m3⟩:=List.nodup_append.1 n1
  by_cases q1:i=id
  ·subst q1
   rw [(Bb w ms us.tail _ _ i (by omega)).2.2] at h
   simp only [Al] at h
   by_cases q2:j=i
   ·subst q2
    refine ⟨fun hk=>?_,fun hne=>absurd rfl hne⟩
    rw [(Bb w ms us.tail _ _ j (by omega)).1] at hk
    simp only [Al] at hk
    exact m3 b (Ci hk) b h rfl
   ·refine ⟨fun hk=>?_,fun _ hn2 hi=>?_⟩
    ·exact n3 b (List.mem_append_right _ h) b (K5 w ms us.tail _ _ j b (by omega) (by omega) hk) rfl
    ·exact n3 b (List.mem_append_right _ h) b (Jc w ms x.2 us.tail _ _ _ j b (by omega) (by omega) hn2 hi) rfl
  ·have hb:=Jc w ms x.2 us.tail (id + 1) _ _ i b (by omega) (by omega) hn h
   by_cases q2:j=id
   ·subst q2
    refine ⟨fun hk=>?_,fun _ hn2 hi=>?_⟩
    ·rw [(Bb w ms us.tail _ _ j (by omega)).1] at hk
     simp only [Al] at hk
     exact n3 b (List.mem_append_left _ (Ci hk)) b hb rfl
    ·rw [(Bb w ms us.tail _ _ j (by omega)).2.2] at hi
     simp only [Al] at hi
     exact n3 b (List.mem_append_right _ hi) b hb rfl
   ·exact Ok w ms x.2 us.tail (id + 1) _ _ i j b n2 (by omega) (by omega) (by omega) (by omega) hn h
theorem Ay7 {w:World} {t:Ty} {e:TypeId} {sz n:Nat} {u:Value} {cs:List Value} (h:Hr w t 0 e sz u n cs):u.oneCell'=true:=by
 rcases h.2 with ⟨rfl,_⟩ | ⟨_,_,_,rfl,_⟩<;>rfl
theorem Ik.imp {w:World} {S S':Nat→Prop} (hS:∀ b,S b→b < w.heap.size→S' b) {t:Ty} {xs:List t.D} {cs:List Value} (h:Ik w S t xs cs):Ik w S' t xs cs:=
 ⟨h.1,fun i x hx=>Ty.K_keep (fun b hb hl=>⟨hS b hb hl,rfl⟩) (h.2 i x hx)⟩
theorem Ay8 {s:St} {g:Gh} {w:World} {S:Nat→Prop} (hS:∀ b,S b→b < w.heap.size→Eg s g b):∀ (ms:List Md) (x:Xo ms) (us:List Value) (id:Nat) (res:Nat→Jw) (g0:Gh),
  HR w S ms x us→(C8 w ms us).Nodup→(∀ j,id≤j→j < id + Is ms→s.res j=Jb ms x id res j∧g.blk j=(Fc w ms us id g0).blk j∧g.hdr j=(Fc w ms us id g0).hdr j∧g.innL j=(Fc w ms us id g0).innL j)→
  I6 s g w (A23 ms x id) us∧∀ j,id≤j→j < id + Is ms→Lr s g w j (s.res j)∧(s.res j).live=true
 | [],_,us,id,res,g0,h,_,_=>by
  simp only [HR] at h
  subst h
  exact ⟨trivial,fun j h1 h2=>by simp [Is] at h2; omega⟩
 | .rd t::ms,x,us,id,res,g0,⟨c1,c2,h1,h2,h3⟩,hnd,hag=>by
  subst h1
  have hd:(c1++c2).drop t.sz=c2:=by rw [← Ty.K_len h2]; simp
  obtain ⟨k1,k2⟩:=Ay8 hS ms x.2 c2 id res g0 h3 (by simp only [C8,hd] at hnd; exact hnd) (fun j q1 q2=>by have:=hag j q1 q2; simp only [Jb,Fc,hd] at this; exact this)
  exact ⟨I6.append (Ty.K_leafs (Ty.K_keep (fun b hb hl=>⟨hS b hb hl,rfl⟩) h2)) k1,k2⟩
 | .own e t::ms,x,us,id,res,g0,⟨u,c2,h1,⟨cs,h2,h2'⟩,h3⟩,hnd,hag=>by
  subst h1
  obtain ⟨k1,k2⟩:=Ay8 hS ms x.2 c2 (id + 1) _ _ h3 (by simp only [C8,List.tail_cons] at hnd; exact (List.nodup_append.1 hnd).2.1) (fun j q1 q2=>by have:=hag j (by omega) (by simp only [Is]; omega); simp only [Jb,Fc,List.tail_cons] at this; exact this)
  obtain ⟨a1,a2,a3,a4⟩:=hag id (Nat.le_refl _) (by simp only [Is]; omega)
  simp only [Jb,Fc,List.tail_cons,List.head?_cons,List.headD_cons] at a1 a2 a3 a4
  rw [C5 ms x.2 (id + 1) _ id (by omega),Al] at a1
  rw [(Bb w ms c2 (id + 1) _ id (by omega)).1] at a2
  rw [(Bb w ms c2 (id + 1) _ id (by omega)).2.1] at a3
  simp only [Al] at a2 a3
  have hr:Lr s g w id (s.res id):=by
   rw [a1]
   exact ⟨cs,by rw [a3]; exact h2,h2'.imp hS,by rw [a2,a3]; rfl⟩
  refine ⟨⟨⟨?_,Ay7 h2⟩,k1⟩,fun j q1 q2=>?_⟩
  ·simp only [Cx,a1]
   exact a3.symm
  ·by_cases q:j=id
   ·subst q
    exact ⟨hr,by rw [a1]; rfl⟩
   ·exact k2 j (by omega) (by simp only [Is] at q2; omega)
 | .bx T t::ms,x,us,id,res,g0,⟨b,c2,h1,⟨cs,h2,h2'⟩,h3⟩,hnd,hag=>by
  subst h1
  obtain ⟨k1,k2⟩:=Ay8 hS ms x.2 c2 (id + 1) _ _ h3 (by simp only [C8,List.tail_cons] at hnd; exact (List.nodup_append.1 hnd).2.1) (fun j q1 q2=>by have:=hag j (by omega) (by simp only [Is]; omega); simp only [Jb,Fc,List.tail_cons] at this; exact this)
  obtain ⟨a1,a2,a3,a4⟩:=hag id (Nat.le_refl _) (by simp only [Is]; omega)
  simp only [Jb,Fc,List.tail_cons,List.head?_cons,List.headD_cons] at a1 a2 a3 a4
  rw [C5 ms x.2 (id + 1) _ id (by omega),Al] at a1
  rw [(Bb w ms c2 (id + 1) _ id (by omega)).1] at a2
  simp only [Al] at a2
  have a2':g.blk id=some b:=a2
  have hr:Lr s g w id (s.res id):=by
   rw [a1]
   exact ⟨b,cs,a2',h2,Ty.K_leafs (Ty.K_keep (fun b hb hl=>⟨hS b hb hl,rfl⟩) h2')⟩
  refine ⟨⟨⟨?_,rfl⟩,k1⟩,fun j q1 q2=>?_⟩
  ·simp only [Cx,a1]
   exact ⟨b,a2',rfl⟩
  ·by_cases q:j=id
   ·subst q
    exact ⟨hr,by rw [a1]; rfl⟩
   ·exact k2 j (by omega) (by simp only [Is] at q2; omega)
 | .mu e t::ms,x,us,id,res,g0,⟨u,c2,h1,⟨cs,h2,h2'⟩,h3⟩,hnd,hag=>by
  subst h1
  obtain ⟨k1,k2⟩:=Ay8 hS ms x.2 c2 (id + 1) _ _ h3 (by simp only [C8,List.tail_cons] at hnd; exact (List.nodup_append.1 hnd).2.1) (fun j q1 q2=>by have:=hag j (by omega) (by simp only [Is]; omega); simp only [Jb,Fc,List.tail_cons] at this; exact this)
  obtain ⟨a1,a2,a3,a4⟩:=hag id (Nat.le_refl _) (by simp only [Is]; omega)
  simp only [Jb,Fc,List.tail_cons,List.head?_cons,List.headD_cons] at a1 a2 a3 a4
  rw [C5 ms x.2 (id + 1) _ id (by omega),Al] at a1
  rw [(Bb w ms c2 (id + 1) _ id (by omega)).1] at a2
  rw [(Bb w ms c2 (id + 1) _ id (by omega)).2.1] at a3
  simp only [Al] at a2 a3
  have hr:Lr s g w id (s.res id):=by
   rw [a1]
   exact ⟨cs,by rw [a3]; exact h2,h2'.imp hS,by rw [a2,a3]; rfl⟩
  refine ⟨⟨⟨?_,Ay7 h2⟩,k1⟩,fun j q1 q2=>?_⟩
  ·simp only [Cx,a1]
   exact a3.symm
  ·by_cases q:j=id
   ·subst q
    exact ⟨hr,by rw [a1]; rfl⟩
   ·exact k2 j (by omega) (by simp only [Is] at q2; omega)
 | .nst e t::ms,x,us,id,res,g0,⟨u,c2,h1,⟨cs,h2,h2'⟩,h3⟩,hnd,hag=>by
  subst h1
  obtain ⟨k1,k2⟩:=Ay8 hS ms x.2 c2 (id + 1) _ _ h3 (by simp only [C8,List.tail_cons] at hnd; exact (List.nodup_append.1 hnd).2.1) (fun j q1 q2=>by have:=hag j (by omega) (by simp only [Is]; omega); simp only [Jb,Fc,List.tail_cons] at this; exact this)
  obtain ⟨a1,a2,a3,a4⟩:=hag id (Nat.le_refl _) (by simp only [Is]; omega)
  simp only [Jb,Fc,List.tail_cons,List.head?_cons,List.headD_cons] at a1 a2 a3 a4
  rw [C5 ms x.2 (id + 1) _ id (by omega),Al] at a1
  rw [(Bb w ms c2 (id + 1) _ id (by omega)).1] at a2
  rw [(Bb w ms c2 (id + 1) _ id (by omega)).2.1] at a3
  rw [(Bb w ms c2 (id + 1) _ id (by omega)).2.2] at a4
  simp only [Al] at a2 a3 a4
  have hci:g.innL id=cs.filterMap Value.ownBlock:=by rw [a4]; exact Af8 h2
  have hnc:(cs.filterMap Value.ownBlock).Nodup:=by
   simp only [C8,List.headD_cons,Af8 h2] at hnd
   exact (List.nodup_append.1 (List.nodup_append.1 hnd).1).2.1
  have hr:Lr s g w id (s.res id):=by
   rw [a1]
   refine ⟨cs,by rw [a3]; exact h2,⟨fun i y v q1 q2=>?_,fun i i' v v' b _ _ q1 q2 q3 q4=>z7 hnc q1 q2 q3 q4⟩,by rw [a2,a3]; rfl,fun _ hc=>by cases hc⟩
   obtain ⟨ds,d1,d2⟩:=h2' i y v q1 q2
   refine ⟨ds,d1,d2.imp hS,fun b hb=>?_⟩
   show b∈g.innL id
   rw [hci]
   exact List.mem_filterMap.2 ⟨v,List.mem_of_getElem? q2,hb⟩
  refine ⟨⟨⟨?_,Ay7 h2⟩,k1⟩,fun j q1 q2=>?_⟩
  ·simp only [Cx,a1]
   exact a3.symm
  ·by_cases q:j=id
   ·subst q
    exact ⟨hr,by rw [a1]; rfl⟩
   ·exact k2 j (by omega) (by simp only [Is] at q2; omega)
section
def Bf0 (s:St) (e:NE) (t:Ty):Lf→Option (Option Nat×List (List t.D))
 | .c (.slice none 0 0)=>some (none,[])
 | .row id=>match s.res id with
  | .last e' t' xs c _=>bif c then none else (if e'=e then (if h:t'=t then some (some id,h ▸ xs) else none) else none)
  | _=>none
 | _=>none
theorem f8 {s:St} {e:NE} {t:Ty} {l:Lf} {p:Option Nat×List (List t.D)} (h:Bf0 s e t l=some p):(p=(none,[])∧l=.c (.slice none 0 0))∨∃ id j xs,p=(some id,xs)∧l=.row id∧s.res id=.last e t xs false j:=by
 unfold Bf0 at h
 split at h
 ·cases h
  exact .inl ⟨rfl,rfl⟩
 ·rename_i id
  split at h
  ·rename_i e' t' xs c j hr
   cases c with
   | true=>cases h
   | false=>
    simp only [cond_false] at h
    split at h
    ·rename_i he
     split at h
     ·rename_i ht
      subst he ht
      cases h
      exact .inr ⟨id,j,xs,rfl,rfl,hr⟩
     ·cases h
    ·cases h
  ·cases h
 ·cases h
def Mm (s:St):(ms:List Md)→List Lf→Option (Xo ms×List (Option Nat))
 | [],[]=>some ((),[])
 | [],_::_=>none
 | .rd t::ms,ls=>(s.parse t ls).bind fun p=>(Mm s ms p.2).bind fun q=>some ((p.1,q.1),q.2)
 | .own e t::ms,l::ls=>(Aaq s ⟨e,t,[],0⟩ l).bind fun p=>(Mm s ms ls).bind fun q=>some ((p.2,q.1),p.1::q.2)
 | .own _ _::_,[]=>none
 | .bx T t::ms,.ptr id off::ls=>match s.res id with
  | .box T' bl=>if T'=T then (if off=0 then (match s.parse t bl with
   | some (x,[])=>(Mm s ms ls).bind fun q=>some ((x,q.1),some id::q.2)
   | _=>none) else none) else none
  | _=>none
 | .bx _ _::_,_=>none
 | .mu e t::ms,l::ls=>(Aaq s ⟨e,t,[],0⟩ l).bind fun p=>(Mm s ms ls).bind fun q=>some ((p.2,q.1),p.1::q.2)
 | .mu _ _::_,[]=>none
 | .nst e t::ms,l::ls=>(Bf0 s e t l).bind fun p=>(Mm s ms ls).bind fun q=>some ((p.2,q.1),p.1::q.2)
 | .nst _ _::_,[]=>none
def Hs (s:St):List Md→List Lf→List Lf
 | [],_=>[]
 | .rd t::ms,ls=>ls.take t.sz++Hs s ms (ls.drop t.sz)
 | .own _ _::ms,ls=>Hs s ms ls.tail
 | .bx _ _::ms,ls=>(match ls.head? with
  | some (.ptr id _)=>match s.res id with
   | .box _ bl=>bl
   | _=>[]
  | _=>[])++Hs s ms ls.tail
 | .mu _ _::ms,ls=>Hs s ms ls.tail
 | .nst _ _::ms,ls=>Hs s ms ls.tail
def A3:List (Option Nat)→List Nat
 | []=>[]
 | some i::r=>i::A3 r
 | none::r=>A3 r
def Vm:List Nat→Bool
 | []=>true
 | i::r=>!(r.contains i)&&Vm r
theorem Aoc:∀ {l:List Nat},Vm l=true→l.Nodup
 | [],_=>List.nodup_nil
 | i::r,h=>by
  simp only [Vm,Bool.and_eq_true,Bool.not_eq_true',List.contains_eq_mem,decide_eq_false_iff_not] at h
  exact List.nodup_cons.2 ⟨h.1,Aoc h.2⟩
def owB (w:World) (s:St) (g:Gh):List (Option Nat)→List Nat
 | []=>[]
 | none::r=>owB w s g r
 | some id::r=>((g.blk id).toList++(bif (s.res id).nst0 then Xv w (g.hdr id) else []))++owB w s g r
theorem f9 {w:World} {s:St} {g:Gh}:∀ {ow:List (Option Nat)} {b:Nat},b∈owB w s g ow↔∃ id,id∈A3 ow∧(g.blk id=some b∨((s.res id).nst0=true∧b∈Xv w (g.hdr id)))
 | [],b=>by simp [owB,A3]
 | none::r,b=>by simp only [owB,A3]; exact f9 (ow:=r)
 | some i::r,b=>by
  simp only [owB,A3,List.mem_append,f9 (ow:=r),List.mem_cons,Option.mem_toList]
  have e:b∈(bif (s.res i).nst0 then Xv w (g.hdr i) else [])↔((s.res i).nst0=true∧b∈Xv w (g.hdr i)):=by
   cases (s.res i).nst0<;>simp
  rw [e]
  constructor
  ·rintro (h | ⟨id,h1,h2⟩)
   ·exact ⟨i,.inl rfl,h⟩
   ·exact ⟨id,.inr h1,h2⟩
  ·rintro ⟨id,rfl | h1,h2⟩
   ·exact .inl h2
   ·exact .inr ⟨id,h1,h2⟩
theorem Aec {α β:Type} {f:α→Option β}:∀ {cs:List α},(∀ (i i':Nat) (u u':α) (b:β),cs[i]? = some u→cs[i']? = some u'→f u=some b→f u'=some b→i=i')→(cs.filterMap f).Nodup
 | [],_=>List.nodup_nil
 | c::cs,h=>by
  have ih:(cs.filterMap f).Nodup:=Aec fun i i' u u' b h1 h2 h3 h4=>by
   have:=h (i + 1) (i' + 1) u u' b (by simpa using h1) (by simpa using h2) h3 h4
   omega
  cases hc:f c with
  | none=>rw [List.filterMap_cons_none hc]; exact ih
  | some b=>
   rw [List.filterMap_cons_some hc]
   refine List.nodup_cons.2 ⟨fun hm=>?_,ih⟩
   obtain ⟨v,hv,hb⟩:=List.mem_filterMap.1 hm
   obtain ⟨k,hk,rfl⟩:=List.getElem_of_mem hv
   have:=h 0 (k + 1) c cs[k] b rfl (by simp [hk]) hc hb
   omega
theorem Arx {w:World} {s:St} {g:Gh} (hres:∀ id,Lr s g w id (s.res id)) {id:Nat} (h:(s.res id).nst0=true):(∀ b,b∈Xv w (g.hdr id)→g.inn id b)∧(Xv w (g.hdr id)).Nodup:=by
 have r:=hres id
 cases hr:s.res id with
 | last e t xs c j=>
  rw [hr] at h r
  have hc:c=false:=by simpa [Jw.nst0] using h
  subst hc
  obtain ⟨cs,h1,h2,_,_⟩:=r
  have h1:Hr w (.sl t) 0 e.o 1 (g.hdr id) xs.length cs:=h1
  have hl:cs.length=xs.length:=by simpa using h1.1
  rw [Af8 h1]
  refine ⟨fun b hb=>?_,Aec fun i i' u u' b q1 q2 q3 q4=>?_⟩
  ·obtain ⟨v,hv,hb⟩:=List.mem_filterMap.1 hb
   obtain ⟨k,hk,rfl⟩:=List.getElem_of_mem hv
   obtain ⟨_,_,_,q⟩:=h2.row k _ _ (List.getElem?_eq_getElem (by omega)) (List.getElem?_eq_getElem hk)
   exact q b hb
  ·exact h2.one i i' u u' b (by have:=(List.getElem?_eq_some_iff.1 q1).1; omega) (by have:=(List.getElem?_eq_some_iff.1 q2).1; omega) q1 q2 q3 q4
 | _=>rw [hr] at h; cases h
theorem Ajb {n B:Nat} {Iq:List Nat} {a:Act} {w:World} {s:St} {g:Gh} (h:Bp n B Iq s g a w):∀ {ow:List (Option Nat)},(A3 ow).Nodup→(owB w s g ow).Nodup
 | [],_=>by simp [owB]
 | none::r,hn=>by simp only [owB]; exact Ajb h (ow:=r) hn
 | some i::r,hn=>by
  simp only [A3,List.nodup_cons] at hn
  simp only [owB]
  have hI:∀ {id b:Nat},(s.res id).nst0=true→b∈Xv w (g.hdr id)→(s.res id).nst=true∧g.inn id b:=fun h1 h2=>⟨Jw.nst_of0 h1,(Arx h.res h1).1 _ h2⟩
  have hii:∀ b,b∈(bif (s.res i).nst0 then Xv w (g.hdr i) else [])→(s.res i).nst=true∧g.inn i b:=fun b hb=>by
   cases q:(s.res i).nst0 with
   | false=>rw [q] at hb; cases hb
   | true=>rw [q] at hb; exact hI q hb
  refine List.nodup_append.2 ⟨List.nodup_append.2 ⟨by cases g.blk i<;>simp,?_,fun b hb c hc=>?_⟩,Ajb h hn.2,fun b hb c hc=>?_⟩
  ·cases q:(s.res i).nst0 with
   | false=>exact List.nodup_nil
   | true=>exact (Arx h.res q).2
  ·rintro rfl
   simp only [Option.mem_toList] at hb
   obtain ⟨k1,k2⟩:=hii b hc
   exact (h.inn i b k1 k2).2.1 i hb
  ·rintro rfl
   obtain ⟨id,h1,h2⟩:=f9.1 hc
   have hne:i≠id:=fun e=>hn.1 (by rw [e]; exact h1)
   rcases List.mem_append.1 hb with hb | hb
   ·simp only [Option.mem_toList] at hb
    rcases h2 with h2 | ⟨h2,h3⟩
    ·exact hne (h.inj i id b hb h2)
    ·obtain ⟨k1,k2⟩:=hI h2 h3
     exact (h.inn id b k1 k2).2.1 i hb
   ·obtain ⟨k1,k2⟩:=hii b hb
    rcases h2 with h2 | ⟨h2,h3⟩
    ·exact (h.inn i b k1 k2).2.1 id h2
    ·obtain ⟨m1,m2⟩:=hI h2 h3
     exact (h.inn i b k1 k2).2.2 id hne.symm m1 m2
theorem St.parse_drop {s:St}:∀ {t:Ty} {ls:List Lf} {x:t.D} {r:List Lf},s.parse t ls=some (x,r)→r=ls.drop t.sz:=by
 intro t
 induction t with
 | unit=>intro ls x r h; simp only [St.parse] at h; cases h; rfl
 | pair a b iha ihb=>
  intro ls x r h
  simp only [St.parse] at h
  obtain ⟨p,h1,h2⟩:=A6 h
  obtain ⟨q,h3,h4⟩:=A6 h2
  cases h4
  rw [ihb (x:=q.1) (r:=q.2) h3,iha (x:=p.1) (r:=p.2) h1,List.drop_drop]
  rfl
 | int k=>intro ls x r h; cases ls<;>simp only [St.parse] at h<;>first | (cases h; done) | (obtain ⟨y,h1,h2⟩:=A6 h; cases h2; rfl)
 | bool=>intro ls x r h; cases ls<;>simp only [St.parse] at h<;>first | (cases h; done) | (obtain ⟨y,h1,h2⟩:=A6 h; cases h2; rfl)
 | str=>intro ls x r h; cases ls<;>simp only [St.parse] at h<;>first | (cases h; done) | (obtain ⟨y,h1,h2⟩:=A6 h; cases h2; rfl)
 | sl t _=>intro ls x r h; cases ls<;>simp only [St.parse] at h<;>first | (cases h; done) | (obtain ⟨y,h1,h2⟩:=A6 h; cases h2; rfl)
section
variable {P:Program} {n B:Nat} {Iq:List Nat} {s:St} {g:Gh} {a:Act} {w:World}
theorem I6.split (k:Nat) {ls:List Lf} {cs:List Value} (h:I6 s g w ls cs):I6 s g w (ls.drop k) (cs.drop k):=h.drop k
theorem Aga (S:Nat→Prop) (t:Ty):Ik w S t ([]:List t.D) []:=⟨by simp,fun i x hx=>by simp at hx⟩
theorem Agb (hres:∀ id,Lr s g w id (s.res id)) {e:TypeId} {t:Ty} {l:Lf} {p:Option Nat×List t.D} {u:Value} (h:Aaq s ⟨e,t,[],0⟩ l=some p) (hl:Cx s g w l u):
  Bh9 w (Eg s g) e t p.2 u∧(u.ownBlock=p.1.bind g.blk)∧∀ id,p.1=some id→(s.res id).live=true∧(s.res id).nst0=false:=by
 unfold Aaq at h
 split at h
 ·cases h
  cases hl
  exact ⟨⟨[],⟨by simp,.inl ⟨rfl,rfl⟩⟩,Aga _ _⟩,rfl,by intro id h; cases h⟩
 ·rename_i id
  split at h
  ·rename_i e' t' xs hr
   split at h
   ·rename_i he
    split at h<;>cases h
    rename_i ht
    have ht':t'=t:=ht
    subst ht'
    subst he
    have r:=hres id
    rw [hr] at r
    obtain ⟨cs,h1,h2,h3⟩:=r
    simp only [Cx,hr] at hl
    subst hl
    exact ⟨⟨cs,h1,h2⟩,h3.symm,by intro j hj; cases hj; rw [hr]; exact ⟨rfl,rfl⟩⟩
   ·cases h
  ·cases h
 ·cases h
theorem A4k {e:TypeId} {t:Ty} {l:Lf} {p:Option Nat×List t.D} (h:Aaq s ⟨e,t,[],0⟩ l=some p):∀ id,p.1=some id→∃ e',s.res id=.row e' t p.2∧l=.row id:=by
 intro id hid
 unfold Aaq at h
 split at h
 ·cases h; cases hid
 ·rename_i j
  split at h
  ·rename_i e' t' xs hr
   split at h
   ·split at h<;>cases h
    rename_i ht
    have ht':t'=t:=ht
    subst ht'
    cases hid
    exact ⟨e',hr,rfl⟩
   ·cases h
  ·cases h
 ·cases h
theorem A78 {w w':World} {t t':Ty} {e e':TypeId} {sz sz' n n':Nat} {v:Value} {cs cs':List Value} (h:Hr w t 0 e sz v n cs) (h':Hr w' t' 0 e' sz' v n' cs'):n=n':=by
 rcases h.2 with ⟨h1,h2⟩ | ⟨gg,cap,cur,h1,h2⟩<;>rcases h'.2 with ⟨k1,k2⟩ | ⟨gg',cap',cur',k1,k2⟩
 ·rw [h2,k2]
 ·rw [h1] at k1; cases k1
 ·rw [h1] at k1; cases k1
 ·rw [h1] at k1; cases k1; rfl
theorem Ay9 (hres:∀ id,Lr s g w id (s.res id)):∀ {ms:List Md} {ls:List Lf} {us:List Value} {x:Xo ms} {ow:List (Option Nat)},Mm s ms ls=some (x,ow)→I6 s g w ls us→
  HR w (Eg s g) ms x us∧C8 w ms us=owB w s g ow∧∀ id∈A3 ow,(s.res id).live=true
 | [],[],[],x,ow,h,_=>by
  simp only [Mm] at h
  cases h
  exact ⟨rfl,rfl,by simp [A3]⟩
 | [],[],_::_,_,_,_,hL=>hL.elim
 | [],_::_,_,_,_,h,_=>by simp [Mm] at h
 | .rd t::ms,ls,us,x,ow,h,hL=>by
  simp only [Mm] at h
  obtain ⟨p,h1,h2⟩:=A6 h
  obtain ⟨q,h3,h4⟩:=A6 h2
  cases h4
  obtain ⟨e1,k1⟩:=St.parse_K hres (x:=p.1) (r:=p.2) h1 hL
  obtain ⟨i1,i2,i3⟩:=Ay9 (ms:=ms) (us:=us.drop t.sz) hres h3 (by rw [e1]; exact hL.drop _)
  exact ⟨⟨us.take t.sz,us.drop t.sz,(List.take_append_drop _ _).symm,k1,i1⟩,i2,i3⟩
 | .own e t::ms,[],us,x,ow,h,hL=>by simp [Mm] at h
 | .own e t::ms,l::ls,[],x,ow,h,hL=>hL.elim
 | .own e t::ms,l::ls,u::us,x,ow,h,hL=>by
  simp only [Mm] at h
  obtain ⟨p,h1,h2⟩:=A6 h
  obtain ⟨q,h3,h4⟩:=A6 h2
  cases h4
  obtain ⟨k1,k2,k3⟩:=Agb hres h1 hL.1.1
  obtain ⟨i1,i2,i3⟩:=Ay9 (ms:=ms) hres h3 hL.2
  refine ⟨⟨u,us,rfl,k1,i1⟩,?_,?_⟩
  ·simp only [C8,List.head?_cons,Option.bind_some,List.tail_cons,k2,i2]
   cases hp:p.1 with
   | none=>rfl
   | some j=>simp only [owB,(k3 j hp).2,cond_false,List.append_nil,Option.bind_some]
  ·intro id hid
   cases hp:p.1 with
   | none=>rw [hp] at hid; exact i3 id hid
   | some j=>
    rw [hp] at hid
    simp only [A3,List.mem_cons] at hid
    rcases hid with rfl | hid
    ·exact (k3 _ hp).1
    ·exact i3 id hid
 | .bx T t::ms,[],us,x,ow,h,hL=>by simp [Mm] at h
 | .bx T t::ms,.c _::ls,us,x,ow,h,hL=>by simp [Mm] at h
 | .bx T t::ms,.sl _ _::ls,us,x,ow,h,hL=>by simp [Mm] at h
 | .bx T t::ms,.row _::ls,us,x,ow,h,hL=>by simp [Mm] at h
 | .bx T t::ms,.ep _ _ _ _::ls,us,x,ow,h,hL=>by simp [Mm] at h
 | .bx T t::ms,.rp _ _ _::ls,us,x,ow,h,hL=>by simp [Mm] at h
 | .bx T t::ms,.sp _::ls,us,x,ow,h,hL=>by simp [Mm] at h
 | .bx T t::ms,.ptr id off::ls,[],x,ow,h,hL=>hL.elim
 | .bx T t::ms,.ptr id off::ls,u::us,x,ow,h,hL=>by
  simp only [Mm] at h
  split at h
  ·rename_i T' bl hr
   split at h
   ·rename_i hT
    split at h
    ·rename_i ho
     split at h
     ·rename_i y hp
      obtain ⟨q,h3,h4⟩:=A6 h
      cases h4
      subst hT ho
      obtain ⟨i1,i2,i3⟩:=Ay9 (ms:=ms) hres h3 hL.2
      have r:=hres id
      rw [hr] at r
      obtain ⟨b,cs,hb,hh,hbl⟩:=r
      have hl:=hL.1.1
      simp only [Cx,hr] at hl
      obtain ⟨b',hb',hu⟩:=hl
      obtain rfl:b=b':=Option.some.inj (hb.symm.trans hb')
      obtain ⟨e1,k1⟩:=St.parse_K hres hp hbl
      have hlen:cs.toList.take t.sz=cs.toList:=by
       apply List.take_of_length_le
       have:bl.length≤t.sz:=List.drop_eq_nil_iff.1 e1.symm
       rw [hbl.length]; exact this
      rw [hlen] at k1
      subst hu
      refine ⟨⟨b,us,rfl,⟨cs,hh,k1⟩,i1⟩,?_,?_⟩
      ·simp only [C8,owB,List.head?_cons,Option.bind_some,List.tail_cons,Xw,hb,i2,hr,Jw.nst0,cond_false,List.append_nil]
      ·intro j hj
       simp only [A3,List.mem_cons] at hj
       rcases hj with rfl | hj
       ·rw [hr]; rfl
       ·exact i3 j hj
     ·cases h
    ·cases h
   ·cases h
  ·cases h
 | .mu e t::ms,[],us,x,ow,h,hL=>by simp [Mm] at h
 | .mu e t::ms,l::ls,[],x,ow,h,hL=>hL.elim
 | .mu e t::ms,l::ls,u::us,x,ow,h,hL=>by
  simp only [Mm] at h
  obtain ⟨p,h1,h2⟩:=A6 h
  obtain ⟨q,h3,h4⟩:=A6 h2
  cases h4
  obtain ⟨k1,k2,k3⟩:=Agb hres h1 hL.1.1
  obtain ⟨i1,i2,i3⟩:=Ay9 (ms:=ms) hres h3 hL.2
  refine ⟨⟨u,us,rfl,k1,i1⟩,?_,?_⟩
  ·simp only [C8,List.head?_cons,Option.bind_some,List.tail_cons,k2,i2]
   cases hp:p.1 with
   | none=>rfl
   | some j=>simp only [owB,(k3 j hp).2,cond_false,List.append_nil,Option.bind_some]
  ·intro id hid
   cases hp:p.1 with
   | none=>rw [hp] at hid; exact i3 id hid
   | some j=>
    rw [hp] at hid
    simp only [A3,List.mem_cons] at hid
    rcases hid with rfl | hid
    ·exact (k3 _ hp).1
    ·exact i3 id hid
 | .nst e t::ms,[],us,x,ow,h,hL=>by simp [Mm] at h
 | .nst e t::ms,l::ls,[],x,ow,h,hL=>hL.elim
 | .nst e t::ms,l::ls,u::us,x,ow,h,hL=>by
  simp only [Mm] at h
  obtain ⟨p,h1,h2⟩:=A6 h
  obtain ⟨q,h3,h4⟩:=A6 h2
  cases h4
  obtain ⟨i1,i2,i3⟩:=Ay9 (ms:=ms) hres h3 hL.2
  rcases f8 h1 with ⟨rfl,rfl⟩ | ⟨id,j,xs,rfl,rfl,hr⟩
  ·have hl:u=.slice none 0 0:=hL.1.1
   subst hl
   exact ⟨⟨_,us,rfl,⟨[],⟨by simp,.inl ⟨rfl,rfl⟩⟩,fun i y v q1 q2=>by simp at q2⟩,i1⟩,i2,i3⟩
  ·have r:=hres id
   rw [hr] at r
   obtain ⟨cs,h1,h2,hb,_⟩:=r
   have hl:=hL.1.1
   simp only [Cx,hr] at hl
   subst hl
   refine ⟨⟨_,us,rfl,⟨cs,h1,fun i y v q1 q2=>?_⟩,i1⟩,?_,?_⟩
   ·obtain ⟨ds,d1,d2,_⟩:=h2.row i y v q1 q2
    exact ⟨ds,d1,d2⟩
   ·simp only [C8,owB,List.head?_cons,Option.bind_some,List.tail_cons,List.headD_cons,hb,i2,hr,Jw.nst0,Bool.not_false,cond_true]
   ·intro j' hj'
    simp only [A3,List.mem_cons] at hj'
    rcases hj' with rfl | hj'
    ·rw [hr]; rfl
    ·exact i3 j' hj'
def M2:(ms:List Md)→BxD ms→List (Option Nat)→(Nat→Jw)→Nat→Jw
 | [],_,_,res=>res
 | .rd _::ms,y,ow,res=>M2 ms y ow res
 | .own _ _::ms,y,ow,res=>M2 ms y ow.tail (match ow.head? with | some (some id)=>K3 res id .dead | _=>res)
 | .bx T t::ms,y,ow,res=>M2 ms y.2 ow.tail (match ow.head? with | some (some id)=>K3 res id (.box T (t.leafs y.1)) | _=>res)
 | .mu e t::ms,y,ow,res=>M2 ms y.2 ow.tail (match ow.head? with | some (some id)=>K3 res id (.row e t y.1) | _=>res)
 | .nst e t::ms,y,ow,res=>M2 ms y.2 ow.tail (match ow.head? with | some (some id)=>K3 res id (.last e t y.1 false id) | _=>res)
def Uu:List Md→List (Option Nat)→(Nat→Option Nat)→Nat→Option Nat
 | [],_,blk=>blk
 | .rd _::ms,ow,blk=>Uu ms ow blk
 | .own _ _::ms,ow,blk=>Uu ms ow.tail (match ow.head? with | some (some id)=>K3 blk id none | _=>blk)
 | .bx _ _::ms,ow,blk=>Uu ms ow.tail blk
 | .mu _ _::ms,ow,blk=>Uu ms ow.tail blk
 | .nst _ _::ms,ow,blk=>Uu ms ow.tail blk
def Aed (w:World) (hdr:Nat→Value):List Md→List (Option Nat)→(Nat→List Nat)→Nat→List Nat
 | [],_,inn=>inn
 | .rd _::ms,ow,inn=>Aed w hdr ms ow inn
 | .own _ _::ms,ow,inn=>Aed w hdr ms ow.tail inn
 | .bx _ _::ms,ow,inn=>Aed w hdr ms ow.tail inn
 | .mu _ _::ms,ow,inn=>Aed w hdr ms ow.tail inn
 | .nst _ _::ms,ow,inn=>Aed w hdr ms ow.tail (match ow.head? with | some (some id)=>K3 inn id (Xv w (hdr id)) | _=>inn)
theorem De:∀ {ms:List Md} {y:BxD ms} {ow:List (Option Nat)} {res:Nat→Jw} {j:Nat},j ∉ A3 ow→M2 ms y ow res j=res j
 | [],_,_,_,_,_=>rfl
 | .rd _::ms,y,ow,res,j,h=>De (ms:=ms) h
 | .own _ _::ms,y,[],res,j,h=>De (ms:=ms) h
 | .own _ _::ms,y,none::ow,res,j,h=>De (ms:=ms) (ow:=ow) h
 | .own _ _::ms,y,some id::ow,res,j,h=>by
  simp only [A3,List.mem_cons,not_or] at h
  exact (De (ms:=ms) (y:=y) (ow:=ow) h.2).trans (As _ _ h.1)
 | .bx _ _::ms,y,[],res,j,h=>De (ms:=ms) h
 | .bx _ _::ms,y,none::ow,res,j,h=>De (ms:=ms) (ow:=ow) h
 | .bx _ _::ms,y,some id::ow,res,j,h=>by
  simp only [A3,List.mem_cons,not_or] at h
  exact (De (ms:=ms) (y:=y.2) (ow:=ow) h.2).trans (As _ _ h.1)
 | .mu _ _::ms,y,[],res,j,h=>De (ms:=ms) h
 | .mu _ _::ms,y,none::ow,res,j,h=>De (ms:=ms) (ow:=ow) h
 | .mu _ _::ms,y,some id::ow,res,j,h=>by
  simp only [A3,List.mem_cons,not_or] at h
  exact (De (ms:=ms) (y:=y.2) (ow:=ow) h.2).trans (As _ _ h.1)
 | .nst _ _::ms,y,[],res,j,h=>De (ms:=ms) h
 | .nst _ _::ms,y,none::ow,res,j,h=>De (ms:=ms) (ow:=ow) h
 | .nst _ _::ms,y,some id::ow,res,j,h=>by
  simp only [A3,List.mem_cons,not_or] at h
  exact (De (ms:=ms) (y:=y.2) (ow:=ow) h.2).trans (As _ _ h.1)
theorem F1 {w:World} {hdr:Nat→Value}:∀ {ms:List Md} {ow:List (Option Nat)} {inn:Nat→List Nat} {j:Nat},j ∉ A3 ow→Aed w hdr ms ow inn j=inn j
 | [],_,_,_,_=>rfl
 | .rd _::ms,ow,inn,j,h=>F1 (ms:=ms) h
 | .own _ _::ms,[],inn,j,h=>F1 (ms:=ms) h
 | .own _ _::ms,none::ow,inn,j,h=>F1 (ms:=ms) (ow:=ow) h
 | .own _ _::ms,some id::ow,inn,j,h=>by
  simp only [A3,List.mem_cons,not_or] at h
  exact F1 (ms:=ms) (ow:=ow) h.2
 | .bx _ _::ms,[],inn,j,h=>F1 (ms:=ms) h
 | .bx _ _::ms,none::ow,inn,j,h=>F1 (ms:=ms) (ow:=ow) h
 | .bx _ _::ms,some id::ow,inn,j,h=>by
  simp only [A3,List.mem_cons,not_or] at h
  exact F1 (ms:=ms) (ow:=ow) h.2
 | .mu _ _::ms,[],inn,j,h=>F1 (ms:=ms) h
 | .mu _ _::ms,none::ow,inn,j,h=>F1 (ms:=ms) (ow:=ow) h
 | .mu _ _::ms,some id::ow,inn,j,h=>by
  simp only [A3,List.mem_cons,not_or] at h
  exact F1 (ms:=ms) (ow:=ow) h.2
 | .nst _ _::ms,[],inn,j,h=>F1 (ms:=ms) h
 | .nst _ _::ms,none::ow,inn,j,h=>F1 (ms:=ms) (ow:=ow) h
 | .nst _ _::ms,some id::ow,inn,j,h=>by
  simp only [A3,List.mem_cons,not_or] at h
  exact (F1 (ms:=ms) (ow:=ow) h.2).trans (As _ _ h.1)
theorem Ek:∀ {ms:List Md} {ow:List (Option Nat)} {blk:Nat→Option Nat} {j:Nat},j ∉ A3 ow→Uu ms ow blk j=blk j
 | [],_,_,_,_=>rfl
 | .rd _::ms,ow,blk,j,h=>Ek (ms:=ms) h
 | .own _ _::ms,[],blk,j,h=>Ek (ms:=ms) h
 | .own _ _::ms,none::ow,blk,j,h=>Ek (ms:=ms) (ow:=ow) h
 | .own _ _::ms,some id::ow,blk,j,h=>by
  simp only [A3,List.mem_cons,not_or] at h
  simp only [Uu,List.head?_cons,List.tail_cons]
  rw [Ek (ms:=ms) h.2,As _ _ h.1]
 | .bx _ _::ms,[],blk,j,h=>Ek (ms:=ms) h
 | .bx _ _::ms,none::ow,blk,j,h=>Ek (ms:=ms) (ow:=ow) h
 | .bx _ _::ms,some id::ow,blk,j,h=>by
  simp only [A3,List.mem_cons,not_or] at h
  simp only [Uu,List.head?_cons,List.tail_cons]
  exact Ek (ms:=ms) h.2
 | .mu _ _::ms,[],blk,j,h=>Ek (ms:=ms) h
 | .mu _ _::ms,none::ow,blk,j,h=>Ek (ms:=ms) (ow:=ow) h
 | .mu _ _::ms,some id::ow,blk,j,h=>by
  simp only [A3,List.mem_cons,not_or] at h
  simp only [Uu,List.head?_cons,List.tail_cons]
  exact Ek (ms:=ms) h.2
 | .nst _ _::ms,[],blk,j,h=>Ek (ms:=ms) h
 | .nst _ _::ms,none::ow,blk,j,h=>Ek (ms:=ms) (ow:=ow) h
 | .nst _ _::ms,some id::ow,blk,j,h=>by
  simp only [A3,List.mem_cons,not_or] at h
  simp only [Uu,List.head?_cons,List.tail_cons]
  exact Ek (ms:=ms) h.2
theorem N0:∀ {ms:List Md} {ow:List (Option Nat)} {blk:Nat→Option Nat} {j b:Nat},Uu ms ow blk j=some b→blk j=some b
 | [],_,_,_,_,h=>h
 | .rd _::ms,ow,blk,j,b,h=>N0 (ms:=ms) h
 | .own _ _::ms,[],blk,j,b,h=>N0 (ms:=ms) h
 | .own _ _::ms,none::ow,blk,j,b,h=>N0 (ms:=ms) (ow:=ow) h
 | .own _ _::ms,some id::ow,blk,j,b,h=>by
  simp only [Uu,List.head?_cons,List.tail_cons] at h
  have:=N0 (ms:=ms) h
  by_cases q:j=id
  ·subst q; simp at this
  ·rwa [As _ _ q] at this
 | .bx _ _::ms,ow,blk,j,b,h=>N0 (ms:=ms) h
 | .mu _ _::ms,ow,blk,j,b,h=>N0 (ms:=ms) h
 | .nst _ _::ms,ow,blk,j,b,h=>N0 (ms:=ms) h
def owX:List Md→List (Option Nat)→List Nat
 | [],_=>[]
 | .rd _::ms,ow=>owX ms ow
 | .own _ _::ms,ow=>owX ms ow.tail
 | .bx _ _::ms,ow=>(match ow.head? with | some (some id)=>[id] | _=>[])++owX ms ow.tail
 | .mu _ _::ms,ow=>(match ow.head? with | some (some id)=>[id] | _=>[])++owX ms ow.tail
 | .nst _ _::ms,ow=>(match ow.head? with | some (some id)=>[id] | _=>[])++owX ms ow.tail
theorem Adc {ow:List (Option Nat)} {id:Nat} (h:id∈A3 ow.tail):id∈A3 ow:=by
 match ow,h with
 | none::r,h=>exact h
 | some i::r,h=>exact List.mem_cons_of_mem _ h
theorem Aas:∀ {ms:List Md} {ow:List (Option Nat)} {id:Nat},id∈owX ms ow→id∈A3 ow
 | .rd _::ms,ow,id,h=>Aas (ms:=ms) h
 | .own _ _::ms,ow,id,h=>Adc (Aas (ms:=ms) h)
 | .bx _ _::ms,ow,id,h=>by
  rcases List.mem_append.1 h with h | h
  ·match ow,h with
   | some i::r,h=>rw [List.mem_singleton.1 h]; exact List.mem_cons_self ..
  ·exact Adc (Aas (ms:=ms) h)
 | .mu _ _::ms,ow,id,h=>by
  rcases List.mem_append.1 h with h | h
  ·match ow,h with
   | some i::r,h=>rw [List.mem_singleton.1 h]; exact List.mem_cons_self ..
  ·exact Adc (Aas (ms:=ms) h)
 | .nst _ _::ms,ow,id,h=>by
  rcases List.mem_append.1 h with h | h
  ·match ow,h with
   | some i::r,h=>rw [List.mem_singleton.1 h]; exact List.mem_cons_self ..
  ·exact Adc (Aas (ms:=ms) h)
def bkB (w:World) (s:St) (g:Gh) (id:Nat):List Nat:=(g.blk id).toList++(bif (s.res id).nst0 then Xv w (g.hdr id) else [])
theorem Ajc {w':World} (hres:∀ id,Lr s g w id (s.res id)):∀ {ms:List Md} {ls:List Lf} {us:List Value} {x:Xo ms} {ow:List (Option Nat)},Mm s ms ls=some (x,ow)→I6 s g w ls us→d5 w' ms us=(owX ms ow).flatMap (bkB w' s g)
 | [],[],[],x,ow,h,_=>rfl
 | [],[],_::_,_,_,_,hL=>hL.elim
 | [],_::_,_,_,_,h,_=>by simp [Mm] at h
 | .rd t::ms,ls,us,x,ow,h,hL=>by
  simp only [Mm] at h
  obtain ⟨p,h1,h2⟩:=A6 h
  obtain ⟨q,h3,h4⟩:=A6 h2
  cases h4
  obtain ⟨e1,_⟩:=St.parse_K hres (x:=p.1) (r:=p.2) h1 hL
  exact Ajc (ms:=ms) (us:=us.drop t.sz) hres h3 (by rw [e1]; exact hL.drop _)
 | .own e t::ms,[],us,x,ow,h,hL=>by simp [Mm] at h
 | .own e t::ms,l::ls,[],x,ow,h,hL=>hL.elim
 | .own e t::ms,l::ls,u::us,x,ow,h,hL=>by
  simp only [Mm] at h
  obtain ⟨p,h1,h2⟩:=A6 h
  obtain ⟨q,h3,h4⟩:=A6 h2
  cases h4
  exact Ajc (ms:=ms) hres h3 hL.2
 | .bx T t::ms,[],us,x,ow,h,hL=>by simp [Mm] at h
 | .bx T t::ms,.c _::ls,us,x,ow,h,hL=>by simp [Mm] at h
 | .bx T t::ms,.sl _ _::ls,us,x,ow,h,hL=>by simp [Mm] at h
 | .bx T t::ms,.row _::ls,us,x,ow,h,hL=>by simp [Mm] at h
 | .bx T t::ms,.ep _ _ _ _::ls,us,x,ow,h,hL=>by simp [Mm] at h
 | .bx T t::ms,.rp _ _ _::ls,us,x,ow,h,hL=>by simp [Mm] at h
 | .bx T t::ms,.sp _::ls,us,x,ow,h,hL=>by simp [Mm] at h
 | .bx T t::ms,.ptr id off::ls,[],x,ow,h,hL=>hL.elim
 | .bx T t::ms,.ptr id off::ls,u::us,x,ow,h,hL=>by
  simp only [Mm] at h
  split at h
  ·rename_i T' bl hr
   split at h
   ·split at h
    ·split at h
     ·obtain ⟨q,h3,h4⟩:=A6 h
      cases h4
      have r:=hres id
      rw [hr] at r
      obtain ⟨b,cs,hb,hh,hbl⟩:=r
      have hl:=hL.1.1
      simp only [Cx,hr] at hl
      obtain ⟨b',hb',hu⟩:=hl
      obtain rfl:b=b':=Option.some.inj (hb.symm.trans hb')
      subst hu
      simp only [d5,owX,List.head?_cons,Option.bind_some,List.tail_cons,Xw,List.flatMap_append,List.flatMap_singleton,bkB,hb,hr,Jw.nst0,cond_false,List.append_nil]
      rw [Ajc (ms:=ms) hres h3 hL.2]
     ·cases h
    ·cases h
   ·cases h
  ·cases h
 | .mu e t::ms,[],us,x,ow,h,hL=>by simp [Mm] at h
 | .mu e t::ms,l::ls,[],x,ow,h,hL=>hL.elim
 | .mu e t::ms,l::ls,u::us,x,ow,h,hL=>by
  simp only [Mm] at h
  obtain ⟨p,h1,h2⟩:=A6 h
  obtain ⟨q,h3,h4⟩:=A6 h2
  cases h4
  obtain ⟨k1,k2,k3⟩:=Agb hres h1 hL.1.1
  simp only [d5,owX,List.head?_cons,Option.bind_some,List.tail_cons,List.flatMap_append,k2]
  rw [Ajc (ms:=ms) hres h3 hL.2]
  cases hp:p.1 with
  | none=>rfl
  | some j=>simp only [List.flatMap_singleton,bkB,(k3 j hp).2,cond_false,List.append_nil,Option.bind_some]
 | .nst e t::ms,[],us,x,ow,h,hL=>by simp [Mm] at h
 | .nst e t::ms,l::ls,[],x,ow,h,hL=>hL.elim
 | .nst e t::ms,l::ls,u::us,x,ow,h,hL=>by
  simp only [Mm] at h
  obtain ⟨p,h1,h2⟩:=A6 h
  obtain ⟨q,h3,h4⟩:=A6 h2
  cases h4
  have ih:=Ajc (w':=w') (ms:=ms) hres h3 hL.2
  rcases f8 h1 with ⟨rfl,rfl⟩ | ⟨id,j,xs,rfl,rfl,hr⟩
  ·have hl:u=.slice none 0 0:=hL.1.1
   subst hl
   exact ih
  ·have r:=hres id
   rw [hr] at r
   obtain ⟨cs,h1,h2,hb,_⟩:=r
   have hl:=hL.1.1
   simp only [Cx,hr] at hl
   subst hl
   simp only [d5,owX,List.head?_cons,Option.bind_some,List.tail_cons,List.headD_cons,List.flatMap_append,List.flatMap_singleton,bkB,hb,hr,Jw.nst0,Bool.not_false,cond_true]
   rw [ih]
inductive Tf (s:St) (g:Gh) (X:List Nat) (s2:St) (g2:Gh) (w':World) (id:Nat):Prop where
 | gone:s2.res id=.dead→g2.blk id=none→Tf s g X s2 g2 w' id
 | box (T:TypeId) (ls:List Lf) (b:Nat):(∃ T' ls',s.res id=.box T' ls')→s2.res id=.box T ls→g2.blk id=g.blk id→g.blk id=some b→id∈X→Lr s2 g2 w' id (.box T ls)→Tf s g X s2 g2 w' id
 | row (e:TypeId) (t:Ty) (xs:List t.D):(∃ e',∃ xs':List t.D,s.res id=.row e' t xs'∧xs.length=xs'.length)→s2.res id=.row e t xs→g2.blk id=g.blk id→g2.hdr id=g.hdr id→id∈X→Lr s2 g2 w' id (.row e t xs)→Tf s g X s2 g2 w' id
 | nst (e:NE) (t:Ty) (xs:List (List t.D)):(∃ e' j',∃ xs':List (List t.D),s.res id=.last e' t xs' false j'∧xs.length=xs'.length)→s2.res id=.last e t xs false id→g2.blk id=g.blk id→g2.hdr id=g.hdr id→id∈X→g2.innL id=Xv w' (g.hdr id)→Lr s2 g2 w' id (.last e t xs false id)→Tf s g X s2 g2 w' id
theorem Tf.imp {X X':List Nat} {s2:St} {g2:Gh} {w':World} {id:Nat} (h:Tf s g X s2 g2 w' id) (hX:∀ i∈X,i∈X'):Tf s g X' s2 g2 w' id:=by
 cases h with
 | gone a b=>exact .gone a b
 | box T l b a1 a2 a3 a4 a5 a6=>exact .box T l b a1 a2 a3 a4 (hX _ a5) a6
 | row e1 t1 xs a1 a2 a3 a4 a5 a6=>exact .row e1 t1 xs a1 a2 a3 a4 (hX _ a5) a6
 | nst e1 t1 xs a1 a2 a3 a4 a5 a6 a7=>exact .nst e1 t1 xs a1 a2 a3 a4 (hX _ a5) a6 a7
theorem Ade {s2:St} {g2:Gh} {w':World} (hres:∀ id,Lr s g w id (s.res id)):∀ {ms:List Md} {ls:List Lf} {us:List Value} {x:Xo ms} {y:BxD ms} {ow:List (Option Nat)} {res:Nat→Jw} {blk:Nat→Option Nat} {inn:Nat→List Nat},
  Mm s ms ls=some (x,ow)→I6 s g w ls us→(A3 ow).Nodup→(d5 w' ms us).Nodup→BkR w' (Eg s2 g2) ms y us→
  (∀ id∈A3 ow,s2.res id=M2 ms y ow res id∧g2.blk id=Uu ms ow blk id∧blk id=g.blk id∧(∀ e,∀ t:Ty,∀ xs:List t.D,s.res id=.row e t xs→g2.hdr id=g.hdr id)∧((s.res id).nst=true→g2.hdr id=g.hdr id)∧g2.innL id=Aed w' g.hdr ms ow inn id)→∀ id∈A3 ow,Tf s g (owX ms ow) s2 g2 w' id
 | [],[],us,x,y,ow,res,blk,inn,h,hL,hn,hd,hB,hag,id,hid=>by
  simp only [Mm] at h
  cases h
  simp [A3] at hid
 | [],_::_,us,x,y,ow,res,blk,inn,h,hL,hn,hd,hB,hag,id,hid=>by simp [Mm] at h
 | .rd t::ms,ls,us,x,y,ow,res,blk,inn,h,hL,hn,hd,hB,hag,id,hid=>by
  simp only [Mm] at h
  obtain ⟨p,h1,h2⟩:=A6 h
  obtain ⟨q,h3,h4⟩:=A6 h2
  cases h4
  have e1:p.2=ls.drop t.sz:=St.parse_drop (x:=p.1) (r:=p.2) h1
  exact Ade hres (ms:=ms) (us:=us.drop t.sz) h3 (by rw [e1]; exact hL.drop _) hn hd hB hag id hid
 | .own e t::ms,[],us,x,y,ow,res,blk,inn,h,hL,hn,hd,hB,hag,id,hid=>by simp [Mm] at h
 | .own e t::ms,l::ls,[],x,y,ow,res,blk,inn,h,hL,hn,hd,hB,hag,id,hid=>hL.elim
 | .own e t::ms,l::ls,u::us,x,y,ow,res,blk,inn,h,hL,hn,hd,hB,hag,id,hid=>by
  simp only [Mm] at h
  obtain ⟨p,h1,h2⟩:=A6 h
  obtain ⟨q,h3,h4⟩:=A6 h2
  cases h4
  have lift:∀ id,Tf s g (owX ms q.2) s2 g2 w' id→Tf s g (owX (.own e t::ms) (p.1::q.2)) s2 g2 w' id:=fun id hb=>hb
  cases hp:p.1 with
  | none=>
   rw [hp] at hid hn hag
   exact lift id (Ade hres (ms:=ms) h3 hL.2 hn hd hB hag id hid)
  | some j=>
   rw [hp] at hid hn hag
   simp only [A3,List.nodup_cons] at hn
   simp only [A3,List.mem_cons] at hid
   rcases hid with rfl | hid
   ·obtain ⟨a1,a2,_,_⟩:=hag id (by simp [A3])
    refine .gone (a1.trans ?_) (a2.trans ?_)
    ·exact (De (ms:=ms) (y:=y) hn.1).trans (Al _ _ _)
    ·exact (Ek (ms:=ms) hn.1).trans (Al _ _ _)
   ·refine lift id (Ade hres (ms:=ms) (res:=K3 res j .dead) (blk:=K3 blk j none) (inn:=inn) h3 hL.2 hn.2 hd hB (fun k hk=>?_) id hid)
    obtain ⟨a1,a2,a3,a4⟩:=hag k (by simp [A3,hk])
    have:k≠j:=by rintro rfl; exact hn.1 hk
    exact ⟨a1,a2,by rw [As _ _ this]; exact a3,a4⟩
 | .bx T t::ms,[],us,x,y,ow,res,blk,inn,h,hL,hn,hd,hB,hag,id,hid=>by simp [Mm] at h
 | .bx T t::ms,.c _::ls,us,x,y,ow,res,blk,inn,h,hL,hn,hd,hB,hag,id,hid=>by simp [Mm] at h
 | .bx T t::ms,.sl _ _::ls,us,x,y,ow,res,blk,inn,h,hL,hn,hd,hB,hag,id,hid=>by simp [Mm] at h
 | .bx T t::ms,.row _::ls,us,x,y,ow,res,blk,inn,h,hL,hn,hd,hB,hag,id,hid=>by simp [Mm] at h
 | .bx T t::ms,.ep _ _ _ _::ls,us,x,y,ow,res,blk,inn,h,hL,hn,hd,hB,hag,id,hid=>by simp [Mm] at h
 | .bx T t::ms,.rp _ _ _::ls,us,x,y,ow,res,blk,inn,h,hL,hn,hd,hB,hag,id,hid=>by simp [Mm] at h
 | .bx T t::ms,.sp _::ls,us,x,y,ow,res,blk,inn,h,hL,hn,hd,hB,hag,id,hid=>by simp [Mm] at h
 | .bx T t::ms,.ptr j off::ls,[],x,y,ow,res,blk,inn,h,hL,hn,hd,hB,hag,id,hid=>hL.elim
 | .bx T t::ms,.ptr j off::ls,u::us,x,y,ow,res,blk,inn,h,hL,hn,hd,hB,hag,id,hid=>by
  simp only [Mm] at h
  split at h
  ·rename_i T' bl hr
   split at h
   ·rename_i hT
    split at h
    ·rename_i ho
     split at h
     ·rename_i z hp
      obtain ⟨q,h3,h4⟩:=A6 h
      cases h4
      subst hT ho
      have hl:=hL.1.1
      simp only [Cx,hr] at hl
      obtain ⟨b,hb,hu⟩:=hl
      subst hu
      simp only [A3,List.nodup_cons] at hn
      simp only [A3,List.mem_cons] at hid
      simp only [BkR,List.head?_cons,List.tail_cons] at hB
      obtain ⟨⟨b2,e2,⟨cs,hh,hk⟩⟩,hB2⟩:=hB
      cases e2
      rcases hid with rfl | hid
      ·obtain ⟨a1,a2,a3,_,_⟩:=hag id (by simp [A3])
       have a1:=a1.trans ((De (ms:=ms) (y:=y.2) hn.1).trans (Al _ _ _))
       have a2:=a2.trans ((Ek (ms:=ms) hn.1).trans a3)
       exact .box T' _ b ⟨_,_,hr⟩ a1 a2 hb (List.mem_append_left _ (List.mem_singleton.2 rfl)) ⟨b,cs,by rw [a2]; exact hb,hh,Ty.K_leafs hk⟩
      ·have:=Ade hres (ms:=ms) (res:=K3 res j (.box T' (t.leafs y.1))) (blk:=blk) (inn:=inn) h3 hL.2 hn.2 (by simp only [d5,List.tail_cons] at hd; exact (List.nodup_append.1 hd).2.1) hB2 (fun k hk=>?_) id hid
       ·exact this.imp fun i hi=>List.mem_append_right _ hi
       ·obtain ⟨a1,a2,a3⟩:=hag k (by simp [A3,hk])
        exact ⟨a1,a2,a3⟩
     ·cases h
    ·cases h
   ·cases h
  ·cases h
 | .mu e t::ms,[],us,x,y,ow,res,blk,inn,h,hL,hn,hd,hB,hag,id,hid=>by simp [Mm] at h
 | .mu e t::ms,l::ls,[],x,y,ow,res,blk,inn,h,hL,hn,hd,hB,hag,id,hid=>hL.elim
 | .mu e t::ms,l::ls,u::us,x,y,ow,res,blk,inn,h,hL,hn,hd,hB,hag,id,hid=>by
  simp only [Mm] at h
  obtain ⟨p,h1,h2⟩:=A6 h
  obtain ⟨q,h3,h4⟩:=A6 h2
  cases h4
  simp only [BkR,List.head?_cons,List.tail_cons] at hB
  obtain ⟨⟨u2,e2,⟨cs,hh,hk⟩⟩,hB2⟩:=hB
  cases e2
  obtain ⟨k1,k2,k3⟩:=Agb hres h1 hL.1.1
  have hrow:=A4k h1
  cases hp:p.1 with
  | none=>
   rw [hp] at hid hn hag
   exact (Ade hres (ms:=ms) (y:=y.2) h3 hL.2 hn (by simp only [d5,List.tail_cons] at hd; exact (List.nodup_append.1 hd).2.1) hB2 hag id hid).imp fun i hi=>List.mem_append_right _ hi
  | some j=>
   rw [hp] at hid hn hag
   simp only [A3,List.nodup_cons] at hn
   simp only [A3,List.mem_cons] at hid
   rcases hid with rfl | hid
   ·obtain ⟨e',r1,r2⟩:=hrow id hp
    obtain ⟨a1,a2,a3,a4,_⟩:=hag id (by simp [A3])
    have a1:=a1.trans ((De (ms:=ms) (y:=y.2) hn.1).trans (Al _ _ _))
    have a2:=a2.trans ((Ek (ms:=ms) hn.1).trans a3)
    have a4:=a4 _ _ _ r1
    have hl:=hL.1.1
    rw [r2] at hl
    simp only [Cx,r1] at hl
    subst hl
    obtain ⟨cs1,o1,_⟩:=k1
    rw [hp] at k2
    refine .row e t y.1 ⟨e',p.2,r1,A78 hh o1⟩ a1 a2 a4 (List.mem_append_left _ (List.mem_singleton.2 rfl)) ⟨cs,by rw [a4]; exact hh,hk,by rw [a2,a4]; exact k2.symm⟩
   ·refine (Ade hres (ms:=ms) (y:=y.2) (res:=K3 res j (.row e t y.1)) (blk:=blk) (inn:=inn) h3 hL.2 hn.2 (by simp only [d5,List.tail_cons] at hd; exact (List.nodup_append.1 hd).2.1) hB2 (fun k hk=>?_) id hid).imp fun i hi=>List.mem_append_right _ hi
    obtain ⟨a1,a2,a3,a4⟩:=hag k (by simp [A3,hk])
    exact ⟨a1,a2,a3,a4⟩
 | .nst e t::ms,[],us,x,y,ow,res,blk,inn,h,hL,hn,hd,hB,hag,id,hid=>by simp [Mm] at h
 | .nst e t::ms,l::ls,[],x,y,ow,res,blk,inn,h,hL,hn,hd,hB,hag,id,hid=>hL.elim
 | .nst e t::ms,l::ls,u::us,x,y,ow,res,blk,inn,h,hL,hn,hd,hB,hag,id,hid=>by
  simp only [Mm] at h
  obtain ⟨p,h1,h2⟩:=A6 h
  obtain ⟨q,h3,h4⟩:=A6 h2
  cases h4
  simp only [BkR,List.head?_cons,List.tail_cons] at hB
  obtain ⟨⟨u2,e2,⟨cs,hh,hk⟩⟩,hB2⟩:=hB
  cases e2
  simp only [d5,List.head?_cons,Option.bind_some,List.tail_cons,List.headD_cons] at hd
  obtain ⟨d1,d2,_⟩:=List.nodup_append.1 hd
  rcases f8 h1 with ⟨rfl,rfl⟩ | ⟨j,j0,xs,rfl,rfl,hr⟩
  ·exact (Ade hres (ms:=ms) (y:=y.2) h3 hL.2 hn d2 hB2 hag id hid).imp fun i hi=>List.mem_append_right _ hi
  ·have hl:=hL.1.1
   simp only [Cx,hr] at hl
   subst hl
   have r:=hres j
   rw [hr] at r
   obtain ⟨cs0,o1,_,o3,_⟩:=r
   have o1:Hr w (.sl t) 0 e.o 1 (g.hdr j) xs.length cs0:=o1
   simp only [A3,List.nodup_cons] at hn
   simp only [A3,List.mem_cons] at hid
   rcases hid with rfl | hid
   ·obtain ⟨a1,a2,a3,_,a5,a6⟩:=hag id (by simp [A3])
    have a1:=a1.trans ((De (ms:=ms) (y:=y.2) hn.1).trans (Al _ _ _))
    have a2:=a2.trans ((Ek (ms:=ms) hn.1).trans a3)
    have a5:=a5 (by rw [hr]; rfl)
    have a6:=a6.trans ((F1 (ms:=ms) hn.1).trans (Al _ _ _))
    have hci:g2.innL id=cs.filterMap Value.ownBlock:=by rw [a6]; exact Af8 hh
    have hnc:(cs.filterMap Value.ownBlock).Nodup:=by rw [Af8 hh] at d1; exact (List.nodup_append.1 d1).2.1
    refine .nst e t y.1 ⟨e,j0,xs,hr,A78 hh o1⟩ a1 a2 a5 (List.mem_append_left _ (List.mem_singleton.2 rfl)) a6 ⟨cs,by rw [a5]; exact hh,⟨fun i z v q1 q2=>?_,fun i i' v v' b _ _ q1 q2 q3 q4=>z7 hnc q1 q2 q3 q4⟩,by rw [a2,a5]; exact o3,fun _ hc=>by cases hc⟩
    obtain ⟨ds,m1,m2⟩:=hk i z v q1 q2
    refine ⟨ds,m1,m2,fun b hb=>?_⟩
    show b∈g2.innL id
    rw [hci]
    exact List.mem_filterMap.2 ⟨v,List.mem_of_getElem? q2,hb⟩
   ·have:=Ade hres (ms:=ms) (y:=y.2) (res:=K3 res j (.last e t y.1 false j)) (blk:=blk) (inn:=K3 inn j (Xv w' (g.hdr j))) h3 hL.2 hn.2 d2 hB2 (fun k hk=>hag k (by simp [A3,hk])) id hid
    exact this.imp fun i hi=>List.mem_append_right _ hi
end
end
section
def shL:List (Option Nat)→List Vl→Option (List Lf)
 | [],[]=>some []
 | none::sh,.lf l::vs=>(shL sh vs).bind fun r=>some (l::r)
 | some k::sh,.ag ls::vs=>if ls.length=k then (shL sh vs).bind fun r=>some (ls++r) else none
 | _,_=>none
def shV:List (Option Nat)→List Lf→Option (List Vl)
 | [],[]=>some []
 | none::sh,l::ls=>(shV sh ls).bind fun r=>some (.lf l::r)
 | some k::sh,ls=>if k≤ls.length then (shV sh (ls.drop k)).bind fun r=>some (.ag (ls.take k)::r) else none
 | _,_=>none
def VLR (s:St) (g:Gh) (w:World):List Vl→List Value→Prop
 | [],[]=>True
 | v::vs,u::us=>VlR s g w v u∧VLR s g w vs us
 | _,_=>False
def Aod:Ty→Bool
 | .sl _=>false
 | .pair a b=>Aod a&&Aod b
 | _=>true
def I8:List Md→Bool
 | []=>true
 | .rd t::ms=>Aod t&&I8 ms
 | .own _ t::ms=>Aod t&&I8 ms
 | .bx _ t::ms=>Aod t&&I8 ms
 | .mu _ t::ms=>Aod t&&I8 ms
 | .nst _ t::ms=>Aod t&&I8 ms
def O0:List Md→Bool
 | []=>true
 | .bx _ t::ms=>Aod t&&O0 ms
 | .mu _ t::ms=>Aod t&&O0 ms
 | .nst _ t::ms=>Aod t&&O0 ms
 | .rd _::ms=>O0 ms
 | .own _ _::ms=>O0 ms
def Tg (s:St) (nid:Nat):Nat→Bool
 | 0=>true
 | k + 1=>(match s.res nid with | .unborn=>true | _=>false)&&Tg s (nid + 1) k
def Bbf:List Vl→AV
 | [v]=>.vl v
 | vs=>.tp vs
def Aly (sg:E5) (den:Xo sg.ps→Option (Xo sg.rs×BxD sg.ps)) (s:St) (nid:Nat) (vs:List Vl):Option (AV×St):=
 (shL sg.psh vs).bind fun ls=>
  let sF:=s.frz (Hs s sg.ps ls)
  let sA:=if I8 sg.rs&&O0 sg.ps then s else sF
  (Mm sF sg.ps ls).bind fun q=>if Vm (A3 q.2) then (if Tg sA nid (Is sg.rs) then (den q.1).bind fun r=>
   (shV sg.rsh (A23 sg.rs r.1 nid)).bind fun vs'=>some (Bbf vs',⟨sA.cell,Jb sg.rs r.1 nid (M2 sg.ps r.2 q.2 sA.res)⟩)
   else none) else none
section
variable {P:Program} {n B:Nat} {Iq:List Nat} {s:St} {g:Gh} {a:Act} {w:World}
theorem Bcx:∀ {sh:List (Option Nat)} {vs:List Vl} {us:List Value} {ls:List Lf},shL sh vs=some ls→VLR s g w vs us→∃ cs,ShR sh us cs∧I6 s g w ls cs
 | [],[],[],ls,h,_=>by simp only [shL] at h; cases h; exact ⟨[],⟨rfl,rfl⟩,trivial⟩
 | [],[],_::_,ls,h,hV=>hV.elim
 | [],_::_,us,ls,h,hV=>by simp [shL] at h
 | none::sh,[],us,ls,h,hV=>by simp [shL] at h
 | none::sh,.ag _::vs,us,ls,h,hV=>by simp [shL] at h
 | none::sh,.lf l::vs,[],ls,h,hV=>hV.elim
 | none::sh,.lf l::vs,u::us,ls,h,hV=>by
  simp only [shL] at h
  obtain ⟨r,h1,h2⟩:=A6 h
  cases h2
  obtain ⟨cs,k1,k2⟩:=Bcx h1 hV.2
  exact ⟨u::cs,⟨u,us,cs,rfl,rfl,hV.1.2,k1⟩,⟨hV.1.1,hV.1.2⟩,k2⟩
 | some k::sh,[],us,ls,h,hV=>by simp [shL] at h
 | some k::sh,.lf _::vs,us,ls,h,hV=>by simp [shL] at h
 | some k::sh,.ag l::vs,[],ls,h,hV=>hV.elim
 | some k::sh,.ag l::vs,u::us,ls,h,hV=>by
  simp only [shL] at h
  split at h
  ·rename_i hk
   obtain ⟨r,h1,h2⟩:=A6 h
   cases h2
   obtain ⟨cs,k1,k2⟩:=Bcx h1 hV.2
   obtain ⟨c1,rfl,e2⟩:=hV.1
   exact ⟨c1.toList++cs,⟨c1,us,cs,rfl,rfl,by have:=e2.length; simp at this; omega,k1⟩,e2.append k2⟩
  ·cases h
theorem Bcy:∀ {sh:List (Option Nat)} {ls:List Lf} {us cs:List Value} {vs:List Vl},shV sh ls=some vs→I6 s g w ls cs→ShR sh us cs→VLR s g w vs us
 | [],[],us,cs,vs,h,_,hS=>by simp only [shV] at h; cases h; obtain ⟨rfl,rfl⟩:=hS; trivial
 | [],_::_,us,cs,vs,h,hL,hS=>by simp [shV] at h
 | none::sh,[],us,cs,vs,h,hL,hS=>by simp [shV] at h
 | none::sh,l::ls,us,cs,vs,h,hL,⟨u,us',cs',e1,e2,e3,hS⟩=>by
  simp only [shV] at h
  obtain ⟨r,h1,h2⟩:=A6 h
  cases h2
  subst e1 e2
  exact ⟨hL.1,Bcy h1 hL.2 hS⟩
 | some k::sh,ls,us,cs,vs,h,hL,⟨c1,us',cs',e1,e2,e3,hS⟩=>by
  simp only [shV] at h
  split at h
  ·obtain ⟨r,h1,h2⟩:=A6 h
   cases h2
   subst e1 e2
   have hc:c1.toList.length=k:=by simpa using e3
   refine ⟨⟨c1,rfl,?_⟩,Bcy h1 (cs:=cs') ?_ hS⟩
   ·have:=hL.take k
    rwa [List.take_left' hc] at this
   ·have:=hL.drop k
    rwa [List.drop_left' hc] at this
  ·cases h
theorem VLR.length:∀ {vs:List Vl} {us:List Value},VLR s g w vs us→us.length=vs.length
 | [],[],_=>rfl
 | [],_::_,h=>h.elim
 | _::_,[],h=>h.elim
 | _::_,_::_,h=>by simp [VLR.length h.2]
theorem VLR.get:∀ {vs:List Vl} {us:List Value} {j:Nat} {v:Vl},VLR s g w vs us→vs[j]? = some v→∃ u,us[j]? = some u∧VlR s g w v u
 | [],_,j,v,_,h=>by simp at h
 | _::_,[],_,_,h,_=>h.elim
 | x::vs,u::us,0,v,h,hj=>by simp at hj; subst hj; exact ⟨u,rfl,h.1⟩
 | x::vs,u::us,j + 1,v,h,hj=>by
  obtain ⟨u',e1,e2⟩:=VLR.get h.2 (j:=j) (by simpa using hj)
  exact ⟨u',by simpa using e1,e2⟩
theorem VLR.imp {s':St} {g':Gh} {w':World} (k:∀ v u,VlR s g w v u→VlR s' g' w' v u):∀ {vs:List Vl} {us:List Value},VLR s g w vs us→VLR s' g' w' vs us
 | [],[],_=>trivial
 | [],_::_,h=>h.elim
 | _::_,[],h=>h.elim
 | _::_,_::_,h=>⟨k _ _ h.1,VLR.imp k h.2⟩
theorem Bf3 {vs:List Vl} {us:List Value} (h:VLR s g w vs us):c9 s g w (Bbf vs) (A54 us):=by
 match vs,us,h with
 | [],[],_=>exact ⟨#[],rfl,rfl,fun j v hv=>by simp at hv⟩
 | [v],[u],h=>exact h.1
 | v::v'::vs,u::u'::us,h=>
  refine ⟨(u::u'::us).toArray,rfl,by simp [h.2.2.length],fun j x hx=>?_⟩
  obtain ⟨y,e1,e2⟩:=VLR.get h hx
  exact ⟨y,by simpa using e1,e2⟩
theorem Ary {w w':World} {S S':Nat→Prop}:∀ {t:Ty},Aod t=true→∀ {x:t.D} {cs:List Value},t.K w S x cs→t.K w' S' x cs
 | .int _,_,_,_,h=>h
 | .bool,_,_,_,h=>h
 | .str,_,_,_,h=>h
 | .sl _,h,_,_,_=>by simp [Aod] at h
 | .unit,_,_,_,h=>h
 | .pair a b,h,_,_,⟨c1,c2,e,h1,h2⟩=>by
  simp only [Aod,Bool.and_eq_true] at h
  exact ⟨c1,c2,e,Ary h.1 h1,Ary h.2 h2⟩
theorem Agc {w w':World} {S S':Nat→Prop} {t:Ty} (ht:Aod t=true) {xs:List t.D} {cs:List Value} (h:Ik w S t xs cs):Ik w' S' t xs cs:=
 ⟨h.1,fun i x hx=>Ary ht (h.2 i x hx)⟩
theorem Alz {w:World} {S S':Nat→Prop}:∀ {ms:List Md} {x:Xo ms} {us:List Value},(I8 ms=true∨∀ b,S b→b < w.heap.size→S' b)→HR w S ms x us→HR w S' ms x us
 | [],_,_,_,h=>h
 | .rd t::ms,x,us,hf,⟨c1,c2,e,h1,h2⟩=>by
  refine ⟨c1,c2,e,?_,Alz ?_ h2⟩
  ·rcases hf with hf | hf
   ·simp only [I8,Bool.and_eq_true] at hf; exact Ary hf.1 h1
   ·exact Ty.K_keep (fun b hb hl=>⟨hf b hb hl,rfl⟩) h1
  ·exact hf.imp_left (fun q=>by simp only [I8,Bool.and_eq_true] at q; exact q.2)
 | .own e t::ms,x,us,hf,⟨u,c2,e1,⟨cs,h1,h1'⟩,h2⟩=>by
  refine ⟨u,c2,e1,⟨cs,h1,?_⟩,Alz ?_ h2⟩
  ·rcases hf with hf | hf
   ·simp only [I8,Bool.and_eq_true] at hf; exact Agc hf.1 h1'
   ·exact h1'.imp hf
  ·exact hf.imp_left (fun q=>by simp only [I8,Bool.and_eq_true] at q; exact q.2)
 | .bx T t::ms,x,us,hf,⟨b,c2,e1,⟨cs,h1,h1'⟩,h2⟩=>by
  refine ⟨b,c2,e1,⟨cs,h1,?_⟩,Alz ?_ h2⟩
  ·rcases hf with hf | hf
   ·simp only [I8,Bool.and_eq_true] at hf; exact Ary hf.1 h1'
   ·exact Ty.K_keep (fun b hb hl=>⟨hf b hb hl,rfl⟩) h1'
  ·exact hf.imp_left (fun q=>by simp only [I8,Bool.and_eq_true] at q; exact q.2)
 | .mu e t::ms,x,us,hf,⟨u,c2,e1,⟨cs,h1,h1'⟩,h2⟩=>by
  refine ⟨u,c2,e1,⟨cs,h1,?_⟩,Alz ?_ h2⟩
  ·rcases hf with hf | hf
   ·simp only [I8,Bool.and_eq_true] at hf; exact Agc hf.1 h1'
   ·exact h1'.imp hf
  ·exact hf.imp_left (fun q=>by simp only [I8,Bool.and_eq_true] at q; exact q.2)
 | .nst e t::ms,x,us,hf,⟨u,c2,e1,⟨cs,h1,h1'⟩,h2⟩=>by
  refine ⟨u,c2,e1,⟨cs,h1,fun i z v q1 q2=>?_⟩,Alz ?_ h2⟩
  ·obtain ⟨ds,d1,d2⟩:=h1' i z v q1 q2
   refine ⟨ds,d1,?_⟩
   rcases hf with hf | hf
   ·simp only [I8,Bool.and_eq_true] at hf; exact Agc hf.1 d2
   ·exact d2.imp hf
  ·exact hf.imp_left (fun q=>by simp only [I8,Bool.and_eq_true] at q; exact q.2)
theorem Adf {w:World} {S S':Nat→Prop}:∀ {ms:List Md} {y:BxD ms} {us:List Value},(O0 ms=true∨∀ b,S b→b < w.heap.size→S' b)→BkR w S ms y us→BkR w S' ms y us
 | [],_,_,_,h=>h
 | .rd t::ms,y,us,hf,h=>Adf (ms:=ms) (hf.imp_left (fun q=>by simpa only [O0] using q)) h
 | .own e t::ms,y,us,hf,h=>Adf (ms:=ms) (hf.imp_left (fun q=>by simpa only [O0] using q)) h
 | .bx T t::ms,y,us,hf,⟨⟨b,e1,cs,h1,h1'⟩,h2⟩=>by
  refine ⟨⟨b,e1,cs,h1,?_⟩,Adf ?_ h2⟩
  ·rcases hf with hf | hf
   ·simp only [O0,Bool.and_eq_true] at hf; exact Ary hf.1 h1'
   ·exact Ty.K_keep (fun b hb hl=>⟨hf b hb hl,rfl⟩) h1'
  ·exact hf.imp_left (fun q=>by simp only [O0,Bool.and_eq_true] at q; exact q.2)
 | .mu e t::ms,y,us,hf,⟨⟨u,e1,cs,h1,h1'⟩,h2⟩=>by
  refine ⟨⟨u,e1,cs,h1,?_⟩,Adf ?_ h2⟩
  ·rcases hf with hf | hf
   ·simp only [O0,Bool.and_eq_true] at hf; exact Agc hf.1 h1'
   ·exact h1'.imp hf
  ·exact hf.imp_left (fun q=>by simp only [O0,Bool.and_eq_true] at q; exact q.2)
 | .nst e t::ms,y,us,hf,⟨⟨u,e1,cs,h1,h1'⟩,h2⟩=>by
  refine ⟨⟨u,e1,cs,h1,fun i z v q1 q2=>?_⟩,Adf ?_ h2⟩
  ·obtain ⟨ds,d1,d2⟩:=h1' i z v q1 q2
   refine ⟨ds,d1,?_⟩
   rcases hf with hf | hf
   ·simp only [O0,Bool.and_eq_true] at hf; exact Agc hf.1 d2
   ·exact d2.imp hf
  ·exact hf.imp_left (fun q=>by simp only [O0,Bool.and_eq_true] at q; exact q.2)
theorem Aza:∀ {k nid:Nat},Tg s nid k=true→∀ j,nid≤j→j < nid + k→s.res j=.unborn
 | 0,nid,_,j,h1,h2=>by omega
 | k + 1,nid,h,j,h1,h2=>by
  simp only [Tg,Bool.and_eq_true] at h
  by_cases q:j=nid
  ·subst q
   have:=h.1
   split at this
   ·assumption
   ·cases this
  ·exact Aza h.2 j (by omega) (by omega)
theorem A79 {ls:List Lf}:∀ {s:St} {id:Nat},((s.frz ls).res id).live=true→(s.res id)=(s.frz ls).res id:=by
 induction ls with
 | nil=>intro s id _; rfl
 | cons l r ih=>
  intro s id h
  cases l with
  | row j=>
   unfold St.frz at h ⊢
   split at h
   ·rename_i e t xs hr
    have:=ih h
    by_cases q:id=j
    ·subst q
     rw [Ai] at this
     rw [← this] at h
     cases h
    ·rw [Ak s _ q] at this
     exact this
   ·rename_i e t xs c k hr
    have fN:(((s.frzN j e.u t xs c).frz r).res id).live=true→s.res id=((s.frzN j e.u t xs c).frz r).res id:=fun h=>by
     have:=ih h
     cases c with
     | true=>exact this
     | false=>
      by_cases q:id=j
      ·subst q
       have e1:(s.frzN id e.u t xs false).res id=.frozen (wrT e.u t) (wrX xs e.u):=Ai s id _
       rw [e1] at this
       rw [← this] at h
       cases h
      ·have e1:(s.frzN j e.u t xs false).res id=s.res id:=Ak s _ q
       rw [e1] at this
       exact this
    cases hk:s.res k with
    | row e' t' ys=>
     simp only [hk] at h ⊢
     split at h
     ·rename_i ht
      simp only [ht,dif_pos] at h ⊢
      have:=ih h
      by_cases q:id=j
      ·subst q
       rw [Ai] at this
       rw [← this] at h
       cases h
      ·rw [Ak _ _ q] at this
       by_cases q2:id=k
       ·subst q2
        rw [Ai] at this
        rw [← this] at h
        cases h
       ·rw [Ak _ _ q2] at this
        exact this
     ·rename_i ht
      simp only [ht,dif_neg,not_false_eq_true] at h ⊢
      exact ih h
    | unborn=>simp only [hk] at h ⊢; exact fN h
    | dead=>simp only [hk] at h ⊢; exact fN h
    | box T ls=>simp only [hk] at h ⊢; exact fN h
    | frozen t xs=>simp only [hk] at h ⊢; exact fN h
    | last _ _ _ _ _=>simp only [hk] at h ⊢; exact fN h
    | mid _ _ _ _ _=>simp only [hk] at h ⊢; exact fN h
    | map _ _=>simp only [hk] at h ⊢; exact fN h
    | iter _ _ _ _=>simp only [hk] at h ⊢; exact fN h
   ·exact ih h
  | _=>exact ih h
theorem Aoe {α β:Type} {f:α→List β}:∀ {l:List α},(l.flatMap f).Nodup→∀ {i j:α} {b:β},i∈l→j∈l→b∈f i→b∈f j→i=j
 | [],_,i,j,b,hi,_,_,_=>by simp at hi
 | c::l,h,i,j,b,hi,hj,h1,h2=>by
  rw [List.flatMap_cons] at h
  obtain ⟨n1,n2,n3⟩:=List.nodup_append.1 h
  rcases List.mem_cons.1 hi with ei | hi<;>rcases List.mem_cons.1 hj with ej | hj
  ·rw [ei,ej]
  ·rw [ei] at h1
   exact absurd rfl (n3 b h1 b (List.mem_flatMap.2 ⟨j,hj,h2⟩))
  ·rw [ej] at h2
   exact absurd rfl (n3 b h2 b (List.mem_flatMap.2 ⟨i,hi,h1⟩))
  ·exact Aoe n2 hi hj h1 h2
theorem Azb {α β:Type} {f:α→List β}:∀ {l:List α},(l.flatMap f).Nodup→∀ {i:α},i∈l→(f i).Nodup
 | [],_,i,hi=>by simp at hi
 | c::l,h,i,hi=>by
  rw [List.flatMap_cons] at h
  obtain ⟨n1,n2,n3⟩:=List.nodup_append.1 h
  rcases List.mem_cons.1 hi with ei | hi
  ·rw [ei]; exact n1
  ·exact Azb n2 hi
theorem Bf4 (h:Bp n B Iq s g a w) {w':World} {ps rs:List Md} {ow:List (Option Nat)} {nid:Nat} {r:Xo rs×BxD ps} {us us':List Value}
  (hlive:∀ id∈A3 ow,(s.res id).live=true) (hfresh:∀ j,nid≤j→j < nid + Is rs→s.res j=.unborn) (hk:Lx (owB w s g ow) w w')
  (hnd:(C8 w' rs us'++d5 w' ps us).Nodup) (hnew:∀ b∈C8 w' rs us'++d5 w' ps us,b < w'.heap.size∧(b∈owB w s g ow∨w.heap.size≤b))
  (hX:d5 w' ps us=(owX ps ow).flatMap (bkB w' s g))
  (s2:St) (g2:Gh) (hs2:s2=⟨s.cell,Jb rs r.1 nid (M2 ps r.2 ow s.res)⟩) (hg2:g2=Fc w' rs us' nid ⟨Uu ps ow g.blk,g.hdr,g.av,Aed w' g.hdr ps ow g.innL⟩)
  (hback:∀ id∈A3 ow,Tf s g (owX ps ow) s2 g2 w' id) (hH:HR w' (Eg s2 g2) rs r.1 us'):
  Bp n B Iq s2 g2 a w'∧Go B Iq s g w s2 g2 w'∧I6 s2 g2 w' (A23 rs r.1 nid) us':=by
 have hav:g2.av=g.av:=by rw [hg2]; exact f7 _ _ _ _ _
 obtain ⟨nd1,nd2,nd3⟩:=List.nodup_append.1 hnd
 have hin:∀ j,nid≤j→j < nid + Is rs→j ∉ A3 ow:=by
  intro j h1 h2 h3
  have:=hlive j h3
  rw [hfresh j h1 h2] at this
  cases this
 have hother:∀ j,¬ (nid≤j∧j < nid + Is rs)→j ∉ A3 ow→s2.res j=s.res j∧g2.blk j=g.blk j∧g2.hdr j=g.hdr j∧g2.innL j=g.innL j:=by
  intro j h1 h2
  have hj:j < nid∨nid + Is rs≤j:=by omega
  subst hs2 hg2
  refine ⟨?_,?_,?_,?_⟩
  ·exact (C5 rs r.1 nid _ j hj).trans (De h2)
  ·exact (Bb w' rs us' nid _ j hj).1.trans (Ek h2)
  ·exact (Bb w' rs us' nid _ j hj).2.1
  ·exact (Bb w' rs us' nid _ j hj).2.2.trans (F1 h2)
 have hsomes:∀ j,j∈A3 ow→¬ (nid≤j∧j < nid + Is rs):=fun j h1 h2=>hin j h2.1 h2.2 h1
 obtain ⟨hL,hR⟩:=Ay8 (s:=s2) (g:=g2) (w:=w') (fun b hb _=>hb) rs r.1 us' nid (M2 ps r.2 ow s.res) ⟨Uu ps ow g.blk,g.hdr,g.av,Aed w' g.hdr ps ow g.innL⟩ hH nd1 (fun j h1 h2=>by
  rw [hs2,hg2]; exact ⟨rfl,rfl,rfl,rfl⟩)
 have hblkin:∀ j b,nid≤j→j < nid + Is rs→g2.blk j=some b→b∈C8 w' rs us':=fun j b h1 h2 h3=>by rw [hg2] at h3; exact K5 w' rs us' nid _ j b h1 h2 h3
 have hinnin:∀ j b,nid≤j→j < nid + Is rs→(s2.res j).nst=true→g2.inn j b→b∈C8 w' rs us':=fun j b h1 h2 h3 h4=>by
  rw [hs2] at h3
  have h4:b∈g2.innL j:=h4
  rw [hg2] at h4
  exact Jc w' rs r.1 us' nid _ _ j b h1 h2 h3 h4
 have hXin:∀ id∈owX ps ow,∀ b∈bkB w' s g id,b∈d5 w' ps us:=fun id h1 b h2=>by rw [hX]; exact List.mem_flatMap.2 ⟨id,h1,h2⟩
 have hInn:∀ {id b:Nat},(s.res id).nst0=true→b∈Xv w (g.hdr id)→(s.res id).nst=true∧g.inn id b:=fun h1 h2=>⟨Jw.nst_of0 h1,(Arx h.res h1).1 _ h2⟩
 have hown:∀ b,b∈owB w s g ow→∃ id,id∈A3 ow∧(g.blk id=some b∨((s.res id).nst=true∧g.inn id b)):=fun b hb=>by
  obtain ⟨id,h1,h2⟩:=f9.1 hb
  exact ⟨id,h1,h2.imp_right fun q=>hInn q.1 q.2⟩
 have hSn:∀ b,Eg s g b→b ∉ owB w s g ow:=fun b hb hq=>by
  obtain ⟨id,h1,h2 | ⟨h2,h3⟩⟩:=hown b hq
  ·exact hb.2.1 id (hlive id h1) h2
  ·exact hb.2.2 id h2 h3
 have hnoB:∀ j b,j ∉ A3 ow→g.blk j=some b→b ∉ owB w s g ow∧b < w.heap.size:=fun j b hj hb=>by
  refine ⟨fun hq=>?_,(h.lt j b hb).1⟩
  obtain ⟨id,h1,h2 | ⟨h2,h3⟩⟩:=hown b hq
  ·exact hj (by rw [h.inj j id b hb h2]; exact h1)
  ·exact (h.inn id b h2 h3).2.1 j hb
 have hnoI:∀ j b,j ∉ A3 ow→(s.res j).nst=true→g.inn j b→b ∉ owB w s g ow∧b < w.heap.size:=fun j b hj hn hb=>by
  refine ⟨fun hq=>?_,(h.inn j b hn hb).1.1⟩
  obtain ⟨id,h1,h2 | ⟨h2,h3⟩⟩:=hown b hq
  ·exact (h.inn j b hn hb).2.1 id h2
  ·exact (h.inn j b hn hb).2.2 id (fun e=>hj (by rw [← e]; exact h1)) h2 h3
 have hfar:∀ b,b∈C8 w' rs us'++d5 w' ps us→b ∉ owB w s g ow∧b < w.heap.size→False:=fun b hb q=>by
  rcases (hnew b hb).2 with k | k
  ·exact q.1 k
  ·omega
 have hbnd:∀ b,b∈C8 w' rs us'++d5 w' ps us→b < w'.heap.size∧(b∈Iq∨B≤b)∧¬ g.av b:=fun b hb=>by
  obtain ⟨k1,k2⟩:=hnew b hb
  refine ⟨k1,?_⟩
  rcases k2 with k2 | k2
  ·obtain ⟨id,h1,h2 | ⟨h2,h3⟩⟩:=hown b k2
   ·exact (h.lt id b h2).2
   ·exact (h.inn id b h2 h3).1.2
  ·refine ⟨.inr (by have:=h.base; omega),fun q=>?_⟩
   have:=h.avB b q
   have:=h.base
   omega
 have cl:∀ j b,g2.blk j=some b→(nid≤j∧j < nid + Is rs∧b∈C8 w' rs us')∨(j∈owX ps ow∧b∈(g.blk j).toList∧b∈d5 w' ps us∧j∈A3 ow)∨(¬ (nid≤j∧j < nid + Is rs)∧j ∉ A3 ow∧g.blk j=some b):=by
  intro j b hb
  by_cases q1:nid≤j∧j < nid + Is rs
  ·exact .inl ⟨q1.1,q1.2,hblkin j b q1.1 q1.2 hb⟩
  ·by_cases q2:j∈A3 ow
   ·have mk:g2.blk j=g.blk j→j∈owX ps ow→(j∈owX ps ow∧b∈(g.blk j).toList∧b∈d5 w' ps us∧j∈A3 ow):=fun e1 e2=>by
     have:b∈(g.blk j).toList:=by rw [← e1,hb]; simp
     exact ⟨e2,this,hXin j e2 b (List.mem_append_left _ this),q2⟩
    cases hback j q2 with
    | gone e1 e2=>rw [e2] at hb; cases hb
    | box T l b' e0 e1 e2 e3 e4 e5=>exact .inr (.inl (mk e2 e4))
    | row e t xs e0 e1 e2 e3 e4 e5=>exact .inr (.inl (mk e2 e4))
    | nst e t xs e0 e1 e2 e3 e4 e5 e6=>exact .inr (.inl (mk e2 e4))
   ·exact .inr (.inr ⟨q1,q2,by rw [← (hother j q1 q2).2.1]; exact hb⟩)
 have cli:∀ j b,(s2.res j).nst=true→g2.inn j b→(nid≤j∧j < nid + Is rs∧b∈C8 w' rs us')∨(j∈owX ps ow∧b∈(bif (s.res j).nst0 then Xv w' (g.hdr j) else [])∧b∈d5 w' ps us∧j∈A3 ow)∨(¬ (nid≤j∧j < nid + Is rs)∧j ∉ A3 ow∧(s.res j).nst=true∧g.inn j b):=by
  intro j b hn hb
  by_cases q1:nid≤j∧j < nid + Is rs
  ·exact .inl ⟨q1.1,q1.2,hinnin j b q1.1 q1.2 hn hb⟩
  ·by_cases q2:j∈A3 ow
   ·cases hback j q2 with
    | gone e1 e2=>rw [e1] at hn; cases hn
    | box T l b' e0 e1 e2 e3 e4 e5=>rw [e1] at hn; cases hn
    | row e t xs e0 e1 e2 e3 e4 e5=>rw [e1] at hn; cases hn
    | nst e t xs e0 e1 e2 e3 e4 e5 e6=>
     obtain ⟨e',j',xs',e0,_⟩:=e0
     have hb:b∈g2.innL j:=hb
     rw [e5] at hb
     have:b∈(bif (s.res j).nst0 then Xv w' (g.hdr j) else []):=by rw [e0]; exact hb
     exact .inr (.inl ⟨e4,this,hXin j e4 b (List.mem_append_right _ this),q2⟩)
   ·obtain ⟨e1,_,_,e4⟩:=hother j q1 q2
    exact .inr (.inr ⟨q1,q2,by rw [← e1]; exact hn,by
     have hb:b∈g2.innL j:=hb
     rw [e4] at hb
     exact hb⟩)
 have hS:∀ b,Eg s g b→b < w.heap.size→Eg s2 g2 b∧w'.heap[b]? = w.heap[b]? := by
  intro b hb hlt
  refine ⟨⟨by rw [hav]; exact hb.1,fun j hj hjb=>?_,fun j hj hi=>?_⟩,hk.block b hlt (hSn b hb)⟩
  ·rcases cl j b hjb with ⟨_,_,q⟩ | ⟨_,_,q,_⟩ | ⟨q1,q2,q3⟩
   ·exact hfar b (List.mem_append_left _ q) ⟨hSn b hb,hlt⟩
   ·exact hfar b (List.mem_append_right _ q) ⟨hSn b hb,hlt⟩
   ·rw [(hother j q1 q2).1] at hj
    exact hb.2.1 j hj q3
  ·rcases cli j b hj hi with ⟨_,_,q⟩ | ⟨_,_,q,_⟩ | ⟨q1,q2,q3,q4⟩
   ·exact hfar b (List.mem_append_left _ q) ⟨hSn b hb,hlt⟩
   ·exact hfar b (List.mem_append_right _ q) ⟨hSn b hb,hlt⟩
   ·exact hb.2.2 j q3 q4
 have hI:∀ j,Az s g s2 g2 j:=by
  intro j
  by_cases q1:nid≤j∧j < nid + Is rs
  ·unfold Az
   rw [hfresh j q1.1 q1.2]
   exact .inr trivial
  ·by_cases q2:j∈A3 ow
   ·cases hback j q2 with
    | gone e1 e2=>exact .inl e1
    | box T l b' e0 e1 e2 e3 e4 e5=>
     obtain ⟨T',l',e0⟩:=e0
     unfold Az
     rw [e0]
     exact .inr ⟨T,l,e1,e2⟩
    | row e t xs e0 e1 e2 e3 e4 e5=>
     obtain ⟨e',xs',e0,el⟩:=e0
     unfold Az
     rw [e0]
     exact .inr (.inl ⟨e,xs,e1,el,e3,e2⟩)
    | nst e t xs e0 e1 e2 e3 e4 e5 e6=>
     obtain ⟨e',j',xs',e0,el⟩:=e0
     unfold Az
     rw [e0]
     exact .inr (.inl ⟨by rw [e1]; show some (xs.length + 0)=some (xs'.length + 0); rw [el],e3,e2⟩)
   ·obtain ⟨e1,e2,e3,_⟩:=hother j q1 q2
    exact Az.same e1 e2 e3
 refine ⟨?_,?_,hL⟩
 ·refine h.step h.size h.defers hk.size hS hI (fun i=>.inl ⟨by rw [hs2],rfl⟩) (fun j=>?_) (fun i j b hi hj=>?_) (fun i b hi=>?_) hav ⟨fun j hsj hnj=>?_,fun i b hn hi=>⟨?_,fun j hj=>?_,fun j hne hnj hj=>?_⟩⟩
  ·by_cases q1:nid≤j∧j < nid + Is rs
   ·exact .inr (hR j q1.1 q1.2).1
   ·by_cases q2:j∈A3 ow
    ·right
     cases hback j q2 with
     | gone e1 e2=>rw [e1]; exact e2
     | box T l b' e0 e1 e2 e3 e4 e5=>rw [e1]; exact e5
     | row e t xs e0 e1 e2 e3 e4 e5=>rw [e1]; exact e5
     | nst e t xs e0 e1 e2 e3 e4 e5 e6=>rw [e1]; exact e6
    ·obtain ⟨e1,e2,e3,_⟩:=hother j q1 q2
     exact .inl ⟨e1,e2,e3,fun b hb=>hk.block b (h.lt j b hb).1 (hnoB j b q2 hb).1⟩
  ·rcases cl i b hi with ⟨i1,i2,i3⟩ | ⟨i1,i2,i3,_⟩ | ⟨i1,i2,i3⟩<;>rcases cl j b hj with ⟨j1,j2,j3⟩ | ⟨j1,j2,j3,_⟩ | ⟨j1,j2,j3⟩
   ·rw [hg2] at hi hj
    exact Xx w' rs us' nid _ i j b nd1 i1 i2 j1 j2 hi hj
   ·exact absurd rfl (nd3 b i3 b j3)
   ·exact (hfar b (List.mem_append_left _ i3) (hnoB j b j2 j3)).elim
   ·exact absurd rfl (nd3 b j3 b i3)
   ·rw [hX] at nd2
    exact Aoe nd2 i1 j1 (List.mem_append_left _ i2) (List.mem_append_left _ j2)
   ·exact (hfar b (List.mem_append_right _ i3) (hnoB j b j2 j3)).elim
   ·exact (hfar b (List.mem_append_left _ j3) (hnoB i b i2 i3)).elim
   ·exact (hfar b (List.mem_append_right _ j3) (hnoB i b i2 i3)).elim
   ·exact h.inj i j b i3 j3
  ·rcases cl i b hi with ⟨i1,i2,i3⟩ | ⟨i1,i2,i3,_⟩ | ⟨i1,i2,i3⟩
   ·exact hbnd b (List.mem_append_left _ i3)
   ·exact hbnd b (List.mem_append_right _ i3)
   ·obtain ⟨k1,k2⟩:=h.lt i b i3
    exact ⟨Nat.lt_of_lt_of_le k1 hk.size,k2⟩
  ·by_cases q1:nid≤j∧j < nid + Is rs
   ·exact .inr (hR j q1.1 q1.2).1
   ·by_cases q2:j∈A3 ow
    ·right
     cases hback j q2 with
     | gone e1 e2=>rw [e1]; exact e2
     | box T l b' e0 e1 e2 e3 e4 e5=>rw [e1]; exact e5
     | row e t xs e0 e1 e2 e3 e4 e5=>rw [e1]; exact e5
     | nst e t xs e0 e1 e2 e3 e4 e5 e6=>rw [e1]; exact e6
    ·obtain ⟨_,_,_,e4⟩:=hother j q1 q2
     exact .inl ⟨funext fun b=>by show (b∈g2.innL j)=(b∈g.innL j); rw [e4],fun b hb=>hk.block b (h.inn j b hnj hb).1.1 (hnoI j b q2 hnj hb).1⟩
  ·rcases cli i b hn hi with ⟨i1,i2,i3⟩ | ⟨i1,i2,i3,_⟩ | ⟨i1,i2,i3,i4⟩
   ·exact hbnd b (List.mem_append_left _ i3)
   ·exact hbnd b (List.mem_append_right _ i3)
   ·obtain ⟨k1,k2⟩:=(h.inn i b i3 i4).1
    exact ⟨Nat.lt_of_lt_of_le k1 hk.size,k2⟩
  ·rcases cli i b hn hi with ⟨i1,i2,i3⟩ | ⟨i1,i2,i3,_⟩ | ⟨i1,i2,i3,i4⟩<;>rcases cl j b hj with ⟨j1,j2,j3⟩ | ⟨j1,j2,j3,_⟩ | ⟨j1,j2,j3⟩
   ·rw [hs2] at hn
    have hi:b∈g2.innL i:=hi
    rw [hg2] at hi hj
    exact (Ok w' rs r.1 us' nid _ _ i j b nd1 i1 i2 j1 j2 hn hi).1 hj
   ·exact absurd rfl (nd3 b i3 b j3)
   ·exact hfar b (List.mem_append_left _ i3) (hnoB j b j2 j3)
   ·exact absurd rfl (nd3 b j3 b i3)
   ·rw [hX] at nd2
    have e:=Aoe nd2 i1 j1 (List.mem_append_right _ i2) (List.mem_append_left _ j2)
    subst e
    exact absurd rfl ((List.nodup_append.1 (Azb nd2 i1)).2.2 b j2 b i2)
   ·exact hfar b (List.mem_append_right _ i3) (hnoB j b j2 j3)
   ·exact hfar b (List.mem_append_left _ j3) (hnoI i b i2 i3 i4)
   ·exact hfar b (List.mem_append_right _ j3) (hnoI i b i2 i3 i4)
   ·exact (h.inn i b i3 i4).2.1 j j3
  ·rcases cli i b hn hi with ⟨i1,i2,i3⟩ | ⟨i1,i2,i3,_⟩ | ⟨i1,i2,i3,i4⟩<;>rcases cli j b hnj hj with ⟨j1,j2,j3⟩ | ⟨j1,j2,j3,_⟩ | ⟨j1,j2,j3,j4⟩
   ·rw [hs2] at hn hnj
    have hi:b∈g2.innL i:=hi
    have hj:b∈g2.innL j:=hj
    rw [hg2] at hi hj
    exact (Ok w' rs r.1 us' nid _ _ i j b nd1 i1 i2 j1 j2 hn hi).2 hne hnj hj
   ·exact absurd rfl (nd3 b i3 b j3)
   ·exact hfar b (List.mem_append_left _ i3) (hnoI j b j2 j3 j4)
   ·exact absurd rfl (nd3 b j3 b i3)
   ·rw [hX] at nd2
    exact hne (Aoe nd2 j1 i1 (List.mem_append_right _ j2) (List.mem_append_right _ i2))
   ·exact hfar b (List.mem_append_right _ i3) (hnoI j b j2 j3 j4)
   ·exact hfar b (List.mem_append_left _ j3) (hnoI i b i2 i3 i4)
   ·exact hfar b (List.mem_append_right _ j3) (hnoI i b i2 i3 i4)
   ·exact (h.inn i b i3 i4).2.2 j hne j3 j4
 ·refine ⟨⟨hk.os,hk.tape,hk.output,hk.size,fun k hkB hkI=>?_⟩,hS,hI,hav⟩
  refine hk.block k (by have:=h.base; omega) (fun hq=>?_)
  obtain ⟨id,h1,h2 | ⟨h2,h3⟩⟩:=hown k hq
  ·rcases (h.lt id k h2).2.1 with q | q
   ·exact hkI q
   ·omega
  ·rcases (h.inn id k h2 h3).1.2.1 with q | q
   ·exact hkI q
   ·omega
theorem Arz {s':St} {g g':Gh}:∀ {ow:List (Option Nat)},(∀ id∈A3 ow,s'.res id=s.res id∧g'.blk id=g.blk id)→g'.hdr=g.hdr→owB w s' g' ow=owB w s g ow
 | [],_,_=>rfl
 | none::r,h,hh=>by simp only [owB]; exact Arz (ow:=r) h hh
 | some i::r,h,hh=>by
  simp only [A3,List.mem_cons,forall_eq_or_imp] at h
  simp only [owB,h.1.1,h.1.2,hh]
  rw [Arz (ow:=r) h.2 hh]
theorem Bia {s':St} {g':Gh} (hI:∀ id,Az s g s' g' id) {id:Nat} (hl:(s'.res id).live=true) (he:s.res id=s'.res id):g'.blk id=g.blk id:=by
 have r:=hI id
 unfold Az at r
 rcases r with r | r
 ·rw [r] at hl; cases hl
 ·cases hs:s.res id with
  | unborn=>rw [← he,hs] at hl; cases hl
  | dead=>rw [← he,hs] at hl; cases hl
  | frozen t xs=>rw [← he,hs] at hl; cases hl
  | box T ls=>rw [hs] at r; obtain ⟨_,_,_,e⟩:=r; exact e
  | row e t xs=>
   rw [hs] at r
   rcases r with ⟨_,_,_,_,_,e⟩ | ⟨_,_,e,_⟩
   ·exact e
   ·rw [← he,hs] at e; cases e
  | last e t xs c j=>
   rw [hs] at r
   rcases r with ⟨_,_,e⟩ | ⟨_,_,e,_⟩
   ·exact e
   ·rw [← he,hs] at e; cases e
  | mid e t xs i j=>
   rw [hs] at r
   rcases r with ⟨_,_,e⟩ | ⟨_,_,e,_⟩
   ·exact e
   ·rw [← he,hs] at e; cases e
  | map t xs=>rw [hs] at r; obtain ⟨_,_,_,_,e⟩:=r; exact e
  | iter t xs seen cur=>rw [hs] at r; obtain ⟨_,_,_,_,_,_,e⟩:=r; exact e
theorem Q9 {w':World} {hdr:Nat→Value}:∀ {ms:List Md} {ls:List Lf} {x:Xo ms} {y:BxD ms} {ow:List (Option Nat)} {res:Nat→Jw} {inn:Nat→List Nat},
  Mm s ms ls=some (x,ow)→(A3 ow).Nodup→∀ id∈A3 ow,M2 ms y ow res id=.dead∨(id∈owX ms ow∧((M2 ms y ow res id).nst=true→(s.res id).nst0=true∧Aed w' hdr ms ow inn id=Xv w' (hdr id)))
 | [],[],x,y,ow,res,inn,h,hn,id,hid=>by
  simp only [Mm] at h
  cases h
  simp [A3] at hid
 | [],_::_,x,y,ow,res,inn,h,hn,id,hid=>by simp [Mm] at h
 | .rd t::ms,ls,x,y,ow,res,inn,h,hn,id,hid=>by
  simp only [Mm] at h
  obtain ⟨p,h1,h2⟩:=A6 h
  obtain ⟨q,h3,h4⟩:=A6 h2
  cases h4
  exact Q9 (ms:=ms) (y:=y) h3 hn id hid
 | .own e t::ms,[],x,y,ow,res,inn,h,hn,id,hid=>by simp [Mm] at h
 | .own e t::ms,l::ls,x,y,ow,res,inn,h,hn,id,hid=>by
  simp only [Mm] at h
  obtain ⟨p,h1,h2⟩:=A6 h
  obtain ⟨q,h3,h4⟩:=A6 h2
  cases h4
  cases hp:p.1 with
  | none=>
   rw [hp] at hid hn
   exact Q9 (ms:=ms) (y:=y) h3 hn id hid
  | some j=>
   rw [hp] at hid hn
   simp only [A3,List.nodup_cons] at hn
   simp only [A3,List.mem_cons] at hid
   rcases hid with rfl | hid
   ·exact .inl ((De (ms:=ms) (y:=y) hn.1).trans (Al _ _ _))
   ·exact Q9 (ms:=ms) (y:=y) h3 hn.2 id hid
 | .bx T t::ms,[],x,y,ow,res,inn,h,hn,id,hid=>by simp [Mm] at h
 | .bx T t::ms,.c _::ls,x,y,ow,res,inn,h,hn,id,hid=>by simp [Mm] at h
 | .bx T t::ms,.sl _ _::ls,x,y,ow,res,inn,h,hn,id,hid=>by simp [Mm] at h
 | .bx T t::ms,.row _::ls,x,y,ow,res,inn,h,hn,id,hid=>by simp [Mm] at h
 | .bx T t::ms,.ep _ _ _ _::ls,x,y,ow,res,inn,h,hn,id,hid=>by simp [Mm] at h
 | .bx T t::ms,.rp _ _ _::ls,x,y,ow,res,inn,h,hn,id,hid=>by simp [Mm] at h
 | .bx T t::ms,.sp _::ls,x,y,ow,res,inn,h,hn,id,hid=>by simp [Mm] at h
 | .bx T t::ms,.ptr j off::ls,x,y,ow,res,inn,h,hn,id,hid=>by
  simp only [Mm] at h
  split at h
  ·rename_i T' bl hr
   split at h
   ·split at h
    ·split at h
     ·obtain ⟨q,h3,h4⟩:=A6 h
      cases h4
      simp only [A3,List.nodup_cons] at hn
      simp only [A3,List.mem_cons] at hid
      rcases hid with rfl | hid
      ·refine .inr ⟨List.mem_append_left _ (List.mem_singleton.2 rfl),fun q=>?_⟩
       rw [show M2 (.bx T t::ms) y (some id::_) res id=.box T (t.leafs y.1) from (De (ms:=ms) (y:=y.2) hn.1).trans (Al _ _ _)] at q
       cases q
      ·exact (Q9 (ms:=ms) (y:=y.2) h3 hn.2 id hid).imp_right fun q=>⟨List.mem_append_right _ q.1,q.2⟩
     ·cases h
    ·cases h
   ·cases h
  ·cases h
 | .mu e t::ms,[],x,y,ow,res,inn,h,hn,id,hid=>by simp [Mm] at h
 | .mu e t::ms,l::ls,x,y,ow,res,inn,h,hn,id,hid=>by
  simp only [Mm] at h
  obtain ⟨p,h1,h2⟩:=A6 h
  obtain ⟨q,h3,h4⟩:=A6 h2
  cases h4
  cases hp:p.1 with
  | none=>
   rw [hp] at hid hn
   exact (Q9 (ms:=ms) (y:=y.2) h3 hn id hid).imp_right fun q=>⟨List.mem_append_right _ q.1,q.2⟩
  | some j=>
   rw [hp] at hid hn
   simp only [A3,List.nodup_cons] at hn
   simp only [A3,List.mem_cons] at hid
   rcases hid with rfl | hid
   ·refine .inr ⟨List.mem_append_left _ (List.mem_singleton.2 rfl),fun q=>?_⟩
    rw [show M2 (.mu e t::ms) y (some id::_) res id=.row e t y.1 from (De (ms:=ms) (y:=y.2) hn.1).trans (Al _ _ _)] at q
    cases q
   ·exact (Q9 (ms:=ms) (y:=y.2) h3 hn.2 id hid).imp_right fun q=>⟨List.mem_append_right _ q.1,q.2⟩
 | .nst e t::ms,[],x,y,ow,res,inn,h,hn,id,hid=>by simp [Mm] at h
 | .nst e t::ms,l::ls,x,y,ow,res,inn,h,hn,id,hid=>by
  simp only [Mm] at h
  obtain ⟨p,h1,h2⟩:=A6 h
  obtain ⟨q,h3,h4⟩:=A6 h2
  cases h4
  rcases f8 h1 with ⟨rfl,rfl⟩ | ⟨j,j0,xs,rfl,rfl,hr⟩
  ·exact (Q9 (ms:=ms) (y:=y.2) h3 hn id hid).imp_right fun q=>⟨List.mem_append_right _ q.1,q.2⟩
  ·simp only [A3,List.nodup_cons] at hn
   simp only [A3,List.mem_cons] at hid
   rcases hid with rfl | hid
   ·exact .inr ⟨List.mem_append_left _ (List.mem_singleton.2 rfl),fun _=>⟨by rw [hr]; rfl,(F1 (ms:=ms) hn.1).trans (Al _ _ _)⟩⟩
   ·exact (Q9 (ms:=ms) (y:=y.2) h3 hn.2 id hid).imp_right fun q=>⟨List.mem_append_right _ q.1,q.2⟩
theorem A4l (h:Bp n B Iq s g a w) {f:FuncId} {sg:E5} {den:Xo sg.ps→Option (Xo sg.rs×BxD sg.ps)} (hf:Af9 P f sg den) {vs:List Vl} {args:List Value} (hv:VLR s g w vs args)
  {nid:Nat} {av:AV} {s':St} (e:Aly sg den s nid vs=some (av,s')):
  Calls P f args.toArray w fun e w'=>∃ v g',e=.returned v∧Go B Iq s g w s' g' w'∧Bp n B Iq s' g' a w'∧c9 s' g' w' av v:=by
 unfold Aly at e
 obtain ⟨ls,e1,e⟩:=A6 e
 obtain ⟨⟨x,ow⟩,e2,e⟩:=A6 e
 dsimp only at e
 split at e
 ·rename_i hnd
  generalize hsA:(if (I8 sg.rs&&O0 sg.ps)=true then s else s.frz (Hs s sg.ps ls))=sA0 at e
  split at e
  ·rename_i hfr
   obtain ⟨r,e3,e⟩:=A6 e
   obtain ⟨vs',e4,e⟩:=A6 e
   cases e
   obtain ⟨cs,hsh,hL⟩:=Bcx e1 hv
   obtain ⟨gF,hF,goF,hlf,hhF⟩:=I7 (ls:=Hs s sg.ps ls) h
   have hLF:=hL.imp hlf
   obtain ⟨h1,h2,h3⟩:=Ay9 hF.res e2 hLF
   have hnod:=Aoc hnd
   have hInF:∀ {id b:Nat},((s.frz (Hs s sg.ps ls)).res id).nst0=true→b∈Xv w (gF.hdr id)→((s.frz (Hs s sg.ps ls)).res id).nst=true∧gF.inn id b:=fun h1 h2=>⟨Jw.nst_of0 h1,(Arx hF.res h1).1 _ h2⟩
   have hown:Bjn w (Eg (s.frz (Hs s sg.ps ls)) gF) (C8 w sg.ps cs):=by
    rw [h2]
    refine ⟨Ajb hF hnod,fun b hb=>?_⟩
    obtain ⟨id,q1,q2 | ⟨q2,q3⟩⟩:=f9.1 hb
    ·exact ⟨(hF.lt id b q2).1,fun q=>q.2.1 id (h3 id q1) q2⟩
    ·obtain ⟨m1,m2⟩:=hInF q2 q3
     exact ⟨(hF.inn id b m1 m2).1.1,fun q=>q.2.2 id m1 m2⟩
   refine Calls.mono (hf x r e3 w _ cs args h1 hsh hown) fun en w'=>?_
   rintro ⟨us,us',rfl,hsh',hk,hH,hB,hN,hnew⟩
   rw [h2] at hk hH hB hnew
   have key:∀ (sA:St) (gA:Gh),Bp n B Iq sA gA a w→Go B Iq s g w sA gA w→(∀ id∈A3 ow,sA.res id=(s.frz (Hs s sg.ps ls)).res id∧gA.blk id=gF.blk id)→gA.hdr=gF.hdr→Tg sA nid (Is sg.rs)=true→
     ((I8 sg.rs=true∧O0 sg.ps=true)∨(sA=s.frz (Hs s sg.ps ls)∧gA=gF))→
     ∃ g',Go B Iq s g w ⟨sA.cell,Jb sg.rs r.1 nid (M2 sg.ps r.2 ow sA.res)⟩ g' w'∧Bp n B Iq ⟨sA.cell,Jb sg.rs r.1 nid (M2 sg.ps r.2 ow sA.res)⟩ g' a w'∧c9 ⟨sA.cell,Jb sg.rs r.1 nid (M2 sg.ps r.2 ow sA.res)⟩ g' w' (Bbf vs') (A54 us):=by
    intro sA gA hA goA hag hhA hfresh hcase
    have hfresh':=Aza hfresh
    have hliveA:∀ id∈A3 ow,(sA.res id).live=true:=fun id hid=>by rw [(hag id hid).1]; exact h3 id hid
    have hout:∀ id∈A3 ow,id < nid∨nid + Is sg.rs≤id:=fun id hid=>by
     rcases Nat.lt_or_ge id nid with q | q
     ·exact .inl q
     ·rcases Nat.lt_or_ge id (nid + Is sg.rs) with q2 | q2
      ·have:=hliveA id hid
       rw [hfresh' id q q2] at this
       cases this
      ·exact .inr q2
    have hbl:owB w (s.frz (Hs s sg.ps ls)) gF ow=owB w sA gA ow:=(Arz hag hhA).symm
    rw [hbl] at hk hH hB hnew
    have hX:d5 w' sg.ps cs=(owX sg.ps ow).flatMap (bkB w' sA gA):=by
     rw [Ajc (w':=w') hF.res e2 hLF]
     have:∀ l:List Nat,(∀ i∈l,i∈A3 ow)→l.flatMap (bkB w' (s.frz (Hs s sg.ps ls)) gF)=l.flatMap (bkB w' sA gA):=by
      intro l
      induction l with
      | nil=>intro _; rfl
      | cons i l ih=>
       intro hl
       obtain ⟨q1,q2⟩:=hag i (hl i (List.mem_cons_self ..))
       rw [List.flatMap_cons,List.flatMap_cons,ih fun k hk=>hl k (List.mem_cons_of_mem _ hk)]
       simp only [bkB,q1,q2,hhA]
     exact this _ fun i hi=>Aas hi
    generalize hs2:(⟨sA.cell,Jb sg.rs r.1 nid (M2 sg.ps r.2 ow sA.res)⟩:St)=s2
    generalize hg2:Fc w' sg.rs us' nid ⟨Uu sg.ps ow gA.blk,gA.hdr,gA.av,Aed w' gA.hdr sg.ps ow gA.innL⟩=g2
    have hag2:∀ id∈A3 ow,s2.res id=M2 sg.ps r.2 ow sA.res id∧g2.blk id=Uu sg.ps ow gA.blk id∧gA.blk id=gF.blk id∧(∀ e,∀ t:Ty,∀ xs:List t.D,(s.frz (Hs s sg.ps ls)).res id=.row e t xs→g2.hdr id=gF.hdr id)∧(((s.frz (Hs s sg.ps ls)).res id).nst=true→g2.hdr id=gF.hdr id)∧g2.innL id=Aed w' gF.hdr sg.ps ow gA.innL id:=fun id hid=>by
     have hh2:g2.hdr id=gF.hdr id:=by rw [← hg2,← hhA]; exact (Bb _ _ _ _ _ _ (hout id hid)).2.1
     refine ⟨?_,?_,(hag id hid).2,fun _ _ _ _=>hh2,fun _=>hh2,?_⟩
     ·rw [← hs2]; exact C5 _ _ _ _ _ (hout id hid)
     ·rw [← hg2]; exact (Bb _ _ _ _ _ _ (hout id hid)).1
     ·rw [← hg2,← hhA]; exact (Bb _ _ _ _ _ _ (hout id hid)).2.2
    have hav:g2.av=gA.av:=by rw [← hg2]; exact f7 _ _ _ _ _
    have hback0:∀ id∈A3 ow,Tf (s.frz (Hs s sg.ps ls)) gF (owX sg.ps ow) s2 g2 w' id→Tf sA gA (owX sg.ps ow) s2 g2 w' id:=by
     intro id hid hb
     obtain ⟨q1,q2⟩:=hag id hid
     cases hb with
     | gone a b=>exact .gone a b
     | box T l b a1 a2 a3 a4 a5 a6=>exact .box T l b (by rw [q1]; exact a1) a2 (by rw [q2]; exact a3) (by rw [q2]; exact a4) a5 a6
     | row e1 t1 xs a1 a2 a3 a4 a5 a6=>exact .row e1 t1 xs (by rw [q1]; exact a1) a2 (by rw [q2]; exact a3) (by rw [hhA]; exact a4) a5 a6
     | nst e1 t1 xs a1 a2 a3 a4 a5 a6 a7=>exact .nst e1 t1 xs (by rw [q1]; exact a1) a2 (by rw [q2]; exact a3) (by rw [hhA]; exact a4) a5 (by rw [hhA]; exact a6) a7
    have hSin:(I8 sg.rs=true∧O0 sg.ps=true)∨∀ b,Aul w (Eg (s.frz (Hs s sg.ps ls)) gF) (owB w sA gA ow) (C8 w' sg.rs us'++d5 w' sg.ps cs) b→b < w'.heap.size→Eg s2 g2 b:=by
     rcases hcase with q | ⟨rfl,rfl⟩
     ·exact .inl q
     ·right
      rintro b ⟨k1,k2⟩ hlt
      have k1':Eg (s.frz (Hs s sg.ps ls)) gA b∨(∃ id,id∈A3 ow∧(gA.blk id=some b∨(((s.frz (Hs s sg.ps ls)).res id).nst=true∧gA.inn id b)))∨w.heap.size≤b:=by
       rcases k1 with k1 | k1 | k1
       ·exact .inl k1
       ·obtain ⟨id,q1,q2⟩:=f9.1 k1
        exact .inr (.inl ⟨id,q1,q2.imp_right fun q=>hInF q.1 q.2⟩)
       ·exact .inr (.inr k1)
      simp only [List.mem_append,not_or] at k2
      have hown2:=fun id hid=>Q9 (s:=s.frz (Hs s sg.ps ls)) (w':=w') (hdr:=gA.hdr) (y:=r.2) (res:=(s.frz (Hs s sg.ps ls)).res) (inn:=gA.innL) e2 hnod id hid
      have hXn:∀ id∈owX sg.ps ow,b ∉ bkB w' (s.frz (Hs s sg.ps ls)) gA id:=fun id q1 q2=>k2.2 (by rw [hX]; exact List.mem_flatMap.2 ⟨id,q1,q2⟩)
      refine ⟨?_,fun j hj hjb=>?_,fun j hj hi=>?_⟩
      ·rw [hav]
       rcases k1' with k1 | ⟨id,q1,q2 | ⟨q2,q3⟩⟩ | k1
       ·exact k1.1
       ·exact (hA.lt id b q2).2.2
       ·exact (hA.inn id b q2 q3).1.2.2
       ·intro q
        have:=hA.avB b q
        have:=hA.base
        omega
      ·by_cases q1:nid≤j∧j < nid + Is sg.rs
       ·rw [← hg2] at hjb
        exact k2.1 (K5 _ _ _ _ _ j b q1.1 q1.2 hjb)
       ·by_cases q2:j∈A3 ow
        ·obtain ⟨p1,p2,p3,_⟩:=hag2 j q2
         rw [p1] at hj
         rw [p2] at hjb
         rcases hown2 j q2 with q | ⟨q,_⟩
         ·rw [q] at hj; cases hj
         ·refine hXn j q (List.mem_append_left _ ?_)
          rw [N0 hjb]
          simp
        ·have hj':j < nid∨nid + Is sg.rs≤j:=by omega
         have hr2:s2.res j=(s.frz (Hs s sg.ps ls)).res j:=by rw [← hs2]; exact (C5 _ _ _ _ _ hj').trans (De q2)
         rw [hr2] at hj
         rw [← hg2,(Bb _ _ _ _ _ _ hj').1] at hjb
         have hjb:=(Ek q2).symm.trans hjb
         rcases k1' with k1 | ⟨id,m1,m2 | ⟨m2,m3⟩⟩ | k1
         ·exact k1.2.1 j hj hjb
         ·exact q2 (by rw [hA.inj j id b hjb m2]; exact m1)
         ·exact (hA.inn id b m2 m3).2.1 j hjb
         ·have:=(hA.lt j b hjb).1
          omega
      ·by_cases q1:nid≤j∧j < nid + Is sg.rs
       ·have hi:b∈g2.innL j:=hi
        rw [← hg2] at hi
        rw [← hs2] at hj
        exact k2.1 (Jc _ _ _ _ _ _ _ j b q1.1 q1.2 hj hi)
       ·by_cases q2:j∈A3 ow
        ·obtain ⟨p1,p2,p3,_,_,p6⟩:=hag2 j q2
         rw [p1] at hj
         have hi:b∈g2.innL j:=hi
         rw [p6] at hi
         rcases hown2 j q2 with q | ⟨q,q3⟩
         ·rw [q] at hj; cases hj
         ·obtain ⟨z1,z2⟩:=q3 hj
          rw [z2] at hi
          refine hXn j q (List.mem_append_right _ ?_)
          rw [z1]
          exact hi
        ·have hj':j < nid∨nid + Is sg.rs≤j:=by omega
         have hr2:s2.res j=(s.frz (Hs s sg.ps ls)).res j:=by rw [← hs2]; exact (C5 _ _ _ _ _ hj').trans (De q2)
         rw [hr2] at hj
         have hi:b∈g2.innL j:=hi
         rw [← hg2,(Bb _ _ _ _ _ _ hj').2.2] at hi
         have hi:b∈gA.innL j:=by rw [← F1 (w:=w') (hdr:=gA.hdr) (ms:=sg.ps) (inn:=gA.innL) q2]; exact hi
         rcases k1' with k1 | ⟨id,m1,m2 | ⟨m2,m3⟩⟩ | k1
         ·exact k1.2.2 j hj hi
         ·exact (hA.inn j b hj hi).2.1 id m2
         ·exact (hA.inn j b hj hi).2.2 id (fun e=>q2 (by rw [← e]; exact m1)) m2 m3
         ·have:=(hA.inn j b hj hi).1.1
          omega
    have hN1:=List.nodup_append.1 hN
    have hH2:=Alz (hSin.imp (fun q=>q.1) (fun q b hb hlt=>q b hb hlt)) hH
    have hB2:=Adf (hSin.imp (fun q=>q.2) (fun q b hb hlt=>q b hb hlt)) hB
    have hback:=fun id hid=>hback0 id hid (Ade hF.res e2 hLF hnod hN1.2.1 hB2 hag2 id hid)
    obtain ⟨f1,f2,f3⟩:=Bf4 hA hliveA hfresh' hk hN hnew hX s2 g2 hs2.symm hg2.symm hback hH2
    exact ⟨g2,goA.trans f2,f1,Bf3 (Bcy e4 f3 hsh')⟩
   have fin:∃ g',Go B Iq s g w ⟨sA0.cell,Jb sg.rs r.1 nid (M2 sg.ps r.2 ow sA0.res)⟩ g' w'∧Bp n B Iq ⟨sA0.cell,Jb sg.rs r.1 nid (M2 sg.ps r.2 ow sA0.res)⟩ g' a w'∧c9 ⟨sA0.cell,Jb sg.rs r.1 nid (M2 sg.ps r.2 ow sA0.res)⟩ g' w' (Bbf vs') (A54 us):=by
    by_cases hfl:(I8 sg.rs&&O0 sg.ps)=true
    ·rw [if_pos hfl] at hsA
     subst hsA
     simp only [Bool.and_eq_true] at hfl
     exact key s g h (Go.refl B Iq s g w) (fun id hid=>⟨A79 (h3 id hid),(Bia goF.ref (h3 id hid) (A79 (h3 id hid))).symm⟩) hhF.symm hfr (.inl hfl)
    ·rw [if_neg hfl] at hsA
     subst hsA
     exact key _ gF hF goF (fun id hid=>⟨rfl,rfl⟩) rfl hfr (.inr ⟨rfl,rfl⟩)
   obtain ⟨g',q1,q2,q3⟩:=fin
   exact ⟨A54 us,g',rfl,q1,q2,q3⟩
  ·cases e
 ·cases e
end
end
section
def Vn:List Bool→Bool
 | []=>true
 | c::r=>c&&Vn r
def Nl {α:Type} (x:Option (List Bool×α)):Option α:=match x with
 | some (cs,r)=>if Vn cs=true then some r else none
 | none=>none
theorem Cn {α:Type} {x:Option (List Bool×α)} {r:α} (h:Nl x=some r):∃ cs,x=some (cs,r)∧Vn cs=true:=by
 unfold Nl at h
 split at h
 ·rename_i cs r'
  split at h<;>cases h
  exact ⟨cs,rfl,by assumption⟩
 ·cases h
def Am (s:Aa) (i:Int):Int:=((s.data.toList.getD i.toNat 0).toNat:Int)
def Ao (s:Aa) (i j:Int):Aa:=s.extract i.toNat j.toNat
def Al0 (P:Program) (s:St) (T:TypeId) (x y:Operand):Option (List Bool×Value):=
 match P.underlying T,s.conc x,s.conc y with
 | some .string,some (.string q),some (.int _ i)=>some ([decide (0≤i),decide (i < (q.size:Int))],.int .u8 (Am q i))
 | _,_,_=>none
def Al1 (P:Program) (s:St) (T:TypeId) (x:Operand) (lo hi mx:Option Operand):Option (List Bool×Value):=
 match P.underlying T,s.conc x,mx with
 | some .string,some (.string q),none=>match lo,hi with
  | none,none=>some ([],.string q)
  | some l,none=>match s.conc l with
   | some (.int _ i)=>some ([decide (0≤i),decide (i≤(q.size:Int))],.string (Ao q i q.size))
   | _=>none
  | none,some h=>match s.conc h with
   | some (.int _ j)=>some ([decide (0≤j),decide (j≤(q.size:Int))],.string (Ao q 0 j))
   | _=>none
  | some l,some h=>match s.conc l,s.conc h with
   | some (.int _ i),some (.int _ j)=>some ([decide (0≤i),decide (i≤j),decide (j≤(q.size:Int))],.string (Ao q i j))
   | _,_=>none
 | _,_,_=>none
def Azc (s:St) (op:BinOp) (x y:Operand):Option (List Bool×Value):=
 match op,s.conc x,s.conc y with
 | .add,some (.string p),some (.string q)=>some ([decide (p.size + q.size≤9223372036854775807)],.string (p++q))
 | _,_,_=>none
def A8a (s:St) (op:BinOp) (x y:Operand):Option (List Bool×Value):=
 match op,s.conc x,s.conc y with
 | .rem,some (.int k a),some (.int k' b)=>if k=k' then some ([!decide (b=0)],.int k (a.tmod b)) else none
 | .quo,some (.int k a),some (.int k' b)=>if k=k' then some ([!decide (b=0)],.int k (k.wrap (a.tdiv b))) else none
 | .shl,some (.int k a),some (.int _ b)=>some ([decide (0≤b)],.int k (k.wrap (a * 2 ^ min b.toNat k.bits)))
 | _,_,_=>none
def Bbg (P:Program):List Field→List Lf→List Lf→Option Bool
 | [],_,_=>some true
 | f :: fs, xs, ys => if f.name = "_" then none else match P.underlying f.type, xs[f.offset]?, ys[f.offset]? with
  | some (.int _),some (.c (.int k a)),some (.c (.int k' b))=>if k=k' then (Bbg P fs xs ys).bind fun r=>some (a==b&&r) else none
  | some .bool,some (.c (.bool a)),some (.c (.bool b))=>(Bbg P fs xs ys).bind fun r=>some (a==b&&r)
  | some .string,some (.c (.string a)),some (.c (.string b))=>(Bbg P fs xs ys).bind fun r=>some (a.toList==b.toList&&r)
  | _,_,_=>none
def A55 (P:Program) (s:St) (op:BinOp) (T:TypeId) (x y:Operand):Option Value:=
 match P.underlying T,s.value x,s.value y with
 | some (.struct fs),some (.ag xs),some (.ag ys)=>if P.stoodInHeld T=false then (if P.eqGuardType P.depth T=false then (Bbg P fs.toList xs ys).bind fun r=>match op with
  | .eql=>some (.bool r)
  | .neq=>some (.bool (!r))
  | _=>none else none) else none
 | _,_,_=>none
section
variable {P:Program} {n B:Nat} {Iq:List Nat} {s:St} {g:Gh} {a:Act} {w:World}
theorem Ly {c:Bool} {r:List Bool} (h:Vn (c::r)=true):c=true∧Vn r=true:=by simpa [Vn] using h
theorem A1 {c:Prop} [Decidable c] {r:List Bool} (h:Vn (decide c::r)=true):c∧Vn r=true:=by
 obtain ⟨h1,h2⟩:=Ly h
 exact ⟨F0 h1,h2⟩
theorem A24 (h:Bp n B Iq s g a w) {T:TypeId} {x y:Operand} {v:Value} (e:Nl (Al0 P s T x y)=some v):(Instr.index T (a.eval x) (a.eval y)).run P w=.ok v w∧v.oneCell'=true:=by
 obtain ⟨cs,e,hc⟩:=Cn e
 unfold Al0 at e
 split at e<;>cases e
 rename_i q k i hU hx hy
 obtain ⟨h0,hc⟩:=A1 hc
 obtain ⟨h1,_⟩:=A1 hc
 rw [(Dv h hx).1,(Dv h hy).1,run_index_string w T q k i hU,dif_pos ⟨h0,h1⟩]
 refine ⟨?_,rfl⟩
 have hlt:i.toNat < q.data.toList.length:=by
  rw [Array.length_toList]
  show i.toNat < q.size
  omega
 unfold Am
 rw [List.getD_eq_getElem?_getD,List.getElem?_eq_getElem hlt]
 rfl
theorem A25 (h:Bp n B Iq s g a w) {T:TypeId} {x:Operand} {lo hi mx:Option Operand} {v:Value} (e:Nl (Al1 P s T x lo hi mx)=some v):
  (Instr.sliceAt T (a.eval x) (lo.map a.eval) (hi.map a.eval) (mx.map a.eval)).run P w=.ok v w∧v.oneCell'=true:=by
 obtain ⟨cs,e,hc⟩:=Cn e
 unfold Al1 at e
 split at e
 ·rename_i q hU hx hm
  rw [Option.map_none,run_sliceAt_string _ _ _ _ _ _ hU,(Dv h hx).1]
  split at e
  ·cases e
   refine ⟨?_,rfl⟩
   have:q.extract 0 q.size=q:=by
    apply ByteArray.ext
    rw [ByteArray.data_extract]
    exact Array.extract_size
   show (Instr.slice T (.string q) none none none).run P w=_
   rw [Go.run_slice_string_all _ _ _ hU,this]
  ·rename_i l
   split at e<;>cases e
   rename_i k i hl
   obtain ⟨h0,hc⟩:=A1 hc
   obtain ⟨h1,_⟩:=A1 hc
   refine ⟨?_,rfl⟩
   rw [Option.map_some,(Dv h hl).1,Option.map_none,run_slice_string_from_if _ _ _ _ _ hU,if_pos ⟨h0,h1⟩]
   rfl
  ·rename_i l
   split at e<;>cases e
   rename_i k j hl
   obtain ⟨h0,hc⟩:=A1 hc
   obtain ⟨h1,_⟩:=A1 hc
   refine ⟨?_,rfl⟩
   rw [Option.map_some,(Dv h hl).1,Option.map_none,run_slice_string_to_if _ _ _ _ _ hU,if_pos ⟨h0,h1⟩]
   rfl
  ·rename_i l hh
   split at e<;>cases e
   rename_i k i k' j hl hr
   obtain ⟨h0,hc⟩:=A1 hc
   obtain ⟨h1,hc⟩:=A1 hc
   obtain ⟨h2,_⟩:=A1 hc
   refine ⟨?_,rfl⟩
   rw [Option.map_some,Option.map_some,(Dv h hl).1,(Dv h hr).1,run_slice_string _ _ _ _ _ _ _ hU h0 h1 h2]
   rfl
 ·cases e
theorem A8b (h:Bp n B Iq s g a w) {op:BinOp} {T:TypeId} {x y:Operand} {v:Value} (e:Nl (Azc s op x y)=some v):
  ((do eqGuard op T x y (a.eval x) (a.eval y); binOp op T (a.eval x) (a.eval y)):Sem Value).run P w=.ok v w∧v.oneCell'=true:=by
 obtain ⟨cs,e,hc⟩:=Cn e
 unfold Azc at e
 split at e<;>cases e
 rename_i p q hx hy
 obtain ⟨h0,_⟩:=A1 hc
 rw [(Dv h hx).1,(Dv h hy).1,eqGuard_add,binOp_string_add]
 refine ⟨?_,rfl⟩
 simp only [Sem.run_bind,Sem.run_pure,Result.andThen_ok]
 exact run_string_add_sum w p q h0
theorem Azd (h:Bp n B Iq s g a w) {op:BinOp} {T:TypeId} {x y:Operand} {v:Value} (e:Nl (A8a s op x y)=some v):
  ((do eqGuard op T x y (a.eval x) (a.eval y); binOp op T (a.eval x) (a.eval y)):Sem Value).run P w=.ok v w∧v.oneCell'=true:=by
 obtain ⟨cs,e,hc⟩:=Cn e
 unfold A8a at e
 split at e
 ·split at e<;>cases e
  rename_i k p k' q hx hy hk
  subst hk
  obtain ⟨h0,_⟩:=Ly hc
  have h0:¬ q=0:=by simpa using h0
  rw [(Dv h hx).1,(Dv h hy).1,eqGuard_rem]
  refine ⟨?_,rfl⟩
  simp [binOp,Op.intDiv,h0]
 ·split at e<;>cases e
  rename_i k p k' q hx hy hk
  subst hk
  obtain ⟨h0,_⟩:=Ly hc
  have h0:¬ q=0:=by simpa using h0
  rw [(Dv h hx).1,(Dv h hy).1,eqGuard_quo]
  refine ⟨?_,rfl⟩
  simp [binOp,Op.intDiv,h0]
 ·cases e
  rename_i k p k' q hx hy
  obtain ⟨h0,_⟩:=Ly hc
  have h0:¬ q < 0:=by simpa using h0
  rw [(Dv h hx).1,(Dv h hy).1,eqGuard_shl]
  refine ⟨?_,rfl⟩
  simp [binOp,Op.shift,h0]
 ·cases e
theorem Bcz {t:TypeId} (hA:Akq P t=some false) {cs:Array Value} {off:Nat} {v:Value} (hv:cs[off]? = some v):(part t cs off).run P w=.ok v w:=by
 simp [part,Aar hA w,hv]
theorem A8c:∀ {fs:List Field} {xs ys:List Lf} {r:Bool},Bbg P fs xs ys=some r→∀ {cs ds:Array Value},I6 s g w xs cs.toList→I6 s g w ys ds.toList→(Op.eqFields 9999 cs ds fs).run P w=.ok r w
 | [],xs,ys,r,e,cs,ds,_,_=>by cases e; rfl
 | f::fs,xs,ys,r,e,cs,ds,hx,hy=>by
  unfold Bbg at e
  split at e
  ·cases e
  ·rename_i hn
   have fin:∀ {u v:Value} {q:Bool},Akq P f.type=some false→cs[f.offset]? = some u→ds[f.offset]? = some v→(Op.equalIn 9999 f.type u v).run P w=.ok q w→
     ((Bbg P fs xs ys).bind fun r=>some (q&&r))=some r→(Op.eqFields 9999 cs ds (f::fs)).run P w=.ok r w:=by
    intro u v q hA h1 h2 h3 h4
    obtain ⟨r',e1,e2⟩:=A6 h4
    cases e2
    have ih:=A8c e1 hx hy
    simp only [Op.eqFields,ne_eq,hn,not_false_eq_true,if_true,Sem.run_bind,Bcz hA h1,Bcz hA h2,Result.andThen_ok,h3]
    cases q
    ·simp
    ·simpa using ih
   have cell:∀ {l:List Lf} {c:Array Value} {u:Value},I6 s g w l c.toList→l[f.offset]? = some (.c u)→c[f.offset]? = some u:=by
    intro l c u hL hl
    obtain ⟨v,e1,e2,_⟩:=hL.get hl
    cases e2
    rw [← Array.getElem?_toList]
    exact e1
   split at e
   ·rename_i k0 k p k' q hU h1 h2
    split at e
    ·rename_i hk
     subst hk
     refine fin (q:=p==q) (by unfold Akq; rw [hU]) (cell hx h1) (cell hy h2) (run_equalIn_int w 9998 _ _ _ _ _ hU) e
    ·cases e
   ·rename_i p q hU h1 h2
    exact fin (q:=p==q) (by unfold Akq; rw [hU]) (cell hx h1) (cell hy h2) (run_equalIn_bool' w 9998 _ _ _ hU) e
   ·rename_i p q hU h1 h2
    exact fin (q:=p.toList==q.toList) (by unfold Akq; rw [hU]) (cell hx h1) (cell hy h2) (run_equalIn_string w 9998 _ _ _ hU) e
   ·cases e
theorem A4m (h:Bp n B Iq s g a w) {op:BinOp} {T:TypeId} {x y:Operand} {v:Value} (e:A55 P s op T x y=some v):
  ((do eqGuard op T x y (a.eval x) (a.eval y); binOp op T (a.eval x) (a.eval y)):Sem Value).run P w=.ok v w∧v.oneCell'=true:=by
 unfold A55 at e
 split at e
 ·rename_i fs xs ys hU hx hy
  split at e
  ·rename_i hp
   split at e
   ·rename_i hm
    obtain ⟨r,e1,e⟩:=A6 e
    obtain ⟨cs,hcs,hX⟩:=W7 h hx
    obtain ⟨ds,hds,hY⟩:=W7 h hy
    have hf:P.fieldsOf T=fs:=by simp [Program.fieldsOf,hU]
    have hrun:=A8c e1 hX hY
    have heq:(Op.equalIn 10000 T (.agg cs) (.agg ds)).run P w=.ok r w:=by
     rw [run_equalIn_agg w 9999 T cs ds (by rw [hf]; exact hU) hp,hf]
     exact hrun
    rw [hcs,hds]
    simp only [Sem.run_bind,run_eqGuard_agg w _ _ _ _ _ _ hm,Result.andThen_ok]
    split at e<;>cases e
    ·exact ⟨by rw [run_eql_struct,heq]; rfl,rfl⟩
    ·exact ⟨by rw [run_neq_struct,heq]; rfl,rfl⟩
   ·cases e
  ·cases e
 ·cases e
theorem Bf5 {w:World} {S:Nat→Prop} (q:Aa):Ik w S tMk (Ba6 (Ad q)) (byteCells q):=by
 obtain ⟨h1,h2⟩:=Ik.bytes (w:=w) (S:=S) q
 refine ⟨?_,fun i x hx=>?_⟩
 ·rw [h1]
  show (Ad q).length * 1=(Ba6 (Ad q)).length * 1
  simp [Ba6]
 ·have hx':((Ad q).map fun x=>(x,()))[i]? = some x:=hx
  rw [List.getElem?_map] at hx'
  cases hq:(Ad q)[i]? with
  | none=>rw [hq] at hx'; cases hx'
  | some y=>
   rw [hq] at hx'
   cases hx'
   have:=h2 i y hq
   exact ⟨_,[],(List.append_nil _).symm,this,rfl⟩
theorem A26 (h:Bp n B Iq s g a w) {nid:Nat} {src dst:TypeId} {x:Operand} {l:Lf} {s':St} (e:Nl (Alv P s nid src dst x)=some (l,s')):
  ∃ u w' g',(convert src dst (a.eval x)).run P w=.ok u w'∧Go B Iq s g w s' g' w'∧Bp n B Iq s' g' a w'∧Cx s' g' w' l u∧u.oneCell'=true:=by
 obtain ⟨cs,e,hc⟩:=Cn e
 unfold Alv at e
 split at e
 ·rename_i el q hf hU hD hq
  split at e
  ·rename_i hE
   cases e
   obtain ⟨hc,_⟩:=A1 hc
   have hlen:(Ba6 (Ad q)).length=q.size:=by simp [Ba6,Ad]
   have hge:=grownCap_ge w q.size 0 el
   have hcm:=grownCap_le_maxLen w q.size 0 el (by simp only [maxLen]; omega)
   have hsz:(bytesRow q (grownCap w q.size 0 el)).size=grownCap w q.size 0 el:=by
    unfold bytesRow
    simp
    omega
   have hrun:=run_bytes_of_string (P:=P) w src dst el q hU hD hE
   rw [hsz] at hrun
   have hg:w.grownBy (w.drew.alloc (.cells (bytesRow q (grownCap w q.size 0 el)) el (grownCap w q.size 0 el,grownCap w q.size 0 el + 1))) (Value.ownBlock (.slice none 0 0)):=
    ⟨rfl,rfl,rfl,by simp,fun j hj _=>Below.heap_alloc w.drew _ j hj⟩
   have hown:Hr (w.drew.alloc (.cells (bytesRow q (grownCap w q.size 0 el)) el (grownCap w q.size 0 el,grownCap w q.size 0 el + 1))) tMk 0 el (Ty.sz tMk) (.slice (some ⟨w.heap.size,0,none⟩) q.size (grownCap w q.size 0 el)) (Ba6 (Ad q)).length (byteCells q):=by
    rw [hlen]
    refine ⟨by simp [byteCells,Ty.sz],.inr ⟨w.heap.size,grownCap w q.size 0 el,_,rfl,Nat.zero_le _,?_,hge,hcm,by rw [hsz]; exact (Nat.mul_one _).symm,?_⟩⟩
    ·have:Ba4 tMk (grownCap w q.size 0 el * Ty.sz tMk)=(grownCap w q.size 0 el,grownCap w q.size 0 el + 1):=by
      show (grownCap w q.size 0 el * 1,grownCap w q.size 0 el * 1 + 1)=_
      rw [Nat.mul_one]
     rw [this]
     exact heap_alloc_new w.drew _
    ·show (bytesRow q (grownCap w q.size 0 el)).toList.take (q.size * 1)=byteCells q
     rw [Nat.mul_one]
     unfold bytesRow byteCells
     rw [Array.toList_append,List.take_append_of_le_length (by simp)]
     rw [List.take_of_length_le (by simp)]
     simp
   obtain ⟨m1,m2,m3,m4⟩:=h.grow (o:=none) hf (v:=.slice none 0 0) (v':=.slice (some ⟨w.heap.size,0,none⟩) q.size (grownCap w q.size 0 el)) (fun id q=>by cases q) (fun _=>rfl) hg (.inr rfl) (Aja hown) hown (fun _=>Bf5 q)
   refine ⟨_,_,_,?_,⟨m4,m1,m2,rfl⟩,m3,?_,W9 hown⟩
   ·rw [(Dv h hq).1]
    exact hrun
   ·simp only [Cx,Ai]
    simp [Gh.mv]
  ·cases e
 ·cases e
end
end
end Go.Proofs.YtjokieaajjmoeaaGreat.R
end
