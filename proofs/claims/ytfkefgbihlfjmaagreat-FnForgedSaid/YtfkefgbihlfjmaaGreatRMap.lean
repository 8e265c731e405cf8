/- Maps with texts as keys: the evaluator's operations, and that they are the machine's. No condition. -/
import Derived.Test.YtfkefgbihlfjmaaGreatRLast
import Derived.Maps.Range
import Derived.Maps.RangeRun
namespace Go.Proofs.YtfkefgbihlfjmaaGreat.R
open Go Go.RowKit
set_option linter.unusedVariables false
set_option linter.unusedSimpArgs false
theorem Ae0 {α β:Type} (f:α→β):∀ (l:List α) (i:Nat),(l.eraseIdx i).map f=(l.map f).eraseIdx i
 | [],_=>rfl
 | _::_,0=>rfl
 | a::l,i + 1=>by simp [List.eraseIdx_cons_succ,Ae0 f l i]
def Ki (a b:ByteArray):Bool:=ByteArray.toList a==ByteArray.toList b
theorem D8 {a b:ByteArray}:Ki a b=true↔a=b:=by
 unfold Ki
 constructor
 ·intro h
  have h:a.toList=b.toList:=eq_of_beq h
  rw [ByteArray.toList_eq,ByteArray.toList_eq] at h
  apply ByteArray.ext
  exact Array.ext' h
 ·rintro rfl
  simp
theorem U5 {a b:ByteArray} (h:a≠b):Ki a b=false:=by
 cases hq:Ki a b
 ·rfl
 ·exact absurd (D8.1 hq) h
def Pn {α:Type} (k:ByteArray) (v:α):List (ByteArray×α)→List (ByteArray×α)
 | []=>[(k,v)]
 | p::r=>bif Ki p.1 k then (k,v)::r else p::Pn k v r
def l5 {α:Type} (k:ByteArray):List (ByteArray×α)→List (ByteArray×α)
 | []=>[]
 | p::r=>bif Ki p.1 k then r else p::l5 k r
def Ku (k:ByteArray):List (ByteArray×Bool)→Bool
 | []=>false
 | p::r=>bif Ki p.1 k then p.2 else Ku k r
section
variable {α:Type} {k:ByteArray} {v:α}
theorem Ao2:∀ {xs:List (ByteArray×α)},(∀ p∈xs,p.1≠k)→Pn k v xs=xs++[(k,v)]
 | [],_=>rfl
 | p::r,h=>by
  simp only [Pn,U5 (h p (by simp)),cond_false]
  rw [Ao2 (fun q hq=>h q (by simp [hq]))]
  rfl
theorem Aw4:∀ {xs:List (ByteArray×α)} {j:Nat} {y:α},xs[j]?=some (k,y)→(xs.map Prod.fst).Nodup→Pn k v xs=xs.set j (k,v)
 | [],j,y,h,_=>by simp at h
 | p::r,0,y,h,_=>by
  simp at h
  subst h
  simp only [Pn,D8.2 rfl,cond_true,List.set_cons_zero]
 | p::r,j + 1,y,h,hn=>by
  simp only [List.getElem?_cons_succ] at h
  simp only [List.map_cons,List.nodup_cons] at hn
  have:p.1≠k:=fun q=>hn.1 (List.mem_map.2 ⟨(k,y),List.mem_of_getElem? h,q.symm⟩)
  simp only [Pn,U5 this,cond_false,List.set_cons_succ]
  rw [Aw4 h hn.2]
theorem Ao3:∀ {xs:List (ByteArray×α)},(∀ p∈xs,p.1≠k)→l5 k xs=xs
 | [],_=>rfl
 | p::r,h=>by
  simp only [l5,U5 (h p (by simp)),cond_false]
  rw [Ao3 (fun q hq=>h q (by simp [hq]))]
theorem Aw5:∀ {xs:List (ByteArray×α)} {j:Nat} {y:α},xs[j]?=some (k,y)→(xs.map Prod.fst).Nodup→l5 k xs=xs.eraseIdx j
 | [],j,y,h,_=>by simp at h
 | p::r,0,y,h,_=>by
  simp at h
  subst h
  simp only [l5,D8.2 rfl,cond_true,List.eraseIdx_zero,List.tail_cons]
 | p::r,j + 1,y,h,hn=>by
  simp only [List.getElem?_cons_succ] at h
  simp only [List.map_cons,List.nodup_cons] at hn
  have:p.1≠k:=fun q=>hn.1 (List.mem_map.2 ⟨(k,y),List.mem_of_getElem? h,q.symm⟩)
  simp only [l5,U5 this,cond_false,List.eraseIdx_cons_succ]
  rw [Aw5 h hn.2]
theorem Akh:∀ {xs:List (ByteArray×Bool)},(∀ p∈xs,p.1≠k)→Ku k xs=false
 | [],_=>rfl
 | p::r,h=>by
  simp only [Ku,U5 (h p (by simp)),cond_false]
  exact Akh (fun q hq=>h q (by simp [hq]))
theorem As0:∀ {xs:List (ByteArray×Bool)} {j:Nat} {y:Bool},xs[j]?=some (k,y)→(xs.map Prod.fst).Nodup→Ku k xs=y
 | [],j,y,h,_=>by simp at h
 | p::r,0,y,h,_=>by
  simp at h
  subst h
  simp only [Ku,D8.2 rfl,cond_true]
 | p::r,j + 1,y,h,hn=>by
  simp only [List.getElem?_cons_succ] at h
  simp only [List.map_cons,List.nodup_cons] at hn
  have:p.1≠k:=fun q=>hn.1 (List.mem_map.2 ⟨(k,y),List.mem_of_getElem? h,q.symm⟩)
  simp only [Ku,U5 this,cond_false]
  exact As0 h hn.2
end
def Aci:Ty→Bool
 | .int _=>true
 | .bool=>true
 | .str=>true
 | _=>false
def A4t (P:Program) (T:TypeId):Bool:=match P.underlying T with
 | some (.map _ _)=>true
 | _=>false
def Ae1 (P:Program) (s:St) (nid:Nat) (T:TypeId):Option (Lf×St):=match P.underlying T,s.res nid with
 | some (.map kt et),.unborn=>match P.underlying kt,A2i P 12 et with
  | some .string,some t=>if Aci t then some (.row nid,s.setRes nid (.map t [])) else none
  | _,_=>none
 | _,_=>none
def Aki (P:Program) (s:St) (T:TypeId) (m k v:Operand):Option St:=match P.underlying T,s.leaf m,s.conc k,s.leaf v with
 | some (.map kt et),some (.row id),some (.string kb),some lv=>match P.underlying kt,s.res id with
  | some .string,.map t xs=>if Aci t then (s.leafD t lv).bind fun x=>some (s.setRes id (.map t (Pn kb x xs))) else none
  | _,_=>none
 | _,_,_,_=>none
def Akj (P:Program) (s:St) (T U:TypeId) (m k:Operand):Option St:=match P.underlying T,s.leaf m,s.conc k with
 | some (.map kt et),some (.row id),some (.string kb)=>match P.underlying kt,s.res id with
  | some .string,.map t xs=>if U=kt then some (s.setRes id (.map t (l5 kb xs))) else none
  | _,_=>none
 | _,_,_=>none
def U6 (P:Program) (s:St) (T:TypeId) (m:Operand):Option Value:=match P.underlying T,s.leaf m with
 | some (.map kt et),some (.row id)=>match s.res id with
  | .map t xs=>some (.int .i64 (List.length xs:Int))
  | _=>none
 | _,_=>none
def A0g (t:Ty) (xs:List (ByteArray×t.D)):Option (List (ByteArray×Bool)):=if h:t=.bool then some (show List (ByteArray×Ty.bool.D) from h ▸ xs) else none
def Ae2 (P:Program) (s:St) (T:TypeId) (m k:Operand):Option Value:=match P.underlying T,s.leaf m,s.conc k with
 | some (.map kt et),some (.row id),some (.string kb)=>match P.underlying kt,Wh P et,P.info? et,s.res id with
  | some .string,some ls,some inf,.map t xs=>match inf.zero with
   | some (.bool false)=>(A0g t xs).bind fun ys=>some (.bool (Ku kb ys))
   | _=>none
  | _,_,_,_=>none
 | _,_,_=>none
def Aqx (P:Program) (s:St) (nid:Nat) (T:TypeId) (m:Operand):Option (Lf×St):=match P.underlying T,s.leaf m,s.res nid with
 | some (.map kt et),some (.row id),.unborn=>match s.res id with
  | .map t xs=>some (.row nid,(s.setRes id .dead).setRes nid (.iter t xs xs none))
  | _=>none
 | _,_,_=>none
def Aqy (s:St) (it:Operand):Option AV:=match s.leaf it with
 | some (.row id)=>match s.res id with
  | .iter t _ _ (some p)=>if Aci t then some (.tp [.lf (.c (.string p.1)),.lf (.c (Yu t p.2))]) else none
  | _=>none
 | _=>none
section
variable {P:Program} {n B:Nat} {Iq:List Nat} {s:St} {g:Gh} {a:Act} {w:World}
theorem Og.len {es:Array MapEntry} {t:Ty} {xs:List (ByteArray×t.D)} (h:Og es t xs):es.size=xs.length:=by
 have:=congrArg List.length h
 simpa using this
theorem Og.keys {es:Array MapEntry} {t:Ty} {xs:List (ByteArray×t.D)} (h:Og es t xs):es.toList.map (·.key)=xs.map fun p=>Value.string p.1:=by
 have:=congrArg (List.map Prod.fst) h
 simpa [List.map_map,Function.comp_def] using this
theorem Og.isKey {es:Array MapEntry} {t:Ty} {xs:List (ByteArray×t.D)} (h:Og es t xs):∀ x∈es.toList,MapKept.IsKey .string x.key:=fun x hx=>by
 have:x.key∈es.toList.map (·.key):=List.mem_map_of_mem hx
 rw [h.keys] at this
 obtain ⟨p,_,hp⟩:=List.mem_map.1 this
 rw [← hp]
 trivial
theorem Og.nodup {es:Array MapEntry} {t:Ty} {xs:List (ByteArray×t.D)} {clock:Nat} (h:Og es t xs) (hs:MapKept.Stamped es clock):(xs.map Prod.fst).Nodup:=by
 have:=hs.2.2
 rw [h.keys] at this
 have h2:(xs.map fun p=>Value.string p.1)=(xs.map Prod.fst).map Value.string:=by simp [List.map_map,Function.comp_def]
 rw [h2] at this
 exact List.Pairwise.imp (fun {a b} (q:Value.string a≠Value.string b) hab=>q (congrArg Value.string hab)) (List.pairwise_map.1 this)
theorem Og.get {es:Array MapEntry} {t:Ty} {xs:List (ByteArray×t.D)} (h:Og es t xs) {j:Nat} {e:MapEntry} (he:es.toList[j]?=some e):∃ p,xs[j]?=some p∧e.key=.string p.1∧e.val=Yu t p.2:=by
 have h1:(es.toList.map (fun e=>(e.key,e.val)))[j]?=some (e.key,e.val):=by rw [List.getElem?_map,he]; rfl
 rw [h,List.getElem?_map] at h1
 obtain ⟨p,hp,hq⟩:=Option.map_eq_some_iff.1 h1
 obtain ⟨h2,h3⟩:=Prod.mk.inj hq
 exact ⟨p,hp,h2.symm,h3.symm⟩
theorem Og.none_of {es:Array MapEntry} {t:Ty} {xs:List (ByteArray×t.D)} (h:Og es t xs) {k:ByteArray} (hn:∀ x∈es.toList,x.key≠.string k):∀ p∈xs,p.1≠k:=fun p hp q=>by
 have:Value.string p.1∈xs.map (fun p=>Value.string p.1):=List.mem_map_of_mem (f:=fun p:ByteArray×t.D=>Value.string p.1) hp
 rw [← h.keys] at this
 obtain ⟨x,hx,hk⟩:=List.mem_map.1 this
 exact hn x hx (by rw [hk,q])
theorem Aje (h:B8 n B Iq s g a w) {id b:Nat} {t:Ty} {xs xs':List (ByteArray×t.D)} {es es':Array MapEntry} {clock clock':Nat} (hr:s.res id=.map t xs) (hb:g.blk id=some b) (hh:w.heap[b]?=some (.map es clock))
  (hs':MapKept.Stamped es' clock') (hm':Og es' t xs'):
  Go B Iq s g w (s.setRes id (.map t xs')) g { w with heap:=w.heap.setIfInBounds b (.map es' clock') }∧B8 n B Iq (s.setRes id (.map t xs')) g a { w with heap:=w.heap.setIfInBounds b (.map es' clock') }:=by
 obtain ⟨hset1,hset2⟩:=MapKept.heap_set (o':=.map es' clock') hh
 have hlive:(s.res id).live=true:=by rw [hr]; rfl
 have hne:∀ k,k≠b→({ w with heap:=w.heap.setIfInBounds b (.map es' clock') }:World).heap[k]?=w.heap[k]?:=fun k hk=>hset2 k hk
 have hS:∀ c,Eu s g c→c < w.heap.size→Eu (s.setRes id (.map t xs')) g c∧({ w with heap:=w.heap.setIfInBounds b (.map es' clock') }:World).heap[c]?=w.heap[c]?:=by
  intro c hc _
  refine ⟨⟨hc.1,fun j hj=>?_⟩,hne c (fun q=>hc.2 id hlive (by rw [q]; exact hb))⟩
  by_cases q:j=id
  ·rw [q]; exact hc.2 id hlive
  ·rw [Aq s _ q] at hj; exact hc.2 j hj
 have hI:∀ j,A4 s g (s.setRes id (.map t xs')) g j:=by
  intro j
  by_cases q:j=id
  ·subst q
   unfold A4
   rw [hr,Ao]
   exact .inr ⟨_,_,rfl,rfl,rfl⟩
  ·exact A4.same (Aq s _ q) rfl rfl
 refine ⟨⟨⟨rfl,rfl,rfl,by simp,fun k hk hn=>hne k (fun q=>?_)⟩,hS,hI,rfl⟩,h.step h.size h.defers (by simp) hS hI (fun i=>.inl ⟨rfl,rfl⟩) (fun j=>?_) h.inj (fun j c hj=>?_) rfl⟩
 ·subst q
  rcases (h.lt id k hb).2.1 with q2 | q2
  ·exact hn q2
  ·omega
 ·by_cases q:j=id
  ·subst q
   right
   rw [Ao]
   have r:=h.res j
   rw [hr] at r
   obtain ⟨b',_,_,h1,h2,_⟩:=r
   obtain rfl:b'=b:=Option.some.inj (h1.symm.trans hb)
   exact ⟨b',es',clock',h1,h2,hset1,hs',hm'⟩
  ·left
   exact ⟨Aq s _ q,rfl,rfl,fun c hc=>hne c (fun q2=>q (h.inj j id c hc (by rw [q2]; exact hb)))⟩
 ·have:=h.lt j c hj
  simpa using this
theorem A2m {t:Ty} (ht:Aci t=true) {S:Nat→Prop} {x:t.D} {u:Value} (h:t.K w S x [u]):u=Yu t x:=by
 cases t<;>first | (cases h; rfl) | (cases ht; done)
theorem As1 (h:B8 n B Iq s g a w) {T:TypeId} {m k v:Operand} {s':St} (e:Aki P s T m k v=some s'):
  ∃ w' g',(Instr.mapUpdate T (a.eval m) (a.eval k) (a.eval v)).run P w=.ok () w'∧Go B Iq s g w s' g' w'∧B8 n B Iq s' g' a w':=by
 unfold Aki at e
 split at e
 ·rename_i kt et id kb lv hT hm hk hv
  split at e
  ·rename_i t xs hkt hr
   split at e
   ·rename_i hpt
    obtain ⟨x,hx,e⟩:=Option.bind_eq_some_iff.1 e
    cases e
    obtain ⟨hl,_⟩:=Dc h hm
    obtain ⟨hlv,_⟩:=Dc h hv
    have hv2:a.eval v=Yu t x:=A2m hpt (St.leafD_K hx hlv h.res)
    have r:=h.res id
    rw [hr] at r
    obtain ⟨b,es,clock,r1,r2,r3,r4,r5⟩:=r
    simp only [Dq,hr] at hl
    rw [hl,r2,(Db h hk).1,hv2]
    have hik:MapKept.IsKey .string (.string kb):=trivial
    rcases MapKept.findNow_spec hik es.toList 0 r5.isKey with ⟨h1,h2⟩ | ⟨j,e0,h1,h2,h3⟩
    ·have hno:=r5.none_of h2
     obtain ⟨k1,k2⟩:=Aje h (xs':=Pn kb x xs) (es':=es.push ⟨.string kb,Yu t x,clock⟩) (clock':=clock + 1) hr r1 r3 (MapKept.stamped_push r4 h2) (by
      unfold Og
      rw [Ao2 hno,Array.toList_push,List.map_append,List.map_append,r5]
      rfl)
     refine ⟨_,g,?_,k1,k2⟩
     simp [Instr.mapUpdate,run_underlying hT,MapKept.run_getObj_map r3,MapKept.run_checkKey hkt hik,MapKept.run_findKey hkt h1,MapKept.run_setObj_map _ r3,Result.andThen]
    ·obtain ⟨p,hp1,hp2,hp3⟩:=r5.get h2
     have hpk:p.1=kb:=by rw [h3] at hp2; cases hp2; rfl
     obtain ⟨pk,py⟩:=p
     simp only at hpk
     subst hpk
     have hj:es[j]?=some e0:=by simpa using h2
     have hjs:j < es.size:=(Array.getElem?_eq_some_iff.1 hj).1
     have hkey:∀ e',es[j]?=some e'→({ e' with key:=Value.string pk,val:=Yu t x }:MapEntry).key=e'.key:=fun e' he'=>by rw [hj] at he'; cases he'; exact h3.symm
     have hup:=Aw4 (v:=x) hp1 (r5.nodup r4)
     obtain ⟨k1,k2⟩:=Aje h (xs':=Pn pk x xs) (es':=es.modify j (fun e'=>{ e' with key:=.string pk,val:=Yu t x })) (clock':=clock) hr r1 r3 (MapKept.stamped_modify r4 _ _ (fun _ _=>rfl) (fun e' _ he'=>hkey e' he')) (by
      unfold Og
      rw [hup,Array.toList_modify,List.map_set]
      apply List.ext_getElem?
      intro i
      have hi:=congrArg (fun l=>l[i]?) r5
      simp only [List.getElem?_map] at hi
      simp only [List.getElem?_map,List.getElem?_modify,List.getElem?_set,List.length_map]
      by_cases q:j=i
      ·subst q
       have hxl:j < xs.length:=by rw [← r5.len]; exact hjs
       rw [h2]
       simp [hxl]
      ·simpa [q] using hi)
     refine ⟨_,g,?_,k1,k2⟩
     simp [Instr.mapUpdate,run_underlying hT,MapKept.run_getObj_map r3,MapKept.run_checkKey hkt hik,MapKept.run_findKey hkt h1,hj,h3,MapKept.run_keyThatStays hik,MapKept.run_setObj_map _ r3,Result.andThen]
   ·cases e
  ·cases e
 ·cases e
theorem As2 (h:B8 n B Iq s g a w) {T U ty:TypeId} {m k:Operand} {s':St} (e:Akj P s T U m k=some s'):
  ∃ w' g',(Builtin.delete_ #[T,U] ty #[a.eval m,a.eval k]).run P w=.ok (.tuple #[]) w'∧Go B Iq s g w s' g' w'∧B8 n B Iq s' g' a w':=by
 unfold Akj at e
 split at e
 ·rename_i kt et id kb hT hm hk
  split at e
  ·rename_i t xs hkt hr
   split at e
   ·rename_i hU
    subst hU
    cases e
    obtain ⟨hl,_⟩:=Dc h hm
    have r:=h.res id
    rw [hr] at r
    obtain ⟨b,es,clock,r1,r2,r3,r4,r5⟩:=r
    simp only [Dq,hr] at hl
    rw [hl,r2,(Db h hk).1]
    have hik:MapKept.IsKey .string (.string kb):=trivial
    rcases MapKept.findNow_spec hik es.toList 0 r5.isKey with ⟨h1,h2⟩ | ⟨j,e0,h1,h2,h3⟩
    ·have hno:=r5.none_of h2
     obtain ⟨k1,k2⟩:=Aje h (xs':=l5 kb xs) (es':=es) (clock':=clock) hr r1 r3 r4 (by rw [Ao3 hno]; exact r5)
     refine ⟨_,g,?_,k1,k2⟩
     simp [Builtin.delete_,run_underlying hT,MapKept.run_getObj_map r3,MapKept.run_checkKey hkt hik,MapKept.run_findKey hkt h1,MapKept.run_setObj_map _ r3,Result.andThen]
    ·obtain ⟨p,hp1,hp2,hp3⟩:=r5.get h2
     have hpk:p.1=kb:=by rw [h3] at hp2; cases hp2; rfl
     obtain ⟨pk,py⟩:=p
     simp only at hpk
     subst hpk
     have hjl:j < es.toList.length:=(List.getElem?_eq_some_iff.1 h2).1
     have hjs:j < es.size:=by simpa using hjl
     have hsub:(es.eraseIdxIfInBounds j).toList=es.toList.eraseIdx j:=by
      unfold Array.eraseIdxIfInBounds
      rw [dif_pos hjs]
      simp
     obtain ⟨k1,k2⟩:=Aje h (xs':=l5 pk xs) (es':=es.eraseIdxIfInBounds j) (clock':=clock) hr r1 r3 (MapKept.stamped_erase r4 j) (by
      unfold Og
      rw [Aw5 hp1 (r5.nodup r4),hsub,Ae0,Ae0,r5])
     refine ⟨_,g,?_,k1,k2⟩
     simp [Builtin.delete_,run_underlying hT,MapKept.run_getObj_map r3,MapKept.run_checkKey hkt hik,MapKept.run_findKey hkt h1,MapKept.run_setObj_map _ r3,Result.andThen]
   ·cases e
  ·cases e
 ·cases e
theorem As3 (h:B8 n B Iq s g a w) {T ty:TypeId} {m:Operand} {v:Value} (e:U6 P s T m=some v):(Builtin.len_ #[T] ty #[a.eval m]).run P w=.ok v w∧v.oneCell'=true:=by
 unfold U6 at e
 split at e
 ·rename_i kt et id hT hm
  split at e
  ·rename_i t xs hr
   cases e
   obtain ⟨hl,_⟩:=Dc h hm
   have r:=h.res id
   rw [hr] at r
   obtain ⟨b,es,clock,r1,r2,r3,r4,r5⟩:=r
   simp only [Dq,hr] at hl
   rw [hl,r2,← r5.len]
   exact ⟨by simp [Builtin.len_,run_underlying hT,MapKept.run_getObj_map r3,goInt,Result.andThen],rfl⟩
  ·cases e
 ·cases e
theorem Aqz (h:B8 n B Iq s g a w) {T:TypeId} {m k:Operand} {v:Value} (e:Ae2 P s T m k=some v):(Instr.lookup T (a.eval m) (a.eval k) false).run P w=.ok v w∧v.oneCell'=true:=by
 unfold Ae2 at e
 split at e
 ·rename_i kt et id kb hT hm hk
  split at e
  ·rename_i ls inf t xs hkt hz hi hr
   split at e
   ·rename_i hiz
    obtain ⟨ys,hys,e⟩:=Option.bind_eq_some_iff.1 e
    cases e
    unfold A0g at hys
    split at hys<;>cases hys
    rename_i ht
    subst ht
    obtain ⟨z,hz1,_,i',hi',hz'⟩:=M8 hz s g w
    obtain rfl:inf=i':=Option.some.inj (hi.symm.trans hi')
    obtain rfl:Value.bool false=z:=Option.some.inj (hiz.symm.trans hz')
    obtain ⟨hl,_⟩:=Dc h hm
    have r:=h.res id
    rw [hr] at r
    obtain ⟨b,es,clock,r1,r2,r3,r4,r5⟩:=r
    simp only [Dq,hr] at hl
    rw [hl,r2,(Db h hk).1]
    have hik:MapKept.IsKey .string (.string kb):=trivial
    refine ⟨?_,rfl⟩
    show _=Result.ok (Value.bool (Ku kb xs)) w
    rcases MapKept.findNow_spec hik es.toList 0 r5.isKey with ⟨h1,h2⟩ | ⟨j,e0,h1,h2,h3⟩
    ·have:=Akh (xs:=xs) (r5.none_of h2)
     rw [this]
     simp [Instr.lookup,run_underlying hT,MapKept.run_getObj_map r3,MapKept.run_checkKey hkt hik,MapKept.run_findKey hkt h1,hz1,Result.andThen]
    ·obtain ⟨p,hp1,hp2,hp3⟩:=r5.get h2
     have hpk:p.1=kb:=by rw [h3] at hp2; cases hp2; rfl
     obtain ⟨pk,py⟩:=p
     simp only at hpk
     subst hpk
     have:=As0 (xs:=xs) hp1 (r5.nodup r4)
     rw [this]
     have hp3:e0.val=.bool py:=hp3
     simp [Instr.lookup,run_underlying hT,MapKept.run_getObj_map r3,MapKept.run_checkKey hkt hik,MapKept.run_findKey hkt h1,hz1,hp3,Result.andThen]
   ·cases e
  ·cases e
 ·cases e
theorem Aq0 (h:B8 n B Iq s g a w) {nid:Nat} {T:TypeId} {l:Lf} {s':St} (e:Ae1 P s nid T=some (l,s')):
  ∃ u w' g',(Instr.makeMap T none).run P w=.ok u w'∧Go B Iq s g w s' g' w'∧B8 n B Iq s' g' a w'∧Dq s' g' w' l u∧u.oneCell'=true:=by
 unfold Ae1 at e
 split at e
 ·rename_i kt et hT hf
  split at e
  ·rename_i t hkt ht
   split at e<;>cases e
   refine ⟨.map (some w.heap.size),w.alloc (.map #[] 0),_,?_,Go.alloc h hf _ (.map (some w.heap.size)) _,h.alloc hf _ (.map (some w.heap.size)) _ ⟨w.heap.size,#[],0,?_,?_,Aj4 w _,MapKept.stamped_empty 0,rfl⟩,?_,rfl⟩
   ·simp [Instr.makeMap,Result.andThen]
   ·simp only [Gh.new,A9]
   ·simp only [Gh.new,A9]
   ·simp only [Dq,Ao,Gh.new,A9]
  ·cases e
 ·cases e
theorem A2n (h:B8 n B Iq s g a w) (id:Nat):B8 n B Iq (s.setRes id .dead) (g.off id) a w∧Go B Iq s g w (s.setRes id .dead) (g.off id) w:=by
 have hS:∀ b,Eu s g b→b < w.heap.size→Eu (s.setRes id .dead) (g.off id) b∧w.heap[b]?=w.heap[b]?:=by
  intro b hb _
  refine ⟨⟨hb.1,fun j hj hk=>?_⟩,rfl⟩
  by_cases q:j=id
  ·subst q
   simp [Gh.off] at hk
  ·rw [Aq s _ q] at hj
   simp only [Gh.off,A1 _ _ q] at hk
   exact hb.2 j hj hk
 have hI:∀ j,A4 s g (s.setRes id .dead) (g.off id) j:=by
  intro j
  by_cases q:j=id
  ·subst q
   exact .inl (Ao s _ _)
  ·exact A4.same (Aq s _ q) (by simp [Gh.off,A1 _ _ q]) rfl
 refine ⟨h.step h.size h.defers (Nat.le_refl _) hS hI (fun i=>.inl ⟨rfl,rfl⟩) (fun j=>?_) (fun i j b hi hj=>?_) (fun i b hi=>?_) rfl,⟨Kp.refl B Iq w,hS,hI,rfl⟩⟩
 ·by_cases q:j=id
  ·subst q
   right
   rw [Ao]
   show (g.off j).blk j=none
   simp [Gh.off]
  ·left
   exact ⟨Aq s _ q,by simp [Gh.off,A1 _ _ q],rfl,fun _ _=>rfl⟩
 ·by_cases q1:i=id
  ·simp [Gh.off,q1] at hi
  ·by_cases q2:j=id
   ·simp [Gh.off,q2] at hj
   ·simp only [Gh.off,A1 _ _ q1] at hi
    simp only [Gh.off,A1 _ _ q2] at hj
    exact h.inj i j b hi hj
 ·by_cases q1:i=id
  ·simp [Gh.off,q1] at hi
  ·simp only [Gh.off,A1 _ _ q1] at hi
   exact h.lt i b hi
theorem Avk (h:B8 n B Iq s g a w) {nid:Nat} {T:TypeId} {m:Operand} {l:Lf} {s':St} (e:Aqx P s nid T m=some (l,s')):
  ∃ u w' g',(Instr.range T (a.eval m)).run P w=.ok u w'∧Go B Iq s g w s' g' w'∧B8 n B Iq s' g' a w'∧Dq s' g' w' l u∧u.oneCell'=true:=by
 unfold Aqx at e
 split at e
 ·rename_i kt et id hT hm hf
  split at e
  ·rename_i t xs hr
   cases e
   obtain ⟨hl,_⟩:=Dc h hm
   have r:=h.res id
   rw [hr] at r
   obtain ⟨b,es,clock,r1,r2,r3,r4,r5⟩:=r
   simp only [Dq,hr] at hl
   obtain ⟨k1,k2⟩:=A2n h id
   have hin:id≠nid:=fun q=>by rw [q,hf] at hr; cases hr
   have hf':(s.setRes id .dead).res nid=.unborn:=(Aq s _ hin.symm).trans hf
   have hSb:Eu (s.setRes id .dead) (g.off id) b:=by
    refine ⟨(h.lt id b r1).2.2,fun j hj hk=>?_⟩
    by_cases q:j=id
    ·subst q
     simp [Gh.off] at hk
    ·simp only [Gh.off,A1 _ _ q] at hk
     exact q (h.inj j id b hk r1)
   have hlt:=(h.lt id b r1).1
   have hS2:=g7 k1 hf' (.iter t xs xs none) (.pointer (some ⟨w.heap.size,0,none⟩)) (.mapIter (some b) clock #[] clock)
   obtain ⟨q1,q2⟩:=hS2 b hSb hlt
   refine ⟨.pointer (some ⟨w.heap.size,0,none⟩),_,_,?_,k2.trans (Go.alloc k1 hf' _ (.pointer (some ⟨w.heap.size,0,none⟩)) (.mapIter (some b) clock #[] clock)),k1.alloc hf' _ (.pointer (some ⟨w.heap.size,0,none⟩)) (.mapIter (some b) clock #[] clock) ⟨b,w.heap.size,es,clock,clock,clock,#[],?_,?_,Aj4 w _,q1,by simp; omega,q2.trans r3,r4,r5,by unfold Az2; rw [List.filter_eq_self.2 (fun x _=>by simp)]; exact r5,r4.1,Nat.le_refl _,Nat.le_refl _,fun _ _ q=>by cases q⟩,?_,rfl⟩
   ·rw [hl,r2]
    exact run_range_map w T kt et b es clock hT r3
   ·simp only [Gh.new,A9]
   ·simp only [Gh.new,A9]
   ·simp only [Dq,Ao,Gh.new,A9]
  ·cases e
 ·cases e
theorem Ayu {t:Ty} {v:t.D} (h:Aci t=true):(Yu t v).oneCell'=true:=by
 cases t<;>first | rfl | (cases h; done)
theorem Avl (h:B8 n B Iq s g a w) {it:Operand} {av:AV} (e:Aqy s it=some av):∃ v,(Instr.entry (a.eval it)).run P w=.ok v w∧Uk s g w av v:=by
 unfold Aqy at e
 split at e
 ·rename_i id hm
  split at e
  ·rename_i t xs left p hr
   split at e<;>cases e
   rename_i hp
   obtain ⟨hl,_⟩:=Dc h hm
   have r:=h.res id
   rw [hr] at r
   obtain ⟨b,r,es,clock,since,c0,sn,r1,r2,r3,r4,r5,r6,r7,r8,r9,r10,r11,r12,r13⟩:=r
   simp only [Dq,hr] at hl
   obtain ⟨hcl,en,he,seen0,hs,hk,hv⟩:=r13 p.1 p.2 rfl
   rw [hl,r2]
   subst hs
   subst hcl
   refine ⟨_,run_entry_at w r b since seen0 es _ en r3 r6 he r7.2.1,?_⟩
   refine ⟨_,rfl,rfl,?_⟩
   intro j v hj
   match j,hj with
   | 0,hj=>cases hj; exact ⟨en.key,rfl,hk,by rw [hk]; rfl⟩
   | 1,hj=>cases hj; exact ⟨en.val,rfl,hv,by rw [hv]; exact Ayu hp⟩
  ·cases e
 ·cases e
end
end Go.Proofs.YtfkefgbihlfjmaaGreat.R

