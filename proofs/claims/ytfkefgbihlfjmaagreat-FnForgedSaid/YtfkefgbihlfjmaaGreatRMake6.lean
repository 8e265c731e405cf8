/- The evaluator's store, and bytes as a text, are the machine's. No condition. -/
import Derived.Test.YtfkefgbihlfjmaaGreatRMake5
import Derived.Laws.BytesString
import Derived.WideShapes
namespace Go.Proofs.YtfkefgbihlfjmaaGreat.R
open Go Go.RowKit
set_option linter.unusedVariables false
set_option linter.unusedSimpArgs false
section
variable {P:Program} {n B:Nat} {Iq:List Nat} {s:St} {g:Gh} {a:Act} {w:World}
theorem Acd {t:Ty} (ht:t.sz=1) {T e':TypeId} (hT:P.underlying T=some (.slice e')) (h:B8 n B Iq s g a w) {l:Lf} {u:Value} {ys:List t.D} (e:Td s t l=some ys) (hl:Dq s g w l u):
  ∃ A c,u=.slice A (List.length ys) c∧((A=none∧ys=[])∨∃ ad,A=some ad∧∀ (j:Nat) (y:t.D),nth ys j=some y→∃ v,t.K w (Eu s g) y [v]∧w.cell? (ad.add j)=some v):=by
 have viaK:(Ty.sl t).K w (Eu s g) ys [u]→∃ A c,u=.slice A (List.length ys) c∧((A=none∧ys=[])∨∃ ad,A=some ad∧∀ (j:Nat) (y:t.D),nth ys j=some y→∃ v,t.K w (Eu s g) y [v]∧w.cell? (ad.add j)=some v):=by
  rintro ⟨A,c,hu,hle,hx⟩
  cases hu
  refine ⟨A,c,rfl,?_⟩
  cases A with
  | none=>
   left
   refine ⟨rfl,?_⟩
   cases hy:ys with
   | nil=>rfl
   | cons y r=>
    obtain ⟨ad,q,_⟩:=hx 0 y (by rw [hy]; rfl)
    cases q
  | some ad=>
   right
   refine ⟨ad,rfl,fun j y hj=>?_⟩
   obtain ⟨ad',q,_,_,cs',k1,k2,k3⟩:=hx j y hj
   cases q
   rw [ht] at k1
   match cs',k1 with
   | [v],_=>exact ⟨v,k2,by have:=k3 0 v rfl; rw [ht] at this; simpa using this⟩
 unfold Td at e
 split at e
 ·cases e
  cases hl
  exact ⟨none,0,rfl,.inl ⟨rfl,rfl⟩⟩
 ·split at e<;>cases e
  rename_i t' xs hq
  subst hq
  exact viaK hl
 ·rename_i id
  split at e
  ·rename_i e' t' xs hr
   split at e<;>cases e
   rename_i hq
   subst hq
   have r:=h.res id
   rw [hr] at r
   obtain ⟨cs,h1,h2,h3⟩:=r
   simp only [Dq,hr] at hl
   have hS:(Ty.sl t').K w (fun _=>True) xs [u]:=by
    rw [hl]
    refine Aj5 h1 ⟨h2.1,fun i x hx=>Ty.K_keep (fun b hb _=>⟨trivial,rfl⟩) (h2.2 i x hx)⟩ (fun _ _=>trivial) (Acb h1)
   obtain ⟨A,c,hu,hle,hx⟩:=hS
   cases hu
   refine ⟨A,c,rfl,?_⟩
   cases A with
   | none=>
    left
    refine ⟨rfl,?_⟩
    cases hy:xs with
    | nil=>rfl
    | cons y r=>
     obtain ⟨ad,q,_⟩:=hx 0 y (by rw [hy]; rfl)
     cases q
   | some ad=>
    right
    refine ⟨ad,rfl,fun j y hj=>?_⟩
    obtain ⟨ad',q,_,_,cs',k1,k2,k3⟩:=hx j y hj
    cases q
    have hK:=h2.2 j y hj
    rw [ht] at k1
    match cs',k1 with
    | [v],_=>
     have hc:=k3 0 v rfl
     rw [ht] at hc
     rcases h1.2 with ⟨hv,hn⟩ | ⟨b,cap,cur,hv,_⟩
     ·rw [← hl] at hv; cases hv
     ·rw [← hl] at hv
      cases hv
      have hlt:j < xs.length:=(List.getElem?_eq_some_iff.1 hj).1
      have hcl:=h2.1
      rw [ht,Nat.mul_one] at hcl
      have hcj:cs[j]?=some cs[j]:=List.getElem?_eq_getElem (by omega)
      have hcell:=h1.cells (g:=b) (by rw [← hl]; rfl) j _ hcj
      rw [ht,Nat.mul_one,List.drop_eq_getElem_cons (by omega:j < cs.length)] at hK
      simp only [Nat.mul_one,Nat.add_zero] at hc
      rw [hcell] at hc
      refine ⟨v,?_,hcell.trans hc⟩
      have hvv:cs[j]=v:=Option.some.inj hc
      simpa [hvv] using hK
  ·rename_i t' xs hr
   split at e<;>cases e
   rename_i hq
   subst hq
   have r:=h.res id
   rw [hr] at r
   simp only [Dq,hr] at hl
   rw [hl]
   rw [hl] at viaK
   exact viaK r.1
  ·cases e
 ·cases e
theorem Agz:∀ (ns:List Int) (q:ByteArray),(ns.foldl (fun r k=>r.push (UInt8.ofNat k.toNat)) q).data.toList=q.data.toList++ns.map fun k=>UInt8.ofNat k.toNat
 | [],q=>by simp
 | k::ns,q=>by
  simp only [List.foldl_cons]
  rw [Agz ns]
  simp [ByteArray.push]
theorem Aj9 (ns:List Int):ns.foldl (fun r k=>r.push (UInt8.ofNat k.toNat)) ByteArray.empty=strOfNums ns:=by
 refine WideShapes.bytes_inj ?_
 rw [Agz]
 rfl
theorem Aov {src dst el:TypeId} (hU:P.underlying src=some (.slice el)) (hE:P.underlying el=some (.int .u8)) (hD:P.underlying dst=some .string) (c:Nat):
  (convert src dst (.slice none 0 c)).run P w=.ok (.string (strOfNums [])) w:=by
 simp [convert,run_underlying hU,run_underlying hD,run_underlying hE,Conv.bytesToString,strOfNums,ByteArray.empty,ByteArray.emptyWithCapacity]
 rfl
theorem Aow {src dst el:TypeId} (hU:P.underlying src=some (.slice el)) (hE:P.underlying el=some (.int .u8)) (hD:P.underlying dst=some .string) {ad:Addr} {c:Nat} (xs:List Int) (hc:∀ (j:Nat) (y:Int),xs[j]?=some y→w.cell? (ad.add j)=some (.int .u8 y)):
  (convert src dst (.slice (some ad) xs.length c)).run P w=.ok (.string (strOfNums xs)) w:=by
 have hld:=run_loadCells_list (P:=P) (w:=w) ad (xs.map (Value.int .u8)) (fun j v hv=>by
  rw [List.getElem?_map] at hv
  cases hq:xs[j]? with
  | none=>rw [hq] at hv; cases hv
  | some y=>
   rw [hq] at hv
   cases hv
   exact hc j y hq)
 rw [List.length_map] at hld
 have hb:=run_bytesToString (P:=P) w ad xs.length c xs hld
 rw [Aj9] at hb
 simp only [convert,Sem.run_bind,run_underlying hU,run_underlying hD,run_underlying hE,Result.andThen_ok]
 exact hb
theorem Az8 (xs:List (Int×Unit)):xs.length=(Au8 xs).length:=by simp [Au8]
theorem Az9 {xs:List (Int×Unit)} {j:Nat} {y:Int} (h:(Au8 xs)[j]?=some y):∃ y0,xs[j]?=some y0∧y0.1=y:=by
 unfold Au8 at h
 rw [List.getElem?_map] at h
 cases hq:xs[j]? with
 | none=>rw [hq] at h; cases h
 | some y0=>rw [hq] at h; cases h; exact ⟨y0,rfl,rfl⟩
theorem Anj (h:B8 n B Iq s g a w) {src dst:TypeId} {x:Operand} {v:Value} (e:Aab P s src dst x=some v):(convert src dst (a.eval x)).run P w=.ok v w∧v.oneCell'=true:=by
 unfold Aab at e
 split at e
 ·rename_i el hU hD
  split at e
  ·rename_i xs hE hx
   cases e
   obtain ⟨l,e1,e2⟩:=Option.bind_eq_some_iff.1 hx
   obtain ⟨hl,_⟩:=Dc h e1
   obtain ⟨A,c,hu,hc⟩:=Acd (t:=.int .u8) rfl hU h e2 hl
   refine ⟨?_,rfl⟩
   rw [hu]
   rcases hc with ⟨rfl,rfl⟩ | ⟨ad,rfl,hc⟩
   ·exact Aov hU hE hD c
   ·refine Aow hU hE hD (show List Int from xs) (fun j y hj=>?_)
    obtain ⟨v',k1,k2⟩:=hc j y hj
    have:[v']=[Value.int .u8 y]:=k1
    cases this
    exact k2
  ·rename_i hE _
   split at e
   ·rename_i xs hx
    cases e
    obtain ⟨l,e1,e2⟩:=Option.bind_eq_some_iff.1 hx
    obtain ⟨hl,_⟩:=Dc h e1
    obtain ⟨A,c,hu,hc⟩:=Acd (t:=tMk) rfl hU h e2 hl
    refine ⟨?_,rfl⟩
    rw [hu]
    rcases hc with ⟨rfl,rfl⟩ | ⟨ad,rfl,hc⟩
    ·exact Aov hU hE hD c
    ·have hlen:List.length xs=(Au8 xs).length:=Az8 xs
     rw [hlen]
     refine Aow hU hE hD (Au8 xs) (fun j y hj=>?_)
     obtain ⟨y0,hq,rfl⟩:=Az9 hj
     obtain ⟨v',k1,k2⟩:=hc j y0 hq
     obtain ⟨c1,c2,k3,k4,k5⟩:=k1
     have k4:c1=[Value.int .u8 y0.1]:=k4
     have k5:c2=[]:=k5
     subst k4 k5
     cases k3
     exact k2
   ·cases e
  ·cases e
 ·cases e
theorem Q9 {α:Type} (cs us:List α) (p k:Nat) (h:p + us.length≤cs.length):(cs.take p++us++cs.drop (p + us.length))[k]?=if k < p then cs[k]? else if k < p + us.length then us[k - p]? else cs[k]?:=by
 have hp:(cs.take p).length=p:=by rw [List.length_take]; omega
 by_cases k1:k < p
 ·rw [if_pos k1,List.append_assoc,List.getElem?_append_left (by omega),List.getElem?_take,if_pos k1]
 ·rw [if_neg k1]
  by_cases k2:k < p + us.length
  ·rw [if_pos k2,List.append_assoc,List.getElem?_append_right (by omega),List.getElem?_append_left (by omega),hp]
  ·have hpu:(cs.take p++us).length=p + us.length:=by rw [List.length_append,hp]
   rw [if_neg k2,List.getElem?_append_right (by omega),List.getElem?_drop,hpu]
   congr 1
   omega
theorem Ul {α:Type} (cs us:List α) (p:Nat) (h:p + us.length≤cs.length):(cs.take p++us++cs.drop (p + us.length)).length=cs.length:=by
 rw [List.length_append,List.length_append,List.length_take,List.length_drop]
 omega
theorem Asp {α:Type} (cur us:List α) (p m:Nat) (h:p + us.length≤m) (hm:m≤cur.length):(cur.take p++us++cur.drop (p + us.length)).take m=(cur.take m).take p++us++(cur.take m).drop (p + us.length):=by
 apply List.ext_getElem?
 intro k
 rw [List.getElem?_take,Q9 cur us p k (by omega),Q9 (cur.take m) us p k (by rw [List.length_take]; omega),List.getElem?_take]
 by_cases k1:k < m
 ·rw [if_pos k1,if_pos k1]
 ·rw [if_neg k1,if_neg k1,if_neg (by omega),if_neg (by omega)]
theorem Ave {α:Type} (cs us:List α) (q off m:Nat) (h:off + us.length≤m) (hm:q + m≤cs.length):((cs.take (q + off)++us++cs.drop (q + off + us.length)).drop q).take m=(((cs.drop q).take m).take off++us++((cs.drop q).take m).drop (off + us.length)).take m:=by
 have hl:((cs.drop q).take m).length=m:=by rw [List.length_take,List.length_drop]; omega
 apply List.ext_getElem?
 intro k
 rw [List.getElem?_take,List.getElem?_take]
 by_cases k1:k < m
 ·rw [if_pos k1,if_pos k1,List.getElem?_drop,Q9 cs us (q + off) (q + k) (by omega),Q9 _ us off k (by omega),List.getElem?_take,if_pos k1,List.getElem?_drop]
  by_cases k2:k < off
  ·rw [if_pos (by omega),if_pos k2]
  ·rw [if_neg (by omega),if_neg k2]
   by_cases k3:k < off + us.length
   ·rw [if_pos (by omega),if_pos k3]
    congr 1
    omega
   ·rw [if_neg (by omega),if_neg k3]
 ·rw [if_neg k1,if_neg k1]
theorem Aqq {α:Type} (cs us:List α) (p q m:Nat) (h:p + us.length≤cs.length) (ha:q + m≤p∨p + us.length≤q):((cs.take p++us++cs.drop (p + us.length)).drop q).take m=(cs.drop q).take m:=by
 apply List.ext_getElem?
 intro k
 rw [List.getElem?_take,List.getElem?_take]
 by_cases k1:k < m
 ·rw [if_pos k1,if_pos k1,List.getElem?_drop,List.getElem?_drop,Q9 cs us p (q + k) h]
  rcases ha with ha | ha
  ·rw [if_pos (by omega)]
  ·rw [if_neg (by omega),if_neg (by omega)]
 ·rw [if_neg k1,if_neg k1]
theorem A4s {t:Ty} {n k:Nat} (h:n=k):(Au6 t k).1 < (Au6 t k).2→n≤(Au6 t k).1:=by
 subst h
 unfold Au6
 cases mkT t with
 | true=>exact fun _=>Nat.le_refl _
 | false=>exact fun q=>absurd q (Nat.lt_irrefl 0)
theorem Ra (g o:Nat) (t:TypeId) (fz:Nat×Nat):∀ (vs:List Value) (i:Nat) (cur:Array Value) (w:World),w.heap[g]?=some (.cells cur t fz)→(fz.1 < fz.2→cur.size≤fz.1)→o + i + vs.length≤cur.size→(∀ v∈vs,v.oneCell'=true)→
  (storeCells ⟨g,o,none⟩ vs i).run P w=.ok () (w.setRow g (cur.toList.take (o + i)++vs++cur.toList.drop (o + i + vs.length)).toArray)
 | [],i,cur,w,hg,_,_,_=>by
  simp only [storeCells,List.append_nil,List.length_nil,Nat.add_zero,List.take_append_drop,Array.toArray_toList]
  rw [setRow_self w g cur t fz hg]
  rfl
 | v::rest,i,cur,w,hg,hfz,hl,h1=>by
  have hi:o + i < cur.size:=by simp at hl; omega
  have hadd:(⟨g,o,none⟩:Addr).add i=⟨g,o + i,none⟩:=by unfold Addr.add; split<;>simp_all
  have hcell:w.cell? ⟨g,o + i,none⟩=some cur[o + i]:=by simp [World.cell?,hg,hi]
  have hfro:w.frozen? ⟨g,o + i,none⟩=false:=by
   obtain ⟨lo,hi'⟩:=fz
   simp only [World.frozen?,hg,Bool.and_eq_false_iff,decide_eq_false_iff_not]
   simp only at hfz
   omega
  have hst:(store ((⟨g,o,none⟩:Addr).add i) v).run P w=.ok () (w.setRow g (cur.setIfInBounds (o + i) v)):=by
   rw [hadd,run_store P w _ v _ (h1 v (by simp)),hcell]
   simp [hfro,setCell_eq_setRow w g (o + i) cur t fz v hg]
  have ih:=Ra g o t fz rest (i + 1) (cur.setIfInBounds (o + i) v) (w.setRow g (cur.setIfInBounds (o + i) v)) (setRow_heap w g cur _ t _ hg) (by simpa using hfz) (by simp at hl ⊢; omega) (fun x hx=>h1 x (by simp [hx]))
  simp only [storeCells,Sem.run_bind,hst,Result.andThen_ok,ih,setRow_setRow]
  congr 3
  have e:=list_seg_step cur.toList (o + i) v rest (by simp at hl ⊢; omega)
  simpa [Array.toList_setIfInBounds,Nat.add_assoc] using e
theorem Wm {T:TypeId} {i:TypeInfo} (hi:P.info? T=some i) {b off:Nat} {t:TypeId} {cur:Array Value} {fz:Nat×Nat} (hg:w.heap[b]?=some (.cells cur t fz)) (hfz:fz.1 < fz.2→cur.size≤fz.1) {v:Value} (hsz:v.cells.toList.length=i.size) (hle:off + v.cells.toList.length≤cur.size) (h1:∀ u∈v.cells.toList,u.oneCell'=true):
  (Instr.storeAt T (.pointer (some ⟨b,off,none⟩)) v).run P w=.ok () (w.setRow b (cur.toList.take off++v.cells.toList++cur.toList.drop (off + v.cells.toList.length)).toArray):=by
 have hst:=Ra (P:=P) b off t fz v.cells.toList 0 cur w hg hfz (by omega) h1
 simp only [Nat.add_zero] at hst
 have hsz':v.cells.size=i.size:=by simpa using hsz
 simp [Instr.storeAt,Instr.sureAddr,storeVar,sizeOf,typeInfo,hi,hsz',hst]
theorem Avf (h:B8 n B Iq s g a w) {T:TypeId} {x y:Operand} {s':St} (e:Ajb P s T x y=some s'):
  ∃ w' g',(Instr.storeAt T (a.eval x) (a.eval y)).run P w=.ok () w'∧Go B Iq s g w s' g' w'∧B8 n B Iq s' g' a w':=by
 unfold Ajb at e
 obtain ⟨l,e1,e⟩:=Option.bind_eq_some_iff.1 e
 obtain ⟨v,e2,e⟩:=Option.bind_eq_some_iff.1 e
 obtain ⟨hl,_⟩:=Dc h e1
 have hv:=Wj h e2
 have hV:=hv.cells
 have hVl:=hV.length
 split at e
 ·cases e
 ·rename_i i hi
  split at e
  ·rename_i hsz
   split at e
   ·rename_i id off _
    split at e
    ·rename_i T0 ls hr
     split at e
     ·rename_i hle
      cases e
      have r:=h.res id
      rw [hr] at r
      obtain ⟨b,cs,hb,hh,hL⟩:=r
      simp only [Dq,hr] at hl
      obtain ⟨b',hb',hu⟩:=hl
      obtain rfl:b=b':=Option.some.inj (hb.symm.trans hb')
      have hLl:=hL.length
      rw [Array.length_toList] at hLl
      have hrun:=Wm (P:=P) (T:=T) hi hh (fun q=>absurd q (Nat.lt_irrefl 0)) (v:=a.eval y) (off:=off) (by rw [hVl,hsz]) (by omega) hV.one
      rw [← hu] at hrun
      have hne:∀ k,k≠b→(w.setRow b (cs.toList.take off++(a.eval y).cells.toList++cs.toList.drop (off + (a.eval y).cells.toList.length)).toArray).heap[k]?=w.heap[k]?:=fun k hk=>setRow_other w b k _ hk
      have hlive:(s.res id).live=true:=by rw [hr]; rfl
      have hS:∀ c,Eu s g c→c < w.heap.size→Eu (s.setRes id (.box T0 (ls.take off++v.ls++ls.drop (off + v.ls.length)))) g c∧(w.setRow b (cs.toList.take off++(a.eval y).cells.toList++cs.toList.drop (off + (a.eval y).cells.toList.length)).toArray).heap[c]?=w.heap[c]?:=by
       intro c hc _
       refine ⟨⟨hc.1,fun j hj=>?_⟩,hne c (fun q=>hc.2 id hlive (by rw [q]; exact hb))⟩
       by_cases q:j=id
       ·rw [q]; exact hc.2 id hlive
       ·rw [Aq s _ q] at hj; exact hc.2 j hj
      have hI:∀ j,A4 s g (s.setRes id (.box T0 (ls.take off++v.ls++ls.drop (off + v.ls.length)))) g j:=by
       intro j
       by_cases q:j=id
       ·subst q
        unfold A4
        rw [hr,Ao]
        exact .inr ⟨_,_,rfl,rfl⟩
       ·exact A4.same (Aq s _ q) rfl rfl
      refine ⟨_,g,hrun,⟨⟨rfl,rfl,rfl,by simp,fun k hk hn=>hne k (fun q=>?_)⟩,hS,hI,rfl⟩,h.step h.size h.defers (by simp) hS hI (fun i=>.inl ⟨rfl,rfl⟩) (fun j=>?_) h.inj (fun j c hj=>?_) rfl⟩
      ·subst q
       rcases (h.lt id k hb).2.1 with q2 | q2
       ·exact hn q2
       ·omega
      ·by_cases q:j=id
       ·subst q
        right
        rw [Ao]
        refine ⟨b,_,hb,setRow_heap w b cs _ T0 _ hh,?_⟩
        simp only
        exact (hL.splice (off:=off) hV).step hS hI
       ·left
        exact ⟨Aq s _ q,rfl,rfl,fun c hc=>hne c (fun q2=>q (h.inj j id c hc (by rw [q2]; exact hb)))⟩
      ·have:=h.lt j c hj
       simpa using this
     ·cases e
    ·cases e
   ·rename_i id ix off _
    split at e
    ·rename_i e0 t xs hr
     split at e
     ·rename_i hix
      simp only at e
      split at e
      ·rename_i hle
       split at e
       ·rename_i x' hp
        cases e
        obtain ⟨g1,hR,go1,tr⟩:=E9 (ls:=v.ls) h
        have r:=hR.res id
        rw [hr] at r
        obtain ⟨cs,⟨hcl,hown⟩,hrep,hblk⟩:=r
        have hl1:=tr _ _ hl
        simp only [Dq,hr] at hl1
        obtain ⟨_,b,hb,hu⟩:=hl1
        have hV1:=G7.imp tr hV
        have hx:nth xs ix=some (xs.getD ix t.zero):=by simp [nth,List.getElem?_eq_getElem hix]
        have hK:=hrep.2 ix _ hx
        have hLk:=Ty.K_leafs hK
        have hLkl:=hLk.length
        have hseg:((cs.drop (ix * t.sz)).take t.sz).length=t.sz:=Ty.K_len hK
        have hfit:ix * t.sz + t.sz≤xs.length * t.sz:=by rw [← Nat.succ_mul]; exact Nat.mul_le_mul_right _ hix
        obtain ⟨_,hK'⟩:=St.parse_K hR.res hp (hLk.splice (off:=off) hV1)
        rcases hown with ⟨hv0,hn0⟩ | ⟨b',cap,cur,hv0,_,hh,hcap,hcm,hcsz,hct⟩
        ·omega
        ·have hbb:b=b':=by
          rw [hblk,hv0] at hb
          exact (Option.some.inj hb).symm
         subst hbb
         have hcap2:xs.length * t.sz≤cap * t.sz:=Nat.mul_le_mul_right _ hcap
         have hoff:off + v.ls.length≤t.sz:=by omega
         have hrun:=Wm (P:=P) (T:=T) hi hh (A4s hcsz) (v:=a.eval y) (off:=ix * t.sz + off) (by rw [hVl,hsz]) (by omega) hV.one
         rw [← hu] at hrun
         have hsp:(cur.toList.take (ix * t.sz + off)++(a.eval y).cells.toList++cur.toList.drop (ix * t.sz + off + (a.eval y).cells.toList.length)).take (xs.length * t.sz)=cs.take (ix * t.sz + off)++(a.eval y).cells.toList++cs.drop (ix * t.sz + off + (a.eval y).cells.toList.length):=by
          rw [← hct]
          exact Asp cur.toList _ (ix * t.sz + off) (xs.length * t.sz) (by omega) (by rw [show cur.toList.length=cur.size from Array.length_toList ..]; omega)
         have hne:∀ k,k≠b→(w.setRow b (cur.toList.take (ix * t.sz + off)++(a.eval y).cells.toList++cur.toList.drop (ix * t.sz + off + (a.eval y).cells.toList.length)).toArray).heap[k]?=w.heap[k]?:=fun k hk=>setRow_other w b k _ hk
         have hlive:((s.frz v.ls).res id).live=true:=by rw [hr]; rfl
         have hS:∀ c,Eu (s.frz v.ls) g1 c→c < w.heap.size→Eu ((s.frz v.ls).setRes id (.row e0 t (List.set xs ix x'))) g1 c∧(w.setRow b (cur.toList.take (ix * t.sz + off)++(a.eval y).cells.toList++cur.toList.drop (ix * t.sz + off + (a.eval y).cells.toList.length)).toArray).heap[c]?=w.heap[c]?:=by
          intro c hc _
          refine ⟨⟨hc.1,fun j hj=>?_⟩,hne c (fun q=>hc.2 id hlive (by rw [q]; exact hb))⟩
          by_cases q:j=id
          ·rw [q]; exact hc.2 id hlive
          ·rw [Aq _ _ q] at hj; exact hc.2 j hj
         have hI:∀ j,A4 (s.frz v.ls) g1 ((s.frz v.ls).setRes id (.row e0 t (List.set xs ix x'))) g1 j:=by
          intro j
          by_cases q:j=id
          ·subst q
           unfold A4
           rw [hr,Ao]
           exact .inr (.inl ⟨e0,_,rfl,by simp,rfl,rfl⟩)
          ·exact A4.same (Aq _ _ q) rfl rfl
         refine ⟨_,g1,hrun,go1.trans ⟨⟨rfl,rfl,rfl,by simp,fun k hk hn=>hne k (fun q=>?_)⟩,hS,hI,rfl⟩,hR.step hR.size hR.defers (by simp) hS hI (fun i=>.inl ⟨rfl,rfl⟩) (fun j=>?_) hR.inj (fun j c hj=>?_) rfl⟩
         ·subst q
          rcases (hR.lt id k hb).2.1 with q2 | q2
          ·exact hn q2
          ·omega
         ·by_cases q:j=id
          ·subst q
           right
           rw [Ao]
           have hset:(List.set xs ix x').length=xs.length:=List.length_set ..
           refine ⟨cs.take (ix * t.sz + off)++(a.eval y).cells.toList++cs.drop (ix * t.sz + off + (a.eval y).cells.toList.length),⟨?_,.inr ⟨b,cap,_,?_,Nat.zero_le _,setRow_heap w b cur _ e0 _ hh,by rw [hset]; exact hcap,hcm,?_,?_⟩⟩,⟨?_,?_⟩,hblk⟩
           ·rw [hset,Ul _ _ _ (by omega)]; exact hcl
           ·rw [hset]; exact hv0
           ·rw [List.size_toArray,Ul _ _ _ (by rw [show cur.toList.length=cur.size from Array.length_toList ..]; omega)]
            exact (show cur.toList.length=cur.size from Array.length_toList ..).trans hcsz
           ·rw [hset]; exact hsp
           ·rw [hset,Ul _ _ _ (by omega)]; exact hcl
           ·intro i2 x2 hx2
            refine Ty.K_keep hS ?_
            by_cases q:ix=i2
            ·subst q
             rw [List.getElem?_set_self hix] at hx2
             cases hx2
             have:=Ave cs (a.eval y).cells.toList (ix * t.sz) off t.sz (by omega) (by omega)
             rw [this]
             exact hK'
            ·rw [List.getElem?_set_ne q] at hx2
             have hk2:=hrep.2 i2 x2 hx2
             have hi2:i2 < xs.length:=(List.getElem?_eq_some_iff.1 hx2).1
             have hfit2:i2 * t.sz + t.sz≤xs.length * t.sz:=by rw [← Nat.succ_mul]; exact Nat.mul_le_mul_right _ hi2
             have hapart:i2 * t.sz + t.sz≤ix * t.sz∨ix * t.sz + t.sz≤i2 * t.sz:=by
              rcases Nat.lt_or_gt_of_ne q with q | q
              ·right; rw [← Nat.succ_mul]; exact Nat.mul_le_mul_right _ q
              ·left; rw [← Nat.succ_mul]; exact Nat.mul_le_mul_right _ q
             have:=Aqq cs (a.eval y).cells.toList (ix * t.sz + off) (i2 * t.sz) t.sz (by omega) (by omega)
             rw [this]
             exact hk2
          ·left
           exact ⟨Aq _ _ q,rfl,rfl,fun c hc=>hne c (fun q2=>q (hR.inj j id c hc (by rw [q2]; exact hb)))⟩
         ·have:=hR.lt j c hj
          simpa using this
       ·cases e
      ·cases e
     ·cases e
    ·cases e
   ·cases e
  ·cases e
end
end Go.Proofs.YtfkefgbihlfjmaaGreat.R

