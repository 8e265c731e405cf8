/- The evaluator's operations on rows: append. No condition. -/
import Derived.Test.YtfkefgbihlfjmaaGreatRMake2
import Derived.Deep.AppendSrc
namespace Go.Proofs.YtfkefgbihlfjmaaGreat.R
open Go Go.RowKit
set_option linter.unusedVariables false
set_option linter.unusedSimpArgs false
section
variable {P:Program} {n B:Nat} {Iq:List Nat} {s:St} {g:Gh} {a:Act} {w:World}
theorem Aqp (w:World) (t tx ty e:TypeId) (i:TypeInfo) (z:Value) (ht:P.underlying t=some (.slice e)) (hi:P.info? e=some i) (hz:i.zero=some z) (hzs:z.cells.size=i.size)
  {v:Value} {k:Nat} {xs:List Value} (hown:w.ownsRow 0 e i.size v k xs) {x:Value} {m:Nat} {news:List Value} (hs:Src P i.size tx x m news w)
  (h63:k + m≤maxLen) (hbytes:(k + m) * i.bytes≤140737488355328):
  ∃ v' w',(Builtin.append_ #[t,tx] ty #[v,x]).run P w=.ok v' w'∧w'.ownsRow 0 e i.size v' (k + m) (xs++news)∧w.grownBy w' v.ownBlock∧(v'.ownBlock=v.ownBlock∨v'.ownBlock=some w.heap.size):=by
 have hlen:(xs++news).length=(k + m) * i.size:=by rw [List.length_append,hown.1,hs.newsLen,Nat.add_mul]
 have grown:∀ (base:Option Addr) (cap:Nat),cap < k + m→(Builtin.firstCells i.size k (.slice base k cap)).run P w.drew=.ok xs.toArray w.drew→∀ row:Option Nat,
   ∃ v' w',(Builtin.append_ #[t,tx] ty #[.slice base k cap,x]).run P w=.ok v' w'∧w'.ownsRow 0 e i.size v' (k + m) (xs++news)∧w.grownBy w' row∧v'.ownBlock=some w.heap.size:=by
  intro base cap hc hold row
  have hr:=run_append_grow_src (P:=P) w t tx ty e i z ht hi hz base k cap xs hold x m news hs hc (by simp only [maxLen] at h63; omega) (growslice_fits hc hbytes)
  have hge:=grownCap_ge w (k + m) cap e
  have hcm:=grownCap_le_maxLen w (k + m) cap e h63
  refine ⟨_,_,hr,⟨hlen,.inr ⟨w.heap.size,_,_,rfl,Nat.zero_le _,heap_alloc_new w.drew _,hge,hcm,?_,?_⟩⟩,⟨rfl,rfl,rfl,by simp,fun j hj _=>heap_alloc_old w.drew _ j hj⟩,rfl⟩
  ·simp only [Array.size_append,List.size_toArray,size_zeroCells,hzs,hlen,← Nat.add_mul]
   congr 1
   omega
  ·simp only [Array.toList_append]
   rw [← hlen]
   exact List.take_left
 rcases hown.2 with ⟨rfl,rfl⟩ | ⟨b,cap,cur,rfl,_,hg,hnc,hcm,hcs,htake⟩
 ·have hx:xs=[]:=List.eq_nil_of_length_eq_zero (by simpa using hown.1)
  subst hx
  by_cases hm:m=0
  ·subst hm
   have hn:news=[]:=List.eq_nil_of_length_eq_zero (by simpa using hs.newsLen)
   subst hn
   refine ⟨.slice none 0 0,w,?_,World.ownsRow_nil w 0 e i.size,⟨rfl,rfl,rfl,Nat.le_refl _,fun _ _ _=>rfl⟩,Or.inl rfl⟩
   rcases hs.kind with ⟨e',hk⟩ | hk<;>simp [Builtin.append_,run_underlying ht,run_underlying hk,sizeOf,typeInfo,hi,hs.len,hs.cells]
  ·obtain ⟨v',w',h1,h2,h3,h4⟩:=grown none 0 (by omega) (run_firstCells_none w.drew i.size 0 0 0) (Value.ownBlock (.slice none 0 0))
   exact ⟨v',w',h1,h2,h3,.inr h4⟩
 ·by_cases hroom:k + m≤cap
  ·have hfit:k * i.size + news.length≤cur.size:=by rw [hs.newsLen,hcs,← Nat.add_mul]; exact Nat.mul_le_mul_right _ hroom
   have hst:=run_storeCells_at (P:=P) b (k * i.size) e news 0 cur w hg (by omega) hs.one
   simp only [Nat.add_zero] at hst
   have hr:(Builtin.append_ #[t,tx] ty #[.slice (some ⟨b,0,none⟩) k cap,x]).run P w=.ok (.slice (some ⟨b,0,none⟩) (k + m) cap) (w.setRow b (cur.toList.take (k * i.size)++news++cur.toList.drop (k * i.size + news.length)).toArray):=by
    rcases hs.kind with ⟨e',hk⟩ | hk<;>simp [Builtin.append_,run_underlying ht,run_underlying hk,sizeOf,typeInfo,hi,hs.len,hroom,hs.cells,Ajy,hst]
   refine ⟨_,_,hr,⟨hlen,.inr ⟨b,cap,_,rfl,Nat.zero_le _,setRow_heap w b cur _ e _ hg,hroom,hcm,?_,?_⟩⟩,⟨rfl,rfl,rfl,by simp,fun j _ hj=>setRow_other w b j _ (fun q=>hj (by simp [Value.ownBlock,q]))⟩,Or.inl rfl⟩
   ·simp only [List.size_toArray,List.length_append,List.length_take,List.length_drop,Array.length_toList]
    omega
   ·rw [htake,← hlen]
    exact List.take_left
  ·have holds:∀ j u,xs[j]?=some u→w.cell? ((⟨b,0,none⟩:Addr).add j)=some u:=hown.cells (g:=b) rfl
   obtain ⟨v',w',h1,h2,h3,h4⟩:=grown (some ⟨b,0,none⟩) cap (by omega) (run_firstCells_some w.drew i.size k ⟨b,0,none⟩ k cap xs hown.1 (by simpa using holds)) (Value.ownBlock (.slice (some ⟨b,0,none⟩) k cap))
   exact ⟨v',w',h1,h2,h3,.inr h4⟩
def Gh.mv (g:Gh) (o:Option Nat) (nid:Nat) (v':Value):Gh:=⟨S9 (match o with | some id=>S9 g.blk id none | none=>g.blk) nid v'.ownBlock,S9 g.hdr nid v',g.av⟩
theorem B8.growR (h:B8 n B Iq s g a w) {o:Option Nat} {nid:Nat} (hf:s.res nid=.unborn) {v v':Value} {w':World}
  (ho:∀ id,o=some id→(s.res id).live=true∧v=g.hdr id∧g.blk id=v.ownBlock) (ho':o=none→v.ownBlock=none)
  (hg:w.grownBy w' v.ownBlock) (hat:v'.ownBlock=v.ownBlock∨v'.ownBlock=some w.heap.size) (hsz':∀ b,v'.ownBlock=some b→b < w'.heap.size)
  {r:Res} (hrr:(∀ b,Eu s g b→b < w.heap.size→Eu ((Fe s o).setRes nid r) (g.mv o nid v') b∧w'.heap[b]?=w.heap[b]?)→(∀ j,A4 s g ((Fe s o).setRes nid r) (g.mv o nid v') j)→K8 ((Fe s o).setRes nid r) (g.mv o nid v') w' nid r):
  (∀ b,Eu s g b→b < w.heap.size→Eu ((Fe s o).setRes nid r) (g.mv o nid v') b∧w'.heap[b]?=w.heap[b]?)∧
  (∀ j,A4 s g ((Fe s o).setRes nid r) (g.mv o nid v') j)∧
  B8 n B Iq ((Fe s o).setRes nid r) (g.mv o nid v') a w'∧Kp B Iq w w':=by
 have hne:∀ id,o=some id→id≠nid:=fun id q=>by
  rintro rfl
  have hr:=(ho id q).1
  rw [hf] at hr
  cases hr
 have hlive:∀ id,o=some id→(s.res id).live=true:=fun id q=>by
  exact (ho id q).1
 have hblk:∀ b,v.ownBlock=some b→∃ id,o=some id∧g.blk id=some b:=fun b hb=>by
  cases ho0:o with
  | none=>rw [ho' ho0] at hb; cases hb
  | some id=>exact ⟨id,rfl,by rw [(ho id ho0).2.2]; exact hb⟩
 have rr1:∀ j,j≠nid→(∀ id,o=some id→j≠id)→((Fe s o).setRes nid r).res j=s.res j:=fun j h1 h2=>by
  rw [Aq _ _ h1]
  cases ho0:o with
  | none=>rfl
  | some id=>exact Aq s _ (h2 id ho0)
 have rr2:∀ id,o=some id→((Fe s o).setRes nid r).res id=.dead:=fun id q=>by
  rw [Aq _ _ (hne id q),q]
  exact Ao s id _
 have b1:∀ j,j≠nid→(∀ id,o=some id→j≠id)→(g.mv o nid v').blk j=g.blk j:=fun j h1 h2=>by
  simp only [Gh.mv,A1 _ _ h1]
  cases ho0:o with
  | none=>rfl
  | some id=>exact A1 _ _ (h2 id ho0)
 have b2:∀ id,o=some id→(g.mv o nid v').blk id=none:=fun id q=>by
  simp only [Gh.mv,A1 _ _ (hne id q),q]
  simp
 have b3:(g.mv o nid v').blk nid=v'.ownBlock:=by simp [Gh.mv]
 have hS:∀ b,Eu s g b→b < w.heap.size→Eu ((Fe s o).setRes nid r) (g.mv o nid v') b∧w'.heap[b]?=w.heap[b]?:=by
  intro b hb hlt
  have hvb:v.ownBlock≠some b:=fun q=>by
   obtain ⟨id,h1,h2⟩:=hblk b q
   exact hb.2 id (hlive id h1) h2
  refine ⟨⟨hb.1,fun j hj hk=>?_⟩,hg.block b hlt (fun q=>hvb q.symm)⟩
  by_cases h1:j=nid
  ·rw [h1,b3] at hk
   rcases hat with q | q
   ·exact hvb (q.symm.trans hk)
   ·rw [q] at hk
    have:=Option.some.inj hk
    omega
  ·by_cases h2:∀ id,o=some id→j≠id
   ·rw [rr1 j h1 h2] at hj
    rw [b1 j h1 h2] at hk
    exact hb.2 j hj hk
   ·simp only [Classical.not_forall] at h2
    obtain ⟨id,q,h3⟩:=h2
    have h3:j=id:=Classical.not_not.1 h3
    rw [h3,b2 id q] at hk
    cases hk
 have hI:∀ j,A4 s g ((Fe s o).setRes nid r) (g.mv o nid v') j:=by
  intro j
  by_cases h1:j=nid
  ·subst h1
   unfold A4
   rw [hf]
   exact .inr trivial
  ·by_cases h2:∀ id,o=some id→j≠id
   ·exact A4.same (rr1 j h1 h2) (b1 j h1 h2) (by simp [Gh.mv,A1 _ _ h1])
   ·simp only [Classical.not_forall] at h2
    obtain ⟨id,q,h3⟩:=h2
    have h3:j=id:=Classical.not_not.1 h3
    subst h3
    exact .inl (rr2 j q)
 refine ⟨hS,hI,h.step h.size h.defers hg.size hS hI (fun i=>.inl ⟨?_,rfl⟩) (fun j=>?_) (fun i j b hi hj=>?_) (fun i b hi=>?_) rfl,⟨hg.os,hg.tape,hg.output,hg.size,fun k hk hn=>?_⟩⟩
 ·cases o<;>rfl
 ·by_cases h1:j=nid
  ·subst h1
   right
   rw [Ao]
   exact hrr hS hI
  ·by_cases h2:∀ id,o=some id→j≠id
   ·left
    refine ⟨rr1 j h1 h2,b1 j h1 h2,by simp [Gh.mv,A1 _ _ h1],fun b hb=>hg.block b (h.lt j b hb).1 (fun q=>?_)⟩
    obtain ⟨id,k1,k2⟩:=hblk b q.symm
    exact h2 id k1 (h.inj j id b hb k2)
   ·simp only [Classical.not_forall] at h2
    obtain ⟨id,q,h3⟩:=h2
    have h3:j=id:=Classical.not_not.1 h3
    subst h3
    right
    rw [rr2 j q]
    exact b2 j q
 ·have key:∀ i b,(g.mv o nid v').blk i=some b→(i=nid∧v'.ownBlock=some b)∨(i≠nid∧g.blk i=some b∧v'.ownBlock≠some b):=by
   intro i b hi
   by_cases h1:i=nid
   ·left
    rw [h1,b3] at hi
    exact ⟨h1,hi⟩
   ·right
    by_cases h2:∀ id,o=some id→i≠id
    ·rw [b1 i h1 h2] at hi
     refine ⟨h1,hi,fun q=>?_⟩
     rcases hat with q1 | q1
     ·rw [q1] at q
      obtain ⟨id,k1,k2⟩:=hblk b q
      exact h2 id k1 (h.inj i id b hi k2)
     ·rw [q1] at q
      have:=Option.some.inj q
      have:=(h.lt i b hi).1
      omega
    ·simp only [Classical.not_forall] at h2
     obtain ⟨id,q,h3⟩:=h2
     have h3:i=id:=Classical.not_not.1 h3
     rw [h3,b2 id q] at hi
     cases hi
  rcases key i b hi with ⟨h1,h2⟩ | ⟨h1,h2,h3⟩<;>rcases key j b hj with ⟨k1,k2⟩ | ⟨k1,k2,k3⟩
  ·rw [h1,k1]
  ·exact absurd h2 k3
  ·exact absurd k2 h3
  ·exact h.inj i j b h2 k2
 ·by_cases h1:i=nid
  ·rw [h1,b3] at hi
   refine ⟨hsz' b hi,?_⟩
   rcases hat with q | q
   ·rw [q] at hi
    obtain ⟨id,k1,k2⟩:=hblk b hi
    exact (h.lt id b k2).2
   ·rw [q] at hi
    have hsz:=Option.some.inj hi
    have:=h.base
    refine ⟨.inr (by omega),fun q5=>?_⟩
    have:=h.avB b q5
    omega
  ·by_cases h2:∀ id,o=some id→i≠id
   ·rw [b1 i h1 h2] at hi
    obtain ⟨q1,q2⟩:=h.lt i b hi
    exact ⟨Nat.lt_of_lt_of_le q1 hg.size,q2⟩
   ·simp only [Classical.not_forall] at h2
    obtain ⟨id,q,h3⟩:=h2
    have h3:i=id:=Classical.not_not.1 h3
    rw [h3,b2 id q] at hi
    cases hi
 ·refine hg.block k (Nat.lt_of_lt_of_le hk h.base) (fun q=>?_)
  obtain ⟨id,k1,k2⟩:=hblk k q.symm
  rcases (h.lt id k k2).2.1 with q2 | q2
  ·exact hn q2
  ·omega
theorem B8.grow (h:B8 n B Iq s g a w) {o:Option Nat} {nid:Nat} (hf:s.res nid=.unborn) {v v':Value} {w':World}
  (ho:∀ id,o=some id→(∃ e t xs,s.res id=.row e t xs)∧v=g.hdr id∧g.blk id=v.ownBlock) (ho':o=none→v.ownBlock=none)
  (hg:w.grownBy w' v.ownBlock) (hat:v'.ownBlock=v.ownBlock∨v'.ownBlock=some w.heap.size) (hsz':∀ b,v'.ownBlock=some b→b < w'.heap.size)
  {e:TypeId} {t:Ty} {zs:List t.D} {cs:List Value} (hown:M7 w' t 0 e t.sz v' zs.length cs)
  (hrep:(∀ b,Eu s g b→b < w.heap.size→Eu ((Fe s o).setRes nid (.row e t zs)) (g.mv o nid v') b∧w'.heap[b]?=w.heap[b]?)→H8 w' (Eu ((Fe s o).setRes nid (.row e t zs)) (g.mv o nid v')) t zs cs):
  (∀ b,Eu s g b→b < w.heap.size→Eu ((Fe s o).setRes nid (.row e t zs)) (g.mv o nid v') b∧w'.heap[b]?=w.heap[b]?)∧
  (∀ j,A4 s g ((Fe s o).setRes nid (.row e t zs)) (g.mv o nid v') j)∧
  B8 n B Iq ((Fe s o).setRes nid (.row e t zs)) (g.mv o nid v') a w'∧Kp B Iq w w':=by
 refine h.growR hf (fun id q=>?_) ho' hg hat hsz' fun hS _=>⟨cs,?_,hrep hS,?_⟩
 ·obtain ⟨⟨e,t,xs,hr⟩,k2,k3⟩:=ho id q
  exact ⟨by rw [hr]; rfl,k2,k3⟩
 ·simpa [Gh.mv] using hown
 ·simp [Gh.mv]
end
end Go.Proofs.YtfkefgbihlfjmaaGreat.R

