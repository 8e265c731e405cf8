/- The evaluator's append, literal, make, store, part, and bytes as a text are the machine's. No condition. -/
import Derived.Test.YtfkefgbihlfjmaaGreatRMake3
namespace Go.Proofs.YtfkefgbihlfjmaaGreat.R
open Go Go.RowKit
set_option linter.unusedVariables false
set_option linter.unusedSimpArgs false
section
variable {P:Program} {n B:Nat} {Iq:List Nat} {s:St} {g:Gh} {a:Act} {w:World}
theorem H8.append {S:Nat→Prop} {t:Ty} {xs ys:List t.D} {cs ds:List Value} (h1:H8 w S t xs cs) (h2:H8 w S t ys ds):H8 w S t (xs++ys) (cs++ds):=by
 refine ⟨by rw [List.length_append,List.length_append,h1.1,h2.1,Nat.add_mul],fun i x hx=>?_⟩
 by_cases hi:i < xs.length
 ·rw [List.getElem?_append_left hi] at hx
  have:=h1.2 i x hx
  have hle:(i + 1) * t.sz≤cs.length:=by rw [h1.1]; exact Nat.mul_le_mul_right _ hi
  have hle2:i * t.sz + t.sz≤cs.length:=by rw [← Nat.succ_mul]; exact hle
  rw [List.drop_append_of_le_length (by omega),List.take_append_of_le_length (by simp; omega)]
  exact this
 ·rw [List.getElem?_append_right (by omega)] at hx
  have:=h2.2 (i - xs.length) x hx
  have e:i * t.sz=cs.length + (i - xs.length) * t.sz:=by rw [h1.1,← Nat.add_mul]; congr 1; omega
  rw [e,← List.drop_drop,List.drop_left]
  exact this
theorem H8.one {S:Nat→Prop} {t:Ty} {xs:List t.D} {cs:List Value} (h:H8 w S t xs cs):∀ u∈cs,u.oneCell'=true:=by
 intro u hu
 obtain ⟨j,hj⟩:=List.getElem?_of_mem hu
 have hjl:=(List.getElem?_eq_some_iff.1 hj).1
 rw [h.1] at hjl
 have hsz:0 < t.sz:=by
  rcases Nat.eq_zero_or_pos t.sz with q | q
  ·rw [q] at hjl; omega
  ·exact q
 have hi:j / t.sz < xs.length:=(Nat.div_lt_iff_lt_mul hsz).2 hjl
 have hK:=h.2 (j / t.sz) _ (List.getElem?_eq_getElem hi)
 refine Ty.K_one hK u ?_
 refine List.mem_of_getElem? (i:=j % t.sz) ?_
 rw [List.getElem?_take,if_pos (Nat.mod_lt _ hsz),List.getElem?_drop]
 have e:j / t.sz * t.sz + j % t.sz=j:=by rw [Nat.mul_comm]; exact Nat.div_add_mod j t.sz
 rw [e]
 exact hj
theorem Awy (h:B8 n B Iq s g a w) {el:El} {l:Lf} {u:Value} {o:Option Nat} {xs:List el.t.D} (e:U1 s el l=some (o,xs)) (hl:Dq s g w l u):
  ∃ cs,M7 w el.t 0 el.e el.t.sz u xs.length cs∧H8 w (Eu s g) el.t xs cs∧(∀ id,o=some id→(∃ e t xs,s.res id=.row e t xs)∧u=g.hdr id∧g.blk id=u.ownBlock)∧(o=none→u.ownBlock=none):=by
 unfold U1 at e
 split at e
 ·cases e
  cases hl
  exact ⟨[],Aym w el.t 0 el.e el.t.sz,⟨by simp,fun i x hx=>by simp at hx⟩,(fun id q=>by cases q),fun _=>rfl⟩
 ·rename_i id
  split at e
  ·rename_i e' t xs' hr
   split at e
   ·rename_i he
    split at e
    ·rename_i ht
     subst ht
     cases e
     have r:=h.res id
     rw [hr] at r
     obtain ⟨cs,h1,h2,h3⟩:=r
     simp only [Dq,hr] at hl
     refine ⟨cs,by rw [hl,← he]; exact h1,h2,(fun j q=>?_),(fun q=>by cases q)⟩
     cases q
     exact ⟨⟨_,_,_,hr⟩,hl,by rw [hl]; exact h3⟩
    ·cases e
   ·cases e
  ·cases e
 ·cases e
theorem A32 {S:Nat→Prop} {T e':TypeId} (hT:P.underlying T=some (.slice e')) {t:Ty} {ys:List t.D} {u:Value} (hK:(Ty.sl t).K w S ys [u]):
  ∃ news,Src P t.sz T u ys.length news w∧H8 w S t ys news:=by
 obtain ⟨A,c,hu,hle,hx⟩:=hK
 cases hu
 have hcs:∀ i,i < ys.length→∃ cs',cs'.length=t.sz∧(∀ x,ys[i]?=some x→t.K w S x cs')∧∃ ad,A=some ad∧∀ j u,cs'[j]?=some u→w.cell? (ad.add (i * t.sz + j))=some u:=fun i hi=>by
  obtain ⟨ad,h1,_,_,cs',h2,h3,h4⟩:=hx i _ (List.getElem?_eq_getElem hi)
  refine ⟨cs',h2,fun x hx=>?_,ad,h1,h4⟩
  rw [List.getElem?_eq_getElem hi] at hx
  cases hx
  exact h3
 by_cases h0:ys.length=0
 ·have hy:ys=[]:=List.eq_nil_of_length_eq_zero h0
  subst hy
  refine ⟨[],?_,⟨by simp,fun i x hx=>by simp at hx⟩⟩
  cases A with
  | none=>exact Src.ofNil w hT c
  | some ad=>exact Src.ofSlice w hT ad 0 c [] (by simp) (fun j u hu=>by simp at hu) (fun u hu=>by cases hu)
 ·obtain ⟨_,_,_,ad,hA,_⟩:=hcs 0 (by omega)
  subst hA
  have build:∀ k,k≤ys.length→∃ news:List Value,news.length=k * t.sz∧(∀ i x,i < k→ys[i]?=some x→t.K w S x ((news.drop (i * t.sz)).take t.sz))∧∀ j u,news[j]?=some u→w.cell? (ad.add j)=some u:=by
   intro k
   induction k with
   | zero=>intro _; exact ⟨[],by simp,fun i x hi=>by omega,fun j u hu=>by simp at hu⟩
   | succ k ih=>
    intro hk
    obtain ⟨news,h1,h2,h3⟩:=ih (by omega)
    obtain ⟨cs',k1,k2,ad',k3,k4⟩:=hcs k (by omega)
    cases k3
    refine ⟨news++cs',by rw [List.length_append,h1,k1,Nat.succ_mul],fun i x hi hx=>?_,fun j u hu=>?_⟩
    ·by_cases hik:i < k
     ·have hle:(i + 1) * t.sz≤news.length:=by rw [h1]; exact Nat.mul_le_mul_right _ hik
      have hle2:i * t.sz + t.sz≤news.length:=by rw [← Nat.succ_mul]; exact hle
      rw [List.drop_append_of_le_length (by omega),List.take_append_of_le_length (by simp; omega)]
      exact h2 i x hik hx
     ·have:i=k:=by omega
      subst this
      rw [← h1,List.drop_left,← k1,List.take_length]
      exact k2 x hx
    ·by_cases hj:j < news.length
     ·rw [List.getElem?_append_left hj] at hu
      exact h3 j u hu
     ·rw [List.getElem?_append_right (by omega)] at hu
      have:=k4 _ u hu
      rw [h1] at this hj
      have e:k * t.sz + (j - k * t.sz)=j:=by omega
      rw [e] at this
      exact this
  obtain ⟨news,h1,h2,h3⟩:=build ys.length (Nat.le_refl _)
  have hrep:H8 w S t ys news:=⟨h1,fun i x hx=>h2 i x (List.getElem?_eq_some_iff.1 hx).1 hx⟩
  exact ⟨news,Src.ofSlice w hT ad ys.length c news h1 h3 hrep.one,hrep⟩
theorem Ayq (h:B8 n B Iq s g a w) {T e':TypeId} (hT:P.underlying T=some (.slice e')) {t:Ty} {l:Lf} {u:Value} {ys:List t.D} (e:Td s t l=some ys) (hl:Dq s g w l u):
  ∃ news,Src P t.sz T u (List.length ys) news w∧H8 w (Eu s g) t ys news:=by
 unfold Td at e
 split at e
 ·cases e
  cases hl
  exact ⟨[],Src.ofNil w hT 0,by simp,fun i x hx=>by simp at hx⟩
 ·split at e<;>cases e
  rename_i t' xs ht
  subst ht
  exact A32 hT hl
 ·rename_i id
  split at e
  ·rename_i e' t' xs hr
   split at e<;>cases e
   rename_i ht
   subst ht
   have r:=h.res id
   rw [hr] at r
   obtain ⟨cs,h1,h2,h3⟩:=r
   simp only [Dq,hr] at hl
   rw [hl]
   refine ⟨cs,?_,h2⟩
   rcases h1.2 with ⟨hv,hn⟩ | ⟨b,cap,cur,hv,_⟩
   ·have hx:xs=[]:=List.eq_nil_of_length_eq_zero hn
    subst hx
    have hc:cs=[]:=List.eq_nil_of_length_eq_zero (by simpa using h2.1)
    subst hc
    rw [hv]
    exact Src.ofNil w hT 0
   ·have hc:=h1.cells (g:=b) (by rw [hv]; rfl)
    rw [hv]
    exact Src.ofSlice w hT _ _ cap cs h2.1 hc h2.one
  ·rename_i t' xs hr
   split at e<;>cases e
   rename_i ht
   subst ht
   have r:=h.res id
   rw [hr] at r
   simp only [Dq,hr] at hl
   rw [hl]
   exact A32 hT r.1
  ·cases e
 ·cases e
theorem Aca {T:TypeId} {el:El} (e:Ab8 P T=some el):P.underlying T=some (.slice el.e)∧0 < el.t.sz∧el.z.length=el.t.sz∧0 < el.bytes∧
  (∃ i z,P.info? el.e=some i∧i.zero=some z∧i.size=el.t.sz∧i.bytes=el.bytes∧z.cells.size=el.t.sz)∧Wh P el.e=some el.z:=by
 unfold Ab8 at e
 split at e
 ·rename_i e0 hU
  split at e
  ·rename_i t i z h1 h2 h3
   split at e
   ·rename_i q1
    split at e
    ·rename_i q2
     split at e
     ·rename_i q3
      split at e<;>cases e
      rename_i q4
      obtain ⟨zv,_,hL,i',hi',hz'⟩:=M8 h3 ⟨fun _=>.dead,fun _=>.unborn⟩ ⟨fun _=>none,fun _=>undef,fun _=>False⟩ (default:World)
      obtain rfl:i=i':=Option.some.inj (h2.symm.trans hi')
      have:=hL.length
      rw [Array.length_toList] at this
      exact ⟨hU,q2,q3,q4.1,⟨i,zv,h2,hz',q1,rfl,by rw [this,q3]⟩,h3⟩
     ·cases e
    ·cases e
   ·cases e
  ·cases e
 ·cases e
theorem Ajd {T:TypeId} {el:El} (e:Ab8 P T=some el):mkT el.t=false:=by
 unfold Ab8 at e
 split at e
 ·split at e
  ·split at e
   ·split at e
    ·split at e
     ·split at e<;>cases e
      rename_i q4
      exact q4.2
     ·cases e
    ·cases e
   ·cases e
  ·cases e
 ·cases e
theorem Acb {t:Ty} {e:TypeId} {sz k:Nat} {v:Value} {cs:List Value} (h:M7 w t 0 e sz v k cs):∀ b,v.ownBlock=some b→b < w.heap.size:=by
 intro b hb
 rcases h.2 with ⟨rfl,_⟩ | ⟨b',cap,cur,rfl,_,hh,_⟩
 ·cases hb
 ·cases hb
  exact (Array.getElem?_eq_some_iff.1 hh).1
theorem g8 {t:Ty} {e:TypeId} {sz k:Nat} {v:Value} {cs:List Value} (h:M7 w t 0 e sz v k cs):v.oneCell'=true:=by
 rcases h.2 with ⟨rfl,_⟩ | ⟨b',cap,cur,rfl,_⟩<;>rfl
theorem Aso (h:B8 n B Iq s g a w) {nid:Nat} {T ty:TypeId} {x y:Operand} {l:Lf} {s':St} (e:Ab9 P s nid T x y=some (l,s')):
  ∃ u w' g',(Builtin.append_ #[T,T] ty #[a.eval x,a.eval y]).run P w=.ok u w'∧Go B Iq s g w s' g' w'∧B8 n B Iq s' g' a w'∧Dq s' g' w' l u∧u.oneCell'=true:=by
 unfold Ab9 at e
 split at e
 ·rename_i el lx ly hf hel hx hy
  obtain ⟨⟨o,xs⟩,e1,e⟩:=Option.bind_eq_some_iff.1 e
  obtain ⟨ys,e2,e⟩:=Option.bind_eq_some_iff.1 e
  rcases Decidable.em ((xs.length + List.length ys) * el.bytes≤140737488355328) with hb | hb
  rotate_left
  ·simp only [if_neg hb] at e
   cases e
  simp only [if_pos hb] at e
  cases e
  obtain ⟨hU,hsz,_,hby,⟨i,z,hi,hz,hi1,hi2,hzs⟩,_⟩:=Aca hel
  obtain ⟨hlx,_⟩:=Dc h hx
  obtain ⟨hly,_⟩:=Dc h hy
  obtain ⟨cs,k1,k2,k3,k4⟩:=Awy h e1 hlx
  obtain ⟨news,k5,k6⟩:=Ayq h hU e2 hly
  rw [← hi1] at k1 k5
  have hlen:xs.length + List.length ys≤140737488355328:=Nat.le_trans (Nat.le_mul_of_pos_right _ hby) hb
  obtain ⟨v',w',q1,q2,q3,q4⟩:=Aqp w T T ty el.e i z hU hi hz (by rw [hzs,hi1]) ((On (Ajd hel)).1 k1) k5 (by simp only [maxLen]; omega) (by rw [hi2]; exact hb)
  rw [hi1,← List.length_append] at q2
  have q2:=(On (Ajd hel)).2 q2
  obtain ⟨m1,m2,m3,m4⟩:=h.grow hf (v:=a.eval x) (v':=v') k3 k4 q3 q4 (Acb q2) (e:=el.e) (t:=el.t) (zs:=xs++ys) q2 (fun hS=>(k2.keep hS).append (k6.keep hS))
  refine ⟨v',w',_,q1,⟨m4,m1,m2,rfl⟩,m3,?_,g8 q2⟩
  simp only [Dq,Ao]
  simp [Gh.mv]
 ·cases e
theorem H8.bytes {S:Nat→Prop} (q:ByteArray):H8 w S (.int .u8) (Ab q) (byteCells q):=by
 have hl:(byteCells q).length=(Ab q).length:=by simp [byteCells,Ab]
 refine ⟨by rw [hl]; exact (Nat.mul_one _).symm,fun i x hx=>?_⟩
 show ((byteCells q).drop (i * 1)).take 1=[.int .u8 x]
 rw [Nat.mul_one]
 have hx':(Ab q)[i]?=some x:=hx
 have hi:(byteCells q)[i]?=some (.int .u8 x):=by
  unfold byteCells
  unfold Ab at hx'
  rw [List.getElem?_map] at hx' ⊢
  cases hq:q.data.toList[i]? with
  | none=>rw [hq] at hx'; cases hx'
  | some b=>
   rw [hq] at hx'
   cases hx'
   rfl
 have hlt:=(List.getElem?_eq_some_iff.1 hi)
 rw [List.drop_eq_getElem_cons hlt.1,hlt.2]
 rfl
theorem Aj6 (h:B8 n B Iq s g a w) {nid:Nat} {T U ty:TypeId} {x y:Operand} {l:Lf} {s':St} (e:Te P s nid T U x y=some (l,s')):
  ∃ u w' g',(Builtin.append_ #[T,U] ty #[a.eval x,a.eval y]).run P w=.ok u w'∧Go B Iq s g w s' g' w'∧B8 n B Iq s' g' a w'∧Dq s' g' w' l u∧u.oneCell'=true:=by
 unfold Te at e
 split at e
 ·rename_i el lx q hf hT hU hx hy
  split at e
  ·rename_i i z hi hz
   split at e
   ·rename_i i1
    split at e
    ·rename_i i2
     split at e
     ·obtain ⟨⟨o,xs⟩,e1,e⟩:=Option.bind_eq_some_iff.1 e
      rcases Decidable.em (xs.length + q.size≤140737488355328) with hb | hb
      rotate_left
      ·simp only [if_neg hb] at e
       cases e
      simp only [if_pos hb] at e
      cases e
      obtain ⟨hlx,_⟩:=Dc h hx
      obtain ⟨cs,k1,k2,k3,k4⟩:=Awy h e1 hlx
      obtain ⟨zv,_,hL,i',hi',hz'⟩:=M8 hz s g w
      obtain rfl:i=i':=Option.some.inj (hi.symm.trans hi')
      have hzs:=hL.length
      rw [Array.length_toList] at hzs
      have hsrc:Src P 1 U (.string q) q.size (byteCells q) w:=Src.ofString w hU q
      have hs1:(Ty.int IntKind.u8).sz=i.size:=i1.symm
      simp only at k1 k2
      rw [hs1] at k1
      rw [← i1] at hsrc
      obtain ⟨v',w',q1,q2,q3,q4⟩:=Aqp w T U ty el i zv hT hi hz' (by rw [hzs,i1]; rfl) k1 hsrc (by simp only [maxLen]; omega) (by rw [i2,Nat.mul_one]; exact hb)
      have hlen:List.length xs + q.size=((show List Int from xs)++Ab q).length:=by
       rw [List.length_append]
       congr 1
       simp [Ab]
      have hlen2:xs.length + q.size=List.length (α:=(Ty.int IntKind.u8).D) ((show List Int from xs)++Ab q):=hlen
      rw [hlen2,← hs1] at q2
      have q2:=(On (t:=.int .u8) rfl).2 q2
      obtain ⟨m1,m2,m3,m4⟩:=h.grow hf (v:=a.eval x) (v':=v') k3 k4 q3 q4 (Acb q2) (e:=el) (t:=.int .u8) (zs:=((show List Int from xs)++Ab q)) q2 (fun hS=>(k2.keep hS).append (H8.bytes q))
      refine ⟨v',w',_,?_,⟨m4,m1,m2,rfl⟩,m3,?_,g8 q2⟩
      ·rw [(Db h hy).1]; exact q1
      ·simp only [Dq,Ao]
       simp [Gh.mv]
     ·cases e
    ·cases e
   ·cases e
  ·cases e
 ·cases e
end
end Go.Proofs.YtfkefgbihlfjmaaGreat.R

