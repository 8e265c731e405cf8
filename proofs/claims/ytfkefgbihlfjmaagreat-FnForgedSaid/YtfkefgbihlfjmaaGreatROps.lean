/- The evaluator's single operations are the machine's: those that read, and those that make a variable. No condition. -/
import Derived.Test.YtfkefgbihlfjmaaGreatRStep
import Derived.Orders
import Derived.Laws.Cells
import Derived.Laws.CopyRow
import Derived.Laws.Entries
import Derived.Great.BuildSlice
namespace Go.Proofs.YtfkefgbihlfjmaaGreat.R
open Go Go.RowKit
set_option linter.unusedVariables false
set_option linter.unusedSimpArgs false
structure Kp (B:Nat) (Iq:List Nat) (w w':World):Prop where
 os:w'.os=w.os
 tape:w'.tape=w.tape
 output:w'.output=w.output
 size:w.heap.size≤w'.heap.size
 block:∀ k,k < B→k ∉ Iq→w'.heap[k]?=w.heap[k]?
theorem Kp.refl (B:Nat) (Iq:List Nat) (w:World):Kp B Iq w w:=⟨rfl,rfl,rfl,Nat.le_refl _,fun _ _ _=>rfl⟩
theorem Kp.trans {B:Nat} {Iq:List Nat} {a b c:World} (h:Kp B Iq a b) (k:Kp B Iq b c):Kp B Iq a c:=
 ⟨k.os.trans h.os,k.tape.trans h.tape,k.output.trans h.output,Nat.le_trans h.size k.size,fun i hi hn=>(k.block i hi hn).trans (h.block i hi hn)⟩
structure Go (B:Nat) (Iq:List Nat) (s:St) (g:Gh) (w:World) (s':St) (g':Gh) (w':World):Prop where
 kp:Kp B Iq w w'
 S:∀ b,Eu s g b→b < w.heap.size→Eu s' g' b∧w'.heap[b]?=w.heap[b]?
 ref:∀ id,A4 s g s' g' id
 av:g'.av=g.av
theorem Go.refl (B:Nat) (Iq:List Nat) (s:St) (g:Gh) (w:World):Go B Iq s g w s g w:=⟨Kp.refl B Iq w,fun _ h _=>⟨h,rfl⟩,fun _=>A4.same rfl rfl rfl,rfl⟩
theorem Go.trans {B:Nat} {Iq:List Nat} {s s1 s2:St} {g g1 g2:Gh} {w w1 w2:World} (h:Go B Iq s g w s1 g1 w1) (k:Go B Iq s1 g1 w1 s2 g2 w2):Go B Iq s g w s2 g2 w2:=
 ⟨h.kp.trans k.kp,fun b hb hl=>by
  obtain ⟨h1,h2⟩:=h.S b hb hl
  obtain ⟨k1,k2⟩:=k.S b h1 (Nat.lt_of_lt_of_le hl h.kp.size)
  exact ⟨k1,k2.trans h2⟩,fun id=>(h.ref id).trans (k.ref id),k.av.trans h.av⟩
section
variable {P:Program} {n B:Nat} {Iq:List Nat} {s:St} {g:Gh} {a:Act} {w:World}
theorem G7.ofConsts:∀ {cs:List Value},Ajz cs=true→G7 s g w (cs.map .c) cs
 | [],_=>trivial
 | v::r,h=>by
  simp only [Ajz,Bool.and_eq_true] at h
  exact ⟨⟨rfl,h.1⟩,G7.ofConsts h.2⟩
theorem Ayn (v:Value):Uk s g w (Aja v) v:=by
 unfold Aja
 split
 ·split
  ·rename_i cs hc
   exact ⟨cs,rfl,G7.ofConsts hc⟩
  ·trivial
 ·trivial
 ·rename_i h1 h2
  exact ⟨rfl,by cases v<;>first | rfl | exact absurd rfl (h1 _) | exact absurd rfl (h2 _)⟩
theorem Au9 (h:B8 n B Iq s g a w) (x:Operand):Uk s g w (s.op x) (a.eval x):=by
 cases x with
 | tmp t=>exact h.cell t
 | const v=>exact Ayn v
 | global _=>trivial
 | func _=>trivial
theorem Db (h:B8 n B Iq s g a w) {x:Operand} {v:Value} (e:s.conc x=some v):a.eval x=v∧v.oneCell'=true:=by
 have k:=Au9 h x
 unfold St.conc at e
 split at e
 ·rename_i hq
  rw [hq] at k
  cases e
  have k1:a.eval x=v:=k.1
  exact ⟨k1,by rw [← k1]; exact k.2⟩
 ·cases e
theorem Dc (h:B8 n B Iq s g a w) {x:Operand} {l:Lf} (e:s.leaf x=some l):Dq s g w l (a.eval x)∧(a.eval x).oneCell'=true:=by
 have k:=Au9 h x
 unfold St.leaf at e
 split at e
 ·rename_i hq
  rw [hq] at k
  cases e
  exact k
 ·cases e
theorem Wj (h:B8 n B Iq s g a w) {x:Operand} {v:Vl} (e:s.value x=some v):VlR s g w v (a.eval x):=by
 have k:=Au9 h x
 unfold St.value at e
 split at e
 ·rename_i hq
  rw [hq] at k
  cases e
  exact k
 ·cases e
theorem Aou (h:B8 n B Iq s g a w):∀ {l:List Operand},We s l=true→∀ x∈l,a.eval x=(s.conc x).getD undef
 | [],_,x,hx=>by cases hx
 | y::r,e,x,hx=>by
  simp only [We,Bool.and_eq_true] at e
  rcases List.mem_cons.1 hx with rfl | hx
  ·cases hc:s.conc x with
   | none=>rw [hc] at e; simp at e
   | some v=>rw [(Db h hc).1]; rfl
  ·exact Aou h e.2 x hx
theorem Ayo (h:B8 n B Iq s g a w) {o:Oper} {v:Value} (hs:∀ cs b,o.op≠.select cs b) (e:Mj P s o=some v):(execOp a.eval o).run P w=.ok (.value v) w∧v.oneCell'=true:=by
 unfold Mj at e
 split at e
 ·rename_i hc
  split at e
  ·rename_i u hq
   split at e<;>cases e
   rename_i h1
   rw [execOp_congr o hs (fun x hx=>Aou h hc x (Array.mem_toList_iff.2 hx))]
   exact ⟨Aeu hq w,h1⟩
  ·cases e
 ·cases e
theorem A4p (h:B8 n B Iq s g a w) {l:Lf} {u:Value} {ls:List Lf} (e:s.at_ l=some ls) (hl:Dq s g w l u):
  ∃ ad cs,u=.pointer (some ad)∧G7 s g w ls cs∧∀ j v,cs[j]?=some v→w.cell? (ad.add j)=some v:=by
 unfold St.at_ at e
 split at e
 ·rename_i id off
  split at e
  ·rename_i T ls0 hr
   cases e
   have r:=h.res id
   rw [hr] at r
   obtain ⟨b,cs,hb,hh,hL⟩:=r
   simp only [Dq,hr] at hl
   obtain ⟨b',hb',hu⟩:=hl
   obtain rfl:b=b':=Option.some.inj (hb.symm.trans hb')
   refine ⟨_,cs.toList.drop off,hu,hL.drop off,fun j v hv=>?_⟩
   rw [Ab4,cell_of_row w b _ cs T (0,0) hh]
   simpa using hv
  ·cases e
 ·rename_i t xs i off
  cases e
  obtain ⟨ad,cs,h1,h2,h3,h4,h5⟩:=hl
  refine ⟨_,cs.drop off,h1,(Ty.K_leafs h4).drop off,fun j v hv=>?_⟩
  rw [Ai9,Nat.add_assoc]
  exact h5 (off + j) v (by simpa using hv)
 ·rename_i id i off
  split at e
  ·rename_i ee t xs hr
   cases e
   have r:=h.res id
   rw [hr] at r
   obtain ⟨cs,h1,h2,h3⟩:=r
   simp only [Dq,hr] at hl
   obtain ⟨hi,b,hb,hu⟩:=hl
   obtain ⟨hlen,hown⟩:=h1
   have hx:nth xs i=some (xs.getD i t.zero):=by simp [nth,List.getElem?_eq_getElem hi]
   have hK:=h2.2 i _ hx
   rcases hown with ⟨hv,hn⟩ | ⟨gg,cap,cur,hv,_,hh,hcap,_,hsz,hcs⟩
   ·omega
   ·have hbg:b=gg:=by
     rw [h3,hv] at hb
     exact (Option.some.inj hb).symm
    subst hbg
    refine ⟨_,((cs.drop (i * t.sz)).take t.sz).drop off,hu,(Ty.K_leafs hK).drop off,fun j v hv=>?_⟩
    rw [Ab4,cell_of_row w b _ cur ee _ hh]
    rw [List.getElem?_drop,List.getElem?_take] at hv
    split at hv
    ·rw [List.getElem?_drop,← hcs,List.getElem?_take] at hv
     split at hv
     ·rw [← Array.getElem?_toList,← hv]
      congr 1
      omega
     ·cases hv
    ·cases hv
  ·cases e
 ·cases e
theorem U2 {t:TypeId} {b:Bool} (e:Ab5 P t=some b) (w:World):(isAgg t).run P w=.ok b w:=by
 unfold Ab5 at e
 cases hu:P.underlying t with
 | none=>rw [hu] at e; cases e
 | some d=>
  rw [hu] at e
  unfold isAgg
  rw [Sem.run_bind,run_underlying hu w]
  cases d<;>simp_all
theorem Wk {t:TypeId} {ls:List Lf} {v:Vl} {ad:Addr} {cs:List Value} (e:Wg P t ls=some v) (hL:G7 s g w ls cs) (hc:∀ j u,cs[j]?=some u→w.cell? (ad.add j)=some u):
  ∃ u,(loadVar t ad).run P w=.ok u w∧VlR s g w v u:=by
 unfold Wg at e
 split at e
 ·rename_i hA
  split at e
  ·rename_i i hi
   split at e<;>cases e
   rename_i hle
   have hlen:=hL.length
   have hn:(cs.take i.size).length=i.size:=by rw [List.length_take,hlen]; omega
   have hl:=run_loadCells_list (P:=P) (w:=w) ad (cs.take i.size) (fun j u hu=>hc j u (by rw [List.getElem?_take] at hu; split at hu<;>first | exact hu | cases hu))
   rw [hn] at hl
   refine ⟨.agg (cs.take i.size).toArray,?_,_,rfl,by simpa using hL.take i.size⟩
   simp [loadVar,Sem.run_bind,U2 hA w,sizeOf,typeInfo,hi,hl]
  ·cases e
 ·rename_i hA
  split at e
  ·rename_i l ls'
   cases e
   cases cs with
   | nil=>exact hL.elim
   | cons u cs=>
    have h0:=hc 0 u rfl
    have hz:ad.add 0=ad:=by simp [Addr.add]
    rw [hz] at h0
    refine ⟨u,?_,hL.1⟩
    simp [loadVar,Sem.run_bind,U2 hA w,load,Sem.run,h0]
  ·cases e
 ·cases e
theorem Ayp (h:B8 n B Iq s g a w) {t:TypeId} {x:Operand} {v:Vl} (e:Aj0 P s t x=some v):∃ u,(Instr.loadAt t (a.eval x)).run P w=.ok u w∧VlR s g w v u:=by
 unfold Aj0 at e
 obtain ⟨l,e1,e⟩:=Option.bind_eq_some_iff.1 e
 obtain ⟨ls,e2,e⟩:=Option.bind_eq_some_iff.1 e
 obtain ⟨hl,_⟩:=Dc h e1
 obtain ⟨ad,cs,hu,hL,hc⟩:=A4p h e2 hl
 obtain ⟨u,hr,hv⟩:=Wk e hL hc
 refine ⟨u,?_,hv⟩
 rw [hu]
 simpa [Instr.loadAt,Instr.sureAddr] using hr
theorem Aqm {S:TypeId} {f d:Nat} (e1:Aj1 P S f=some d) (ad:Addr) (w:World):(Instr.fieldAt S (.pointer (some ad)) f).run P w=.ok (.pointer (some (ad.add d))) w:=by
 unfold Aj1 at e1
 cases hU:P.underlying S with
 | none=>rw [hU] at e1; cases e1
 | some D=>
  rw [hU] at e1
  cases D with
  | struct fs=>
   simp only at e1
   cases hf:fs[f]? with
   | none=>rw [hf] at e1; cases e1
   | some fd=>
    rw [hf] at e1
    simp only at e1
    cases hi:P.info? fd.type with
    | none=>rw [hi] at e1; cases e1
    | some i=>
     rw [hi] at e1
     simp only at e1
     split at e1<;>cases e1
     rename_i hz
     simp [Instr.fieldAt,Sem.run_bind,run_underlying hU w,hf,Instr.sureAddr,fieldPlace,sizeOf,typeInfo,hi,hz]
  | _=>simp at e1
theorem Aj2 (h:B8 n B Iq s g a w) {S:TypeId} {x:Operand} {f:Nat} {l:Lf} (e:Yv P s S x f=some l):∃ u,(Instr.fieldAt S (a.eval x) f).run P w=.ok u w∧Dq s g w l u∧u.oneCell'=true:=by
 unfold Yv at e
 obtain ⟨d,e1,e⟩:=Option.bind_eq_some_iff.1 e
 obtain ⟨l0,e2,e⟩:=Option.bind_eq_some_iff.1 e
 obtain ⟨ls,e3,e⟩:=Option.bind_eq_some_iff.1 e
 obtain ⟨hl,_⟩:=Dc h e2
 obtain ⟨ad,cs,hu,_,_⟩:=A4p h e3 hl
 refine ⟨.pointer (some (ad.add d)),by rw [hu]; exact Aqm e1 ad w,?_,rfl⟩
 rw [hu] at hl
 split at e
 ·rename_i id off
  cases e
  simp only [St.at_] at e3
  split at e3
  ·rename_i T ls0 hr
   simp only [Dq,hr] at hl ⊢
   obtain ⟨b,hb,hu⟩:=hl
   cases hu
   exact ⟨b,hb,by rw [Ab4]⟩
  ·cases e3
 ·rename_i t xs i off
  cases e
  obtain ⟨ad0,cs0,h1,h2⟩:=hl
  cases h1
  exact ⟨ad0,cs0,by rw [Ai9,Nat.add_assoc],h2⟩
 ·rename_i id i off
  cases e
  simp only [St.at_] at e3
  split at e3
  ·rename_i ee t xs hr
   simp only [Dq,hr] at hl ⊢
   obtain ⟨hi,b,hb,hu⟩:=hl
   cases hu
   exact ⟨hi,b,hb,by rw [Ab4,Nat.add_assoc]⟩
  ·cases e3
 ·cases e
theorem Ava (h:B8 n B Iq s g a w) {S:TypeId} {x:Operand} {f:Nat} {v:Vl} (e:Aqj P s S x f=some v):∃ u,(Instr.field S (a.eval x) f).run P w=.ok u w∧VlR s g w v u:=by
 unfold Aqj at e
 split at e
 ·rename_i ls fs hx hU
  split at e
  ·rename_i fd hf
   obtain ⟨cs,hu,hL⟩:=Wj h hx
   have hL2:=hL.drop fd.offset
   rw [hu]
   unfold Wg at e
   split at e
   ·rename_i hA
    split at e
    ·rename_i i hi
     split at e<;>cases e
     rename_i hle
     have h3:=hL2.take i.size
     refine ⟨.agg (cs.extract fd.offset (fd.offset + i.size)),?_,_,rfl,?_⟩
     ·simp [Instr.field,Sem.run_bind,run_underlying hU w,hf,asAgg,part,U2 hA w,sizeOf,typeInfo,hi]
     ·rw [Array.toList_extract,List.extract_eq_take_drop]
      simpa using h3
    ·cases e
   ·rename_i hA
    split at e
    ·rename_i l ls' hls
     cases e
     rw [hls] at hL2
     cases hd:cs.toList.drop fd.offset with
     | nil=>rw [hd] at hL2; exact hL2.elim
     | cons u us=>
      rw [hd] at hL2
      have hget:cs[fd.offset]?=some u:=by
       have:=congrArg (fun q:List Value=>q[0]?) hd
       simpa using this
      refine ⟨u,?_,hL2.1⟩
      simp [Instr.field,Sem.run_bind,run_underlying hU w,hf,asAgg,part,U2 hA w,hget]
    ·cases e
   ·cases e
  ·cases e
 ·cases e
theorem Az4 (h:B8 n B Iq s g a w) {l:Lf} {u:Value} {q:Sl} (e:s.sl l=some q) (hl:Dq s g w l u):
  ∃ A c,match q with
   | .rd t xs=>u=.slice A (List.length xs) c∧(Ty.sl t).K w (Eu s g) xs [u]
   | .own id t xs=>u=.slice A (List.length xs) c∧l=.row id∧∃ ee,s.res id=.row ee t xs:=by
 unfold St.sl at e
 split at e
 ·rename_i t xs
  cases e
  obtain ⟨A,c,h1,h2⟩:=hl
  cases h1
  exact ⟨A,c,rfl,A,c,rfl,h2⟩
 ·rename_i id
  split at e
  ·rename_i ee t xs hr
   cases e
   have r:=h.res id
   rw [hr] at r
   obtain ⟨cs,h1,h2,h3⟩:=r
   simp only [Dq,hr] at hl
   rw [hl]
   rcases h1.2 with ⟨hv,hn⟩ | ⟨gg,cap,cur,hv,_⟩
   ·refine ⟨none,0,?_,rfl,ee,hr⟩
    rw [hv,hn]
   ·exact ⟨_,cap,hv,rfl,ee,hr⟩
  ·rename_i t xs hr
   cases e
   have r:=h.res id
   rw [hr] at r
   simp only [Dq,hr] at hl
   have hK:=r.1
   rw [← hl] at hK
   have hK2:=hK
   obtain ⟨A,c,h1,h2⟩:=hK2
   cases h1
   exact ⟨A,c,rfl,hK⟩
  ·cases e
 ·cases e
theorem Aj3 (h:B8 n B Iq s g a w) {T:TypeId} {x y:Operand} {l:Lf} (e:Ta P s T x y=some l):∃ u,(Instr.indexAt T (a.eval x) (a.eval y)).run P w=.ok u w∧Dq s g w l u∧u.oneCell'=true:=by
 unfold Ta at e
 split at e
 ·rename_i el hU
  have hel:P.elem T=el:=by simp [Program.elem,hU]
  have hU':P.underlying T=some (.slice (P.elem T)):=by rw [hel]; exact hU
  split at e
  ·rename_i i t xs k m hi hx hy
   split at e
   ·rename_i hsz
    split at e
    ·rename_i h0
     split at e
     ·rename_i h1
      cases e
      obtain ⟨l0,e1,e2⟩:=Option.bind_eq_some_iff.1 hx
      obtain ⟨hl,_⟩:=Dc h e1
      obtain ⟨A,c,hu,hK⟩:=Az4 h e2 hl
      obtain ⟨A',c',hu',hc',hk⟩:=hK
      rw [hu] at hu'
      cases hu'
      have hx:nth xs m.toNat=some (xs.getD m.toNat t.zero):=by
       have:m.toNat < xs.length:=by omega
       simp [nth,List.getElem?_eq_getElem this]
      obtain ⟨ad,rfl,hs,hlt,cs',hl',hk',hc⟩:=hk _ _ hx
      refine ⟨.pointer (some (ad.add (m.toNat * t.sz))),?_,⟨ad,cs',by rw [Nat.add_zero],hs,hlt,hk',hc⟩,rfl⟩
      rw [(Db h hy).1,hu,run_indexAt_slice w T ad _ _ k m hU',if_pos ⟨h0,h1⟩,hel]
      simp [sizeOf,typeInfo,hi,hsz,Result.andThen]
     ·cases e
    ·cases e
   ·cases e
  ·rename_i i id t xs k m hi hx hy
   split at e
   ·rename_i hsz
    split at e
    ·rename_i h0
     split at e
     ·rename_i h1
      cases e
      obtain ⟨l0,e1,e2⟩:=Option.bind_eq_some_iff.1 hx
      obtain ⟨hl,_⟩:=Dc h e1
      obtain ⟨A,c,hu,rfl,ee,hr⟩:=Az4 h e2 hl
      have r:=h.res id
      rw [hr] at r
      obtain ⟨cs,q1,q2,q3⟩:=r
      simp only [Dq,hr] at hl
      rcases q1.2 with ⟨hv,hn⟩ | ⟨gg,cap,cur,hv,_⟩
      ·omega
      ·rw [hl] at hu
       rw [hv] at hu
       cases hu
       refine ⟨.pointer (some ((⟨gg,0,none⟩:Addr).add (m.toNat * t.sz))),?_,?_,rfl⟩
       ·rw [(Db h hy).1,hl,hv,run_indexAt_slice w T _ _ _ k m hU',if_pos ⟨h0,h1⟩,hel]
        simp [sizeOf,typeInfo,hi,hsz,Result.andThen]
       ·simp only [Dq,hr]
        refine ⟨by omega,gg,by rw [q3,hv]; rfl,by rw [Ajy]; rfl⟩
     ·cases e
    ·cases e
   ·cases e
  ·cases e
 ·cases e
theorem Az5 (h:B8 n B Iq s g a w) {T ty:TypeId} {x:Operand} {v:Value} (e:Aot P s T x=some v):(Builtin.len_ #[T] ty #[a.eval x]).run P w=.ok v w∧v.oneCell'=true:=by
 unfold Aot at e
 split at e
 ·rename_i el hU
  have hel:P.elem T=el:=by simp [Program.elem,hU]
  have hU':P.underlying T=some (.slice (P.elem T)):=by rw [hel]; exact hU
  split at e
  ·rename_i t xs hx
   cases e
   obtain ⟨l0,e1,e2⟩:=Option.bind_eq_some_iff.1 hx
   obtain ⟨hl,_⟩:=Dc h e1
   obtain ⟨A,c,hu,_⟩:=Az4 h e2 hl
   rw [hu,run_len_slice w T ty A _ c hU']
   exact ⟨rfl,rfl⟩
  ·rename_i id t xs hx
   cases e
   obtain ⟨l0,e1,e2⟩:=Option.bind_eq_some_iff.1 hx
   obtain ⟨hl,_⟩:=Dc h e1
   obtain ⟨A,c,hu,_⟩:=Az4 h e2 hl
   rw [hu,run_len_slice w T ty A _ c hU']
   exact ⟨rfl,rfl⟩
  ·split at e
   ·rename_i hx
    cases e
    rw [(Db h hx).1,run_len_slice w T ty none 0 0 hU']
    exact ⟨rfl,rfl⟩
   ·cases e
 ·cases e
end
end Go.Proofs.YtfkefgbihlfjmaaGreat.R

