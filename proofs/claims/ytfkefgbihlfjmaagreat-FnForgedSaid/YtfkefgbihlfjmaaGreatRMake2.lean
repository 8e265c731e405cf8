/- The evaluator's operations on rows: a row goes into another place, a store, a literal, make, append, a part, bytes as a text. No condition. -/
import Derived.Test.YtfkefgbihlfjmaaGreatRMake
namespace Go.Proofs.YtfkefgbihlfjmaaGreat.R
open Go Go.RowKit
set_option linter.unusedVariables false
set_option linter.unusedSimpArgs false
section
variable {P:Program} {n B:Nat} {Iq:List Nat} {s:St} {g:Gh} {a:Act} {w:World}
theorem Aj5 {S:Nat→Prop} {e:TypeId} {t:Ty} {xs:List t.D} {v:Value} {cs:List Value} (h1:M7 w t 0 e t.sz v xs.length cs) (h2:H8 w S t xs cs) (hS:∀ b,v.ownBlock=some b→S b) (hlt:∀ b,v.ownBlock=some b→b < w.heap.size):
  (Ty.sl t).K w S xs [v]:=by
 obtain ⟨hl,hv⟩:=h1
 rcases hv with ⟨rfl,hn⟩ | ⟨b,cap,cur,rfl,_,hh,hcap,_,hsz,hcs⟩
 ·refine ⟨none,0,by rw [hn],by omega,fun i x hx=>?_⟩
  have:i < xs.length:=(List.getElem?_eq_some_iff.1 hx).1
  omega
 ·refine ⟨_,cap,rfl,hcap,fun i x hx=>⟨_,rfl,hS b rfl,hlt b rfl,_,?_,h2.2 i x hx,fun j u hu=>?_⟩⟩
  ·exact Ty.K_len (h2.2 i x hx)
  ·rw [Ajy,cell_of_row w b _ cur e _ hh]
   rw [List.getElem?_take] at hu
   split at hu
   ·rw [List.getElem?_drop,← hcs,List.getElem?_take] at hu
    split at hu
    ·rw [← Array.getElem?_toList,← hu]
    ·cases hu
   ·cases hu
def Gh.off (g:Gh) (id:Nat):Gh:=⟨S9 g.blk id none,g.hdr,g.av⟩
theorem A4q (h:B8 n B Iq s g a w) {id:Nat} {e:TypeId} {t:Ty} {xs:List t.D} (hr:s.res id=.row e t xs):
  (∀ b,Eu s g b→b < w.heap.size→Eu (s.setRes id (.frozen t xs)) (g.off id) b∧w.heap[b]?=w.heap[b]?)∧(∀ j,A4 s g (s.setRes id (.frozen t xs)) (g.off id) j)∧
  B8 n B Iq (s.setRes id (.frozen t xs)) (g.off id) a w:=by
 have hS:∀ b,Eu s g b→b < w.heap.size→Eu (s.setRes id (.frozen t xs)) (g.off id) b∧w.heap[b]?=w.heap[b]?:=by
  intro b hb _
  refine ⟨⟨hb.1,fun j hj hk=>?_⟩,rfl⟩
  by_cases q:j=id
  ·subst q
   simp [Gh.off] at hk
  ·rw [Aq s _ q] at hj
   simp only [Gh.off,A1 _ _ q] at hk
   exact hb.2 j hj hk
 have hI:∀ j,A4 s g (s.setRes id (.frozen t xs)) (g.off id) j:=by
  intro j
  by_cases q:j=id
  ·subst q
   unfold A4
   rw [hr,Ao]
   exact .inr (.inr ⟨t,xs,rfl,rfl⟩)
  ·exact A4.same (Aq s _ q) (by simp [Gh.off,A1 _ _ q]) rfl
 refine ⟨hS,hI,h.step h.size h.defers (Nat.le_refl _) hS hI (fun i=>.inl ⟨rfl,rfl⟩) (fun j=>?_) (fun i j b hi hj=>?_) (fun i b hi=>?_) rfl⟩
 ·by_cases q:j=id
  ·subst q
   right
   rw [Ao]
   have r:=h.res j
   rw [hr] at r
   obtain ⟨cs,h1,h2,h3⟩:=r
   refine ⟨?_,by simp [Gh.off]⟩
   refine Aj5 (e:=e) h1 (h2.keep hS) (fun b hb=>⟨(h.lt j b (h3.trans hb)).2.2,fun k hk hkb=>?_⟩) (fun b hb=>(h.lt j b (h3.trans hb)).1)
   by_cases q2:k=j
   ·subst q2
    simp [Gh.off] at hkb
   ·simp only [Gh.off,A1 _ _ q2] at hkb
    exact q2 (h.inj k j b hkb (h3.trans hb))
  ·left
   exact ⟨Aq s _ q,by simp [Gh.off,A1 _ _ q],rfl,fun _ _=>rfl⟩
 ·by_cases q1:i=id
  ·simp [Gh.off,q1] at hi
  ·by_cases q2:j=id
   ·simp [Gh.off,q2] at hj
   ·simp only [Gh.off,A1 _ _ q1] at hi
    simp only [Gh.off,A1 _ _ q2] at hj
    exact h.inj i j b hi hj
 ·by_cases q1:i=id
  ·simp [Gh.off,q1] at hi
  ·simp only [Gh.off,A1 _ _ q1] at hi
   exact h.lt i b hi
theorem H8.snoc {S:Nat→Prop} {t:Ty} {xs:List t.D} {y:t.D} {cs:List Value} {u:Value} (h1:t.sz=1) (h:H8 w S t xs (cs.take xs.length)) (hl:cs.length=xs.length + 1) (hu:cs[xs.length]?=some u) (hy:t.K w S y [u]):H8 w S t (xs++[y]) cs:=by
 refine ⟨by rw [h1]; simp [hl],fun i x hx=>?_⟩
 by_cases q:i < xs.length
 ·rw [List.getElem?_append_left q] at hx
  have:=h.2 i x hx
  rw [h1,Nat.mul_one] at this ⊢
  rw [List.drop_take,List.take_take,Nat.min_eq_left (by omega)] at this
  exact this
 ·rw [List.getElem?_append_right (by omega)] at hx
  have hi:i=xs.length:=by
   have:=(List.getElem?_eq_some_iff.1 hx).1
   simp at this
   omega
  subst hi
  simp at hx
  subst hx
  rw [h1,Nat.mul_one]
  have hd:(cs.drop xs.length).take 1=[u]:=by
   rw [List.drop_eq_getElem_cons (by omega)]
   rw [List.getElem?_eq_getElem (by omega)] at hu
   simp [Option.some.inj hu]
  rw [hd]
  exact hy
theorem Asn (h:B8 n B Iq s g a w) {id j:Nat} {e:TypeId} {t:Ty} {xs:List (List t.D)} {c:Bool} {ys:List t.D} (hr:s.res id=.last e t xs c j) (hj:s.res j=.frozen t ys):
  ∃ cs,M7 w (.sl t) 0 e (Ty.sl t).sz (g.hdr id) (Wf c xs ys).length cs∧H8 w (Eu s g) (.sl t) (Wf c xs ys) cs∧g.blk id=(g.hdr id).ownBlock∧(Wf c xs ys).length=xs.length + c.toNat:=by
 have r:=h.res id
 rw [hr] at r
 obtain ⟨cs,h1,h2,h3,h4⟩:=r
 have hl:(Wf c xs ys).length=xs.length + c.toNat:=by cases c<;>simp [Wf]
 refine ⟨cs,by rw [hl]; exact h1,?_,h3,hl⟩
 have hcl:cs.length=xs.length + c.toNat:=by simpa using h1.1
 cases c with
 | false=>
  have:cs.take xs.length=cs:=List.take_of_length_le (by simp at hcl; omega)
  rw [this] at h2
  exact h2
 | true=>
  simp only [Bool.toNat_true] at hcl
  obtain ⟨u,hu⟩:∃ u,cs[xs.length]?=some u:=⟨_,List.getElem?_eq_getElem (by omega)⟩
  have hq:=h4 u rfl hu
  rw [hj] at hq
  have hrj:=h.res j
  rw [hj] at hrj
  simp only at hq
  exact H8.snoc (t:=.sl t) rfl h2 hcl hu (by rw [hq]; exact hrj.1)
theorem A6d (h:B8 n B Iq s g a w) {id j:Nat} {e:TypeId} {t:Ty} {xs:List (List t.D)} {c:Bool} {ys:List t.D} (hr:s.res id=.last e t xs c j) (hj:s.res j=.frozen t ys):
  (∀ b,Eu s g b→b < w.heap.size→Eu (s.setRes id (.frozen (.sl t) (Wf c xs ys))) (g.off id) b∧w.heap[b]?=w.heap[b]?)∧(∀ k,A4 s g (s.setRes id (.frozen (.sl t) (Wf c xs ys))) (g.off id) k)∧
  B8 n B Iq (s.setRes id (.frozen (.sl t) (Wf c xs ys))) (g.off id) a w:=by
 have hS:∀ b,Eu s g b→b < w.heap.size→Eu (s.setRes id (.frozen (.sl t) (Wf c xs ys))) (g.off id) b∧w.heap[b]?=w.heap[b]?:=by
  intro b hb _
  refine ⟨⟨hb.1,fun j hj hk=>?_⟩,rfl⟩
  by_cases q:j=id
  ·subst q
   simp [Gh.off] at hk
  ·rw [Aq s _ q] at hj
   simp only [Gh.off,A1 _ _ q] at hk
   exact hb.2 j hj hk
 have hI:∀ j,A4 s g (s.setRes id (.frozen (.sl t) (Wf c xs ys))) (g.off id) j:=by
  intro j
  by_cases q:j=id
  ·subst q
   unfold A4
   rw [hr,Ao]
   exact .inr (.inr ⟨_,_,rfl,rfl⟩)
  ·exact A4.same (Aq s _ q) (by simp [Gh.off,A1 _ _ q]) rfl
 refine ⟨hS,hI,h.step h.size h.defers (Nat.le_refl _) hS hI (fun i=>.inl ⟨rfl,rfl⟩) (fun j=>?_) (fun i j b hi hj=>?_) (fun i b hi=>?_) rfl⟩
 ·by_cases q:j=id
  ·subst q
   right
   rw [Ao]
   obtain ⟨cs,h1,h2,h3,_⟩:=Asn h hr hj
   refine ⟨?_,by simp [Gh.off]⟩
   refine Aj5 (e:=e) h1 (h2.keep hS) (fun b hb=>⟨(h.lt j b (h3.trans hb)).2.2,fun k hk hkb=>?_⟩) (fun b hb=>(h.lt j b (h3.trans hb)).1)
   by_cases q2:k=j
   ·subst q2
    simp [Gh.off] at hkb
   ·simp only [Gh.off,A1 _ _ q2] at hkb
    exact q2 (h.inj k j b hkb (h3.trans hb))
  ·left
   exact ⟨Aq s _ q,by simp [Gh.off,A1 _ _ q],rfl,fun _ _=>rfl⟩
 ·by_cases q1:i=id
  ·simp [Gh.off,q1] at hi
  ·by_cases q2:j=id
   ·simp [Gh.off,q2] at hj
   ·simp only [Gh.off,A1 _ _ q1] at hi
    simp only [Gh.off,A1 _ _ q2] at hj
    exact h.inj i j b hi hj
 ·by_cases q1:i=id
  ·simp [Gh.off,q1] at hi
  ·simp only [Gh.off,A1 _ _ q1] at hi
   exact h.lt i b hi
theorem E9:∀ {ls:List Lf} {s:St} {g:Gh},B8 n B Iq s g a w→∃ g',B8 n B Iq (s.frz ls) g' a w∧Go B Iq s g w (s.frz ls) g' w∧
  (∀ l u,Dq s g w l u→Dq (s.frz ls) g' w l u)
 | [],s,g,h=>⟨g,h,Go.refl B Iq s g w,fun _ _ q=>q⟩
 | .c _::r,s,g,h=>E9 (ls:=r) h
 | .sl _ _::r,s,g,h=>E9 (ls:=r) h
 | .ptr _ _::r,s,g,h=>E9 (ls:=r) h
 | .ep _ _ _ _::r,s,g,h=>E9 (ls:=r) h
 | .rp _ _ _::r,s,g,h=>E9 (ls:=r) h
 | .sp _::r,s,g,h=>E9 (ls:=r) h
 | .row id::r,s,g,h=>by
  unfold St.frz
  cases hr:s.res id with
  | row e t xs=>
   obtain ⟨h1,h2,h3⟩:=A4q h hr
   obtain ⟨g',k1,k2,k3⟩:=E9 (ls:=r) h3
   exact ⟨g',k1,Go.trans ⟨Kp.refl B Iq w,h1,h2,rfl⟩ k2,fun l u q=>k3 l u (Dq.step h1 h2 q)⟩
  | unborn=>exact E9 (ls:=r) h
  | dead=>exact E9 (ls:=r) h
  | box T ls=>exact E9 (ls:=r) h
  | frozen t xs=>exact E9 (ls:=r) h
  | last e t xs c j=>
   simp only
   cases hj:s.res j with
   | row e' t' ys=>
    simp only
    split
    ·rename_i ht
     subst ht
     obtain ⟨h1,h2,h3⟩:=A4q h hj
     have hne:id≠j:=fun q=>by rw [q,hj] at hr; cases hr
     obtain ⟨f1,f2,f3⟩:=A6d h3 (id:=id) (j:=j) ((Aq s _ hne).trans hr) (Ao s j _)
     obtain ⟨g',k1,k2,k3⟩:=E9 (ls:=r) f3
     exact ⟨g',k1,Go.trans ⟨Kp.refl B Iq w,h1,h2,rfl⟩ (Go.trans ⟨Kp.refl B Iq w,f1,f2,rfl⟩ k2),fun l u q=>k3 l u (Dq.step f1 f2 (Dq.step h1 h2 q))⟩
    ·exact E9 (ls:=r) h
   | unborn=>exact E9 (ls:=r) h
   | dead=>exact E9 (ls:=r) h
   | box T ls=>exact E9 (ls:=r) h
   | frozen t xs=>exact E9 (ls:=r) h
   | last _ _ _ _ _=>exact E9 (ls:=r) h
   | map _ _=>exact E9 (ls:=r) h
   | iter _ _ _ _=>exact E9 (ls:=r) h
  | map _ _=>exact E9 (ls:=r) h
  | iter _ _ _ _=>exact E9 (ls:=r) h
theorem G7.imp {s':St} {g':Gh} (k:∀ l u,Dq s g w l u→Dq s' g' w l u):∀ {ls:List Lf} {cs:List Value},G7 s g w ls cs→G7 s' g' w ls cs
 | [],[],_=>trivial
 | [],_::_,h=>h.elim
 | _::_,[],h=>h.elim
 | _::_,_::_,h=>⟨⟨k _ _ h.1.1,h.1.2⟩,G7.imp k h.2⟩
end
end Go.Proofs.YtfkefgbihlfjmaaGreat.R

