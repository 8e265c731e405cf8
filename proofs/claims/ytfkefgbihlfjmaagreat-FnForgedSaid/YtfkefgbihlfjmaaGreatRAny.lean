/- A region whose order is drawn leads, in every order, to the state that the listed order leads to. No condition. -/
import Derived.Test.YtfkefgbihlfjmaaGreatRDrawn
namespace Go.Proofs.YtfkefgbihlfjmaaGreat.R
open Go Go.RowKit
set_option linter.unusedVariables false
set_option linter.unusedSimpArgs false
def unl (listed:Array Bool):Nat→Nat
 | 0=>0
 | k + 1=>unl listed k + (if listed.getD k false then 0 else 1)
theorem Lu (listed:Array Bool) (i j:Nat) (h:i < listed.size):(listed.setIfInBounds i true).getD j false=if j=i then true else listed.getD j false:=by
 by_cases q:j=i
 ·subst q
  simp [h]
 ·rw [getD_set_ne false (fun e=>q e.symm)]
  simp [q]
theorem Axc (listed:Array Bool) (i:Nat) (h:i < listed.size):∀ k,k≤i→unl (listed.setIfInBounds i true) k=unl listed k
 | 0,_=>rfl
 | k + 1,hk=>by
  simp only [unl]
  have hq:(listed.setIfInBounds i true).getD k false=listed.getD k false:=by rw [Lu listed i k h,if_neg (by omega)]
  rw [Axc listed i h k (by omega),hq]
theorem Axd (listed:Array Bool) (i:Nat) (h:i < listed.size) (hf:listed.getD i false=false):∀ k,i < k→unl (listed.setIfInBounds i true) k + 1=unl listed k
 | 0,hk=>by omega
 | k + 1,hk=>by
  simp only [unl]
  by_cases q:k=i
  ·subst q
   have hq:(listed.setIfInBounds k true).getD k false=true:=by rw [Lu listed k k h,if_pos rfl]
   rw [Axc listed k h k (Nat.le_refl _),hq,hf]
   simp
  ·have hq:(listed.setIfInBounds i true).getD k false=listed.getD k false:=by rw [Lu listed i k h,if_neg q]
   rw [hq]
   have:=Axd listed i h hf k (by omega)
   omega
theorem Atd (listed:Array Bool):∀ k,unl listed k=0→∀ j,j < k→listed.getD j false=true
 | 0,_,j,hj=>by omega
 | k + 1,h,j,hj=>by
  simp only [unl] at h
  by_cases q:j=k
  ·subst q
   by_cases hq:listed.getD j false=true
   ·exact hq
   ·rw [if_neg hq] at h; omega
  ·exact Atd listed k (by omega) j (by omega)
section
variable {P:Program} {n B:Nat} {Iq:List Nat} {sigs:Tb} {ops:Array Oper}
theorem Aky {listed:Array Bool} {j:Nat} (hj:j∈Region.ready .any ops listed):∃ o,ops[j]?=some o∧listed.getD j true=false∧∀ p∈Ti o,listed.getD p false=true:=by
 obtain ⟨h0,o,ho,h⟩:=mem_ready.1 hj
 refine ⟨o,ho,h0,fun p hp=>?_⟩
 simp only [Ti,List.mem_map,List.mem_filter] at hp
 obtain ⟨e,⟨he,hb⟩,rfl⟩:=hp
 exact h e (Array.mem_toList_iff.1 he) hb
theorem Avq {tr:List Ent} (htr:tr.map (·.o)=ops.toList) {listed:Array Bool} (hsz:listed.size=ops.size) (hp:∀ j f,tr[j]?=some f→∀ p∈Ti f.o,p < j) (hr:Region.ready .any ops listed=[]):
  ∀ j,j < ops.size→listed.getD j false=true:=by
 intro j
 induction j using Nat.strongRecOn with
 | _ j ih=>
  intro hj
  cases hq:listed.getD j false with
  | true=>rfl
  | false=>
   exfalso
   have hlen:tr.length=ops.size:=by rw [← Array.length_toList,← htr]; simp
   have hte:tr[j]?=some (tr[j]'(by omega)):=List.getElem?_eq_getElem (by omega)
   have ho:ops[j]?=some (tr[j]'(by omega)).o:=by
    rw [← Array.getElem?_toList,← htr,List.getElem?_map,hte]
    rfl
   have:j∈Region.ready .any ops listed:=by
    rw [mem_ready]
    refine ⟨?_,_,ho,fun e he hb=>?_⟩
    ·rw [← hq]
     simp [Array.getD,show j < listed.size by omega]
    ·have hmem:e.on∈Ti (tr[j]'(by omega)).o:=by
      simp only [Ti,List.mem_map,List.mem_filter]
      exact ⟨e,⟨Array.mem_toList_iff.2 he,hb⟩,rfl⟩
     have:=hp j _ hte _ hmem
     exact ih e.on this (by omega)
   rw [hr] at this
   cases this
theorem A0w {o:Oper} (h:Nj o=true):Ant P o=true:=by
 obtain ⟨dst,op,type,pos,after,guard⟩:=o
 cases op<;>simp only [Nj] at h<;>simp only [Ant]<;>first | exact h | (cases h; done) | skip
 case call c=>
  split at h
  ·rename_i hq
   rw [hq]
  ·cases h
theorem Ate:∀ {ms:List Md} {y:BxD ms} {ow:List (Option Nat)} {res:Nat→Res},A0s ms=true→Ln ms y ow res=res
 | [],_,_,_,_=>rfl
 | .rd _::ms,y,ow,res,h=>Ate (ms:=ms) h
 | .own _ _::_,_,_,_,h=>by cases h
 | .bx _ _::_,_,_,_,h=>by cases h
 | .mu _ _::_,_,_,_,h=>by cases h
theorem A2x {v v':St} {nid:Nat} {o:Oper} {av:AV} {m:List Nat} (e:Rg P sigs v nid o=some (av,v')) {id:Nat} (hm:id∈m) (hw:id ∉ wrO sigs v nid o m):v'.res id=v.res id:=by
 obtain ⟨dst,op,type,pos,after,guard⟩:=o
 cases op<;>try exact absurd hm hw
 case store T x y=>
  have e2:Ml (if Acf v x then stC (Acg P v T x y) else stC (Y1 P v T x y))=some (av,v'):=e
  unfold wrO at hw
  simp only at hw
  split at hw
  ·rename_i j off hl
   have hlp:Acf v x=false:=by unfold Acf; rw [hl]
   rw [hlp] at e2
   simp only [Bool.false_eq_true,if_false] at e2
   obtain ⟨s',e3,e4⟩:=Acj e2
   cases e4
   obtain ⟨cs,e5,_⟩:=Co e3
   unfold Y1 at e5
   rw [hl] at e5
   simp only [Option.bind_some] at e5
   obtain ⟨u,e6,e7⟩:=Option.bind_eq_some_iff.1 e5
   split at e7
   ·cases e7
   ·split at e7
    ·split at e7
     ·split at e7
      ·cases e7
       have hne:id≠j:=by
        intro q
        subst q
        rw [if_pos (Cu.2 hm)] at hw
        exact hw (List.mem_singleton.2 rfl)
       show S9 v.res j _ id=v.res id
       exact A1 _ _ hne
      ·cases e7
     ·cases e7
    ·cases e7
  ·exact absurd hm hw
 case call c=>
  unfold wrO at hw
  simp only at hw
  split at hw
  ·rename_i f xs hc
   split at hw
   ·rename_i sd hsd
    split at hw
    ·rename_i hq
     simp only [Bool.and_eq_true] at hq
     obtain ⟨q1,q2,q3,q4⟩:=hq
     unfold Rg at e
     rw [hc] at e
     simp only at e
     split at e
     ·rename_i vs hvs
      rw [hsd] at e
      simp only at e
      unfold Aaf at e
      rw [q2,q3] at e
      simp only [Bool.and_self,if_true] at e
      obtain ⟨ls,e1,e⟩:=Option.bind_eq_some_iff.1 e
      obtain ⟨q,e2,e⟩:=Option.bind_eq_some_iff.1 e
      split at e
      ·split at e
       ·obtain ⟨r,e3,e⟩:=Option.bind_eq_some_iff.1 e
        obtain ⟨vs',e4,e⟩:=Option.bind_eq_some_iff.1 e
        cases e
        show Ls sd.sg.rs r.1 nid (Ln sd.sg.ps r.2 q.2 v.res) id=v.res id
        rw [Ate q1]
        refine H9 _ _ _ _ _ ?_
        have hq4:=Nat.le_of_ble_eq_true q4
        simp only [Nb,List.mem_cons,List.not_mem_nil,or_false,not_or] at hw
        omega
       ·cases e
      ·cases e
     ·cases e
    ·exact absurd hm hw
   ·exact absurd hm hw
  ·exact absurd hm hw
theorem A5s {v:St} {nid:Nat} {o:Oper} {m:List Nat} (hs:∀ i∈Nb nid,i∈m) {id:Nat} (h:id∈wrO sigs v nid o m):id∈m:=by
 unfold wrO at h
 split at h
 ·split at h
  ·split at h
   ·rename_i q
    rw [List.mem_singleton.1 h]
    exact Cu.1 q
   ·exact h
  ·exact h
 ·split at h
  ·split at h
   ·split at h
    ·exact hs id h
    ·exact h
   ·exact h
  ·exact h
 ·exact h
theorem A2y (hs:A2 P sigs) {s:St} {g:Gh} {a:Act} {w:World} (h:B8 n B Iq s g a w) {e:Ent} (hf:Ayw P sigs ops s e) {i:Nat} (ho:ops[i]?=some e.o)
  {K:Act→World→Prop} {Q:Exit→Act→World→Prop} (hK:∀ a' g' w',Go B Iq s g w (e.app P n s) g' w'→B8 n B Iq (e.app P n s) g' a' w'→K a' w'):wpOp P ops Q i K a w:=by
 unfold wpOp
 rw [ho]
 simp only
 rcases hf with ⟨h1,av,v,h2,h3⟩ | ⟨h1,h2⟩
 ·rw [if_pos (Ot h h1)]
  left
  refine A0q hs h h2 K Q fun u g' w' k1 k2 k3=>?_
  have happ:e.app P n s=St.put n (if Nj e.o then s else s.lay v (Ri s e.o++Nb e.nid)) e.o.dst av:=by
   have q1:e.run=true:=by rw [h3]; rfl
   have q2:e.wr=wrO sigs (s.view (D2 e.o) (Ri s e.o)) e.nid e.o (Ri s e.o++Nb e.nid):=by rw [h3]; rfl
   have q3:e.av=av:=by rw [h3]; rfl
   have q4:e.res=v.res:=by rw [h3]; rfl
   unfold Ent.app
   rw [q3]
   congr 1
   rw [q2,q4]
   by_cases hq:e.quiet P=true
   ·rw [if_pos hq]
    have hro:Ant P e.o=true:=by
     unfold Ent.quiet at hq
     rw [q1] at hq
     simpa using hq
    by_cases hlt:Nj e.o=true
    ·rw [if_pos hlt]
    ·rw [if_neg hlt]
     unfold o5 at h2
     dsimp only at h2
     split at h2
     ·rename_i hfr
      split at h2
      ·obtain ⟨p,e1,e2⟩:=Option.bind_eq_some_iff.1 h2
       split at e2
       ·split at e2<;>cases e2
        unfold Rg at e1
        rw [A2w hro] at e1
        simp only [A4z hro] at e1
        have:=A2v hro e1
        rw [this]
        refine St.ext' (fun i=>rfl) (fun id=>?_)
        show s.res id=if Kr _ id then (if Kr _ id then s.res id else .unborn) else s.res id
        split
        ·rename_i hm
         split
         ·rfl
         ·rename_i hn
          rcases List.mem_append.1 (Cu.1 hm) with q | q
          ·exact absurd (Cu.2 q) hn
          ·exact Aam hfr id q
        ·rfl
       ·cases e2
      ·cases h2
     ·cases h2
   ·have hlt:¬ Nj e.o=true:=fun q=>hq (by
     unfold Ent.quiet
     rw [q1,A0w q]
     rfl)
    rw [if_neg hq,if_neg hlt]
    unfold o5 at h2
    dsimp only at h2
    split at h2
    ·rename_i hfr
     split at h2
     ·obtain ⟨p,e1,e2⟩:=Option.bind_eq_some_iff.1 h2
      split at e2
      ·split at e2<;>cases e2
       refine St.ext' (fun i=>rfl) (fun id=>?_)
       show (if Kr _ id then v.res id else s.res id)=if Kr _ id then v.res id else s.res id
       by_cases hm:id∈Ri s e.o++Nb e.nid
       ·rw [if_pos (Cu.2 hm)]
        split
        ·rfl
        ·rename_i hw
         rw [A2x e1 hm (fun q=>hw (Cu.2 q))]
         show s.res id=if Kr _ id then s.res id else .unborn
         split
         ·rfl
         ·rename_i hn
          rcases List.mem_append.1 hm with q | q
          ·exact absurd (Cu.2 q) hn
          ·exact Aam hfr id q
       ·rw [if_neg (fun q=>hm (Cu.1 q)),if_neg (fun q=>hm (A5s (fun i hi=>List.mem_append_right _ hi) (Cu.1 q)))]
      ·cases e2
     ·cases h2
    ·cases h2
  obtain ⟨r1,r2⟩:=Pd k2 e.o.dst k3
  exact hK _ g' w' (by rw [happ]; exact k1.trans r2) (by rw [happ]; exact r1)
 ·rw [if_neg (by rw [Ot h h1]; simp)]
  have happ:e.app P n s=St.put n s e.o.dst (.tp []):=by
   have q1:e.run=false:=by rw [h2]; rfl
   have q2:e.av=.tp []:=by rw [h2]; rfl
   unfold Ent.app
   rw [q2]
   have:e.quiet P=true:=by unfold Ent.quiet; rw [q1]; rfl
   rw [if_pos this]
  obtain ⟨r1,r2⟩:=Pd (av:=.tp []) (v:=undef) h e.o.dst ⟨#[],rfl,rfl,fun j v hv=>by simp at hv⟩
  exact hK _ g w (by rw [happ]; exact r2) (by rw [happ]; exact r1)
theorem A41 (hs:A2 P sigs) {tr:List Ent} {s0:St} {g0:Gh} {w0:World} (htr:tr.map (·.o)=ops.toList) (hfit:Aan P sigs ops n tr s0) (hok:Ayx P ops 0 [] [] tr=true) {Q:Exit→Act→World→Prop}
  (hQ:∀ a g w,Go B Iq s0 g0 w0 (Wv P n (fun _=>true) 0 tr s0) g w→B8 n B Iq (Wv P n (fun _=>true) 0 tr s0) g a w→Q .normal a w):
  ∀ (fuel:Nat) (listed:Array Bool) (a:Act) (g:Gh) (w:World),listed.size=ops.size→unl listed ops.size≤fuel→A0v tr (fun i=>listed.getD i false=true)→
   Go B Iq s0 g0 w0 (Wv P n (fun i=>listed.getD i false) 0 tr s0) g w→B8 n B Iq (Wv P n (fun i=>listed.getD i false) 0 tr s0) g a w→wpAny P .any ops Q fuel listed a w:=by
 have hlen:tr.length=ops.size:=by rw [← Array.length_toList,← htr]; simp
 obtain ⟨hconf,hlt⟩:=Atc (tr:=tr) (rest:=tr) (done:=[]) (ancs:=[]) rfl rfl hok (by simp) (by simp) (by simp)
 have hdone:∀ (listed:Array Bool) a g w,(∀ j,j < ops.size→listed.getD j false=true)→Go B Iq s0 g0 w0 (Wv P n (fun i=>listed.getD i false) 0 tr s0) g w→
   B8 n B Iq (Wv P n (fun i=>listed.getD i false) 0 tr s0) g a w→Q .normal a w:=by
  intro listed a g w hall h1 h2
  have:Wv P n (fun i=>listed.getD i false) 0 tr s0=Wv P n (fun _=>true) 0 tr s0:=Afb (fun j hj=>by
   rw [Nat.zero_add]
   exact hall j (by omega))
  rw [this] at h1 h2
  exact hQ a g w h1 h2
 intro fuel
 induction fuel with
 | zero=>
  intro listed a g w hsz hu hcl h1 h2
  have hall:=Atd listed ops.size (by omega)
  refine ⟨?_,hdone listed a g w hall h1 h2⟩
  cases hr:Region.ready .any ops listed with
  | nil=>rfl
  | cons j r=>
   exfalso
   have hj:j∈Region.ready .any ops listed:=by rw [hr]; simp
   obtain ⟨o,ho,h0,_⟩:=Aky hj
   have hlt:=(Array.getElem?_eq_some_iff.1 ho).1
   have:=hall j hlt
   simp [Array.getD,show j < listed.size by omega] at this h0
   rw [this] at h0
   cases h0
 | succ fuel ih=>
  intro listed a g w hsz hu hcl h1 h2
  refine ⟨fun hr=>hdone listed a g w (Avq htr hsz hlt hr) h1 h2,fun i hi=>?_⟩
  obtain ⟨o,ho,h0,hp⟩:=Aky hi
  have hil:i < ops.size:=(Array.getElem?_eq_some_iff.1 ho).1
  have hf0:listed.getD i false=false:=by
   rw [← h0]
   simp [Array.getD,show i < listed.size by omega]
  have hte:tr[i]?=some (tr[i]'(by omega)):=List.getElem?_eq_getElem (by omega)
  generalize hen:tr[i]'(by omega)=e at hte
  have heo:e.o=o:=by
   have:ops[i]?=some e.o:=by
    rw [← Array.getElem?_toList,← htr,List.getElem?_map,hte]
    rfl
   rw [ho] at this
   exact (Option.some.inj this).symm
  have hnotbef:∀ j f,tr[j]?=some f→i < j→listed.getD j false=true→Nk P ops e f=true:=by
   intro j f q1 q2 q3
   rcases hconf i j e f hte q1 q2 with q | q
   ·exfalso
    have:=q _ hcl (hcl j f q1 q3)
    rw [hf0] at this
    cases this
   ·exact q
  have hahead:∀ j f,tr[j]?=some f→j < i→listed.getD j false=false→Nk P ops f e=true:=by
   intro j f q1 q2 q3
   rcases hconf j i f e q1 hte q2 with q | q
   ·exfalso
    have:=q _ hcl (fun p hpp=>hp p (by rw [← heo]; exact hpp))
    rw [q3] at this
    cases this
   ·exact q
  have hagree:=Afc (P:=P) (n:=n) (D:=fun i=>listed.getD i false) (e:=e) (tr:=tr) (k:=0) (i:=i) (s:=s0) (t:=s0) ⟨fun _ _=>rfl,fun _ _=>rfl⟩
   (fun j f q1 q2 q3=>by rw [Nat.zero_add] at q3; exact (Acv (hahead j f q1 q2 q3)).1)
   (fun j f q1 q2 q3=>by
    rw [Nat.zero_add] at q3
    by_cases q:j=i
    ·subst q
     rw [hf0] at q3
     cases q3
    ·exact (Acv (hnotbef j f q1 (by omega) q3)).2)
  have hfits:=(Aan.get (k:=0) hfit hte).local hagree.symm
  refine A2y hs h2 hfits (by rw [heo]; exact ho) fun a' g' w' k1 k2=>?_
  have hset:Wv P n (fun j=>(listed.setIfInBounds i true).getD j false) 0 tr s0=e.app P n (Wv P n (fun i=>listed.getD i false) 0 tr s0):=by
   refine Axb (ops:=ops) (i:=i) hte (by rw [Nat.zero_add]; exact hf0) (by rw [Nat.zero_add,Lu listed i i (by omega),if_pos rfl]) (fun j hj=>by rw [Nat.zero_add,Lu listed i j (by omega),if_neg hj]) (fun j f q1 q2 q3=>?_)
   rw [Nat.zero_add] at q3
   exact hnotbef j f q2 q1 q3
  refine ih (listed.setIfInBounds i true) a' g' w' (by simp [hsz]) ?_ ?_ (by rw [hset]; exact h1.trans k1) (by rw [hset]; exact k2)
  ·have:=Axd listed i (by omega) hf0 ops.size hil
   omega
  ·intro k f q1 q2 p q3
   rw [Lu listed i k (by omega)] at q2
   rw [Lu listed i p (by omega)]
   split
   ·rfl
   ·by_cases q:k=i
    ·subst q
     rw [hte] at q1
     cases q1
     exact hp p (by rw [← heo]; exact q3)
    ·rw [if_neg q] at q2
     exact hcl k f q1 q2 p q3
end
end Go.Proofs.YtfkefgbihlfjmaaGreat.R

