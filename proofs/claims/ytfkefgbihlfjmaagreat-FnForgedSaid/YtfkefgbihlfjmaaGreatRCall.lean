/- A call, as the evaluator tells it. No condition. -/
import Derived.Test.YtfkefgbihlfjmaaGreatRGat
namespace Go.Proofs.YtfkefgbihlfjmaaGreat.R
open Go Go.RowKit
set_option linter.unusedVariables false
set_option linter.unusedSimpArgs false
def shL:List (Option Nat)→List Vl→Option (List Lf)
 | [],[]=>some []
 | none::sh,.lf l::vs=>(shL sh vs).bind fun r=>some (l::r)
 | some k::sh,.ag ls::vs=>if ls.length=k then (shL sh vs).bind fun r=>some (ls++r) else none
 | _,_=>none
def shV:List (Option Nat)→List Lf→Option (List Vl)
 | [],[]=>some []
 | none::sh,l::ls=>(shV sh ls).bind fun r=>some (.lf l::r)
 | some k::sh,ls=>if k≤ls.length then (shV sh (ls.drop k)).bind fun r=>some (.ag (ls.take k)::r) else none
 | _,_=>none
def VLR (s:St) (g:Gh) (w:World):List Vl→List Value→Prop
 | [],[]=>True
 | v::vs,u::us=>VlR s g w v u∧VLR s g w vs us
 | _,_=>False
def Ahw:Ty→Bool
 | .sl _=>false
 | .pair a b=>Ahw a&&Ahw b
 | _=>true
def In:List Md→Bool
 | []=>true
 | .rd t::ms=>Ahw t&&In ms
 | .own _ t::ms=>Ahw t&&In ms
 | .bx _ t::ms=>Ahw t&&In ms
 | .mu _ t::ms=>Ahw t&&In ms
def Nd:List Md→Bool
 | []=>true
 | .bx _ t::ms=>Ahw t&&Nd ms
 | .mu _ t::ms=>Ahw t&&Nd ms
 | .rd _::ms=>Nd ms
 | .own _ _::ms=>Nd ms
def Oo (s:St) (nid:Nat):Nat→Bool
 | 0=>true
 | k + 1=>(match s.res nid with | .unborn=>true | _=>false)&&Oo s (nid + 1) k
def Avh:List Vl→AV
 | [v]=>.vl v
 | vs=>.tp vs
def Aaf (sg:Sig) (den:Tf sg.ps→Option (Tf sg.rs×BxD sg.ps)) (s:St) (nid:Nat) (vs:List Vl):Option (AV×St):=
 (shL sg.psh vs).bind fun ls=>
  let sF:=s.frz (Kh s sg.ps ls)
  let sA:=if In sg.rs&&Nd sg.ps then s else sF
  (Of sF sg.ps ls).bind fun q=>if Rb (Bh q.2) then (if Oo sA nid (Ks sg.rs) then (den q.1).bind fun r=>
   (shV sg.rsh (Aqs sg.rs r.1 nid)).bind fun vs'=>some (Avh vs',⟨sA.cell,Ls sg.rs r.1 nid (Ln sg.ps r.2 q.2 sA.res)⟩)
   else none) else none
section
variable {P:Program} {n B:Nat} {Iq:List Nat} {s:St} {g:Gh} {a:Act} {w:World}
theorem Aw0:∀ {sh:List (Option Nat)} {vs:List Vl} {us:List Value} {ls:List Lf},shL sh vs=some ls→VLR s g w vs us→∃ cs,ShR sh us cs∧G7 s g w ls cs
 | [],[],[],ls,h,_=>by simp only [shL] at h; cases h; exact ⟨[],⟨rfl,rfl⟩,trivial⟩
 | [],[],_::_,ls,h,hV=>hV.elim
 | [],_::_,us,ls,h,hV=>by simp [shL] at h
 | none::sh,[],us,ls,h,hV=>by simp [shL] at h
 | none::sh,.ag _::vs,us,ls,h,hV=>by simp [shL] at h
 | none::sh,.lf l::vs,[],ls,h,hV=>hV.elim
 | none::sh,.lf l::vs,u::us,ls,h,hV=>by
  simp only [shL] at h
  obtain ⟨r,h1,h2⟩:=Option.bind_eq_some_iff.1 h
  cases h2
  obtain ⟨cs,k1,k2⟩:=Aw0 h1 hV.2
  exact ⟨u::cs,⟨u,us,cs,rfl,rfl,hV.1.2,k1⟩,⟨hV.1.1,hV.1.2⟩,k2⟩
 | some k::sh,[],us,ls,h,hV=>by simp [shL] at h
 | some k::sh,.lf _::vs,us,ls,h,hV=>by simp [shL] at h
 | some k::sh,.ag l::vs,[],ls,h,hV=>hV.elim
 | some k::sh,.ag l::vs,u::us,ls,h,hV=>by
  simp only [shL] at h
  split at h
  ·rename_i hk
   obtain ⟨r,h1,h2⟩:=Option.bind_eq_some_iff.1 h
   cases h2
   obtain ⟨cs,k1,k2⟩:=Aw0 h1 hV.2
   obtain ⟨c1,rfl,e2⟩:=hV.1
   exact ⟨c1.toList++cs,⟨c1,us,cs,rfl,rfl,by have:=e2.length; simp at this; omega,k1⟩,e2.append k2⟩
  ·cases h
theorem Aw1:∀ {sh:List (Option Nat)} {ls:List Lf} {us cs:List Value} {vs:List Vl},shV sh ls=some vs→G7 s g w ls cs→ShR sh us cs→VLR s g w vs us
 | [],[],us,cs,vs,h,_,hS=>by simp only [shV] at h; cases h; obtain ⟨rfl,rfl⟩:=hS; trivial
 | [],_::_,us,cs,vs,h,hL,hS=>by simp [shV] at h
 | none::sh,[],us,cs,vs,h,hL,hS=>by simp [shV] at h
 | none::sh,l::ls,us,cs,vs,h,hL,⟨u,us',cs',e1,e2,e3,hS⟩=>by
  simp only [shV] at h
  obtain ⟨r,h1,h2⟩:=Option.bind_eq_some_iff.1 h
  cases h2
  subst e1 e2
  exact ⟨hL.1,Aw1 h1 hL.2 hS⟩
 | some k::sh,ls,us,cs,vs,h,hL,⟨c1,us',cs',e1,e2,e3,hS⟩=>by
  simp only [shV] at h
  split at h
  ·obtain ⟨r,h1,h2⟩:=Option.bind_eq_some_iff.1 h
   cases h2
   subst e1 e2
   have hc:c1.toList.length=k:=by simpa using e3
   refine ⟨⟨c1,rfl,?_⟩,Aw1 h1 (cs:=cs') ?_ hS⟩
   ·have:=hL.take k
    rwa [List.take_left' hc] at this
   ·have:=hL.drop k
    rwa [List.drop_left' hc] at this
  ·cases h
theorem VLR.length:∀ {vs:List Vl} {us:List Value},VLR s g w vs us→us.length=vs.length
 | [],[],_=>rfl
 | [],_::_,h=>h.elim
 | _::_,[],h=>h.elim
 | _::_,_::_,h=>by simp [VLR.length h.2]
theorem VLR.get:∀ {vs:List Vl} {us:List Value} {j:Nat} {v:Vl},VLR s g w vs us→vs[j]?=some v→∃ u,us[j]?=some u∧VlR s g w v u
 | [],_,j,v,_,h=>by simp at h
 | _::_,[],_,_,h,_=>h.elim
 | x::vs,u::us,0,v,h,hj=>by simp at hj; subst hj; exact ⟨u,rfl,h.1⟩
 | x::vs,u::us,j + 1,v,h,hj=>by
  obtain ⟨u',e1,e2⟩:=VLR.get h.2 (j:=j) (by simpa using hj)
  exact ⟨u',by simpa using e1,e2⟩
theorem VLR.imp {s':St} {g':Gh} {w':World} (k:∀ v u,VlR s g w v u→VlR s' g' w' v u):∀ {vs:List Vl} {us:List Value},VLR s g w vs us→VLR s' g' w' vs us
 | [],[],_=>trivial
 | [],_::_,h=>h.elim
 | _::_,[],h=>h.elim
 | _::_,_::_,h=>⟨k _ _ h.1,VLR.imp k h.2⟩
theorem A0c {vs:List Vl} {us:List Value} (h:VLR s g w vs us):Uk s g w (Avh vs) (Aqr us):=by
 match vs,us,h with
 | [],[],_=>exact ⟨#[],rfl,rfl,fun j v hv=>by simp at hv⟩
 | [v],[u],h=>exact h.1
 | v::v'::vs,u::u'::us,h=>
  refine ⟨(u::u'::us).toArray,rfl,by simp [h.2.2.length],fun j x hx=>?_⟩
  obtain ⟨y,e1,e2⟩:=VLR.get h hx
  exact ⟨y,by simpa using e1,e2⟩
theorem Aev {w w':World} {S S':Nat→Prop}:∀ {t:Ty},Ahw t=true→∀ {x:t.D} {cs:List Value},t.K w S x cs→t.K w' S' x cs
 | .int _,_,_,_,h=>h
 | .bool,_,_,_,h=>h
 | .str,_,_,_,h=>h
 | .sl _,h,_,_,_=>by simp [Ahw] at h
 | .unit,_,_,_,h=>h
 | .pair a b,h,_,_,⟨c1,c2,e,h1,h2⟩=>by
  simp only [Ahw,Bool.and_eq_true] at h
  exact ⟨c1,c2,e,Aev h.1 h1,Aev h.2 h2⟩
theorem Akb {w w':World} {S S':Nat→Prop} {t:Ty} (ht:Ahw t=true) {xs:List t.D} {cs:List Value} (h:H8 w S t xs cs):H8 w' S' t xs cs:=
 ⟨h.1,fun i x hx=>Aev ht (h.2 i x hx)⟩
theorem Aew {w:World} {S S':Nat→Prop}:∀ {ms:List Md} {x:Tf ms} {us:List Value},(In ms=true∨∀ b,S b→b < w.heap.size→S' b)→HR w S ms x us→HR w S' ms x us
 | [],_,_,_,h=>h
 | .rd t::ms,x,us,hf,⟨c1,c2,e,h1,h2⟩=>by
  refine ⟨c1,c2,e,?_,Aew ?_ h2⟩
  ·rcases hf with hf | hf
   ·simp only [In,Bool.and_eq_true] at hf; exact Aev hf.1 h1
   ·exact Ty.K_keep (fun b hb hl=>⟨hf b hb hl,rfl⟩) h1
  ·exact hf.imp_left (fun q=>by simp only [In,Bool.and_eq_true] at q; exact q.2)
 | .own e t::ms,x,us,hf,⟨u,c2,e1,⟨cs,h1,h1'⟩,h2⟩=>by
  refine ⟨u,c2,e1,⟨cs,h1,?_⟩,Aew ?_ h2⟩
  ·rcases hf with hf | hf
   ·simp only [In,Bool.and_eq_true] at hf; exact Akb hf.1 h1'
   ·exact h1'.imp hf
  ·exact hf.imp_left (fun q=>by simp only [In,Bool.and_eq_true] at q; exact q.2)
 | .bx T t::ms,x,us,hf,⟨b,c2,e1,⟨cs,h1,h1'⟩,h2⟩=>by
  refine ⟨b,c2,e1,⟨cs,h1,?_⟩,Aew ?_ h2⟩
  ·rcases hf with hf | hf
   ·simp only [In,Bool.and_eq_true] at hf; exact Aev hf.1 h1'
   ·exact Ty.K_keep (fun b hb hl=>⟨hf b hb hl,rfl⟩) h1'
  ·exact hf.imp_left (fun q=>by simp only [In,Bool.and_eq_true] at q; exact q.2)
 | .mu e t::ms,x,us,hf,⟨u,c2,e1,⟨cs,h1,h1'⟩,h2⟩=>by
  refine ⟨u,c2,e1,⟨cs,h1,?_⟩,Aew ?_ h2⟩
  ·rcases hf with hf | hf
   ·simp only [In,Bool.and_eq_true] at hf; exact Akb hf.1 h1'
   ·exact h1'.imp hf
  ·exact hf.imp_left (fun q=>by simp only [In,Bool.and_eq_true] at q; exact q.2)
theorem i4 {w:World} {S S':Nat→Prop}:∀ {ms:List Md} {y:BxD ms} {us:List Value},(Nd ms=true∨∀ b,S b→b < w.heap.size→S' b)→BkR w S ms y us→BkR w S' ms y us
 | [],_,_,_,h=>h
 | .rd t::ms,y,us,hf,h=>i4 (ms:=ms) (hf.imp_left (fun q=>by simpa only [Nd] using q)) h
 | .own e t::ms,y,us,hf,h=>i4 (ms:=ms) (hf.imp_left (fun q=>by simpa only [Nd] using q)) h
 | .bx T t::ms,y,us,hf,⟨⟨b,e1,cs,h1,h1'⟩,h2⟩=>by
  refine ⟨⟨b,e1,cs,h1,?_⟩,i4 ?_ h2⟩
  ·rcases hf with hf | hf
   ·simp only [Nd,Bool.and_eq_true] at hf; exact Aev hf.1 h1'
   ·exact Ty.K_keep (fun b hb hl=>⟨hf b hb hl,rfl⟩) h1'
  ·exact hf.imp_left (fun q=>by simp only [Nd,Bool.and_eq_true] at q; exact q.2)
 | .mu e t::ms,y,us,hf,⟨⟨u,e1,cs,h1,h1'⟩,h2⟩=>by
  refine ⟨⟨u,e1,cs,h1,?_⟩,i4 ?_ h2⟩
  ·rcases hf with hf | hf
   ·simp only [Nd,Bool.and_eq_true] at hf; exact Akb hf.1 h1'
   ·exact h1'.imp hf
  ·exact hf.imp_left (fun q=>by simp only [Nd,Bool.and_eq_true] at q; exact q.2)
theorem Akc:∀ {k nid:Nat},Oo s nid k=true→∀ j,nid≤j→j < nid + k→s.res j=.unborn
 | 0,nid,_,j,h1,h2=>by omega
 | k + 1,nid,h,j,h1,h2=>by
  simp only [Oo,Bool.and_eq_true] at h
  by_cases q:j=nid
  ·subst q
   have:=h.1
   split at this
   ·assumption
   ·cases this
  ·exact Akc h.2 j (by omega) (by omega)
theorem Akd {ls:List Lf}:∀ {s:St} {id:Nat},((s.frz ls).res id).live=true→(s.res id)=(s.frz ls).res id:=by
 induction ls with
 | nil=>intro s id _; rfl
 | cons l r ih=>
  intro s id h
  cases l with
  | row j=>
   unfold St.frz at h ⊢
   split at h
   ·rename_i e t xs hr
    have:=ih h
    by_cases q:id=j
    ·subst q
     rw [Ao] at this
     rw [← this] at h
     cases h
    ·rw [Aq s _ q] at this
     exact this
   ·rename_i e t xs c k hr
    cases hk:s.res k with
    | row e' t' ys=>
     simp only [hk] at h ⊢
     split at h
     ·rename_i ht
      simp only [ht,dif_pos] at h ⊢
      have:=ih h
      by_cases q:id=j
      ·subst q
       rw [Ao] at this
       rw [← this] at h
       cases h
      ·rw [Aq _ _ q] at this
       by_cases q2:id=k
       ·subst q2
        rw [Ao] at this
        rw [← this] at h
        cases h
       ·rw [Aq _ _ q2] at this
        exact this
     ·rename_i ht
      simp only [ht,dif_neg,not_false_eq_true] at h ⊢
      exact ih h
    | unborn=>simp only [hk] at h ⊢; exact ih h
    | dead=>simp only [hk] at h ⊢; exact ih h
    | box T ls=>simp only [hk] at h ⊢; exact ih h
    | frozen t xs=>simp only [hk] at h ⊢; exact ih h
    | last _ _ _ _ _=>simp only [hk] at h ⊢; exact ih h
    | map _ _=>simp only [hk] at h ⊢; exact ih h
    | iter _ _ _ _=>simp only [hk] at h ⊢; exact ih h
   ·exact ih h
  | _=>exact ih h
theorem A0d (h:B8 n B Iq s g a w) {w':World} {ps rs:List Md} {ow:List (Option Nat)} {nid:Nat} {r:Tf rs×BxD ps} {us us':List Value}
  (hlive:∀ id∈Bh ow,(s.res id).live=true) (hfresh:∀ j,nid≤j→j < nid + Ks rs→s.res j=.unborn) (hk:Jr (n9 g ow) w w')
  (hnd:(E5 rs us'++Wn ps us).Nodup) (hnew:∀ b∈E5 rs us',b < w'.heap.size∧(b∈n9 g ow∨w.heap.size≤b))
  (s2:St) (g2:Gh) (hs2:s2=⟨s.cell,Ls rs r.1 nid (Ln ps r.2 ow s.res)⟩) (hg2:g2=Jq rs us' nid ⟨Rc ps ow g.blk,g.hdr,g.av⟩)
  (hback:∀ id∈Bh ow,Re s g w us ps s2 g2 w' id) (hH:HR w' (Eu s2 g2) rs r.1 us'):
  B8 n B Iq s2 g2 a w'∧Go B Iq s g w s2 g2 w'∧G7 s2 g2 w' (Aqs rs r.1 nid) us':=by
 have hav:g2.av=g.av:=by rw [hg2]; exact Wo _ _ _ _
 have hin:∀ j,nid≤j→j < nid + Ks rs→j ∉ Bh ow:=by
  intro j h1 h2 h3
  have:=hlive j h3
  rw [hfresh j h1 h2] at this
  cases this
 have hother:∀ j,¬ (nid≤j∧j < nid + Ks rs)→j ∉ Bh ow→s2.res j=s.res j∧g2.blk j=g.blk j∧g2.hdr j=g.hdr j:=by
  intro j h1 h2
  have hj:j < nid∨nid + Ks rs≤j:=by omega
  subst hs2 hg2
  refine ⟨?_,?_,?_⟩
  ·exact (H9 rs r.1 nid _ j hj).trans (E3 h2)
  ·exact (Cn rs us' nid _ j hj).1.trans (Ff h2)
  ·exact (Cn rs us' nid _ j hj).2
 have hsomes:∀ j,j∈Bh ow→¬ (nid≤j∧j < nid + Ks rs):=fun j h1 h2=>hin j h2.1 h2.2 h1
 obtain ⟨hL,hR⟩:=Aox (s:=s2) (g:=g2) (w:=w') (fun b hb _=>hb) rs r.1 us' nid (Ln ps r.2 ow s.res) ⟨Rc ps ow g.blk,g.hdr,g.av⟩ hH (fun j h1 h2=>by
  rw [hs2,hg2]; exact ⟨rfl,rfl,rfl⟩)
 have hblkin:∀ j b,nid≤j→j < nid + Ks rs→g2.blk j=some b→b∈E5 rs us':=fun j b h1 h2 h3=>by rw [hg2] at h3; exact K9 rs us' nid _ j b h1 h2 h3
 have hown:∀ b,b∈n9 g ow→∃ id,id∈Bh ow∧g.blk id=some b∧(s.res id).live=true:=fun b hb=>by
  obtain ⟨id,h1,h2⟩:=Qw.1 hb
  exact ⟨id,h1,h2,hlive id h1⟩
 have hSn:∀ b,Eu s g b→b ∉ n9 g ow:=fun b hb hq=>by
  obtain ⟨id,h1,h2,h3⟩:=hown b hq
  exact hb.2 id h3 h2
 have hS:∀ b,Eu s g b→b < w.heap.size→Eu s2 g2 b∧w'.heap[b]?=w.heap[b]?:=by
  intro b hb hlt
  refine ⟨⟨by rw [hav]; exact hb.1,fun j hj hjb=>?_⟩,hk.block b hlt (hSn b hb)⟩
  by_cases q1:nid≤j∧j < nid + Ks rs
  ·have:=hblkin j b q1.1 q1.2 hjb
   rcases (hnew b this).2 with q | q
   ·exact hSn b hb q
   ·omega
  ·by_cases q2:j∈Bh ow
   ·cases hback j q2 with
    | gone e1 e2=>rw [e2] at hjb; cases hjb
    | box T l b' e0 e1 e2 e3 e4 e5=>
     rw [e2] at hjb
     exact hb.2 j (hlive j q2) hjb
    | row e t xs e0 e1 e2 e3 e4 e5=>
     rw [e2] at hjb
     exact hb.2 j (hlive j q2) hjb
   ·obtain ⟨e1,e2,_⟩:=hother j q1 q2
    rw [e1] at hj
    rw [e2] at hjb
    exact hb.2 j hj hjb
 have hI:∀ j,A4 s g s2 g2 j:=by
  intro j
  by_cases q1:nid≤j∧j < nid + Ks rs
  ·unfold A4
   rw [hfresh j q1.1 q1.2]
   exact .inr trivial
  ·by_cases q2:j∈Bh ow
   ·cases hback j q2 with
    | gone e1 e2=>exact .inl e1
    | box T l b' e0 e1 e2 e3 e4 e5=>
     obtain ⟨T',l',e0⟩:=e0
     unfold A4
     rw [e0]
     exact .inr ⟨T,l,e1,e2⟩
    | row e t xs e0 e1 e2 e3 e4 e5=>
     obtain ⟨e',xs',e0,el⟩:=e0
     unfold A4
     rw [e0]
     exact .inr (.inl ⟨e,xs,e1,el,e3,e2⟩)
   ·obtain ⟨e1,e2,e3⟩:=hother j q1 q2
    exact A4.same e1 e2 e3
 refine ⟨?_,?_,hL⟩
 ·refine h.step h.size h.defers hk.size hS hI (fun i=>.inl ⟨by rw [hs2],rfl⟩) (fun j=>?_) (fun i j b hi hj=>?_) (fun i b hi=>?_) hav
  ·by_cases q1:nid≤j∧j < nid + Ks rs
   ·exact .inr (hR j q1.1 q1.2).1
   ·by_cases q2:j∈Bh ow
    ·right
     cases hback j q2 with
     | gone e1 e2=>rw [e1]; exact e2
     | box T l b' e0 e1 e2 e3 e4 e5=>rw [e1]; exact e5
     | row e t xs e0 e1 e2 e3 e4 e5=>rw [e1]; exact e5
    ·obtain ⟨e1,e2,e3⟩:=hother j q1 q2
     refine .inl ⟨e1,e2,e3,fun b hb=>hk.block b (h.lt j b hb).1 (fun hq=>?_)⟩
     obtain ⟨id,h1,h2,h3⟩:=hown b hq
     exact q2 (by rw [h.inj j id b hb h2]; exact h1)
  ·have cl:∀ j b,g2.blk j=some b→(nid≤j∧j < nid + Ks rs)∨(j∈Bh ow∧g.blk j=some b∧b∈Wn ps us)∨(¬ (nid≤j∧j < nid + Ks rs)∧j ∉ Bh ow∧g.blk j=some b):=by
    intro j b hb
    by_cases q1:nid≤j∧j < nid + Ks rs
    ·exact .inl q1
    ·by_cases q2:j∈Bh ow
     ·cases hback j q2 with
      | gone e1 e2=>rw [e2] at hb; cases hb
      | box T l b' e0 e1 e2 e3 e4 e5=>
       rw [e2] at hb
       rw [e3] at hb
       cases hb
       exact .inr (.inl ⟨q2,e3,e4⟩)
      | row e t xs e0 e1 e2 e3 e4 e5=>
       rw [e2] at hb
       exact .inr (.inl ⟨q2,hb,e4 b hb⟩)
     ·exact .inr (.inr ⟨q1,q2,by rw [← (hother j q1 q2).2.1]; exact hb⟩)
   have nd:=List.nodup_append.1 hnd
   have far:∀ i j b,(nid≤i∧i < nid + Ks rs)→g2.blk i=some b→j ∉ Bh ow→g.blk j=some b→False:=by
    intro i j b q1 hi q2 hj
    rcases (hnew b (hblkin i b q1.1 q1.2 hi)).2 with q | q
    ·obtain ⟨id,h1,h2,h3⟩:=hown b q
     exact q2 (by rw [h.inj j id b hj h2]; exact h1)
    ·have:=(h.lt j b hj).1
     omega
   rcases cl i b hi with qi | ⟨i1,i2,i3⟩ | ⟨i1,i2,i3⟩<;>rcases cl j b hj with qj | ⟨j1,j2,j3⟩ | ⟨j1,j2,j3⟩
   ·rw [hg2] at hi hj
    exact U3 rs us' nid _ i j b nd.1 qi.1 qi.2 qj.1 qj.2 hi hj
   ·exact absurd rfl (nd.2.2 b (hblkin i b qi.1 qi.2 hi) b j3)
   ·exact (far i j b qi hi j2 j3).elim
   ·exact absurd rfl (nd.2.2 b (hblkin j b qj.1 qj.2 hj) b i3)
   ·exact h.inj i j b i2 j2
   ·exact h.inj i j b i2 j3
   ·exact (far j i b qj hj i2 i3).elim
   ·exact h.inj i j b i3 j2
   ·exact h.inj i j b i3 j3
  ·by_cases q1:nid≤i∧i < nid + Ks rs
   ·have hb:=hblkin i b q1.1 q1.2 hi
    obtain ⟨k1,k2⟩:=hnew b hb
    refine ⟨k1,?_⟩
    rcases k2 with k2 | k2
    ·obtain ⟨id,h1,h2,h3⟩:=hown b k2
     exact (h.lt id b h2).2
    ·refine ⟨.inr (by have:=h.base; omega),fun q=>?_⟩
     have:=h.avB b q
     have:=h.base
     omega
   ·have hb:g.blk i=some b:=by
     by_cases q2:i∈Bh ow
     ·cases hback i q2 with
      | gone e1 e2=>rw [e2] at hi; cases hi
      | box T l b' e0 e1 e2 e3 e4 e5=>rw [e2] at hi; exact hi
      | row e t xs e0 e1 e2 e3 e4 e5=>rw [e2] at hi; exact hi
     ·rw [← (hother i q1 q2).2.1]; exact hi
    obtain ⟨k1,k2⟩:=h.lt i b hb
    exact ⟨Nat.lt_of_lt_of_le k1 hk.size,k2⟩
 ·refine ⟨⟨hk.os,hk.tape,hk.output,hk.size,fun k hkB hkI=>?_⟩,hS,hI,hav⟩
  refine hk.block k (by have:=h.base; omega) (fun hq=>?_)
  obtain ⟨id,h1,h2,h3⟩:=hown k hq
  rcases (h.lt id k h2).2.1 with q | q
  ·exact hkI q
  ·omega
theorem Aex {g g':Gh}:∀ {ow:List (Option Nat)},(∀ id∈Bh ow,g'.blk id=g.blk id)→n9 g' ow=n9 g ow
 | [],_=>rfl
 | none::r,h=>by simp only [n9,Option.bind_none]; rw [Aex (ow:=r) h]
 | some i::r,h=>by
  simp only [Bh,List.mem_cons,forall_eq_or_imp] at h
  simp only [n9,Option.bind_some,h.1]
  rw [Aex (ow:=r) h.2]
theorem A2k {s':St} {g':Gh} (hI:∀ id,A4 s g s' g' id) {id:Nat} (hl:(s'.res id).live=true) (he:s.res id=s'.res id):g'.blk id=g.blk id:=by
 have r:=hI id
 unfold A4 at r
 rcases r with r | r
 ·rw [r] at hl; cases hl
 ·cases hs:s.res id with
  | unborn=>rw [← he,hs] at hl; cases hl
  | dead=>rw [← he,hs] at hl; cases hl
  | frozen t xs=>rw [← he,hs] at hl; cases hl
  | box T ls=>rw [hs] at r; obtain ⟨_,_,_,e⟩:=r; exact e
  | row e t xs=>
   rw [hs] at r
   rcases r with ⟨_,_,_,_,_,e⟩ | ⟨_,_,e,_⟩
   ·exact e
   ·rw [← he,hs] at e; cases e
  | last e t xs c j=>
   rw [hs] at r
   rcases r with ⟨_,_,_,_,_,_,_,_,e⟩ | ⟨_,_,e,_⟩
   ·exact e
   ·rw [← he,hs] at e; cases e
  | map t xs=>rw [hs] at r; obtain ⟨_,_,_,_,e⟩:=r; exact e
  | iter t xs seen cur=>rw [hs] at r; obtain ⟨_,_,_,_,_,_,e⟩:=r; exact e
theorem A2l {s':St} {g':Gh} (hI:∀ id,A4 s g s' g' id) {id:Nat} {e:TypeId} {t:Ty} {xs:List t.D} (hl:s'.res id=.row e t xs) (he:s.res id=s'.res id):g'.hdr id=g.hdr id:=by
 have r:=hI id
 unfold A4 at r
 rcases r with r | r
 ·rw [r] at hl; cases hl
 ·rw [he,hl] at r
  rcases r with ⟨_,_,_,_,e,_⟩ | ⟨_,_,_,e⟩
  ·exact e
  ·exact e
theorem Rf (hres:∀ id,K8 s g w id (s.res id)):∀ {ms:List Md} {ls:List Lf} {us:List Value} {x:Tf ms} {y:BxD ms} {ow:List (Option Nat)} {res:Nat→Res},
  Of s ms ls=some (x,ow)→G7 s g w ls us→(Bh ow).Nodup→∀ id∈Bh ow,Ln ms y ow res id=.dead∨∀ b,g.blk id=some b→b∈Wn ms us
 | [],[],us,x,y,ow,res,h,hL,hn,id,hid=>by
  simp only [Of] at h
  cases h
  simp [Bh] at hid
 | [],_::_,us,x,y,ow,res,h,hL,hn,id,hid=>by simp [Of] at h
 | .rd t::ms,ls,us,x,y,ow,res,h,hL,hn,id,hid=>by
  simp only [Of] at h
  obtain ⟨p,h1,h2⟩:=Option.bind_eq_some_iff.1 h
  obtain ⟨q,h3,h4⟩:=Option.bind_eq_some_iff.1 h2
  cases h4
  have e1:p.2=ls.drop t.sz:=St.parse_drop (x:=p.1) (r:=p.2) h1
  exact Rf hres (ms:=ms) (us:=us.drop t.sz) (y:=y) h3 (by rw [e1]; exact hL.drop _) hn id hid
 | .own e t::ms,[],us,x,y,ow,res,h,hL,hn,id,hid=>by simp [Of] at h
 | .own e t::ms,l::ls,[],x,y,ow,res,h,hL,hn,id,hid=>hL.elim
 | .own e t::ms,l::ls,u::us,x,y,ow,res,h,hL,hn,id,hid=>by
  simp only [Of] at h
  obtain ⟨p,h1,h2⟩:=Option.bind_eq_some_iff.1 h
  obtain ⟨q,h3,h4⟩:=Option.bind_eq_some_iff.1 h2
  cases h4
  cases hp:p.1 with
  | none=>
   rw [hp] at hid hn
   exact Rf hres (ms:=ms) (y:=y) h3 hL.2 hn id hid
  | some j=>
   rw [hp] at hid hn
   simp only [Bh,List.nodup_cons] at hn
   simp only [Bh,List.mem_cons] at hid
   rcases hid with rfl | hid
   ·exact .inl ((E3 (ms:=ms) (y:=y) hn.1).trans (A9 _ _ _))
   ·exact Rf hres (ms:=ms) (y:=y) h3 hL.2 hn.2 id hid
 | .bx T t::ms,[],us,x,y,ow,res,h,hL,hn,id,hid=>by simp [Of] at h
 | .bx T t::ms,.c _::ls,us,x,y,ow,res,h,hL,hn,id,hid=>by simp [Of] at h
 | .bx T t::ms,.sl _ _::ls,us,x,y,ow,res,h,hL,hn,id,hid=>by simp [Of] at h
 | .bx T t::ms,.row _::ls,us,x,y,ow,res,h,hL,hn,id,hid=>by simp [Of] at h
 | .bx T t::ms,.ep _ _ _ _::ls,us,x,y,ow,res,h,hL,hn,id,hid=>by simp [Of] at h
 | .bx T t::ms,.rp _ _ _::ls,us,x,y,ow,res,h,hL,hn,id,hid=>by simp [Of] at h
 | .bx T t::ms,.sp _::ls,us,x,y,ow,res,h,hL,hn,id,hid=>by simp [Of] at h
 | .bx T t::ms,.ptr j off::ls,[],x,y,ow,res,h,hL,hn,id,hid=>hL.elim
 | .bx T t::ms,.ptr j off::ls,u::us,x,y,ow,res,h,hL,hn,id,hid=>by
  simp only [Of] at h
  split at h
  ·rename_i T' bl hr
   split at h
   ·rename_i hT
    split at h
    ·rename_i ho
     split at h
     ·rename_i z hp
      obtain ⟨q,h3,h4⟩:=Option.bind_eq_some_iff.1 h
      cases h4
      subst hT ho
      have hl:=hL.1.1
      simp only [Dq,hr] at hl
      obtain ⟨b,hb,hu⟩:=hl
      subst hu
      simp only [Bh,List.nodup_cons] at hn
      simp only [Bh,List.mem_cons] at hid
      rcases hid with rfl | hid
      ·exact .inr fun b' hb'=>by rw [hb] at hb'; cases hb'; simp [Wn,Pm]
      ·rcases Rf hres (ms:=ms) (y:=y.2) (res:=S9 res j (.box T' (t.leafs y.1))) h3 hL.2 hn.2 id hid with q | q
       ·exact .inl q
       ·exact .inr fun b' q1=>by simp only [Wn,List.tail_cons]; exact List.mem_append_right _ (q b' q1)
     ·cases h
    ·cases h
   ·cases h
  ·cases h
 | .mu e t::ms,[],us,x,y,ow,res,h,hL,hn,id,hid=>by simp [Of] at h
 | .mu e t::ms,l::ls,[],x,y,ow,res,h,hL,hn,id,hid=>hL.elim
 | .mu e t::ms,l::ls,u::us,x,y,ow,res,h,hL,hn,id,hid=>by
  simp only [Of] at h
  obtain ⟨p,h1,h2⟩:=Option.bind_eq_some_iff.1 h
  obtain ⟨q,h3,h4⟩:=Option.bind_eq_some_iff.1 h2
  cases h4
  have up:∀ {r1:Prop},(r1∨∀ b,g.blk id=some b→b∈Wn ms us)→(r1∨∀ b,g.blk id=some b→b∈Wn (.mu e t::ms) (u::us)):=fun h=>h.imp_right fun q b hb=>by simp only [Wn,List.tail_cons]; exact List.mem_append_right _ (q b hb)
  obtain ⟨k1,k2,k3⟩:=Y0 hres h1 hL.1.1
  cases hp:p.1 with
  | none=>
   rw [hp] at hid hn
   exact up (Rf hres (ms:=ms) (y:=y.2) h3 hL.2 hn id hid)
  | some j=>
   rw [hp] at hid hn
   simp only [Bh,List.nodup_cons] at hn
   simp only [Bh,List.mem_cons] at hid
   rcases hid with rfl | hid
   ·rw [hp] at k2
    refine .inr fun b hb=>?_
    have:u.ownBlock=some b:=k2.trans hb
    simp only [Wn,List.head?_cons,Option.bind_some]
    exact List.mem_append_left _ (Eb this)
   ·exact up (Rf hres (ms:=ms) (y:=y.2) (res:=S9 res j (.row e t y.1)) h3 hL.2 hn.2 id hid)
theorem Ao0 (h:B8 n B Iq s g a w) {f:FuncId} {sg:Sig} {den:Tf sg.ps→Option (Tf sg.rs×BxD sg.ps)} (hf:Yz P f sg den) {vs:List Vl} {args:List Value} (hv:VLR s g w vs args)
  {nid:Nat} {av:AV} {s':St} (e:Aaf sg den s nid vs=some (av,s')):
  Calls P f args.toArray w fun e w'=>∃ v g',e=.returned v∧Go B Iq s g w s' g' w'∧B8 n B Iq s' g' a w'∧Uk s' g' w' av v:=by
 unfold Aaf at e
 obtain ⟨ls,e1,e⟩:=Option.bind_eq_some_iff.1 e
 obtain ⟨⟨x,ow⟩,e2,e⟩:=Option.bind_eq_some_iff.1 e
 dsimp only at e
 split at e
 ·rename_i hnd
  generalize hsA:(if (In sg.rs&&Nd sg.ps)=true then s else s.frz (Kh s sg.ps ls))=sA0 at e
  split at e
  ·rename_i hfr
   obtain ⟨r,e3,e⟩:=Option.bind_eq_some_iff.1 e
   obtain ⟨vs',e4,e⟩:=Option.bind_eq_some_iff.1 e
   cases e
   obtain ⟨cs,hsh,hL⟩:=Aw0 e1 hv
   obtain ⟨gF,hF,goF,hlf⟩:=E9 (ls:=Kh s sg.ps ls) h
   have hLF:=hL.imp hlf
   obtain ⟨h1,h2,h3⟩:=Aoz hF.res e2 hLF
   have hnod:=Ace hnd
   have hown:A34 w (Eu (s.frz (Kh s sg.ps ls)) gF) (E5 sg.ps cs):=by
    rw [h2]
    refine ⟨g9 hF.inj hnod,fun b hb=>?_⟩
    obtain ⟨id,q1,q2⟩:=Qw.1 hb
    exact ⟨(hF.lt id b q2).1,fun q=>q.2 id (h3 id q1) q2⟩
   refine Calls.mono (hf x r e3 w _ cs args h1 hsh hown) fun en w'=>?_
   rintro ⟨us,us',rfl,hsh',hk,hH,hB,hN,hnew⟩
   rw [h2] at hk hH hB hnew
   have key:∀ (sA:St) (gA:Gh),B8 n B Iq sA gA a w→Go B Iq s g w sA gA w→(∀ id∈Bh ow,sA.res id=(s.frz (Kh s sg.ps ls)).res id∧gA.blk id=gF.blk id∧(∀ e,∀ t:Ty,∀ xs:List t.D,(s.frz (Kh s sg.ps ls)).res id=.row e t xs→gA.hdr id=gF.hdr id))→Oo sA nid (Ks sg.rs)=true→
     ((In sg.rs=true∧Nd sg.ps=true)∨(sA=s.frz (Kh s sg.ps ls)∧gA=gF))→
     ∃ g',Go B Iq s g w ⟨sA.cell,Ls sg.rs r.1 nid (Ln sg.ps r.2 ow sA.res)⟩ g' w'∧B8 n B Iq ⟨sA.cell,Ls sg.rs r.1 nid (Ln sg.ps r.2 ow sA.res)⟩ g' a w'∧Uk ⟨sA.cell,Ls sg.rs r.1 nid (Ln sg.ps r.2 ow sA.res)⟩ g' w' (Avh vs') (Aqr us):=by
    intro sA gA hA goA hag hfresh hcase
    have hfresh':=Akc hfresh
    have hliveA:∀ id∈Bh ow,(sA.res id).live=true:=fun id hid=>by rw [(hag id hid).1]; exact h3 id hid
    have hout:∀ id∈Bh ow,id < nid∨nid + Ks sg.rs≤id:=fun id hid=>by
     rcases Nat.lt_or_ge id nid with q | q
     ·exact .inl q
     ·rcases Nat.lt_or_ge id (nid + Ks sg.rs) with q2 | q2
      ·have:=hliveA id hid
       rw [hfresh' id q q2] at this
       cases this
      ·exact .inr q2
    have hbl:n9 gF ow=n9 gA ow:=Aex (fun id hid=>(hag id hid).2.1.symm)
    rw [hbl] at hk hH hB hnew
    generalize hs2:(⟨sA.cell,Ls sg.rs r.1 nid (Ln sg.ps r.2 ow sA.res)⟩:St)=s2
    generalize hg2:Jq sg.rs us' nid ⟨Rc sg.ps ow gA.blk,gA.hdr,gA.av⟩=g2
    have hag2:∀ id∈Bh ow,s2.res id=Ln sg.ps r.2 ow sA.res id∧g2.blk id=Rc sg.ps ow gA.blk id∧gA.blk id=gF.blk id∧(∀ e,∀ t:Ty,∀ xs:List t.D,(s.frz (Kh s sg.ps ls)).res id=.row e t xs→g2.hdr id=gF.hdr id):=fun id hid=>by
     refine ⟨?_,?_,(hag id hid).2.1,?_⟩
     ·rw [← hs2]; exact H9 _ _ _ _ _ (hout id hid)
     ·rw [← hg2]; exact (Cn _ _ _ _ _ (hout id hid)).1
     ·intro e t xs hr
      rw [← hg2]; exact (Cn _ _ _ _ _ (hout id hid)).2.trans ((hag id hid).2.2 e t xs hr)
    have hav:g2.av=gA.av:=by rw [← hg2]; exact Wo _ _ _ _
    have hback0:∀ id∈Bh ow,Re (s.frz (Kh s sg.ps ls)) gF w cs sg.ps s2 g2 w' id→Re sA gA w cs sg.ps s2 g2 w' id:=by
     intro id hid hb
     obtain ⟨q1,q2,q3⟩:=hag id hid
     cases hb with
     | gone a b=>exact .gone a b
     | box T l b a1 a2 a3 a4 a5 a6=>exact .box T l b (by rw [q1]; exact a1) a2 (by rw [q2]; exact a3) (by rw [q2]; exact a4) a5 a6
     | row e1 t1 xs a1 a2 a3 a4 a5 a6=>
      obtain ⟨e',xs',c1,c2⟩:=a1
      exact .row e1 t1 xs ⟨e',xs',by rw [q1]; exact c1,c2⟩ a2 (by rw [q2]; exact a3) (by rw [q3 _ _ _ c1]; exact a4) (by rw [q2]; exact a5) a6
    have hbox:∀ id∈Bh ow,∀ b,(s2.res id).live=true→g2.blk id=some b→b∈Wn sg.ps cs:=by
     intro id hid b hl hb
     obtain ⟨p1,p2,p3,_⟩:=hag2 id hid
     rcases Rf hF.res (y:=r.2) (res:=sA.res) e2 hLF hnod id hid with q | q
     ·rw [p1,q] at hl; cases hl
     ·rw [p2] at hb
      have:=Mk hb
      rw [p3] at this
      exact q b this
    have hSin:(In sg.rs=true∧Nd sg.ps=true)∨∀ b,Ag0 w (Eu (s.frz (Kh s sg.ps ls)) gF) (n9 gA ow) (E5 sg.rs us'++Wn sg.ps cs) b→Eu s2 g2 b:=by
     rcases hcase with q | ⟨rfl,rfl⟩
     ·exact .inl q
     ·right
      rintro b ⟨k1,k2⟩
      have hnav:¬ gA.av b:=by
       rcases k1 with k1 | k1 | k1
       ·exact k1.1
       ·obtain ⟨id,q1,q2⟩:=Qw.1 k1
        exact (hA.lt id b q2).2.2
       ·intro q
        have:=hA.avB b q
        have:=hA.base
        omega
      refine ⟨by rw [hav]; exact hnav,fun j hj hjb=>?_⟩
      simp only [List.mem_append,not_or] at k2
      by_cases q1:nid≤j∧j < nid + Ks sg.rs
      ·rw [← hg2] at hjb
       exact k2.1 (K9 _ _ _ _ j b q1.1 q1.2 hjb)
      ·by_cases q2:j∈Bh ow
       ·exact k2.2 (hbox j q2 b hj hjb)
       ·have hj':j < nid∨nid + Ks sg.rs≤j:=by omega
        rw [← hs2] at hj
        rw [← hg2,(Cn _ _ _ _ _ hj').1] at hjb
        have hjb:=(Ff q2).symm.trans hjb
        have:Ls sg.rs r.1 nid (Ln sg.ps r.2 ow (s.frz (Kh s sg.ps ls)).res) j=(s.frz (Kh s sg.ps ls)).res j:=(H9 _ _ _ _ _ hj').trans (E3 q2)
        simp only [this] at hj
        rcases k1 with k1 | k1 | k1
        ·exact k1.2 j hj hjb
        ·obtain ⟨id,p1,p2⟩:=Qw.1 k1
         exact q2 (by rw [hA.inj j id b hjb p2]; exact p1)
        ·have:=(hA.lt j b hjb).1
         omega
    have hH2:=Aew (hSin.imp (fun q=>q.1) (fun q b hb _=>q b hb)) hH
    have hB2:=i4 (hSin.imp (fun q=>q.2) (fun q b hb _=>q b hb)) hB
    have hback:=fun id hid=>hback0 id hid (Aae hF.res e2 hLF hnod hB2 hag2 id hid)
    obtain ⟨f1,f2,f3⟩:=A0d hA hliveA hfresh' hk hN hnew s2 g2 hs2.symm hg2.symm hback hH2
    exact ⟨g2,goA.trans f2,f1,A0c (Aw1 e4 f3 hsh')⟩
   have fin:∃ g',Go B Iq s g w ⟨sA0.cell,Ls sg.rs r.1 nid (Ln sg.ps r.2 ow sA0.res)⟩ g' w'∧B8 n B Iq ⟨sA0.cell,Ls sg.rs r.1 nid (Ln sg.ps r.2 ow sA0.res)⟩ g' a w'∧Uk ⟨sA0.cell,Ls sg.rs r.1 nid (Ln sg.ps r.2 ow sA0.res)⟩ g' w' (Avh vs') (Aqr us):=by
    by_cases hfl:(In sg.rs&&Nd sg.ps)=true
    ·rw [if_pos hfl] at hsA
     subst hsA
     simp only [Bool.and_eq_true] at hfl
     exact key s g h (Go.refl B Iq s g w) (fun id hid=>⟨Akd (h3 id hid),(A2k goF.ref (h3 id hid) (Akd (h3 id hid))).symm,fun e t xs hr=>(A2l goF.ref hr (Akd (h3 id hid))).symm⟩) hfr (.inl hfl)
    ·rw [if_neg hfl] at hsA
     subst hsA
     exact key _ gF hF goF (fun id hid=>⟨rfl,rfl,fun _ _ _ _=>rfl⟩) hfr (.inr ⟨rfl,rfl⟩)
   obtain ⟨g',q1,q2,q3⟩:=fin
   exact ⟨Aqr us,g',rfl,q1,q2,q3⟩
  ·cases e
 ·cases e
end
end Go.Proofs.YtfkefgbihlfjmaaGreat.R

