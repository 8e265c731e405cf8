/- A function's body, evaluated, and its contract. No condition. -/
import Derived.Test.YtfkefgbihlfjmaaGreatRCode
namespace Go.Proofs.YtfkefgbihlfjmaaGreat.R
open Go Go.RowKit
set_option linter.unusedVariables false
set_option linter.unusedSimpArgs false
def o8 (s:St):List Md→Nat→List Lf
 | [],_=>[]
 | .rd _::ps,id=>o8 s ps id
 | .own _ _::ps,id=>o8 s ps (id + 1)
 | .bx _ _::ps,id=>(match s.res id with | .box _ ls=>ls | _=>[])++o8 s ps (id + 1)
 | .mu _ _::ps,id=>o8 s ps (id + 1)
def bkD (s:St):(ps:List Md)→Nat→Option (BxD ps)
 | [],_=>some ()
 | .rd _::ps,id=>bkD s ps id
 | .own _ _::ps,id=>bkD s ps (id + 1)
 | .bx T t::ps,id=>match s.res id with
  | .box T' ls=>if T'=T then (match s.parse t ls with
   | some (z,[])=>(bkD s ps (id + 1)).bind fun q=>some (z,q)
   | _=>none) else none
  | _=>none
 | .mu e t::ps,id=>match s.res id with
  | .row e' t' xs=>if e'=e then (if h:t'=t then (bkD s ps (id + 1)).bind fun q=>some (h ▸ xs,q) else none) else none
  | _=>none
def Iv:List Md→Nat→List Nat
 | [],_=>[]
 | .rd _::ps,id=>Iv ps id
 | .own _ _::ps,id=>Iv ps (id + 1)
 | .bx _ _::ps,id=>id::Iv ps (id + 1)
 | .mu _ _::ps,id=>id::Iv ps (id + 1)
def fin (P:Program) (sg:Sig) (rv:List ResultVar):Kt (Tf sg.rs×BxD sg.ps):=fun e s nid=>match e with
 | .exit _=>none
 | _=>match Pc P s rv with
  | none=>none
  | some vs=>match shL sg.rsh vs with
   | none=>none
   | some ls=>
    let sF:=s.frz (Kh s sg.rs ls++o8 s sg.ps 0)
    match Of sF sg.rs ls with
    | none=>none
    | some q=>match bkD sF sg.ps 0 with
     | none=>none
     | some z=>bif Rb (Bh q.2++Iv sg.ps 0) then some (q.1,z) else none
def Ba (fn:Func):Code:=match fn.body with
 | some c=>c
 | none=>.skip
def Wz (sg:Sig) (x:Tf sg.ps) (vs:List Vl):St:=⟨fun i=>match vs[i]? with | some v=>.vl v | none=>.dead,Ls sg.ps x 0 (fun _=>.unborn)⟩
def A09 (P:Program) (sigs:Tb) (pat:Nat→Pat×(Nat→Pat)) (sg:Sig) (fn:Func) (L:Lt (Tf sg.rs×BxD sg.ps) pat) (x:Tf sg.ps):Option (Tf sg.rs×BxD sg.ps):=
 match fn.body,shV sg.psh (Aqs sg.ps x 0) with
 | some c,some vs=>bif Nat.ble vs.length fn.ntmps then ev P ⟨sigs,Ks sg.ps,fn.ntmps,pat⟩ L c (Wz sg x vs) (Ks sg.ps) (fin P sg fn.results.toList) else none
 | _,_=>none
section
variable {P:Program} {n B:Nat} {Iq:List Nat} {s:St} {g:Gh} {a:Act} {w:World}
theorem Zc:∀ {ps:List Md} {id j:Nat},j∈Iv ps id→id≤j∧j < id + Ks ps
 | [],_,_,h=>by simp [Iv] at h
 | .rd _::ps,id,j,h=>Zc (ps:=ps) h
 | .own _ _::ps,id,j,h=>by
  have:=Zc (ps:=ps) h
  simp only [Ks]
  omega
 | .bx _ _::ps,id,j,h=>by
  simp only [Iv,List.mem_cons] at h
  simp only [Ks]
  rcases h with rfl | h
  ·omega
  ·have:=Zc (ps:=ps) h
   omega
 | .mu _ _::ps,id,j,h=>by
  simp only [Iv,List.mem_cons] at h
  simp only [Ks]
  rcases h with rfl | h
  ·omega
  ·have:=Zc (ps:=ps) h
   omega
theorem Ato (hres:∀ id,K8 s g w id (s.res id)) {g0:Gh}:∀ {ps:List Md} {id:Nat} {us:List Value} {y:BxD ps} {x:Tf ps} {w0:World} {S:Nat→Prop},bkD s ps id=some y→HR w0 S ps x us→
  (∀ j,j∈Iv ps id→(∀ T ls,s.res j=.box T ls→g.blk j=(Jq ps us id g0).blk j)∧∀ e,∀ t:Ty,∀ xs:List t.D,s.res j=.row e t xs→g.blk j=(Jq ps us id g0).blk j∧g.hdr j=(Jq ps us id g0).hdr j)→
  BkR w (Eu s g) ps y us∧Wn ps us=n9 g ((Iv ps id).map some)∧∀ j∈Iv ps id,(s.res j).live=true
 | [],_,_,_,_,_,_,_,_,_=>⟨trivial,rfl,by simp [Iv]⟩
 | .rd t::ps,id,us,y,x,w0,S,e,⟨c1,c2,h1,h2,h3⟩,hp=>by
  subst h1
  have hd:(c1++c2).drop t.sz=c2:=by rw [← Ty.K_len h2]; simp
  simp only [BkR,Wn,hd]
  exact Ato (ps:=ps) (x:=x.2) hres e h3 (fun j q1=>by have:=hp j q1; simp only [Jq,hd] at this; exact this)
 | .own e0 t::ps,id,us,y,x,w0,S,e,⟨u,c2,h1,h2,h3⟩,hp=>by
  subst h1
  simp only [BkR,Wn,List.tail_cons]
  exact Ato (ps:=ps) (x:=x.2) hres e h3 (fun j q1=>by have:=hp j q1; simp only [Jq,List.tail_cons] at this; exact this)
 | .bx T t::ps,id,us,y,x,w0,S,e,⟨b,c2,h1,h2,h3⟩,hp=>by
  subst h1
  simp only [bkD] at e
  split at e
  ·rename_i T' ls hr
   split at e
   ·rename_i hT
    split at e
    ·rename_i z hz
     obtain ⟨q,e1,e2⟩:=Option.bind_eq_some_iff.1 e
     cases e2
     subst hT
     have hb0:=(hp id (by simp [Iv])).1 T' ls hr
     simp only [Jq,List.head?_cons,List.tail_cons] at hb0
     rw [(Cn ps c2 (id + 1) _ id (by omega)).1] at hb0
     simp only [A9] at hb0
     have hb:g.blk id=some b:=hb0
     have r:=hres id
     rw [hr] at r
     obtain ⟨b',cs,k1,k2,k3⟩:=r
     obtain rfl:b=b':=Option.some.inj (hb.symm.trans k1)
     obtain ⟨e3,k4⟩:=St.parse_K hres hz k3
     have hlen:cs.toList.take t.sz=cs.toList:=by
      apply List.take_of_length_le
      have:ls.length≤t.sz:=List.drop_eq_nil_iff.1 e3.symm
      rw [k3.length]; exact this
     rw [hlen] at k4
     obtain ⟨i1,i2,i3⟩:=Ato (ps:=ps) (x:=x.2) (us:=c2) hres e1 h3 (fun j q1=>by
      have:=hp j (by simp [Iv,q1])
      simp only [Jq,List.tail_cons] at this
      exact this)
     refine ⟨⟨⟨b,rfl,cs,k2,k4⟩,i1⟩,?_,?_⟩
     ·simp only [Wn,Iv,List.map_cons,n9,List.head?_cons,Option.bind_some,List.tail_cons,Pm,hb,i2]
     ·intro j hj
      simp only [Iv,List.mem_cons] at hj
      rcases hj with rfl | hj
      ·rw [hr]; rfl
      ·exact i3 j hj
    ·cases e
   ·cases e
  ·cases e
 | .mu e0 t::ps,id,us,y,x,w0,S,e,⟨u,c2,h1,h2,h3⟩,hp=>by
  subst h1
  simp only [bkD] at e
  split at e
  ·rename_i e' t' xs hr
   split at e
   ·rename_i he
    split at e
    ·rename_i ht
     obtain ⟨q,e1,e2⟩:=Option.bind_eq_some_iff.1 e
     cases e2
     subst he ht
     obtain ⟨hb0,hh0⟩:=(hp id (by simp [Iv])).2 e' t' xs hr
     simp only [Jq,List.head?_cons,List.tail_cons,List.headD_cons] at hb0 hh0
     rw [(Cn ps c2 (id + 1) _ id (by omega)).1] at hb0
     rw [(Cn ps c2 (id + 1) _ id (by omega)).2] at hh0
     simp only [A9,Option.bind_some] at hb0 hh0
     have r:=hres id
     rw [hr] at r
     obtain ⟨cs,k1,k2,k3⟩:=r
     rw [hh0] at k1
     obtain ⟨i1,i2,i3⟩:=Ato (ps:=ps) (x:=x.2) (us:=c2) hres e1 h3 (fun j q1=>by
      have:=hp j (by simp [Iv,q1])
      simp only [Jq,List.tail_cons] at this
      exact this)
     refine ⟨⟨⟨u,rfl,cs,k1,k2⟩,i1⟩,?_,?_⟩
     ·simp only [Wn,Iv,List.map_cons,n9,List.head?_cons,Option.bind_some,List.tail_cons,hb0,i2]
     ·intro j hj
      simp only [Iv,List.mem_cons] at hj
      rcases hj with rfl | hj
      ·rw [hr]; rfl
      ·exact i3 j hj
    ·cases e
   ·cases e
  ·cases e
theorem Apo (a b:List (Option Nat)):Bh (a++b)=Bh a++Bh b:=by
 induction a with
 | nil=>rfl
 | cons x r ih=>cases x<;>simp [Bh,ih]
theorem App (l:List Nat):Bh (l.map some)=l:=by
 induction l with
 | nil=>rfl
 | cons x r ih=>simp [Bh,ih]
theorem A26 (g:Gh) (a b:List (Option Nat)):n9 g (a++b)=n9 g a++n9 g b:=by
 induction a with
 | nil=>rfl
 | cons x r ih=>simp [n9,ih]
theorem Rk:∀ {ps:List Md} {x:Tf ps} {id j:Nat} {res:Nat→Res},j∈Iv ps id→(Ls ps x id res j).live=true
 | [],_,_,_,_,h=>by simp [Iv] at h
 | .rd _::ps,x,id,j,res,h=>Rk (ps:=ps) h
 | .own e t::ps,x,id,j,res,h=>Rk (ps:=ps) h
 | .bx T t::ps,x,id,j,res,h=>by
  simp only [Iv,List.mem_cons] at h
  rcases h with rfl | h
  ·have:Ls (.bx T t::ps) x j res j=.box T (t.leafs x.1):=(H9 ps x.2 (j + 1) _ j (by omega)).trans (A9 _ _ _)
   rw [this]
   rfl
  ·exact Rk (ps:=ps) h
 | .mu e t::ps,x,id,j,res,h=>by
  simp only [Iv,List.mem_cons] at h
  rcases h with rfl | h
  ·have:Ls (.mu e t::ps) x j res j=.row e t x.1:=(H9 ps x.2 (j + 1) _ j (by omega)).trans (A9 _ _ _)
   rw [this]
   rfl
  ·exact Rk (ps:=ps) h
theorem A1a {sigs:Tb} {pat:Nat→Pat×(Nat→Pat)} {f:FuncId} {fn:Func} {sg:Sig} {den:Tf sg.ps→Option (Tf sg.rs×BxD sg.ps)} (hm:P.follows .mixedOrders=true) (hs:A2 P sigs)
  (hf : P.funcs[f]? = some fn) (hname : (fn.name == "runtime.NumGoroutine") = false) (hbody : fn.body.isNone = false) (hden : ∀ x r, den x = some r → ∃ L, (∀ c ∈ As (Ba fn), A3 P (Tf sg.rs × BxD sg.ps) fn.ntmps (Ks sg.ps) pat L c) ∧ A09 P sigs pat sg fn L x = some r) : J6 P f ∧ Yz P f sg den := by
 have sound:Yz P f sg den:=by
  intro x r hx w S us args hHR hSh hOwn
  obtain ⟨L,hLo,he⟩:=hden x r hx
  unfold A09 at he
  split at he
  ·rename_i c vs hb hvs
   have hbo:Ba fn=c:=by unfold Ba; rw [hb]
   rw [hbo] at hLo
   obtain ⟨hle,he⟩:=Ow he
   have hle:=Nat.le_of_ble_eq_true hle
   refine calls_of_wp hf hb ?_
   generalize hg0:Jq sg.ps us 0 ⟨fun _=>none,fun _=>undef,fun b=>b < w.heap.size∧¬ S b∧b ∉ E5 sg.ps us⟩=g0
   have hav:g0.av=fun b=>b < w.heap.size∧¬ S b∧b ∉ E5 sg.ps us:=by rw [← hg0]; exact Wo _ _ _ _
   have hin:∀ j b,g0.blk j=some b→j < Ks sg.ps∧b∈E5 sg.ps us:=by
    intro j b q
    by_cases hj:j < Ks sg.ps
    ·rw [← hg0] at q
     exact ⟨hj,K9 _ _ _ _ j b (by omega) (by omega) q⟩
    ·rw [← hg0,(Cn _ _ _ _ j (by omega)).1] at q
     cases q
   have hSof:∀ b,S b→b < w.heap.size→Eu (Wz sg x vs) g0 b:=by
    intro b hb _
    refine ⟨by rw [hav]; exact fun q=>q.2.1 hb,fun j _ q=>?_⟩
    exact (hOwn.2 b (hin j b q).2).2 hb
   obtain ⟨hL,hR⟩:=Aox (s:=Wz sg x vs) (g:=g0) hSof sg.ps x us 0 (fun _=>.unborn) ⟨fun _=>none,fun _=>undef,fun b=>b < w.heap.size∧¬ S b∧b ∉ E5 sg.ps us⟩ hHR (fun j _ _=>⟨rfl,by rw [hg0],by rw [hg0]⟩)
   have hV:=Aw1 hvs hL hSh
   have hargs:args.length=vs.length:=hV.length
   have hent:B8 fn.ntmps w.heap.size (E5 sg.ps us) (Wz sg x vs) g0 { tmps:=args.toArray++Array.replicate (fn.ntmps - args.toArray.size) undef,defers:=[] } w:=by
    refine ⟨by simp; omega,rfl,Nat.le_refl _,fun i=>?_,fun j=>?_,fun i j b q1 q2=>?_,fun j b q=>?_,fun b q=>?_⟩
    ·show Uk _ _ _ (match vs[i]? with | some v=>.vl v | none=>.dead) _
     cases hi:vs[i]? with
     | none=>trivial
     | some v=>
      obtain ⟨u,e1,e2⟩:=hV.get hi
      have hlt:=(List.getElem?_eq_some_iff.1 e1).1
      have:(args.toArray++Array.replicate (fn.ntmps - args.toArray.size) undef).getD i undef=u:=by
       rw [Array.getD_eq_getD_getElem?,Array.getElem?_append_left (by simpa using hlt),List.getElem?_toArray,e1]
       rfl
      rw [this]
      exact e2
    ·by_cases hj:j < Ks sg.ps
     ·exact (hR j (by omega) (by omega)).1
     ·have h1:(Wz sg x vs).res j=.unborn:=H9 _ _ _ _ j (by omega)
      rw [h1]
      show g0.blk j=none
      cases hq:g0.blk j with
      | none=>rfl
      | some b=>exact absurd (hin j b hq).1 hj
    ·rw [← hg0] at q1 q2
     refine U3 _ _ _ _ i j b hOwn.1 (by omega) ?_ (by omega) ?_ q1 q2
     ·rw [hg0] at q1; have:=(hin i b q1).1; omega
     ·rw [hg0] at q2; have:=(hin j b q2).1; omega
    ·have:=(hin j b q).2
     exact ⟨(hOwn.2 b this).1,.inl this,by rw [hav]; exact fun q=>q.2.2 this⟩
    ·rw [hav] at q
     exact q.1
   have hgx:Gx (Ks sg.ps) w.heap.size (E5 sg.ps us) (Wz sg x vs) g0 w (Wz sg x vs) g0 w:=by
    refine ⟨Kp.refl _ _ _,rfl,fun id _ hl=>⟨fun q=>(by rw [q] at hl; cases hl),fun T ls q=>⟨⟨T,ls,q⟩,rfl⟩,fun e t xs q=>⟨⟨e,xs,q⟩,rfl,rfl⟩⟩⟩
   refine A4e (r:=r) (Q:=bodyPost P fn _) (cfg:=⟨sigs,Ks sg.ps,fn.ntmps,pat⟩) (L:=L) hm hs rfl rfl c hLo (fun e s' nid' g' a' w' hk hR' hX'=>?_) he hent hgx
   have hfin:∀ {vs':List Vl} {ls:List Lf} {q:Tf sg.rs×List (Option Nat)} {z:BxD sg.ps},Pc P s' fn.results.toList=some vs'→shL sg.rsh vs'=some ls→
     Of (s'.frz (Kh s' sg.rs ls++o8 s' sg.ps 0)) sg.rs ls=some q→bkD (s'.frz (Kh s' sg.rs ls++o8 s' sg.ps 0)) sg.ps 0=some z→Rb (Bh q.2++Iv sg.ps 0)=true→
     a'.defers=[]∧∃ v,(results fn a'.tmps).run P w'=.ok v w'∧∃ vs us',Ending.returned v=.returned (Aqr vs)∧ShR sg.rsh vs us'∧Jr (E5 sg.ps us) w w'∧
      HR w' (Ag0 w S (E5 sg.ps us) (E5 sg.rs us'++Wn sg.ps us)) sg.rs q.1 us'∧BkR w' (Ag0 w S (E5 sg.ps us) (E5 sg.rs us'++Wn sg.ps us)) sg.ps z us∧
      (E5 sg.rs us'++Wn sg.ps us).Nodup∧∀ b∈E5 sg.rs us',b < w'.heap.size∧(b∈E5 sg.ps us∨w.heap.size≤b):=by
    intro vs' ls q z h1 h2 h3 h4 h5
    obtain ⟨us1,r1,r2⟩:=Ag4 hR' h1
    obtain ⟨cs,hsh,hL'⟩:=Aw0 h2 r2
    obtain ⟨gF,hF,goF,hlf⟩:=E9 (ls:=Kh s' sg.rs ls++o8 s' sg.ps 0) hR'
    have hXF:=hX'.step goF
    have hLF:=hL'.imp hlf
    obtain ⟨k1,k2,k3⟩:=Aoz hF.res (x:=q.1) (ow:=q.2) h3 hLF
    obtain ⟨b1,b2,b3⟩:=Ato hF.res (g0:=⟨fun _=>none,fun _=>undef,fun b=>b < w.heap.size∧¬ S b∧b ∉ E5 sg.ps us⟩) (x:=x) (us:=us) h4 hHR (fun j q1=>by
     have hj:=Zc q1
     obtain ⟨_,p2,p3⟩:=hXF.pin j (show j < Ks sg.ps by omega) (Rk q1)
     rw [hg0]
     exact ⟨fun T bl q2=>(p2 T bl q2).2,fun e t xs q2=>(p3 e t xs q2).2⟩)
    have hnd:=Ace h5
    have hgone:E5 sg.rs cs++Wn sg.ps us=n9 gF (q.2++(Iv sg.ps 0).map some):=by rw [k2,b2,A26]
    have hS2:∀ b,Eu (s'.frz (Kh s' sg.rs ls++o8 s' sg.ps 0)) gF b→b < w'.heap.size→Ag0 w S (E5 sg.ps us) (E5 sg.rs cs++Wn sg.ps us) b:=by
     rintro b ⟨q1,q2⟩ _
     rw [hXF.av,hav] at q1
     refine ⟨?_,fun hq=>?_⟩
     ·by_cases c1:S b
      ·exact .inl c1
      ·by_cases c2:b∈E5 sg.ps us
       ·exact .inr (.inl c2)
       ·right; right
        rcases Nat.lt_or_ge b w.heap.size with c3 | c3
        ·exact absurd ⟨c3,c1,c2⟩ q1
        ·exact c3
     ·rw [hgone] at hq
      obtain ⟨id,p1,p2⟩:=Qw.1 hq
      rw [Apo,App] at p1
      rcases List.mem_append.1 p1 with p1 | p1
      ·exact q2 id (k3 id p1) p2
      ·exact q2 id (b3 id p1) p2
    refine ⟨hR'.defers,_,r1,us1,cs,rfl,hsh,⟨hX'.kp.os,hX'.kp.tape,hX'.kp.output,hX'.kp.size,fun k q1 q2=>hX'.kp.block k q1 q2⟩,Aew (.inr hS2) k1,i4 (.inr hS2) b1,?_,fun b hb=>?_⟩
    ·rw [hgone]
     exact g9 hF.inj (by rw [Apo,App]; exact hnd)
    ·rw [k2] at hb
     obtain ⟨id,p1,p2⟩:=Qw.1 hb
     obtain ⟨q1,q2,_⟩:=hF.lt id b p2
     exact ⟨q1,q2⟩
   have hend:∀ (e:Ex),(∀ id,e≠.exit id)→(match Pc P s' fn.results.toList with
     | none=>none
     | some vs=>match shL sg.rsh vs with
      | none=>none
      | some ls=>
       let sF:=s'.frz (Kh s' sg.rs ls++o8 s' sg.ps 0)
       match Of sF sg.rs ls with
       | none=>none
       | some q=>match bkD sF sg.ps 0 with
        | none=>none
        | some z=>bif Rb (Bh q.2++Iv sg.ps 0) then some (q.1,z) else none)=some r→bodyPost P fn (fun e w'=>∃ vs us',e=.returned (Aqr vs)∧ShR sg.rsh vs us'∧Jr (E5 sg.ps us) w w'∧
       HR w' (Ag0 w S (E5 sg.ps us) (E5 sg.rs us'++Wn sg.ps us)) sg.rs r.1 us'∧BkR w' (Ag0 w S (E5 sg.ps us) (E5 sg.rs us'++Wn sg.ps us)) sg.ps r.2 us∧
       (E5 sg.rs us'++Wn sg.ps us).Nodup∧∀ b∈E5 sg.rs us',b < w'.heap.size∧(b∈E5 sg.ps us∨w.heap.size≤b)) e.to a' w':=by
    intro e hne h
    split at h
    ·cases h
    ·rename_i vs' h1
     split at h
     ·cases h
     ·rename_i ls h2
      dsimp only at h
      split at h
      ·cases h
      ·rename_i q h3
       split at h
       ·cases h
       ·rename_i z h4
        obtain ⟨h5,h6⟩:=Ow h
        cases h6
        obtain ⟨f1,v,f2,f3⟩:=hfin h1 h2 h3 h4 h5
        cases e with
        | normal=>exact ⟨f1,v,f2,f3⟩
        | ret=>exact ⟨f1,v,f2,f3⟩
        | exit id=>exact absurd rfl (hne id)
   cases e with
   | normal=>exact hend .normal (fun id q=>by cases q) hk
   | ret=>exact hend .ret (fun id q=>by cases q) hk
   | exit id=>cases hk
  ·cases he
 exact ⟨⟨fn,hf,hname,hbody⟩,sound⟩
def D3:Nat→Pat×(Nat→Pat):=fun _=>(⟨[],[],[]⟩,fun _=>⟨[],[],[]⟩)
def Hu {R:Type} {pat:Nat→Pat×(Nat→Pat)}:Lt R pat:=fun _ _ _=>none
def Ed {R:Type} {pat:Nat→Pat×(Nat→Pat)} (key:Nat) (F:(pat key).1.D→Kt R→Option R) (L:Lt R pat):Lt R pat:=fun j d k=>if h:j=key then F (h ▸ d) k else L j d k
abbrev nI (n:Nat):Int:=(n:Int)
def Cj {α β γ:Type} (f:α→γ) (g:β→γ):α ⊕ β→γ
 | .inl a=>f a
 | .inr b=>g b
theorem A1b {R:Type} {np n:Nat} {cfg:Cfg} {L:Lt R cfg.pat} {c:Code} {key:Nat} (hkey:Ht c=key) (hm:P.follows .mixedOrders=true) (hs:A2 P cfg.sigs) (hn:cfg.n=n) (hnp:cfg.np=np)
  (hL:∀ d k (r:R),L key d k=some r→∃ m,Ag9 np (cfg.pat key) (fun s nid k=>ev P cfg L c s nid k) m d k=some r) (hL':∀ c'∈As c,A3 P R n np cfg.pat L c'):A3 P R n np cfg.pat L c:=by
 subst hkey
 exact Ay6 hm hs hn hnp hL hL'
theorem Ak {α β γ δ:Type} (f:α→Option γ) (g:β→Option γ) (o:α ⊕ β) (h:γ→Option δ):(Cj f g o).bind h=Cj (fun a=>(f a).bind h) (fun b=>(g b).bind h) o:=by cases o<;>rfl
theorem Ar {α β:Type} (c:Prop) [Decidable c] (x y:Option α) (f:α→Option β):(if c then x else y).bind f=if c then x.bind f else y.bind f:=by split<;>rfl
theorem Al {α β:Type} (c:Bool) (x y:Option α) (f:α→Option β):(bif c then x else y).bind f=bif c then x.bind f else y.bind f:=by cases c<;>rfl
end
end Go.Proofs.YtfkefgbihlfjmaaGreat.R

