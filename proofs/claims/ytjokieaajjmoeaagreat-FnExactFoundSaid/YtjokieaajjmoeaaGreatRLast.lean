/- Rows of rows, of which the last is still written: the evaluator's operations, and that they are the machine's. No condition. -/
import Derived.Test.YtjokieaajjmoeaaGreatRTy
import Derived.Maps.Range
import Derived.Maps.RangeRun
import Derived.BigCall
noncomputable section
set_option linter.unusedVariables false
set_option linter.unusedSimpArgs false
namespace Go.Proofs.YtjokieaajjmoeaaGreat.R
open Go Go.RowKit
section
def A8d (P:Program) (s:St) (nid:Nat) (T:TypeId):Option (AV×St):=
 match s.res nid,Af7 P T with
 | .unborn,some el=>some (.vl (.lf (.row nid)),s.setRes nid (.row el.e el.t []))
 | _,_=>none
def Aof (s:St) (x:Operand):Bool:=match s.leaf x with
 | some (.rp id _ _)=>(match s.res id with
  | .last _ _ _ _ _=>true
  | _=>false)
 | _=>false
def Ajd (s:St) (x:Operand):Bool:=match s.leaf x with
 | some (.row id)=>(match s.res id with
  | .last _ _ _ _ _=>true
  | _=>false)
 | _=>false
def Bf6 (P:Program) (T:TypeId) (len:Nat):Bool:=match Af7 P T with
 | some el=>(match el.t with
  | .sl _=>Nat.beq len 1
  | _=>false)
 | none=>false
def A56 (P:Program) (s:St) (T:TypeId) (x:Operand):Option (List Bool×Lf):=match s.leaf x,Akq P T with
 | some (.rp id i off),some false=>match s.res id with
  | .last e t xs c j=>match s.res j with
   | .row _ _ _=>if off=0 then some ([c,decide (i=xs.length)],.row j) else none
   | _=>none
  | _=>none
 | _,_=>none
def Aog (P:Program) (s:St) (T:TypeId) (x y:Operand):Option (List Bool×St):=match s.leaf x,s.leaf y,P.info? T with
 | some (.rp id i off),some (.row k),some inf=>match s.res id with
  | .last e t xs c j=>match s.res k with
   | .row _ t' _=>if off=0 then (if inf.size=1 then (if t'=t then some ([c,decide (i=xs.length)],s.setRes id (.last e t xs c k)) else none) else none) else none
   | _=>none
  | _=>none
 | _,_,_=>none
def Aat (P:Program) (s:St) (T:TypeId) (x y:Operand):Option (List Bool×Lf):=match P.underlying T with
 | some (.slice e0)=>match P.info? e0,s.leaf x,s.conc y with
  | some inf,some (.row id),some (.int _ n)=>match s.res id with
   | .last e t xs c j=>if inf.size=1 then some ([decide (0≤n),decide (n < ((xs.length + c.toNat:Nat):Int))],.rp id n.toNat 0) else none
   | _=>none
  | _,_,_=>none
 | _=>none
def Ar0 (P:Program) (s:St) (T:TypeId) (x:Operand):Option Value:=match P.underlying T with
 | some (.slice _)=>match s.leaf x with
  | some (.row id)=>match s.res id with
   | .last e t xs c j=>some (.int .i64 ((xs.length + c.toNat:Nat):Int))
   | _=>none
  | _=>none
 | _=>none
def Ax8 (s:St) (j:Nat):Bool:=match s.res j with
 | .row _ _ _=>true
 | _=>false
def Ar1 (P:Program) (s:St) (nid:Nat) (T:TypeId) (x y:Operand):Option (List Bool×Lf×St):=match Af7 P T,s.leaf x,s.leaf y with
 | some el,some (.row ix),some (.row iy)=>match s.res ix,s.res iy with
  | .last e t xs c j,.last e2 t2 xs2 c2 j2=>match s.res j,s.res nid with
   | .row ej tj ys,.unborn=>if Ax8 s j2 then (if Nat.beq j2 j then none else (if h:tj=t then (if e.o=el.e then (if ej=e.i then (if el.t.sz=1 then
     some ([c2,decide (xs2.length=0),decide (el.t=wrT e.u t),decide ((xs.length + c.toNat + 1) * el.bytes≤140737488355328)],.row nid,
      (Ei ((s.setRes j .dead).setRes ix (.last e t (K4 c xs (h ▸ ys)) false j)) (some ix)).setRes nid (.last e t (K4 c xs (h ▸ ys)) true j2)) else none) else none) else none) else none)) else none
   | _,_=>none
  | _,_=>none
 | _,_,_=>none
def Aoh (P:Program) (s:St) (nid:Nat) (T:TypeId) (l:Lf):Option (Lf×St):=match Af7 P T,s.res nid,l with
 | some el,.unborn,.row j=>match s.res j with
  | .row ej t _=>if el.t=.sl t then (if Nat.beq j nid then none else some (.row nid,s.setRes nid (.last ⟨el.e,ej,false⟩ t [] true j))) else none
  | _=>none
 | _,_,_=>none
def Aze (P:Program) (s:St) (nid:Nat) (T:TypeId) (parts:List (Nat×Operand)):Option (Lf×St):=match parts with
 | [(0,x)]=>match s.leaf x,Af7 P T with
  | some (.c (.slice none 0 0)),some el=>(match A8d P s (nid + 1) el.e with
   | some (_,s1)=>Aoh P s1 nid T (.row (nid + 1))
   | none=>none)
  | some l,some _=>Aoh P s nid T l
  | _,_=>none
 | _=>none
section
variable {P:Program} {n B:Nat} {Iq:List Nat} {s:St} {g:Gh} {a:Act} {w:World}
theorem Ayv.congr {S I:Nat→Prop} {e:TypeId} {t:Ty} {xs:List (List t.D)} {cs cs':List Value} (h:Ayv w S I e t xs cs) (hc:∀ i,i < xs.length→cs'[i]? = cs[i]?):Ayv w S I e t xs cs' where
 row:=fun i x u h1 h2=>h.row i x u h1 (by rw [← hc i (List.getElem?_eq_some_iff.1 h1).1]; exact h2)
 one:=fun i i' u u' b h1 h2 h3 h4=>h.one i i' u u' b h1 h2 (by rw [← hc i h1]; exact h3) (by rw [← hc i' h2]; exact h4)
theorem Ax9 (h:Bp n B Iq s g a w) {id j i:Nat} {e:NE} {t:Ty} {xs:List (List t.D)} {c:Bool} {u:Value} (hr:s.res id=.last e t xs c j) (hl:Cx s g w (.rp id i 0) u):
  ∃ b cap cs cur,u=.pointer (some ⟨b,i,none⟩)∧g.blk id=some b∧g.hdr id=.slice (some ⟨b,0,none⟩) (xs.length + c.toNat) cap∧w.heap[b]? = some (.cells cur e.o (0,0))∧i < xs.length + c.toNat∧
   xs.length + c.toNat≤cap∧cap≤maxLen∧cur.size=cap * 1∧cur.toList.take ((xs.length + c.toNat) * 1)=cs∧Ayv w (Eg s g) (g.inn id) e.i t xs cs∧cs.length=xs.length + c.toNat∧
   (∀ u,c=true→cs[xs.length]? = some u→match s.res j with
    | .row _ _ _=>u=g.hdr j
    | .frozen _ _=>u=g.hdr j
    | .dead=>True
    | _=>False):=by
 have r:=h.res id
 rw [hr] at r
 obtain ⟨cs,h1,h2,h3,h4⟩:=r
 simp only [Cx,hr,Nat.add_zero] at hl
 obtain ⟨hi,b,hb,hu⟩:=hl
 obtain ⟨hlen,hown⟩:=h1
 rcases hown with ⟨hv,hn⟩ | ⟨gg,cap,cur,hv,_,hh,hcap,hmx,hsz,hcs⟩
 ·omega
 ·have hbg:b=gg:=by
   rw [h3,hv] at hb
   exact (Option.some.inj hb).symm
  subst hbg
  exact ⟨b,cap,cs,cur,hu,hb,hv,hh,hi,hcap,hmx,hsz,hcs,h2,by simpa using hlen,h4⟩
theorem Bbh (h:Bp n B Iq s g a w) {T:TypeId} {x:Operand} {l:Lf} (e:Nl (A56 P s T x)=some l):∃ u,(Instr.loadAt T (a.eval x)).run P w=.ok u w∧Cx s g w l u∧u.oneCell'=true:=by
 obtain ⟨cs0,e,hc⟩:=Cn e
 unfold A56 at e
 split at e
 ·rename_i id i off hx hA
  split at e
  ·rename_i e0 t xs c j hr
   split at e
   ·rename_i ej tj ys hj
    split at e<;>cases e
    rename_i h0
    subst h0
    obtain ⟨hc1,hc⟩:=Ly hc
    obtain ⟨hc2,_⟩:=A1 hc
    subst hc1
    obtain ⟨hl,_⟩:=C7 h hx
    obtain ⟨b,cap,cs,cur,hu,hb,hv,hh,hi,hcap,_,hsz,hcs,h2,hlen,h4⟩:=Ax9 h hr hl
    simp only [Bool.toNat_true] at hi hlen hcs
    obtain ⟨u,hu2⟩:∃ u,cs[xs.length]? = some u:=⟨_,List.getElem?_eq_getElem (by omega)⟩
    have hq:=h4 u rfl hu2
    rw [hj] at hq
    simp only at hq
    have hcur:cur[i]? = some u:=by
     rw [← hcs,List.getElem?_take] at hu2
     split at hu2
     ·rw [← Array.getElem?_toList,hc2]; exact hu2
     ·cases hu2
    have h1:u.oneCell'=true:=by
     have rj:=h.res j
     rw [hj] at rj
     obtain ⟨_,q1,_⟩:=rj
     rw [hq]
     exact W9 q1
    refine ⟨u,?_,by simp only [Cx,hj]; exact hq,h1⟩
    rw [hu]
    have hb1:W6 P T [.c u]=some (.lf (.c u)):=by simp [W6,hA]
    obtain ⟨u',hr',hv'⟩:=W8 (s:=s) (g:=g) (w:=w) (ad:=⟨b,i,none⟩) hb1 (cs:=[u]) ⟨⟨rfl,h1⟩,trivial⟩ (fun k v hk=>by
     cases k with
     | zero=>
      simp at hk
      subst hk
      rw [Ac8,Nat.add_zero,cell_of_row w b _ cur e0.o (0,0) hh]
      exact hcur
     | succ k=>simp at hk)
    cases hv'.1
    simpa [Instr.loadAt,Instr.sureAddr] using hr'
   ·cases e
  ·cases e
 ·cases e
theorem A8e (h:Bp n B Iq s g a w) {T:TypeId} {x y:Operand} {l:Lf} (e:Nl (Aat P s T x y)=some l):∃ u,(Instr.indexAt T (a.eval x) (a.eval y)).run P w=.ok u w∧Cx s g w l u∧u.oneCell'=true:=by
 obtain ⟨cs0,e,hc⟩:=Cn e
 unfold Aat at e
 split at e
 ·rename_i el hU
  have hel:P.elem T=el:=by simp [Program.elem,hU]
  have hU':P.underlying T=some (.slice (P.elem T)):=by rw [hel]; exact hU
  split at e
  ·rename_i inf id k m hi hx hy
   split at e
   ·rename_i e0 t xs c j hr
    split at e<;>cases e
    rename_i hsz
    obtain ⟨h0,hc⟩:=A1 hc
    obtain ⟨h1,_⟩:=A1 hc
    obtain ⟨hl,_⟩:=C7 h hx
    have r:=h.res id
    rw [hr] at r
    obtain ⟨cs,q1,q2,q3,_⟩:=r
    simp only [Cx,hr] at hl
    rcases q1.2 with ⟨hv,hn⟩ | ⟨gg,cap,cur,hv,_⟩
    ·omega
    ·refine ⟨.pointer (some ((⟨gg,0,none⟩:Addr).add (m.toNat * 1))),?_,?_,rfl⟩
     ·rw [(Dv h hy).1,hl,hv,run_indexAt_slice w T _ _ _ k m hU',if_pos ⟨h0,h1⟩,hel]
      simp [sizeOf,typeInfo,hi,hsz,Result.andThen]
     ·simp only [Cx,hr]
      refine ⟨by omega,gg,by rw [q3,hv]; rfl,by rw [Ayu,Nat.mul_one]; rfl⟩
   ·cases e
  ·cases e
 ·cases e
theorem Bei (h:Bp n B Iq s g a w) {T ty:TypeId} {x:Operand} {v:Value} (e:Ar0 P s T x=some v):(Builtin.len_ #[T] ty #[a.eval x]).run P w=.ok v w∧v.oneCell'=true:=by
 unfold Ar0 at e
 split at e
 ·rename_i el hU
  have hel:P.elem T=el:=by simp [Program.elem,hU]
  have hU':P.underlying T=some (.slice (P.elem T)):=by rw [hel]; exact hU
  split at e
  ·rename_i id hx
   split at e
   ·rename_i e0 t xs c j hr
    cases e
    obtain ⟨hl,_⟩:=C7 h hx
    have r:=h.res id
    rw [hr] at r
    obtain ⟨cs,q1,q2,q3,_⟩:=r
    simp only [Cx,hr] at hl
    have:∃ A cap,g.hdr id=.slice A (xs.length + c.toNat) cap:=by
     rcases q1.2 with ⟨hv,hn⟩ | ⟨gg,cap,cur,hv,_⟩
     ·exact ⟨none,0,by rw [hv,hn]⟩
     ·exact ⟨_,_,hv⟩
    obtain ⟨A,cap,hv⟩:=this
    rw [hl,hv,run_len_slice w T ty A _ cap hU']
    exact ⟨rfl,rfl⟩
   ·cases e
  ·cases e
 ·cases e
theorem A8f (h:Bp n B Iq s g a w) {nid:Nat} {T:TypeId} {av:AV} {s':St} (e:A8d P s nid T=some (av,s')):
  ∃ g',Go B Iq s g w s' g' w∧Bp n B Iq s' g' a w∧c9 s' g' w av (.slice none 0 0):=by
 unfold A8d at e
 split at e<;>cases e
 rename_i el hf hel
 have hS:∀ b,Eg s g b→b < w.heap.size→Eg (s.setRes nid (.row el.e el.t [])) ⟨K3 g.blk nid none,K3 g.hdr nid (.slice none 0 0),g.av,g.innL⟩ b∧w.heap[b]? = w.heap[b]? := by
  intro b hb _
  refine ⟨⟨hb.1,fun j hj hk=>?_,fun j hj=>hb.2.2 j (Ej rfl hj)⟩,rfl⟩
  by_cases q:j=nid
  ·subst q; simp at hk
  ·rw [Ak s _ q] at hj
   simp only [As _ _ q] at hk
   exact hb.2.1 j hj hk
 have hI:∀ j,Az s g (s.setRes nid (.row el.e el.t [])) ⟨K3 g.blk nid none,K3 g.hdr nid (.slice none 0 0),g.av,g.innL⟩ j:=by
  intro j
  by_cases q:j=nid
  ·subst q
   unfold Az
   rw [hf]
   exact .inr trivial
  ·exact Az.same (Ak s _ q) (by simp [As _ _ q]) (by simp [As _ _ q])
 refine ⟨_,⟨Kp.refl B Iq w,hS,hI,rfl⟩,h.step h.size h.defers (Nat.le_refl _) hS hI (fun i=>.inl ⟨rfl,rfl⟩) (fun j=>?_) (fun i j b hi hj=>?_) (fun i b hi=>?_) rfl (NK.same_world h (fun j=>Ej rfl) rfl fun j b hb=>by
  by_cases q:j=nid
  ·simp [q] at hb
  ·simp only [As _ _ q] at hb; exact ⟨j,hb⟩),?_⟩
 ·by_cases q:j=nid
  ·subst q
   right
   rw [Ai]
   refine ⟨[],⟨by simp,.inl ⟨by simp,rfl⟩⟩,Aga _ _,by simp [Value.ownBlock]⟩
  ·left
   exact ⟨Ak s _ q,by simp [As _ _ q],by simp [As _ _ q],fun _ _=>rfl⟩
 ·by_cases q1:i=nid
  ·simp [q1] at hi
  ·by_cases q2:j=nid
   ·simp [q2] at hj
   ·simp only [As _ _ q1] at hi
    simp only [As _ _ q2] at hj
    exact h.inj i j b hi hj
 ·by_cases q1:i=nid
  ·simp [q1] at hi
  ·simp only [As _ _ q1] at hi
   exact h.lt i b hi
 ·refine ⟨?_,rfl⟩
  simp only [Cx,Ai,Al]
theorem Bej {u:Value} (h:u.oneCell'=true):u.cells=#[u]:=by cases u<;>first | rfl | simp [Value.oneCell'] at h
theorem A8g (h:Bp n B Iq s g a w) {T:TypeId} {x y:Operand} {s':St} (e:Nl (Aog P s T x y)=some s'):
  ∃ w' g',(Instr.storeAt T (a.eval x) (a.eval y)).run P w=.ok () w'∧Go B Iq s g w s' g' w'∧Bp n B Iq s' g' a w':=by
 obtain ⟨cs0,e,hc⟩:=Cn e
 unfold Aog at e
 split at e
 ·rename_i id i off k inf hx hy hinf
  split at e
  ·rename_i e0 t xs c j hr
   split at e
   ·rename_i ek tk ys hk
    split at e
    ·rename_i h0
     split at e
     ·rename_i hsz1
      split at e<;>cases e
      rename_i ht
      subst ht
      subst h0
      obtain ⟨hc1,hc⟩:=Ly hc
      obtain ⟨hc2,_⟩:=A1 hc
      subst hc1
      obtain ⟨hl,_⟩:=C7 h hx
      obtain ⟨hly,h1y⟩:=C7 h hy
      simp only [Cx,hk] at hly
      obtain ⟨b,cap,cs,cur,hu,hb,hv,hh,hi,hcap,hmx,hsz,hcs,h2,hlen,h4⟩:=Ax9 h hr hl
      simp only [Bool.toNat_true] at hi hlen hcs hcap hv
      have hcl:=Bej h1y
      have hrun:=Xb (P:=P) (T:=T) hinf hh (fun q=>absurd q (Nat.lt_irrefl 0)) (v:=a.eval y) (off:=i) (by rw [hcl,hsz1]; rfl) (by rw [hcl]; simp; omega) (by rw [hcl]; simpa using h1y)
      rw [← hu,hcl] at hrun
      have hne:∀ k,k≠b→(w.setRow b (cur.toList.take i++#[a.eval y].toList++cur.toList.drop (i + #[a.eval y].toList.length)).toArray).heap[k]? = w.heap[k]? := fun k hk=>setRow_other w b k _ hk
      have hlive:(s.res id).live=true:=by rw [hr]; rfl
      have hnn:∀ j,((s.setRes id (.last e0 tk xs true k)).res j).nst=true→(s.res j).nst=true:=fun j hj=>by
       by_cases q:j=id
       ·rw [q,hr]; rfl
       ·rw [Ak s _ q] at hj; exact hj
      have hS:∀ c,Eg s g c→c < w.heap.size→Eg (s.setRes id (.last e0 tk xs true k)) g c∧(w.setRow b (cur.toList.take i++#[a.eval y].toList++cur.toList.drop (i + #[a.eval y].toList.length)).toArray).heap[c]? = w.heap[c]? := by
       intro c hc _
       refine ⟨⟨hc.1,fun j hj=>?_,fun j hj=>hc.2.2 j (hnn j hj)⟩,hne c (fun q=>hc.2.1 id hlive (by rw [q]; exact hb))⟩
       by_cases q:j=id
       ·rw [q]; exact hc.2.1 id hlive
       ·rw [Ak s _ q] at hj; exact hc.2.1 j hj
      have hI:∀ j,Az s g (s.setRes id (.last e0 tk xs true k)) g j:=by
       intro j
       by_cases q:j=id
       ·subst q
        unfold Az
        rw [hr,Ai]
        exact .inr (.inl ⟨rfl,rfl,rfl⟩)
       ·exact Az.same (Ak s _ q) rfl rfl
      have hik:k≠id:=fun q=>by rw [q,hr] at hk; cases hk
      refine ⟨_,g,hrun,⟨⟨rfl,rfl,rfl,by simp,fun k hk hn=>hne k (fun q=>?_)⟩,hS,hI,rfl⟩,h.step h.size h.defers (by simp) hS hI (fun i=>.inl ⟨rfl,rfl⟩) (fun j'=>?_) h.inj (fun j' c hj=>?_) rfl (NK.of h (by simp) (fun j c h1 h2=>⟨hnn j h1,h2⟩) (fun _ _=>rfl) (fun c _ hc=>hne c (fun q=>hc id (by rw [q]; exact hb))) fun j c hj=>.inl ⟨j,hj⟩)⟩
      ·subst q
       rcases (h.lt id k hb).2.1 with q2 | q2
       ·exact hn q2
       ·omega
      ·by_cases q:j'=id
       ·subst q
        right
        rw [Ai]
        have hcur:cur.toList.length=cap:=by rw [Array.length_toList]; omega
        have htk:(cur.toList.take i++#[a.eval y].toList++cur.toList.drop (i + #[a.eval y].toList.length)).take ((xs.length + 1) * 1)=cur.toList.take i++[a.eval y]:=by
         rw [← hc2]
         have:(cur.toList.take i++#[a.eval y].toList).length=(i + 1) * 1:=by simp; omega
         rw [← this]
         exact List.take_left
        refine ⟨cur.toList.take i++[a.eval y],⟨by simp; omega,.inr ⟨b,cap,_,hv,Nat.zero_le _,setRow_heap w b cur _ e0.o _ hh,by simpa using hcap,hmx,?_,htk⟩⟩,?_,by rw [hb,hv]; rfl,fun u _ hu2=>?_⟩
        ·simp only [List.size_toArray,Lw,List.length_take,List.length_drop,hcur]
         simp
         omega
        ·refine (h2.keep hS fun c hc=>hne c fun q=>(h.inn j' c (by rw [hr]; rfl) hc).2.1 j' (by rw [q]; exact hb)).congr fun i2 hi2=>?_
         rw [← hcs,List.getElem?_append_left (by simp; omega),List.getElem?_take,List.getElem?_take,if_pos (by omega),if_pos (by omega)]
        ·rw [List.getElem?_append_right (by simp; omega)] at hu2
         have:xs.length - (cur.toList.take i).length=0:=by simp; omega
         rw [this] at hu2
         simp at hu2
         rw [Ak s _ hik,hk]
         exact hu2.symm.trans hly
       ·left
        exact ⟨Ak s _ q,rfl,rfl,fun c hc=>hne c (fun q2=>q (h.inj j' id c hc (by rw [q2]; exact hb)))⟩
      ·have:=h.lt j' c hj
       simpa using this
     ·cases e
    ·cases e
   ·cases e
  ·cases e
 ·cases e
def Kq (g:Gh) (ix j:Nat) (c:Bool):Gh:=⟨K3 g.blk j none,g.hdr,g.av,K3 g.innL ix (g.innL ix++(bif c then (g.blk j).toList else []))⟩
theorem Xy {g:Gh} {ix j:Nat} {c:Bool}:(Kq g ix j c).inn ix=fun b=>g.inn ix b∨(c=true∧g.blk j=some b):=by
 funext b
 simp only [Gh.inn,Kq,Al,List.mem_append,eq_iff_iff]
 cases c<;>simp [Option.mem_toList]
theorem Aje {g:Gh} {ix j k:Nat} {c:Bool} (h:k≠ix):(Kq g ix j c).inn k=g.inn k:=by
 funext b
 simp only [Gh.inn,Kq,As _ _ h]
theorem Bf7 (h:Bp n B Iq s g a w) {ix j:Nat} {e0:NE} {t:Ty} {xs:List (List t.D)} {c:Bool} {ys:List t.D} (hr:s.res ix=.last e0 t xs c j) (hj:s.res j=.row e0.i t ys):
  (∀ b,Eg s g b→b < w.heap.size→Eg ((s.setRes j .dead).setRes ix (.last e0 t (K4 c xs ys) false j)) (Kq g ix j c) b∧w.heap[b]? = w.heap[b]?)∧(∀ k,Az s g ((s.setRes j .dead).setRes ix (.last e0 t (K4 c xs ys) false j)) (Kq g ix j c) k)∧
  Bp n B Iq ((s.setRes j .dead).setRes ix (.last e0 t (K4 c xs ys) false j)) (Kq g ix j c) a w:=by
 have hixj:ix≠j:=fun q=>by rw [q,hj] at hr; cases hr
 have hlen:(K4 c xs ys).length=xs.length + c.toNat:=by cases c<;>simp [K4]
 have r1:((s.setRes j .dead).setRes ix (.last e0 t (K4 c xs ys) false j)).res ix=.last e0 t (K4 c xs ys) false j:=Ai _ _ _
 have r2:((s.setRes j .dead).setRes ix (.last e0 t (K4 c xs ys) false j)).res j=.dead:=(Ak _ _ (fun q=>hixj q.symm)).trans (Ai s j _)
 have r3:∀ k,k≠ix→k≠j→((s.setRes j .dead).setRes ix (.last e0 t (K4 c xs ys) false j)).res k=s.res k:=fun k h1 h2=>(Ak _ _ h1).trans (Ak s _ h2)
 have hcell:∀ i,((s.setRes j .dead).setRes ix (.last e0 t (K4 c xs ys) false j)).cell i=s.cell i:=fun i=>rfl
 generalize (s.setRes j .dead).setRes ix (.last e0 t (K4 c xs ys) false j)=s1 at r1 r2 r3 hcell ⊢
 have hix:(s.res ix).nst=true:=by rw [hr]; rfl
 have hjl:(s.res j).live=true:=by rw [hj]; rfl
 have b1:∀ k b,(Kq g ix j c).blk k=some b→k≠j∧g.blk k=some b:=fun k b hb=>by
  by_cases q:k=j
  ·simp [Kq,q] at hb
  ·simp only [Kq,As _ _ q] at hb; exact ⟨q,hb⟩
 have i1:∀ k b,(s1.res k).nst=true→(Kq g ix j c).inn k b→(s.res k).nst=true∧(g.inn k b∨(k=ix∧g.blk j=some b)):=fun k b h1 h2=>by
  by_cases q:k=ix
  ·subst q
   rw [Xy] at h2
   exact ⟨hix,h2.imp id fun z=>⟨rfl,z.2⟩⟩
  ·rw [Aje q] at h2
   by_cases q2:k=j
   ·rw [q2,r2] at h1; cases h1
   ·rw [r3 k q q2] at h1; exact ⟨h1,.inl h2⟩
 have hS:∀ b,Eg s g b→b < w.heap.size→Eg s1 (Kq g ix j c) b∧w.heap[b]? = w.heap[b]? := fun b hb _=>by
  refine ⟨⟨hb.1,fun k hk hkb=>?_,fun k hk hi=>?_⟩,rfl⟩
  ·obtain ⟨q1,q2⟩:=b1 k b hkb
   by_cases q:k=ix
   ·exact hb.2.1 k (by rw [q,hr]; rfl) q2
   ·rw [r3 k q q1] at hk; exact hb.2.1 k hk q2
  ·obtain ⟨q1,q2 | ⟨_,q2⟩⟩:=i1 k b hk hi
   ·exact hb.2.2 k q1 q2
   ·exact hb.2.1 j hjl q2
 have hI:∀ k,Az s g s1 (Kq g ix j c) k:=fun k=>by
  by_cases q:k=ix
  ·subst q
   unfold Az
   rw [hr,r1]
   exact .inr (.inl ⟨by simp only [Jw.nlen,hlen,Bool.toNat_false,Nat.add_zero],rfl,As _ _ hixj⟩)
  ·by_cases q2:k=j
   ·subst q2; exact .inl r2
   ·exact Az.same (r3 k q q2) (As _ _ q2) rfl
 refine ⟨hS,hI,h.step h.size h.defers (Nat.le_refl _) hS hI (fun i=>?_) (fun k=>?_) (fun i k b hi hk=>h.inj i k b (b1 i b hi).2 (b1 k b hk).2) (fun i b hi=>h.lt i b (b1 i b hi).2) rfl ⟨fun k h1 h2=>.inl ⟨?_,fun _ _=>rfl⟩,fun k b h1 h2=>?_⟩⟩
 ·exact .inl ⟨hcell i,rfl⟩
 ·by_cases q:k=ix
  ·subst q
   right
   rw [r1]
   have rx:=h.res k
   rw [hr] at rx
   obtain ⟨cs,h1,h2,h3,h4⟩:=rx
   have hcl:cs.length=xs.length + c.toNat:=by simpa using h1.1
   refine ⟨cs,by rw [hlen]; exact h1,?_,(As _ _ hixj).trans h3,fun u hc=>by cases hc⟩
   have hkeep:Ayv w (Eg s1 (Kq g k j c)) (g.inn k) e0.i t xs cs:=h2.keep hS fun _ _=>rfl
   have hinn:(Kq g k j c).inn k=fun b=>g.inn k b∨(c=true∧g.blk j=some b):=Xy
   rw [hinn]
   cases c with
   | false=>exact ⟨fun i x u h1 h2=>by
     obtain ⟨ds,q1,q2,q3⟩:=hkeep.row i x u h1 h2
     exact ⟨ds,q1,q2,fun b hb=>.inl (q3 b hb)⟩,hkeep.one⟩
   | true=>
    simp only [Bool.toNat_true] at hcl
    obtain ⟨u0,hu0⟩:∃ u,cs[xs.length]? = some u:=⟨_,List.getElem?_eq_getElem (by omega)⟩
    have hq:=h4 u0 rfl hu0
    rw [hj] at hq
    simp only at hq
    have rj:=h.res j
    rw [hj] at rj
    obtain ⟨ds,d1,d2,d3⟩:=rj
    have new:∀ b,u0.ownBlock=some b→g.blk j=some b:=fun b hb=>by rw [d3,← hq]; exact hb
    refine ⟨fun i x u h1 h2=>?_,fun i i' u u' b h1 h2 h3 h4 h5 h6=>?_⟩
    ·by_cases q:i < xs.length
     ·rw [show K4 true xs ys=xs++[ys] from rfl,List.getElem?_append_left q] at h1
      obtain ⟨ds,q1,q2,q3⟩:=hkeep.row i x u h1 h2
      exact ⟨ds,q1,q2,fun b hb=>.inl (q3 b hb)⟩
     ·have hi:=(List.getElem?_eq_some_iff.1 h2).1
      have hi:i=xs.length:=by omega
      subst hi
      rw [show K4 true xs ys=xs++[ys] from rfl,List.getElem?_append_right (Nat.le_refl _),Nat.sub_self] at h1
      have h1:ys=x:=by simpa using h1
      subst h1
      obtain rfl:u0=u:=Option.some.inj (hu0.symm.trans h2)
      exact ⟨ds,by rw [hq]; exact d1,d2.keep hS,fun b hb=>.inr ⟨rfl,new b hb⟩⟩
    ·have c1:i < xs.length∨i=xs.length:=by rw [hlen] at h1; simp at h1; omega
     have c2:i' < xs.length∨i'=xs.length:=by rw [hlen] at h2; simp at h2; omega
     have old:∀ i u,i < xs.length→cs[i]? = some u→∀ b,u.ownBlock=some b→g.blk j≠some b:=fun i u hi hu b hb=>by
      obtain ⟨ds,q1,q2,q3⟩:=hkeep.row i _ u (List.getElem?_eq_getElem hi) hu
      exact (h.inn k b hix (q3 b hb)).2.1 j
     rcases c1 with c1 | c1<;>rcases c2 with c2 | c2
     ·exact hkeep.one i i' u u' b c1 c2 h3 h4 h5 h6
     ·subst c2
      obtain rfl:u0=u':=Option.some.inj (hu0.symm.trans h4)
      exact absurd (new b h6) (old i u c1 h3 b h5)
     ·subst c1
      obtain rfl:u0=u:=Option.some.inj (hu0.symm.trans h3)
      exact absurd (new b h5) (old i' u' c2 h4 b h6)
     ·rw [c1,c2]
  ·by_cases q2:k=j
   ·subst q2
    right
    rw [r2]
    exact Al _ _ _
   ·exact .inl ⟨r3 k q q2,As _ _ q2,rfl,fun _ _=>rfl⟩
 ·by_cases q:k=ix
  ·subst q
   have e1:(Kq g k j c).inn k=fun b=>g.inn k b∨(c=true∧g.blk j=some b):=Xy
   rw [e1]
   rw [r1,hr] at h1
   cases c with
   | false=>funext b; simp
   | true=>exact absurd h1 (by simp)
  ·exact Aje q
 ·obtain ⟨q1,q2⟩:=i1 k b h1 h2
  have base:(b < w.heap.size∧(b∈Iq∨B≤b)∧¬ g.av b)∧(∀ id',id'≠j→g.blk id'≠some b)∧∀ id',id'≠k→(s.res id').nst=true→¬ g.inn id' b:=by
   rcases q2 with q2 | ⟨rfl,q2⟩
   ·obtain ⟨k1,k2,k3⟩:=h.inn k b q1 q2
    exact ⟨k1,fun id' _=>k2 id',k3⟩
   ·exact ⟨h.lt j b q2,fun id' hne hb=>hne (h.inj id' j b hb q2),fun id' _ hn hi=>(h.inn id' b hn hi).2.1 j q2⟩
  refine ⟨base.1,fun id' hb=>?_,fun id' hne hn hi=>?_⟩
  ·obtain ⟨q3,q4⟩:=b1 id' b hb
   exact base.2.1 id' q3 q4
  ·obtain ⟨q3,q4 | ⟨q5,q4⟩⟩:=i1 id' b hn hi
   ·exact base.2.2 id' hne q3 q4
   ·rcases q2 with q2 | ⟨q2,_⟩
    ·exact (h.inn k b q1 q2).2.1 j q4
    ·exact hne (q5.trans q2.symm)
theorem Aum {j:Nat} (h:Ax8 s j=true):∃ (e:TypeId) (t:Ty) (ys:List t.D),s.res j=.row e t ys:=by
 unfold Ax8 at h
 split at h
 ·exact ⟨_,_,_,by assumption⟩
 ·cases h
theorem A57 (h:Bp n B Iq s g a w) {nid:Nat} {T ty:TypeId} {x y:Operand} {l:Lf} {s':St} (e:Nl (Ar1 P s nid T x y)=some (l,s')):
  ∃ u w' g',(Builtin.append_ #[T,T] ty #[a.eval x,a.eval y]).run P w=.ok u w'∧Go B Iq s g w s' g' w'∧Bp n B Iq s' g' a w'∧Cx s' g' w' l u∧u.oneCell'=true:=by
 obtain ⟨cs0,e,hc⟩:=Cn e
 unfold Ar1 at e
 split at e
 ·rename_i el ix iy hel hx hy
  split at e
  ·rename_i e0 t xs c j e2 t2 xs2 c2 j2 hr hr2
   split at e
   ·rename_i ej tj ys hj hnid
    split at e
    ·rename_i hl2
     split at e
     ·cases e
     rename_i hjj
     split at e
     ·rename_i ht
      split at e
      ·rename_i he
       split at e
       rotate_left
       ·cases e
       rename_i hei
       split at e<;>cases e
       rename_i hsz
       subst ht
       subst hei
       obtain ⟨c1,hc⟩:=Ly hc
       obtain ⟨c3,hc⟩:=A1 hc
       obtain ⟨c4,hc⟩:=A1 hc
       obtain ⟨c5,_⟩:=A1 hc
       subst c1
       obtain ⟨ej2,tj2,ys2,hj2⟩:=Aum hl2
       obtain ⟨hU,_,_,hby,⟨i,z,hi,hz,hi1,hi2,hzs⟩,_⟩:=f5 hel
       obtain ⟨f1,f2,f3⟩:=Bf7 h hr hj
       have hixj:ix≠j:=fun q=>by rw [q,hj] at hr; cases hr
       have hr':((s.setRes j .dead).setRes ix (.last e0 tj (K4 c xs ys) false j)).res ix=.last e0 tj (K4 c xs ys) false j:=Ai _ _ _
       have k4:(K4 c xs ys).length=xs.length + c.toNat:=by cases c<;>simp [K4]
       have rx:=f3.res ix
       rw [hr'] at rx
       obtain ⟨cs,k1,k2,k3,_⟩:=rx
       have k1:Hr w (.sl tj) 0 e0.o (Ty.sl tj).sz (g.hdr ix) (K4 c xs ys).length cs:=k1
       have hlx:a.eval x=g.hdr ix:=by
        obtain ⟨hl,_⟩:=C7 h hx
        simpa only [Cx,hr] using hl
       have hly:a.eval y=g.hdr iy:=by
        obtain ⟨hl,_⟩:=C7 h hy
        simpa only [Cx,hr2] using hl
       have ry:=h.res iy
       rw [hr2] at ry
       obtain ⟨csy,y1,y2,y3,y4⟩:=ry
       rw [c3] at y1 y4
       simp only [Bool.toNat_true] at y1
       have hyl:csy.length=1:=by simpa using y1.1
       obtain ⟨u,rfl⟩:∃ u,csy=[u]:=by
        match csy,hyl with
        | [u],_=>exact ⟨u,rfl⟩
       have hu:=y4 u rfl rfl
       rw [hj2] at hu
       simp only at hu
       have hu1:u.oneCell'=true:=by
        have rj:=h.res j2
        rw [hj2] at rj
        obtain ⟨_,q1,_⟩:=rj
        rw [hu]
        exact W9 q1
       have hsrc:Src P i.size T (a.eval y) 1 [u] w:=by
        rw [hi1,hsz,hly]
        rcases y1.2 with ⟨_,hn⟩ | ⟨b,cap,cur,hv,_⟩
        ·omega
        ·have hc:=y1.cells (g:=b) (by rw [hv]; rfl)
         rw [hv]
         exact Src.ofSlice w hU _ _ cap [u] (by simp) hc (by simpa using hu1)
       have kk:w.ownsRow 0 el.e i.size (a.eval x) (K4 c xs ys).length cs:=by
        refine (E4 (t:=.sl tj) rfl).1 ?_
        rw [hi1,hsz,hlx,← he]
        exact k1
       have hlen:xs.length + c.toNat + 1≤140737488355328:=Nat.le_trans (Nat.le_mul_of_pos_right _ hby) c5
       obtain ⟨v',w',q1,q2,q3,q4⟩:=Ax6 w T T ty el.e i z hU hi hz (by rw [hzs,hi1]) kk hsrc (by simp only [maxLen]; omega) (by rw [hi2,k4]; exact c5)
       have q2:=(E4 (t:=.sl tj) rfl).2 q2
       have hcl:cs.length=(K4 c xs ys).length:=by simpa [Ty.sz] using k1.1
       have hnj:nid≠j:=fun q=>by rw [q,hj] at hnid; cases hnid
       have hnix:nid≠ix:=fun q=>by rw [q,hr] at hnid; cases hnid
       have hf1:((s.setRes j .dead).setRes ix (.last e0 tj (K4 c xs ys) false j)).res nid=.unborn:=((Ak _ _ hnix).trans (Ak s _ hnj)).trans hnid
       obtain ⟨m1,m2,m3,m4⟩:=f3.growR (o:=some ix) hf1 (v:=a.eval x) (v':=v') (w':=w') (r:=.last e0 tj (K4 c xs ys) true j2) (I:=(Kq g ix j c).innL ix) (fun id q=>by
        cases q
        exact ⟨by rw [hr']; rfl,hlx,by rw [hlx]; exact k3⟩) (fun q=>by cases q) q3 q4 (Aja q2) (fun _ b hb=>⟨ix,rfl,by rw [hr']; rfl,hb⟩) (fun hS _=>by
        refine ⟨cs++[u],?_,?_,?_,fun u' _ hu'=>?_⟩
        ·rw [hi1,hsz,← he] at q2
         simpa [Gh.mv] using q2
        ·have hmi:(Gh.mv (Kq g ix j c) (some ix) nid v' ((Kq g ix j c).innL ix)).inn nid=(Kq g ix j c).inn ix:=by funext b; simp only [Gh.inn,Gh.mv,Al]
         rw [hmi]
         refine (k2.keep hS fun b hb=>?_).congr fun i2 hi2=>?_
         ·obtain ⟨⟨n1,_,_⟩,n4,_⟩:=f3.inn ix b (by rw [hr']; rfl) hb
          exact q3.block b n1 fun q=>n4 ix (by rw [k3]; rw [← show a.eval x=(Kq g ix j c).hdr ix from hlx]; exact q.symm)
         ·rw [List.getElem?_append_left (by omega)]
        ·simp [Gh.mv]
        ·rw [← hcl,List.getElem?_append_right (Nat.le_refl _),Nat.sub_self] at hu'
         have hu':u=u':=by simpa using hu'
         have h1:j2≠nid:=fun q=>by rw [q,hnid] at hj2; cases hj2
         have h2:j2≠ix:=fun q=>by rw [q,hr] at hj2; cases hj2
         have h3:j2≠j:=fun q=>hjj (by rw [q]; exact Nat.beq_refl j)
         rw [Ak _ _ h1]
         have e5:(Ei ((s.setRes j .dead).setRes ix (.last e0 tj (K4 c xs ys) false j)) (some ix)).res j2=.row ej2 tj2 ys2:=by
          show ((((s.setRes j .dead).setRes ix (.last e0 tj (K4 c xs ys) false j))).setRes ix .dead).res j2=_
          rw [Ak _ _ h2,Ak _ _ h2,Ak _ _ h3,hj2]
         rw [e5]
         have hd:(Gh.mv (Kq g ix j c) (some ix) nid v' ((Kq g ix j c).innL ix)).hdr j2=g.hdr j2:=by simp [Gh.mv,Kq,As _ _ h1]
         rw [hd]
         exact hu'.symm.trans hu)
       refine ⟨v',w',_,q1,Go.trans ⟨Kp.refl B Iq w,f1,f2,rfl⟩ ⟨m4,m1,m2,rfl⟩,m3,?_,W9 q2⟩
       simp only [Cx,Ai]
       simp [Gh.mv]
      ·cases e
     ·cases e
    ·cases e
   ·cases e
  ·cases e
 ·cases e
theorem Aun (h:Bp n B Iq s g a w) {nid:Nat} {T:TypeId} {l0:Lf} {u0:Value} (hl0:Cx s g w l0 u0) (h10:u0.oneCell'=true) {l:Lf} {s':St} (e:Aoh P s nid T l0=some (l,s')):
  ∃ u w' g',(Instr.buildSlice T 1 #[(0,u0)]).run P w=.ok u w'∧Go B Iq s g w s' g' w'∧Bp n B Iq s' g' a w'∧Cx s' g' w' l u∧u.oneCell'=true:=by
 unfold Aoh at e
 split at e
 ·rename_i el j hel hf
  split at e
  ·rename_i ej t ys hj
   split at e
   ·rename_i ht
    split at e<;>cases e
    obtain ⟨hU,hsz,hzl,hby,⟨i,z,hi,hz,hi1,hi2,hzs⟩,hzL⟩:=f5 hel
    have hs1:el.t.sz=1:=by rw [ht]; rfl
    have hlj:u0=g.hdr j:=by simpa only [Cx,hj] using hl0
    have hnj:j≠nid:=fun q=>by rw [q,hf] at hj; cases hj
    obtain ⟨zv,_,hL0,i',hi',hz'⟩:=Nf hzL s g w
    obtain rfl:i=i':=Option.some.inj (hi.symm.trans hi')
    obtain rfl:z=zv:=Option.some.inj (hz.symm.trans hz')
    have hL1:=Bfw hL0 (by omega) 1
    rw [hzl,hs1] at hL1
    have hfl:y9 (fun i=>some (i * 1,1)) (d8 el.z 1) [(0,.lf (.row j))]=some [.row j]:=by
     have:(d8 el.z 1).length=1:=by rw [Xa,hzl,hs1]
     match hq:d8 el.z 1,this with
     | [z0],_=>simp [y9,Vl.ls]
    obtain ⟨cs',f1,f2⟩:=Ay2 hfl (us:=[(0,u0)]) ⟨⟨rfl,hl0,h10⟩,trivial⟩ hL1
    obtain ⟨u',hcs'⟩:∃ u',cs'=#[u']:=by
     have:=f2.length
     simp at this
     exact ⟨cs'[0],by apply Array.ext<;>simp [this]; intro i p; subst p; rfl⟩
    subst hcs'
    have hu':u'=g.hdr j:=by
     have:=f2.1.1
     simpa only [Cx,hj] using this
    have hrun:(Instr.buildSlice T 1 #[(0,u0)]).run P w=.ok (.slice (some ⟨w.heap.size,0,none⟩) 1 1) (w.alloc (.cells #[u'] el.e)):=by
     refine run_buildSlice w T el.e 1 _ #[u'] i z hU hi hz (by rw [hi1,hs1]; decide) (by rw [hi1,hs1]; decide) ?_
     rw [hi1,hs1]
     exact f1
    have hS:=Ai9 h hf (.last ⟨el.e,ej,false⟩ t [] true j) (.slice (some ⟨w.heap.size,0,none⟩) 1 1) (.cells #[u'] el.e)
    refine ⟨_,_,_,hrun,Go.alloc h hf _ (.slice (some ⟨w.heap.size,0,none⟩) 1 1) _,h.alloc hf _ (.slice (some ⟨w.heap.size,0,none⟩) 1 1) _ ⟨[u'],?_,?_,?_,fun u2 _ hu2=>?_⟩,?_,rfl⟩
    ·simp only [Gh.new,Al]
     exact (E4 (t:=.sl t) rfl).2 (World.ownsRow_lit w #[u'] 1 (Nat.zero_le _) (by decide) (by simp))
    ·exact ⟨fun i x u hx=>(by cases hx),fun i _ _ _ _ hx=>absurd hx (Nat.not_lt_zero _)⟩
    ·simp only [Gh.new,Al,Value.ownBlock]
    ·simp at hu2
     rw [Ak _ _ hnj,hj]
     simp only [Gh.new,As _ _ hnj]
     exact hu2.symm.trans hu'
    ·simp only [Cx,Ai,Gh.new,Al]
   ·cases e
  ·cases e
 ·cases e
theorem A8h (h:Bp n B Iq s g a w) {nid:Nat} {T:TypeId} {parts:Array (Nat×Operand)} {l:Lf} {s':St} (e:Aze P s nid T parts.toList=some (l,s')):
  ∃ u w' g',(Instr.buildSlice T 1 (parts.map fun (i,x)=>(i,a.eval x))).run P w=.ok u w'∧Go B Iq s g w s' g' w'∧Bp n B Iq s' g' a w'∧Cx s' g' w' l u∧u.oneCell'=true:=by
 unfold Aze at e
 split at e
 ·rename_i x hp
  have hpa:(parts.map fun (i,x)=>(i,a.eval x))=#[(0,a.eval x)]:=by
   have:parts=#[(0,x)]:=by
    apply Array.toList_inj.1
    rw [hp]
   rw [this]
   simp
  rw [hpa]
  split at e
  ·rename_i el hx hel
   split at e
   ·rename_i v1 s1 hn
    obtain ⟨g1,n1,n2,n3⟩:=A8f h hn
    have hv1:v1=.vl (.lf (.row (nid + 1))):=by
     unfold A8d at hn
     split at hn<;>cases hn
     rfl
    subst hv1
    obtain ⟨hl,_⟩:=C7 h hx
    have hl:a.eval x=.slice none 0 0:=hl
    rw [hl]
    obtain ⟨u,w',g',k1,k2,k3,k4,k5⟩:=Aun n2 n3.1 n3.2 e
    exact ⟨u,w',g',k1,n1.trans k2,k3,k4,k5⟩
   ·cases e
  ·rename_i l0 el _ hx _
   obtain ⟨hl,h1⟩:=C7 h hx
   exact Aun h hl h1 e
  ·cases e
 ·cases e
end
end
section
theorem Aau {α β:Type} (f:α→β):∀ (l:List α) (i:Nat),(l.eraseIdx i).map f=(l.map f).eraseIdx i
 | [],_=>rfl
 | _::_,0=>rfl
 | a::l,i + 1=>by simp [List.eraseIdx_cons_succ,Aau f l i]
def Agd (a b:Aa):Bool:=ByteArray.toList a==ByteArray.toList b
theorem H9 {a b:Aa}:Agd a b=true↔a=b:=by
 unfold Agd
 constructor
 ·intro h
  have h:a.toList=b.toList:=eq_of_beq h
  rw [ByteArray.toList_eq,ByteArray.toList_eq] at h
  apply ByteArray.ext
  exact Array.ext' h
 ·rintro rfl
  simp
theorem Aav {a b:Aa} (h:a≠b):Agd a b=false:=by
 cases hq:Agd a b
 ·rfl
 ·exact absurd (H9.1 hq) h
def Xz {α:Type} (k:Aa) (v:α):List (Aa×α)→List (Aa×α)
 | []=>[(k,v)]
 | p::r=>bif Agd p.1 k then (k,v)::r else p::Xz k v r
def Age {α:Type} (k:Aa):List (Aa×α)→List (Aa×α)
 | []=>[]
 | p::r=>bif Agd p.1 k then r else p::Age k r
def Auo (k:Aa):List (Aa×Bool)→Bool
 | []=>false
 | p::r=>bif Agd p.1 k then p.2 else Auo k r
section
variable {α:Type} {k:Aa} {v:α}
theorem A4n:∀ {xs:List (Aa×α)},(∀ p∈xs,p.1≠k)→Xz k v xs=xs++[(k,v)]
 | [],_=>rfl
 | p::r,h=>by
  simp only [Xz,Aav (h p (by simp)),cond_false]
  rw [A4n (fun q hq=>h q (by simp [hq]))]
  rfl
theorem Bc0:∀ {xs:List (Aa×α)} {j:Nat} {y:α},xs[j]? = some (k,y)→(xs.map Prod.fst).Nodup→Xz k v xs=xs.set j (k,v)
 | [],j,y,h,_=>by simp at h
 | p::r,0,y,h,_=>by
  simp at h
  subst h
  simp only [Xz,H9.2 rfl,cond_true,List.set_cons_zero]
 | p::r,j + 1,y,h,hn=>by
  simp only [List.getElem?_cons_succ] at h
  simp only [List.map_cons,List.nodup_cons] at hn
  have:p.1≠k:=fun q=>hn.1 (List.mem_map.2 ⟨(k,y),List.mem_of_getElem? h,q.symm⟩)
  simp only [Xz,Aav this,cond_false,List.set_cons_succ]
  rw [Bc0 h hn.2]
theorem A4o:∀ {xs:List (Aa×α)},(∀ p∈xs,p.1≠k)→Age k xs=xs
 | [],_=>rfl
 | p::r,h=>by
  simp only [Age,Aav (h p (by simp)),cond_false]
  rw [A4o (fun q hq=>h q (by simp [hq]))]
theorem Bc1:∀ {xs:List (Aa×α)} {j:Nat} {y:α},xs[j]? = some (k,y)→(xs.map Prod.fst).Nodup→Age k xs=xs.eraseIdx j
 | [],j,y,h,_=>by simp at h
 | p::r,0,y,h,_=>by
  simp at h
  subst h
  simp only [Age,H9.2 rfl,cond_true,List.eraseIdx_zero,List.tail_cons]
 | p::r,j + 1,y,h,hn=>by
  simp only [List.getElem?_cons_succ] at h
  simp only [List.map_cons,List.nodup_cons] at hn
  have:p.1≠k:=fun q=>hn.1 (List.mem_map.2 ⟨(k,y),List.mem_of_getElem? h,q.symm⟩)
  simp only [Age,Aav this,cond_false,List.eraseIdx_cons_succ]
  rw [Bc1 h hn.2]
theorem Azf:∀ {xs:List (Aa×Bool)},(∀ p∈xs,p.1≠k)→Auo k xs=false
 | [],_=>rfl
 | p::r,h=>by
  simp only [Auo,Aav (h p (by simp)),cond_false]
  exact Azf (fun q hq=>h q (by simp [hq]))
theorem A8i:∀ {xs:List (Aa×Bool)} {j:Nat} {y:Bool},xs[j]? = some (k,y)→(xs.map Prod.fst).Nodup→Auo k xs=y
 | [],j,y,h,_=>by simp at h
 | p::r,0,y,h,_=>by
  simp at h
  subst h
  simp only [Auo,H9.2 rfl,cond_true]
 | p::r,j + 1,y,h,hn=>by
  simp only [List.getElem?_cons_succ] at h
  simp only [List.map_cons,List.nodup_cons] at hn
  have:p.1≠k:=fun q=>hn.1 (List.mem_map.2 ⟨(k,y),List.mem_of_getElem? h,q.symm⟩)
  simp only [Auo,Aav this,cond_false]
  exact A8i h hn.2
end
def Ajf:Ty→Bool
 | .int _=>true
 | .bool=>true
 | .str=>true
 | _=>false
def Bj6 (P:Program) (T:TypeId):Bool:=match P.underlying T with
 | some (.map _ _)=>true
 | _=>false
def Ar2 (P:Program) (s:St) (nid:Nat) (T:TypeId):Option (Lf×St):=match P.underlying T,s.res nid with
 | some (.map kt et),.unborn=>match P.underlying kt,Bh6 P 12 et with
  | some .string,some t=>if Ajf t then some (.row nid,s.setRes nid (.map t [])) else none
  | _,_=>none
 | _,_=>none
def Azg (P:Program) (s:St) (T:TypeId) (m k v:Operand):Option St:=match P.underlying T,s.leaf m,s.conc k,s.leaf v with
 | some (.map kt et),some (.row id),some (.string kb),some lv=>match P.underlying kt,s.res id with
  | some .string,.map t xs=>if Ajf t then (s.leafD t lv).bind fun x=>some (s.setRes id (.map t (Xz kb x xs))) else none
  | _,_=>none
 | _,_,_,_=>none
def Azh (P:Program) (s:St) (T U:TypeId) (m k:Operand):Option St:=match P.underlying T,s.leaf m,s.conc k with
 | some (.map kt et),some (.row id),some (.string kb)=>match P.underlying kt,s.res id with
  | some .string,.map t xs=>if U=kt then some (s.setRes id (.map t (Age kb xs))) else none
  | _,_=>none
 | _,_,_=>none
def Aaw (P:Program) (s:St) (T:TypeId) (m:Operand):Option Value:=match P.underlying T,s.leaf m with
 | some (.map kt et),some (.row id)=>match s.res id with
  | .map t xs=>some (.int .i64 (List.length xs:Int))
  | _=>none
 | _,_=>none
def Bf8 (t:Ty) (xs:List (Aa×t.D)):Option (List (Aa×Bool)):=if h:t=.bool then some (show List (Aa×Ty.bool.D) from h ▸ xs) else none
def Ar3 (P:Program) (s:St) (T:TypeId) (m k:Operand):Option Value:=match P.underlying T,s.leaf m,s.conc k with
 | some (.map kt et),some (.row id),some (.string kb)=>match P.underlying kt,Ada P et,P.info? et,s.res id with
  | some .string,some ls,some inf,.map t xs=>match inf.zero with
   | some (.bool false)=>(Bf8 t xs).bind fun ys=>some (.bool (Auo kb ys))
   | _=>none
  | _,_,_,_=>none
 | _,_,_=>none
def A58 (P:Program) (s:St) (nid:Nat) (T:TypeId) (m:Operand):Option (Lf×St):=match P.underlying T,s.leaf m,s.res nid with
 | some (.map kt et),some (.row id),.unborn=>match s.res id with
  | .map t xs=>some (.row nid,(s.setRes id .dead).setRes nid (.iter t xs xs none))
  | _=>none
 | _,_,_=>none
def A59 (s:St) (it:Operand):Option AV:=match s.leaf it with
 | some (.row id)=>match s.res id with
  | .iter t _ _ (some p)=>if Ajf t then some (.tp [.lf (.c (.string p.1)),.lf (.c (Q7 t p.2))]) else none
  | _=>none
 | _=>none
section
variable {P:Program} {n B:Nat} {Iq:List Nat} {s:St} {g:Gh} {a:Act} {w:World}
theorem Q8.len {es:Array MapEntry} {t:Ty} {xs:List (Aa×t.D)} (h:Q8 es t xs):es.size=xs.length:=by
 have:=congrArg List.length h
 simpa using this
theorem Q8.keys {es:Array MapEntry} {t:Ty} {xs:List (Aa×t.D)} (h:Q8 es t xs):es.toList.map (·.key)=xs.map fun p=>Value.string p.1:=by
 have:=congrArg (List.map Prod.fst) h
 simpa [List.map_map,Function.comp_def] using this
theorem Q8.isKey {es:Array MapEntry} {t:Ty} {xs:List (Aa×t.D)} (h:Q8 es t xs):∀ x∈es.toList,MapKept.IsKey .string x.key:=fun x hx=>by
 have:x.key∈es.toList.map (·.key):=List.mem_map_of_mem hx
 rw [h.keys] at this
 obtain ⟨p,_,hp⟩:=List.mem_map.1 this
 rw [← hp]
 trivial
theorem Q8.nodup {es:Array MapEntry} {t:Ty} {xs:List (Aa×t.D)} {clock:Nat} (h:Q8 es t xs) (hs:MapKept.Stamped es clock):(xs.map Prod.fst).Nodup:=by
 have:=hs.2.2
 rw [h.keys] at this
 have h2:(xs.map fun p=>Value.string p.1)=(xs.map Prod.fst).map Value.string:=by simp [List.map_map,Function.comp_def]
 rw [h2] at this
 exact List.Pairwise.imp (fun {a b} (q:Value.string a≠Value.string b) hab=>q (congrArg Value.string hab)) (List.pairwise_map.1 this)
theorem Q8.get {es:Array MapEntry} {t:Ty} {xs:List (Aa×t.D)} (h:Q8 es t xs) {j:Nat} {e:MapEntry} (he:es.toList[j]? = some e):∃ p,xs[j]? = some p∧e.key=.string p.1∧e.val=Q7 t p.2:=by
 have h1:(es.toList.map (fun e=>(e.key,e.val)))[j]? = some (e.key,e.val):=by rw [List.getElem?_map,he]; rfl
 rw [h,List.getElem?_map] at h1
 obtain ⟨p,hp,hq⟩:=Option.map_eq_some_iff.1 h1
 obtain ⟨h2,h3⟩:=Prod.mk.inj hq
 exact ⟨p,hp,h2.symm,h3.symm⟩
theorem Q8.none_of {es:Array MapEntry} {t:Ty} {xs:List (Aa×t.D)} (h:Q8 es t xs) {k:Aa} (hn:∀ x∈es.toList,x.key≠.string k):∀ p∈xs,p.1≠k:=fun p hp q=>by
 have:Value.string p.1∈xs.map (fun p=>Value.string p.1):=List.mem_map_of_mem (f:=fun p:Aa×t.D=>Value.string p.1) hp
 rw [← h.keys] at this
 obtain ⟨x,hx,hk⟩:=List.mem_map.1 this
 exact hn x hx (by rw [hk,q])
theorem Aya (h:Bp n B Iq s g a w) {id b:Nat} {t:Ty} {xs xs':List (Aa×t.D)} {es es':Array MapEntry} {clock clock':Nat} (hr:s.res id=.map t xs) (hb:g.blk id=some b) (hh:w.heap[b]? = some (.map es clock))
  (hs':MapKept.Stamped es' clock') (hm':Q8 es' t xs'):
  Go B Iq s g w (s.setRes id (.map t xs')) g { w with heap:=w.heap.setIfInBounds b (.map es' clock') }∧Bp n B Iq (s.setRes id (.map t xs')) g a { w with heap:=w.heap.setIfInBounds b (.map es' clock') }:=by
 obtain ⟨hset1,hset2⟩:=MapKept.heap_set (o':=.map es' clock') hh
 have hlive:(s.res id).live=true:=by rw [hr]; rfl
 have hne:∀ k,k≠b→({ w with heap:=w.heap.setIfInBounds b (.map es' clock') }:World).heap[k]? = w.heap[k]? := fun k hk=>hset2 k hk
 have hS:∀ c,Eg s g c→c < w.heap.size→Eg (s.setRes id (.map t xs')) g c∧({ w with heap:=w.heap.setIfInBounds b (.map es' clock') }:World).heap[c]? = w.heap[c]? := by
  intro c hc _
  refine ⟨⟨hc.1,fun j hj=>?_,fun j hj=>hc.2.2 j (Ej rfl hj)⟩,hne c (fun q=>hc.2.1 id hlive (by rw [q]; exact hb))⟩
  by_cases q:j=id
  ·rw [q]; exact hc.2.1 id hlive
  ·rw [Ak s _ q] at hj; exact hc.2.1 j hj
 have hI:∀ j,Az s g (s.setRes id (.map t xs')) g j:=by
  intro j
  by_cases q:j=id
  ·subst q
   unfold Az
   rw [hr,Ai]
   exact .inr ⟨_,_,rfl,rfl,rfl⟩
  ·exact Az.same (Ak s _ q) rfl rfl
 refine ⟨⟨⟨rfl,rfl,rfl,by simp,fun k hk hn=>hne k (fun q=>?_)⟩,hS,hI,rfl⟩,h.step h.size h.defers (by simp) hS hI (fun i=>.inl ⟨rfl,rfl⟩) (fun j=>?_) h.inj (fun j c hj=>?_) rfl (NK.of h (by simp) (fun j c h1 h2=>⟨Ej rfl h1,h2⟩) (fun _ _=>rfl) (fun c _ hc=>hne c (fun q=>hc id (by rw [q]; exact hb))) fun j c hj=>.inl ⟨j,hj⟩)⟩
 ·subst q
  rcases (h.lt id k hb).2.1 with q2 | q2
  ·exact hn q2
  ·omega
 ·by_cases q:j=id
  ·subst q
   right
   rw [Ai]
   have r:=h.res j
   rw [hr] at r
   obtain ⟨b',_,_,h1,h2,_⟩:=r
   obtain rfl:b'=b:=Option.some.inj (h1.symm.trans hb)
   exact ⟨b',es',clock',h1,h2,hset1,hs',hm'⟩
  ·left
   exact ⟨Ak s _ q,rfl,rfl,fun c hc=>hne c (fun q2=>q (h.inj j id c hc (by rw [q2]; exact hb)))⟩
 ·have:=h.lt j c hj
  simpa using this
theorem Bib {t:Ty} (ht:Ajf t=true) {S:Nat→Prop} {x:t.D} {u:Value} (h:t.K w S x [u]):u=Q7 t x:=by
 cases t<;>first | (cases h; rfl) | (cases ht; done)
theorem A8j (h:Bp n B Iq s g a w) {T:TypeId} {m k v:Operand} {s':St} (e:Azg P s T m k v=some s'):
  ∃ w' g',(Instr.mapUpdate T (a.eval m) (a.eval k) (a.eval v)).run P w=.ok () w'∧Go B Iq s g w s' g' w'∧Bp n B Iq s' g' a w':=by
 unfold Azg at e
 split at e
 ·rename_i kt et id kb lv hT hm hk hv
  split at e
  ·rename_i t xs hkt hr
   split at e
   ·rename_i hpt
    obtain ⟨x,hx,e⟩:=A6 e
    cases e
    obtain ⟨hl,_⟩:=C7 h hm
    obtain ⟨hlv,_⟩:=C7 h hv
    have hv2:a.eval v=Q7 t x:=Bib hpt (St.leafD_K hx hlv h.res)
    have r:=h.res id
    rw [hr] at r
    obtain ⟨b,es,clock,r1,r2,r3,r4,r5⟩:=r
    simp only [Cx,hr] at hl
    rw [hl,r2,(Dv h hk).1,hv2]
    have hik:MapKept.IsKey .string (.string kb):=trivial
    rcases MapKept.findNow_spec hik es.toList 0 r5.isKey with ⟨h1,h2⟩ | ⟨j,e0,h1,h2,h3⟩
    ·have hno:=r5.none_of h2
     obtain ⟨k1,k2⟩:=Aya h (xs':=Xz kb x xs) (es':=es.push ⟨.string kb,Q7 t x,clock⟩) (clock':=clock + 1) hr r1 r3 (MapKept.stamped_push r4 h2) (by
      unfold Q8
      rw [A4n hno,Array.toList_push,List.map_append,List.map_append,r5]
      rfl)
     refine ⟨_,g,?_,k1,k2⟩
     simp [Instr.mapUpdate,run_underlying hT,MapKept.run_getObj_map r3,MapKept.run_checkKey hkt hik,MapKept.run_findKey hkt h1,MapKept.run_setObj_map _ r3,Result.andThen]
    ·obtain ⟨p,hp1,hp2,hp3⟩:=r5.get h2
     have hpk:p.1=kb:=by rw [h3] at hp2; cases hp2; rfl
     obtain ⟨pk,py⟩:=p
     simp only at hpk
     subst hpk
     have hj:es[j]? = some e0:=by simpa using h2
     have hjs:j < es.size:=(Array.getElem?_eq_some_iff.1 hj).1
     have hkey:∀ e',es[j]? = some e'→({ e' with key:=Value.string pk,val:=Q7 t x }:MapEntry).key=e'.key:=fun e' he'=>by rw [hj] at he'; cases he'; exact h3.symm
     have hup:=Bc0 (v:=x) hp1 (r5.nodup r4)
     obtain ⟨k1,k2⟩:=Aya h (xs':=Xz pk x xs) (es':=es.modify j (fun e'=>{ e' with key:=.string pk,val:=Q7 t x })) (clock':=clock) hr r1 r3 (MapKept.stamped_modify r4 _ _ (fun _ _=>rfl) (fun e' _ he'=>hkey e' he')) (by
      unfold Q8
      rw [hup,Array.toList_modify,List.map_set]
      apply List.ext_getElem?
      intro i
      have hi:=congrArg (fun l=>l[i]?) r5
      simp only [List.getElem?_map] at hi
      simp only [List.getElem?_map,List.getElem?_modify,List.getElem?_set,List.length_map]
      by_cases q:j=i
      ·subst q
       have hxl:j < xs.length:=by rw [← r5.len]; exact hjs
       rw [h2]
       simp [hxl]
      ·simpa [q] using hi)
     refine ⟨_,g,?_,k1,k2⟩
     simp [Instr.mapUpdate,run_underlying hT,MapKept.run_getObj_map r3,MapKept.run_checkKey hkt hik,MapKept.run_findKey hkt h1,hj,h3,MapKept.run_keyThatStays hik,MapKept.run_setObj_map _ r3,Result.andThen]
   ·cases e
  ·cases e
 ·cases e
theorem A8k (h:Bp n B Iq s g a w) {T U ty:TypeId} {m k:Operand} {s':St} (e:Azh P s T U m k=some s'):
  ∃ w' g',(Builtin.delete_ #[T,U] ty #[a.eval m,a.eval k]).run P w=.ok (.tuple #[]) w'∧Go B Iq s g w s' g' w'∧Bp n B Iq s' g' a w':=by
 unfold Azh at e
 split at e
 ·rename_i kt et id kb hT hm hk
  split at e
  ·rename_i t xs hkt hr
   split at e
   ·rename_i hU
    subst hU
    cases e
    obtain ⟨hl,_⟩:=C7 h hm
    have r:=h.res id
    rw [hr] at r
    obtain ⟨b,es,clock,r1,r2,r3,r4,r5⟩:=r
    simp only [Cx,hr] at hl
    rw [hl,r2,(Dv h hk).1]
    have hik:MapKept.IsKey .string (.string kb):=trivial
    rcases MapKept.findNow_spec hik es.toList 0 r5.isKey with ⟨h1,h2⟩ | ⟨j,e0,h1,h2,h3⟩
    ·have hno:=r5.none_of h2
     obtain ⟨k1,k2⟩:=Aya h (xs':=Age kb xs) (es':=es) (clock':=clock) hr r1 r3 r4 (by rw [A4o hno]; exact r5)
     refine ⟨_,g,?_,k1,k2⟩
     simp [Builtin.delete_,run_underlying hT,MapKept.run_getObj_map r3,MapKept.run_checkKey hkt hik,MapKept.run_findKey hkt h1,MapKept.run_setObj_map _ r3,Result.andThen]
    ·obtain ⟨p,hp1,hp2,hp3⟩:=r5.get h2
     have hpk:p.1=kb:=by rw [h3] at hp2; cases hp2; rfl
     obtain ⟨pk,py⟩:=p
     simp only at hpk
     subst hpk
     have hjl:j < es.toList.length:=(List.getElem?_eq_some_iff.1 h2).1
     have hjs:j < es.size:=by simpa using hjl
     have hsub:(es.eraseIdxIfInBounds j).toList=es.toList.eraseIdx j:=by
      unfold Array.eraseIdxIfInBounds
      rw [dif_pos hjs]
      simp
     obtain ⟨k1,k2⟩:=Aya h (xs':=Age pk xs) (es':=es.eraseIdxIfInBounds j) (clock':=clock) hr r1 r3 (MapKept.stamped_erase r4 j) (by
      unfold Q8
      rw [Bc1 hp1 (r5.nodup r4),hsub,Aau,Aau,r5])
     refine ⟨_,g,?_,k1,k2⟩
     simp [Builtin.delete_,run_underlying hT,MapKept.run_getObj_map r3,MapKept.run_checkKey hkt hik,MapKept.run_findKey hkt h1,MapKept.run_setObj_map _ r3,Result.andThen]
   ·cases e
  ·cases e
 ·cases e
theorem A8l (h:Bp n B Iq s g a w) {T ty:TypeId} {m:Operand} {v:Value} (e:Aaw P s T m=some v):(Builtin.len_ #[T] ty #[a.eval m]).run P w=.ok v w∧v.oneCell'=true:=by
 unfold Aaw at e
 split at e
 ·rename_i kt et id hT hm
  split at e
  ·rename_i t xs hr
   cases e
   obtain ⟨hl,_⟩:=C7 h hm
   have r:=h.res id
   rw [hr] at r
   obtain ⟨b,es,clock,r1,r2,r3,r4,r5⟩:=r
   simp only [Cx,hr] at hl
   rw [hl,r2,← r5.len]
   exact ⟨by simp [Builtin.len_,run_underlying hT,MapKept.run_getObj_map r3,goInt,Result.andThen],rfl⟩
  ·cases e
 ·cases e
theorem A6a (h:Bp n B Iq s g a w) {T:TypeId} {m k:Operand} {v:Value} (e:Ar3 P s T m k=some v):(Instr.lookup T (a.eval m) (a.eval k) false).run P w=.ok v w∧v.oneCell'=true:=by
 unfold Ar3 at e
 split at e
 ·rename_i kt et id kb hT hm hk
  split at e
  ·rename_i ls inf t xs hkt hz hi hr
   split at e
   ·rename_i hiz
    obtain ⟨ys,hys,e⟩:=A6 e
    cases e
    unfold Bf8 at hys
    split at hys<;>cases hys
    rename_i ht
    subst ht
    obtain ⟨z,hz1,_,i',hi',hz'⟩:=Nf hz s g w
    obtain rfl:inf=i':=Option.some.inj (hi.symm.trans hi')
    obtain rfl:Value.bool false=z:=Option.some.inj (hiz.symm.trans hz')
    obtain ⟨hl,_⟩:=C7 h hm
    have r:=h.res id
    rw [hr] at r
    obtain ⟨b,es,clock,r1,r2,r3,r4,r5⟩:=r
    simp only [Cx,hr] at hl
    rw [hl,r2,(Dv h hk).1]
    have hik:MapKept.IsKey .string (.string kb):=trivial
    refine ⟨?_,rfl⟩
    show _=Result.ok (Value.bool (Auo kb xs)) w
    rcases MapKept.findNow_spec hik es.toList 0 r5.isKey with ⟨h1,h2⟩ | ⟨j,e0,h1,h2,h3⟩
    ·have:=Azf (xs:=xs) (r5.none_of h2)
     rw [this]
     simp [Instr.lookup,run_underlying hT,MapKept.run_getObj_map r3,MapKept.run_checkKey hkt hik,MapKept.run_findKey hkt h1,hz1,Result.andThen]
    ·obtain ⟨p,hp1,hp2,hp3⟩:=r5.get h2
     have hpk:p.1=kb:=by rw [h3] at hp2; cases hp2; rfl
     obtain ⟨pk,py⟩:=p
     simp only at hpk
     subst hpk
     have:=A8i (xs:=xs) hp1 (r5.nodup r4)
     rw [this]
     have hp3:e0.val=.bool py:=hp3
     simp [Instr.lookup,run_underlying hT,MapKept.run_getObj_map r3,MapKept.run_checkKey hkt hik,MapKept.run_findKey hkt h1,hz1,hp3,Result.andThen]
   ·cases e
  ·cases e
 ·cases e
theorem A6b (h:Bp n B Iq s g a w) {nid:Nat} {T:TypeId} {l:Lf} {s':St} (e:Ar2 P s nid T=some (l,s')):
  ∃ u w' g',(Instr.makeMap T none).run P w=.ok u w'∧Go B Iq s g w s' g' w'∧Bp n B Iq s' g' a w'∧Cx s' g' w' l u∧u.oneCell'=true:=by
 unfold Ar2 at e
 split at e
 ·rename_i kt et hT hf
  split at e
  ·rename_i t hkt ht
   split at e<;>cases e
   refine ⟨.map (some w.heap.size),w.alloc (.map #[] 0),_,?_,Go.alloc h hf _ (.map (some w.heap.size)) _,h.alloc hf _ (.map (some w.heap.size)) _ ⟨w.heap.size,#[],0,?_,?_,Ay1 w _,MapKept.stamped_empty 0,rfl⟩,?_,rfl⟩
   ·simp [Instr.makeMap,Result.andThen]
   ·simp only [Gh.new,Al]
   ·simp only [Gh.new,Al]
   ·simp only [Cx,Ai,Gh.new,Al]
  ·cases e
 ·cases e
theorem Bic (h:Bp n B Iq s g a w) (id:Nat):Bp n B Iq (s.setRes id .dead) (g.off id) a w∧Go B Iq s g w (s.setRes id .dead) (g.off id) w:=by
 have hS:∀ b,Eg s g b→b < w.heap.size→Eg (s.setRes id .dead) (g.off id) b∧w.heap[b]? = w.heap[b]? := by
  intro b hb _
  refine ⟨⟨hb.1,fun j hj hk=>?_,fun j hj=>hb.2.2 j (Ej rfl hj)⟩,rfl⟩
  by_cases q:j=id
  ·subst q
   simp [Gh.off] at hk
  ·rw [Ak s _ q] at hj
   simp only [Gh.off,As _ _ q] at hk
   exact hb.2.1 j hj hk
 have hI:∀ j,Az s g (s.setRes id .dead) (g.off id) j:=by
  intro j
  by_cases q:j=id
  ·subst q
   exact .inl (Ai s _ _)
  ·exact Az.same (Ak s _ q) (by simp [Gh.off,As _ _ q]) rfl
 refine ⟨h.step h.size h.defers (Nat.le_refl _) hS hI (fun i=>.inl ⟨rfl,rfl⟩) (fun j=>?_) (fun i j b hi hj=>?_) (fun i b hi=>?_) rfl (NK.same_world h (fun j=>Ej rfl) rfl (A52 g id)),⟨Kp.refl B Iq w,hS,hI,rfl⟩⟩
 ·by_cases q:j=id
  ·subst q
   right
   rw [Ai]
   show (g.off j).blk j=none
   simp [Gh.off]
  ·left
   exact ⟨Ak s _ q,by simp [Gh.off,As _ _ q],rfl,fun _ _=>rfl⟩
 ·by_cases q1:i=id
  ·simp [Gh.off,q1] at hi
  ·by_cases q2:j=id
   ·simp [Gh.off,q2] at hj
   ·simp only [Gh.off,As _ _ q1] at hi
    simp only [Gh.off,As _ _ q2] at hj
    exact h.inj i j b hi hj
 ·by_cases q1:i=id
  ·simp [Gh.off,q1] at hi
  ·simp only [Gh.off,As _ _ q1] at hi
   exact h.lt i b hi
theorem Bbi (h:Bp n B Iq s g a w) {nid:Nat} {T:TypeId} {m:Operand} {l:Lf} {s':St} (e:A58 P s nid T m=some (l,s')):
  ∃ u w' g',(Instr.range T (a.eval m)).run P w=.ok u w'∧Go B Iq s g w s' g' w'∧Bp n B Iq s' g' a w'∧Cx s' g' w' l u∧u.oneCell'=true:=by
 unfold A58 at e
 split at e
 ·rename_i kt et id hT hm hf
  split at e
  ·rename_i t xs hr
   cases e
   obtain ⟨hl,_⟩:=C7 h hm
   have r:=h.res id
   rw [hr] at r
   obtain ⟨b,es,clock,r1,r2,r3,r4,r5⟩:=r
   simp only [Cx,hr] at hl
   obtain ⟨k1,k2⟩:=Bic h id
   have hin:id≠nid:=fun q=>by rw [q,hf] at hr; cases hr
   have hf':(s.setRes id .dead).res nid=.unborn:=(Ak s _ hin.symm).trans hf
   have hSb:Eg (s.setRes id .dead) (g.off id) b:=by
    refine ⟨(h.lt id b r1).2.2,fun j hj hk=>?_,fun k hk hi=>(h.inn k b (Ej rfl hk) hi).2.1 id r1⟩
    by_cases q:j=id
    ·subst q
     simp [Gh.off] at hk
    ·simp only [Gh.off,As _ _ q] at hk
     exact q (h.inj j id b hk r1)
   have hlt:=(h.lt id b r1).1
   have hS2:=Ai9 k1 hf' (.iter t xs xs none) (.pointer (some ⟨w.heap.size,0,none⟩)) (.mapIter (some b) clock #[] clock)
   obtain ⟨q1,q2⟩:=hS2 b hSb hlt
   refine ⟨.pointer (some ⟨w.heap.size,0,none⟩),_,_,?_,k2.trans (Go.alloc k1 hf' _ (.pointer (some ⟨w.heap.size,0,none⟩)) (.mapIter (some b) clock #[] clock)),k1.alloc hf' _ (.pointer (some ⟨w.heap.size,0,none⟩)) (.mapIter (some b) clock #[] clock) ⟨b,w.heap.size,es,clock,clock,clock,#[],?_,?_,Ay1 w _,q1,by simp; omega,q2.trans r3,r4,r5,by unfold Alu; rw [List.filter_eq_self.2 (fun x _=>by simp)]; exact r5,r4.1,Nat.le_refl _,Nat.le_refl _,fun _ _ q=>by cases q⟩,?_,rfl⟩
   ·rw [hl,r2]
    exact run_range_map w T kt et b es clock hT r3
   ·simp only [Gh.new,Al]
   ·simp only [Gh.new,Al]
   ·simp only [Cx,Ai,Gh.new,Al]
  ·cases e
 ·cases e
theorem A4p {t:Ty} {v:t.D} (h:Ajf t=true):(Q7 t v).oneCell'=true:=by
 cases t<;>first | rfl | (cases h; done)
theorem Bbj (h:Bp n B Iq s g a w) {it:Operand} {av:AV} (e:A59 s it=some av):∃ v,(Instr.entry (a.eval it)).run P w=.ok v w∧c9 s g w av v:=by
 unfold A59 at e
 split at e
 ·rename_i id hm
  split at e
  ·rename_i t xs left p hr
   split at e<;>cases e
   rename_i hp
   obtain ⟨hl,_⟩:=C7 h hm
   have r:=h.res id
   rw [hr] at r
   obtain ⟨b,r,es,clock,since,c0,sn,r1,r2,r3,r4,r5,r6,r7,r8,r9,r10,r11,r12,r13⟩:=r
   simp only [Cx,hr] at hl
   obtain ⟨hcl,en,he,seen0,hs,hk,hv⟩:=r13 p.1 p.2 rfl
   rw [hl,r2]
   subst hs
   subst hcl
   refine ⟨_,run_entry_at w r b since seen0 es _ en r3 r6 he r7.2.1,?_⟩
   refine ⟨_,rfl,rfl,?_⟩
   intro j v hj
   match j,hj with
   | 0,hj=>cases hj; exact ⟨en.key,rfl,hk,by rw [hk]; rfl⟩
   | 1,hj=>cases hj; exact ⟨en.val,rfl,hv,by rw [hv]; exact A4p hp⟩
  ·cases e
 ·cases e
end
end
section
def Ol (P:Program) (s:St) (T:TypeId) (x y:Operand):Option (List Bool×Lf):=
 match P.underlying T with
 | some (.slice e)=>match P.info? e,(s.leaf x).bind s.sl,s.conc y with
  | some i,some (.rd t xs),some (.int _ n)=>if i.size=t.sz then some ([decide (0≤n),decide (n < (xs.length:Int))],.ep t xs n.toNat 0) else none
  | some i,some (.own id t xs),some (.int _ n)=>if i.size=t.sz then some ([decide (0≤n),decide (n < (xs.length:Int))],.rp id n.toNat 0) else none
  | _,_,_=>none
 | _=>none
def Adg (P:Program) (s:St) (nid:Nat) (T:TypeId) (x y:Operand):Option (List Bool×Lf×St):=
 match s.res nid,Af7 P T,s.conc x,s.conc y with
 | .unborn,some el,some (.int _ k),some (.int _ c)=>match s.parse el.t el.z with
   | some (x0,[])=>some ([decide (k=c),decide (0≤k),decide (k.toNat * el.bytes≤140737488355328)],.row nid,s.setRes nid (.row el.e el.t (List.replicate k.toNat x0)))
   | _=>none
 | _,_,_,_=>none
def Ar4 (P:Program) (s:St) (nid:Nat) (T:TypeId) (x y:Operand):Option (List Bool×Lf×St):=
 match s.res nid,Af7 P T,s.leaf x,s.leaf y with
 | .unborn,some el,some lx,some ly=>(Aaq s el lx).bind fun p=>(e9 s el.t ly).bind fun ys=>
   some ([decide ((p.2.length + List.length ys) * el.bytes≤140737488355328)],.row nid,(Ei s p.1).setRes nid (.row el.e el.t (p.2++ys)))
 | _,_,_,_=>none
def Adh (P:Program) (s:St) (nid:Nat) (T U:TypeId) (x y:Operand):Option (List Bool×Lf×St):=
 match s.res nid,P.underlying T,P.underlying U,s.leaf x,s.conc y with
 | .unborn,some (.slice e),some .string,some lx,some (.string q)=>match P.info? e,Ada P e with
  | some i,some z=>if i.size=1 then (if i.bytes=1 then (match z with
   | [.c (.int .u8 0)]=>(Aaq s ⟨e,.int .u8,z,1⟩ lx).bind fun p=>
    some ([decide (p.2.length + q.size≤140737488355328)],.row nid,(Ei s p.1).setRes nid (.row e (.int .u8) ((show List Int from p.2)++Ad q)))
   | _=>none) else none) else none
  | _,_=>none
 | _,_,_,_,_=>none
def Azi (P:Program) (s:St) (T:TypeId) (x:Operand) (lo hi:Option Operand):Option (List Bool×Lf×St):=
 match P.underlying T with
 | some (.slice e)=>match P.info? e,s.leaf x with
  | some i,some l=>match (s.frz [l]).sl l with
   | some (.rd t xs)=>if i.size=t.sz then
     (match (match lo with | some y=>s.conc y | none=>some (.int .i64 0)),(match hi with | some y=>s.conc y | none=>some (.int .i64 (List.length xs))) with
     | some (.int _ a),some (.int _ b)=>some ([decide (0≤a),decide (a≤b),decide (b≤(List.length xs:Int))],.sl t (List.drop a.toNat (List.take b.toNat xs)),s.frz [l])
     | _,_=>none) else none
   | _=>none
  | _,_=>none
 | _=>none
def Agf (P:Program) (s:St) (t:TypeId) (x y:Operand):Option (List Bool×St):=
 (s.leaf x).bind fun l=>(s.value y).bind fun v=>match P.info? t with
  | none=>none
  | some i=>if v.ls.length=i.size then match l with
    | .ptr id off=>match s.res id with
     | .box T ls=>if off + v.ls.length≤ls.length then some ([],s.setRes id (.box T (ls.take off++v.ls++ls.drop (off + v.ls.length)))) else none
     | _=>none
    | .rp id i off=>match (s.frz v.ls).res id with
     | .row e t xs=>(let old:=t.leafs (xs.getD i t.zero)
       if off + v.ls.length≤old.length then match (s.frz v.ls).parse t (old.take off++v.ls++old.drop (off + v.ls.length)) with
        | some (x,[])=>some ([decide (i < xs.length)],(s.frz v.ls).setRes id (.row e t (List.set xs i x)))
        | _=>none
       else none)
     | _=>none
    | _=>none
   else none
section
variable {P:Program} {s:St}
theorem Ar5 {T:TypeId} {x y:Operand} {l:Lf} (h:Nl (Ol P s T x y)=some l):d7 P s T x y=some l:=by
 obtain ⟨cs,e,hc⟩:=Cn h
 unfold Ol at e
 unfold d7
 split at e
 ·split at e
  ·split at e<;>cases e
   rename_i hs
   obtain ⟨h0,hc⟩:=A1 hc
   obtain ⟨h1,_⟩:=A1 hc
   simp only [*,if_true]
  ·split at e<;>cases e
   rename_i hs
   obtain ⟨h0,hc⟩:=A1 hc
   obtain ⟨h1,_⟩:=A1 hc
   simp only [*,if_true]
  ·cases e
 ·cases e
theorem Ar6 {nid:Nat} {T:TypeId} {x y:Operand} {l:Lf×St} (h:Nl (Adg P s nid T x y)=some l):d9 P s nid T x y=some l:=by
 obtain ⟨cs,e,hc⟩:=Cn h
 unfold Adg at e
 unfold d9
 split at e
 ·split at e<;>cases e
  rename_i hp
  obtain ⟨h0,hc⟩:=A1 hc
  obtain ⟨h1,hc⟩:=A1 hc
  obtain ⟨h2,_⟩:=A1 hc
  subst h0
  simp only [*,if_true]
 ·cases e
theorem A27 {nid:Nat} {T:TypeId} {x y:Operand} {l:Lf×St} (h:Nl (Ar4 P s nid T x y)=some l):An8 P s nid T x y=some l:=by
 obtain ⟨cs,e,hc⟩:=Cn h
 unfold Ar4 at e
 unfold An8
 split at e
 ·obtain ⟨p,e1,e⟩:=A6 e
  obtain ⟨ys,e2,e⟩:=A6 e
  cases e
  obtain ⟨h0,hc⟩:=A1 hc
  simp only [*,Option.bind_some,if_true]
 ·cases e
theorem Ar7 {nid:Nat} {T U:TypeId} {x y:Operand} {l:Lf×St} (h:Nl (Adh P s nid T U x y)=some l):f4 P s nid T U x y=some l:=by
 obtain ⟨cs,e,hc⟩:=Cn h
 unfold Adh at e
 unfold f4
 split at e
 ·split at e
  ·split at e
   ·split at e
    ·split at e
     ·obtain ⟨p,e1,e⟩:=A6 e
      cases e
      obtain ⟨h0,hc⟩:=A1 hc
      simp only [*,if_true,Option.bind_some]
     ·cases e
    ·cases e
   ·cases e
  ·cases e
 ·cases e
theorem A6c {T:TypeId} {x:Operand} {lo hi:Option Operand} {l:Lf×St} (h:Nl (Azi P s T x lo hi)=some l):Ax5 P s T x lo hi=some l:=by
 obtain ⟨cs,e,hc⟩:=Cn h
 unfold Azi at e
 unfold Ax5
 split at e
 ·rename_i el hU
  split at e
  ·rename_i i l0 hi0 hl0
   split at e
   ·rename_i t xs hsl
    split at e
    ·rename_i hsz
     split at e
     ·rename_i ka p kb q h1 h2
      cases e
      obtain ⟨c0,hc⟩:=A1 hc
      obtain ⟨c1,hc⟩:=A1 hc
      obtain ⟨c2,_⟩:=A1 hc
      cases lo<;>cases hi<;>simp only at h1 h2 ⊢<;>(try simp only [hU,hi0,hl0,hsl,hsz,if_true,h1,h2])<;>first | (rw [if_pos c0,if_pos c1,if_pos c2]; done) | (cases h1; cases h2; rw [if_pos c0,if_pos c1,if_pos c2]; done) | (cases h1; rw [if_pos c0,if_pos c1,if_pos c2]; done) | (cases h2; rw [if_pos c0,if_pos c1,if_pos c2]; done)
     ·cases e
    ·cases e
   ·cases e
  ·cases e
 ·cases e
theorem A6d {t:TypeId} {x y:Operand} {s':St} (h:Nl (Agf P s t x y)=some s'):Ax4 P s t x y=some s':=by
 obtain ⟨cs,e,hc⟩:=Cn h
 unfold Agf at e
 unfold Ax4
 obtain ⟨l,e1,e⟩:=A6 e
 obtain ⟨v,e2,e⟩:=A6 e
 simp only [e1,e2,Option.bind_some]
 split at e
 ·cases e
 ·rename_i i hi
  try simp only [hi]
  split at e
  ·rename_i hsz
   simp only [hsz,if_true] at e ⊢
   split at e
   ·rename_i id off
    split at e
    ·rename_i T ls hr
     try simp only [hr]
     split at e<;>cases e
     rename_i hle
     simp only [hle,if_true]
    ·cases e
   ·rename_i id k off
    split at e
    ·rename_i e0 t0 xs hr
     try simp only [hr]
     split at e
     ·rename_i hle
      split at e
      ·rename_i z hp
       cases e
       obtain ⟨h0,_⟩:=A1 hc
       simp only [h0,if_true,hle,hp]
      ·cases e
     ·cases e
    ·cases e
   ·cases e
  ·cases e
end
end
section
structure SD where
 sg:E5
 den:Xo sg.ps→Option (Xo sg.rs×BxD sg.ps)
def M3 (P : Program) (f : FuncId) : Prop := ∃ fn, P.funcs[f]? = some fn ∧ (fn.name == "runtime.NumGoroutine") = false ∧ fn.body.isNone = false
def Aup:Operand→Bool
 | .const (.slice none 0 0)=>true
 | _=>false
def Agg (P:Program) (s:St) (nid:Nat) (T:TypeId) (x:Operand):Option (AV×St):=
 if Aup x then A8d P s nid T else some (s.op x,s)
def A6e (s:St) (x y:Operand):Option (Bool×Bool):=match s.conc x,s.conc y with
 | some (.bool p),some (.bool q)=>some (p,q)
 | _,_=>none
def Agh (s:St) (c x y:Operand):Option AV:=match s.conc c with
 | some (.bool t)=>match A6e s x y with
  | some (p,q)=>some (.vl (.lf (.c (.bool (bif t then p else q)))))
  | none=>some (bif t then s.op x else s.op y)
 | _=>none
def Ar8 (s:St) (x:Operand) (i:Nat):Option AV:=match s.op x with
 | .tp vs=>match vs[i]? with
  | some v=>some (.vl v)
  | none=>none
 | _=>none
def Al2 (s:St) (x:Operand):Option AV:=match s.leaf x with
 | some (.ptr id off)=>match s.res id with
  | .box _ _=>some (.vl (.lf (.ptr id off)))
  | _=>none
 | some (.ep t xs i off)=>some (.vl (.lf (.ep t xs i off)))
 | some (.rp id i off)=>match s.res id with
  | .row _ _ _=>some (.vl (.lf (.rp id i off)))
  | _=>none
 | _=>none
abbrev Cd:=Option (List Bool×AV×St)
def lfC (s:St) (x:Option (List Bool×Lf)):Cd:=match x with
 | some (cs,l)=>some (cs,.vl (.lf l),s)
 | none=>none
def lfS (x:Option (List Bool×Lf×St)):Cd:=match x with
 | some (cs,l,s)=>some (cs,.vl (.lf l),s)
 | none=>none
def lf0 (x:Option (Lf×St)):Cd:=match x with
 | some (l,s)=>some ([],.vl (.lf l),s)
 | none=>none
def vC (s:St) (x:Option (List Bool×Value)):Cd:=match x with
 | some (cs,v)=>some (cs,.vl (.lf (.c v)),s)
 | none=>none
def v0 (s:St) (x:Option Value):Cd:=match x with
 | some v=>some ([],.vl (.lf (.c v)),s)
 | none=>none
def vl0 (s:St) (x:Option Vl):Cd:=match x with
 | some v=>some ([],.vl v,s)
 | none=>none
def av0 (s:St) (x:Option AV):Cd:=match x with
 | some v=>some ([],v,s)
 | none=>none
def avS (x:Option (AV×St)):Cd:=match x with
 | some (v,s)=>some ([],v,s)
 | none=>none
def stC (x:Option (List Bool×St)):Cd:=match x with
 | some (cs,s)=>some (cs,.dead,s)
 | none=>none
def Bjo (s:St) (x:Operand):Bool:=match s.value x with
 | some (.ag _)=>true
 | _=>false
def Bj7 (s:St) (x:Operand):Bool:=match s.conc x with
 | some (.string _)=>true
 | _=>false
def A4q (P:Program) (T:TypeId):Bool:=match P.underlying T with
 | some (.slice _)=>true
 | _=>false
def Bgb (P:Program) (T:TypeId):Bool:=match P.underlying T with
 | some .string=>true
 | _=>false
def Ayb (s:St):List Operand→Option (List Lf)
 | []=>some []
 | x::r=>(s.leaf x).bind fun l=>(Ayb s r).bind fun ls=>some (l::ls)
def Azj (s:St) (f:Fn) (first captured:List Operand):Option AV:=match f,first with
 | .func f,[]=>(Ayb s captured).map (AV.fn f)
 | _,_=>none
def S6 (P:Program) (s:St) (nid:Nat) (o:Oper):Cd:=match o.op with
 | .move x=>avS (Agg P s nid o.type x)
 | .assign x=>avS (Agg P s nid o.type x)
 | .pick c x y=>av0 s (Agh s c x y)
 | .alloc T=>lf0 (A5y P s nid T)
 | .box T x=>match s.value x with
  | some v=>lf0 (Bfq s nid T v)
  | none=>none
 | .build T parts=>vl0 s (A5z P s T parts)
 | .buildSlice T len parts=>if Bf6 P T len then lf0 (Aze P s nid T parts.toList) else lf0 (Adb P s nid T len parts)
 | .load T x=>if Aof s x then lfC s (A56 P s T x) else vl0 s (Ayy P s T x)
 | .store T x y=>if Aof s x then stC (Aog P s T x y) else stC (Agf P s T x y)
 | .nilCheck x=>av0 s (Al2 s x)
 | .binOp op T x y U=>match op with
  | .add=>if Bj7 s x then vC s (Azc s .add x y) else v0 s (Pz P s o)
  | .quo=>vC s (A8a s .quo x y)
  | .rem=>vC s (A8a s .rem x y)
  | .shl=>vC s (A8a s .shl x y)
  | .eql=>if Bjo s x then v0 s (A55 P s .eql T x y) else v0 s (Pz P s o)
  | .neq=>if Bjo s x then v0 s (A55 P s .neq T x y) else v0 s (Pz P s o)
  | _=>v0 s (Pz P s o)
 | .unOp _ _ _=>v0 s (Pz P s o)
 | .convert T U x=>if A4q P T then v0 s (Alw P s T U x) else if A4q P U then lfS (Alv P s nid T U x) else v0 s (Pz P s o)
 | .makeSlice T x y=>lfS (Adg P s nid T x y)
 | .slice T x lo hi mx=>if Bgb P T then vC s (Al1 P s T x lo hi mx) else (match mx with
  | none=>lfS (Azi P s T x lo hi)
  | some _=>none)
 | .fieldAddr T x f=>lf0 ((Af5 P s T x f).map fun l=>(l,s))
 | .field T x f=>vl0 s (A5x P s T x f)
 | .indexAddr T x y=>if Ajd s x then lfC s (Aat P s T x y) else lfC s (Ol P s T x y)
 | .index T x y=>vC s (Al0 P s T x y)
 | .extract x i=>av0 s (Ar8 s x i)
 | .makeMap T h=>(match h with
  | none=>lf0 (Ar2 P s nid T)
  | some _=>none)
 | .mapUpdate T m k v=>stC ((Azg P s T m k v).map fun s'=>([],s'))
 | .lookup T m k ok=>if ok then none else v0 s (Ar3 P s T m k)
 | .range T m=>lf0 (A58 P s nid T m)
 | .entry it=>av0 s (A59 s it)
 | .makeFunc f first captured=>av0 s (Azj s f first.toList captured.toList)
 | .call c=>match c.callee with
  | .builtin .len=>(match c.args.toList,c.argTypes.toList with
   | [x],[T]=>if A4q P T then (if Ajd s x then v0 s (Ar0 P s T x) else v0 s (A4g P s T x)) else if Bj6 P T then v0 s (Aaw P s T x) else v0 s (Pz P s o)
   | _,_=>none)
  | .builtin .append=>(match c.args.toList,c.argTypes.toList with
   | [x,y],[T,U]=>if Bgb P U then lfS (Adh P s nid T U x y) else if U=T then (if Ajd s x then lfS (Ar1 P s nid T x y) else lfS (Ar4 P s nid T x y)) else none
   | _,_=>none)
  | .builtin .delete=>(match c.args.toList,c.argTypes.toList with
   | [x,y],[T,U]=>stC ((Azh P s T U x y).map fun s'=>([],s'))
   | _,_=>none)
  | .builtin .min=>v0 s (Pz P s o)
  | .builtin .max=>v0 s (Pz P s o)
  | _=>none
 | _=>none
section
variable {P:Program} {n B:Nat} {Iq:List Nat} {s:St} {g:Gh} {a:Act} {w:World}
def O1 (P:Program) (n B:Nat) (Iq:List Nat) (s:St) (g:Gh) (a:Act) (w:World) (o:Oper) (av:AV) (s':St):Prop:=
 ∀ (K:Act→World→Prop) (Q:Exit→Act→World→Prop),(∀ v g' w',Go B Iq s g w s' g' w'→Bp n B Iq s' g' a w'→c9 s' g' w' av v→K (a.put o.dst v) w')→o.wp P a w K Q
theorem O1.val {o:Oper} {av:AV} {s':St} {v:Value} {w':World} {g':Gh} (hr:(execOp a.eval o).run P w=.ok (.value v) w') (h1:Go B Iq s g w s' g' w') (h2:Bp n B Iq s' g' a w') (h3:c9 s' g' w' av v):O1 P n B Iq s g a w o av s':=by
 intro K Q hK
 unfold Oper.wp
 rw [hr,Oper.upon_value]
 exact hK v g' w' h1 h2 h3
theorem O1.skip {o:Oper} {s':St} {w':World} {g':Gh} (hr:(execOp a.eval o).run P w=.ok .skip w') (h1:Go B Iq s g w s' g' w') (h2:Bp n B Iq s' g' a w'):O1 P n B Iq s g a w o .dead s':=by
 intro K Q hK
 unfold Oper.wp
 rw [hr,Oper.upon_skip]
 exact hK _ g' w' h1 h2 trivial
theorem O1.here {o:Oper} {av:AV} {v:Value} (h:Bp n B Iq s g a w) (hr:(execOp a.eval o).run P w=.ok (.value v) w) (h3:c9 s g w av v):O1 P n B Iq s g a w o av s:=
 O1.val hr (Go.refl B Iq s g w) h h3
theorem A4r (h:Bp n B Iq s g a w) {nid:Nat} {T:TypeId} {x:Operand} {av:AV} {s':St} (e:Agg P s nid T x=some (av,s')):
  ∃ g',Go B Iq s g w s' g' w∧Bp n B Iq s' g' a w∧c9 s' g' w av (a.eval x):=by
 unfold Agg at e
 split at e
 ·rename_i hn
  unfold Aup at hn
  split at hn
  ·exact A8f h e
  ·cases hn
 ·cases e
  exact ⟨g,Go.refl B Iq s g w,h,Ba8 h x⟩
theorem Bel (h:Bp n B Iq s g a w) {c x y:Operand} {av:AV} (e:Agh s c x y=some av):
  ∃ t:Bool,a.eval c=.bool t∧c9 s g w av (bif t then a.eval x else a.eval y):=by
 unfold Agh at e
 split at e
 ·rename_i t hc
  refine ⟨t,(Dv h hc).1,?_⟩
  split at e
  ·rename_i p q hb
   cases e
   unfold A6e at hb
   split at hb<;>cases hb
   rename_i hx hy
   rw [(Dv h hx).1,(Dv h hy).1]
   cases t
   ·exact ⟨rfl,rfl⟩
   ·exact ⟨rfl,rfl⟩
  ·cases e
   cases t
   ·exact Ba8 h y
   ·exact Ba8 h x
 ·cases e
theorem A6f (h:Bp n B Iq s g a w) {x:Operand} {i:Nat} {av:AV} (e:Ar8 s x i=some av):
  ∃ v,(Instr.extract (a.eval x) i).run P w=.ok v w∧c9 s g w av v:=by
 unfold Ar8 at e
 split at e
 ·rename_i vs hx
  split at e<;>cases e
  rename_i v hv
  have k:=Ba8 h x
  rw [hx] at k
  obtain ⟨us,hu,hsz,hk⟩:=k
  obtain ⟨u,e1,e2⟩:=hk i v hv
  refine ⟨u,?_,e2⟩
  rw [hu]
  simp [Instr.extract,e1]
 ·cases e
theorem A28 (h:Bp n B Iq s g a w) {x:Operand} {av:AV} (e:Al2 s x=some av):
  (∃ ad,a.eval x=.pointer (some ad))∧c9 s g w av (a.eval x):=by
 unfold Al2 at e
 split at e
 ·rename_i id off hx
  obtain ⟨hl,h1⟩:=C7 h hx
  split at e<;>cases e
  rename_i T ls hr
  refine ⟨?_,hl,h1⟩
  simp only [Cx,hr] at hl
  obtain ⟨b,_,hu⟩:=hl
  exact ⟨_,hu⟩
 ·rename_i t xs i off hx
  obtain ⟨hl,h1⟩:=C7 h hx
  cases e
  refine ⟨?_,hl,h1⟩
  obtain ⟨ad,cs,hu,_⟩:=hl
  exact ⟨_,hu⟩
 ·rename_i id i off hx
  obtain ⟨hl,h1⟩:=C7 h hx
  split at e<;>cases e
  rename_i T t xs hr
  refine ⟨?_,hl,h1⟩
  simp only [Cx,hr] at hl
  obtain ⟨_,b,_,hu⟩:=hl
  exact ⟨_,hu⟩
 ·cases e
theorem A4s (h:Bp n B Iq s g a w):∀ {xs:List Operand} {ls:List Lf},Ayb s xs=some ls→I6 s g w ls (xs.map a.eval)
 | [],ls,e=>by cases e; trivial
 | x::r,ls,e=>by
  simp only [Ayb] at e
  obtain ⟨l,e1,e⟩:=A6 e
  obtain ⟨ls',e2,e⟩:=A6 e
  cases e
  exact ⟨C7 h e1,A4s h e2⟩
theorem Ayc {x:Option (List Bool×Lf)} {r:AV×St} (e:Nl (lfC s x)=some r):∃ l,Nl x=some l∧r=(.vl (.lf l),s):=by
 obtain ⟨cs,e1,e2⟩:=Cn e
 unfold lfC at e1
 split at e1<;>cases e1
 exact ⟨_,by simp [Nl,e2],rfl⟩
theorem Xc {x:Option (List Bool×Lf×St)} {r:AV×St} (e:Nl (lfS x)=some r):∃ l s',Nl x=some (l,s')∧r=(.vl (.lf l),s'):=by
 obtain ⟨cs,e1,e2⟩:=Cn e
 unfold lfS at e1
 split at e1<;>cases e1
 exact ⟨_,_,by simp [Nl,e2],rfl⟩
theorem Ajg {x:Option (List Bool×St)} {r:AV×St} (e:Nl (stC x)=some r):∃ s',Nl x=some s'∧r=(.dead,s'):=by
 obtain ⟨cs,e1,e2⟩:=Cn e
 unfold stC at e1
 split at e1<;>cases e1
 exact ⟨_,by simp [Nl,e2],rfl⟩
theorem Al3 {x:Option (List Bool×Value)} {r:AV×St} (e:Nl (vC s x)=some r):∃ v,Nl x=some v∧r=(.vl (.lf (.c v)),s):=by
 obtain ⟨cs,e1,e2⟩:=Cn e
 unfold vC at e1
 split at e1<;>cases e1
 exact ⟨_,by simp [Nl,e2],rfl⟩
theorem Ra {x:Option (Lf×St)} {r:AV×St} (e:Nl (lf0 x)=some r):∃ l s',x=some (l,s')∧r=(.vl (.lf l),s'):=by
 obtain ⟨cs,e1,e2⟩:=Cn e
 unfold lf0 at e1
 split at e1<;>cases e1
 exact ⟨_,_,rfl,rfl⟩
theorem Adi {x:Option Value} {r:AV×St} (e:Nl (v0 s x)=some r):∃ v,x=some v∧r=(.vl (.lf (.c v)),s):=by
 obtain ⟨cs,e1,e2⟩:=Cn e
 unfold v0 at e1
 split at e1<;>cases e1
 exact ⟨_,rfl,rfl⟩
theorem Ayd {x:Option Vl} {r:AV×St} (e:Nl (vl0 s x)=some r):∃ v,x=some v∧r=(.vl v,s):=by
 obtain ⟨cs,e1,e2⟩:=Cn e
 unfold vl0 at e1
 split at e1<;>cases e1
 exact ⟨_,rfl,rfl⟩
theorem g5 {x:Option AV} {r:AV×St} (e:Nl (av0 s x)=some r):∃ v,x=some v∧r=(v,s):=by
 obtain ⟨cs,e1,e2⟩:=Cn e
 unfold av0 at e1
 split at e1<;>cases e1
 exact ⟨_,rfl,rfl⟩
theorem Aye {x:Option (AV×St)} {r:AV×St} (e:Nl (avS x)=some r):x=some r:=by
 obtain ⟨cs,e1,e2⟩:=Cn e
 unfold avS at e1
 split at e1<;>cases e1
 rfl
theorem Bc2 {x:Option St} {s':St} (e:Nl (x.map fun s'=>(([]:List Bool),s'))=some s'):x=some s':=by
 cases x with
 | none=>cases e
 | some y=>exact e
theorem Rb {v:Value} (h1:v.oneCell'=true):c9 s g w (.vl (.lf (.c v))) v:=⟨rfl,h1⟩
theorem Aoi (h:Bp n B Iq s g a w) {nid:Nat} {o:Oper} {av:AV} {s':St} (e:Nl (S6 P s nid o)=some (av,s')):O1 P n B Iq s g a w o av s':=by
 obtain ⟨dst,op,type,pos,after,guard⟩:=o
 have viaConc:∀ {op:Op},(∀ cs b,op≠.select cs b)→Nl (v0 s (Pz P s ⟨dst,op,type,pos,after,guard⟩))=some (av,s')→O1 P n B Iq s g a w ⟨dst,op,type,pos,after,guard⟩ av s':=by
  intro op hs e
  obtain ⟨v,e1,e2⟩:=Adi e
  cases e2
  obtain ⟨k1,k2⟩:=Bed h hs e1
  exact O1.here h k1 (Rb k2)
 cases op<;>simp only [S6] at e<;>first | (cases e; done) | skip
 case move x=>
  obtain ⟨g',k1,k2,k3⟩:=A4r h (Aye e)
  exact O1.val (v:=a.eval x) (by simp [execOp]) k1 k2 k3
 case assign x=>
  obtain ⟨g',k1,k2,k3⟩:=A4r h (Aye e)
  exact O1.val (v:=a.eval x) (by simp [execOp]) k1 k2 k3
 case pick c x y=>
  obtain ⟨v,e1,e2⟩:=g5 e
  cases e2
  obtain ⟨t,k1,k2⟩:=Bel h e1
  refine O1.here h (v:=bif t then a.eval x else a.eval y) ?_ k2
  simp only [execOp,k1]
  cases t<;>simp [asBool]
 case alloc T=>
  obtain ⟨l,s1,e1,e2⟩:=Ra e
  cases e2
  obtain ⟨x,w',g',k1,k2,k3,k4,k5⟩:=Bba h e1
  exact O1.val (v:=x) (by simp [execOp,k1]) k2 k3 ⟨k4,k5⟩
 case box T x=>
  split at e
  ·rename_i v hv
   obtain ⟨l,s1,e1,e2⟩:=Ra e
   cases e2
   obtain ⟨x',w',g',k1,k2,k3,k4,k5⟩:=Bft (P:=P) h (W7 h hv) e1
   exact O1.val (v:=x') (by simp [execOp,k1]) k2 k3 ⟨k4,k5⟩
  ·cases e
 case build T parts=>
  obtain ⟨v,e1,e2⟩:=Ayd e
  cases e2
  obtain ⟨u,k1,k2⟩:=Bbb h e1
  exact O1.here h (v:=u) (by simp only [execOp,Sem.run_bind,k1]; rfl) k2
 case buildSlice T len parts=>
  split at e
  ·rename_i hsl
   have hlen:len=1:=by
    unfold Bf6 at hsl
    split at hsl
    ·split at hsl
     ·exact Nat.eq_of_beq_eq_true hsl
     ·cases hsl
    ·cases hsl
   subst hlen
   obtain ⟨l,s1,e1,e2⟩:=Ra e
   cases e2
   obtain ⟨u,w',g',k1,k2,k3,k4,k5⟩:=A8h h e1
   exact O1.val (v:=u) (by simp only [execOp,Sem.run_bind,k1]; rfl) k2 k3 ⟨k4,k5⟩
  ·obtain ⟨l,s1,e1,e2⟩:=Ra e
   cases e2
   obtain ⟨u,w',g',k1,k2,k3,k4,k5⟩:=Avy h e1
   exact O1.val (v:=u) (by simp only [execOp,Sem.run_bind,k1]; rfl) k2 k3 ⟨k4,k5⟩
 case load T x=>
  split at e
  ·obtain ⟨l,e1,e2⟩:=Ayc e
   cases e2
   obtain ⟨u,k1,k2,k3⟩:=Bbh h e1
   exact O1.here h (v:=u) (by simp [execOp,k1]) ⟨k2,k3⟩
  ·obtain ⟨v,e1,e2⟩:=Ayd e
   cases e2
   obtain ⟨u,k1,k2⟩:=Bee h e1
   exact O1.here h (v:=u) (by simp [execOp,k1]) k2
 case store T x y=>
  split at e
  ·obtain ⟨s1,e1,e2⟩:=Ajg e
   cases e2
   obtain ⟨w',g',k1,k2,k3⟩:=A8g h e1
   exact O1.skip (by simp [execOp,k1]) k2 k3
  ·obtain ⟨s1,e1,e2⟩:=Ajg e
   cases e2
   obtain ⟨w',g',k1,k2,k3⟩:=Bbe h (A6d e1)
   exact O1.skip (by simp [execOp,k1]) k2 k3
 case nilCheck x=>
  obtain ⟨v,e1,e2⟩:=g5 e
  cases e2
  obtain ⟨⟨ad,k1⟩,k2⟩:=A28 h e1
  refine O1.here h (v:=a.eval x) ?_ k2
  simp [execOp,k1]
 case binOp op T x y U=>
  have viaV:∀ {op:BinOp} {v:Value},((do eqGuard op T x y (a.eval x) (a.eval y); binOp op T (a.eval x) (a.eval y)):Sem Value).run P w=.ok v w∧v.oneCell'=true→O1 P n B Iq s g a w ⟨dst,.binOp op T x y U,type,pos,after,guard⟩ (.vl (.lf (.c v))) s:=by
   intro op v hv
   refine O1.here h (v:=v) ?_ (Rb hv.2)
   simp only [execOp,Sem.run_bind] at hv ⊢
   rw [hv.1]
   rfl
  have hsel:∀ (op:BinOp) cs b,Op.binOp op T x y U≠.select cs b:=by intro op cs b q; cases q
  split at e
  ·split at e
   ·obtain ⟨v,e1,e2⟩:=Al3 e
    cases e2
    exact viaV (A8b h e1)
   ·exact viaConc (hsel _) e
  ·obtain ⟨v,e1,e2⟩:=Al3 e
   cases e2
   exact viaV (Azd h e1)
  ·obtain ⟨v,e1,e2⟩:=Al3 e
   cases e2
   exact viaV (Azd h e1)
  ·obtain ⟨v,e1,e2⟩:=Al3 e
   cases e2
   exact viaV (Azd h e1)
  ·split at e
   ·obtain ⟨v,e1,e2⟩:=Adi e
    cases e2
    exact viaV (A4m h e1)
   ·exact viaConc (hsel _) e
  ·split at e
   ·obtain ⟨v,e1,e2⟩:=Adi e
    cases e2
    exact viaV (A4m h e1)
   ·exact viaConc (hsel _) e
  ·exact viaConc (hsel _) e
 case unOp op T x=>exact viaConc (by intro cs b q; cases q) e
 case convert T U x=>
  split at e
  ·obtain ⟨v,e1,e2⟩:=Adi e
   cases e2
   obtain ⟨k1,k2⟩:=A22 h e1
   exact O1.here h (v:=v) (by simp [execOp,k1]) (Rb k2)
  ·split at e
   ·obtain ⟨l,s1,e1,e2⟩:=Xc e
    cases e2
    obtain ⟨u,w',g',k1,k2,k3,k4,k5⟩:=A26 h e1
    exact O1.val (v:=u) (by simp [execOp,k1]) k2 k3 ⟨k4,k5⟩
   ·exact viaConc (by intro cs b q; cases q) e
 case makeSlice T x y=>
  obtain ⟨l,s1,e1,e2⟩:=Xc e
  cases e2
  obtain ⟨u,w',g',k1,k2,k3,k4,k5⟩:=Ay5 h (Ar6 e1)
  exact O1.val (v:=u) (by simp [execOp,k1]) k2 k3 ⟨k4,k5⟩
 case slice T x lo hi mx=>
  split at e
  ·obtain ⟨v,e1,e2⟩:=Al3 e
   cases e2
   obtain ⟨k1,k2⟩:=A25 h e1
   exact O1.here h (v:=v) (by simp only [execOp,Sem.run_bind,k1]; rfl) (Rb k2)
  ·split at e
   ·obtain ⟨l,s1,e1,e2⟩:=Xc e
    cases e2
    obtain ⟨u,g',k1,k2,k3,k4,k5⟩:=Bbc h (A6c e1)
    exact O1.val (v:=u) (by simp only [execOp,Sem.run_bind,Option.map_none,k1]; rfl) k2 k3 ⟨k4,k5⟩
   ·cases e
 case fieldAddr T x f=>
  obtain ⟨l,s1,e1,e2⟩:=Ra e
  cases e2
  obtain ⟨l',e3,e4⟩:=Option.map_eq_some_iff.1 e1
  cases e4
  obtain ⟨u,k1,k2,k3⟩:=Ayz h e3
  exact O1.here h (v:=u) (by simp [execOp,k1]) ⟨k2,k3⟩
 case field T x f=>
  obtain ⟨v,e1,e2⟩:=Ayd e
  cases e2
  obtain ⟨u,k1,k2⟩:=Ba9 h e1
  exact O1.here h (v:=u) (by simp [execOp,k1]) k2
 case indexAddr T x y=>
  split at e
  ·obtain ⟨l,e1,e2⟩:=Ayc e
   cases e2
   obtain ⟨u,k1,k2,k3⟩:=A8e h e1
   exact O1.here h (v:=u) (by simp [execOp,k1]) ⟨k2,k3⟩
  ·obtain ⟨l,e1,e2⟩:=Ayc e
   cases e2
   obtain ⟨u,k1,k2,k3⟩:=Ay0 h (Ar5 e1)
   exact O1.here h (v:=u) (by simp [execOp,k1]) ⟨k2,k3⟩
 case index T x y=>
  obtain ⟨v,e1,e2⟩:=Al3 e
  cases e2
  obtain ⟨k1,k2⟩:=A24 h e1
  exact O1.here h (v:=v) (by simp [execOp,k1]) (Rb k2)
 case extract x i=>
  obtain ⟨v,e1,e2⟩:=g5 e
  cases e2
  obtain ⟨u,k1,k2⟩:=A6f (P:=P) h e1
  exact O1.here h (v:=u) (by simp [execOp,k1]) k2
 case makeMap T hint=>
  cases hint with
  | some _=>cases e
  | none=>
   obtain ⟨l,s1,e1,e2⟩:=Ra e
   cases e2
   obtain ⟨u,w',g',k1,k2,k3,k4,k5⟩:=A6b h e1
   exact O1.val (v:=u) (by simp [execOp,k1]) k2 k3 ⟨k4,k5⟩
 case mapUpdate T m k v=>
  obtain ⟨s1,e1,e2⟩:=Ajg e
  cases e2
  obtain ⟨w',g',k1,k2,k3⟩:=A8j h (Bc2 e1)
  exact O1.skip (by simp [execOp,k1]) k2 k3
 case lookup T m k ok=>
  cases ok with
  | true=>cases e
  | false=>
   obtain ⟨v,e1,e2⟩:=Adi e
   cases e2
   obtain ⟨k1,k2⟩:=A6a h e1
   exact O1.here h (v:=v) (by simp [execOp,k1]) (Rb k2)
 case range T m=>
  obtain ⟨l,s1,e1,e2⟩:=Ra e
  cases e2
  obtain ⟨u,w',g',k1,k2,k3,k4,k5⟩:=Bbi h e1
  exact O1.val (v:=u) (by simp [execOp,k1]) k2 k3 ⟨k4,k5⟩
 case entry it=>
  obtain ⟨av,e1,e2⟩:=g5 e
  cases e2
  obtain ⟨v,k1,k2⟩:=Bbj (P:=P) h e1
  exact O1.here h (v:=v) (by simp [execOp,k1]) k2
 case makeFunc f first captured=>
  obtain ⟨v,e1,e2⟩:=g5 e
  cases e2
  unfold Azj at e1
  split at e1
  ·rename_i f0 hfirst
   obtain ⟨ls,q1,rfl⟩:=Option.map_eq_some_iff.1 e1
   have hf':first=#[]:=by apply Array.toList_inj.1; simpa using hfirst
   subst hf'
   refine O1.here h (v:=.func (.func f0) #[] (captured.map a.eval)) (by simp [execOp,Instr.makeFunc]) ⟨_,rfl,?_⟩
   rw [Array.toList_map]
   exact A4s h q1
  ·cases e1
 case call c=>
  obtain ⟨callee,args,argTypes⟩:=c
  simp only at e
  split at e
  ·split at e
   ·rename_i x T ha ht
    have ha':args=#[x]:=by apply Array.toList_inj.1; simpa using ha
    have ht':argTypes=#[T]:=by apply Array.toList_inj.1; simpa using ht
    subst ha' ht'
    split at e
    ·split at e
     ·obtain ⟨v,e1,e2⟩:=Adi e
      cases e2
      obtain ⟨k1,k2⟩:=Bei (ty:=type) h e1
      exact O1.here h (v:=v) (by simp [execOp,resolve,invoke,builtin,k1]) (Rb k2)
     ·obtain ⟨v,e1,e2⟩:=Adi e
      cases e2
      obtain ⟨k1,k2⟩:=Bfs (ty:=type) h e1
      exact O1.here h (v:=v) (by simp [execOp,resolve,invoke,builtin,k1]) (Rb k2)
    ·split at e
     ·obtain ⟨v,e1,e2⟩:=Adi e
      cases e2
      obtain ⟨k1,k2⟩:=A8l (ty:=type) h e1
      exact O1.here h (v:=v) (by simp [execOp,resolve,invoke,builtin,k1]) (Rb k2)
     ·exact viaConc (by intro cs b q; cases q) e
   ·cases e
  ·split at e
   ·rename_i x y T U ha ht
    have ha':args=#[x,y]:=by apply Array.toList_inj.1; simpa using ha
    have ht':argTypes=#[T,U]:=by apply Array.toList_inj.1; simpa using ht
    subst ha' ht'
    split at e
    ·obtain ⟨l,s1,e1,e2⟩:=Xc e
     cases e2
     obtain ⟨u,w',g',k1,k2,k3,k4,k5⟩:=Ay3 (ty:=type) h (Ar7 e1)
     exact O1.val (v:=u) (by simp [execOp,resolve,invoke,builtin,k1]) k2 k3 ⟨k4,k5⟩
    ·split at e
     ·rename_i hUT
      subst hUT
      split at e
      ·obtain ⟨l,s1,e1,e2⟩:=Xc e
       cases e2
       obtain ⟨u,w',g',k1,k2,k3,k4,k5⟩:=A57 (ty:=type) h e1
       exact O1.val (v:=u) (by simp [execOp,resolve,invoke,builtin,k1]) k2 k3 ⟨k4,k5⟩
      ·obtain ⟨l,s1,e1,e2⟩:=Xc e
       cases e2
       obtain ⟨u,w',g',k1,k2,k3,k4,k5⟩:=A75 (ty:=type) h (A27 e1)
       exact O1.val (v:=u) (by simp [execOp,resolve,invoke,builtin,k1]) k2 k3 ⟨k4,k5⟩
     ·cases e
   ·cases e
  ·split at e
   ·rename_i x y T U ha ht
    have ha':args=#[x,y]:=by apply Array.toList_inj.1; simpa using ha
    have ht':argTypes=#[T,U]:=by apply Array.toList_inj.1; simpa using ht
    subst ha' ht'
    obtain ⟨s1,e1,e2⟩:=Ajg e
    cases e2
    obtain ⟨w',g',k1,k2,k3⟩:=A8k (ty:=type) h (Bc2 e1)
    exact O1.val (v:=.tuple #[]) (by simp [execOp,resolve,invoke,builtin,k1]) k2 k3 trivial
   ·cases e
  ·exact viaConc (by intro cs b q; cases q) e
  ·exact viaConc (by intro cs b q; cases q) e
  ·cases e
end
end
section
def Bbk (P:Program) (s:St) (nid:Nat) (T:TypeId) (x:Operand):Option (List Bool×Lf×St):=match s.leaf x,Akq P T,s.res nid with
 | some (.rp id i off),some false,.unborn=>match s.res id with
  | .last e t xs c j=>if off=0 then (if j=id then some ([!c,decide (i < xs.length)],.row nid,(s.setRes nid (.row e.i t (xs.getD i []))).setRes id (.mid e t xs i nid)) else none) else none
  | _=>none
 | _,_,_=>none
def Ajh (P:Program) (s:St) (T:TypeId) (x y:Operand):Option (List Bool×St):=match s.leaf x,s.value y,P.info? T with
 | some (.rp id i off),some v,some inf=>match v.ls with
  | [.row k]=>match s.res id with
   | .last e t xs c j=>match s.res k with
    | .row ek tk ys=>if off=0 then (if inf.size=1 then (if j=id then (if ek=e.i then (if h:tk=t then
      some ([!c,decide (i < xs.length)],(s.setRes k .dead).setRes id (.last e t (List.set xs i (h ▸ ys)) false id)) else none) else none) else none) else none) else none
    | _=>none
   | _=>none
  | _=>none
 | _,_,_=>none
def Adj (P:Program) (s:St) (S:TypeId) (x:Operand) (f:Nat):Option Lf:=match An5 P S f,s.leaf x with
 | some d,some (.rp id i off)=>match s.res id with
  | .last _ _ _ _ _=>some (.rp id i (off + d))
  | _=>none
 | _,_=>none
def Agi (s:St) (x:Operand):Option AV:=match s.leaf x with
 | some (.rp id i off)=>match s.res id with
  | .last _ _ _ _ _=>some (.vl (.lf (.rp id i off)))
  | _=>none
 | _=>none
def Bc3:Ty→Option (Bool×Ty)
 | .sl t=>some (false,t)
 | .pair (.sl t) .unit=>some (true,t)
 | _=>none
theorem A8m {t0:Ty} {u:Bool} {t:Ty} (h:Bc3 t0=some (u,t)):t0=wrT u t:=by
 unfold Bc3 at h
 split at h<;>cases h<;>rfl
def Bk2 (P:Program) (T:TypeId):Option TypeId:=match P.underlying T with
 | some (.slice e)=>some e
 | some (.struct fs)=>match fs.toList with
  | [f]=>match P.underlying f.type with
   | some (.slice e)=>some e
   | _=>none
  | _=>none
 | _=>none
def A6g (P:Program) (s:St) (nid:Nat) (T:TypeId) (x y:Operand):Option (List Bool×Lf×St):=
 match s.res nid,Af7 P T,s.conc x,s.conc y with
 | .unborn,some el,some (.int _ k),some (.int _ c)=>match Bc3 el.t,Bk2 P el.e with
  | some (u,t),some e1=>match el.z with
   | [.c (.slice none 0 0)]=>some ([decide (k=c),decide (0≤k),decide (k.toNat * el.bytes≤140737488355328)],.row nid,s.setRes nid (.last ⟨el.e,e1,u⟩ t (List.replicate k.toNat []) false nid))
   | _=>none
  | _,_=>none
 | _,_,_,_=>none
def Azk (P:Program) (s:St) (nid:Nat) (T:TypeId) (len:Nat) (parts:List (Nat×Operand)):Option (Lf×St):=match parts with
 | [(0,x)]=>match s.value x,Af7 P T,s.res nid with
  | some v,some el,.unborn=>match v.ls with
   | [.row j]=>match s.res j with
    | .row ej t _=>if len=1 then (if el.t=wrT true t then some (.row nid,s.setRes nid (.last ⟨el.e,ej,true⟩ t [] true j)) else none) else none
    | _=>none
   | [.c (.slice none 0 0)]=>match Bc3 el.t,Bk2 P el.e with
    | some (true,t),some e1=>if len=1 then some (.row nid,s.setRes nid (.last ⟨el.e,e1,true⟩ t [[]] false nid)) else none
    | _,_=>none
   | _=>none
  | _,_,_=>none
 | _=>none
def Ar9 (P:Program) (s:St) (nid:Nat) (T:TypeId) (x y:Operand):Option (List Bool×Lf×St):=match Af7 P T,s.leaf x,s.leaf y with
 | some el,some (.row ix),some (.row iy)=>match s.res ix,s.res iy with
  | .last e t xs c j,.last e2 t2 xs2 c2 j2=>match s.res nid with
   | .unborn=>if Ax8 s j2 then (if j=ix then (if e.o=el.e then (if el.t.sz=1 then
     some ([!c,c2,decide (xs2.length=0),decide (el.t=wrT e.u t),decide ((xs.length + 1) * el.bytes≤140737488355328)],.row nid,
      (Ei s (some ix)).setRes nid (.last e t xs true j2)) else none) else none) else none) else none
   | _=>none
  | _,_=>none
 | _,_,_=>none
def Aks (tk:Bool) (P:Program) (s:St) (nid:Nat) (o:Oper):Cd:=match o.op with
 | .load T x=>bif tk then lfS (Bbk P s nid T x) else none
 | .store T x y=>stC (Ajh P s T x y)
 | .fieldAddr T x f=>lf0 ((Adj P s T x f).map fun l=>(l,s))
 | .nilCheck x=>av0 s (Agi s x)
 | .makeSlice T x y=>lfS (A6g P s nid T x y)
 | .buildSlice T len parts=>lf0 (Azk P s nid T len parts.toList)
 | .call c=>match c.callee with
  | .builtin .append=>(match c.args.toList,c.argTypes.toList with
   | [x,y],[T,U]=>if U=T then lfS (Ar9 P s nid T x y) else none
   | _,_=>none)
  | _=>none
 | _=>none
inductive Nm where
 | off
 | some
 | all
def Nm.less:Nm→Nm
 | .all=>.some
 | m=>m
def X0 (m:Nm) (P:Program) (s:St) (nid:Nat) (o:Oper):Cd:=match m with
 | .off=>S6 P s nid o
 | .some=>match Aks false P s nid o with
  | some r=>some r
  | none=>S6 P s nid o
 | .all=>match Aks true P s nid o with
  | some r=>some r
  | none=>S6 P s nid o
section
variable {P:Program} {n B:Nat} {Iq:List Nat} {s:St} {g:Gh} {a:Act} {w:World}
theorem Bem (h:Bp n B Iq s g a w) {nid:Nat} {T:TypeId} {x:Operand} {l:Lf} {s':St} (e:Nl (Bbk P s nid T x)=some (l,s')):
  ∃ u g',(Instr.loadAt T (a.eval x)).run P w=.ok u w∧Go B Iq s g w s' g' w∧Bp n B Iq s' g' a w∧Cx s' g' w l u∧u.oneCell'=true:=by
 obtain ⟨cs0,e,hc⟩:=Cn e
 unfold Bbk at e
 split at e
 ·rename_i id i off hx hA hf
  split at e
  ·rename_i e0 t xs c j hr
   split at e
   ·rename_i h0
    split at e<;>cases e
    rename_i hj
    subst h0
    subst hj
    obtain ⟨hc1,hc⟩:=Ly hc
    obtain ⟨hi,_⟩:=A1 hc
    have hc1:c=false:=by simpa using hc1
    subst hc1
    obtain ⟨hl,_⟩:=C7 h hx
    obtain ⟨b,cap,cs,cur,hu,hb,hv,hh,_,hcap,_,hsz,hcs,h2,hlen,_⟩:=Ax9 h hr hl
    simp only [Bool.toNat_false,Nat.add_zero] at hlen hcs hcap
    obtain ⟨u,hu2⟩:∃ u,cs[i]? = some u:=⟨_,List.getElem?_eq_getElem (by omega)⟩
    have hx0:xs[i]? = some (xs.getD i []):=by rw [List.getElem?_eq_getElem hi,List.getD_eq_getElem?_getD,List.getElem?_eq_getElem hi]; rfl
    generalize xs.getD i []=x0 at hx0 ⊢
    obtain ⟨ds,d1,d2,d3⟩:=h2.row i x0 u hx0 hu2
    have h1:=W9 d1
    have hcur:cur[i]? = some u:=by
     rw [← hcs,List.getElem?_take] at hu2
     split at hu2
     ·rw [← Array.getElem?_toList]; exact hu2
     ·cases hu2
    have hnid:nid≠j:=fun q=>by rw [q,hr] at hf; cases hf
    have hnst:(s.res j).nst=true:=by rw [hr]; rfl
    have r1:((s.setRes nid (.row e0.i t x0)).setRes j (.mid e0 t xs i nid)).res j=.mid e0 t xs i nid:=Ai _ _ _
    have r2:((s.setRes nid (.row e0.i t x0)).setRes j (.mid e0 t xs i nid)).res nid=.row e0.i t x0:=(Ak _ _ hnid).trans (Ai s nid _)
    have r3:∀ k,k≠j→k≠nid→((s.setRes nid (.row e0.i t x0)).setRes j (.mid e0 t xs i nid)).res k=s.res k:=fun k k1 k2=>(Ak _ _ k1).trans (Ak s _ k2)
    have hcell:∀ i',((s.setRes nid (.row e0.i t x0)).setRes j (.mid e0 t xs i nid)).cell i'=s.cell i':=fun _=>rfl
    generalize (s.setRes nid (.row e0.i t x0)).setRes j (.mid e0 t xs i nid)=s1 at r1 r2 r3 hcell ⊢
    have g1:(⟨K3 g.blk nid u.ownBlock,K3 g.hdr nid u,g.av,K3 g.innL j ((g.innL j).filter fun b=>!decide (u.ownBlock=some b))⟩:Gh).av=g.av:=rfl
    have gb1:(⟨K3 g.blk nid u.ownBlock,K3 g.hdr nid u,g.av,K3 g.innL j ((g.innL j).filter fun b=>!decide (u.ownBlock=some b))⟩:Gh).blk nid=u.ownBlock:=Al _ _ _
    have gb2:∀ k,k≠nid→(⟨K3 g.blk nid u.ownBlock,K3 g.hdr nid u,g.av,K3 g.innL j ((g.innL j).filter fun b=>!decide (u.ownBlock=some b))⟩:Gh).blk k=g.blk k:=fun k hk=>As _ _ hk
    have gh1:(⟨K3 g.blk nid u.ownBlock,K3 g.hdr nid u,g.av,K3 g.innL j ((g.innL j).filter fun b=>!decide (u.ownBlock=some b))⟩:Gh).hdr nid=u:=Al _ _ _
    have gh2:∀ k,k≠nid→(⟨K3 g.blk nid u.ownBlock,K3 g.hdr nid u,g.av,K3 g.innL j ((g.innL j).filter fun b=>!decide (u.ownBlock=some b))⟩:Gh).hdr k=g.hdr k:=fun k hk=>As _ _ hk
    have gi1:∀ b,(⟨K3 g.blk nid u.ownBlock,K3 g.hdr nid u,g.av,K3 g.innL j ((g.innL j).filter fun b=>!decide (u.ownBlock=some b))⟩:Gh).inn j b↔g.inn j b∧u.ownBlock≠some b:=fun b=>by
     simp only [Gh.inn,Al,List.mem_filter,Bool.not_eq_true',decide_eq_false_iff_not]
     try exact Iff.rfl
    have gi2:∀ k,k≠j→(⟨K3 g.blk nid u.ownBlock,K3 g.hdr nid u,g.av,K3 g.innL j ((g.innL j).filter fun b=>!decide (u.ownBlock=some b))⟩:Gh).inn k=g.inn k:=fun k hk=>by
     funext b
     simp only [Gh.inn,As _ _ hk]
    generalize (⟨K3 g.blk nid u.ownBlock,K3 g.hdr nid u,g.av,K3 g.innL j ((g.innL j).filter fun b=>!decide (u.ownBlock=some b))⟩:Gh)=g' at g1 gb1 gb2 gh1 gh2 gi1 gi2
    have gi:∀ k b,g'.inn k b→g.inn k b:=fun k b hk=>by
     by_cases q:k=j
     ·subst q; exact ((gi1 b).1 hk).1
     ·rw [gi2 k q] at hk; exact hk
    have ns:∀ k,(s1.res k).nst=true→(s.res k).nst=true:=fun k hk=>by
     by_cases q:k=j
     ·rw [q]; exact hnst
     ·by_cases q2:k=nid
      ·rw [q2,r2] at hk; cases hk
      ·rw [r3 k q q2] at hk; exact hk
    have hS:∀ b,Eg s g b→b < w.heap.size→Eg s1 g' b∧w.heap[b]? = w.heap[b]? := fun b hb _=>by
     refine ⟨⟨by rw [g1]; exact hb.1,fun k hk hkb=>?_,fun k hk hi=>hb.2.2 k (ns k hk) (gi k b hi)⟩,rfl⟩
     by_cases q:k=nid
     ·rw [q,gb1] at hkb
      exact hb.2.2 j hnst (d3 b hkb)
     ·rw [gb2 k q] at hkb
      exact hb.2.1 k (by
       by_cases q2:k=j
       ·rw [q2,hr]; rfl
       ·rw [r3 k q2 q] at hk; exact hk) hkb
    have hI:∀ k,Az s g s1 g' k:=fun k=>by
     by_cases q:k=j
     ·subst q
      unfold Az
      rw [hr,r1]
      exact .inr (.inl ⟨rfl,gh2 k hnid.symm,gb2 k hnid.symm⟩)
     ·by_cases q2:k=nid
      ·subst q2
       unfold Az
       rw [hf]
       exact .inr trivial
      ·exact Az.same (r3 k q q2) (gb2 k q2) (gh2 k q2)
    have hrel:Bp n B Iq s1 g' a w:=by
     refine h.step h.size h.defers (Nat.le_refl _) hS hI (fun i=>.inl ⟨hcell i,rfl⟩) (fun k=>?_) (fun k k' b hk hk'=>?_) (fun k b hk=>?_) g1 ⟨fun k k1 k2=>.inl ⟨?_,fun _ _=>rfl⟩,fun k b k1 k2=>?_⟩
     ·by_cases q:k=j
      ·right
       subst q
       rw [r1]
       have rk:=h.res k
       rw [hr] at rk
       obtain ⟨cs1,z1,z2,z3,_⟩:=rk
       simp only [Bool.toNat_false,Nat.add_zero] at z1
       have hcc:cs1=cs:=by
        rcases z1.2 with ⟨zv,zn⟩ | ⟨gg,cap1,cur1,zv,_,zh,_,_,_,zc⟩
        ·have:xs.length=0:=zn
         omega
        ·rw [hv] at zv
         have hbb:b=gg:=by
          have:=congrArg Value.ownBlock zv
          simpa [Value.ownBlock] using this
         subst hbb
         rw [hh] at zh
         cases zh
         rw [← zc,← hcs]
       subst hcc
       refine ⟨cs1,by rw [gh2 k hnid.symm]; exact z1,⟨fun k' y v q0 q1 q2=>?_,fun k1 k2 v v' b q1 q2=>h2.one k1 k2 v v' b⟩,by rw [gh2 k hnid.symm,gb2 k hnid.symm]; exact z3,fun v hv'=>?_⟩
       ·obtain ⟨ds',m1,m2,m3⟩:=h2.row k' y v q1 q2
        refine ⟨ds',m1,m2.keep hS,fun b' hb'=>(gi1 b').2 ⟨m3 b' hb',fun hbu=>q0 ?_⟩⟩
        exact h2.one k' i v u b' (List.getElem?_eq_some_iff.1 q1).1 hi q2 hu2 hb' hbu
       ·rw [r2]
        simp only
        rw [gh1]
        exact Option.some.inj (hv'.symm.trans hu2)
      ·by_cases q2:k=nid
       ·right
        subst q2
        rw [r2]
        exact ⟨ds,by rw [gh1]; exact d1,d2.keep hS,by rw [gh1,gb1]⟩
       ·exact .inl ⟨r3 k q q2,gb2 k q2,gh2 k q2,fun _ _=>rfl⟩
     ·by_cases q1:k=nid<;>by_cases q2:k'=nid
      ·rw [q1,q2]
      ·rw [q1,gb1] at hk
       rw [gb2 k' q2] at hk'
       exact absurd hk' ((h.inn j b hnst (d3 b hk)).2.1 k')
      ·rw [gb2 k q1] at hk
       rw [q2,gb1] at hk'
       exact absurd hk ((h.inn j b hnst (d3 b hk')).2.1 k)
      ·rw [gb2 k q1] at hk
       rw [gb2 k' q2] at hk'
       exact h.inj k k' b hk hk'
     ·by_cases q:k=nid
      ·rw [q,gb1] at hk
       exact (h.inn j b hnst (d3 b hk)).1
      ·rw [gb2 k q] at hk
       exact h.lt k b hk
     ·by_cases q:k=j
      ·rw [q,r1,hr] at k1
       cases k1
      ·exact gi2 k q
     ·have kn:=ns k k1
      obtain ⟨p1,p2,p3⟩:=h.inn k b kn (gi k b k2)
      refine ⟨p1,fun k' hk'=>?_,fun k' hne hn hi'=>p3 k' hne (ns k' hn) (gi k' b hi')⟩
      by_cases q:k'=nid
      ·rw [q,gb1] at hk'
       by_cases q2:k=j
       ·subst q2; exact ((gi1 b).1 k2).2 hk'
       ·exact p3 j (fun e=>q2 e.symm) hnst (d3 b hk')
      ·rw [gb2 k' q] at hk'
       exact p2 k' hk'
    refine ⟨u,g',?_,⟨Kp.refl B Iq w,hS,hI,g1⟩,hrel,by simp only [Cx,r2]; exact gh1.symm,h1⟩
    rw [hu]
    have hb1:W6 P T [.c u]=some (.lf (.c u)):=by simp [W6,hA]
    obtain ⟨u',hr',hv'⟩:=W8 (s:=s) (g:=g) (w:=w) (ad:=⟨b,i,none⟩) hb1 (cs:=[u]) ⟨⟨rfl,h1⟩,trivial⟩ (fun k v hk=>by
     cases k with
     | zero=>
      simp at hk
      subst hk
      rw [Ac8,Nat.add_zero,cell_of_row w b _ cur e0.o (0,0) hh]
      exact hcur
     | succ k=>simp at hk)
    cases hv'.1
    simpa [Instr.loadAt,Instr.sureAddr] using hr'
   ·cases e
  ·cases e
 ·cases e
theorem Bie (h:Bp n B Iq s g a w) {ix j i:Nat} {e0:NE} {t:Ty} {xs:List (List t.D)} {ys:List t.D} (hr:s.res ix=.mid e0 t xs i j) (hj:s.res j=.row e0.i t ys) (jj:Nat):
  Go B Iq s g w ((s.setRes j .dead).setRes ix (.last e0 t (List.set xs i ys) false jj)) (Kq g ix j true) w∧
  Bp n B Iq ((s.setRes j .dead).setRes ix (.last e0 t (List.set xs i ys) false jj)) (Kq g ix j true) a w:=by
 have hixj:ix≠j:=fun q=>by rw [q,hj] at hr; cases hr
 have hlen:(List.set xs i ys).length=xs.length:=List.length_set
 have r1:((s.setRes j .dead).setRes ix (.last e0 t (List.set xs i ys) false jj)).res ix=.last e0 t (List.set xs i ys) false jj:=Ai _ _ _
 have r2:((s.setRes j .dead).setRes ix (.last e0 t (List.set xs i ys) false jj)).res j=.dead:=(Ak _ _ (fun q=>hixj q.symm)).trans (Ai s j _)
 have r3:∀ k,k≠ix→k≠j→((s.setRes j .dead).setRes ix (.last e0 t (List.set xs i ys) false jj)).res k=s.res k:=fun k h1 h2=>(Ak _ _ h1).trans (Ak s _ h2)
 have hcell:∀ i',((s.setRes j .dead).setRes ix (.last e0 t (List.set xs i ys) false jj)).cell i'=s.cell i':=fun i=>rfl
 generalize (s.setRes j .dead).setRes ix (.last e0 t (List.set xs i ys) false jj)=s1 at r1 r2 r3 hcell ⊢
 have hix:(s.res ix).nst=true:=by rw [hr]; rfl
 have hjl:(s.res j).live=true:=by rw [hj]; rfl
 have b1:∀ k b,(Kq g ix j true).blk k=some b→k≠j∧g.blk k=some b:=fun k b hb=>by
  by_cases q:k=j
  ·simp [Kq,q] at hb
  ·simp only [Kq,As _ _ q] at hb; exact ⟨q,hb⟩
 have i1:∀ k b,(s1.res k).nst=true→(Kq g ix j true).inn k b→(s.res k).nst=true∧(g.inn k b∨(k=ix∧g.blk j=some b)):=fun k b h1 h2=>by
  by_cases q:k=ix
  ·subst q
   rw [Xy] at h2
   exact ⟨hix,h2.imp id fun z=>⟨rfl,z.2⟩⟩
  ·rw [Aje q] at h2
   by_cases q2:k=j
   ·rw [q2,r2] at h1; cases h1
   ·rw [r3 k q q2] at h1; exact ⟨h1,.inl h2⟩
 have hS:∀ b,Eg s g b→b < w.heap.size→Eg s1 (Kq g ix j true) b∧w.heap[b]? = w.heap[b]? := fun b hb _=>by
  refine ⟨⟨hb.1,fun k hk hkb=>?_,fun k hk hi=>?_⟩,rfl⟩
  ·obtain ⟨q1,q2⟩:=b1 k b hkb
   by_cases q:k=ix
   ·exact hb.2.1 k (by rw [q,hr]; rfl) q2
   ·rw [r3 k q q1] at hk; exact hb.2.1 k hk q2
  ·obtain ⟨q1,q2 | ⟨_,q2⟩⟩:=i1 k b hk hi
   ·exact hb.2.2 k q1 q2
   ·exact hb.2.1 j hjl q2
 have hI:∀ k,Az s g s1 (Kq g ix j true) k:=fun k=>by
  by_cases q:k=ix
  ·subst q
   unfold Az
   rw [hr,r1]
   exact .inr (.inl ⟨by simp only [Jw.nlen,hlen,Bool.toNat_false,Nat.add_zero],rfl,As _ _ hixj⟩)
  ·by_cases q2:k=j
   ·subst q2; exact .inl r2
   ·exact Az.same (r3 k q q2) (As _ _ q2) rfl
 refine ⟨⟨Kp.refl B Iq w,hS,hI,rfl⟩,h.step h.size h.defers (Nat.le_refl _) hS hI (fun i=>?_) (fun k=>?_) (fun i k b hi hk=>h.inj i k b (b1 i b hi).2 (b1 k b hk).2) (fun i b hi=>h.lt i b (b1 i b hi).2) rfl ⟨fun k h1 h2=>.inl ⟨?_,fun _ _=>rfl⟩,fun k b h1 h2=>?_⟩⟩
 ·exact .inl ⟨hcell i,rfl⟩
 ·by_cases q:k=ix
  ·subst q
   right
   rw [r1]
   have rx:=h.res k
   rw [hr] at rx
   obtain ⟨cs,h1,h2,h3,h4⟩:=rx
   refine ⟨cs,by rw [hlen]; exact h1,?_,(As _ _ hixj).trans h3,fun u hc=>by cases hc⟩
   have hkeep:Bfp w (Eg s1 (Kq g k j true)) (g.inn k) e0.i t xs i cs:=h2.keep hS fun _ _=>rfl
   have hinn:(Kq g k j true).inn k=fun b=>g.inn k b∨(true=true∧g.blk j=some b):=Xy
   rw [hinn]
   have rj:=h.res j
   rw [hj] at rj
   obtain ⟨ds,d1,d2,d3⟩:=rj
   have at_i:∀ u,cs[i]? = some u→u=g.hdr j:=fun u hu=>by
    have hq:=h4 u hu
    rw [hj] at hq
    exact hq
   have new:∀ u b,cs[i]? = some u→u.ownBlock=some b→g.blk j=some b:=fun u b hu hb=>by rw [d3,← at_i u hu]; exact hb
   have old:∀ k' u,k'≠i→k' < xs.length→cs[k']? = some u→∀ b,u.ownBlock=some b→g.blk j≠some b:=fun k' u hk hl hu b hb=>by
    obtain ⟨ds,q1,q2,q3⟩:=hkeep.row k' _ u hk (List.getElem?_eq_getElem hl) hu
    exact (h.inn k b hix (q3 b hb)).2.1 j
   refine ⟨fun k' x u m1 m2=>?_,fun k1 k2 u u' b m1 m2 m3 m4 m5 m6=>?_⟩
   ·by_cases q:k'=i
    ·subst q
     have hl:=(List.getElem?_eq_some_iff.1 m1).1
     rw [List.length_set] at hl
     rw [List.getElem?_set_self hl] at m1
     obtain rfl:=Option.some.inj m1
     exact ⟨ds,by rw [at_i u m2]; exact d1,d2.keep hS,fun b hb=>.inr ⟨rfl,new u b m2 hb⟩⟩
    ·rw [List.getElem?_set_ne (fun e=>q e.symm)] at m1
     obtain ⟨ds,q1,q2,q3⟩:=hkeep.row k' x u q m1 m2
     exact ⟨ds,q1,q2,fun b hb=>.inl (q3 b hb)⟩
   ·rw [hlen] at m1 m2
    by_cases q1:k1=i<;>by_cases q2:k2=i
    ·rw [q1,q2]
    ·subst q1
     exact absurd (new u b m3 m5) (old k2 u' q2 m2 m4 b m6)
    ·subst q2
     exact absurd (new u' b m4 m6) (old k1 u q1 m1 m3 b m5)
    ·exact hkeep.one k1 k2 u u' b q1 q2 m1 m2 m3 m4 m5 m6
  ·by_cases q2:k=j
   ·subst q2
    right
    rw [r2]
    exact Al _ _ _
   ·exact .inl ⟨r3 k q q2,As _ _ q2,rfl,fun _ _=>rfl⟩
 ·by_cases q:k=ix
  ·subst q
   rw [r1,hr] at h1
   cases h1
  ·exact Aje q
 ·obtain ⟨q1,q2⟩:=i1 k b h1 h2
  have base:(b < w.heap.size∧(b∈Iq∨B≤b)∧¬ g.av b)∧(∀ id',id'≠j→g.blk id'≠some b)∧∀ id',id'≠k→(s.res id').nst=true→¬ g.inn id' b:=by
   rcases q2 with q2 | ⟨rfl,q2⟩
   ·obtain ⟨k1,k2,k3⟩:=h.inn k b q1 q2
    exact ⟨k1,fun id' _=>k2 id',k3⟩
   ·exact ⟨h.lt j b q2,fun id' hne hb=>hne (h.inj id' j b hb q2),fun id' _ hn hi=>(h.inn id' b hn hi).2.1 j q2⟩
  refine ⟨base.1,fun id' hb=>?_,fun id' hne hn hi=>?_⟩
  ·obtain ⟨q3,q4⟩:=b1 id' b hb
   exact base.2.1 id' q3 q4
  ·obtain ⟨q3,q4 | ⟨q5,q4⟩⟩:=i1 id' b hn hi
   ·exact base.2.2 id' hne q3 q4
   ·rcases q2 with q2 | ⟨q2,_⟩
    ·exact (h.inn k b q1 q2).2.1 j q4
    ·exact hne (q5.trans q2.symm)
theorem Bgc {v:Vl} {l:Lf} {u:Value} (hv:VlR s g w v u) (hl:v.ls=[l]):∃ x,u.cells=#[x]∧Cx s g w l x∧x.oneCell'=true:=by
 have k:=hv.cells
 rw [hl] at k
 match hq:u.cells.toList with
 | []=>rw [hq] at k; exact k.elim
 | [x]=>
  rw [hq] at k
  exact ⟨x,by apply Array.toList_inj.1; rw [hq],k.1.1,k.1.2⟩
 | x::y::r=>rw [hq] at k; exact k.2.elim
theorem Bbl (h:Bp n B Iq s g a w) {T:TypeId} {x y:Operand} {s':St} (e:Nl (Ajh P s T x y)=some s'):
  ∃ w' g',(Instr.storeAt T (a.eval x) (a.eval y)).run P w=.ok () w'∧Go B Iq s g w s' g' w'∧Bp n B Iq s' g' a w':=by
 obtain ⟨cs0,e,hc⟩:=Cn e
 unfold Ajh at e
 split at e
 ·rename_i id i off v inf hx hy hinf
  split at e
  ·rename_i j hvl
   split at e
   ·rename_i e0 t xs c jj hr
    split at e
    ·rename_i ek tk ys hj
     split at e
     ·rename_i h0
      split at e
      ·rename_i hsz1
       split at e
       ·rename_i hjj
        split at e
        ·rename_i hek
         split at e<;>cases e
         rename_i htk
         subst h0
         subst hjj
         subst htk
         subst hek
         obtain ⟨hc1,hc⟩:=Ly hc
         obtain ⟨hi,_⟩:=A1 hc
         have hc1:c=false:=by simpa using hc1
         subst hc1
         obtain ⟨hl,_⟩:=C7 h hx
         obtain ⟨b,cap,cs,cur,hu,hb,hv,hh,_,hcap,hmx,hsz,hcs,h2,hlen,_⟩:=Ax9 h hr hl
         simp only [Bool.toNat_false,Nat.add_zero] at hlen hcs hcap hv
         obtain ⟨u,huc,hul,h1u⟩:=Bgc (W7 h hy) hvl
         simp only [Cx,hj] at hul
         have hrun:=Xb (P:=P) (T:=T) hinf hh (fun q=>absurd q (Nat.lt_irrefl 0)) (v:=a.eval y) (off:=i) (by rw [huc,hsz1]; rfl) (by rw [huc]; simp; omega) (by rw [huc]; simpa using h1u)
         rw [← hu,huc] at hrun
         have hcurl:cur.toList.length=cap:=by rw [Array.length_toList]; omega
         have hne:∀ k,k≠b→(w.setRow b (cur.toList.take i++#[u].toList++cur.toList.drop (i + #[u].toList.length)).toArray).heap[k]? = w.heap[k]? := fun k hk=>setRow_other w b k _ hk
         have hnew:(w.setRow b (cur.toList.take i++#[u].toList++cur.toList.drop (i + #[u].toList.length)).toArray).heap[b]? = some (.cells (cur.toList.take i++#[u].toList++cur.toList.drop (i + #[u].toList.length)).toArray e0.o (0,0)):=setRow_heap w b cur _ e0.o _ hh
         have hszw:(w.setRow b (cur.toList.take i++#[u].toList++cur.toList.drop (i + #[u].toList.length)).toArray).heap.size=w.heap.size:=by simp
         have hos:(w.setRow b (cur.toList.take i++#[u].toList++cur.toList.drop (i + #[u].toList.length)).toArray).os=w.os∧(w.setRow b (cur.toList.take i++#[u].toList++cur.toList.drop (i + #[u].toList.length)).toArray).tape=w.tape∧(w.setRow b (cur.toList.take i++#[u].toList++cur.toList.drop (i + #[u].toList.length)).toArray).output=w.output:=⟨rfl,rfl,rfl⟩
         generalize (w.setRow b (cur.toList.take i++#[u].toList++cur.toList.drop (i + #[u].toList.length)).toArray)=w' at hrun hne hnew hszw hos
         have hcells:∀ k,k < xs.length→(cur.toList.take i++#[u].toList++cur.toList.drop (i + #[u].toList.length))[k]? = if k=i then some u else cs[k]? := fun k hk=>by
          have hcsk:cs[k]? = cur.toList[k]? := by rw [← hcs,List.getElem?_take,if_pos (by omega)]
          by_cases q:k < i
          ·rw [List.append_assoc,List.getElem?_append_left (by simp; omega),List.getElem?_take,if_pos q,if_neg (by omega),hcsk]
          ·by_cases q2:k=i
           ·subst q2
            rw [if_pos rfl,List.append_assoc,List.getElem?_append_right (by simp; omega)]
            have:k - (cur.toList.take k).length=0:=by simp; omega
            rw [this]
            rfl
           ·rw [if_neg q2,List.getElem?_append_right (by simp; omega),List.getElem?_drop,hcsk]
            congr 1
            simp
            omega
         have hixj:jj≠j:=fun q=>by rw [q,hj] at hr; cases hr
         have hlen2:(List.set xs i ys).length=xs.length:=List.length_set
         have r1:((s.setRes j .dead).setRes jj (.last e0 tk (List.set xs i ys) false jj)).res jj=.last e0 tk (List.set xs i ys) false jj:=Ai _ _ _
         have r2:((s.setRes j .dead).setRes jj (.last e0 tk (List.set xs i ys) false jj)).res j=.dead:=(Ak _ _ (fun q=>hixj q.symm)).trans (Ai s j _)
         have r3:∀ k,k≠jj→k≠j→((s.setRes j .dead).setRes jj (.last e0 tk (List.set xs i ys) false jj)).res k=s.res k:=fun k h1 h2=>(Ak _ _ h1).trans (Ak s _ h2)
         have hcell:∀ i',((s.setRes j .dead).setRes jj (.last e0 tk (List.set xs i ys) false jj)).cell i'=s.cell i':=fun i=>rfl
         generalize (s.setRes j .dead).setRes jj (.last e0 tk (List.set xs i ys) false jj)=s1 at r1 r2 r3 hcell ⊢
         have hix:(s.res jj).nst=true:=by rw [hr]; rfl
         have hlive:(s.res jj).live=true:=by rw [hr]; rfl
         have hjl:(s.res j).live=true:=by rw [hj]; rfl
         have b1:∀ k b,(Kq g jj j true).blk k=some b→k≠j∧g.blk k=some b:=fun k b hb=>by
          by_cases q:k=j
          ·simp [Kq,q] at hb
          ·simp only [Kq,As _ _ q] at hb; exact ⟨q,hb⟩
         have i1:∀ k b,(s1.res k).nst=true→(Kq g jj j true).inn k b→(s.res k).nst=true∧(g.inn k b∨(k=jj∧g.blk j=some b)):=fun k b h1 h2=>by
          by_cases q:k=jj
          ·subst q
           rw [Xy] at h2
           exact ⟨hix,h2.imp id fun z=>⟨rfl,z.2⟩⟩
          ·rw [Aje q] at h2
           by_cases q2:k=j
           ·rw [q2,r2] at h1; cases h1
           ·rw [r3 k q q2] at h1; exact ⟨h1,.inl h2⟩
         have hS:∀ c,Eg s g c→c < w.heap.size→Eg s1 (Kq g jj j true) c∧w'.heap[c]? = w.heap[c]? := fun c hb _=>by
          refine ⟨⟨hb.1,fun k hk hkb=>?_,fun k hk hi=>?_⟩,hne c (fun q=>hb.2.1 jj hlive (by rw [q]; assumption))⟩
          ·obtain ⟨q1,q2⟩:=b1 k c hkb
           by_cases q:k=jj
           ·exact hb.2.1 k (by rw [q,hr]; rfl) q2
           ·rw [r3 k q q1] at hk; exact hb.2.1 k hk q2
          ·obtain ⟨q1,q2 | ⟨_,q2⟩⟩:=i1 k c hk hi
           ·exact hb.2.2 k q1 q2
           ·exact hb.2.1 j hjl q2
         have hI:∀ k,Az s g s1 (Kq g jj j true) k:=fun k=>by
          by_cases q:k=jj
          ·subst q
           unfold Az
           rw [hr,r1]
           exact .inr (.inl ⟨by simp only [Jw.nlen,hlen2,Bool.toNat_false,Nat.add_zero],rfl,As _ _ hixj⟩)
          ·by_cases q2:k=j
           ·subst q2; exact .inl r2
           ·exact Az.same (r3 k q q2) (As _ _ q2) rfl
         have hRk:∀ k,k=jj→Lr s1 (Kq g jj j true) w' k (.last e0 tk (List.set xs i ys) false k):=fun k q=>by
          subst q
          have hbk:∀ c,g.inn k c→c≠b:=fun c hc q=>(h.inn k c hix hc).2.1 k (by rw [q]; exact hb)
          have hkeep:Ayv w' (Eg s1 (Kq g k j true)) (g.inn k) e0.i tk xs cs:=h2.keep hS fun c hc=>hne c (hbk c hc)
          have hinn:(Kq g k j true).inn k=fun b=>g.inn k b∨(true=true∧g.blk j=some b):=Xy
          have rj:=h.res j
          rw [hj] at rj
          obtain ⟨ds,d1,d2,d3⟩:=rj
          have d1':Hr w' tk 0 e0.i tk.sz u ys.length ds:=by
           rw [hul]
           exact Xn d1 fun c hc=>hne c fun q=>hixj (h.inj k j b hb (by rw [d3,hc,q]))
          have newb:∀ c,u.ownBlock=some c→g.blk j=some c:=fun c hc=>by rw [d3,← hul]; exact hc
          have old:∀ k' v,k' < xs.length→cs[k']? = some v→∀ c,v.ownBlock=some c→g.blk j≠some c:=fun k' v hl hv c hc=>by
           obtain ⟨ds,q1,q2,q3⟩:=hkeep.row k' _ v (List.getElem?_eq_getElem hl) hv
           exact (h.inn k c hix (q3 c hc)).2.1 j
          refine ⟨(cur.toList.take i++#[u].toList++cur.toList.drop (i + #[u].toList.length)).take xs.length,⟨?_,.inr ⟨b,cap,_,by rw [show (Kq g k j true).hdr k=g.hdr k from rfl,hv]; simp [hlen2],Nat.zero_le _,hnew,by simpa [hlen2] using hcap,hmx,?_,?_⟩⟩,?_,?_,fun v hv=>by cases hv⟩
          ·simp [hlen2,hcurl]
           omega
          ·simp [hcurl]
           omega
          ·simp [hlen2]
          ·rw [hinn]
           refine ⟨fun k' x v m1 m2=>?_,fun k1 k2 v v' c m1 m2 m3 m4 m5 m6=>?_⟩
           ·have hkl:k' < xs.length:=by have:=(List.getElem?_eq_some_iff.1 m1).1; rw [List.length_set] at this; exact this
            rw [List.getElem?_take,if_pos hkl,hcells k' hkl] at m2
            by_cases q:k'=i
            ·subst q
             rw [if_pos rfl] at m2
             obtain rfl:=Option.some.inj m2
             rw [List.getElem?_set_self hkl] at m1
             obtain rfl:=Option.some.inj m1
             exact ⟨ds,d1',d2.keep hS,fun c hc=>.inr ⟨rfl,newb c hc⟩⟩
            ·rw [if_neg q] at m2
             rw [List.getElem?_set_ne (fun e=>q e.symm)] at m1
             obtain ⟨ds,q1,q2,q3⟩:=hkeep.row k' x v m1 m2
             exact ⟨ds,q1,q2,fun c hc=>.inl (q3 c hc)⟩
           ·rw [hlen2] at m1 m2
            rw [List.getElem?_take,if_pos m1,hcells k1 m1] at m3
            rw [List.getElem?_take,if_pos m2,hcells k2 m2] at m4
            by_cases q1:k1=i<;>by_cases q2:k2=i
            ·rw [q1,q2]
            ·rw [if_pos q1] at m3
             rw [if_neg q2] at m4
             obtain rfl:=Option.some.inj m3
             exact absurd (newb c m5) (old k2 v' m2 m4 c m6)
            ·rw [if_neg q1] at m3
             rw [if_pos q2] at m4
             obtain rfl:=Option.some.inj m4
             exact absurd (newb c m6) (old k1 v m1 m3 c m5)
            ·rw [if_neg q1] at m3
             rw [if_neg q2] at m4
             exact hkeep.one k1 k2 v v' c m1 m2 m3 m4 m5 m6
          ·show K3 g.blk j none k=(g.hdr k).ownBlock
           rw [As _ _ hixj,hb,hv]
           rfl
         refine ⟨w',Kq g jj j true,hrun,⟨⟨hos.1,hos.2.1,hos.2.2,by rw [hszw]; exact Nat.le_refl _,fun k hk hn=>hne k (fun q=>?_)⟩,hS,hI,rfl⟩,h.step h.size h.defers (by rw [hszw]; exact Nat.le_refl _) hS hI (fun i=>.inl ⟨hcell i,rfl⟩) (fun k=>?_) (fun i k b hi hk=>h.inj i k b (b1 i b hi).2 (b1 k b hk).2) (fun i b hi=>by rw [hszw]; exact h.lt i b (b1 i b hi).2) rfl ⟨fun k h1 h2=>?_,fun k c h1 h2=>?_⟩⟩
         ·subst q
          rcases (h.lt jj k hb).2.1 with q2 | q2
          ·exact hn q2
          ·omega
         ·by_cases q:k=jj
          ·subst q
           right
           rw [r1]
           exact hRk k rfl
          ·by_cases q2:k=j
           ·subst q2
            right
            rw [r2]
            exact Al _ _ _
           ·exact .inl ⟨r3 k q q2,As _ _ q2,rfl,fun c hc=>hne c fun q3=>q (h.inj k jj b (by rw [← q3]; exact hc) hb)⟩
         ·by_cases q:k=jj
          ·right
           subst q
           rw [r1]
           exact hRk k rfl
          ·exact .inl ⟨Aje q,fun c hc=>hne c fun q3=>(h.inn k c h2 hc).2.1 jj (by rw [q3]; exact hb)⟩
         ·obtain ⟨q1,q2⟩:=i1 k c h1 h2
          have base:(c < w'.heap.size∧(c∈Iq∨B≤c)∧¬ g.av c)∧(∀ id',id'≠j→g.blk id'≠some c)∧∀ id',id'≠k→(s.res id').nst=true→¬ g.inn id' c:=by
           rw [hszw]
           rcases q2 with q2 | ⟨rfl,q2⟩
           ·obtain ⟨k1,k2,k3⟩:=h.inn k c q1 q2
            exact ⟨k1,fun id' _=>k2 id',k3⟩
           ·exact ⟨h.lt j c q2,fun id' hne hb=>hne (h.inj id' j c hb q2),fun id' _ hn hi=>(h.inn id' c hn hi).2.1 j q2⟩
          refine ⟨base.1,fun id' hb=>?_,fun id' hne hn hi=>?_⟩
          ·obtain ⟨q3,q4⟩:=b1 id' c hb
           exact base.2.1 id' q3 q4
          ·obtain ⟨q3,q4 | ⟨q5,q4⟩⟩:=i1 id' c hn hi
           ·exact base.2.2 id' hne q3 q4
           ·rcases q2 with q2 | ⟨q2,_⟩
            ·exact (h.inn k c q1 q2).2.1 j q4
            ·exact hne (q5.trans q2.symm)
        ·cases e
       ·cases e
      ·cases e
     ·cases e
    ·cases e
   ·cases e
  ·cases e
 ·cases e
theorem Av0 (h:Bp n B Iq s g a w) {S:TypeId} {x:Operand} {f:Nat} {l:Lf} (e:Adj P s S x f=some l):∃ u,(Instr.fieldAt S (a.eval x) f).run P w=.ok u w∧Cx s g w l u∧u.oneCell'=true:=by
 unfold Adj at e
 split at e
 ·rename_i d id i off hd hx
  split at e
  ·rename_i e0 t xs c j hr
   cases e
   obtain ⟨hl,_⟩:=C7 h hx
   simp only [Cx,hr] at hl
   obtain ⟨hi,b,hb,hu⟩:=hl
   rw [hu]
   refine ⟨_,An9 hd _ w,?_,rfl⟩
   simp only [Cx,hr]
   exact ⟨hi,b,hb,by rw [Ac8,Nat.add_assoc]⟩
  ·cases e
 ·cases e
theorem Azl (h:Bp n B Iq s g a w) {x:Operand} {av:AV} (e:Agi s x=some av):(∃ ad,a.eval x=.pointer (some ad))∧c9 s g w av (a.eval x):=by
 unfold Agi at e
 split at e
 ·rename_i id i off hx
  obtain ⟨hl,h1⟩:=C7 h hx
  split at e
  ·rename_i e0 t xs c j hr
   cases e
   refine ⟨?_,hl,h1⟩
   simp only [Cx,hr] at hl
   obtain ⟨_,b,_,hu⟩:=hl
   exact ⟨_,hu⟩
  ·cases e
 ·cases e
theorem Bbm (h:Bp n B Iq s g a w) {nid:Nat} {T:TypeId} {x y:Operand} {l:Lf} {s':St} (e:Nl (A6g P s nid T x y)=some (l,s')):
  ∃ u w' g',(Instr.makeSlice T (a.eval x) (a.eval y)).run P w=.ok u w'∧Go B Iq s g w s' g' w'∧Bp n B Iq s' g' a w'∧Cx s' g' w' l u∧u.oneCell'=true:=by
 obtain ⟨cs0,e,hc⟩:=Cn e
 unfold A6g at e
 split at e
 ·rename_i el kx k ky c hf hel hx hy
  split at e
  ·rename_i u t e1 hn hin
   split at e<;>cases e
   rename_i hez
   obtain ⟨hkc,hc⟩:=A1 hc
   obtain ⟨h0,hc⟩:=A1 hc
   obtain ⟨hb,_⟩:=A1 hc
   subst hkc
   obtain ⟨hU,hsz,hzl,hby,⟨i,z,hi,hz,hi1,hi2,hzs⟩,hzL⟩:=f5 hel
   obtain ⟨zv,_,hL0,i',hi',hz'⟩:=Nf hzL s g w
   obtain rfl:i=i':=Option.some.inj (hi.symm.trans hi')
   obtain rfl:z=zv:=Option.some.inj (hz.symm.trans hz')
   have ht:=A8m hn
   have hts:el.t.sz=1:=by rw [ht,Ayx]
   rw [hez] at hL0
   have hzc:z.cells=#[Value.slice none 0 0]:=by
    match hq:z.cells.toList with
    | []=>rw [hq] at hL0; exact hL0.elim
    | [v]=>
     rw [hq] at hL0
     have hv:v=.slice none 0 0:=hL0.1.1
     apply Array.toList_inj.1
     rw [hq,hv]
    | v::v'::r=>rw [hq] at hL0; exact hL0.2.elim
   obtain ⟨m,rfl⟩:=Int.eq_ofNat_of_zero_le h0
   rw [Eo] at hb ⊢
   have hm:m≤140737488355328:=Nat.le_trans (Nat.le_mul_of_pos_right _ hby) hb
   have hrun:=run_make (P:=P) w T el.e i z hU hi hz kx ky m m (by omega) (Int.le_refl _) (by rw [hi2,Int.mul_comm]; omega) (by omega)
   simp only [Eo] at hrun
   rw [hi1,hts] at hrun
   have hcells:∀ j v,(madeCells z.cells (m * 1)).toList[j]? = some v→v=Value.slice none 0 0:=fun j v hj=>by
    unfold madeCells at hj
    rw [Array.getElem?_toList,Array.getElem?_map] at hj
    obtain ⟨q,_,rfl⟩:=Option.map_eq_some_iff.1 hj
    simp [hzc,Nat.mod_one]
   have hml:(madeCells z.cells (m * 1)).size=m:=by rw [size_madeCells,Nat.mul_one]
   refine ⟨Value.slice (some ⟨w.heap.size,0,none⟩) m m,w.alloc (.cells (madeCells z.cells (m * 1)) el.e),g.new nid w.heap.size (.slice (some ⟨w.heap.size,0,none⟩) m m),?_,Go.alloc h hf _ _ _,h.alloc hf _ _ _ ⟨(madeCells z.cells (m * 1)).toList,?_,⟨fun i x v h1 h2=>?_,fun i i' v v' b _ _ h1 _ h3 _=>?_⟩,?_,fun v hq=>by cases hq⟩,?_,rfl⟩
   ·rw [(Dv h hx).1,(Dv h hy).1]
    exact hrun
   ·simp only [Gh.new,Al,List.length_replicate,Bool.toNat_false,Nat.add_zero]
    refine (E4 (t:=.sl t) rfl).2 (World.ownsRow_lit w _ m (Nat.zero_le _) (by simp only [maxLen]; omega) (by rw [hml,Nat.mul_one]))
   ·have hv:=hcells i v h2
    have hx:x=[]:=List.eq_of_mem_replicate (List.mem_of_getElem? h1)
    subst hv hx
    exact ⟨[],Arv _ t 0 e1 t.sz,Aga _ _,fun b hb=>by cases hb⟩
   ·have hv:=hcells i v h1
    subst hv
    cases h3
   ·simp only [Gh.new,Al,Value.ownBlock]
   ·simp only [Cx,Ai,Gh.new,Al]
  ·cases e
 ·cases e
theorem A8n (h:Bp n B Iq s g a w) {nid:Nat} {T:TypeId} {len:Nat} {parts:Array (Nat×Operand)} {l:Lf} {s':St} (e:Azk P s nid T len parts.toList=some (l,s')):
  ∃ u w' g',(Instr.buildSlice T len (parts.map fun (i,x)=>(i,a.eval x))).run P w=.ok u w'∧Go B Iq s g w s' g' w'∧Bp n B Iq s' g' a w'∧Cx s' g' w' l u∧u.oneCell'=true:=by
 unfold Azk at e
 split at e
 ·rename_i x hp
  have hpa:(parts.map fun (i,x)=>(i,a.eval x))=#[(0,a.eval x)]:=by
   have:parts=#[(0,x)]:=by
    apply Array.toList_inj.1
    rw [hp]
   rw [this]
   simp
  rw [hpa]
  split at e
  ·rename_i v el hx hel hf
   obtain ⟨hU,hsz,hzl,hby,⟨i,z,hi,hz,hi1,hi2,hzs⟩,hzL⟩:=f5 hel
   have key:∀ {l0:Lf} {r:Jw},v.ls=[l0]→el.t.sz=1→len=1→(∀ u',Cx s g w l0 u'→u'.oneCell'=true→Lr (s.setRes nid r) (g.new nid w.heap.size (.slice (some ⟨w.heap.size,0,none⟩) 1 1)) (w.alloc (.cells #[u'] el.e)) nid r)→(Cx (s.setRes nid r) (g.new nid w.heap.size (.slice (some ⟨w.heap.size,0,none⟩) 1 1)) (w.alloc (.cells #[(default:Value)] el.e)) (.row nid) (.slice (some ⟨w.heap.size,0,none⟩) 1 1))→
     ∃ u w' g',(Instr.buildSlice T len #[(0,a.eval x)]).run P w=.ok u w'∧Go B Iq s g w (s.setRes nid r) g' w'∧Bp n B Iq (s.setRes nid r) g' a w'∧Cx (s.setRes nid r) g' w' (.row nid) u∧u.oneCell'=true:=by
    intro l0 r hvl hs1 hlen hR hL
    subst hlen
    obtain ⟨zv,_,hL0,i',hi',hz'⟩:=Nf hzL s g w
    obtain rfl:i=i':=Option.some.inj (hi.symm.trans hi')
    obtain rfl:z=zv:=Option.some.inj (hz.symm.trans hz')
    have hL1:=Bfw hL0 (by omega) 1
    rw [hzl,hs1] at hL1
    have hfl:y9 (fun i=>some (i * 1,1)) (d8 el.z 1) [(0,v)]=some [l0]:=by
     have:(d8 el.z 1).length=1:=by rw [Xa,hzl,hs1]
     match hq:d8 el.z 1,this with
     | [z0],_=>simp [y9,hvl]
    obtain ⟨cs',f1,f2⟩:=Ay2 hfl (us:=[(0,a.eval x)]) ⟨⟨rfl,W7 h hx⟩,trivial⟩ hL1
    obtain ⟨u',hcs'⟩:∃ u',cs'=#[u']:=by
     have:=f2.length
     simp at this
     exact ⟨cs'[0],by apply Array.ext<;>simp [this]; intro i p; subst p; rfl⟩
    subst hcs'
    have hrun:(Instr.buildSlice T 1 #[(0,a.eval x)]).run P w=.ok (.slice (some ⟨w.heap.size,0,none⟩) 1 1) (w.alloc (.cells #[u'] el.e)):=by
     refine run_buildSlice w T el.e 1 _ #[u'] i z hU hi hz (by rw [hi1,hs1]; decide) (by rw [hi1,hs1]; decide) ?_
     rw [hi1,hs1]
     exact f1
    refine ⟨_,_,_,hrun,Go.alloc h hf _ (.slice (some ⟨w.heap.size,0,none⟩) 1 1) _,h.alloc hf _ (.slice (some ⟨w.heap.size,0,none⟩) 1 1) _ (hR u' f2.1.1 f2.1.2),?_,rfl⟩
    exact hL
   split at e
   ·rename_i j hvl
    split at e
    ·rename_i ej t ys hj
     split at e
     ·rename_i hlen
      split at e<;>cases e
      rename_i ht
      have hnj:j≠nid:=fun q=>by rw [q,hf] at hj; cases hj
      refine key hvl (by rw [ht]; rfl) hlen (fun u' hu' _=>⟨[u'],?_,?_,?_,fun u2 _ hu2=>?_⟩) ?_
      ·simp only [Gh.new,Al]
       exact (E4 (t:=.sl t) rfl).2 (World.ownsRow_lit w #[u'] 1 (Nat.zero_le _) (by decide) (by simp))
      ·exact ⟨fun i x u hx=>(by cases hx),fun i _ _ _ _ hx=>absurd hx (Nat.not_lt_zero _)⟩
      ·simp only [Gh.new,Al,Value.ownBlock]
      ·simp at hu2
       rw [Ak _ _ hnj,hj]
       simp only [Gh.new,As _ _ hnj]
       simp only [Cx,hj] at hu'
       exact hu2.symm.trans hu'
      ·simp only [Cx,Ai,Gh.new,Al]
     ·cases e
    ·cases e
   ·rename_i hvl
    split at e
    ·rename_i t e1 hn hin
     split at e<;>cases e
     rename_i hlen
     refine key hvl (by rw [A8m hn,Ayx]) hlen (fun u' hu' _=>⟨[u'],?_,⟨fun i x v h1 h2=>?_,fun i i' v v' b _ _ h1 _ h3 _=>?_⟩,?_,fun u2 hq=>by cases hq⟩) ?_
     ·simp only [Gh.new,Al]
      exact (E4 (t:=.sl t) rfl).2 (World.ownsRow_lit w #[u'] 1 (Nat.zero_le _) (by decide) (by simp))
     ·have hu':u'=.slice none 0 0:=hu'
      subst hu'
      have hv:v=.slice none 0 0:=by
       cases i with
       | zero=>simpa using h2.symm
       | succ i=>simp at h2
      have hx:x=[]:=by
       cases i with
       | zero=>simpa using h1.symm
       | succ i=>simp at h1
      subst hv hx
      exact ⟨[],Arv _ t 0 e1 t.sz,Aga _ _,fun b hb=>by cases hb⟩
     ·have hu':u'=.slice none 0 0:=hu'
      subst hu'
      have hv:v=.slice none 0 0:=by
       cases i with
       | zero=>simpa using h1.symm
       | succ i=>simp at h1
      subst hv
      cases h3
     ·simp only [Gh.new,Al,Value.ownBlock]
     ·simp only [Cx,Ai,Gh.new,Al]
    ·cases e
   ·cases e
  ·cases e
 ·cases e
theorem A6h (h:Bp n B Iq s g a w) {nid:Nat} {T ty:TypeId} {x y:Operand} {l:Lf} {s':St} (e:Nl (Ar9 P s nid T x y)=some (l,s')):
  ∃ u w' g',(Builtin.append_ #[T,T] ty #[a.eval x,a.eval y]).run P w=.ok u w'∧Go B Iq s g w s' g' w'∧Bp n B Iq s' g' a w'∧Cx s' g' w' l u∧u.oneCell'=true:=by
 obtain ⟨cs0,e,hc⟩:=Cn e
 unfold Ar9 at e
 split at e
 ·rename_i el ix iy hel hx hy
  split at e
  ·rename_i e0 t xs c j e2 t2 xs2 c2 j2 hr hr2
   split at e
   ·rename_i hnid
    split at e
    ·rename_i hl2
     split at e
     ·rename_i hjx
      split at e
      ·rename_i he
       split at e<;>cases e
       rename_i hsz
       subst hjx
       obtain ⟨c0,hc⟩:=Ly hc
       obtain ⟨c1,hc⟩:=Ly hc
       obtain ⟨c3,hc⟩:=A1 hc
       obtain ⟨c4,hc⟩:=A1 hc
       obtain ⟨c5,_⟩:=A1 hc
       have c0:c=false:=by simpa using c0
       subst c0
       subst c1
       obtain ⟨ej2,tj2,ys2,hj2⟩:=Aum hl2
       obtain ⟨hU,_,_,hby,⟨i,z,hi,hz,hi1,hi2,hzs⟩,_⟩:=f5 hel
       have rx:=h.res j
       rw [hr] at rx
       obtain ⟨cs,k1,k2,k3,_⟩:=rx
       have k1:Hr w (.sl t) 0 e0.o (Ty.sl t).sz (g.hdr j) xs.length cs:=k1
       have hlx:a.eval x=g.hdr j:=by
        obtain ⟨hl,_⟩:=C7 h hx
        simpa only [Cx,hr] using hl
       have hly:a.eval y=g.hdr iy:=by
        obtain ⟨hl,_⟩:=C7 h hy
        simpa only [Cx,hr2] using hl
       have ry:=h.res iy
       rw [hr2] at ry
       obtain ⟨csy,y1,y2,y3,y4⟩:=ry
       rw [c3] at y1 y4
       simp only [Bool.toNat_true] at y1
       have hyl:csy.length=1:=by simpa using y1.1
       obtain ⟨u,rfl⟩:∃ u,csy=[u]:=by
        match csy,hyl with
        | [u],_=>exact ⟨u,rfl⟩
       have hu:=y4 u rfl rfl
       rw [hj2] at hu
       simp only at hu
       have hu1:u.oneCell'=true:=by
        have rj:=h.res j2
        rw [hj2] at rj
        obtain ⟨_,q1,_⟩:=rj
        rw [hu]
        exact W9 q1
       have hsrc:Src P i.size T (a.eval y) 1 [u] w:=by
        rw [hi1,hsz,hly]
        rcases y1.2 with ⟨_,hn⟩ | ⟨b,cap,cur,hv,_⟩
        ·omega
        ·have hc:=y1.cells (g:=b) (by rw [hv]; rfl)
         rw [hv]
         exact Src.ofSlice w hU _ _ cap [u] (by simp) hc (by simpa using hu1)
       have kk:w.ownsRow 0 el.e i.size (a.eval x) xs.length cs:=by
        refine (E4 (t:=.sl t) rfl).1 ?_
        rw [hi1,hsz,hlx,← he]
        exact k1
       have hlen:xs.length + 1≤140737488355328:=Nat.le_trans (Nat.le_mul_of_pos_right _ hby) c5
       obtain ⟨v',w',q1,q2,q3,q4⟩:=Ax6 w T T ty el.e i z hU hi hz (by rw [hzs,hi1]) kk hsrc (by simp only [maxLen]; omega) (by rw [hi2]; exact c5)
       have q2:=(E4 (t:=.sl t) rfl).2 q2
       have hcl:cs.length=xs.length:=by simpa [Ty.sz] using k1.1
       have hnix:nid≠j:=fun q=>by rw [q,hr] at hnid; cases hnid
       obtain ⟨m1,m2,m3,m4⟩:=h.growR (o:=some j) hnid (v:=a.eval x) (v':=v') (w':=w') (r:=.last e0 t xs true j2) (I:=g.innL j) (fun id q=>by
        cases q
        exact ⟨by rw [hr]; rfl,hlx,by rw [hlx]; exact k3⟩) (fun q=>by cases q) q3 q4 (Aja q2) (fun _ b hb=>⟨j,rfl,by rw [hr]; rfl,hb⟩) (fun hS _=>by
        refine ⟨cs++[u],?_,?_,?_,fun u' _ hu'=>?_⟩
        ·rw [hi1,hsz,← he] at q2
         simpa [Gh.mv] using q2
        ·have hmi:(Gh.mv g (some j) nid v' (g.innL j)).inn nid=g.inn j:=by funext b; simp only [Gh.inn,Gh.mv,Al]
         rw [hmi]
         refine (k2.keep hS fun b hb=>?_).congr fun i2 hi2=>?_
         ·obtain ⟨⟨n1,_,_⟩,n4,_⟩:=h.inn j b (by rw [hr]; rfl) hb
          exact q3.block b n1 fun q=>n4 j (by rw [k3,← hlx]; exact q.symm)
         ·rw [List.getElem?_append_left (by omega)]
        ·simp [Gh.mv]
        ·rw [← hcl,List.getElem?_append_right (Nat.le_refl _),Nat.sub_self] at hu'
         have hu':u=u':=by simpa using hu'
         have h1:j2≠nid:=fun q=>by rw [q,hnid] at hj2; cases hj2
         have h2:j2≠j:=fun q=>by rw [q,hr] at hj2; cases hj2
         rw [Ak _ _ h1]
         have e5:(Ei s (some j)).res j2=.row ej2 tj2 ys2:=by
          show (s.setRes j .dead).res j2=_
          rw [Ak _ _ h2,hj2]
         rw [e5]
         have hd:(Gh.mv g (some j) nid v' (g.innL j)).hdr j2=g.hdr j2:=by simp [Gh.mv,As _ _ h1]
         rw [hd]
         exact hu'.symm.trans hu)
       refine ⟨v',w',_,q1,⟨m4,m1,m2,rfl⟩,m3,?_,W9 q2⟩
       simp only [Cx,Ai]
       simp [Gh.mv]
      ·cases e
     ·cases e
    ·cases e
   ·cases e
  ·cases e
 ·cases e
theorem A8o (h:Bp n B Iq s g a w) {tk:Bool} {nid:Nat} {o:Oper} {av:AV} {s':St} (e:Nl (Aks tk P s nid o)=some (av,s')):O1 P n B Iq s g a w o av s':=by
 obtain ⟨dst,op,type,pos,after,guard⟩:=o
 cases op<;>simp only [Aks] at e<;>first | (cases e; done) | skip
 case load T x=>
  cases tk with
  | false=>cases e
  | true=>
   obtain ⟨l,s1,e1,e2⟩:=Xc e
   cases e2
   obtain ⟨u,g',k1,k2,k3,k4,k5⟩:=Bem h e1
   exact O1.val (v:=u) (by simp [execOp,k1]) k2 k3 ⟨k4,k5⟩
 case store T x y=>
  obtain ⟨s1,e1,e2⟩:=Ajg e
  cases e2
  obtain ⟨w',g',k1,k2,k3⟩:=Bbl h e1
  exact O1.skip (by simp [execOp,k1]) k2 k3
 case fieldAddr T x f=>
  obtain ⟨l,s1,e1,e2⟩:=Ra e
  cases e2
  obtain ⟨l',e3,e4⟩:=Option.map_eq_some_iff.1 e1
  cases e4
  obtain ⟨u,k1,k2,k3⟩:=Av0 h e3
  exact O1.here h (v:=u) (by simp [execOp,k1]) ⟨k2,k3⟩
 case nilCheck x=>
  obtain ⟨v,e1,e2⟩:=g5 e
  cases e2
  obtain ⟨⟨ad,k1⟩,k2⟩:=Azl h e1
  refine O1.here h (v:=a.eval x) ?_ k2
  simp [execOp,k1]
 case makeSlice T x y=>
  obtain ⟨l,s1,e1,e2⟩:=Xc e
  cases e2
  obtain ⟨u,w',g',k1,k2,k3,k4,k5⟩:=Bbm h e1
  exact O1.val (v:=u) (by simp [execOp,k1]) k2 k3 ⟨k4,k5⟩
 case buildSlice T len parts=>
  obtain ⟨l,s1,e1,e2⟩:=Ra e
  cases e2
  obtain ⟨u,w',g',k1,k2,k3,k4,k5⟩:=A8n h e1
  exact O1.val (v:=u) (by simp only [execOp,Sem.run_bind,k1]; rfl) k2 k3 ⟨k4,k5⟩
 case call c=>
  obtain ⟨callee,args,argTypes⟩:=c
  simp only at e
  split at e
  ·split at e
   ·rename_i x y T U ha ht
    have ha':args=#[x,y]:=by apply Array.toList_inj.1; simpa using ha
    have ht':argTypes=#[T,U]:=by apply Array.toList_inj.1; simpa using ht
    subst ha' ht'
    split at e
    ·rename_i hUT
     subst hUT
     obtain ⟨l,s1,e1,e2⟩:=Xc e
     cases e2
     obtain ⟨u,w',g',k1,k2,k3,k4,k5⟩:=A6h (ty:=type) h e1
     exact O1.val (v:=u) (by simp [execOp,resolve,invoke,builtin,k1]) k2 k3 ⟨k4,k5⟩
    ·cases e
   ·cases e
  ·cases e
theorem Bgd (h:Bp n B Iq s g a w) {m:Nm} {nid:Nat} {o:Oper} {av:AV} {s':St} (e:Nl (X0 m P s nid o)=some (av,s')):O1 P n B Iq s g a w o av s':=by
 unfold X0 at e
 split at e
 ·exact Aoi h e
 ·split at e
  ·rename_i r hr
   exact A8o h (by rw [hr]; exact e)
  ·exact Aoi h e
 ·split at e
  ·rename_i r hr
   exact A8o h (by rw [hr]; exact e)
  ·exact Aoi h e
theorem Qs {m:Nm} {nid:Nat} {o:Oper} (hn:∀ tk,Aks tk P s nid o=none):X0 m P s nid o=S6 P s nid o:=by
 unfold X0
 cases m<;>simp only [hn]
end
end
end Go.Proofs.YtjokieaajjmoeaaGreat.R
end
