/- Rows of rows, of which the last is still written: the evaluator's operations, and that they are the machine's. No condition. -/
import Derived.Test.YtfkefgbihlfjmaaGreatREx
namespace Go.Proofs.YtfkefgbihlfjmaaGreat.R
open Go Go.RowKit
set_option linter.unusedVariables false
set_option linter.unusedSimpArgs false
def Asu (P:Program) (s:St) (nid:Nat) (T:TypeId):Option (AV×St):=
 match s.res nid,Ab8 P T with
 | .unborn,some el=>some (.vl (.lf (.row nid)),s.setRes nid (.row el.e el.t []))
 | _,_=>none
def Acf (s:St) (x:Operand):Bool:=match s.leaf x with
 | some (.rp id _ _)=>(match s.res id with
  | .last _ _ _ _ _=>true
  | _=>false)
 | _=>false
def i5 (s:St) (x:Operand):Bool:=match s.leaf x with
 | some (.row id)=>(match s.res id with
  | .last _ _ _ _ _=>true
  | _=>false)
 | _=>false
def A0f (P:Program) (T:TypeId) (len:Nat):Bool:=match Ab8 P T with
 | some el=>(match el.t with
  | .sl _=>Nat.beq len 1
  | _=>false)
 | none=>false
def Aqu (P:Program) (s:St) (T:TypeId) (x:Operand):Option (List Bool×Lf):=match s.leaf x,Ab5 P T with
 | some (.rp id i off),some false=>match s.res id with
  | .last e t xs c j=>match s.res j with
   | .row _ _ _=>if off=0 then some ([c,decide (i=xs.length)],.row j) else none
   | _=>none
  | _=>none
 | _,_=>none
def Acg (P:Program) (s:St) (T:TypeId) (x y:Operand):Option (List Bool×St):=match s.leaf x,s.leaf y,P.info? T with
 | some (.rp id i off),some (.row k),some inf=>match s.res id with
  | .last e t xs c j=>match s.res k with
   | .row _ t' _=>if off=0 then (if inf.size=1 then (if t'=t then some ([c,decide (i=xs.length)],s.setRes id (.last e t xs c k)) else none) else none) else none
   | _=>none
  | _=>none
 | _,_,_=>none
def U4 (P:Program) (s:St) (T:TypeId) (x y:Operand):Option (List Bool×Lf):=match P.underlying T with
 | some (.slice e0)=>match P.info? e0,s.leaf x,s.conc y with
  | some inf,some (.row id),some (.int _ n)=>match s.res id with
   | .last e t xs c j=>if inf.size=1 then some ([decide (0≤n),decide (n < ((xs.length + c.toNat:Nat):Int))],.rp id n.toNat 0) else none
   | _=>none
  | _,_,_=>none
 | _=>none
def Aey (P:Program) (s:St) (T:TypeId) (x:Operand):Option Value:=match P.underlying T with
 | some (.slice _)=>match s.leaf x with
  | some (.row id)=>match s.res id with
   | .last e t xs c j=>some (.int .i64 ((xs.length + c.toNat:Nat):Int))
   | _=>none
  | _=>none
 | _=>none
def Aqv (s:St) (j:Nat):Bool:=match s.res j with
 | .row _ _ _=>true
 | _=>false
def Aez (P:Program) (s:St) (nid:Nat) (T:TypeId) (x y:Operand):Option (List Bool×Lf×St):=match Ab8 P T,s.leaf x,s.leaf y with
 | some el,some (.row ix),some (.row iy)=>match s.res ix,s.res iy with
  | .last e t xs c j,.last e2 t2 xs2 c2 j2=>match s.res j,s.res nid with
   | .row ej tj ys,.unborn=>if Aqv s j2 then (if h:tj=t then (if e=el.e then (if el.t.sz=1 then
     some ([c2,decide (xs2.length=0),decide (el.t=.sl t),decide ((xs.length + c.toNat + 1) * el.bytes≤140737488355328)],.row nid,
      ((s.setRes j (.frozen t (h ▸ ys))).setRes ix .dead).setRes nid (.last el.e t (Wf c xs (h ▸ ys)) true j2)) else none) else none) else none) else none
   | _,_=>none
  | _,_=>none
 | _,_,_=>none
def Ach (P:Program) (s:St) (nid:Nat) (T:TypeId) (l:Lf):Option (Lf×St):=match Ab8 P T,s.res nid,l with
 | some el,.unborn,.row j=>match s.res j with
  | .row _ t _=>if el.t=.sl t then (if Nat.beq j nid then none else some (.row nid,s.setRes nid (.last el.e t [] true j))) else none
  | _=>none
 | _,_,_=>none
def Akg (P:Program) (s:St) (nid:Nat) (T:TypeId) (parts:List (Nat×Operand)):Option (Lf×St):=match parts with
 | [(0,x)]=>match s.leaf x,Ab8 P T with
  | some (.c (.slice none 0 0)),some el=>(match Asu P s (nid + 1) el.e with
   | some (_,s1)=>Ach P s1 nid T (.row (nid + 1))
   | none=>none)
  | some l,some _=>Ach P s nid T l
  | _,_=>none
 | _=>none
section
variable {P:Program} {n B:Nat} {Iq:List Nat} {s:St} {g:Gh} {a:Act} {w:World}
theorem Aw3 (h:B8 n B Iq s g a w) {id j i:Nat} {e:TypeId} {t:Ty} {xs:List (List t.D)} {c:Bool} {u:Value} (hr:s.res id=.last e t xs c j) (hl:Dq s g w (.rp id i 0) u):
  ∃ b cap cs cur,u=.pointer (some ⟨b,i,none⟩)∧g.blk id=some b∧g.hdr id=.slice (some ⟨b,0,none⟩) (xs.length + c.toNat) cap∧w.heap[b]?=some (.cells cur e (0,0))∧i < xs.length + c.toNat∧
   xs.length + c.toNat≤cap∧cap≤maxLen∧cur.size=cap * 1∧cur.toList.take ((xs.length + c.toNat) * 1)=cs∧H8 w (Eu s g) (.sl t) xs (cs.take xs.length)∧cs.length=xs.length + c.toNat∧
   (∀ u,c=true→cs[xs.length]?=some u→match s.res j with
    | .row _ _ _=>u=g.hdr j
    | .frozen _ _=>u=g.hdr j
    | .dead=>True
    | _=>False):=by
 have r:=h.res id
 rw [hr] at r
 obtain ⟨cs,h1,h2,h3,h4⟩:=r
 simp only [Dq,hr,Nat.add_zero] at hl
 obtain ⟨hi,b,hb,hu⟩:=hl
 obtain ⟨hlen,hown⟩:=h1
 rcases hown with ⟨hv,hn⟩ | ⟨gg,cap,cur,hv,_,hh,hcap,hmx,hsz,hcs⟩
 ·omega
 ·have hbg:b=gg:=by
   rw [h3,hv] at hb
   exact (Option.some.inj hb).symm
  subst hbg
  exact ⟨b,cap,cs,cur,hu,hb,hv,hh,hi,hcap,hmx,hsz,hcs,h2,by simpa using hlen,h4⟩
theorem Avj (h:B8 n B Iq s g a w) {T:TypeId} {x:Operand} {l:Lf} (e:Ml (Aqu P s T x)=some l):∃ u,(Instr.loadAt T (a.eval x)).run P w=.ok u w∧Dq s g w l u∧u.oneCell'=true:=by
 obtain ⟨cs0,e,hc⟩:=Co e
 unfold Aqu at e
 split at e
 ·rename_i id i off hx hA
  split at e
  ·rename_i e0 t xs c j hr
   split at e
   ·rename_i ej tj ys hj
    split at e<;>cases e
    rename_i h0
    subst h0
    obtain ⟨hc1,hc⟩:=Oq hc
    obtain ⟨hc2,_⟩:=Bc hc
    subst hc1
    obtain ⟨hl,_⟩:=Dc h hx
    obtain ⟨b,cap,cs,cur,hu,hb,hv,hh,hi,hcap,_,hsz,hcs,h2,hlen,h4⟩:=Aw3 h hr hl
    simp only [Bool.toNat_true] at hi hlen hcs
    obtain ⟨u,hu2⟩:∃ u,cs[xs.length]?=some u:=⟨_,List.getElem?_eq_getElem (by omega)⟩
    have hq:=h4 u rfl hu2
    rw [hj] at hq
    simp only at hq
    have hcur:cur[i]?=some u:=by
     rw [← hcs,List.getElem?_take] at hu2
     split at hu2
     ·rw [← Array.getElem?_toList,hc2]; exact hu2
     ·cases hu2
    have h1:u.oneCell'=true:=by
     have rj:=h.res j
     rw [hj] at rj
     obtain ⟨_,q1,_⟩:=rj
     rw [hq]
     exact g8 q1
    refine ⟨u,?_,by simp only [Dq,hj]; exact hq,h1⟩
    rw [hu]
    have hb1:Wg P T [.c u]=some (.lf (.c u)):=by simp [Wg,hA]
    obtain ⟨u',hr',hv'⟩:=Wk (s:=s) (g:=g) (w:=w) (ad:=⟨b,i,none⟩) hb1 (cs:=[u]) ⟨⟨rfl,h1⟩,trivial⟩ (fun k v hk=>by
     cases k with
     | zero=>
      simp at hk
      subst hk
      rw [Ab4,Nat.add_zero,cell_of_row w b _ cur e0 (0,0) hh]
      exact hcur
     | succ k=>simp at hk)
    cases hv'.1
    simpa [Instr.loadAt,Instr.sureAddr] using hr'
   ·cases e
  ·cases e
 ·cases e
theorem Asv (h:B8 n B Iq s g a w) {T:TypeId} {x y:Operand} {l:Lf} (e:Ml (U4 P s T x y)=some l):∃ u,(Instr.indexAt T (a.eval x) (a.eval y)).run P w=.ok u w∧Dq s g w l u∧u.oneCell'=true:=by
 obtain ⟨cs0,e,hc⟩:=Co e
 unfold U4 at e
 split at e
 ·rename_i el hU
  have hel:P.elem T=el:=by simp [Program.elem,hU]
  have hU':P.underlying T=some (.slice (P.elem T)):=by rw [hel]; exact hU
  split at e
  ·rename_i inf id k m hi hx hy
   split at e
   ·rename_i e0 t xs c j hr
    split at e<;>cases e
    rename_i hsz
    obtain ⟨h0,hc⟩:=Bc hc
    obtain ⟨h1,_⟩:=Bc hc
    obtain ⟨hl,_⟩:=Dc h hx
    have r:=h.res id
    rw [hr] at r
    obtain ⟨cs,q1,q2,q3,_⟩:=r
    simp only [Dq,hr] at hl
    rcases q1.2 with ⟨hv,hn⟩ | ⟨gg,cap,cur,hv,_⟩
    ·omega
    ·refine ⟨.pointer (some ((⟨gg,0,none⟩:Addr).add (m.toNat * 1))),?_,?_,rfl⟩
     ·rw [(Db h hy).1,hl,hv,run_indexAt_slice w T _ _ _ k m hU',if_pos ⟨h0,h1⟩,hel]
      simp [sizeOf,typeInfo,hi,hsz,Result.andThen]
     ·simp only [Dq,hr]
      refine ⟨by omega,gg,by rw [q3,hv]; rfl,by rw [Ajy,Nat.mul_one]; rfl⟩
   ·cases e
  ·cases e
 ·cases e
theorem Ays (h:B8 n B Iq s g a w) {T ty:TypeId} {x:Operand} {v:Value} (e:Aey P s T x=some v):(Builtin.len_ #[T] ty #[a.eval x]).run P w=.ok v w∧v.oneCell'=true:=by
 unfold Aey at e
 split at e
 ·rename_i el hU
  have hel:P.elem T=el:=by simp [Program.elem,hU]
  have hU':P.underlying T=some (.slice (P.elem T)):=by rw [hel]; exact hU
  split at e
  ·rename_i id hx
   split at e
   ·rename_i e0 t xs c j hr
    cases e
    obtain ⟨hl,_⟩:=Dc h hx
    have r:=h.res id
    rw [hr] at r
    obtain ⟨cs,q1,q2,q3,_⟩:=r
    simp only [Dq,hr] at hl
    have:∃ A cap,g.hdr id=.slice A (xs.length + c.toNat) cap:=by
     rcases q1.2 with ⟨hv,hn⟩ | ⟨gg,cap,cur,hv,_⟩
     ·exact ⟨none,0,by rw [hv,hn]⟩
     ·exact ⟨_,_,hv⟩
    obtain ⟨A,cap,hv⟩:=this
    rw [hl,hv,run_len_slice w T ty A _ cap hU']
    exact ⟨rfl,rfl⟩
   ·cases e
  ·cases e
 ·cases e
theorem Asw (h:B8 n B Iq s g a w) {nid:Nat} {T:TypeId} {av:AV} {s':St} (e:Asu P s nid T=some (av,s')):
  ∃ g',Go B Iq s g w s' g' w∧B8 n B Iq s' g' a w∧Uk s' g' w av (.slice none 0 0):=by
 unfold Asu at e
 split at e<;>cases e
 rename_i el hf hel
 have hS:∀ b,Eu s g b→b < w.heap.size→Eu (s.setRes nid (.row el.e el.t [])) ⟨S9 g.blk nid none,S9 g.hdr nid (.slice none 0 0),g.av⟩ b∧w.heap[b]?=w.heap[b]?:=by
  intro b hb _
  refine ⟨⟨hb.1,fun j hj hk=>?_⟩,rfl⟩
  by_cases q:j=nid
  ·subst q; simp at hk
  ·rw [Aq s _ q] at hj
   simp only [A1 _ _ q] at hk
   exact hb.2 j hj hk
 have hI:∀ j,A4 s g (s.setRes nid (.row el.e el.t [])) ⟨S9 g.blk nid none,S9 g.hdr nid (.slice none 0 0),g.av⟩ j:=by
  intro j
  by_cases q:j=nid
  ·subst q
   unfold A4
   rw [hf]
   exact .inr trivial
  ·exact A4.same (Aq s _ q) (by simp [A1 _ _ q]) (by simp [A1 _ _ q])
 refine ⟨_,⟨Kp.refl B Iq w,hS,hI,rfl⟩,h.step h.size h.defers (Nat.le_refl _) hS hI (fun i=>.inl ⟨rfl,rfl⟩) (fun j=>?_) (fun i j b hi hj=>?_) (fun i b hi=>?_) rfl,?_⟩
 ·by_cases q:j=nid
  ·subst q
   right
   rw [Ao]
   refine ⟨[],⟨by simp,.inl ⟨by simp,rfl⟩⟩,Aka _ _,by simp [Value.ownBlock]⟩
  ·left
   exact ⟨Aq s _ q,by simp [A1 _ _ q],by simp [A1 _ _ q],fun _ _=>rfl⟩
 ·by_cases q1:i=nid
  ·simp [q1] at hi
  ·by_cases q2:j=nid
   ·simp [q2] at hj
   ·simp only [A1 _ _ q1] at hi
    simp only [A1 _ _ q2] at hj
    exact h.inj i j b hi hj
 ·by_cases q1:i=nid
  ·simp [q1] at hi
  ·simp only [A1 _ _ q1] at hi
   exact h.lt i b hi
 ·refine ⟨?_,rfl⟩
  simp only [Dq,Ao,A9]
theorem Ayt {u:Value} (h:u.oneCell'=true):u.cells=#[u]:=by cases u<;>first | rfl | simp [Value.oneCell'] at h
theorem Asx (h:B8 n B Iq s g a w) {T:TypeId} {x y:Operand} {s':St} (e:Ml (Acg P s T x y)=some s'):
  ∃ w' g',(Instr.storeAt T (a.eval x) (a.eval y)).run P w=.ok () w'∧Go B Iq s g w s' g' w'∧B8 n B Iq s' g' a w':=by
 obtain ⟨cs0,e,hc⟩:=Co e
 unfold Acg at e
 split at e
 ·rename_i id i off k inf hx hy hinf
  split at e
  ·rename_i e0 t xs c j hr
   split at e
   ·rename_i ek tk ys hk
    split at e
    ·rename_i h0
     split at e
     ·rename_i hsz1
      split at e<;>cases e
      rename_i ht
      subst ht
      subst h0
      obtain ⟨hc1,hc⟩:=Oq hc
      obtain ⟨hc2,_⟩:=Bc hc
      subst hc1
      obtain ⟨hl,_⟩:=Dc h hx
      obtain ⟨hly,h1y⟩:=Dc h hy
      simp only [Dq,hk] at hly
      obtain ⟨b,cap,cs,cur,hu,hb,hv,hh,hi,hcap,hmx,hsz,hcs,h2,hlen,h4⟩:=Aw3 h hr hl
      simp only [Bool.toNat_true] at hi hlen hcs hcap hv
      have hcl:=Ayt h1y
      have hrun:=Wm (P:=P) (T:=T) hinf hh (fun q=>absurd q (Nat.lt_irrefl 0)) (v:=a.eval y) (off:=i) (by rw [hcl,hsz1]; rfl) (by rw [hcl]; simp; omega) (by rw [hcl]; simpa using h1y)
      rw [← hu,hcl] at hrun
      have hne:∀ k,k≠b→(w.setRow b (cur.toList.take i++#[a.eval y].toList++cur.toList.drop (i + #[a.eval y].toList.length)).toArray).heap[k]?=w.heap[k]?:=fun k hk=>setRow_other w b k _ hk
      have hlive:(s.res id).live=true:=by rw [hr]; rfl
      have hS:∀ c,Eu s g c→c < w.heap.size→Eu (s.setRes id (.last e0 tk xs true k)) g c∧(w.setRow b (cur.toList.take i++#[a.eval y].toList++cur.toList.drop (i + #[a.eval y].toList.length)).toArray).heap[c]?=w.heap[c]?:=by
       intro c hc _
       refine ⟨⟨hc.1,fun j hj=>?_⟩,hne c (fun q=>hc.2 id hlive (by rw [q]; exact hb))⟩
       by_cases q:j=id
       ·rw [q]; exact hc.2 id hlive
       ·rw [Aq s _ q] at hj; exact hc.2 j hj
      have hI:∀ j,A4 s g (s.setRes id (.last e0 tk xs true k)) g j:=by
       intro j
       by_cases q:j=id
       ·subst q
        unfold A4
        rw [hr,Ao]
        exact .inr (.inl ⟨_,_,_,_,_,rfl,rfl,rfl,rfl⟩)
       ·exact A4.same (Aq s _ q) rfl rfl
      have hik:k≠id:=fun q=>by rw [q,hr] at hk; cases hk
      refine ⟨_,g,hrun,⟨⟨rfl,rfl,rfl,by simp,fun k hk hn=>hne k (fun q=>?_)⟩,hS,hI,rfl⟩,h.step h.size h.defers (by simp) hS hI (fun i=>.inl ⟨rfl,rfl⟩) (fun j'=>?_) h.inj (fun j' c hj=>?_) rfl⟩
      ·subst q
       rcases (h.lt id k hb).2.1 with q2 | q2
       ·exact hn q2
       ·omega
      ·by_cases q:j'=id
       ·subst q
        right
        rw [Ao]
        have hcur:cur.toList.length=cap:=by rw [Array.length_toList]; omega
        have htk:(cur.toList.take i++#[a.eval y].toList++cur.toList.drop (i + #[a.eval y].toList.length)).take ((xs.length + 1) * 1)=cur.toList.take i++[a.eval y]:=by
         rw [← hc2]
         have:(cur.toList.take i++#[a.eval y].toList).length=(i + 1) * 1:=by simp; omega
         rw [← this]
         exact List.take_left
        refine ⟨cur.toList.take i++[a.eval y],⟨by simp; omega,.inr ⟨b,cap,_,hv,Nat.zero_le _,setRow_heap w b cur _ e0 _ hh,by simpa using hcap,hmx,?_,htk⟩⟩,?_,by rw [hb,hv]; rfl,fun u _ hu2=>?_⟩
        ·simp only [List.size_toArray,List.length_append,List.length_take,List.length_drop,hcur]
         simp
         omega
        ·have e1:(cur.toList.take i++[a.eval y]).take xs.length=cs.take xs.length:=by
          rw [← hc2,← hcs,List.take_take,List.take_append_of_le_length (by simp; omega),List.take_take]
          congr 1
          omega
         rw [e1]
         exact h2.keep hS
        ·rw [List.getElem?_append_right (by simp; omega)] at hu2
         have:xs.length - (cur.toList.take i).length=0:=by simp; omega
         rw [this] at hu2
         simp at hu2
         rw [Aq s _ hik,hk]
         exact hu2.symm.trans hly
       ·left
        exact ⟨Aq s _ q,rfl,rfl,fun c hc=>hne c (fun q2=>q (h.inj j' id c hc (by rw [q2]; exact hb)))⟩
      ·have:=h.lt j' c hj
       simpa using this
     ·cases e
    ·cases e
   ·cases e
  ·cases e
 ·cases e
theorem Asy {j:Nat} (h:Aqv s j=true):∃ (e:TypeId) (t:Ty) (ys:List t.D),s.res j=.row e t ys:=by
 unfold Aqv at h
 split at h
 ·exact ⟨_,_,_,by assumption⟩
 ·cases h
theorem Aqw (h:B8 n B Iq s g a w) {nid:Nat} {T ty:TypeId} {x y:Operand} {l:Lf} {s':St} (e:Ml (Aez P s nid T x y)=some (l,s')):
  ∃ u w' g',(Builtin.append_ #[T,T] ty #[a.eval x,a.eval y]).run P w=.ok u w'∧Go B Iq s g w s' g' w'∧B8 n B Iq s' g' a w'∧Dq s' g' w' l u∧u.oneCell'=true:=by
 obtain ⟨cs0,e,hc⟩:=Co e
 unfold Aez at e
 split at e
 ·rename_i el ix iy hel hx hy
  split at e
  ·rename_i e0 t xs c j e2 t2 xs2 c2 j2 hr hr2
   split at e
   ·rename_i ej tj ys hj hnid
    split at e
    ·rename_i hl2
     split at e
     ·rename_i ht
      split at e
      ·rename_i he
       split at e<;>cases e
       rename_i hsz
       subst ht
       obtain ⟨c1,hc⟩:=Oq hc
       obtain ⟨c3,hc⟩:=Bc hc
       obtain ⟨c4,hc⟩:=Bc hc
       obtain ⟨c5,_⟩:=Bc hc
       subst c1
       obtain ⟨ej2,tj2,ys2,hj2⟩:=Asy hl2
       obtain ⟨hU,_,_,hby,⟨i,z,hi,hz,hi1,hi2,hzs⟩,_⟩:=Aca hel
       obtain ⟨f1,f2,f3⟩:=A4q h hj
       have hixj:ix≠j:=fun q=>by rw [q,hj] at hr; cases hr
       have hr':(s.setRes j (.frozen tj ys)).res ix=.last e0 tj xs c j:=(Aq s _ hixj).trans hr
       obtain ⟨cs,k1,k2,k3,k4⟩:=Asn f3 hr' (Ao s j _)
       have hlx:a.eval x=g.hdr ix:=by
        obtain ⟨hl,_⟩:=Dc h hx
        simpa only [Dq,hr] using hl
       have hly:a.eval y=g.hdr iy:=by
        obtain ⟨hl,_⟩:=Dc h hy
        simpa only [Dq,hr2] using hl
       have ry:=h.res iy
       rw [hr2] at ry
       obtain ⟨csy,y1,y2,y3,y4⟩:=ry
       rw [c3] at y1 y4
       simp only [Bool.toNat_true] at y1
       have hyl:csy.length=1:=by simpa using y1.1
       obtain ⟨u,rfl⟩:∃ u,csy=[u]:=by
        match csy,hyl with
        | [u],_=>exact ⟨u,rfl⟩
       have hu:=y4 u rfl rfl
       rw [hj2] at hu
       simp only at hu
       have hu1:u.oneCell'=true:=by
        have rj:=h.res j2
        rw [hj2] at rj
        obtain ⟨_,q1,_⟩:=rj
        rw [hu]
        exact g8 q1
       have hsrc:Src P i.size T (a.eval y) 1 [u] w:=by
        rw [hi1,hsz,hly]
        rcases y1.2 with ⟨_,hn⟩ | ⟨b,cap,cur,hv,_⟩
        ·omega
        ·have hc:=y1.cells (g:=b) (by rw [hv]; rfl)
         rw [hv]
         exact Src.ofSlice w hU _ _ cap [u] (by simp) hc (by simpa using hu1)
       have kk:w.ownsRow 0 el.e i.size (a.eval x) (Wf c xs ys).length cs:=by
        refine (On (t:=.sl tj) rfl).1 ?_
        rw [hi1,hsz,hlx,← he]
        exact k1
       have hlen:xs.length + c.toNat + 1≤140737488355328:=Nat.le_trans (Nat.le_mul_of_pos_right _ hby) c5
       obtain ⟨v',w',q1,q2,q3,q4⟩:=Aqp w T T ty el.e i z hU hi hz (by rw [hzs,hi1]) kk hsrc (by simp only [maxLen]; omega) (by rw [hi2,k4]; exact c5)
       have q2:=(On (t:=.sl tj) rfl).2 q2
       have hcl:cs.length=(Wf c xs ys).length:=by simpa [Ty.sz] using k1.1
       have hnj:nid≠j:=fun q=>by rw [q,hj] at hnid; cases hnid
       have hnix:nid≠ix:=fun q=>by rw [q,hr] at hnid; cases hnid
       have hf1:(s.setRes j (.frozen tj ys)).res nid=.unborn:=(Aq s _ hnj).trans hnid
       obtain ⟨m1,m2,m3,m4⟩:=f3.growR (o:=some ix) hf1 (v:=a.eval x) (v':=v') (w':=w') (r:=.last el.e tj (Wf c xs ys) true j2) (fun id q=>by
        cases q
        exact ⟨by rw [hr']; rfl,hlx,by rw [hlx]; exact k3⟩) (fun q=>by cases q) q3 q4 (Acb q2) (fun hS _=>by
        refine ⟨cs++[u],?_,?_,?_,fun u' _ hu'=>?_⟩
        ·rw [hi1,hsz] at q2
         simpa [Gh.mv] using q2
        ·rw [← hcl,List.take_left]
         exact k2.keep hS
        ·simp [Gh.mv]
        ·rw [← hcl,List.getElem?_append_right (Nat.le_refl _),Nat.sub_self] at hu'
         have hu':u=u':=by simpa using hu'
         have h1:j2≠nid:=fun q=>by rw [q,hnid] at hj2; cases hj2
         have h2:j2≠ix:=fun q=>by rw [q,hr] at hj2; cases hj2
         rw [Aq _ _ h1]
         show match ((s.setRes j (.frozen tj ys)).setRes ix .dead).res j2 with
          | .row _ _ _=>_
          | .frozen _ _=>_
          | .dead=>_
          | _=>_
         rw [Aq _ _ h2]
         have hd:(Gh.mv (g.off j) (some ix) nid v').hdr j2=g.hdr j2:=by simp [Gh.mv,Gh.off,A1 _ _ h1]
         rw [hd]
         by_cases h3:j2=j
         ·rw [h3,Ao]
          rw [← h3]
          exact hu'.symm.trans hu
         ·rw [Aq _ _ h3,hj2]
          exact hu'.symm.trans hu)
       refine ⟨v',w',_,q1,Go.trans ⟨Kp.refl B Iq w,f1,f2,rfl⟩ ⟨m4,m1,m2,rfl⟩,m3,?_,g8 q2⟩
       simp only [Dq,Ao]
       simp [Gh.mv]
      ·cases e
     ·cases e
    ·cases e
   ·cases e
  ·cases e
 ·cases e
theorem Ag1 (h:B8 n B Iq s g a w) {nid:Nat} {T:TypeId} {l0:Lf} {u0:Value} (hl0:Dq s g w l0 u0) (h10:u0.oneCell'=true) {l:Lf} {s':St} (e:Ach P s nid T l0=some (l,s')):
  ∃ u w' g',(Instr.buildSlice T 1 #[(0,u0)]).run P w=.ok u w'∧Go B Iq s g w s' g' w'∧B8 n B Iq s' g' a w'∧Dq s' g' w' l u∧u.oneCell'=true:=by
 unfold Ach at e
 split at e
 ·rename_i el j hel hf
  split at e
  ·rename_i ej t ys hj
   split at e
   ·rename_i ht
    split at e<;>cases e
    obtain ⟨hU,hsz,hzl,hby,⟨i,z,hi,hz,hi1,hi2,hzs⟩,hzL⟩:=Aca hel
    have hs1:el.t.sz=1:=by rw [ht]; rfl
    have hlj:u0=g.hdr j:=by simpa only [Dq,hj] using hl0
    have hnj:j≠nid:=fun q=>by rw [q,hf] at hj; cases hj
    obtain ⟨zv,_,hL0,i',hi',hz'⟩:=M8 hzL s g w
    obtain rfl:i=i':=Option.some.inj (hi.symm.trans hi')
    obtain rfl:z=zv:=Option.some.inj (hz.symm.trans hz')
    have hL1:=A33 hL0 (by omega) 1
    rw [hzl,hs1] at hL1
    have hfl:Yw (fun i=>some (i * 1,1)) (Yy el.z 1) [(0,.lf (.row j))]=some [.row j]:=by
     have:(Yy el.z 1).length=1:=by rw [Wl,hzl,hs1]
     match hq:Yy el.z 1,this with
     | [z0],_=>simp [Yw,Vl.ls]
    obtain ⟨cs',f1,f2⟩:=Aqo hfl (us:=[(0,u0)]) ⟨⟨rfl,hl0,h10⟩,trivial⟩ hL1
    obtain ⟨u',hcs'⟩:∃ u',cs'=#[u']:=by
     have:=f2.length
     simp at this
     exact ⟨cs'[0],by apply Array.ext<;>simp [this]; intro i p; subst p; rfl⟩
    subst hcs'
    have hu':u'=g.hdr j:=by
     have:=f2.1.1
     simpa only [Dq,hj] using this
    have hrun:(Instr.buildSlice T 1 #[(0,u0)]).run P w=.ok (.slice (some ⟨w.heap.size,0,none⟩) 1 1) (w.alloc (.cells #[u'] el.e)):=by
     refine run_buildSlice w T el.e 1 _ #[u'] i z hU hi hz (by rw [hi1,hs1]; decide) (by rw [hi1,hs1]; decide) ?_
     rw [hi1,hs1]
     exact f1
    have hS:=g7 h hf (.last el.e t [] true j) (.slice (some ⟨w.heap.size,0,none⟩) 1 1) (.cells #[u'] el.e)
    refine ⟨_,_,_,hrun,Go.alloc h hf _ (.slice (some ⟨w.heap.size,0,none⟩) 1 1) _,h.alloc hf _ (.slice (some ⟨w.heap.size,0,none⟩) 1 1) _ ⟨[u'],?_,?_,?_,fun u2 _ hu2=>?_⟩,?_,rfl⟩
    ·simp only [Gh.new,A9]
     exact (On (t:=.sl t) rfl).2 (World.ownsRow_lit w #[u'] 1 (Nat.zero_le _) (by decide) (by simp))
    ·exact ⟨rfl,fun i x hx=>by cases hx⟩
    ·simp only [Gh.new,A9,Value.ownBlock]
    ·simp at hu2
     rw [Aq _ _ hnj,hj]
     simp only [Gh.new,A1 _ _ hnj]
     exact hu2.symm.trans hu'
    ·simp only [Dq,Ao,Gh.new,A9]
   ·cases e
  ·cases e
 ·cases e
theorem Asz (h:B8 n B Iq s g a w) {nid:Nat} {T:TypeId} {parts:Array (Nat×Operand)} {l:Lf} {s':St} (e:Akg P s nid T parts.toList=some (l,s')):
  ∃ u w' g',(Instr.buildSlice T 1 (parts.map fun (i,x)=>(i,a.eval x))).run P w=.ok u w'∧Go B Iq s g w s' g' w'∧B8 n B Iq s' g' a w'∧Dq s' g' w' l u∧u.oneCell'=true:=by
 unfold Akg at e
 split at e
 ·rename_i x hp
  have hpa:(parts.map fun (i,x)=>(i,a.eval x))=#[(0,a.eval x)]:=by
   have:parts=#[(0,x)]:=by
    apply Array.toList_inj.1
    rw [hp]
   rw [this]
   simp
  rw [hpa]
  split at e
  ·rename_i el hx hel
   split at e
   ·rename_i v1 s1 hn
    obtain ⟨g1,n1,n2,n3⟩:=Asw h hn
    have hv1:v1=.vl (.lf (.row (nid + 1))):=by
     unfold Asu at hn
     split at hn<;>cases hn
     rfl
    subst hv1
    obtain ⟨hl,_⟩:=Dc h hx
    have hl:a.eval x=.slice none 0 0:=hl
    rw [hl]
    obtain ⟨u,w',g',k1,k2,k3,k4,k5⟩:=Ag1 n2 n3.1 n3.2 e
    exact ⟨u,w',g',k1,n1.trans k2,k3,k4,k5⟩
   ·cases e
  ·rename_i l0 el _ hx _
   obtain ⟨hl,h1⟩:=Dc h hx
   exact Ag1 h hl h1 e
  ·cases e
 ·cases e
end
end Go.Proofs.YtfkefgbihlfjmaaGreat.R

