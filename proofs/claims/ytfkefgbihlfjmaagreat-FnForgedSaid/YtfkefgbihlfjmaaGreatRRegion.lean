/- A region of operations: in the listed order, and in any that the edges allow. No condition. -/
import Derived.Test.YtfkefgbihlfjmaaGreatRView
namespace Go.Proofs.YtfkefgbihlfjmaaGreat.R
open Go Go.RowKit
set_option linter.unusedVariables false
set_option linter.unusedSimpArgs false
def Avo (s:St) (ops:Array Oper) (j:Nat):Option (Option Bool):=match ops[j]? with
 | some o=>match o.dst with
  | some d=>match s.cell d with
   | .vl (.lf (.c (.bool b)))=>some (some b)
   | .tp []=>some none
   | _=>none
  | none=>none
 | none=>none
def L7 (s:St) (ops:Array Oper) (o:Oper):Option Bool:=match o.guard with
 | none=>some true
 | some (j,want)=>match Avo s ops j with
  | some (some b)=>some (bif b then want else !want)
  | some none=>some false
  | none=>none
def Ant (P:Program) (o:Oper):Bool:=match o.op with
 | .move x=>!Ag2 x
 | .assign x=>!Ag2 x
 | .pick _ _ _=>true
 | .build _ _=>true
 | .load _ _=>true
 | .nilCheck _=>true
 | .binOp _ _ _ _ _=>true
 | .unOp _ _ _=>true
 | .convert _ U _=>!Ao4 P U
 | .slice T _ _ _ _=>A0h P T
 | .fieldAddr _ _ _=>true
 | .field _ _ _=>true
 | .indexAddr _ _ _=>true
 | .index _ _ _=>true
 | .extract _ _=>true
 | .call c=>match c.callee with
  | .builtin .len=>true
  | .builtin .min=>true
  | .builtin .max=>true
  | _=>false
 | _=>false
section
variable {P:Program} {n B:Nat} {Iq:List Nat} {s:St} {g:Gh} {a:Act} {w:World}
theorem A2v {nid:Nat} {o:Oper} {av:AV} {s':St} (hro:Ant P o=true) (e:Ml (U7 P s nid o)=some (av,s')):s'=s:=by
 obtain ⟨dst,op,type,pos,after,guard⟩:=o
 have v0':∀ {x:Option Value},Ml (v0 s x)=some (av,s')→s'=s:=fun e=>by obtain ⟨_,_,q⟩:=Ws e; cases q; rfl
 have vC':∀ {x:Option (List Bool×Value)},Ml (vC s x)=some (av,s')→s'=s:=fun e=>by obtain ⟨_,_,q⟩:=Aaj e; cases q; rfl
 have vl':∀ {x:Option Vl},Ml (vl0 s x)=some (av,s')→s'=s:=fun e=>by obtain ⟨_,_,q⟩:=Ajh e; cases q; rfl
 have av':∀ {x:Option AV},Ml (av0 s x)=some (av,s')→s'=s:=fun e=>by obtain ⟨_,_,q⟩:=i7 e; cases q; rfl
 have lf':∀ {x:Option (List Bool×Lf)},Ml (lfC s x)=some (av,s')→s'=s:=fun e=>by obtain ⟨_,_,q⟩:=Ajg e; cases q; rfl
 cases op<;>simp only [U7,Ant] at e hro<;>first | (cases hro; done) | skip
 case move x=>
  have:=Aji e
  unfold Y2 at this
  split at this
  ·rename_i h; rw [h] at hro; cases hro
  ·cases this; rfl
 case assign x=>
  have:=Aji e
  unfold Y2 at this
  split at this
  ·rename_i h; rw [h] at hro; cases hro
  ·cases this; rfl
 case pick=>exact av' e
 case build=>exact vl' e
 case load=>
  split at e
  ·exact lf' e
  ·exact vl' e
 case nilCheck=>exact av' e
 case binOp op T x y U=>
  split at e
  ·split at e
   ·exact vC' e
   ·exact v0' e
  ·exact vC' e
  ·exact vC' e
  ·exact vC' e
  ·split at e<;>exact v0' e
  ·split at e<;>exact v0' e
  ·exact v0' e
 case unOp=>exact v0' e
 case convert T U x=>
  split at e
  ·exact v0' e
  ·split at e
   ·rename_i q
    rw [q] at hro
    cases hro
   ·exact v0' e
 case slice=>
  rw [if_pos hro] at e
  exact vC' e
 case fieldAddr=>
  obtain ⟨l,s1,e1,e2⟩:=Tg e
  cases e2
  obtain ⟨l',e3,e4⟩:=Option.map_eq_some_iff.1 e1
  cases e4
  rfl
 case field=>exact vl' e
 case indexAddr=>split at e<;>exact lf' e
 case index=>exact vC' e
 case extract=>exact av' e
 case call c=>
  obtain ⟨callee,args,argTypes⟩:=c
  simp only at e hro
  split at hro
  ·simp only at e
   split at e
   ·split at e
    ·split at e<;>exact v0' e
    ·split at e<;>exact v0' e
   ·cases e
  ·exact v0' e
  ·exact v0' e
  ·cases hro
theorem A2w {o:Oper} (hro:Ant P o=true):Nh o=none:=by
 unfold Nh
 unfold Ant at hro
 split
 ·rename_i c hop
  rw [hop] at hro
  simp only at hro
  split
  ·rename_i f hf
   rw [hf] at hro
   cases hro
  ·rfl
 ·rfl
theorem A4z {o:Oper} (hro:Ant P o=true):Ack s o=none:=by
 unfold Ack
 unfold Ant at hro
 split
 ·rename_i c hop
  rw [hop] at hro
  simp only at hro
  split
  ·rename_i t hf
   rw [hf] at hro
   cases hro
  ·rfl
 ·rfl
theorem A0r (h:B8 n B Iq s g a w) {ops:Array Oper} {j:Nat} {r:Option Bool} (e:Avo s ops j=some r):yielded ops a.tmps j=r:=by
 unfold Avo at e
 unfold yielded
 split at e
 ·rename_i o ho
  split at e
  ·rename_i d hd
   have k:=h.cell d
   rw [ho]
   simp only [Option.bind_some,hd]
   split at e
   ·rename_i b hb
    cases e
    rw [hb] at k
    have k1:a.tmps.getD d undef=.bool b:=k.1
    rw [Array.getD_eq_getD_getElem?] at k1
    cases hq:a.tmps[d]? with
    | none=>rw [hq] at k1; simp [undef] at k1
    | some v=>rw [hq] at k1; simp at k1; rw [k1]
   ·rename_i hb
    cases e
    rw [hb] at k
    obtain ⟨us,hu,hsz,_⟩:=k
    have:us=#[]:=by apply Array.eq_empty_of_size_eq_zero; simpa using hsz
    subst this
    rw [Array.getD_eq_getD_getElem?] at hu
    cases hq:a.tmps[d]? with
    | none=>rfl
    | some v=>rw [hq] at hu; simp at hu; rw [hu]
   ·cases e
  ·cases e
 ·cases e
theorem Ot (h:B8 n B Iq s g a w) {ops:Array Oper} {o:Oper} {r:Bool} (e:L7 s ops o=some r):Region.wanted o (yielded ops a.tmps)=r:=by
 unfold L7 at e
 unfold Region.wanted
 split at e
 ·rename_i hg
  rw [hg]
  cases e
  rfl
 ·rename_i j want hg
  rw [hg]
  simp only
  split at e
  ·rename_i b hb
   rw [A0r h hb]
   cases e
   cases b<;>cases want<;>rfl
  ·rename_i hb
   rw [A0r h hb]
   cases e
   rfl
  ·cases e
end
end Go.Proofs.YtfkefgbihlfjmaaGreat.R

