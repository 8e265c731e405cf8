/- The evaluator, and that a body does what it tells. No condition. -/
import Derived.Test.YtfkefgbihlfjmaaRInl
import Derived.ChangeArms
import Derived.Carry
import Derived.OpenShut
import Derived.ChangeMaps5
import Derived.SizedLaws
import Derived.ChangeOld
import Derived.Shelf.Strings.BuilderK
import Derived.Shelf.Strings.Repeat
import Derived.KernelRfl
import Derived.Test.YtfkefgbihlfjmaaProg
noncomputable section
set_option linter.unusedVariables false
set_option linter.unusedSimpArgs false
namespace Go.Proofs.Ytfkefgbihlfjmaa.R
open Go Go.RowKit
section
inductive Ex where
 | normal
 | exit (id:Nat)
 | ret
def Ex.to:Ex→Exit
 | .normal=>.normal
 | .exit id=>.exit id
 | .ret=>.ret
structure Cfg where
 sigs:Tb
 np:Nat
 n:Nat
 pat:Nat→Du×(Nat→Du)
def chk {R:Type}:List Bool→Option R→Option R
 | [],k=>k
 | c::r,k=>bif c then chk r k else none
def Am8 {R:Type} (sg:Ji) (den:Vk sg.ps→Option (Vk sg.rs×BxD sg.ps)) (s:St) (nid:Nat) (vs:List Vl) (k:AV→St→Option R):Option R:=
 match shL sg.psh vs with
 | none=>none
 | some ls=>
  let sF:=s.frz (Ld s sg.ps ls)
  let sA:=if Jj sg.rs&&Oc sg.ps then s else sF
  match Pn sF sg.ps ls with
  | none=>none
  | some q=>bif S3 (Ba q.2) then (bif P2 sA nid (Lo sg.rs) then (den q.1).bind fun r=>
   match shV sg.rsh (At4 sg.rs r.1 nid) with
   | none=>none
   | some vs'=>k (Ayf vs') ⟨sA.cell,Mz sg.rs r.1 nid (Mr sg.ps r.2 q.2 sA.res)⟩
   else none) else none
def St.lit (s:St) (x:Operand) (b:Bool):St:=match x with
 | .tmp t=>s.setCell t (.vl (.lf (.c (.bool b))))
 | _=>s
def A7h {R:Type} (s:St) (c x y:Operand) (k:AV→St→Option R):Option R:=match s.conc c with
 | some (.bool t)=>match Auf s x y with
  | some (p,q)=>k (.vl (.lf (.c (.bool (bif t then p else q))))) s
  | none=>bif t then k (s.op x) (s.lit c true) else k (s.op y) (s.lit c false)
 | _=>none
def A0j {R:Type} (P:Program) (T:Tb) (s:St) (nid:Nat) (o:Oper) (k:AV→St→Option R):Option R:=match Of o with
 | some (f,xs)=>match Vn s xs with
  | some vs=>match T.sd f with
   | some sd=>Am8 sd.sg sd.den s nid vs k
   | none=>match T.inl f with
    | some fn=>match A5w P T fn vs s nid with
     | some (cs,av,s')=>chk cs (k av s')
     | none=>none
    | none=>match A3g T s f vs with
     | some (cs,av,s')=>chk cs (k av s')
     | none=>none
  | none=>none
 | none=>match Af9 s o with
  | some (f,xs,ls)=>match Vn s xs with
   | some vs=>match T.sd f with
    | some sd=>Am8 sd.sg sd.den s nid (vs++A5u ls) k
    | none=>none
   | none=>none
  | none=>match o.op with
   | .pick c x y=>A7h s c x y k
   | _=>match Xk P s nid o with
    | some (cs,av,s')=>chk cs (k av s')
    | none=>none
def Ayw {R:Type} (P:Program) (sigs:Tb) (s:St) (nid:Nat) (o:Oper) (k:AV→St→Option R):Option R:=
 let sl:=D1 o
 let ids:=S9 s o
 bif P2 s nid An7 then (bif Sr o s ids then A0j P sigs (s.view sl ids) nid o fun av v=>
  bif Aq7 o || Agc (Og av) (ids++Oa nid) then (bif Sr o v (ids++Oa nid) then k av v else none) else none
 else none) else none
def Auq {R:Type} (s:St) (ops:Array Oper) (o:Oper) (go:Bool→St→Option R):Option R:=match o.guard with
 | none=>go true s
 | some (j,want)=>match ops[j]? with
  | some oj=>match oj.dst with
   | some d=>match s.cell d with
    | .vl (.lf (.c (.bool b)))=>bif b then go want (s.lit (.tmp d) true) else go (!want) (s.lit (.tmp d) false)
    | .tp []=>go false s
    | _=>none
   | none=>none
  | none=>none
def Zq {R:Type} (P:Program) (cfg:Cfg) (ops:Array Oper):List Oper→Nat→St→(St→Option R)→Option R
 | [],_,s,k=>k s
 | o::r,nid,s,k=>Auq s ops o fun run s=>bif run then A0j P cfg.sigs s nid o (fun av s'=>Zq P cfg ops r (nid + An7) (s'.put cfg.n o.dst av) k)
  else Zq P cfg ops r (nid + An7) (s.put cfg.n o.dst (.tp [])) k
def Aep {R:Type} (P:Program) (cfg:Cfg) (ops:Array Oper):List Oper→Nat→St→List Qy→(St→Option R)→Option R
 | [],_,s,tr,k=>bif A1s P ops 0 [] [] tr.reverse then k s else none
 | o::r,nid,s,tr,k=>Auq s ops o fun run s=>bif run then Ayw P cfg.sigs s nid o (fun av v=>Aep P cfg ops r (nid + An7) ((s8 cfg.sigs s nid o av v).app P cfg.n s) (s8 cfg.sigs s nid o av v::tr) k)
  else Aep P cfg ops r (nid + An7) ((Agh nid o).app P cfg.n s) (Agh nid o::tr) k
def Ic:Code→Nat
 | .region id _ _=>id + 1
 | .seq a b=>if Ic a=0 then Ic b else Ic a
 | .cond _ a b=>if Ic a=0 then Ic b else Ic a
 | .block _ a=>Ic a
 | .loop a=>Ic a
 | _=>0
abbrev Kt (R:Type):=Ex→St→Nat→Option R
def Ex.no:Ex→Nat
 | .normal=>0
 | .ret=>1
 | .exit id=>id + 2
abbrev Lt (R:Type) (pat:Nat→Du×(Nat→Du)):=(key:Nat)→(pat key).1.D→Kt R→Option R
def A57 {R:Type} (np:Nat) (px:Nat→Du) (k:Kt R):Kt R:=fun e s nid=>match (px e.no).mtch np s nid with
 | some d=>k e ((px e.no).st d) (px e.no).nid
 | none=>none
def Ayx {R:Type} (np:Nat) (p:Du×(Nat→Du)) (nx:p.1.D→Kt R→Option R) (k:Kt R):Kt R:=fun e s nid=>match e with
 | .normal=>match p.1.mtch np s nid with
  | some d=>nx d k
  | none=>none
 | .exit id=>A57 np p.2 k (.exit id) s nid
 | .ret=>A57 np p.2 k .ret s nid
def Akv {R:Type} (np:Nat) (p:Du×(Nat→Du)) (bd:St→Nat→Kt R→Option R):Nat→p.1.D→Kt R→Option R
 | 0,_,_=>none
 | m + 1,d,k=>bd (p.1.st d) p.1.nid (Ayx np p (Akv np p bd m) k)
def Aoq {R:Type} (P:Program) (cfg:Cfg) (q:As4) (nid:Nat) (s:St) (k:St→Option R):Option R:=match A7g P cfg.sigs cfg.n s nid q with
 | some (cs,s')=>chk cs (k s')
 | none=>none
def ev {R:Type} (P:Program) (cfg:Cfg) (L:Lt R cfg.pat):Code→St→Nat→Kt R→Option R
 | .skip,s,nid,k=>k .normal s nid
 | .region _ ops draw,s,nid,k=>match Sx ops.toList with
  | some q=>bif draw then none else Zq P cfg ops q.pre nid s fun s'=>Aoq P cfg q nid s' (fun s'=>k .normal s' (nid + An7 * ops.size))
  | none=>bif draw then Aep P cfg ops ops.toList nid s [] (fun s'=>k .normal s' (nid + An7 * ops.size)) else Zq P cfg ops ops.toList nid s (fun s'=>k .normal s' (nid + An7 * ops.size))
 | .seq a b,s,nid,k=>ev P cfg L a s nid fun e s' nid'=>match e with
  | .normal=>ev P cfg L b s' nid' k
  | .exit id=>k (.exit id) s' nid'
  | .ret=>k .ret s' nid'
 | .cond c a b,s,nid,k=>match s.conc c with
  | some (.bool t)=>bif t then ev P cfg L a (s.lit c true) nid k else ev P cfg L b (s.lit c false) nid k
  | _=>none
 | .block id c,s,nid,k=>ev P cfg L c s nid fun e s' nid'=>match e with
  | .normal=>k .normal s' nid'
  | .exit id'=>if id'=id then k .normal s' nid' else k (.exit id') s' nid'
  | .ret=>k .ret s' nid'
 | .loop c,s,nid,k=>match (cfg.pat (Ic c)).1.mtch cfg.np s nid with
  | some d=>L (Ic c) d k
  | none=>none
 | .exit id,s,nid,k=>k (.exit id) s nid
 | .ret,s,nid,k=>k .ret s nid
 | _,_,_,_=>none
def Av:Code→List Code
 | .loop c=>[c]
 | .seq a b=>Av a++Av b
 | .cond _ a b=>Av a++Av b
 | .block _ a=>Av a
 | _=>[]
section
variable {R:Type} {P:Program} {n B:Nat} {Iq:List Nat} {s:St} {g:Gh} {a:Act} {w:World} {r:R}
theorem t9:∀ {cs:List Bool} {k:Option R},chk cs k=some r→Ra cs=true∧k=some r
 | [],k,h=>⟨rfl,h⟩
 | c::cs,k,h=>by
  simp only [chk] at h
  cases c with
  | false=>cases h
  | true=>
   obtain ⟨h1,h2⟩:=t9 h
   exact ⟨by simp [Ra,h1],h2⟩
theorem Agn {sg:Ji} {den:Vk sg.ps→Option (Vk sg.rs×BxD sg.ps)} {nid:Nat} {vs:List Vl} {k:AV→St→Option R} (h:Am8 sg den s nid vs k=some r):
  ∃ av s',Aef sg den s nid vs=some (av,s')∧k av s'=some r:=by
 unfold Am8 at h
 unfold Aef
 split at h
 ·cases h
 ·rename_i ls e1
  dsimp only at h
  split at h
  ·cases h
  ·rename_i q e2
   cases h1:S3 (Ba q.2) with
   | false=>rw [h1] at h; cases h
   | true=>
    rw [h1] at h
    simp only [cond_true] at h
    cases h2:P2 (if (Jj sg.rs&&Oc sg.ps)=true then s else s.frz (Ld s sg.ps ls)) nid (Lo sg.rs) with
    | false=>rw [h2] at h; cases h
    | true=>
     rw [h2] at h
     simp only [cond_true] at h
     obtain ⟨d,e3,h⟩:=A6 h
     split at h
     ·cases h
     ·rename_i vs' e4
      refine ⟨_,_,?_,h⟩
      rw [e1]
      simp only [Option.bind_some]
      rw [e2]
      simp only [Option.bind_some,h1,h2,if_true,e3,e4]
theorem Xo {x:Operand} {b:Bool} (h:s.conc x=some (.bool b)):s.lit x b=s:=by
 cases x with
 | tmp t=>
  refine St.ext' (fun i=>?_) (fun _=>rfl)
  show Vf s.cell t _ i=s.cell i
  by_cases q:i=t
  ·subst q
   rw [A2]
   unfold St.conc at h
   split at h
   ·rename_i hv
    cases h
    exact hv.symm
   ·cases h
  ·rw [Ax _ _ q]
 | const v=>rfl
 | global _=>rfl
 | func _=>rfl
theorem Aeq {T:Tb} {nid:Nat} {o:Oper} {k:AV→St→Option R} (h:A0j P T s nid o k=some r):∃ av s',S7 P T s nid o=some (av,s')∧k av s'=some r:=by
 unfold A0j at h
 unfold S7
 split at h
 ·rename_i f xs hc
  split at h
  ·rename_i vs hvs
   split at h
   ·rename_i sd hsd
    obtain ⟨av,s',e1,e2⟩:=Agn h
    exact ⟨av,s',by simp only [hc,hvs,hsd,e1],e2⟩
   ·rename_i hsd
    split at h
    ·rename_i fn hfn
     split at h
     ·rename_i cs av s' hi
      obtain ⟨h1,h2⟩:=t9 h
      exact ⟨av,s',by simp only [hc,hvs,hsd,hfn]; rw [hi]; simp [Nm,h1],h2⟩
     ·cases h
    ·rename_i hfn
     split at h
     ·rename_i cs av s' hn
      obtain ⟨h1,h2⟩:=t9 h
      exact ⟨av,s',by simp only [hc,hvs,hsd,hfn]; rw [hn]; simp [Nm,h1],h2⟩
     ·cases h
  ·cases h
 ·rename_i hc
  split at h
  ·rename_i f xs ls hcl
   split at h
   ·rename_i vs hvs
    split at h
    ·rename_i sd hsd
     obtain ⟨av,s',e1,e2⟩:=Agn h
     exact ⟨av,s',by simp only [hc,hcl,hvs,hsd,e1],e2⟩
    ·cases h
   ·cases h
  ·rename_i hcl
   split at h
   ·rename_i c x y hop
    have hst:Xk P s nid o=av0 s (s4 s c x y):=by unfold Xk; rw [hop]
    unfold A7h at h
    rw [hst]
    split at h
    ·rename_i t ht
     split at h
     ·rename_i p q hb
      refine ⟨_,_,?_,h⟩
      have:s4 s c x y=some (.vl (.lf (.c (.bool (bif t then p else q))))):=by unfold s4; rw [ht]; simp only [hb]
      rw [this]
      simp [hc,hcl,av0,Nm,Ra]
     ·rename_i hb
      have:s4 s c x y=some (bif t then s.op x else s.op y):=by unfold s4; rw [ht]; simp only [hb]
      cases t with
      | true=>
       rw [Xo ht] at h
       exact ⟨s.op x,s,by rw [this]; simp [hc,hcl,av0,Nm,Ra],h⟩
      | false=>
       rw [Xo ht] at h
       exact ⟨s.op y,s,by rw [this]; simp [hc,hcl,av0,Nm,Ra],h⟩
    ·cases h
   ·split at h
    ·rename_i cs av s' hst
     obtain ⟨h1,h2⟩:=t9 h
     exact ⟨av,s',by simp only [hc,hcl]; rw [hst]; simp [Nm,h1],h2⟩
    ·cases h
theorem P7 {c:Bool} {x:Option R} (h:(bif c then x else none)=some r):c=true∧x=some r:=by
 cases c with
 | false=>cases h
 | true=>exact ⟨rfl,h⟩
theorem Awr {sigs:Tb} {nid:Nat} {o:Oper} {k:AV→St→Option R} (h:Ayw P sigs s nid o k=some r):∃ av v,Acx P sigs s nid o=some (av,v)∧k av v=some r:=by
 unfold Ayw at h
 dsimp only at h
 obtain ⟨h1,h⟩:=P7 h
 obtain ⟨h2,h⟩:=P7 h
 obtain ⟨av,v,e1,h⟩:=Aeq h
 obtain ⟨h3,h⟩:=P7 h
 obtain ⟨h4,h⟩:=P7 h
 refine ⟨av,v,?_,h⟩
 unfold Acx
 dsimp only
 rw [if_pos h1,if_pos h2,e1]
 simp only [Option.bind_some,h3,h4,if_true]
theorem u3 {ops:Array Oper} {o:Oper} {go:Bool→St→Option R} (h:Auq s ops o go=some r):∃ run,Nb s ops o=some run∧go run s=some r:=by
 unfold Auq at h
 unfold Nb
 split at h
 ·rename_i hg
  exact ⟨true,by rw [hg],h⟩
 ·rename_i j want hg
  rw [hg]
  simp only
  unfold Aym
  split at h
  ·rename_i oj hoj
   rw [hoj]
   simp only
   split at h
   ·rename_i d hd
    rw [hd]
    simp only
    split at h
    ·rename_i b hb
     rw [hb]
     refine ⟨bif b then want else !want,rfl,?_⟩
     have hc:s.conc (.tmp d)=some (.bool b):=by unfold St.conc; show (match s.cell d with | .vl (.lf (.c v))=>some v | _=>none)=_; rw [hb]
     cases b with
     | true=>rw [Xo hc] at h; exact h
     | false=>rw [Xo hc] at h; exact h
    ·rename_i hb
     rw [hb]
     exact ⟨false,rfl,h⟩
    ·cases h
   ·cases h
  ·cases h
structure Gx (np B:Nat) (Iq:List Nat) (s0:St) (g0:Gh) (w0:World) (s:St) (g:Gh) (w:World):Prop where
 kp:Kp B Iq w0 w
 av:g.av=g0.av
 pin:∀ id,id < np→(s0.res id).live=true→s.res id≠.unborn∧(∀ T ls,s.res id=.box T ls→(∃ T' ls',s0.res id=.box T' ls')∧g.blk id=g0.blk id)∧
  ∀ e,∀ t:Ty,∀ xs:List t.D,s.res id=.row e t xs→(∃ e',∃ xs':List t.D,s0.res id=.row e' t xs')∧g.blk id=g0.blk id∧g.hdr id=g0.hdr id
section
variable {np:Nat} {s0:St} {g0:Gh} {w0:World}
theorem Gx.step {s':St} {g':Gh} {w':World} (h:Gx np B Iq s0 g0 w0 s g w) (k:Go B Iq s g w s' g' w'):Gx np B Iq s0 g0 w0 s' g' w':=by
 refine ⟨h.kp.trans k.kp,k.av.trans h.av,fun id hid hl=>?_⟩
 obtain ⟨h1,h2,h3⟩:=h.pin id hid hl
 have r:=k.ref id
 unfold Ay at r
 rcases r with r | r
 ·exact ⟨by rw [r]; simp,fun T ls q=>(by rw [r] at q; cases q),fun e t xs q=>by rw [r] at q; cases q⟩
 ·cases hs:s.res id with
  | unborn=>exact absurd hs h1
  | dead=>rw [hs] at r; exact r.elim
  | box T ls=>
   rw [hs] at r
   obtain ⟨T',ls',e1,e2⟩:=r
   refine ⟨by rw [e1]; simp,fun _ _ _=>?_,fun e t xs q=>by rw [e1] at q; cases q⟩
   obtain ⟨q1,q2⟩:=h2 T ls hs
   exact ⟨q1,e2.trans q2⟩
  | row e t xs=>
   rw [hs] at r
   rcases r with ⟨e',xs',e1,_,e2,e3⟩ | ⟨t',xs',e1,_⟩
   ·refine ⟨by rw [e1]; simp,fun T ls q=>(by rw [e1] at q; cases q),fun e2' t2 xs2 q=>?_⟩
    rw [e1] at q
    cases q
    obtain ⟨q1,q2,q3⟩:=h3 e t xs hs
    exact ⟨q1,e3.trans q2,e2.trans q3⟩
   ·exact ⟨by rw [e1]; simp,fun T ls q=>(by rw [e1] at q; cases q),fun e t xs q=>by rw [e1] at q; cases q⟩
  | frozen t xs=>
   rw [hs] at r
   obtain ⟨t',xs',e1,_⟩:=r
   exact ⟨by rw [e1]; simp,fun T ls q=>(by rw [e1] at q; cases q),fun e t xs q=>by rw [e1] at q; cases q⟩
  | last e t xs c j=>
   rw [hs] at r
   rcases r with ⟨_,_,_,_,_,e1,_⟩ | ⟨t',xs',e1,_⟩
   ·exact ⟨by rw [e1]; simp,fun T ls q=>(by rw [e1] at q; cases q),fun e t xs q=>by rw [e1] at q; cases q⟩
   ·exact ⟨by rw [e1]; simp,fun T ls q=>(by rw [e1] at q; cases q),fun e t xs q=>by rw [e1] at q; cases q⟩
  | map t xs=>
   rw [hs] at r
   obtain ⟨_,_,e1,_⟩:=r
   exact ⟨by rw [e1]; simp,fun T ls q=>(by rw [e1] at q; cases q),fun e t xs q=>by rw [e1] at q; cases q⟩
  | iter t xs seen cur=>
   rw [hs] at r
   obtain ⟨_,_,_,_,e1,_⟩:=r
   exact ⟨by rw [e1]; simp,fun T ls q=>(by rw [e1] at q; cases q),fun e t xs q=>by rw [e1] at q; cases q⟩
theorem Gx.canon {s':St} {g':Gh} (h:Gx np B Iq s0 g0 w0 s g w) (ha:g'.av=g.av) (hp:∀ id,id < np→(s'.res id=.unborn→s.res id=.unborn)∧(∀ T ls,s'.res id=.box T ls→(∃ T' ls',s.res id=.box T' ls')∧g'.blk id=g.blk id)∧(∀ e,∀ t:Ty,∀ xs:List t.D,s'.res id=.row e t xs→(∃ e',∃ xs':List t.D,s.res id=.row e' t xs')∧g'.blk id=g.blk id∧g'.hdr id=g.hdr id)):Gx np B Iq s0 g0 w0 s' g' w:=by
 refine ⟨h.kp,ha.trans h.av,fun id hid hl=>?_⟩
 obtain ⟨h1,h2,h3⟩:=h.pin id hid hl
 obtain ⟨k1,k2,k3⟩:=hp id hid
 refine ⟨fun q=>h1 (k1 q),fun T ls q=>?_,fun e t xs q=>?_⟩
 ·obtain ⟨⟨T',ls',e1⟩,e2⟩:=k2 T ls q
  obtain ⟨e3,e4⟩:=h2 T' ls' e1
  exact ⟨e3,e2.trans e4⟩
 ·obtain ⟨⟨e',xs',e1⟩,e2,e2'⟩:=k3 e t xs q
  obtain ⟨e3,e4,e5⟩:=h3 e' t xs' e1
  exact ⟨e3,e2.trans e4,e2'.trans e5⟩
theorem Aur {nid:Nat} {p:Du} {d:p.D} (h:B5 n B Iq s g a w) (hx:Gx np B Iq s0 g0 w0 s g w) (e:p.mtch np s nid=some d):∃ g',B5 n B Iq (p.st d) g' a w∧Gx np B Iq s0 g0 w0 (p.st d) g' w:=by
 obtain ⟨s1,g1,g',k1,k2,k3,k4⟩:=A56 h e
 exact ⟨g',k2,(hx.step k1).canon k3 k4⟩
theorem A0k {np':Nat} (hnp:np'=np) {px:Nat→Du} {k:Kt R} {Q:Exit→Act→World→Prop} (hk:∀ e s' nid' g' a' w',k e s' nid'=some r→B5 n B Iq s' g' a' w'→Gx np B Iq s0 g0 w0 s' g' w'→Q e.to a' w') {e:Ex} {nid:Nat}
  (he:A57 np' px k e s nid=some r) (h:B5 n B Iq s g a w) (hx:Gx np B Iq s0 g0 w0 s g w):Q e.to a w:=by
 subst hnp
 unfold A57 at he
 split at he
 ·rename_i d hd
  obtain ⟨g',k1,k2⟩:=Aur h hx hd
  exact hk e _ _ g' a w he k1 k2
 ·cases he
theorem Ai7 {cfg:Cfg} (hs:A1 P cfg.sigs) (hn:cfg.n=n) {ops:Array Oper} {k:St→Option R} {Q:Exit→Act→World→Prop}
  (hk:∀ s' g' a' w',k s'=some r→B5 n B Iq s' g' a' w'→Gx np B Iq s0 g0 w0 s' g' w'→Q .normal a' w'):
  ∀ {l:List Oper} {nid:Nat} {s:St} {g:Gh} {a:Act} {w:World},Zq P cfg ops l nid s k=some r→B5 n B Iq s g a w→Gx np B Iq s0 g0 w0 s g w→wpList P ops Q l a w
 | [],nid,s,g,a,w,e,h,hx=>hk s g a w e h hx
 | o::l,nid,s,g,a,w,e,h,hx=>by
  simp only [Zq] at e
  obtain ⟨run,e1,e⟩:=u3 e
  unfold wpList
  rw [P4 h e1]
  cases run with
  | true=>
   simp only [cond_true] at e
   obtain ⟨av,s',e2,e⟩:=Aeq e
   rw [if_pos rfl]
   left
   refine s6 hs h e2 _ Q fun v g' w' k1 k2 k3=>?_
   obtain ⟨r1,r2⟩:=Qr k2 o.dst k3
   rw [hn] at e
   exact Ai7 hs hn hk e r1 ((hx.step k1).step r2)
  | false=>
   simp only [cond_false] at e
   rw [if_neg (by simp)]
   obtain ⟨r1,r2⟩:=Qr (av:=.tp []) (v:=undef) h o.dst ⟨#[],rfl,rfl,fun j v hv=>by simp at hv⟩
   rw [hn] at e
   exact Ai7 hs hn hk e r1 (hx.step r2)
theorem Aer {cfg:Cfg} (hs:A1 P cfg.sigs) (hn:cfg.n=n) {ops:Array Oper} {k:St→Option R} {Q:Exit→Act→World→Prop} {rest:List Oper}
  (hk:∀ s' g' a' w',k s'=some r→B5 n B Iq s' g' a' w'→Gx np B Iq s0 g0 w0 s' g' w'→wpList P ops Q rest a' w'):
  ∀ {l:List Oper} {nid:Nat} {s:St} {g:Gh} {a:Act} {w:World},Zq P cfg ops l nid s k=some r→B5 n B Iq s g a w→Gx np B Iq s0 g0 w0 s g w→wpList P ops Q (l++rest) a w
 | [],nid,s,g,a,w,e,h,hx=>hk s g a w e h hx
 | o::l,nid,s,g,a,w,e,h,hx=>by
  simp only [Zq] at e
  obtain ⟨run,e1,e⟩:=u3 e
  show wpList P ops Q (o::(l++rest)) a w
  unfold wpList
  rw [P4 h e1]
  cases run with
  | true=>
   simp only [cond_true] at e
   obtain ⟨av,s',e2,e⟩:=Aeq e
   rw [if_pos rfl]
   left
   refine s6 hs h e2 _ Q fun v g' w' k1 k2 k3=>?_
   obtain ⟨r1,r2⟩:=Qr k2 o.dst k3
   rw [hn] at e
   exact Aer hs hn hk e r1 ((hx.step k1).step r2)
  | false=>
   simp only [cond_false] at e
   rw [if_neg (by simp)]
   obtain ⟨r1,r2⟩:=Qr (av:=.tp []) (v:=undef) h o.dst ⟨#[],rfl,rfl,fun j v hv=>by simp at hv⟩
   rw [hn] at e
   exact Aer hs hn hk e r1 (hx.step r2)
theorem Aor {l:List Oper} {q:As4} (h:Sx l=some q):l=q.pre++[q.o2,q.o3,q.o4]:=by
 unfold Sx at h
 split at h
 ·split at h<;>cases h
  rfl
 ·cases h
theorem Ard {l:List Oper} {q:As4} (h:Sx l=some q):Am7 q.o2 q.o3 q.o4=some (q.V,q.z,q.d2,q.d3,q.fs):=by
 unfold Sx at h
 split at h
 ·split at h<;>cases h
  rename_i h
  exact h
 ·cases h
theorem Ayy {av:AV} {fc:FuncId} {b:Nat} (h:A33 av=some (fc,b)):av=.fn fc [.ptr b 0]:=by
 unfold A33 at h
 split at h<;>cases h
 rfl
theorem Are {BT:TypeId} {v:Qp} {r:Nat} (h:Aop BT v=some r):v=.box BT [.row r]:=by
 unfold Aop at h
 split at h
 ·split at h<;>cases h
  rename_i hT
  rw [hT]
 ·cases h
theorem Aus {l:Option Lf} {r:Nat} (h:Auo l=some r):l=some (.row r):=by
 unfold Auo at h
 split at h<;>cases h
 rfl
theorem A58 {cfg:Cfg} (hs:A1 P cfg.sigs) (hn:cfg.n=n) {ops:Array Oper} {q:As4} (hq:Sx ops.toList=some q) {nid:Nat} {k:St→Option R} {Q:Exit→Act→World→Prop}
  (hk:∀ s' g' a' w',k s'=some r→B5 n B Iq s' g' a' w'→Gx np B Iq s0 g0 w0 s' g' w'→Q .normal a' w') (e:Aoq P cfg q nid s k=some r) (h:B5 n B Iq s g a w) (hx:Gx np B Iq s0 g0 w0 s g w):wpList P ops Q [q.o2,q.o3,q.o4] a w:=by
 obtain ⟨t1,t2,t3,t4,t5,t6,t7,t8⟩:=Aup (Ard hq)
 unfold Aoq at e
 split at e
 ·rename_i cs s' es
  obtain ⟨hcs,ek⟩:=t9 e
  clear e
  unfold A7g at es
  split at es
  ·rename_i fs fc BT U ety hsrt
   split at es
   ·rename_i r0 hr0
    have hr0:=Aus hr0
    split at es
    ·rename_i av s3 hst
     split at es
     ·rename_i fc' b hav
      have hav:=Ayy hav
      subst hav
      split at es
      ·rename_i r' xs hbx hrw
       split at es
       rotate_left
       ·cases es
       rename_i c0
       split at es
       ·rename_i c1
        split at es
        ·rename_i c2
         split at es
         ·rename_i c3
          split at es
          ·rename_i c4
           split at es
           ·rename_i c5
            split at es
            ·rename_i c6
             cases es
             subst c1 c2 c3 c4
             rw [hn] at c5 c6 hst ek
             have hbx:=Are hbx
             have hrw:=Ayu hrw
             obtain ⟨hcal,hok⟩:=hs.srt _ _ _ _ _ hsrt
             have hnd:Jk xs=true∧xs.length≤1000:=by simpa [Ra] using hcs
             obtain ⟨hz,_⟩:=C8 h hr0
             unfold wpList
             rw [P4 h (r:=true) (by unfold Nb; rw [t3]),if_pos rfl]
             left
             have hrun:(execOp a.eval q.o2).run P w=.ok (.value (.iface q.V (a.eval q.z))) w:=by
              unfold Asm at c0
              split at c0
              ·rename_i hU
               simp [execOp,t1,Instr.makeInterface,run_underlying hU,Result.andThen]
              ·cases c0
             unfold Oper.wp
             rw [hrun,Oper.upon_value]
             obtain ⟨a1,a2⟩:=Qr (av:=.dead) (v:=.iface q.V (a.eval q.z)) h q.o2.dst trivial
             unfold wpList
             rw [P4 a1 (r:=true) (by unfold Nb; rw [t5]),if_pos rfl]
             left
             refine s6 hs a1 hst _ Q fun v g3 w3 k1 k2 k3=>?_
             obtain ⟨b1,b2⟩:=Qr k2 q.o3.dst k3
             unfold wpList
             rw [P4 b1 (r:=true) (by unfold Nb; rw [t7]),if_pos rfl]
             left
             obtain ⟨caps,hv,hL⟩:=k3
             obtain ⟨p0,hcaps⟩:∃ p0,caps=#[p0]:=by
              have:=hL.length
              match caps,this with
              | ⟨[x]⟩,_=>exact ⟨x,rfl⟩
             subst hcaps
             have hp:=hL.1.1
             simp only [Dp,hbx] at hp
             obtain ⟨bb,hbb,hp⟩:=hp
             have hp:p0=.pointer (some ⟨bb,0,none⟩):=hp
             subst hp
             have hbx2:(s3.put n q.o3.dst (.fn fc' [.ptr b 0])).res b=.box BT [.row r']:=by rw [Am1]; exact hbx
             have hrw2:(s3.put n q.o3.dst (.fn fc' [.ptr b 0])).res r'=.row ety prT xs:=by rw [Am1]; exact hrw
             have hcall:=A1y b1 hok hbb hbx2 hrw2 hnd.1 hnd.2
             have hhd:a.eval q.z=g3.hdr r':=by
              have e1:Dp s3 g3 w3 (.row r') (a.eval q.z):=by
               have:=Dp.step (a2.trans k1).S (a2.trans k1).ref hz
               exact this
              simp only [Dp,hrw] at e1
              exact e1
             have hsz:a.tmps.size=n:=h.size
             have hd2:((a.put q.o2.dst (.iface q.V (a.eval q.z))).put q.o3.dst v).eval (.tmp q.d2)=.iface q.V (a.eval q.z):=by
              show ((a.put q.o2.dst (.iface q.V (a.eval q.z))).put q.o3.dst v).tmps.getD q.d2 undef=_
              rw [t2,t4,Ayv t8,A0i (by rw [hsz]; exact c5)]
             have hd3:((a.put q.o2.dst (.iface q.V (a.eval q.z))).put q.o3.dst v).eval (.tmp q.d3)=v:=by
              show ((a.put q.o2.dst (.iface q.V (a.eval q.z))).put q.o3.dst v).tmps.getD q.d3 undef=_
              rw [t4,A0i (by rw [k2.size]; exact c6)]
             have hco:Abt P q.fs (([.tmp q.d2,.tmp q.d3]:List Operand).map ((a.put q.o2.dst (.iface q.V (a.eval q.z))).put q.o3.dst v).eval).toArray n B Iq (s3.put n q.o3.dst (.fn fc' [.ptr b 0])) g3 ((a.put q.o2.dst (.iface q.V (a.eval q.z))).put q.o3.dst v) w3 (.tp [])
              ((s3.put n q.o3.dst (.fn fc' [.ptr b 0])).setRes r' (.row ety prT (Xl xs))):=by
              have hd2':=hd2.trans (congrArg (Value.iface q.V) hhd)
              have hd3':=hd3.trans hv
              simp only [List.map_cons,List.map_nil,hd2',hd3']
              exact hcall
             refine Od.call t6 hcal hco _ Q fun v4 g4 w4 j1 j2 j3=>?_
             obtain ⟨d1,d2⟩:=Qr j2 q.o4.dst j3
             unfold wpList
             exact hk _ _ _ _ ek d1 (((((hx.step a2).step k1).step b2).step j1).step d2)
            ·cases es
           ·cases es
          ·cases es
         ·cases es
        ·cases es
       ·cases es
      ·cases es
     ·cases es
    ·cases es
   ·cases es
  ·cases es
 ·cases e
theorem u5 {cfg:Cfg} {ops:Array Oper} {k:St→Option R}:∀ {l:List Oper} {nid:Nat} {s:St} {acc:List Qy},Aep P cfg ops l nid s acc k=some r→
  ∃ tr,tr.map (·.o)=l∧Aen P cfg.sigs ops cfg.n tr s∧A1s P ops 0 [] [] (acc.reverse++tr)=true∧∀ i,k (Zn P cfg.n (fun _=>true) i tr s)=some r
 | [],nid,s,acc,e=>by
  simp only [Aep] at e
  obtain ⟨h1,h2⟩:=P7 e
  exact ⟨[],rfl,trivial,by simpa using h1,fun i=>h2⟩
 | o::l,nid,s,acc,e=>by
  simp only [Aep] at e
  obtain ⟨run,e1,e⟩:=u3 e
  cases run with
  | true=>
   simp only [cond_true] at e
   obtain ⟨av,v,e2,e⟩:=Awr e
   obtain ⟨tr,h1,h2,h3,h4⟩:=u5 e
   refine ⟨s8 cfg.sigs s nid o av v::tr,by simp [h1,s8],⟨.inl ⟨e1,av,v,e2,rfl⟩,h2⟩,by simpa using h3,fun i=>?_⟩
   simp only [Zn,if_true]
   exact h4 (i + 1)
  | false=>
   simp only [cond_false] at e
   obtain ⟨tr,h1,h2,h3,h4⟩:=u5 e
   refine ⟨Agh nid o::tr,by simp [h1,Agh],⟨.inr ⟨e1,rfl⟩,h2⟩,by simpa using h3,fun i=>?_⟩
   simp only [Zn,if_true]
   exact h4 (i + 1)
theorem A34 (listed:Array Bool):∀ k,unl listed k≤k
 | 0=>Nat.le_refl _
 | k + 1=>by
  simp only [unl]
  have:=A34 listed k
  split<;>omega
theorem Aws {D:Nat→Bool}:∀ {tr:List Qy} {i:Nat} {s:St},(∀ j,D j=false)→Zn P n D i tr s=s
 | [],_,_,_=>rfl
 | e::r,i,s,h=>by
  simp only [Zn,h,Bool.false_eq_true,if_false]
  exact Aws h
theorem A35 (h:B5 n B Iq s g a w):B5 n B Iq s g a { w with drawn:=w.drawn + 1 }∧Go B Iq s g w s g { w with drawn:=w.drawn + 1 }:=by
 have hS:∀ b,Ev s g b→b < w.heap.size→Ev s g b∧({ w with drawn:=w.drawn + 1 }:World).heap[b]? = w.heap[b]? := fun b hb _=>⟨hb,rfl⟩
 have hI:∀ id,Ay s g s g id:=fun _=>Ay.same rfl rfl rfl
 exact ⟨h.step h.size h.defers (Nat.le_refl _) hS hI (fun _=>.inl ⟨rfl,rfl⟩) (fun _=>.inl ⟨rfl,rfl,rfl,fun _ _=>rfl⟩) h.inj h.lt rfl,⟨⟨rfl,rfl,rfl,Nat.le_refl _,fun _ _ _=>rfl⟩,hS,hI,rfl⟩⟩
theorem A10 {cfg:Cfg} (hm:P.follows .mixedOrders=true) (hs:A1 P cfg.sigs) (hn:cfg.n=n) {id:Nat} {ops:Array Oper} {draw:Bool} {nid:Nat} {k:St→Option R} {Q:Exit→Act→World→Prop}
  (hk:∀ s' g' a' w',k s'=some r→B5 n B Iq s' g' a' w'→Gx np B Iq s0 g0 w0 s' g' w'→Q .normal a' w') (h:B5 n B Iq s g a w) (hx:Gx np B Iq s0 g0 w0 s g w)
  (e:(bif draw then Aep P cfg ops ops.toList nid s [] k else Zq P cfg ops ops.toList nid s k)=some r):(Code.region id ops draw).wp P Q a w:=by
 cases draw with
 | false=>
  simp only [cond_false] at e
  exact wp_region_list (Ai7 hs hn hk e h hx)
 | true=>
  simp only [cond_true] at e
  obtain ⟨tr,h1,h2,h3,h4⟩:=u5 e
  rw [hn] at h2 h4
  obtain ⟨d1,d2⟩:=A35 h
  refine wp_region_any hm ?_
  have hD:∀ j,(Array.replicate ops.size false).getD j false=false:=fun j=>by
   simp [Array.getD_eq_getD_getElem?,Array.getElem?_replicate]
   split<;>rfl
  have hmix:Zn P n (fun i=>(Array.replicate ops.size false).getD i false) 0 tr s=s:=Aws hD
  refine A74 hs h1 h2 (by simpa using h3) (g0:=g) (w0:={ w with drawn:=w.drawn + 1 }) (fun a' g' w' q1 q2=>hk _ g' a' w' (h4 0) q2 ((hx.step d2).step q1)) ops.size _ a g _ (by simp) (A34 _ _) (fun j f q1 q2=>?_) ?_ ?_
  ·have q2':(Array.replicate ops.size false).getD j false=true:=q2
   rw [hD] at q2'
   cases q2'
  ·rw [hmix]; exact Go.refl _ _ _ _ _
  ·rw [hmix]; exact d1
theorem As5 {p:Nat→Prop} (h:∃ m,p m):∃ m,p m∧∀ m',p m'→m≤m':=by
 obtain ⟨m,hm⟩:=h
 induction m using Nat.strongRecOn with
 | _ m ih=>
  by_cases q:∃ j,j < m∧p j
  ·obtain ⟨j,q1,q2⟩:=q
   exact ih j q1 q2
  ·refine ⟨m,hm,fun j hj=>?_⟩
   rcases Nat.lt_or_ge j m with q2 | q2
   ·exact absurd ⟨j,q2,hj⟩ q
   ·exact q2
theorem A59 {np':Nat} {p:Du×(Nat→Du)} {c:Code} {bd:St→Nat→Kt R→Option R} {Q:Exit→Act→World→Prop} {k:Kt R} (hnp:np'=np)
  (hbd:∀ {s:St} {g:Gh} {a:Act} {w:World} {nid:Nat} {k:Kt R} {Q:Exit→Act→World→Prop},(∀ e s' nid' g' a' w',k e s' nid'=some r→B5 n B Iq s' g' a' w'→Gx np B Iq s0 g0 w0 s' g' w'→Q e.to a' w')→
   bd s nid k=some r→B5 n B Iq s g a w→Gx np B Iq s0 g0 w0 s g w→c.wp P Q a w)
  (hk:∀ e s' nid' g' a' w',k e s' nid'=some r→B5 n B Iq s' g' a' w'→Gx np B Iq s0 g0 w0 s' g' w'→Q e.to a' w') {m:Nat} {d:p.1.D}
  (e:Akv np' p bd m d k=some r) (h:B5 n B Iq (p.1.st d) g a w) (hx:Gx np B Iq s0 g0 w0 (p.1.st d) g w):(Code.loop c).wp P Q a w:=by
 let J:Nat→Act→World→Prop:=fun m a w=>∃ d g,Akv np' p bd m d k=some r∧B5 n B Iq (p.1.st d) g a w∧Gx np B Iq s0 g0 w0 (p.1.st d) g w
 classical
 refine wp_loop (fun a w=>∃ m,J m a w) (fun a w=>if hj:∃ m,J m a w then Classical.choose (As5 hj) else 0) ⟨m,d,g,e,h,hx⟩ fun a w hj=>?_
 have hmu:(if hj:∃ m,J m a w then Classical.choose (As5 hj) else 0)=Classical.choose (As5 hj):=dif_pos hj
 have hspec:=(Classical.choose_spec (As5 hj)).1
 generalize hm:Classical.choose (As5 hj)=m at hspec
 obtain ⟨d,g,e,h,hx⟩:=hspec
 cases m with
 | zero=>simp [Akv] at e
 | succ m=>
  simp only [Akv] at e
  refine hbd (fun e s' nid' g' a' w' q h' hx'=>?_) e h hx
  unfold Ayx at q
  cases e with
  | normal=>
   simp only at q
   split at q
   ·rename_i d' hd
    subst hnp
    obtain ⟨g2,k1,k2⟩:=Aur h' hx' hd
    have hJ:J m a' w':=⟨d',g2,q,k1,k2⟩
    refine ⟨⟨m,hJ⟩,?_⟩
    rw [hmu,hm,dif_pos ⟨m,hJ⟩]
    have:=(Classical.choose_spec (As5 (⟨m,hJ⟩:∃ m,J m a' w'))).2 m hJ
    omega
   ·cases q
  | exit id=>exact A0k hnp hk q h' hx'
  | ret=>exact A0k hnp hk q h' hx'
def A7 (P:Program) (R:Type) (n np:Nat) (pat:Nat→Du×(Nat→Du)) (L:Lt R pat) (c:Code):Prop:=
 ∀ (r:R) (B:Nat) (Iq:List Nat) (s0:St) (g0:Gh) (w0:World) (d:(pat (Ic c)).1.D) (g:Gh) (a:Act) (w:World) (k:Kt R) (Q:Exit→Act→World→Prop),
  (∀ e s' nid' g' a' w',k e s' nid'=some r→B5 n B Iq s' g' a' w'→Gx np B Iq s0 g0 w0 s' g' w'→Q e.to a' w')→L (Ic c) d k=some r→B5 n B Iq ((pat (Ic c)).1.st d) g a w→Gx np B Iq s0 g0 w0 ((pat (Ic c)).1.st d) g w→(Code.loop c).wp P Q a w
theorem A7i {cfg:Cfg} {L:Lt R cfg.pat} (hm:P.follows .mixedOrders=true) (hs:A1 P cfg.sigs) (hn:cfg.n=n) (hnp:cfg.np=np):∀ (c:Code),(∀ c'∈Av c,A7 P R n np cfg.pat L c')→∀ {s:St} {g:Gh} {a:Act} {w:World} {nid:Nat} {k:Kt R} {Q:Exit→Act→World→Prop},
  (∀ e s' nid' g' a' w',k e s' nid'=some r→B5 n B Iq s' g' a' w'→Gx np B Iq s0 g0 w0 s' g' w'→Q e.to a' w')→
  ev P cfg L c s nid k=some r→B5 n B Iq s g a w→Gx np B Iq s0 g0 w0 s g w→c.wp P Q a w:=by
 intro c
 induction c with
 | skip=>intro hL s g a w nid k Q hk e h hx; exact wp_skip (hk .normal s nid g a w e h hx)
 | region id ops draw=>
  intro hL s g a w nid k Q hk e h hx
  simp only [ev] at e
  split at e
  ·rename_i q hq
   cases draw with
   | true=>cases e
   | false=>
    simp only [cond_false] at e
    refine wp_region_list ?_
    rw [Aor hq]
    exact Aer hs hn (fun s' g' a' w' e' h' hx'=>A58 hs hn hq (fun s2 g2 a2 w2 q2 h2 hx2=>hk .normal s2 _ g2 a2 w2 q2 h2 hx2) e' h' hx') e h hx
  ·exact A10 hm hs hn (fun s' g' a' w' q h' hx'=>hk .normal s' _ g' a' w' q h' hx') h hx e
 | seq x y ihx ihy=>
  intro hL s g a w nid k Q hk e h hx
  simp only [ev] at e
  refine wp_seq (ihx (fun c' hc'=>hL c' (List.mem_append_left _ hc')) (fun e' s' nid' g' a' w' q h' hx'=>?_) e h hx)
  cases e' with
  | normal=>exact ihy (fun c' hc'=>hL c' (List.mem_append_right _ hc')) hk q h' hx'
  | exit id=>exact hk (.exit id) s' nid' g' a' w' q h' hx'
  | ret=>exact hk .ret s' nid' g' a' w' q h' hx'
 | cond c x y ihx ihy=>
  intro hL s g a w nid k Q hk e h hx
  simp only [ev] at e
  split at e
  ·rename_i t ht
   refine wp_cond (t:=t) (C7 h ht).1 ?_
   cases t with
   | true=>rw [Xo ht] at e; exact ihx (fun c' hc'=>hL c' (List.mem_append_left _ hc')) hk e h hx
   | false=>rw [Xo ht] at e; exact ihy (fun c' hc'=>hL c' (List.mem_append_right _ hc')) hk e h hx
  ·cases e
 | block id c ih=>
  intro hL s g a w nid k Q hk e h hx
  simp only [ev] at e
  refine wp_block (ih hL (fun e' s' nid' g' a' w' q h' hx'=>?_) e h hx)
  cases e' with
  | normal=>exact hk .normal s' nid' g' a' w' q h' hx'
  | exit id'=>
   simp only at q
   show Exit.inBlock id Q (.exit id') a' w'
   unfold Exit.inBlock
   split at q
   ·rename_i hid
    simp only [hid,if_true]
    exact hk .normal s' nid' g' a' w' q h' hx'
   ·rename_i hid
    simp only [hid,if_false]
    exact hk (.exit id') s' nid' g' a' w' q h' hx'
  | ret=>exact hk .ret s' nid' g' a' w' q h' hx'
 | loop c ih=>
  intro hL s g a w nid k Q hk e h hx
  simp only [ev] at e
  split at e
  ·rename_i d hd
   subst hnp
   obtain ⟨g2,k1,k2⟩:=Aur h hx hd
   exact hL c (by simp [Av]) r B Iq s0 g0 w0 d g2 a w k Q hk e k1 k2
  ·cases e
 | exit id=>intro hL s g a w nid k Q hk e h hx; exact wp_exit (hk (.exit id) s nid g a w e h hx)
 | ret=>intro hL s g a w nid k Q hk e h hx; exact wp_ret (hk .ret s nid g a w e h hx)
 | rangeFunc f params x y ihx ihy=>intro hL s g a w nid k Q hk e h hx; simp [ev] at e
 | scope c ih=>intro hL s g a w nid k Q hk e h hx; simp [ev] at e
 | label l=>intro hL s g a w nid k Q hk e h hx; simp [ev] at e
 | goto l=>intro hL s g a w nid k Q hk e h hx; simp [ev] at e
 | refuse why=>intro hL s g a w nid k Q hk e h hx; simp [ev] at e
end
theorem A11 {np:Nat} {cfg:Cfg} {L L':Lt R cfg.pat} {c:Code} (hm:P.follows .mixedOrders=true) (hs:A1 P cfg.sigs) (hn:cfg.n=n) (hnp:cfg.np=np)
  (hL:∀ d k (r:R),L (Ic c) d k=some r→∃ m,Akv np (cfg.pat (Ic c)) (fun s nid k=>ev P cfg L' c s nid k) m d k=some r) (hL':∀ c'∈Av c,A7 P R n np cfg.pat L' c'):A7 P R n np cfg.pat L c:=by
 intro r B Iq s0 g0 w0 d g a w k Q hk e h hx
 obtain ⟨m,e⟩:=hL d k r e
 exact A59 rfl (fun hk' e' h' hx'=>A7i hm hs hn hnp c hL' hk' e' h' hx') hk e h hx
end
end
section
def Ac0 (s:St):List Md→Nat→List Lf
 | [],_=>[]
 | .rd _::ps,id=>Ac0 s ps id
 | .own _ _::ps,id=>Ac0 s ps (id + 1)
 | .bx _ _::ps,id=>(match s.res id with | .box _ ls=>ls | _=>[])++Ac0 s ps (id + 1)
 | .mu _ _::ps,id=>Ac0 s ps (id + 1)
def bkD (s:St):(ps:List Md)→Nat→Option (BxD ps)
 | [],_=>some ()
 | .rd _::ps,id=>bkD s ps id
 | .own _ _::ps,id=>bkD s ps (id + 1)
 | .bx T t::ps,id=>match s.res id with
  | .box T' ls=>if T'=T then (match s.parse t ls with
   | some (z,[])=>(bkD s ps (id + 1)).bind fun q=>some (z,q)
   | _=>none) else none
  | _=>none
 | .mu e t::ps,id=>match s.res id with
  | .row e' t' xs=>if e'=e then (if h:t'=t then (bkD s ps (id + 1)).bind fun q=>some (h ▸ xs,q) else none) else none
  | _=>none
def Jr:List Md→Nat→List Nat
 | [],_=>[]
 | .rd _::ps,id=>Jr ps id
 | .own _ _::ps,id=>Jr ps (id + 1)
 | .bx _ _::ps,id=>id::Jr ps (id + 1)
 | .mu _ _::ps,id=>id::Jr ps (id + 1)
def fin (P:Program) (sg:Ji) (rv:List ResultVar):Kt (Vk sg.rs×BxD sg.ps):=fun e s nid=>match e with
 | .exit _=>none
 | _=>match Qq P s rv with
  | none=>none
  | some vs=>match shL sg.rsh vs with
   | none=>none
   | some ls=>
    let sF:=s.frz (Ld s sg.rs ls++Ac0 s sg.ps 0)
    match Pn sF sg.rs ls with
    | none=>none
    | some q=>match bkD sF sg.ps 0 with
     | none=>none
     | some z=>bif S3 (Ba q.2++Jr sg.ps 0) then some (q.1,z) else none
def Bl (fn:Func):Code:=match fn.body with
 | some c=>c
 | none=>.skip
def Zr (sg:Ji) (x:Vk sg.ps) (vs:List Vl):St:=⟨fun i=>match vs[i]? with | some v=>.vl v | none=>.dead,Mz sg.ps x 0 (fun _=>.unborn)⟩
def A36 (P:Program) (sigs:Tb) (pat:Nat→Du×(Nat→Du)) (sg:Ji) (fn:Func) (L:Lt (Vk sg.rs×BxD sg.ps) pat) (x:Vk sg.ps):Option (Vk sg.rs×BxD sg.ps):=
 match fn.body,shV sg.psh (At4 sg.ps x 0) with
 | some c,some vs=>bif Nat.ble vs.length fn.ntmps then ev P ⟨sigs,Lo sg.ps,fn.ntmps,pat⟩ L c (Zr sg x vs) (Lo sg.ps) (fin P sg fn.results.toList) else none
 | _,_=>none
section
variable {P:Program} {n B:Nat} {Iq:List Nat} {s:St} {g:Gh} {a:Act} {w:World}
theorem u6:∀ {ps:List Md} {id j:Nat},j∈Jr ps id→id≤j∧j < id + Lo ps
 | [],_,_,h=>by simp [Jr] at h
 | .rd _::ps,id,j,h=>u6 (ps:=ps) h
 | .own _ _::ps,id,j,h=>by
  have:=u6 (ps:=ps) h
  simp only [Lo]
  omega
 | .bx _ _::ps,id,j,h=>by
  simp only [Jr,List.mem_cons] at h
  simp only [Lo]
  rcases h with rfl | h
  ·omega
  ·have:=u6 (ps:=ps) h
   omega
 | .mu _ _::ps,id,j,h=>by
  simp only [Jr,List.mem_cons] at h
  simp only [Lo]
  rcases h with rfl | h
  ·omega
  ·have:=u6 (ps:=ps) h
   omega
theorem Awt (hres:∀ id,Mc s g w id (s.res id)) {g0:Gh}:∀ {ps:List Md} {id:Nat} {us:List Value} {y:BxD ps} {x:Vk ps} {w0:World} {S:Nat→Prop},bkD s ps id=some y→HR w0 S ps x us→
  (∀ j,j∈Jr ps id→(∀ T ls,s.res j=.box T ls→g.blk j=(Kh ps us id g0).blk j)∧∀ e,∀ t:Ty,∀ xs:List t.D,s.res j=.row e t xs→g.blk j=(Kh ps us id g0).blk j∧g.hdr j=(Kh ps us id g0).hdr j)→
  BkR w (Ev s g) ps y us∧Zg ps us=owB g ((Jr ps id).map some)∧∀ j∈Jr ps id,(s.res j).live=true
 | [],_,_,_,_,_,_,_,_,_=>⟨trivial,rfl,by simp [Jr]⟩
 | .rd t::ps,id,us,y,x,w0,S,e,⟨c1,c2,h1,h2,h3⟩,hp=>by
  subst h1
  have hd:(c1++c2).drop t.sz=c2:=by rw [← Ty.K_len h2]; simp
  simp only [BkR,Zg,hd]
  exact Awt (ps:=ps) (x:=x.2) hres e h3 (fun j q1=>by have:=hp j q1; simp only [Kh,hd] at this; exact this)
 | .own e0 t::ps,id,us,y,x,w0,S,e,⟨u,c2,h1,h2,h3⟩,hp=>by
  subst h1
  simp only [BkR,Zg,List.tail_cons]
  exact Awt (ps:=ps) (x:=x.2) hres e h3 (fun j q1=>by have:=hp j q1; simp only [Kh,List.tail_cons] at this; exact this)
 | .bx T t::ps,id,us,y,x,w0,S,e,⟨b,c2,h1,h2,h3⟩,hp=>by
  subst h1
  simp only [bkD] at e
  split at e
  ·rename_i T' ls hr
   split at e
   ·rename_i hT
    split at e
    ·rename_i z hz
     obtain ⟨q,e1,e2⟩:=A6 e
     cases e2
     subst hT
     have hb0:=(hp id (by simp [Jr])).1 T' ls hr
     simp only [Kh,List.head?_cons,List.tail_cons] at hb0
     rw [(Cf ps c2 (id + 1) _ id (by omega)).1] at hb0
     simp only [A2] at hb0
     have hb:g.blk id=some b:=hb0
     have r:=hres id
     rw [hr] at r
     obtain ⟨b',cs,k1,k2,k3⟩:=r
     obtain rfl:b=b':=Option.some.inj (hb.symm.trans k1)
     obtain ⟨e3,k4⟩:=St.parse_K hres hz k3
     have hlen:cs.toList.take t.sz=cs.toList:=by
      apply List.take_of_length_le
      have:ls.length≤t.sz:=List.drop_eq_nil_iff.1 e3.symm
      rw [k3.length]; exact this
     rw [hlen] at k4
     obtain ⟨i1,i2,i3⟩:=Awt (ps:=ps) (x:=x.2) (us:=c2) hres e1 h3 (fun j q1=>by
      have:=hp j (by simp [Jr,q1])
      simp only [Kh,List.tail_cons] at this
      exact this)
     refine ⟨⟨⟨b,rfl,cs,k2,k4⟩,i1⟩,?_,?_⟩
     ·simp only [Zg,Jr,List.map_cons,owB,List.head?_cons,Option.bind_some,List.tail_cons,Qx,hb,i2]
     ·intro j hj
      simp only [Jr,List.mem_cons] at hj
      rcases hj with rfl | hj
      ·rw [hr]; rfl
      ·exact i3 j hj
    ·cases e
   ·cases e
  ·cases e
 | .mu e0 t::ps,id,us,y,x,w0,S,e,⟨u,c2,h1,h2,h3⟩,hp=>by
  subst h1
  simp only [bkD] at e
  split at e
  ·rename_i e' t' xs hr
   split at e
   ·rename_i he
    split at e
    ·rename_i ht
     obtain ⟨q,e1,e2⟩:=A6 e
     cases e2
     subst he ht
     obtain ⟨hb0,hh0⟩:=(hp id (by simp [Jr])).2 e' t' xs hr
     simp only [Kh,List.head?_cons,List.tail_cons,List.headD_cons] at hb0 hh0
     rw [(Cf ps c2 (id + 1) _ id (by omega)).1] at hb0
     rw [(Cf ps c2 (id + 1) _ id (by omega)).2] at hh0
     simp only [A2,Option.bind_some] at hb0 hh0
     have r:=hres id
     rw [hr] at r
     obtain ⟨cs,k1,k2,k3⟩:=r
     rw [hh0] at k1
     obtain ⟨i1,i2,i3⟩:=Awt (ps:=ps) (x:=x.2) (us:=c2) hres e1 h3 (fun j q1=>by
      have:=hp j (by simp [Jr,q1])
      simp only [Kh,List.tail_cons] at this
      exact this)
     refine ⟨⟨⟨u,rfl,cs,k1,k2⟩,i1⟩,?_,?_⟩
     ·simp only [Zg,Jr,List.map_cons,owB,List.head?_cons,Option.bind_some,List.tail_cons,hb0,i2]
     ·intro j hj
      simp only [Jr,List.mem_cons] at hj
      rcases hj with rfl | hj
      ·rw [hr]; rfl
      ·exact i3 j hj
    ·cases e
   ·cases e
  ·cases e
theorem As6 (a b:List (Option Nat)):Ba (a++b)=Ba a++Ba b:=by
 induction a with
 | nil=>rfl
 | cons x r ih=>cases x<;>simp [Ba,ih]
theorem As7 (l:List Nat):Ba (l.map some)=l:=by
 induction l with
 | nil=>rfl
 | cons x r ih=>simp [Ba,ih]
theorem A6a (g:Gh) (a b:List (Option Nat)):owB g (a++b)=owB g a++owB g b:=by
 induction a with
 | nil=>rfl
 | cons x r ih=>simp [owB,ih]
theorem Tc:∀ {ps:List Md} {x:Vk ps} {id j:Nat} {res:Nat→Qp},j∈Jr ps id→(Mz ps x id res j).live=true
 | [],_,_,_,_,h=>by simp [Jr] at h
 | .rd _::ps,x,id,j,res,h=>Tc (ps:=ps) h
 | .own e t::ps,x,id,j,res,h=>Tc (ps:=ps) h
 | .bx T t::ps,x,id,j,res,h=>by
  simp only [Jr,List.mem_cons] at h
  rcases h with rfl | h
  ·have:Mz (.bx T t::ps) x j res j=.box T (t.leafs x.1):=(Iw ps x.2 (j + 1) _ j (by omega)).trans (A2 _ _ _)
   rw [this]
   rfl
  ·exact Tc (ps:=ps) h
 | .mu e t::ps,x,id,j,res,h=>by
  simp only [Jr,List.mem_cons] at h
  rcases h with rfl | h
  ·have:Mz (.mu e t::ps) x j res j=.row e t x.1:=(Iw ps x.2 (j + 1) _ j (by omega)).trans (A2 _ _ _)
   rw [this]
   rfl
  ·exact Tc (ps:=ps) h
theorem A37 {sigs:Tb} {pat:Nat→Du×(Nat→Du)} {f:FuncId} {fn:Func} {sg:Ji} {den:Vk sg.ps→Option (Vk sg.rs×BxD sg.ps)} (hm:P.follows .mixedOrders=true) (hs:A1 P sigs)
  (hf : P.funcs[f]? = some fn) (hname : (fn.name == "runtime.NumGoroutine") = false) (hbody : fn.body.isNone = false) (hden : ∀ x r, den x = some r → ∃ L, (∀ c ∈ Av (Bl fn), A7 P (Vk sg.rs × BxD sg.ps) fn.ntmps (Lo sg.ps) pat L c) ∧ A36 P sigs pat sg fn L x = some r) : Lq P f ∧ Akl P f sg den := by
 have sound:Akl P f sg den:=by
  intro x r hx w S us args hHR hSh hOwn
  obtain ⟨L,hLo,he⟩:=hden x r hx
  unfold A36 at he
  split at he
  ·rename_i c vs hb hvs
   have hbo:Bl fn=c:=by unfold Bl; rw [hb]
   rw [hbo] at hLo
   obtain ⟨hle,he⟩:=P7 he
   have hle:=Nat.le_of_ble_eq_true hle
   refine calls_of_wp hf hb ?_
   generalize hg0:Kh sg.ps us 0 ⟨fun _=>none,fun _=>undef,fun b=>b < w.heap.size∧¬ S b∧b ∉ Fh sg.ps us⟩=g0
   have hav:g0.av=fun b=>b < w.heap.size∧¬ S b∧b ∉ Fh sg.ps us:=by rw [← hg0]; exact Zh _ _ _ _
   have hin:∀ j b,g0.blk j=some b→j < Lo sg.ps∧b∈Fh sg.ps us:=by
    intro j b q
    by_cases hj:j < Lo sg.ps
    ·rw [← hg0] at q
     exact ⟨hj,Me _ _ _ _ j b (by omega) (by omega) q⟩
    ·rw [← hg0,(Cf _ _ _ _ j (by omega)).1] at q
     cases q
   have hSof:∀ b,S b→b < w.heap.size→Ev (Zr sg x vs) g0 b:=by
    intro b hb _
    refine ⟨by rw [hav]; exact fun q=>q.2.1 hb,fun j _ q=>?_⟩
    exact (hOwn.2 b (hin j b q).2).2 hb
   obtain ⟨hL,hR⟩:=Ase (s:=Zr sg x vs) (g:=g0) hSof sg.ps x us 0 (fun _=>.unborn) ⟨fun _=>none,fun _=>undef,fun b=>b < w.heap.size∧¬ S b∧b ∉ Fh sg.ps us⟩ hHR (fun j _ _=>⟨rfl,by rw [hg0],by rw [hg0]⟩)
   have hV:=Azv hvs hL hSh
   have hargs:args.length=vs.length:=hV.length
   have hent:B5 fn.ntmps w.heap.size (Fh sg.ps us) (Zr sg x vs) g0 { tmps:=args.toArray++Array.replicate (fn.ntmps - args.toArray.size) undef,defers:=[] } w:=by
    refine ⟨by simp; omega,rfl,Nat.le_refl _,fun i=>?_,fun j=>?_,fun i j b q1 q2=>?_,fun j b q=>?_,fun b q=>?_⟩
    ·show Wz _ _ _ (match vs[i]? with | some v=>.vl v | none=>.dead) _
     cases hi:vs[i]? with
     | none=>trivial
     | some v=>
      obtain ⟨u,e1,e2⟩:=hV.get hi
      have hlt:=(List.getElem?_eq_some_iff.1 e1).1
      have:(args.toArray++Array.replicate (fn.ntmps - args.toArray.size) undef).getD i undef=u:=by
       rw [Array.getD_eq_getD_getElem?,Array.getElem?_append_left (by simpa using hlt),List.getElem?_toArray,e1]
       rfl
      rw [this]
      exact e2
    ·by_cases hj:j < Lo sg.ps
     ·exact (hR j (by omega) (by omega)).1
     ·have h1:(Zr sg x vs).res j=.unborn:=Iw _ _ _ _ j (by omega)
      rw [h1]
      show g0.blk j=none
      cases hq:g0.blk j with
      | none=>rfl
      | some b=>exact absurd (hin j b hq).1 hj
    ·rw [← hg0] at q1 q2
     refine Xg _ _ _ _ i j b hOwn.1 (by omega) ?_ (by omega) ?_ q1 q2
     ·rw [hg0] at q1; have:=(hin i b q1).1; omega
     ·rw [hg0] at q2; have:=(hin j b q2).1; omega
    ·have:=(hin j b q).2
     exact ⟨(hOwn.2 b this).1,.inl this,by rw [hav]; exact fun q=>q.2.2 this⟩
    ·rw [hav] at q
     exact q.1
   have hgx:Gx (Lo sg.ps) w.heap.size (Fh sg.ps us) (Zr sg x vs) g0 w (Zr sg x vs) g0 w:=by
    refine ⟨Kp.refl _ _ _,rfl,fun id _ hl=>⟨fun q=>(by rw [q] at hl; cases hl),fun T ls q=>⟨⟨T,ls,q⟩,rfl⟩,fun e t xs q=>⟨⟨e,xs,q⟩,rfl,rfl⟩⟩⟩
   refine A7i (r:=r) (Q:=bodyPost P fn _) (cfg:=⟨sigs,Lo sg.ps,fn.ntmps,pat⟩) (L:=L) hm hs rfl rfl c hLo (fun e s' nid' g' a' w' hk hR' hX'=>?_) he hent hgx
   have hfin:∀ {vs':List Vl} {ls:List Lf} {q:Vk sg.rs×List (Option Nat)} {z:BxD sg.ps},Qq P s' fn.results.toList=some vs'→shL sg.rsh vs'=some ls→
     Pn (s'.frz (Ld s' sg.rs ls++Ac0 s' sg.ps 0)) sg.rs ls=some q→bkD (s'.frz (Ld s' sg.rs ls++Ac0 s' sg.ps 0)) sg.ps 0=some z→S3 (Ba q.2++Jr sg.ps 0)=true→
     a'.defers=[]∧∃ v,(results fn a'.tmps).run P w'=.ok v w'∧∃ vs us',Ending.returned v=.returned (At3 vs)∧ShR sg.rsh vs us'∧Ob (Fh sg.ps us) w w'∧
      HR w' (Akk w S (Fh sg.ps us) (Fh sg.rs us'++Zg sg.ps us)) sg.rs q.1 us'∧BkR w' (Akk w S (Fh sg.ps us) (Fh sg.rs us'++Zg sg.ps us)) sg.ps z us∧
      (Fh sg.rs us'++Zg sg.ps us).Nodup∧∀ b∈Fh sg.rs us',b < w'.heap.size∧(b∈Fh sg.ps us∨w.heap.size≤b):=by
    intro vs' ls q z h1 h2 h3 h4 h5
    obtain ⟨us1,r1,r2⟩:=Akq hR' h1
    obtain ⟨cs,hsh,hL'⟩:=Azu h2 r2
    obtain ⟨gF,hF,goF,hlf⟩:=Fl (ls:=Ld s' sg.rs ls++Ac0 s' sg.ps 0) hR'
    have hXF:=hX'.step goF
    have hLF:=hL'.imp hlf
    obtain ⟨k1,k2,k3⟩:=Asg hF.res (x:=q.1) (ow:=q.2) h3 hLF
    obtain ⟨b1,b2,b3⟩:=Awt hF.res (g0:=⟨fun _=>none,fun _=>undef,fun b=>b < w.heap.size∧¬ S b∧b ∉ Fh sg.ps us⟩) (x:=x) (us:=us) h4 hHR (fun j q1=>by
     have hj:=u6 q1
     obtain ⟨_,p2,p3⟩:=hXF.pin j (show j < Lo sg.ps by omega) (Tc q1)
     rw [hg0]
     exact ⟨fun T bl q2=>(p2 T bl q2).2,fun e t xs q2=>(p3 e t xs q2).2⟩)
    have hnd:=Af3 h5
    have hgone:Fh sg.rs cs++Zg sg.ps us=owB gF (q.2++(Jr sg.ps 0).map some):=by rw [k2,b2,A6a]
    have hS2:∀ b,Ev (s'.frz (Ld s' sg.rs ls++Ac0 s' sg.ps 0)) gF b→b < w'.heap.size→Akk w S (Fh sg.ps us) (Fh sg.rs cs++Zg sg.ps us) b:=by
     rintro b ⟨q1,q2⟩ _
     rw [hXF.av,hav] at q1
     refine ⟨?_,fun hq=>?_⟩
     ·by_cases c1:S b
      ·exact .inl c1
      ·by_cases c2:b∈Fh sg.ps us
       ·exact .inr (.inl c2)
       ·right; right
        rcases Nat.lt_or_ge b w.heap.size with c3 | c3
        ·exact absurd ⟨c3,c1,c2⟩ q1
        ·exact c3
     ·rw [hgone] at hq
      obtain ⟨id,p1,p2⟩:=Sq.1 hq
      rw [As6,As7] at p1
      rcases List.mem_append.1 p1 with p1 | p1
      ·exact q2 id (k3 id p1) p2
      ·exact q2 id (b3 id p1) p2
    refine ⟨hR'.defers,_,r1,us1,cs,rfl,hsh,⟨hX'.kp.os,hX'.kp.tape,hX'.kp.output,hX'.kp.size,fun k q1 q2=>hX'.kp.block k q1 q2⟩,Aip (.inr hS2) k1,Abo (.inr hS2) b1,?_,fun b hb=>?_⟩
    ·rw [hgone]
     exact Abn hF.inj (by rw [As6,As7]; exact hnd)
    ·rw [k2] at hb
     obtain ⟨id,p1,p2⟩:=Sq.1 hb
     obtain ⟨q1,q2,_⟩:=hF.lt id b p2
     exact ⟨q1,q2⟩
   have hend:∀ (e:Ex),(∀ id,e≠.exit id)→(match Qq P s' fn.results.toList with
     | none=>none
     | some vs=>match shL sg.rsh vs with
      | none=>none
      | some ls=>
       let sF:=s'.frz (Ld s' sg.rs ls++Ac0 s' sg.ps 0)
       match Pn sF sg.rs ls with
       | none=>none
       | some q=>match bkD sF sg.ps 0 with
        | none=>none
        | some z=>bif S3 (Ba q.2++Jr sg.ps 0) then some (q.1,z) else none)=some r→bodyPost P fn (fun e w'=>∃ vs us',e=.returned (At3 vs)∧ShR sg.rsh vs us'∧Ob (Fh sg.ps us) w w'∧
       HR w' (Akk w S (Fh sg.ps us) (Fh sg.rs us'++Zg sg.ps us)) sg.rs r.1 us'∧BkR w' (Akk w S (Fh sg.ps us) (Fh sg.rs us'++Zg sg.ps us)) sg.ps r.2 us∧
       (Fh sg.rs us'++Zg sg.ps us).Nodup∧∀ b∈Fh sg.rs us',b < w'.heap.size∧(b∈Fh sg.ps us∨w.heap.size≤b)) e.to a' w':=by
    intro e hne h
    split at h
    ·cases h
    ·rename_i vs' h1
     split at h
     ·cases h
     ·rename_i ls h2
      dsimp only at h
      split at h
      ·cases h
      ·rename_i q h3
       split at h
       ·cases h
       ·rename_i z h4
        obtain ⟨h5,h6⟩:=P7 h
        cases h6
        obtain ⟨f1,v,f2,f3⟩:=hfin h1 h2 h3 h4 h5
        cases e with
        | normal=>exact ⟨f1,v,f2,f3⟩
        | ret=>exact ⟨f1,v,f2,f3⟩
        | exit id=>exact absurd rfl (hne id)
   cases e with
   | normal=>exact hend .normal (fun id q=>by cases q) hk
   | ret=>exact hend .ret (fun id q=>by cases q) hk
   | exit id=>cases hk
  ·cases he
 exact ⟨⟨fn,hf,hname,hbody⟩,sound⟩
def Ge:Nat→Du×(Nat→Du):=fun _=>(⟨[],[],[]⟩,fun _=>⟨[],[],[]⟩)
def Ky {R:Type} {pat:Nat→Du×(Nat→Du)}:Lt R pat:=fun _ _ _=>none
def Gc {R:Type} {pat:Nat→Du×(Nat→Du)} (key:Nat) (F:(pat key).1.D→Kt R→Option R) (L:Lt R pat):Lt R pat:=fun j d k=>if h:j=key then F (h ▸ d) k else L j d k
abbrev nI (n:Nat):Int:=(n:Int)
def Eb {α β γ:Type} (f:α→γ) (g:β→γ):α ⊕ β→γ
 | .inl a=>f a
 | .inr b=>g b
theorem A38 {R:Type} {np n:Nat} {cfg:Cfg} {L:Lt R cfg.pat} {c:Code} {key:Nat} (hkey:Ic c=key) (hm:P.follows .mixedOrders=true) (hs:A1 P cfg.sigs) (hn:cfg.n=n) (hnp:cfg.np=np)
  (hL:∀ d k (r:R),L key d k=some r→∃ m,Akv np (cfg.pat key) (fun s nid k=>ev P cfg L c s nid k) m d k=some r) (hL':∀ c'∈Av c,A7 P R n np cfg.pat L c'):A7 P R n np cfg.pat L c:=by
 subst hkey
 exact A11 hm hs hn hnp hL hL'
theorem Ayz {α β γ δ:Type} (f:α→Option γ) (g:β→Option γ) (o:α ⊕ β) (h:γ→Option δ):(Eb f g o).bind h=Eb (fun a=>(f a).bind h) (fun b=>(g b).bind h) o:=by cases o<;>rfl
theorem A39 {α β:Type} (c:Prop) [Decidable c] (x y:Option α) (f:α→Option β):(if c then x else y).bind f=if c then x.bind f else y.bind f:=by split<;>rfl
theorem A12 {α β:Type} (c:Bool) (x y:Option α) (f:α→Option β):(bif c then x else y).bind f=bif c then x.bind f else y.bind f:=by cases c<;>rfl
end
end
section
def A4a {D E O:Type} (left:D→List E) (stp:D→E→List E→Option D) (fin:D→Option O):Nat→D→O→Prop
 | 0,_,_=>False
 | m + 1,d,r=>(left d=[]→fin d=some r)∧∀ (i:Nat) (e:E),(left d)[i]? = some e→∃ d',stp d e ((left d).eraseIdx i)=some d'∧A4a left stp fin m d' r
theorem A4a.one {D E O:Type} {left:D→List E} {stp:D→E→List E→Option D} {fin:D→Option O}:∀ {m m':Nat} {d:D} {r r':O},A4a left stp fin m d r→A4a left stp fin m' d r'→r=r'
 | 0,_,_,_,_,h,_=>h.elim
 | _,0,_,_,_,_,h=>h.elim
 | m + 1,m' + 1,d,r,r',h,k=>by
  cases hl:left d with
  | nil=>exact Option.some.inj ((h.1 hl).symm.trans (k.1 hl))
  | cons e l=>
   obtain ⟨d1,e1,h1⟩:=h.2 0 e (by rw [hl]; rfl)
   obtain ⟨d2,e2,h2⟩:=k.2 0 e (by rw [hl]; rfl)
   obtain rfl:d1=d2:=Option.some.inj (e1.symm.trans e2)
   exact A4a.one h1 h2
section
variable {P:Program} {n B:Nat} {Iq:List Nat} {s:St} {g:Gh} {a:Act} {w:World}
end
section
variable {R:Type} {P:Program} {n np B:Nat} {Iq:List Nat} {s0:St} {g0:Gh} {w0:World} {r:R}
end
end
open Go Go.RowKit Go.WideShapes
section
def A6b (f:TypeId→Option Ty):List Field→Nat→Option Ty
 | [],_=>some .unit
 | d::r,off=>if d.offset=off then (f d.type).bind fun a=>(A6b f r (off + a.sz)).bind fun b=>some (.pair a b) else none
def tyG (P:Program):Nat→TypeId→Option Ty
 | 0,_=>none
 | k + 1,t=>match P.underlying t with
  | some (.int i)=>some (.int i)
  | some .bool=>some .bool
  | some .string=>some .str
  | some (.slice e)=>(tyG P k e).bind fun a=>if 0 < a.sz then (if 0 < P.bytesOf e then some (.sl a) else none) else none
  | some (.struct fs)=>(A6b (tyG P k) fs.toList 0).bind fun a=>if P.cellsOf t=a.sz then some a else none
  | _=>none
def Ac1:(t:Ty)→t.D→Prop
 | .int k,n=>(Lit.int k n).wf=true
 | .bool,_=>True
 | .str,s=>ByteArray.size s≤reachBytes
 | .sl t,xs=>List.length xs≤reachBytes∧∀ (i:Nat) (x:t.D),nth (α:=t.D) xs i=some x→Ac1 t x
 | .unit,_=>True
 | .pair a b,x=>Ac1 a x.1∧Ac1 b x.2
theorem Awu {α:Type} {n:Nat} {f:Fin n→α} {i:Nat} {x:α} (h:nth (List.ofFn f) i=some x):∃ hi:i < n,f ⟨i,hi⟩=x:=by
 unfold nth at h
 rw [List.getElem?_ofFn] at h
 split at h
 ·rename_i hi
  exact ⟨hi,Option.some.inj h⟩
 ·cases h
section
variable {H:Type} {enc:TypeId×Value→H} {P:Program} {w:World} {spare:Nat→Bool} {held:Bool}
theorem u7 {e:TypeId}:∀ {ds:List (DataW H)} {i:Nat} {d:DataW H},ds[i]? = some d→∀ n∈d.weights P e,n∈DataW.weightsAll P e ds
 | [],i,d,h,_,_=>by simp at h
 | d0::r,0,d,h,n,hn=>by
  simp at h
  subst h
  simp only [DataW.weightsAll,List.mem_append]
  exact .inl hn
 | d0::r,i + 1,d,h,n,hn=>by
  simp only [DataW.weightsAll,List.mem_append]
  exact .inr (u7 (i:=i) (by simpa using h) n hn)
theorem A6c {a:Addr} {v:Value} (h:w.cell? a=some v):a.block < w.heap.size:=by
 unfold World.cell? at h
 cases hq:w.heap[a.block]? with
 | none=>rw [hq] at h; simp at h
 | some o=>exact (Array.getElem?_eq_some_iff.1 hq).1
theorem A79:∀ {k:Nat} {T:TypeId} {t:Ty},tyG P k T=some t→∀ {fuel:Nat} {cs:List Value} {x:DataW H×List MemPlace},DataW.trod enc P w 0 spare held fuel T cs=some x→
  (∀ n∈x.1.weights P T,n≤reachBytes)→∃ y:t.D,t.K w (fun _=>True) y cs∧Ac1 t y:=by
 intro k
 induction k with
 | zero=>intro T t h; cases h
 | succ k ih=>
  intro T t h fuel cs x hx hw
  simp only [tyG] at h
  split at h
  ·rename_i i hU
   cases h
   obtain ⟨n,rfl,rfl,h3⟩:=DataW.trod_int hU hx
   exact ⟨n,rfl,h3⟩
  ·rename_i hU
   cases h
   obtain ⟨b,rfl,rfl⟩:=DataW.trod_bool hU hx
   exact ⟨b,rfl,trivial⟩
  ·rename_i hU
   cases h
   obtain ⟨s,rfl,rfl,h3⟩:=DataW.trod_string hU hx
   refine ⟨s,rfl,?_⟩
   have:=hw s.data.toList.length (by simp [DataW.weights])
   rw [Array.length_toList] at this
   exact this
  ·rename_i e hU
   obtain ⟨a,ha,h2⟩:=A6 h
   split at h2
   ·rename_i hpos
    split at h2<;>cases h2
    rename_i hby
    rcases DataW.trod_slice hU hx with ⟨rfl,rfl⟩ | ⟨ad,len,cap,elems,rest,n,rfl,rfl,rfl,hb,hl,hc,hlen,hel,_,_⟩
    ·exact ⟨([]:List a.D),⟨none,0,rfl,Nat.le_refl _,fun i y hy=>by simp [nth] at hy⟩,by simp,fun i y hy=>by simp [nth] at hy⟩
    ·have hwl:(elems.length + rest.length) * P.bytesOf e≤reachBytes:=by
      have:=hw ((elems.length + rest.length) * P.bytesOf e) (by simp [DataW.weights,hU])
      simpa using this
     have one:∀ i:Fin len,∃ y:a.D,(∃ cs',cs'.length=a.sz∧a.K w (fun _=>True) y cs'∧ad.block < w.heap.size∧∀ (j:Nat) (u:Value),cs'[j]? = some u→w.cell? (ad.add (i.1 * a.sz + j))=some u)∧Ac1 a y:=by
      intro i
      have hi:=hel i.1 i.2
      rw [List.getElem?_eq_getElem (by omega)] at hi
      obtain ⟨cs',h1,h2⟩:=A6 hi
      obtain ⟨y,k1,k2⟩:=ih ha h2 (fun m hm=>hw m (by
       simp only [DataW.weights,hU,List.mem_cons,List.mem_append]
       refine .inr (.inl (u7 (i:=i.1) (d:=(elems[i.1]'(by omega)).1) ?_ m hm))
       rw [List.getElem?_map,List.getElem?_eq_getElem (by omega)]
       rfl))
      have hsz:=Ty.K_len k1
      obtain ⟨_,c2,c3⟩:=World.cells?_some h1
      have hcell:P.cellsOf e=a.sz:=by omega
      have hall:∀ (j:Nat) (u:Value),cs'[j]? = some u→w.cell? (ad.add (i.1 * a.sz + j))=some u:=by
       intro j u hu
       have hj:=(List.getElem?_eq_some_iff.1 hu).1
       have:=c3 j (by omega)
       rw [Amr,hcell] at this
       rw [this,hu]
      refine ⟨y,⟨cs',hsz,k1,?_,hall⟩,k2⟩
      have h0:cs'[0]? = some (cs'[0]'(by omega)):=List.getElem?_eq_getElem (by omega)
      have:=A6c (hall 0 _ h0)
      rwa [Xd] at this
     refine ⟨(List.ofFn fun i=>Classical.choose (one i):List a.D),⟨some ad,cap,by rw [List.length_ofFn],by rw [List.length_ofFn]; exact hl,fun i y hy=>?_⟩,?_,fun i y hy=>?_⟩
     ·obtain ⟨hi,rfl⟩:=Awu hy
      obtain ⟨⟨cs',q1,q2,q3,q4⟩,_⟩:=Classical.choose_spec (one ⟨i,hi⟩)
      exact ⟨ad,rfl,trivial,q3,cs',q1,q2,q4⟩
     ·rw [List.length_ofFn]
      have:elems.length * 1≤(elems.length + rest.length) * P.bytesOf e:=Nat.mul_le_mul (by omega) hby
      omega
     ·obtain ⟨hi,rfl⟩:=Awu hy
      exact (Classical.choose_spec (one ⟨i,hi⟩)).2
   ·cases h2
  ·rename_i fs hU
   obtain ⟨a,ha,h2⟩:=A6 h
   split at h2<;>cases h2
   rename_i hsz
   obtain ⟨xs,n,rfl,rfl,hcl,hxl,hf⟩:=DataW.trod_struct hU hx
   have hwE:∀ m∈DataW.weightsEach P (fs.toList.map (·.type)) (xs.map (·.1)),m≤reachBytes:=fun m hm=>hw m (by simpa [DataW.weights,hU] using hm)
   have go:∀ (l:List Field) (off:Nat) (b:Ty) (ys:List (DataW H×List MemPlace)),A6b (tyG P k) l off=some b→ys.length=l.length→
     (∀ (i:Nat) (f:Field),l[i]? = some f→DataW.trod enc P w 0 spare held n f.type ((cs.drop f.offset).take (P.cellsOf f.type))=ys[i]?)→
     (∀ m∈DataW.weightsEach P (l.map (·.type)) (ys.map (·.1)),m≤reachBytes)→∃ y:b.D,b.K w (fun _=>True) y ((cs.drop off).take b.sz)∧Ac1 b y:=by
    intro l
    induction l with
    | nil=>
     intro off b ys hb _ _ _
     cases hb
     exact ⟨(),by show _=[]; simp [Ty.sz],trivial⟩
    | cons f r ihl=>
     intro off b ys hb hlen hall hwts
     simp only [A6b] at hb
     split at hb
     ·rename_i hoff
      obtain ⟨b1,hb1,hb⟩:=A6 hb
      obtain ⟨b2,hb2,hb⟩:=A6 hb
      cases hb
      cases ys with
      | nil=>simp at hlen
      | cons y0 ys=>
       have h0:=hall 0 f rfl
       simp only [List.getElem?_cons_zero] at h0
       obtain ⟨y1,k1,f1⟩:=ih hb1 h0 (fun m hm=>hwts m (by simp only [List.map_cons,DataW.weightsEach,List.mem_append]; exact .inl hm))
       obtain ⟨y2,k2,f2⟩:=ihl (off + b1.sz) b2 ys hb2 (by simpa using hlen) (fun i f' hi=>by have:=hall (i + 1) f' (by simpa using hi); simpa using this) (fun m hm=>hwts m (by simp only [List.map_cons,DataW.weightsEach,List.mem_append]; exact .inr hm))
       have e1:(cs.drop f.offset).take (P.cellsOf f.type)=(cs.drop off).take b1.sz:=by
        have hl1:=Ty.K_len k1
        rw [hoff] at hl1 ⊢
        rw [List.length_take] at hl1
        rcases Nat.le_total (P.cellsOf f.type) (cs.drop off).length with q | q
        ·rw [Nat.min_eq_left q] at hl1
         rw [hl1]
        ·rw [Nat.min_eq_right q] at hl1
         rw [List.take_of_length_le q,List.take_of_length_le (by omega)]
       rw [e1] at k1
       refine ⟨(y1,y2),⟨(cs.drop off).take b1.sz,(cs.drop (off + b1.sz)).take b2.sz,?_,k1,k2⟩,f1,f2⟩
       show (cs.drop off).take (b1.sz + b2.sz)=_
       rw [List.take_add,List.drop_drop]
     ·cases hb
   obtain ⟨y,k1,k2⟩:=go fs.toList 0 t xs ha (by simpa using hxl) (fun i f hi=>hf i f (by simpa using hi)) hwE
   refine ⟨y,?_,k2⟩
   rw [List.drop_zero,List.take_of_length_le (by omega)] at k1
   exact k1
  ·cases h
def Ay0 (P:Program) (T:TypeId):Option Nat:=match P.underlying T with
 | some (.struct _)=>some (P.cellsOf T)
 | _=>none
def rds:List Ty→List Md
 | []=>[]
 | t::r=>.rd t::rds r
def A4c:(ts:List Ty)→Vk (rds ts)→Prop
 | [],_=>True
 | t::r,x=>Ac1 t x.1∧A4c r x.2
def A8a (P:Program):List TypeId→Option (List Ty)
 | []=>some []
 | T::r=>(tyG P 12 T).bind fun t=>(A8a P r).bind fun l=>some (t::l)
theorem Ago:∀ (ts:List Ty) (us:List Value),Fh (rds ts) us=[]
 | [],_=>rfl
 | t::r,us=>Ago r _
theorem Aut {b0:Nat} {T:TypeId} {t:Ty} (h:tyG P 12 T=some t) {v:Value} (hv:Value.okWide P w .any b0 T v):∃ cs,ShR [Ay0 P T] [v] cs∧cs=v.cells.toList:=by
 unfold tyG at h
 unfold Ay0
 split at h
 ·rename_i i hU
  obtain ⟨n,rfl⟩:=okWide_int hU hv
  rw [hU]
  exact ⟨_,⟨_,[],[],rfl,rfl,rfl,rfl,rfl⟩,rfl⟩
 ·rename_i hU
  obtain ⟨n,rfl⟩:=okWide_bool hU hv
  rw [hU]
  exact ⟨_,⟨_,[],[],rfl,rfl,rfl,rfl,rfl⟩,rfl⟩
 ·rename_i hU
  obtain ⟨n,rfl⟩:=okWide_string hU hv
  rw [hU]
  exact ⟨_,⟨_,[],[],rfl,rfl,rfl,rfl,rfl⟩,rfl⟩
 ·rename_i e hU
  obtain ⟨a,l,c,rfl⟩:=okWide_slice hU hv
  rw [hU]
  exact ⟨_,⟨_,[],[],rfl,rfl,rfl,rfl,rfl⟩,rfl⟩
 ·rename_i fs hU
  obtain ⟨cs,rfl,hs⟩:=okWide_struct hU hv
  rw [hU]
  exact ⟨cs.toList,⟨cs,[],[],rfl,(List.append_nil _).symm,hs,rfl,rfl⟩,rfl⟩
 ·cases h
theorem A4d {x:Option Nat} {sh:List (Option Nat)} {v:Value} {vs c1 c2:List Value} (h1:ShR [x] [v] c1) (h2:ShR sh vs c2):ShR (x::sh) (v::vs) (c1++c2):=by
 cases x with
 | none=>
  obtain ⟨u,us',cs',e1,e2,e3,e4,e5⟩:=h1
  subst e4 e5
  cases e1
  subst e2
  exact ⟨v,vs,c2,rfl,rfl,e3,h2⟩
 | some k=>
  obtain ⟨c,us',cs',e1,e2,e3,e4,e5⟩:=h1
  subst e4 e5
  cases e1
  subst e2
  exact ⟨c,vs,c2,rfl,by rw [List.append_nil],e3,h2⟩
theorem As8 {b0:Nat}:∀ {Ts:List TypeId} {ts:List Ty},A8a P Ts=some ts→∀ {vs:List Value} {ds:List (DataW H)} {ps:List MemPlace},DataW.TrodAll enc P w 0 spare held Ts vs ds ps→
  (∀ (j:Nat) T v,Ts[j]? = some T→vs[j]? = some v→Value.okWide P w .any b0 T v)→(∀ n∈DataW.weightsEach P Ts ds,n≤reachBytes)→
  ∃ (x:Vk (rds ts)) (us:List Value),HR w (fun _=>True) (rds ts) x us∧ShR (Ts.map (Ay0 P)) vs us∧A4c ts x
 | [],ts,h,vs,ds,ps,hT,_,_=>by
  cases h
  obtain ⟨rfl,rfl,rfl⟩:=Go.ChangeShapes.trodAll_nil hT
  exact ⟨(),[],rfl,⟨rfl,rfl⟩,trivial⟩
 | T::Ts,ts,h,vs,ds,ps,hT,hok,hw=>by
  simp only [A8a] at h
  obtain ⟨t,h1,h⟩:=A6 h
  obtain ⟨l,h2,h⟩:=A6 h
  cases h
  obtain ⟨v,vs',d,ds',p,q,rfl,rfl,rfl,⟨fuel,k1⟩,k2⟩:=Go.ChangeShapes.trodAll_cons hT
  obtain ⟨y,q1,q2⟩:=A79 h1 k1 (fun n hn=>hw n (by simp only [DataW.weightsEach,List.mem_append]; exact .inl hn))
  obtain ⟨x,us,r1,r2,r3⟩:=As8 h2 k2 (fun j T' v' e1 e2=>hok (j + 1) T' v' (by simpa using e1) (by simpa using e2)) (fun n hn=>hw n (by simp only [DataW.weightsEach,List.mem_append]; exact .inr hn))
  obtain ⟨cs,s1,rfl⟩:=Aut h1 (hok 0 T v rfl rfl)
  exact ⟨(y,x),v.cells.toList++us,⟨_,_,rfl,q1,r1⟩,A4d s1 r2,q2,r3⟩
theorem Akw {base:Nat}:∀ {Ts:List TypeId} {vs:List Value} {ds:List (DataW H)} {ps:List MemPlace},DataW.TrodAll enc P w base spare held Ts vs ds ps→ds.length=Ts.length
 | [],vs,ds,ps,h=>by obtain ⟨rfl,rfl,rfl⟩:=Go.ChangeShapes.trodAll_nil h; rfl
 | T::Ts,vs,ds,ps,h=>by
  obtain ⟨v,vs',d,ds',p,q,rfl,rfl,rfl,k1,k2⟩:=Go.ChangeShapes.trodAll_cons h
  simp [Akw k2]
theorem A9t {α:Type} {l:List α} (h:l.length=1):∃ a,l=[a]:=List.length_eq_one_iff.1 h
def Ms (P:Program):List TypeId→Bool
 | []=>true
 | T::r=>P.readableRec T&&(Nat.blt T P.types.size&&Ms P r)
theorem As9 (hl:laidOutB P=true) {W W':World} (hb:Below W.heap.size W W'):∀ {Ts:List TypeId},Ms P Ts=true→∀ {vs:List Value} {ds:List (DataW H)} {ps:List MemPlace},DataW.TrodAll enc P W 0 (fun _=>true) true Ts vs ds ps→
  DataW.TrodAll enc P W' 0 (fun b=>decide (b < W.heap.size)) true Ts vs ds ps
 | [],_,vs,ds,ps,h=>by
  obtain ⟨rfl,rfl,rfl⟩:=Go.ChangeShapes.trodAll_nil h
  exact rfl
 | T::Ts,hr,vs,ds,ps,h=>by
  have hlt:=DataW.TrodAll.lt h
  obtain ⟨v,vs',d,ds',p,q,rfl,rfl,rfl,k1,k2⟩:=Go.ChangeShapes.trodAll_cons h
  simp only [Ms,Bool.and_eq_true] at hr
  exact ⟨p,q,Below.trod hl hr.1 (by simpa using hr.2.1) k1 hb (fun x hx=>hlt x (List.mem_append_left _ hx)),As9 hl hb hr.2.2 k2,rfl⟩
theorem A13 {f:FuncId} {ts:List Ty} {psh:List (Option Nat)} {den:Vk (rds ts)→Option (Vk [.rd .bool]×BxD (rds ts))} (hs:Akl P f ⟨rds ts,psh,[.rd .bool],[none]⟩ den)
  {x:Vk (rds ts)} {y:BxD (rds ts)} (hx:den x=some ((true,()),y)) {W:World} {vs us:List Value} (h1:HR W (fun _=>True) (rds ts) x us) (h2:ShR psh vs us):
  Calls P f vs.toArray W fun e W'=>e=.returned (.bool true)∧Below W.heap.size W W':=by
 refine Calls.mono (hs x _ hx W (fun _=>True) us vs h1 h2 ⟨by simp only [Ago]; exact List.nodup_nil,fun b hb=>by simp only [Ago] at hb; cases hb⟩) fun e W'=>?_
 rintro ⟨rs,us',rfl,k1,k2,⟨c1,c2,e1,e2,e3⟩,_⟩
 have e2':c1=[.bool true]:=e2
 have e3':c2=[]:=e3
 subst e2' e3'
 obtain ⟨u,us1,cs1,q1,q2,q3,q4,q5⟩:=k1
 subst q4 q5
 rw [e1] at q2
 have:u=.bool true:=by simpa using q2.symm
 subst this
 subst q1
 simp only [Ago] at k2
 exact ⟨rfl,k2.below⟩
end
end
open Go Go.RowKit Go.Proofs Go.Shelf
section
variable {P:Program} {ρ:Ren}
end
open Go Go.RowKit Go.Proofs
section
abbrev Cp (P:Program) (n:FuncId) (sd:SD):Prop:=Lq P n∧Akl P n sd.sg sd.den
def tbF:List (FuncId×SD)→FuncId→Option SD
 | [],_=>none
 | p::r,f=>if f=p.1 then some p.2 else tbF r f
def A8b (P:Program):List (FuncId×SD)→Prop
 | []=>True
 | p::r=>Cp P p.1 p.2∧A8b P r
theorem A4e {P:Program}:∀ {l:List (FuncId×SD)},A8b P l→∀ f d,tbF l f=some d→Lq P f∧Akl P f d.sg d.den
 | [],_,f,d,h=>by cases h
 | p::r,⟨a,b⟩,f,d,h=>by
  unfold tbF at h
  split at h
  ·rename_i e; subst e; cases h; exact a
  ·exact A4e b f d h
def tb (l:List (FuncId×SD)):Tb:=Tb.of (tbF l)
theorem Bc {P:Program} {l:List (FuncId×SD)} (h:A8b P l):A1 P (tb l):=A1.of (A4e h)
abbrev Ah {b:Type} (f:b) (_:Unit):b:=f
abbrev Ac {a g d b:Type} (h:g→d→b) (f:a→g) (x:a×d):b:=h (f x.1) x.2
abbrev u4 {a b c e g d r:Type} (h:g→d→r) (f:a→b→c→e→g) (x:a×b×c×e×d):r:=h (f x.1 x.2.1 x.2.2.1 x.2.2.2.1) x.2.2.2.2
theorem nb:(∀ {α β:Type} (c:Bool) (x y:Option α) (f:α→Option β),(bif c then x else y).bind f=bif c then x.bind f else y.bind f)∧
  (∀ {α β:Type} (c:Prop) [Decidable c] (x y:Option α) (f:α→Option β),(if c then x else y).bind f=if c then x.bind f else y.bind f)∧
  (∀ {α β γ δ:Type} (f:α→Option γ) (g:β→Option γ) (o:α ⊕ β) (h:γ→Option δ),(Eb f g o).bind h=Eb (fun a=>(f a).bind h) (fun b=>(g b).bind h) o)∧
  (∀ {α β γ:Type} (x:Option α) (f:α→Option β) (g:β→Option γ),(x.bind f).bind g=x.bind fun y=>(f y).bind g)∧
  (∀ {α β:Type} (f:α→Option β),Option.bind none f=none)∧
  (∀ {α β:Type} (a:α) (f:α→Option β),Option.bind (some a) f=f a):=
 ⟨A12,fun c _ x y f=>A39 c x y f,Ayz,Option.bind_assoc,fun _=>rfl,fun _ _=>rfl⟩
abbrev p0:Du:=⟨[],[],[]⟩
def A84:List (Nat×Du)→Nat→Du
 | [],_=>p0
 | p::r,e=>if e=p.1 then p.2 else A84 r e
def Ix:List (Nat×Du×List (Nat×Du))→Nat→Du×(Nat→Du)
 | [],_=>(p0,fun _=>p0)
 | p::r,k=>if k=p.1 then (p.2.1,A84 p.2.2) else Ix r k
def Mh {R:Type} (p:Du×(Nat→Du)) (e:Ex) (i:Nat) (k:Kt R) (d:(p.2 i).D):Option R:=k e ((p.2 i).st d) (p.2 i).nid
def A14 (P:Program) (R:Type) (n np:Nat) (pat:Nat→Du×(Nat→Du)) (L:Lt R pat):List Code→Prop
 | []=>True
 | c::r=>A7 P R n np pat L c∧A14 P R n np pat L r
section
variable {P:Program} {R:Type} {n np:Nat}
theorem A14.all {pat:Nat→Du×(Nat→Du)} {L:Lt R pat}:∀ {l:List Code},A14 P R n np pat L l→∀ c∈l,A7 P R n np pat L c
 | [],_,c,h=>by cases h
 | d::r,⟨a,b⟩,c,h=>by
  rcases List.mem_cons.1 h with rfl | h
  ·exact a
  ·exact A14.all b c h
theorem Cu {cfg:Cfg} {L:Lt R cfg.pat} {c:Code} (key:Nat) (ls:List Code) {E:Type} (T:{S:Type}→((cfg.pat key).1.D→Option S)→(E→Option S)→(cfg.pat key).1.D→Option S)
  (lo:Nat→(cfg.pat key).1.D→Option E) (fu:(cfg.pat key).1.D→Nat) (ou:Kt R→E→Option R) (hs:A1 P cfg.sigs) (hls':A14 P R n np cfg.pat L ls)
  (na:∀ (f:E→Option R) (NX:(cfg.pat key).1.D→Option E) d,T (fun d=>(NX d).bind f) f d=(T NX some d).bind f)
  (rd:∀ nx k d,ev P cfg L c ((cfg.pat key).1.st d) (cfg.pat key).1.nid (Ayx np (cfg.pat key) nx k)=T (fun d=>nx d k) (ou k) d:=by intros; kernel_rfl)
  (hL:∀ d k,L key d k=(lo (fu d) d).bind (ou k):=by exact fun _ _=>rfl)
  (l0:∀ d,lo 0 d=none:=by exact fun _=>rfl) (l1:∀ m d,lo (m + 1) d=T (lo m) some d:=by exact fun _ _=>rfl)
  (hkey:Ic c=key:=by kernel_rfl) (hm:P.follows .mixedOrders=true:=by kernel_rfl) (hn:cfg.n=n:=by rfl) (hnp:cfg.np=np:=by rfl) (hls:Av c=ls:=by kernel_rfl):A7 P R n np cfg.pat L c:=by
 have lp:∀ (m:Nat) (d:(cfg.pat key).1.D) (k:Kt R),Akv np (cfg.pat key) (fun s nid k=>ev P cfg L c s nid k) m d k=(lo m d).bind (ou k):=by
  intro m
  induction m with
  | zero=>intro d k; rw [l0]; rfl
  | succ m ih=>
   intro d k
   rw [l1,← na]
   refine Eq.trans ?_ (congrArg (fun F=>T F (ou k) d) (funext fun d=>ih d k))
   exact rd _ k d
 refine A38 hkey hm hs hn hnp (fun d k r h=>⟨fu d,?_⟩) (fun c' hc'=>?_)
 ·rw [lp,← hL]; exact h
 ·rw [hls] at hc'; exact hls'.all c' hc'
theorem Bd {sigs:Tb} {f:FuncId} {fn:Func} {sd:SD} {pat:Nat→Du×(Nat→Du)} (ls:List Code) (L:Lt (Vk sd.sg.rs×BxD sd.sg.ps) pat) (hs:A1 P sigs)
  (hL:A14 P (Vk sd.sg.rs×BxD sd.sg.ps) fn.ntmps (Lo sd.sg.ps) pat L ls) (hf:P.funcs[f]? = some fn) {de:Vk sd.sg.ps→Option (Vk sd.sg.rs×BxD sd.sg.ps)} (hden:∀ x r,sd.den x=some r→de x=some r)
  (he : ∀ x, A36 P sigs pat sd.sg fn L x = de x) (hm : P.follows .mixedOrders = true := by kernel_rfl) (hname : (fn.name == "runtime.NumGoroutine") = false := by kernel_rfl) (hbody : fn.body.isNone = false := by kernel_rfl)
  (hls:Av (Bl fn)=ls:=by kernel_rfl):Cp P f sd:=
 A37 (pat:=pat) hm hs hf hname hbody fun x r hx=>⟨L,⟨fun c hc=>hL.all c (by rw [hls] at hc; exact hc),(he x).trans (hden x r hx)⟩⟩
theorem Ie {α β:Type} {o:Option α} {g:α→β} {r:β} {d:Option β} (q:∀ y,o=some y→d=some (g y)) (h:(o.bind fun r=>some (g r))=some r):d=some r:=by
 obtain ⟨y,h1,h2⟩:=A6 h
 cases h2
 exact q y h1
end
end
end Go.Proofs.Ytfkefgbihlfjmaa.R
namespace Go.Proofs.Ytfkefgbihlfjmaa.V
open Go Go.Proofs.Ytfkefgbihlfjmaa.R
abbrev Pg:=Int×Int×Int×Ab×Unit
abbrev Wr:=Int×Ab×Unit
abbrev Dk:=List Ab×List Wr×Unit
abbrev D5:=Bool×Int×Ab×Unit
abbrev Scd:=List Ab×Int×Int×Unit
abbrev Bw:=Ab×Ab×Unit
abbrev Ki:=List Bw×Unit
abbrev Bp:=Ab×Ab×Bool×Unit
abbrev Rt:=Int×Int×Int×Int×Unit
abbrev Lp:=Int×Int×Int×Rt×Int×Int×Ki×Unit
abbrev Td:=Int×Lp×List D5×Unit
abbrev C5:=Int×Dk×Bool×Lp×List Ki×List Ab×Unit
abbrev m0:=Int×List Bp×Int×List Int×Unit
abbrev tI:Ty:=.int .i64
abbrev yPg:Ty:=.pair tI (.pair tI (.pair tI (.pair .str .unit)))
abbrev Cl:Ty:=.pair tI (.pair .str .unit)
abbrev yDk:Ty:=.pair (.sl .str) (.pair (.sl Cl) .unit)
abbrev Fz:Ty:=.pair .bool (.pair tI (.pair .str .unit))
abbrev B2:Ty:=.pair .str (.pair .str .unit)
abbrev Ln:Ty:=.pair (.sl B2) .unit
abbrev Gu:Ty:=.pair .str (.pair .str (.pair .bool .unit))
abbrev yRt:Ty:=.pair tI (.pair tI (.pair tI (.pair tI .unit)))
abbrev Aos:Ty:=.pair tI (.pair tI (.pair tI (.pair yRt (.pair tI (.pair tI (.pair Ln .unit))))))
abbrev A6d:Ty:=.pair tI (.pair Aos (.pair (.sl Fz) .unit))
abbrev Nn:Ty:=.pair tI (.pair yDk (.pair .bool (.pair Aos (.pair (.sl Ln) (.pair (.sl .str) .unit)))))
abbrev A4f:Ty:=.pair tI (.pair (.sl Gu) (.pair tI (.pair (.sl tI) .unit)))
def eqL {α:Type} (f:α→α→Bool):List α→List α→Bool
 | [],[]=>true
 | a::r,b::q=>f a b&&eqL f r q
 | _,_=>false
def eqI (a b:Int):Bool:=decide (a=b)
def eqO (a b:Bool):Bool:=a==b
def eqS (a b:Ab):Bool:=ByteArray.toList a==ByteArray.toList b
def eqB:(t:Ty)→t.D→t.D→Bool
 | .int _,a,b=>eqI a b
 | .bool,a,b=>eqO a b
 | .str,a,b=>eqS a b
 | .sl t,xs,ys=>eqL (eqB t) xs ys
 | .unit,_,_=>true
 | .pair a b,x,y=>eqB a x.1 y.1&&eqB b x.2 y.2
def A4g:Nat→Int→Ab→Ab
 | 0,_,out=>out
 | m + 1,k,out=>if k > 0 then A4g m (k / 10) (strOfNums [48 + k % 10]++out) else out
def mkT (k:Int):Ab:=if k≤0 then ⟨#[109,48]⟩ else ⟨#[109]⟩++A4g 20 k ⟨#[]⟩
def Di (v lo hi:Int):Bool:=decide (lo≤v)&&decide (v≤hi)
def a9 (k:Ab):Bool:=Di (k.size:Int) 1 20
def bl (a b:Ab):Bool:=Op.bytesLess (ByteArray.toList a) (ByteArray.toList b)
def z0:Ab:=⟨#[]⟩
abbrev zP:Bw:=(⟨#[]⟩,⟨#[]⟩,())
def Oj (xs:List Bw) (i:Nat):Bool:=a9 (xs.getD i zP).1&&(decide ((xs.getD i zP).2.1.size≤100)&&(i==0 || bl (xs.getD (i - 1) zP).1 (xs.getD i zP).1))
def Aq (s:Ki):Bool:=decide (s.1.length≤100)&&(List.range' 0 s.1.length).all (Oj s.1)
def Te (c:Bp):Bool:=a9 c.1&&(decide (c.2.1.size≤100)&&!(c.2.2.1&&!(c.2.1.toList==[])))
abbrev zC:Bp:=(⟨#[]⟩,⟨#[]⟩,false,())
def Bf (b:List Bp):Bool:=Di (b.length:Int) 1 20&&(List.range' 0 b.length).all fun i=>Te (b.getD i zC)
def Tf {α E:Type} (p:α→Bool) (out:α→E) (ok:E):List α→E
 | []=>ok
 | x::r=>bif p x then out x else Tf p out ok r
def zW:Wr:=(0,⟨#[]⟩,())
def Ab8 (n:Nat) (w:Wr):Bool:=decide (0≤w.1)&&(decide (w.1 < (n:Int))&&decide (w.2.1.size=64))
def As (d:Dk):Bool:=Di (d.1.length:Int) 8 200&&(decide (d.2.1.length≤300)&&((List.range' 0 d.1.length).all (fun i=>decide ((d.1.getD i z0).size=64))&&(List.range' 0 d.2.1.length).all fun i=>Ab8 d.1.length (d.2.1.getD i zW)))
def F5 {α σ:Type} (step:Nat→α→σ→σ):Nat→List α→σ→σ
 | _,[],s=>s
 | i,x::r,s=>F5 step (i + 1) r (step i x s)
def Kz (sec:List Ab) (ws:List Wr):List Ab:=F5 (fun _ w s=>s.set w.1.toNat w.2.1) 0 ws sec
def Mt (d:Dk):Dk:=(Kz d.1 d.2.1,[],())
def Ab9 (d:Dk) (a:Int):Ab:=Tf (fun w=>w.1==a) (fun w=>w.2.1) (d.1.getD a.toNat z0) d.2.1.reverse
def Abx (d:Dk) (a:Int):Ab:=bif As d&&(decide (0≤a)&&decide (a < (d.1.length:Int))) then Ab9 d a else z0
def zS:Ab:=strOfNums (List.replicate 64 0)
def Ok (n:Int):Dk:=bif Di n 8 200 then (List.replicate n.toNat zS,[],()) else ([],[],())
def Ls (f:Int):Int:=if f < 0 then 0 else if f > 64 then 64 else f
def Kn (f:List Int) (i:Nat):Int:=if i < f.length then Ls (f.getD i 0) else 0
def Arf (a b:Ab) (k:Int):Ab:=Af a 0 k++Af b k (nI b.size)
def Akx (f:List Int) (sec:List Ab) (ws:List Wr):List Ab:=F5 (fun i w s=>s.set w.1.toNat (Arf w.2.1 (s.getD w.1.toNat z0) (Kn f i))) 0 ws sec
def D6 (d:Dk) (f:List Int):Dk:=bif As d then (Akx f d.1 d.2.1,[],()) else ([],[],())
def Zs (v:Int):Nat→List Int
 | 0=>[]
 | n + 1=>Zs (v / 256) n++[v % 256]
def P8 (v:Int) (n:Nat):Ab:=strOfNums (Zs v n)
def A0l (s:Ab):Nat→Nat→Int→Int
 | 0,_,v=>v
 | k + 1,i,v=>A0l s k (i + 1) (v * 256 + At s i)
def Ai8 (s:Ab):Int:=A0l s s.size 0 0
def Aot (h b:Int):Int:=IntKind.wrap IntKind.u64 (IntKind.wrap IntKind.u64 (nI (BitVec.toNat (BitVec.ofInt 64 h ^^^ BitVec.ofInt 64 (IntKind.wrap IntKind.u64 b)))) * 1099511628211)
def iter {σ:Type} (f:Nat→σ→σ):Nat→Nat→σ→σ
 | 0,_,s=>s
 | k + 1,i,s=>iter f k (i + 1) (f i s)
def Auu (s:Ab) (k i:Nat) (h:Int):Int:=iter (fun i h=>Aot h (At s i)) k i h
def Auv (s:Ab) (w:Int):Ab:=bif Di w 1 8 then P8 (Auu s s.size 0 14695981039346656037) w.toNat else ⟨#[]⟩
def Hn (p:Pg) (w:Int):Bool:=Di w 1 8&&(Di p.1 1 4&&(Di p.2.1 1 60000&&(Di p.2.2.1 1 1000000000&&(decide ((p.2.2.2.1.size:Int)≤56 - w)&&(p.1 != 3 || (p.2.2.2.1.toList==[]))))))
def Iy (p:Pg) (w:Int):Ab:=P8 p.1 1++P8 p.2.1 2++P8 p.2.2.1 4++P8 p.2.2.2.1.size 1++p.2.2.2.1++strOfNums (List.replicate (56 - w - p.2.2.2.1.size).toNat 0)
def C6 (p:Pg) (w:Int):Ab:=bif Hn p w then Auv (Iy p w) w++Iy p w else ⟨#[]⟩
abbrev zPg:Pg:=(0,0,0,⟨#[]⟩,())
def A4h (b:Ab):Pg:=(At b 0,Ai8 (Af b 1 3),Ai8 (Af b 3 7),Af b 8 (8 + At b 7),())
def A17 (s:Ab) (w:Int):Pg:=A4h (Af s w (nI s.size))
def Ch (s:Ab) (w:Int):Pg×Bool:=
 bif nI s.size != 64 then (zPg,false)
 else bif !Di w 1 8 then (zPg,false)
 else bif decide (At (Af s w (nI s.size)) 7 > 56 - w) then (zPg,false)
 else bif !((C6 (A17 s w) w).toList==s.toList) then (zPg,false) else (A17 s w,true)
def Tg (r:Rt):Bool:=Di r.2.1 0 1&&Di r.2.2.1 1 999999000
def Xp (r:Rt) (w:Int):Ab:=bif Tg r then C6 (4,r.2.2.2.1,r.1,P8 r.2.1 1++P8 r.2.2.1 4,()) w else ⟨#[]⟩
def Zt (c:Bp):List Int:=bif c.2.2.1 then [1,nI c.1.size]++Ad c.1 else [0,nI c.1.size]++Ad c.1++[nI c.2.1.size]++Ad c.2.1
def Im (b:List Bp):List Int:=(b.map Zt).flatten
def Fi (b:List Bp):Ab:=bif Bf b then strOfNums (Im b) else ⟨#[]⟩
def Bk (s:Ab):Ab×Ab×Bool:=if (s.size:Int) < 1∨(s.size:Int) < 1 + At s 0 then (⟨#[]⟩,s,false) else (Af s 1 (1 + At s 0),Af s (1 + At s 0) (nI s.size),true)
def Aou (strict:Bool) (s:Ab):Option (Bp×Ab):=
 bif strict&&decide (At s 0 > 1) then none
 else bif !(Bk (Af s 1 (nI s.size))).2.2 then none
 else bif At s 0==1 then some (((Bk (Af s 1 (nI s.size))).1,⟨#[]⟩,true,()),(Bk (Af s 1 (nI s.size))).2.1)
 else bif !(Bk (Bk (Af s 1 (nI s.size))).2.1).2.2 then none
 else some (((Bk (Af s 1 (nI s.size))).1,(Bk (Bk (Af s 1 (nI s.size))).2.1).1,false,()),(Bk (Bk (Af s 1 (nI s.size))).2.1).2.1)
def Rb (strict:Bool):Nat→List Bp→Ab→Option (List Bp×Ab)
 | 0,r,s=>some (r,s)
 | f + 1,r,s=>bif decide (s.size > 0)&&decide (r.length≤20) then (match Aou strict s with | none=>none | some (c,t)=>Rb strict f (r++[c]) t) else some (r,s)
def Ms (s:Ab):List Bp×Bool:=match Rb true 22 [] s with
 | none=>([],false)
 | some (b,t)=>bif decide (t.size > 0) || !Bf b then ([],false) else (b,true)
def Aov (s:Ab):List Bp×Bool:=match Rb false 22 [] s with
 | none=>([],false)
 | some (b,_)=>bif s.size==0 || !((Fi b).toList==s.toList) then ([],false) else (b,true)
def If (n:Nat):Nat→Ab→List Ab
 | 0,s=>[s]
 | f + 1,s=>if s.size > n then Af s 0 n::If n f (Af s n (nI s.size)) else [s]
def A8 (s:Ab) (w:Int):List Ab:=If (56 - w).toNat s.size s
def Jx (n:Nat) (w:Int):Int:=bif Di w 1 8 then (if ((n:Int) + (56 - w) - 1) / (56 - w) > 1 then ((n:Int) + (56 - w) - 1) / (56 - w) else 1) else 0
def Ps (life w:Int):Int→List Ab→List Ab
 | _,[]=>[]
 | k,[p]=>[C6 (2,life,k,p,()) w]
 | k,p::q::r=>C6 (1,life,k,p,()) w::Ps life w (k + 1) (q::r)
def Alk (e:Ab) (life first w:Int):List Ab:=bif Di w 1 8&&(Di life 1 60000&&(decide (1≤first)&&decide (first≤1000000000 - Jx e.size w + 1))) then Ps life w first (A8 e w) else []
def opS (d:Dk) (o:D5):Dk:=bif o.1 then Mt d else bif Ab8 d.1.length (o.2.1,o.2.2.1,())&&decide (d.2.1.length < 300) then (d.1,d.2.1++[(o.2.1,o.2.2.1,())],()) else d
def Bg (d:Dk) (ops:List D5) (n:Int):Dk:=bif As d then (ops.take n.toNat).foldl opS d else ([],[],())
def Mu (p:Pg):Rt:=(p.2.2.1,At p.2.2.2.1 0,Ai8 (Af p.2.2.2.1 1 (nI p.2.2.2.1.size)),p.2.1,())
def Lu (s:Ab) (w at':Int) (best:Rt):Rt:=
 bif (Ch s w).2&&((Ch s w).1.1==4)&&decide ((Ch s w).1.2.2.2.1.size=5)&&((Ch s w).1.2.2.1 % 2==at')&&Tg (Mu (Ch s w).1)&&decide ((Ch s w).1.2.2.1 > best.1) then Mu (Ch s w).1 else best
def Cv (d:Dk) (w:Int):Rt:=bif As d&&Di w 1 8 then Lu (Ab9 d 1) w 1 (Lu (Ab9 d 0) w 0 (0,0,1,0,())) else (0,0,0,0,())
def A18 (p:Bw):Bp:=(p.1,p.2.1,false,())
def Xq (i:Nat) (p:Bw) (r:List (List Bp)×Bool×List Bp):List (List Bp)×Bool×List Bp:=bif i % 20==0 then (Y8 r.2.1 r.1 r.2.2,true,[A18 p]) else (r.1,r.2.1,r.2.2++[A18 p])
def Aow (i:Nat) (l:List Bw) (r:List (List Bp)×Bool×List Bp):List (List Bp)×Bool×List Bp:=F5 Xq i l r
def K0 (s:Ki):List (List Bp):=bif Aq s then (let r:=Aow 0 s.1 ([],false,[]); Y8 r.2.1 r.1 r.2.2) else []
theorem Al {n:Int} (h0:-9223372036854775808≤n) (h1:n < 9223372036854775808):IntKind.i64.wrap n=n:=by
 have e:IntKind.i64.wrap n=if n % 18446744073709551616≥9223372036854775808 then n % 18446744073709551616 - 18446744073709551616 else n % 18446744073709551616:=by
  simp [IntKind.wrap,IntKind.bits,IntKind.signed]
 rw [e]
 split<;>omega
theorem Mi {α:Type} (xs:List α) (i:Nat) (z:α) (h:i < xs.length):xs.drop i=xs.getD i z::xs.drop (i + 1):=by
 rw [List.drop_eq_getElem_cons h]
 simp [List.getD,List.getElem?_eq_getElem h]
theorem cLt {i n:Nat} (h:i < n):decide ((i:Int) < nI n)=true:=by simp [nI]; omega
theorem W3 {n:Nat}:decide ((n:Int) < nI n)=false:=by simp [nI]
theorem Mv {i:Nat}:decide ((0:Int)≤(i:Int))=true:=by simp
theorem wI {i:Nat} (h:i < 4611686018427387904):IntKind.i64.wrap ((i:Int) + 1)=((i + 1:Nat):Int):=by rw [Al (by omega) (by omega)]; rfl
theorem A0m {α:Type} {f:α→α→Bool}:∀ {xs ys:List α},xs.length≠ys.length→eqL f xs ys=false
 | [],[],h=>absurd rfl h
 | [],_::_,_=>rfl
 | _::_,[],_=>rfl
 | x::xs,y::ys,h=>by
  simp only [eqL]
  rw [A0m (by simpa using h),Bool.and_false]
theorem A0n {α E:Type} {xs ys:List α} (z:α) (f:α→α→Bool) {g:Nat→Int→Option E} {ok bad:E} (hl:ys.length=xs.length)
  (hs:∀ m (i:Nat),i < xs.length→g (m + 1) i=bif f (xs.getD i z) (ys.getD i z) then g m ((i + 1:Nat):Int) else some bad)
  (he:∀ m,g (m + 1) (xs.length:Int)=some ok):
  ∀ (m i:Nat),i≤xs.length→xs.length - i < m→g m i=some (bif eqL f (xs.drop i) (ys.drop i) then ok else bad)
 | 0,i,hi,hm=>by omega
 | m + 1,i,hi,hm=>by
  by_cases h:i < xs.length
  ·rw [hs m i h,Mi xs i z h,Mi ys i z (by omega)]
   simp only [eqL]
   cases f (xs.getD i z) (ys.getD i z) with
   | false=>rfl
   | true=>
    rw [cond_true,A0n z f hl hs he m (i + 1) (by omega) (by omega),Bool.true_and]
  ·have:i=xs.length:=by omega
   subst this
   have hy:ys.drop xs.length=[]:=List.drop_eq_nil_of_le (by omega)
   rw [he,List.drop_length,hy]
   rfl
theorem Th {E:Type} {n:Nat} {g:Nat→Int→Option E} {ok bad:E} (p:Nat→Bool)
  (hs:∀ m (i:Nat),i < n→g (m + 1) i=bif p i then g m ((i + 1:Nat):Int) else some bad)
  (he:∀ m,g (m + 1) (n:Int)=some ok):
  ∀ (m i:Nat),i≤n→n - i < m→g m i=some (bif (List.range' i (n - i)).all p then ok else bad)
 | 0,i,hi,hm=>by omega
 | m + 1,i,hi,hm=>by
  by_cases h:i < n
  ·have e:n - i=(n - (i + 1)) + 1:=by omega
   rw [hs m i h,e,List.range'_succ,List.all_cons]
   cases p i with
   | false=>rfl
   | true=>
    rw [cond_true,Th p hs he m (i + 1) (by omega) (by omega),Bool.true_and]
  ·have:i=n:=by omega
   subst this
   rw [he,Nat.sub_self]
   rfl
theorem Cq {a b:Bool} (h:(a&&b)=true):a=true∧b=true:=by
 cases a<;>cases b<;>first | exact ⟨rfl,rfl⟩ | cases h
theorem A9u (a b:Int):(a != b)=!eqI a b:=by
 unfold eqI
 by_cases h:a=b<;>simp [h,bne]
theorem M0 {α:Type} {r:List α} {i:Nat} {x z:α} (h:i < r.length):(r.set i x).getD i z=x:=by
 simp [List.getD,h]
theorem Ata (n c:Nat):decide (nI n > (c:Int))=!decide (n≤c):=by
 by_cases q:n≤c
 ·have:¬ (nI n > (c:Int)):=by simp [nI]; omega
  rw [Ag q,Bh this]; rfl
 ·have:nI n > (c:Int):=by simp [nI]; omega
  rw [Bh q,Ag this]; rfl
theorem A6e (n c:Nat):(nI n != (c:Int))=!decide (n=c):=by
 by_cases q:n=c
 ·subst q; simp [nI]
 ·have:¬ (nI n=(c:Int)):=by simp [nI]; omega
  rw [Bh q,A9u]; unfold eqI; rw [Bh this]
theorem gt0 (i:Nat):decide ((i:Int) > 0)=!(i==0):=by
 cases i with
 | zero=>rfl
 | succ j=>
  have:((j + 1:Nat):Int) > 0:=by omega
  rw [Ag this]; rfl
theorem wP (j:Nat) (h:j < 4611686018427387904):IntKind.i64.wrap (((j + 1:Nat):Int) - 1)=(j:Int):=by rw [Al (by omega) (by omega)]; omega
theorem Aox {α:Type} {f:α→α→Bool} (h:∀ x,f x x=true):∀ xs,eqL f xs xs=true
 | []=>rfl
 | x::r=>by simp only [eqL,h,Aox h r,Bool.and_self]
theorem A4i (x:Int):eqI x x=true:=Ag rfl
theorem A4j (x:Bool):eqO x x=true:=by cases x<;>rfl
theorem A4k (x:Ab):eqS x x=true:=by unfold eqS; simp
theorem Agq:∀ (t:Ty) (x:t.D),eqB t x x=true
 | .int _,x=>A4i x
 | .bool,x=>A4j x
 | .str,x=>A4k x
 | .sl t,xs=>Aox (Agq t) xs
 | .unit,_=>rfl
 | .pair a b,x=>by
  show (eqB a x.1 x.1&&eqB b x.2 x.2)=true
  rw [Agq,Agq]
  rfl
theorem Aes {α E F:Type} (f:E→F) (p:α→Bool) (out:α→E) (ok:E):∀ l,f (Tf p out ok l)=Tf p (fun x=>f (out x)) (f ok) l
 | []=>rfl
 | x::r=>by
  simp only [Tf]
  cases p x with
  | true=>rfl
  | false=>exact Aes f p out ok r
theorem Aoy {α E:Type} {xs:List α} (z:α) (p:α→Bool) (out:α→E) {g:Nat→Int→Option E} {ok:E}
  (hs:∀ m (i:Nat),i < xs.length→g (m + 1) i=bif p (xs.getD i z) then some (out (xs.getD i z)) else g m ((i:Int) - 1))
  (he:∀ m,g (m + 1) (-1)=some ok):
  ∀ (m i:Nat),i≤xs.length→i < m→g m ((i:Int) - 1)=some (Tf p out ok (xs.take i).reverse)
 | 0,i,hi,hm=>by omega
 | m + 1,0,hi,hm=>by
  rw [show ((0:Nat):Int) - 1=-1 from rfl,he]
  rfl
 | m + 1,i + 1,hi,hm=>by
  have e:(((i + 1:Nat):Int) - 1)=(i:Int):=by omega
  have h:i < xs.length:=by omega
  have e2:(xs.take (i + 1)).reverse=xs.getD i z::(xs.take i).reverse:=by
   rw [List.take_add_one,List.getElem?_eq_getElem h,Option.toList_some,List.reverse_append,List.reverse_singleton]
   simp [List.getD,List.getElem?_eq_getElem h]
  rw [e,hs m i h,e2]
  simp only [Tf]
  cases p (xs.getD i z) with
  | true=>rfl
  | false=>rw [cond_false,cond_false,Aoy z p out hs he m i (by omega) (by omega)]
theorem Xr {α σ E:Type} {xs:List α} (z:α) (Inv:σ→Prop) (step:Nat→α→σ→σ) {g:Nat→Int→σ→Option E} {ok:σ→E}
  (hs:∀ m (i:Nat) s,i < xs.length→Inv s→g (m + 1) i s=g m ((i + 1:Nat):Int) (step i (xs.getD i z) s))
  (hi:∀ i s,i < xs.length→Inv s→Inv (step i (xs.getD i z) s))
  (he:∀ m s,Inv s→g (m + 1) (xs.length:Int) s=some (ok s)):
  ∀ (m i:Nat) s,i≤xs.length→xs.length - i < m→Inv s→g m i s=some (ok (F5 step i (xs.drop i) s))
 | 0,i,s,_,hm,_=>by omega
 | m + 1,i,s,hl,hm,hI=>by
  by_cases h:i < xs.length
  ·rw [hs m i s h hI,Xr z Inv step hs hi he m (i + 1) _ (by omega) (by omega) (hi i s h hI),Mi xs i z h]
   rfl
  ·have:i=xs.length:=by omega
   subst this
   rw [he _ _ hI,List.drop_length]
   rfl
theorem Aby {α σ:Type} (Inv:σ→Prop) (step:Nat→α→σ→σ):∀ (l:List α) (i:Nat) (s:σ),(∀ i s x,x∈l→Inv s→Inv (step i x s))→Inv s→Inv (F5 step i l s)
 | [],_,_,_,h=>h
 | x::r,i,s,hs,h=>Aby Inv step r (i + 1) _ (fun i s y hy=>hs i s y (List.mem_cons_of_mem _ hy)) (hs i s x (by simp) h)
theorem Atb {α σ:Type} (step:Nat→α→σ→σ):∀ (l:List α) (i:Nat) (s:σ) (x:α),F5 step i (l++[x]) s=step (i + l.length) x (F5 step i l s)
 | [],i,s,x=>rfl
 | y::r,i,s,x=>by
  show F5 step (i + 1) (r++[x]) _=_
  rw [Atb step r]
  show step (i + 1 + r.length) x _=step (i + (r.length + 1)) x _
  rw [show i + 1 + r.length=i + (r.length + 1) by omega]
  rfl
theorem Awv {α E:Type} {n:Nat} (f:Nat→α) {g:Nat→Int→List α→Option E} {ok:List α→E}
  (hs:∀ m (i:Nat) (r:List α),i < n→r.length=i→g (m + 1) i r=g m ((i + 1:Nat):Int) (r++[f i]))
  (he:∀ m r,g (m + 1) (n:Int) r=some (ok r)):
  ∀ (m i:Nat) (r:List α),i≤n→n - i < m→r.length=i→g m i r=some (ok (r++(List.range' i (n - i)).map f))
 | 0,i,r,_,hm,_=>by omega
 | m + 1,i,r,hl,hm,hr=>by
  by_cases h:i < n
  ·have e:n - i=(n - (i + 1)) + 1:=by omega
   rw [hs m i r h hr,Awv f hs he m (i + 1) _ (by omega) (by omega) (by simp [hr]),e,List.range'_succ,List.map_cons,List.append_assoc]
   rfl
  ·have:i=n:=by omega
   subst this
   rw [he,Nat.sub_self]
   simp
theorem Aky {α:Type} (x:α):∀ (n s:Nat),(List.range' s n).map (fun _=>x)=List.replicate n x
 | 0,_=>rfl
 | n + 1,s=>by rw [List.range'_succ,List.map_cons,Aky x n,List.replicate_succ]
theorem Xs {n:Nat} {p:Nat→Bool} (h:(List.range' 0 n).all p=true) (i:Nat) (hi:i < n):p i=true:=List.all_eq_true.1 h i (by simp [List.mem_range']; omega)
theorem C9 {s:Ab} {a b:Int} (h0:0≤a) (h1:a≤b) (h2:b≤(s.size:Int)):(Af s a b).size=(b - a).toNat:=by
 unfold Af
 rw [ByteArray.size_extract]
 omega
structure Fq (d:Dk):Prop where
 n8:8≤d.1.length
 n200:d.1.length≤200
 p300:d.2.1.length≤300
 sec:∀ i,i < d.1.length→(d.1.getD i z0).size=64
 pen:∀ i,i < d.2.1.length→0≤(d.2.1.getD i zW).1∧(d.2.1.getD i zW).1 < (d.1.length:Int)∧(d.2.1.getD i zW).2.1.size=64
theorem Ig {d:Dk} (h:As d=true):Fq d:=by
 obtain ⟨h1,h2⟩:=Cq h
 obtain ⟨h2,h3⟩:=Cq h2
 obtain ⟨h3,h4⟩:=Cq h3
 obtain ⟨k1,k2⟩:=Cq h1
 have k1:=Hm k1
 have k2:=Hm k2
 refine ⟨by omega,by omega,Hm h2,fun i hi=>Hm (Xs h3 i hi),fun i hi=>?_⟩
 obtain ⟨q1,q2⟩:=Cq (Xs h4 i hi)
 obtain ⟨q2,q3⟩:=Cq q2
 exact ⟨Hm q1,Hm q2,Hm q3⟩
theorem u9 {α:Type} {xs:List α} {x:α} (z:α) (h:x∈xs):∃ i,i < xs.length∧xs.getD i z=x:=by
 obtain ⟨i,hi,rfl⟩:=List.mem_iff_getElem.1 h
 exact ⟨i,hi,by simp [List.getD,List.getElem?_eq_getElem hi]⟩
theorem getD_set_ne {α:Type} {r:List α} {i j:Nat} {x z:α} (h:i≠j):(r.set i x).getD j z=r.getD j z:=by
 simp [List.getD,List.getElem?_set_ne h]
theorem Iz (sec:List Ab) (ws:List Wr):(Kz sec ws).length=sec.length:=
 Aby (fun s=>s.length=sec.length) _ ws 0 sec (fun i s w _ h=>by rw [List.length_set]; exact h) rfl
theorem Aww (sec:List Ab) (i:Nat) (hi:i < sec.length) (ws:List Wr) (h:∀ w∈ws,0≤w.1):
  (Kz sec ws).getD i z0=Tf (fun w=>w.1==(i:Int)) (fun w=>w.2.1) (sec.getD i z0) ws.reverse:=by
 have key:∀ (rs:List Wr),(∀ w∈rs,0≤w.1)→(Kz sec rs.reverse).getD i z0=Tf (fun w=>w.1==(i:Int)) (fun w=>w.2.1) (sec.getD i z0) rs:=by
  intro rs
  induction rs with
  | nil=>intro _; rfl
  | cons w r ih=>
   intro hr
   have ih:=ih (fun v hv=>hr v (List.mem_cons_of_mem _ hv))
   have h0:=hr w (by simp)
   rw [List.reverse_cons]
   unfold Kz at ih ⊢
   rw [Atb]
   simp only [Tf]
   have hlen:(F5 (fun _ (w:Wr) (s:List Ab)=>s.set w.1.toNat w.2.1) 0 r.reverse sec).length=sec.length:=Iz sec r.reverse
   by_cases q:w.1=(i:Int)
   ·have q2:w.1.toNat=i:=by omega
    rw [q2,M0 (by rw [hlen]; exact hi),q,beq_self_eq_true,cond_true]
   ·have q2:w.1.toNat≠i:=by omega
    rw [getD_set_ne q2,ih,show (w.1==(i:Int))=false from by simp [q],cond_false]
 have:=key ws.reverse (fun w hw=>h w (List.mem_reverse.1 hw))
 rwa [List.reverse_reverse] at this
theorem A8c (f:Int):(if (if f < 64 then f else 64) > 0 then (if f < 64 then f else 64) else 0)=Ls f:=by
 unfold Ls
 by_cases h1:f < 64<;>by_cases h2:f < 0<;>simp only [h1,h2,if_true,if_false]<;>(split<;>(try split)<;>omega)
theorem Agr (f:Int):0≤Ls f∧Ls f≤64:=by
 unfold Ls
 split
 ·omega
 ·split<;>omega
theorem Ss (f:List Int) (i:Nat):0≤Kn f i∧Kn f i≤64:=by
 unfold Kn
 split
 ·exact Agr _
 ·omega
theorem Ai9 {a b:Ab} {k:Int} (ha:a.size=64) (hb:b.size=64) (h0:0≤k) (h1:k≤64):(Arf a b k).size=64:=by
 unfold Arf
 rw [ByteArray.size_append,C9 (by omega) h0 (by omega),C9 h0 (by simp only [nI]; omega) (by simp [nI])]
 simp only [nI]
 omega
def Ags (n:Nat) (s:List Ab):Prop:=s.length=n∧∀ i,i < n→(s.getD i z0).size=64
theorem Ags.set {n:Nat} {s:List Ab} (h:Ags n s) {j:Nat} {x:Ab} (hx:x.size=64):Ags n (s.set j x):=by
 refine ⟨by rw [List.length_set]; exact h.1,fun i hi=>?_⟩
 by_cases q:j=i
 ·subst q
  rw [M0 (by rw [h.1]; exact hi)]
  exact hx
 ·rw [getD_set_ne q]
  exact h.2 i hi
def G9:(t:Ty)→t.D→Bool
 | .int _,_=>true
 | .bool,_=>true
 | .str,s=>decide (ByteArray.size s≤1073741824)
 | .sl t,xs=>decide (List.length xs≤1073741824)&&List.all xs (G9 t)
 | .unit,_=>true
 | .pair a b,x=>G9 a x.1&&G9 b x.2
theorem bi_ {α β:Type} {m:Option α} {f:α→Option β} {a:α} {r:Option β} (h:m=some a) (h2:f a=r):m.bind f=r:=by
 rw [h]; exact h2
theorem Xt {α:Type} {l:List α} {z:α} {P:α→Prop} (h:∀ i,i < l.length→P (l.getD i z)):∀ x∈l,P x:=by
 intro x hx
 obtain ⟨i,hi,rfl⟩:=List.mem_iff_getElem.1 hx
 have:=h i hi
 rw [List.getD_eq_getElem?_getD,List.getElem?_eq_getElem hi] at this
 exact this
theorem A19 (f:Int):0≤Ls f∧Ls f≤64:=by
 unfold Ls
 split
 ·omega
 ·split<;>omega
theorem Atc (f:List Int) (i:Nat):0≤Kn f i∧Kn f i≤64:=by
 unfold Kn
 split
 ·exact A19 _
 ·omega
abbrev tDk:Ty:=.pair (.sl .str) (.pair (.sl (.pair (.int .i64) (.pair .str .unit))) .unit)
theorem A6f {d:Dk} (h:As d=true) (f:List Int):Ags d.1.length (Akx f d.1 d.2.1):=by
 obtain ⟨k1,k2,k3,k4,k5⟩:=Ig h
 refine Aby (Ags d.1.length) _ d.2.1 0 d.1 (fun i s w hw hI=>?_) ⟨rfl,k4⟩
 obtain ⟨w0,w1,w2⟩:=Xt (P:=fun w:Wr=>0≤w.1∧w.1 < (d.1.length:Int)∧w.2.1.size=64) k5 w hw
 exact hI.set (Ai9 w2 (hI.2 _ (by omega)) (Atc f i).1 (Atc f i).2)
theorem Ac2 (a b:List Int):strOfNums (a++b)=strOfNums a++strOfNums b:=by
 unfold strOfNums
 rw [List.map_append]
 apply ByteArray.ext
 simp
theorem Da (a:List Int):(strOfNums a).size=a.length:=by
 unfold strOfNums
 show (List.toArray _).size=_
 simp
theorem Ao0 (v:Int):∀ n,(Zs v n).length=n
 | 0=>rfl
 | n + 1=>by simp only [Zs,Fg,Ao0 (v / 256) n,D9]
theorem M1 (v:Int) (n:Nat):(P8 v n).size=n:=by unfold P8; rw [Da,Ao0]
theorem Awx (v:Int) (out:Ab):P8 v 0++out=out:=by
 apply ByteArray.ext
 simp [P8,Zs,strOfNums]
theorem A4l (s:Ab):s++Ae=s:=by
 apply ByteArray.ext
 simp
theorem Awy (v:Int) (k:Nat):P8 v (k + 1)=P8 (v / 256) k++strOfNums [v % 256]:=by
 unfold P8
 rw [← Ac2]
 rfl
theorem N5 (s:Ab) (i:Int):0≤At s i∧At s i < 256:=by
 unfold At
 have:=(s.data.toList.getD i.toNat 0).toNat_lt
 omega
theorem A6g:∀ i:Nat,i < 7→(256:Int) ^ i≤281474976710656:=by decide
theorem A4m (s:Ab) (i:Nat) {k:Nat} {v:Int} (hi:i + (k + 1)=s.size) (hs:i < 7) (h0:0≤v) (h1:v < 256 ^ i):
  0≤v * 256 + At s i∧v * 256 + At s i < 256 ^ (i + 1)∧IntKind.wrap IntKind.i64 (IntKind.wrap IntKind.i64 (v * 256) + IntKind.wrap IntKind.i64 (At s i))=v * 256 + At s i:=by
 obtain ⟨b0,b1⟩:=N5 s i
 have hp:(256:Int) ^ (i + 1)=256 ^ i * 256:=Int.pow_succ _ _
 have hle:(256:Int) ^ i≤281474976710656:=A6g i hs
 refine ⟨by omega,by omega,?_⟩
 rw [Al (n:=v * 256) (by omega) (by omega),Al (n:=At s i) (by omega) (by omega),Al (by omega) (by omega)]
theorem Am9 {σ ρ:Type} (n:Nat) (Inv:Nat→σ→Prop) (step:Nat→σ→σ) {g:Nat→Nat→σ→Option ρ} {ok:σ→ρ}
  (hs:∀ m i s,i < n→Inv i s→g (m + 1) i s=g m (i + 1) (step i s)) (he:∀ m s,Inv n s→g (m + 1) n s=some (ok s))
  (hI:∀ i s,i < n→Inv i s→Inv (i + 1) (step i s)):∀ k m i s,i + k=n→k < m→Inv i s→g m i s=some (ok (iter step k i s))
 | 0,m + 1,i,s,hi,_,h=>by
  obtain rfl:i=n:=by omega
  exact he m s h
 | k + 1,m + 1,i,s,hi,hm,h=>by
  rw [hs m i s (by omega) h]
  exact Am9 n Inv step hs he hI k m (i + 1) _ (by omega) (by omega) (hI i s (by omega) h)
theorem Awz {σ:Type} (Inv:σ→Prop) (f:Nat→σ→σ) (hf:∀ i s,Inv s→Inv (f i s)):∀ k i s,Inv s→Inv (iter f k i s)
 | 0,_,_,h=>h
 | k + 1,i,s,h=>Awz Inv f hf k (i + 1) _ (hf i s h)
theorem wid (w:Int):(bif decide (w≥1) then some ((decide (w≤8),()),()) else some ((false,()),()))=(some ((Di w 1 8,()),()):Option ((Bool×Unit)×Unit)):=by
 unfold Di
 by_cases h:1≤w
 ·rw [Ag (show w≥1 from h)]; rfl
 ·rw [Bh (show ¬ w≥1 from h)]; rfl
theorem A7l (k:Int):IntKind.wrap IntKind.u64 k=k % 18446744073709551616:=by
 simp [IntKind.wrap,IntKind.bits,IntKind.signed]
def U64 (h:Int):Prop:=0≤h∧h < 18446744073709551616
theorem A6i (s:Ab) (k i:Nat) {h:Int} (hh:U64 h):U64 (Auu s k i h):=
 Awz U64 _ (fun i s _=>by unfold Aot; rw [A7l]; exact ⟨Int.emod_nonneg _ (by decide),Int.emod_lt_of_pos _ (by decide)⟩) k i h hh
theorem Abz {s:Ab} {w:Int} (h:Di w 1 8=true):(Auv s w).size=w.toNat:=by
 unfold Auv; rw [h]; exact M1 _ _
theorem Xu {p:Pg} {w:Int} (h:Hn p w=true):Di w 1 8=true∧1≤w∧w≤8∧(p.2.2.2.1.size:Int)≤56 - w:=by
 obtain ⟨h1,h2⟩:=Cq h
 obtain ⟨_,h2⟩:=Cq h2
 obtain ⟨_,h2⟩:=Cq h2
 obtain ⟨_,h2⟩:=Cq h2
 exact ⟨h1,Hm (Cq h1).1,Hm (Cq h1).2,Hm (Cq h2).1⟩
theorem Ec {v lo hi:Int} (h:Di v lo hi=true):lo≤v∧v≤hi:=⟨Hm (Cq h).1,Hm (Cq h).2⟩
theorem Agt {p:Pg} {w:Int} (h:Hn p w=true):(1≤p.1∧p.1≤4)∧(1≤p.2.1∧p.2.1≤60000)∧(1≤p.2.2.1∧p.2.2.1≤1000000000):=by
 obtain ⟨_,h2⟩:=Cq h
 obtain ⟨h3,h2⟩:=Cq h2
 obtain ⟨h4,h2⟩:=Cq h2
 obtain ⟨h5,h2⟩:=Cq h2
 exact ⟨Ec h3,Ec h4,Ec h5⟩
theorem Ao1 (x lo hi:Int) {ρ:Type} (f t:ρ):(bif decide (x < lo) then f else bif decide (x > hi) then f else t)=bif Di x lo hi then t else f:=by
 unfold Di
 by_cases h1:x < lo
 ·rw [Ag h1,Bh (show ¬ lo≤x by omega)]; rfl
 ·rw [Bh h1,Ag (show lo≤x by omega)]
  by_cases h2:x > hi
  ·rw [Ag h2,Bh (show ¬ x≤hi by omega)]; rfl
  ·rw [Bh h2,Ag (show x≤hi by omega)]; rfl
theorem A4n (s:Ab) (a b:Int):(Af s a b).size≤s.size:=by
 unfold Af
 rw [ByteArray.size_extract]
 omega
theorem Aw0 {α β:Type} (f:α→List β) (z:α) (xs:List α):∀ k i r,i + k=xs.length→iter (fun i r=>r++f (xs.getD i z)) k i r=r++((xs.drop i).map f).flatten
 | 0,i,r,h=>by
  rw [List.drop_eq_nil_of_le (by omega)]
  simp [iter]
 | k + 1,i,r,h=>by
  rw [Mi xs i z (by omega)]
  simp only [iter,List.map_cons,List.flatten_cons]
  rw [Aw0 f z xs k (i + 1) _ (by omega),List.append_assoc]
theorem Mj (a b:Ab):Ad (a++b)=Ad a++Ad b:=by
 unfold Ad
 simp
theorem Cy (s:Ab):(Ad s).length=s.size:=by
 unfold Ad
 rw [List.length_map]
 rfl
theorem P9 (l:List Int) (h:F4 l=true):Ad (strOfNums l)=l:=by
 unfold Ad strOfNums
 show (List.map _ (List.map _ l))=l
 rw [List.map_map]
 conv=>rhs; rw [← List.map_id l]
 refine List.map_congr_left fun x hx=>?_
 have:=List.all_eq_true.1 h x hx
 obtain ⟨h1,h2⟩:=Cq this
 have h1:=Hm h1
 have h2:=Hm h2
 show (((UInt8.ofNat x.toNat).toNat:Nat):Int)=x
 rw [UInt8.toNat_ofNat']
 rw [Nat.mod_eq_of_lt (by omega)]
 omega
theorem Sy (s:Ab):F4 (Ad s)=true:=by
 refine List.all_eq_true.2 fun x hx=>?_
 obtain ⟨b,_,rfl⟩:=List.mem_map.1 hx
 have:=b.toNat_lt
 show (decide (0≤(b.toNat:Int))&&decide ((b.toNat:Int) < 256))=true
 rw [Ag (by omega),Ag (by omega)]
 rfl
theorem G6 (a b:List Int):F4 (a++b)=(F4 a&&F4 b):=List.all_append
theorem Auw (n:Nat) (h:n < 256):F4 [nI n]=true:=by
 show ((decide (0≤nI n)&&decide (nI n < 256))&&true)=true
 rw [Ag (by simp only [nI]; omega),Ag (by simp only [nI]; omega)]
 rfl
theorem A7m (n:Nat) (h:n < 256):IntKind.wrap IntKind.u8 (nI n)=nI n:=by
 show nI n % 256=nI n
 simp only [nI]; omega
theorem Aja {c:Bp} (h:Te c=true):1≤c.1.size∧c.1.size≤20∧c.2.1.size≤100:=by
 obtain ⟨h1,h2⟩:=Cq h
 obtain ⟨h2,_⟩:=Cq h2
 have:=Ec h1
 have:=Hm h2
 omega
theorem Vr {c:Bp} (h:Te c=true):F4 (Zt c)=true∧(Zt c).length≤200:=by
 obtain ⟨k1,k2,k3⟩:=Aja h
 unfold Zt
 have a1:=Auw c.1.size (by omega)
 have a2:=Auw c.2.1.size (by omega)
 have b1:F4 [1,nI c.1.size]=true:=by
  rw [show [1,nI c.1.size]=[1]++[nI c.1.size] from rfl,G6,a1]; rfl
 have b0:F4 [0,nI c.1.size]=true:=by
  rw [show [0,nI c.1.size]=[0]++[nI c.1.size] from rfl,G6,a1]; rfl
 cases c.2.2.1
 ·simp only [cond_false,G6,b0,a2,Sy,Fg,Cy,List.length_cons,List.length_nil]
  exact ⟨rfl,by omega⟩
 ·simp only [cond_true,G6,b1,Sy,Fg,Cy,List.length_cons,List.length_nil]
  exact ⟨rfl,by omega⟩
theorem W4 {b:List Bp} (h:Bf b=true):b.length≤20∧∀ i,i < b.length→Te (b.getD i zC)=true:=by
 obtain ⟨h1,h2⟩:=Cq h
 refine ⟨by have:=(Ec h1).2; omega,fun i hi=>?_⟩
 exact List.all_eq_true.1 h2 i (List.mem_range'_1.2 ⟨by omega,by omega⟩)
def A0o (i:Nat) (r:List Int):Prop:=r.length≤200 * i∧F4 r=true
theorem A0o.step {i:Nat} {r:List Int} {c:Bp} (h:A0o i r) (hc:Te c=true):A0o (i + 1) (r++Zt c):=by
 obtain ⟨q1,q2⟩:=Vr hc
 exact ⟨by rw [Fg]; have:=h.1; omega,by rw [G6,h.2,q1]; rfl⟩
theorem Rc {a b:Ab} (h:Ad a=Ad b):a=b:=by
 apply ByteArray.ext
 apply Array.ext'
 unfold Ad at h
 exact (List.map_inj_right (fun x y e=>UInt8.toNat_inj.1 (by omega))).1 h
theorem Jy (s:Ab) (a b:Nat):Ad (Af s a b)=((Ad s).drop a).take (b - a):=by
 unfold Ad Af
 simp [List.map_drop,List.map_take]
theorem A0p {a b:Ab} (h:(a.toList==b.toList)=true):a=b:=by
 have h:=eq_of_beq h
 rw [ByteArray.toList_eq,ByteArray.toList_eq] at h
 apply ByteArray.ext
 exact Array.ext' h
theorem A4o {s:Ab} (h:Ad s=[]):s=Ae:=Rc h
theorem Agu {s:Ab} (h:0 < s.size):Ad s=At s 0::Ad (Af s 1 (nI s.size)):=by
 have hc:=Jy s 1 s.size
 have e:Af s 1 (nI s.size)=Af s ((1:Nat):Int) ((s.size:Nat):Int):=rfl
 rw [e,hc]
 have hl:=Cy s
 cases hb:Ad s with
 | nil=>rw [hb] at hl; simp at hl; omega
 | cons x r=>
  have hx:At s 0=x:=by
   unfold At
   unfold Ad at hb
   cases hd:s.data.toList with
   | nil=>rw [hd] at hb; simp at hb
   | cons y q=>rw [hd] at hb; simp at hb; simp [hb.1]
  rw [hx,List.drop_one,List.tail_cons,List.take_of_length_le]
  rw [hb] at hl
  simp at hl
  omega
theorem Akz {s:Ab} (h:(Bk s).2.2=true):Ad s=nI (Bk s).1.size::(Ad (Bk s).1++Ad (Bk s).2.1):=by
 unfold Bk at h ⊢
 split at h
 ·cases h
 ·rename_i hc
  rw [if_neg hc]
  obtain ⟨b0,b1⟩:=N5 s 0
  have h0:0 < s.size:=by omega
  rw [Agu h0]
  obtain ⟨n,hn⟩:∃ n:Nat,At s 0=(n:Int):=⟨(At s 0).toNat,by omega⟩
  have e1:(Af s 1 (1 + At s 0)).size=n:=by rw [C9 (by omega) (by omega) (by omega)]; omega
  simp only [e1]
  rw [hn]
  congr 1
  have q1:Af s 1 (nI s.size)=Af s ((1:Nat):Int) ((s.size:Nat):Int):=rfl
  have q2:Af s 1 (1 + (n:Int))=Af s ((1:Nat):Int) ((1 + n:Nat):Int):=by rw [show (1 + (n:Int))=((1 + n:Nat):Int) by omega]<;>rfl
  have q3:Af s (1 + (n:Int)) (nI s.size)=Af s ((1 + n:Nat):Int) ((s.size:Nat):Int):=by rw [show (1 + (n:Int))=((1 + n:Nat):Int) by omega]<;>rfl
  rw [q1,q2,q3,Jy,Jy,Jy]
  have hl:=Cy s
  rw [List.take_of_length_le (by rw [List.length_drop]; omega),show 1 + n - 1=n by omega,List.take_of_length_le (l:=List.drop (1 + n) (Ad s)) (by rw [List.length_drop]; omega),← List.drop_drop]
  exact (List.take_append_drop n _).symm
theorem Ti {s k t:Ab} (hk:k.size < 256) (h:Ad s=nI k.size::(Ad k++Ad t)):Bk s=(k,t,true):=by
 have hl:=Cy s
 have hlk:=Cy k
 have hlt:=Cy t
 rw [h,List.length_cons,Fg,hlk,hlt] at hl
 have h0:0 < s.size:=by omega
 have hh:=Agu h0
 rw [h] at hh
 have hb:At s 0=nI k.size:=(List.cons.inj hh).1.symm
 have ht:=(List.cons.inj hh).2
 unfold Bk
 rw [hb,if_neg (by simp only [nI]; omega)]
 have q1:Af s 1 (1 + nI k.size)=Af s ((1:Nat):Int) ((1 + k.size:Nat):Int):=by rw [show (1 + nI k.size)=((1 + k.size:Nat):Int) by simp only [nI]; omega]<;>rfl
 have q2:Af s (1 + nI k.size) (nI s.size)=Af s ((1 + k.size:Nat):Int) ((s.size:Nat):Int):=by rw [show (1 + nI k.size)=((1 + k.size:Nat):Int) by simp only [nI]; omega]<;>rfl
 have hd:(Ad s).drop 1=Ad k++Ad t:=by rw [h]; rfl
 have e1:Af s 1 (1 + nI k.size)=k:=by
  apply Rc
  rw [q1,Jy,hd,show 1 + k.size - 1=k.size by omega,List.take_append_of_le_length (by omega),List.take_of_length_le (by omega)]
 have e2:Af s (1 + nI k.size) (nI s.size)=t:=by
  apply Rc
  rw [q2,Jy,← List.drop_drop,hd,List.drop_append_of_le_length (by omega),List.drop_of_length_le (by omega),List.nil_append,List.take_of_length_le (by omega)]
 rw [e1,e2]
theorem Ay1 {s:Ab} (h0:0 < s.size) {c:Bp} {t:Ab} (h:Aou true s=some (c,t)):Ad s=Zt c++Ad t:=by
 unfold Aou at h
 rw [Agu h0]
 obtain ⟨b0,b1⟩:=N5 s 0
 by_cases g1:At s 0 > 1
 ·rw [Ag g1] at h; cases h
 ·rw [Bh g1] at h
  have hp:=@Akz (Af s 1 (nI s.size))
  generalize Bk (Af s 1 (nI s.size))=p at *
  obtain ⟨k,u,o⟩:=p
  cases o
  ·cases h
  ·rw [hp rfl]
   by_cases g2:At s 0=1
   ·rw [g2] at h ⊢
    cases h
    simp [Zt]
   ·have g3:At s 0=0:=by omega
    rw [g3] at h ⊢
    have hq:=@Akz u
    have h:(bif !(Bk u).2.2 then none else some ((k,(Bk u).1,false,()),(Bk u).2.1))=some (c,t):=h
    generalize Bk u=q at *
    obtain ⟨v,w,o⟩:=q
    cases o
    ·cases h
    ·cases h
     have:=hq rfl
     simp only at this ⊢
     rw [this]
     simp [Zt]
theorem Arh {s:Ab} {c:Bp} {t:Ab} (hc:Te c=true) (h:Ad s=Zt c++Ad t) (b:Bool):0 < s.size∧Aou b s=some (c,t):=by
 obtain ⟨k1,k2,k3⟩:=Aja hc
 obtain ⟨k,v,g,u⟩:=c
 have hl:=Cy s
 have h0:0 < s.size:=by
  rw [h,Fg] at hl
  unfold Zt at hl
  cases g<;>simp at hl<;>omega
 refine ⟨h0,?_⟩
 have hh:=Agu h0
 rw [h] at hh
 unfold Aou
 cases g
 ·have e:Zt (k,v,false,u)++Ad t=0::(nI k.size::(Ad k++(nI v.size::(Ad v++Ad t)))):=by simp [Zt]
  rw [e] at hh
  have hb:At s 0=0:=(List.cons.inj hh).1.symm
  have ht:=(List.cons.inj hh).2.symm
  have a2:=Auw v.size (by have:v.size≤100:=k3; omega)
  have ev:Ad (strOfNums (nI v.size::(Ad v++Ad t)))=nI v.size::(Ad v++Ad t):=P9 _ (by
   rw [show nI v.size::(Ad v++Ad t)=[nI v.size]++(Ad v++Ad t) from rfl,G6,G6,a2,Sy,Sy]; rfl)
  have p1:=Ti (s:=Af s 1 (nI s.size)) (k:=k) (t:=strOfNums (nI v.size::(Ad v++Ad t))) (by have:k.size≤20:=k2; omega) (by rw [ev]; exact ht)
  have p2:=Ti (s:=strOfNums (nI v.size::(Ad v++Ad t))) (k:=v) (t:=t) (by have:v.size≤100:=k3; omega) ev
  rw [p1,hb]
  show (bif b&&false then none else (bif !(Bk (strOfNums (nI v.size::(Ad v++Ad t)))).2.2 then none else some ((k,(Bk (strOfNums (nI v.size::(Ad v++Ad t)))).1,false,()),(Bk (strOfNums (nI v.size::(Ad v++Ad t)))).2.1)))=_
  rw [p2,Bool.and_false]
  rfl
 ·have hv:v=Ae:=by
   obtain ⟨_,h2⟩:=Cq hc
   obtain ⟨_,h2⟩:=Cq h2
   have h2:(!(true&&!(v.toList==[])))=true:=h2
   have h3:(v.toList==[])=true:=by cases hq:(v.toList==[])<;>rw [hq] at h2<;>first | rfl | cases h2
   have h3:=eq_of_beq h3
   rw [ByteArray.toList_eq] at h3
   apply ByteArray.ext
   exact Array.ext' h3
  subst hv
  have e:Zt (k,Ae,true,u)++Ad t=1::(nI k.size::(Ad k++Ad t)):=by simp [Zt]
  rw [e] at hh
  have hb:At s 0=1:=(List.cons.inj hh).1.symm
  have ht:=(List.cons.inj hh).2.symm
  have p1:=Ti (s:=Af s 1 (nI s.size)) (k:=k) (t:=t) (by have:k.size≤20:=k2; omega) ht
  rw [p1,hb]
  cases b<;>rfl
theorem Ak0:∀ (f:Nat) (r:List Bp) (s:Ab) {b:List Bp} {t:Ab},Rb true f r s=some (b,t)→∃ cs,b=r++cs∧Ad s=Im cs++Ad t
 | 0,r,s,b,t,h=>by
  cases h
  exact ⟨[],by simp,by simp [Im]⟩
 | f + 1,r,s,b,t,h=>by
  unfold Rb at h
  by_cases q:(decide (s.size > 0)&&decide (r.length≤20))=true
  ·rw [q] at h
   have h0:=Hm (Cq q).1
   cases hs:Aou true s with
   | none=>rw [hs] at h; cases h
   | some ct=>
    obtain ⟨c,u⟩:=ct
    rw [hs] at h
    obtain ⟨cs,e1,e2⟩:=Ak0 f (r++[c]) u h
    refine ⟨c::cs,by rw [e1,List.append_assoc]; rfl,?_⟩
    rw [Ay1 h0 hs,e2]
    simp [Im]
  ·rw [Bool.eq_false_iff.2 q] at h
   cases h
   exact ⟨[],by simp,by simp [Im]⟩
theorem Tj (strict:Bool):∀ (cs:List Bp) (f:Nat) (r:List Bp) (s:Ab),cs.length < f→r.length + cs.length≤20→(∀ c∈cs,Te c=true)→Ad s=Im cs→Rb strict f r s=some (r++cs,Ae)
 | [],f + 1,r,s,_,_,_,h=>by
  have hz:=A4o (s:=s) h
  subst hz
  rw [List.append_nil]
  rfl
 | c::cs,f + 1,r,s,hf,hr,hok,h=>by
  have hb:Ad (strOfNums (Im cs))=Im cs:=P9 _ (List.all_eq_true.2 fun x hx=>by
   obtain ⟨l,hl,hx⟩:=List.mem_flatten.1 hx
   obtain ⟨d,hd,rfl⟩:=List.mem_map.1 hl
   exact List.all_eq_true.1 (Vr (hok d (List.mem_cons_of_mem _ hd))).1 x hx)
  obtain ⟨h0,hs⟩:=Arh (s:=s) (c:=c) (t:=strOfNums (Im cs)) (hok c (by simp)) (by rw [hb,h]; rfl) strict
  unfold Rb
  rw [hs,Ag (show s.size > 0 from h0),Ag (show r.length≤20 by rw [List.length_cons] at hr; omega)]
  have ih:=Tj strict cs f (r++[c]) (strOfNums (Im cs)) (by rw [List.length_cons] at hf; omega) (by rw [Fg,D9]; rw [List.length_cons] at hr; omega) (fun d hd=>hok d (List.mem_cons_of_mem _ hd)) hb
  rw [List.append_assoc] at ih
  exact ih
theorem Ay2 (s:Ab):strOfNums (Ad s)=s:=Rc (P9 _ (Sy s))
theorem A2a {b:List Bp} (h:∀ c∈b,Te c=true):F4 (Im b)=true:=List.all_eq_true.2 fun x hx=>by
 obtain ⟨l,hl,hx⟩:=List.mem_flatten.1 hx
 obtain ⟨d,hd,rfl⟩:=List.mem_map.1 hl
 exact List.all_eq_true.1 (Vr (h d hd)).1 x hx
theorem Ajb {b:List Bp} (h:Bf b=true):1≤b.length∧b.length≤20∧∀ c∈b,Te c=true:=by
 obtain ⟨h1,h2⟩:=W4 h
 refine ⟨by have:=(Ec (Cq h).1).1; omega,h1,Xt (z:=zC) (P:=fun c=>Te c=true) h2⟩
theorem A0q {s:Ab} {b:List Bp} (hv:Bf b=true) (hs:Ad s=Im b):Ms s=(b,true)∧Aov s=(b,true):=by
 obtain ⟨h1,h2,h3⟩:=Ajb hv
 have p1:=Tj true b 22 [] s (by omega) (by simpa using h2) h3 hs
 have p2:=Tj false b 22 [] s (by omega) (by simpa using h2) h3 hs
 have hf:Fi b=s:=by
  unfold Fi
  rw [hv,← hs,cond_true,Ay2]
 have hz:(s.size==0)=false:=by
  refine beq_eq_false_iff_ne.2 fun q=>?_
  cases b with
  | nil=>simp at h1
  | cons c r=>
   have:=Cy s
   rw [q,hs] at this
   unfold Im Zt at this
   cases hg:c.2.2.1<;>simp [hg] at this
 unfold Ms Aov
 rw [p1,p2]
 simp only [List.nil_append]
 rw [hv,hf,hz,beq_self_eq_true]
 exact ⟨rfl,rfl⟩
theorem A0r {s:Ab} (h:∀ b,Bf b=true→Ad s≠Im b):Ms s=([],false)∧Aov s=([],false):=by
 constructor
 ·unfold Ms
  cases hp:Rb true 22 [] s with
  | none=>rfl
  | some bt=>
   obtain ⟨b,t⟩:=bt
   simp only
   obtain ⟨cs,e1,e2⟩:=Ak0 22 [] s hp
   rw [List.nil_append] at e1
   subst e1
   by_cases ht:t.size > 0
   ·rw [Ag ht]; rfl
   ·cases hv:Bf b with
    | false=>rw [Bool.not_false,Bool.or_true]; rfl
    | true=>
     have h0:Ad t=[]:=List.length_eq_zero_iff.1 (by rw [Cy]; omega)
     rw [h0,List.append_nil] at e2
     exact absurd e2 (h b hv)
 ·unfold Aov
  cases hp:Rb false 22 [] s with
  | none=>rfl
  | some bt=>
   obtain ⟨b,t⟩:=bt
   simp only
   by_cases hz:s.size=0
   ·rw [hz]; rfl
   ·rw [beq_eq_false_iff_ne.2 hz,Bool.false_or]
    cases he:((Fi b).toList==s.toList) with
    | false=>rfl
    | true=>
     have e:=A0p he
     cases hv:Bf b with
     | false=>
      unfold Fi at e
      rw [hv] at e
      subst e
      exact absurd rfl hz
     | true=>
      unfold Fi at e
      rw [hv] at e
      have e:strOfNums (Im b)=s:=e
      have:=congrArg Ad e
      rw [P9 _ (A2a (Ajb hv).2.2)] at this
      exact absurd this.symm (h b hv)
theorem A2b (s:Ab):Aov s=Ms s:=by
 by_cases h:∃ b,Bf b=true∧Ad s=Im b
 ·obtain ⟨b,h1,h2⟩:=h
  rw [(A0q h1 h2).1,(A0q h1 h2).2]
 ·have h':∀ b,Bf b=true→Ad s≠Im b:=fun b h1 h2=>h ⟨b,h1,h2⟩
  rw [(A0r h').1,(A0r h').2]
def All (v b:Int):Int:=v * 256 + b
theorem Zu (s:Ab) (i:Nat):At s i=(Ad s).getD i 0:=by
 unfold At Ad
 simp only [Jh,List.getD_eq_getElem?_getD,List.getElem?_map]
 cases s.data.toList[i]? <;> rfl
theorem Aw1 (s:Ab):∀ k i v,i + k=s.size→A0l s k i v=((Ad s).drop i).foldl All v
 | 0,i,v,h=>by rw [List.drop_of_length_le (by rw [Cy]; omega)]; rfl
 | k + 1,i,v,h=>by
  rw [Mi (Ad s) i 0 (by rw [Cy]; omega),List.foldl_cons,← Zu]
  exact Aw1 s k (i + 1) _ (by omega)
theorem A0s (s:Ab):Ai8 s=(Ad s).foldl All 0:=by
 unfold Ai8
 rw [Aw1 s s.size 0 0 (by omega),List.drop_zero]
theorem Aw2 (v:Int):∀ (n:Nat) (l:List Int),l.length=n→F4 l=true→Zs (l.foldl All v) n=l
 | 0,l,h,_=>by rw [List.length_eq_zero_iff.1 h]; rfl
 | n + 1,l,h,ha=>by
  obtain ⟨q,b,rfl⟩:∃ q b,l=q++[b]:=⟨l.dropLast,l.getLast (by intro e; subst e; simp at h),(List.dropLast_concat_getLast _).symm⟩
  rw [G6] at ha
  obtain ⟨h1,h2⟩:=Cq ha
  have hb:0≤b∧b < 256:=by
   have:=List.all_eq_true.1 h2 b (by simp)
   exact ⟨Hm (Cq this).1,Hm (Cq this).2⟩
  rw [List.foldl_append]
  simp only [List.foldl_cons,List.foldl_nil,Zs]
  have e1:All (q.foldl All v) b / 256=q.foldl All v:=by unfold All; omega
  have e2:All (q.foldl All v) b % 256=b:=by unfold All; omega
  rw [e1,e2,Aw2 v n q (by simpa using h) h1]
theorem Aw3:∀ (n:Nat) (v:Int),0≤v→v < 256 ^ n→(Zs v n).foldl All 0=v
 | 0,v,h0,h1=>by
  have:v < 1:=h1
  show (0:Int)=v
  omega
 | n + 1,v,h0,h1=>by
  have hp:(256:Int) ^ (n + 1)=256 ^ n * 256:=Int.pow_succ _ _
  simp only [Zs,List.foldl_append,List.foldl_cons,List.foldl_nil]
  rw [Aw3 n (v / 256) (by omega) (by omega)]
  unfold All
  omega
theorem Aw4:∀ (n:Nat) (v:Int),F4 (Zs v n)=true
 | 0,_=>rfl
 | n + 1,v=>by
  simp only [Zs,G6,Aw4 n]
  show (true&&((decide (0≤v % 256)&&decide (v % 256 < 256))&&true))=true
  rw [Ag (by omega),Ag (by omega)]
  rfl
theorem Mk (v:Int) (n:Nat):Ad (P8 v n)=Zs v n:=P9 _ (Aw4 n v)
theorem Aw5 {v:Int} {n:Nat} (h0:0≤v) (h1:v < 256 ^ n):Ai8 (P8 v n)=v:=by rw [A0s,Mk,Aw3 n v h0 h1]
theorem A4p (s:Ab):P8 (Ai8 s) s.size=s:=by
 apply Rc
 rw [Mk,A0s]
 exact Aw2 0 s.size _ (Cy s) (Sy s)
theorem A2c (n:Nat):F4 (List.replicate n 0)=true:=List.all_eq_true.2 fun x hx=>by
 rw [List.eq_of_mem_replicate hx]; rfl
theorem Aet (p:Pg) (w:Int):Ad (Iy p w)=Zs p.1 1++(Zs p.2.1 2++(Zs p.2.2.1 4++(Zs p.2.2.2.1.size 1++(Ad p.2.2.2.1++List.replicate (56 - w - p.2.2.2.1.size).toNat 0)))):=by
 unfold Iy
 rw [Mj,Mj,Mj,Mj,Mj,Mk,Mk,Mk,Mk,P9 _ (A2c _)]
 simp only [List.append_assoc]
theorem Atd {p:Pg} {w:Int} (h:Hn p w=true):(Iy p w).size=(64 - w).toNat:=by
 obtain ⟨hw,k1,k2,kp⟩:=Xu h
 rw [← Cy,Aet]
 simp only [Fg,Ao0,Cy,List.length_replicate]
 omega
theorem Ao2 {p:Pg} {w:Int} (h:Hn p w=true):(C6 p w).size=64∧Af (C6 p w) w (nI (C6 p w).size)=Iy p w:=by
 obtain ⟨hw,k1,k2,kp⟩:=Xu h
 have e:C6 p w=Auv (Iy p w) w++Iy p w:=by unfold C6; rw [h]; rfl
 have hs:(C6 p w).size=64:=by rw [e,ByteArray.size_append,Abz hw,Atd h]; omega
 refine ⟨hs,?_⟩
 obtain ⟨n,rfl⟩:∃ n:Nat,w=(n:Int):=⟨w.toNat,by omega⟩
 apply Rc
 have q:Af (C6 p n) n (nI (C6 p n).size)=Af (C6 p n) (n:Nat) ((64:Nat):Int):=by rw [hs]<;>rfl
 rw [q,Jy,e,Mj,List.drop_append_of_le_length (by rw [Cy,Abz hw]; omega),List.drop_of_length_le (by rw [Cy,Abz hw]; omega),List.nil_append,List.take_of_length_le (by rw [Cy,Atd h]; omega)]
theorem A4q {p:Pg} {w:Int} (h:Hn p w=true):A4h (Iy p w)=p:=by
 obtain ⟨hw,k1,k2,kp⟩:=Xu h
 obtain ⟨r1,r2,r3⟩:=Agt h
 have hb:=Aet p w
 have d1:∀ v:Int,Zs v 1=[v % 256]:=fun v=>rfl
 have d2:∀ v:Int,Zs v 2=[v / 256 % 256,v % 256]:=fun v=>rfl
 have d4:∀ v:Int,Zs v 4=[v / 256 / 256 / 256 % 256,v / 256 / 256 % 256,v / 256 % 256,v % 256]:=fun v=>rfl
 have b7:At (Iy p w) 7=p.2.2.2.1.size:=by
  have:=Zu (Iy p w) 7
  rw [hb,d1,d2,d4,d1] at this
  refine this.trans ?_
  show (p.2.2.2.1.size:Int) % 256=_
  omega
 have b0:At (Iy p w) 0=p.1:=by
  have:=Zu (Iy p w) 0
  rw [hb,d1] at this
  refine this.trans ?_
  show p.1 % 256=_
  omega
 have c1:Af (Iy p w) 1 3=P8 p.2.1 2:=by
  apply Rc
  have:=Jy (Iy p w) 1 3
  rw [hb,d1,d2,d4,d1] at this
  exact this.trans (by rw [Mk,d2]; rfl)
 have c3:Af (Iy p w) 3 7=P8 p.2.2.1 4:=by
  apply Rc
  have:=Jy (Iy p w) 3 7
  rw [hb,d1,d2,d4,d1] at this
  exact this.trans (by rw [Mk,d4]; rfl)
 have c8:Af (Iy p w) 8 (8 + (p.2.2.2.1.size:Int))=p.2.2.2.1:=by
  apply Rc
  have:=Jy (Iy p w) 8 (8 + p.2.2.2.1.size)
  rw [hb,d1,d2,d4,d1] at this
  refine this.trans ?_
  show List.take (8 + p.2.2.2.1.size - 8) (Ad p.2.2.2.1++_)=_
  rw [show 8 + p.2.2.2.1.size - 8=p.2.2.2.1.size by omega,List.take_append_of_le_length (by rw [Cy]; omega),List.take_of_length_le (by rw [Cy]; omega)]
 have p2:(256:Int) ^ 2=65536:=by decide
 have p4:(256:Int) ^ 4=4294967296:=by decide
 unfold A4h
 rw [b7,b0,c1,c3,c8,Aw5 (by omega) (by omega),Aw5 (by omega) (by omega)]
theorem Sz {p:Pg} {w:Int} (h:Hn p w=true):Ch (C6 p w) w=(p,true):=by
 obtain ⟨hw,k1,k2,kp⟩:=Xu h
 obtain ⟨hs,ht⟩:=Ao2 h
 have hr:=A4q h
 have b7:At (Iy p w) 7=p.2.2.2.1.size:=by
  have:=Zu (Iy p w) 7
  rw [Aet] at this
  refine this.trans ?_
  show (p.2.2.2.1.size:Int) % 256=_
  omega
 unfold Ch A17
 rw [ht,hr,hw,hs,b7,beq_self_eq_true,Bh (by omega)]
 rfl
theorem Tk {s:Ab} {w:Int} {p:Pg} (h:Ch s w=(p,true)):s.size=64∧Di w 1 8=true∧C6 p w=s∧Hn p w=true:=by
 unfold Ch at h
 cases h1:(nI s.size != 64) with
 | true=>rw [h1] at h; cases h
 | false=>
  cases h2:Di w 1 8 with
  | false=>rw [h1,h2] at h; cases h
  | true=>
   cases h3:decide (At (Af s w (nI s.size)) 7 > 56 - w) with
   | true=>rw [h1,h2,h3] at h; cases h
   | false=>
    cases h4:((C6 (A17 s w) w).toList==s.toList) with
    | false=>rw [h1,h2,h3,h4] at h; cases h
    | true=>
     rw [h1,h2,h3,h4] at h
     have e:A17 s w=p:=congrArg Prod.fst h
     rw [e] at h4
     have e2:=A0p h4
     have hs:s.size=64:=by
      by_cases q:nI s.size=64
      ·simp only [nI] at q; omega
      ·rw [(bne_iff_ne).2 q] at h1; cases h1
     refine ⟨hs,rfl,e2,?_⟩
     cases hp:Hn p w with
     | true=>rfl
     | false=>
      unfold C6 at e2
      rw [hp] at e2
      subst e2
      cases hs
theorem A2d {s:Ab} {w:Int} {p:Pg} (h:Ch s w=(p,true)) (h5:p.2.2.2.1.size=5):
  ((Xp (Mu p) w).toList==s.toList)=((p.1==4)&&Tg (Mu p)):=by
 obtain ⟨hs,hw,hf,hp⟩:=Tk h
 cases hr:Tg (Mu p) with
 | false=>
  rw [Bool.and_false]
  cases q:((Xp (Mu p) w).toList==s.toList) with
  | false=>rfl
  | true=>
   have e:=A0p q
   unfold Xp at e
   rw [hr] at e
   subst e
   cases hs
 | true=>
  rw [Bool.and_true]
  have hpart:P8 (Mu p).2.1 1++P8 (Mu p).2.2.1 4=p.2.2.2.1:=by
   apply Rc
   have e4:(Af p.2.2.2.1 1 (nI p.2.2.2.1.size)).size=4:=by rw [C9 (by omega) (by simp only [nI]; omega) (by simp [nI])]; simp only [nI,h5]; decide
   have e5:P8 (Ai8 (Af p.2.2.2.1 1 (nI p.2.2.2.1.size))) 4=Af p.2.2.2.1 1 (nI p.2.2.2.1.size):=by
    have:=A4p (Af p.2.2.2.1 1 (nI p.2.2.2.1.size))
    rw [e4] at this
    exact this
   show Ad (P8 (At p.2.2.2.1 0) 1++P8 (Ai8 (Af p.2.2.2.1 1 (nI p.2.2.2.1.size))) 4)=_
   obtain ⟨b0,b1⟩:=N5 p.2.2.2.1 0
   rw [e5,Mj,Mk,Agu (s:=p.2.2.2.1) (by omega)]
   show [At p.2.2.2.1 0 % 256]++_=_
   rw [show At p.2.2.2.1 0 % 256=At p.2.2.2.1 0 by omega]
   rfl
  have hR:Xp (Mu p) w=C6 (4,p.2.1,p.2.2.1,p.2.2.2.1,()) w:=by
   unfold Xp
   rw [hr,hpart]
   rfl
  rw [hR]
  by_cases hk:p.1=4
  ·have e:((4,p.2.1,p.2.2.1,p.2.2.2.1,()):Pg)=p:=by rw [← hk]
   rw [e,hf,hk,beq_self_eq_true]
   rfl
  ·rw [beq_eq_false_iff_ne.2 hk]
   cases q:((C6 (4,p.2.1,p.2.2.1,p.2.2.2.1,()) w).toList==s.toList) with
   | false=>rfl
   | true=>
    have e:=A0p q
    cases ho:Hn (4,p.2.1,p.2.2.1,p.2.2.2.1,()) w with
    | false=>
     unfold C6 at e
     rw [ho] at e
     subst e
     cases hs
    | true=>
     have r:=Sz ho
     rw [e,h] at r
     exact absurd (congrArg (fun x:Pg×Bool=>x.1.1) r) hk
theorem A2e {a n:Int} (hn:0 < n):(a + n - 1) / n=1 + (a - n + n - 1) / n:=by
 have:a + n - 1=(a - n + n - 1) + n * 1:=by omega
 rw [this,Int.add_mul_ediv_left _ _ (by omega)]
 omega
theorem Ate (n:Nat) (hn:1≤n):∀ (f:Nat) (s:Ab),s.size≤f→((If n f s).length:Int)=if ((s.size:Int) + n - 1) / n > 1 then ((s.size:Int) + n - 1) / n else 1
 | 0,s,h=>by
  have h0:s.size=0:=by omega
  simp only [If,h0]
  have:(((0:Nat):Int) + n - 1) / n=0:=Int.ediv_eq_zero_of_lt (by omega) (by omega)
  exact (if_neg (by rw [this]; decide)).symm
 | f + 1,s,h=>by
  by_cases q:s.size > n
  ·have hc:(Af s n (nI s.size)).size=s.size - n:=by rw [C9 (by omega) (by simp only [nI]; omega) (by simp [nI])]; simp only [nI]; omega
   simp only [If,if_pos q,List.length_cons]
   have ih:=Ate n hn f (Af s n (nI s.size)) (by omega)
   rw [hc] at ih
   have e:=A2e (a:=s.size) (n:=n) (by omega)
   have e2:((s.size - n:Nat):Int)=(s.size:Int) - n:=by omega
   rw [e2] at ih
   have hp:1≤((s.size:Int) - n + n - 1) / n:=by
    rw [Int.le_ediv_iff_mul_le (by omega)]
    omega
   rw [e]
   generalize ((s.size:Int) - n + n - 1) / n=y at *
   rw [if_pos (by omega)]
   split at ih<;>omega
  ·simp only [If,if_neg q]
   have:((s.size:Int) + n - 1) / n < 2:=by
    rw [Int.ediv_lt_iff_lt_mul (by omega)]
    omega
   exact (if_neg (by omega)).symm
theorem Zv {s:Ab} {w:Int} (hw:Di w 1 8=true):((A8 s w).length:Int)=if ((s.size:Int) + (56 - w) - 1) / (56 - w) > 1 then ((s.size:Int) + (56 - w) - 1) / (56 - w) else 1:=by
 obtain ⟨h1,h2⟩:=Ec hw
 obtain ⟨n,hn⟩:∃ n:Nat,56 - w=(n:Int):=⟨(56 - w).toNat,by omega⟩
 unfold A8
 rw [hn,Jh]
 exact Ate n (by omega) s.size s (Nat.le_refl _)
theorem Vs (life w:Int):∀ (L:List Ab) (k:Int),Ps life w k L=(List.range' 0 L.length).map (fun i=>C6 ((if i + 1=L.length then 2 else 1),life,k + (i:Int),L.getD i z0,()) w)
 | [],k=>rfl
 | [p],k=>by
  show [C6 (2,life,k,p,()) w]=[C6 ((if 0 + 1=1 then 2 else 1),life,k + ((0:Nat):Int),p,()) w]
  rw [if_pos rfl,show k + ((0:Nat):Int)=k by omega]
 | p::q::r,k=>by
  have ih:=Vs life w (q::r) (k + 1)
  show C6 (1,life,k,p,()) w::Ps life w (k + 1) (q::r)=(List.range' 0 ((q::r).length + 1)).map (fun i=>C6 ((if i + 1=(q::r).length + 1 then 2 else 1),life,k + (i:Int),(p::q::r).getD i z0,()) w)
  rw [ih,List.range'_succ,List.map_cons]
  congr 1
  ·rw [if_neg (by rw [List.length_cons]; omega),show k + ((0:Nat):Int)=k by omega]
   rfl
  ·rw [show List.range' (0 + 1) (q::r).length=List.map (fun x=>1 + x) (List.range' 0 (q::r).length) by rw [List.map_add_range'],List.map_map]
   refine List.map_congr_left fun i _=>?_
   show _=C6 ((if 1 + i + 1=(q::r).length + 1 then 2 else 1),life,k + ((1 + i:Nat):Int),(p::q::r).getD (1 + i) z0,()) w
   rw [show k + ((1 + i:Nat):Int)=k + 1 + (i:Int) by omega,show 1 + i=i + 1 by omega]
   by_cases e:i + 1=(q::r).length
   ·rw [if_pos e,if_pos (by omega)]; rfl
   ·rw [if_neg e,if_neg (by omega)]; rfl
theorem Atf {β:Type} (g:Nat→β):∀ k i (r:List β),iter (fun i r=>r++[g i]) k i r=r++(List.range' i k).map g
 | 0,i,r=>by simp [iter]
 | k + 1,i,r=>by
  simp only [iter]
  rw [Atf g k (i + 1),List.range'_succ,List.map_cons,List.append_assoc]
  rfl
theorem Zw (p:Pg) (w:Int):(C6 p w).size≤64:=by
 cases h:Hn p w with
 | true=>rw [(Ao2 h).1]; exact Nat.le_refl _
 | false=>unfold C6; rw [h]; show (Ae).size≤64; decide
theorem Aeu (life w:Int):∀ (L:List Ab) (k:Int),(Ps life w k L).length=L.length∧∀ x∈Ps life w k L,x.size≤64:=by
 intro L k
 rw [Vs]
 refine ⟨by simp,fun x hx=>?_⟩
 obtain ⟨i,_,rfl⟩:=List.mem_map.1 hx
 exact Zw _ _
theorem Fq.sync {d:Dk} (h:Fq d):Fq (Mt d):=by
 have hl:=Iz d.1 d.2.1
 have hs:Ags d.1.length (Kz d.1 d.2.1):=Aby (Ags d.1.length) _ d.2.1 0 d.1 (fun i s w hw hI=>hI.set (Xt (z:=zW) (P:=fun w:Wr=>w.2.1.size=64) (fun i hi=>(h.pen i hi).2.2) w hw)) ⟨rfl,h.sec⟩
 exact ⟨by show 8≤(Kz d.1 d.2.1).length; rw [hl]; exact h.n8,by show (Kz d.1 d.2.1).length≤200; rw [hl]; exact h.n200,by show (0:Nat)≤300; omega,fun i hi=>hs.2 i (by rw [← hl]; exact hi),fun i hi=>absurd hi (by show ¬ i < 0; omega)⟩
theorem Fq.op {d:Dk} (h:Fq d) (o:D5):Fq (opS d o):=by
 unfold opS
 cases o.1 with
 | true=>exact h.sync
 | false=>
  cases hc:Ab8 d.1.length (o.2.1,o.2.2.1,())&&decide (d.2.1.length < 300) with
  | false=>exact h
  | true=>
   obtain ⟨h1,h2⟩:=Cq hc
   obtain ⟨q1,q2⟩:=Cq h1
   obtain ⟨q2,q3⟩:=Cq q2
   have h2:=Hm h2
   refine ⟨h.n8,h.n200,by show (d.2.1++[(o.2.1,o.2.2.1,())]).length≤300; rw [Fg,D9]; omega,h.sec,fun i hi=>?_⟩
   have hi:i < d.2.1.length + 1:=by
    have hi:i < (d.2.1++[(o.2.1,o.2.2.1,())]).length:=hi
    rw [Fg,D9] at hi
    exact hi
   show 0≤((d.2.1++[(o.2.1,o.2.2.1,())]).getD i zW).1∧((d.2.1++[(o.2.1,o.2.2.1,())]).getD i zW).1 < (d.1.length:Int)∧((d.2.1++[(o.2.1,o.2.2.1,())]).getD i zW).2.1.size=64
   by_cases e:i < d.2.1.length
   ·have:(d.2.1++[(o.2.1,o.2.2.1,())]).getD i zW=d.2.1.getD i zW:=by
     rw [List.getD_eq_getElem?_getD,List.getElem?_append_left e,← List.getD_eq_getElem?_getD]
    rw [this]
    exact h.pen i e
   ·obtain rfl:i=d.2.1.length:=by omega
    have:(d.2.1++[(o.2.1,o.2.2.1,())]).getD d.2.1.length zW=(o.2.1,o.2.2.1,()):=by
     rw [List.getD_eq_getElem?_getD,List.getElem?_append_right (Nat.le_refl _),Nat.sub_self]
     rfl
    rw [this]
    exact ⟨Hm q1,Hm q2,Hm q3⟩
theorem Fq.ops:∀ (l:List D5) {d:Dk},Fq d→Fq (l.foldl opS d)
 | [],_,h=>h
 | o::r,_,h=>Fq.ops r (h.op o)
theorem Fq.good {d:Dk} (h:Fq d):G9 tDk d=true:=by
 show ((decide (d.1.length≤1073741824)&&List.all d.1 (fun x=>decide (ByteArray.size x≤1073741824)))&&((decide (d.2.1.length≤1073741824)&&List.all d.2.1 (fun w=>true&&(decide (ByteArray.size w.2.1≤1073741824)&&true)))&&true))=true
 have h1:List.all d.1 (fun x=>decide (ByteArray.size x≤1073741824))=true:=List.all_eq_true.2 (Xt (z:=z0) fun i hi=>Ag (by rw [h.sec i hi]; decide))
 have h2:List.all d.2.1 (fun w=>true&&(decide (ByteArray.size w.2.1≤1073741824)&&true))=true:=List.all_eq_true.2 (Xt (z:=zW) fun i hi=>by rw [(h.pen i hi).2.2]; rfl)
 rw [h1,h2,Ag (by have:=h.n200; omega),Ag (by have:=h.p300; omega)]
 rfl
theorem Ak1 (n:Nat):∀ (f:Nat) (s:Ab),(If n f s).length≤f + 1
 | 0,s=>by simp [If]
 | f + 1,s=>by
  unfold If
  split
  ·rw [List.length_cons]
   have:=Ak1 n f (Af s n (nI s.size))
   omega
  ·simp
end Go.Proofs.Ytfkefgbihlfjmaa.V
namespace Go.Proofs
open Go.Shelf
namespace Ytfkefgbihlfjmaa.R
open Go Go.RowKit
end Ytfkefgbihlfjmaa.R
end Go.Proofs
namespace Go.Proofs.Ytfkefgbihlfjmaa.V
open Go Go.Proofs.Ytfkefgbihlfjmaa.R
theorem Jl {α σ E:Type} {xs:List α} (z:α) (Inv:Nat→σ→Prop) (step:Nat→α→σ→σ) {g:Nat→Int→σ→Option E} {ok:σ→E}
  (hs:∀ m (i:Nat) s,i < xs.length→Inv i s→g (m + 1) i s=g m ((i + 1:Nat):Int) (step i (xs.getD i z) s))
  (hi:∀ i s,i < xs.length→Inv i s→Inv (i + 1) (step i (xs.getD i z) s))
  (he:∀ m s,Inv xs.length s→g (m + 1) (xs.length:Int) s=some (ok s)):
  ∀ (m i:Nat) s,i≤xs.length→xs.length - i < m→Inv i s→g m i s=some (ok (F5 step i (xs.drop i) s))
 | 0,i,s,_,hm,_=>by omega
 | m + 1,i,s,hl,hm,hI=>by
  by_cases h:i < xs.length
  ·rw [hs m i s h hI,Jl z Inv step hs hi he m (i + 1) _ (by omega) (by omega) (hi i s h hI),Mi xs i z h]
   rfl
  ·have:i=xs.length:=by omega
   subst this
   rw [he _ _ hI,List.drop_length]
   rfl
theorem A4r (n:Nat) (h:n < 1099511627776):IntKind.wrap IntKind.i64 (nI (n + 1) - 1)=(n:Int):=by
 simp only [nI]
 rw [Al (by omega) (by omega)]
 omega
theorem A8d (i:Nat):(Int.tmod (i:Int) 20==0)=(i % 20==0):=by
 have:Int.tmod (i:Int) 20=((i % 20:Nat):Int):=by rw [Int.tmod_eq_emod_of_nonneg (by omega)]; omega
 rw [this]
 by_cases h:i % 20=0
 ·rw [h]; rfl
 ·rw [beq_eq_false_iff_ne.2 h]
  exact beq_eq_false_iff_ne.2 (by omega)
theorem Aw6 {α:Type} (c:Bool) (xs:List α) (y:α):(Y8 c xs y).length=xs.length + c.toNat:=by cases c<;>simp [Y8]
def Aw7 (i:Nat) (s:List (List Bp)×Bool×List Bp):Prop:=i≤100∧s.1.length≤i∧(0 < i→s.2.1=true)∧s.2.2.length≤i
theorem Aw7.step {i:Nat} {s:List (List Bp)×Bool×List Bp} (h:Aw7 i s) (h1:i < 100) (p:Bw):Aw7 (i + 1) (Xq i p s):=by
 obtain ⟨_,h2,h3,h4⟩:=h
 unfold Xq
 cases hc:(i % 20==0)
 ·have:0 < i:=Nat.pos_of_ne_zero fun q=>by subst q; cases hc
  refine ⟨by omega,by simp only [cond_false]; omega,fun _=>h3 this,?_⟩
  simp only [cond_false,Fg,D9]
  omega
 ·refine ⟨by omega,?_,fun _=>rfl,by simp⟩
  simp only [cond_true]
  rw [Aw6]
  by_cases q:0 < i
  ·rw [h3 q]; simp; omega
  ·cases s.2.1<;>simp<;>omega
theorem Ey {s:Ki} (h:Aq s=true):s.1.length≤100:=Hm (Cq h).1
theorem Agv (s:Ab) (w:Int):(bif Di w 1 8 then ((A8 s w).length:Int) else 0)=Jx s.size w:=by
 unfold Jx
 cases hw:Di w 1 8 with
 | false=>rfl
 | true=>exact Zv hw
theorem Ajc (n:Nat) (w:Int):0≤Jx n w∧Jx n w≤(n:Int) + 1:=by
 unfold Jx
 cases hw:Di w 1 8 with
 | false=>exact ⟨Int.le_refl _,by simp only [cond_false]; omega⟩
 | true=>
  obtain ⟨h1,h2⟩:=Ec hw
  simp only [cond_true]
  have hc:w=1∨w=2∨w=3∨w=4∨w=5∨w=6∨w=7∨w=8:=by omega
  rcases hc with rfl | rfl | rfl | rfl | rfl | rfl | rfl | rfl<;>split<;>omega
theorem Ay3 {b:List Bp} (h:∀ c∈b,Te c=true):(Im b).length≤200 * b.length:=by
 induction b with
 | nil=>simp [Im]
 | cons c r ih=>
  have h1:=(Vr (h c (by simp))).2
  have h2:=ih fun c hc=>h c (by simp [hc])
  have e:Im (c::r)=Zt c++Im r:=rfl
  rw [e,Fg,List.length_cons]
  omega
theorem Np (b:List Bp):(Fi b).size≤4000:=by
 unfold Fi
 cases hv:Bf b with
 | false=>exact Nat.zero_le _
 | true=>
  obtain ⟨_,h2,h3⟩:=Ajb hv
  have:=Ay3 h3
  show (strOfNums (Im b)).size≤4000
  rw [Da]
  omega
theorem Xv {α σ:Type} (z:α) (Inv:Nat→σ→Prop) (step:Nat→α→σ→σ) {xs:List α} (hi:∀ i s,i < xs.length→Inv i s→Inv (i + 1) (step i (xs.getD i z) s)):
  ∀ (k i:Nat) s,i + k=xs.length→Inv i s→Inv xs.length (F5 step i (xs.drop i) s)
 | 0,i,s,h,hI=>by
  have:i=xs.length:=by omega
  subst this
  rw [List.drop_length]
  exact hI
 | k + 1,i,s,h,hI=>by
  rw [Mi xs i z (by omega)]
  exact Xv z Inv step hi k (i + 1) _ (by omega) (hi i s (by omega) hI)
theorem Ab0 (s:Ki):(K0 s).length≤101:=by
 unfold K0
 cases hv:Aq s with
 | false=>simp
 | true=>
  have hl:=Ey hv
  have:=Xv zP Aw7 Xq (xs:=s.1) (fun i r hi hI=>hI.step (by omega) _) s.1.length 0 ([],false,[]) (by omega) ⟨by omega,by simp,fun q=>by omega,by simp⟩
  simp only [cond_true]
  rw [Aw6]
  have h1:=this.2.1
  show (Aow 0 s.1 ([],false,[])).1.length + _≤101
  have h2:(Aow 0 s.1 ([],false,[])).2.1.toNat≤1:=by cases (Aow 0 s.1 ([],false,[])).2.1<;>decide
  have h3:(Aow 0 s.1 ([],false,[])).1.length≤s.1.length:=h1
  omega
def Lv (s:Ki) (w:Int):Int:=bif Di w 1 8 then (((K0 s).map fun b=>Jx (Fi b).size w).sum) else 0
theorem Atg {α:Type} (f:α→Int):∀ (l:List α) (i:Nat) (a:Int),F5 (fun _ b a=>a + f b) i l a=a + (l.map f).sum
 | [],_,a=>by simp [F5]
 | x::r,i,a=>by
  show F5 _ (i + 1) r (a + f x)=_
  rw [Atg f r,List.map_cons,List.sum_cons]
  omega
theorem A4s {α:Type} (l:List α):(l.map fun _=>(0:Int)).sum=0:=by
 induction l with
 | nil=>rfl
 | cons x r ih=>rw [List.map_cons,List.sum_cons,ih]; rfl
theorem A4t (s:Ki) (w:Int):((K0 s).map fun b=>Jx (Fi b).size w).sum=Lv s w:=by
 unfold Lv
 cases hw:Di w 1 8 with
 | true=>rfl
 | false=>
  have:(fun b:List Bp=>Jx (Fi b).size w)=fun _=>0:=by funext b; unfold Jx; rw [hw]; rfl
  rw [this,A4s]
  rfl
def A4u (i:Nat) (a:Int):Prop:=i≤101∧0≤a∧a≤5000 * (i:Int)
theorem A4u.step {i:Nat} {a:Int} (h:A4u i a) (hi:i < 101) (b:List Bp) (w:Int):A4u (i + 1) (a + Jx (Fi b).size w):=by
 have h1:=Ajc (Fi b).size w
 have h2:=Np b
 obtain ⟨_,h3,h4⟩:=h
 exact ⟨by omega,by omega,by omega⟩
theorem Ay4 {i:Nat} {a:Int} (h:A4u i a) (b:List Bp) (w:Int):IntKind.wrap IntKind.i64 (a + Jx (Fi b).size w)=a + Jx (Fi b).size w:=by
 have h1:=Ajc (Fi b).size w
 have h2:=Np b
 obtain ⟨_,h3,h4⟩:=h
 exact Al (by omega) (by omega)
def An (n:Int):Int:=bif Di n 8 200 then (n - 2) / 2 else 0
theorem Aw8 {n:Int} (h1:8≤n) (h2:n≤200):IntKind.wrap IntKind.i64 (Int.tdiv (IntKind.wrap IntKind.i64 (n - 2)) 2)=(n - 2) / 2:=by
 rw [Al (n:=n - 2) (by omega) (by omega),Int.tdiv_eq_ediv_of_nonneg (by omega)]
 exact Al (by omega) (by omega)
theorem S0 (n:Int):0≤An n∧An n≤99:=by
 unfold An
 cases h:Di n 8 200 with
 | false=>simp only [cond_false]; omega
 | true=>
  obtain ⟨h1,h2⟩:=Ec h
  simp only [cond_true]
  omega
theorem Ay5 (n:Int):decide (0 < An n)=Di n 8 200:=by
 unfold An
 cases h:Di n 8 200 with
 | false=>rfl
 | true=>
  obtain ⟨h1,h2⟩:=Ec h
  simp only [cond_true]
  exact Ag (by omega)
def A4 (s:Lp):Bool:=decide (0 < An s.2.1)&&(Di s.1 1 8&&(Di s.2.2.1 1 60000&&(Di s.2.2.2.1.1 0 1000000000&&(Tg s.2.2.2.1&&(Di s.2.2.2.1.2.2.2.1 0 60000&&(Di s.2.2.2.2.1 0 (An s.2.1)&&(Di s.2.2.2.2.2.1 0 s.2.2.2.2.1&&(Aq s.2.2.2.2.2.2.1&&decide (Lv s.2.2.2.2.2.2.1 s.1≤An s.2.1 - 1)))))))))
theorem A9v (a b:Bool):(bif a then some ((b,()),()) else some ((false,()),()))=(some ((a&&b,()),()):Option ((Bool×Unit)×Unit)):=by cases a<;>rfl
theorem A9w (a b:Bool):(bif !a then some ((false,()),()) else some ((b,()),()))=(some ((a&&b,()),()):Option ((Bool×Unit)×Unit)):=by cases a<;>rfl
theorem w5 (n:Int):IntKind.wrap IntKind.i64 (An n - 1)=An n - 1:=by
 have:=S0 n
 exact Al (by omega) (by omega)
theorem Aw9 (n:Int) (b:Bool):(bif An n==0 then some ((false,()),()) else some ((b,()),()))=(some ((decide (0 < An n)&&b,()),()):Option ((Bool×Unit)×Unit)):=by
 have:=S0 n
 by_cases h:An n=0
 ·rw [h]; rfl
 ·rw [beq_eq_false_iff_ne.2 h,Ag (by omega)]; rfl
def zSt:Lp:=(0,0,0,(0,0,0,0,()),0,0,([],()),())
def m5 (c:Int):Td:=(c,zSt,[],())
def zOp:D5:=(false,0,⟨#[]⟩,())
def Axa:D5:=(true,0,⟨#[]⟩,())
def Ajd (at':Int) (data:Ab):D5:=(false,at',data,())
def Tl (s:Lp):Td:=bif A4 s then (0,(s.1,s.2.1,s.2.2.1,s.2.2.2.1,s.2.2.2.2.1,0,s.2.2.2.2.2.2.1,()),[Axa],()) else m5 1
theorem Ab1 {s:Lp} (h:A4 s=true):Di s.2.1 8 200=true∧Di s.1 1 8=true∧Aq s.2.2.2.2.2.2.1=true∧(1≤s.2.2.1∧s.2.2.1≤60000)∧(0≤s.2.2.2.1.1∧s.2.2.2.1.1≤1000000000)∧Tg s.2.2.2.1=true∧
  (0≤s.2.2.2.1.2.2.2.1∧s.2.2.2.1.2.2.2.1≤60000)∧(0≤s.2.2.2.2.1∧s.2.2.2.2.1≤An s.2.1)∧(0≤s.2.2.2.2.2.1∧s.2.2.2.2.2.1≤s.2.2.2.2.1)∧Lv s.2.2.2.2.2.2.1 s.1≤An s.2.1 - 1:=by
 unfold A4 at h
 obtain ⟨h1,h⟩:=Cq h
 obtain ⟨h2,h⟩:=Cq h
 obtain ⟨h3,h⟩:=Cq h
 obtain ⟨h4,h⟩:=Cq h
 obtain ⟨h5,h⟩:=Cq h
 obtain ⟨h6,h⟩:=Cq h
 obtain ⟨h7,h⟩:=Cq h
 obtain ⟨h8,h⟩:=Cq h
 obtain ⟨h9,h⟩:=Cq h
 rw [Ay5] at h1
 exact ⟨h1,h2,h9,Ec h3,Ec h4,h5,Ec h6,Ec h7,Ec h8,Hm h⟩
abbrev tSt:Ty:=.pair (.sl (.pair .str (.pair .str .unit))) .unit
abbrev tRt:Ty:=.pair (.int .i64) (.pair (.int .i64) (.pair (.int .i64) (.pair (.int .i64) .unit)))
abbrev A9x:Ty:=.pair (.int .i64) (.pair (.int .i64) (.pair (.int .i64) (.pair tRt (.pair (.int .i64) (.pair (.int .i64) (.pair tSt .unit))))))
abbrev tOp:Ty:=.pair .bool (.pair (.int .i64) (.pair .str .unit))
abbrev Axb:Ty:=.pair (.int .i64) (.pair A9x (.pair (.sl tOp) .unit))
theorem Alm {s:Ki} (h:Aq s=true):∀ p∈s.1,1≤p.1.size∧p.1.size≤20∧p.2.1.size≤100:=fun p hp=>by
 obtain ⟨i,hi,rfl⟩:=u9 zP hp
 have:=Xs (Cq h).2 i hi
 unfold Oj at this
 obtain ⟨h1,h2⟩:=Cq this
 obtain ⟨h2,_⟩:=Cq h2
 have h3:=Ec h1
 exact ⟨by omega,by omega,Hm h2⟩
theorem Tm {s:Ki} (h:Aq s=true):G9 tSt s=true:=by
 have hl:=Ey h
 show ((decide (s.1.length≤1073741824)&&List.all s.1 (G9 (.pair .str (.pair .str .unit))))&&true)=true
 rw [Ag (show s.1.length≤1073741824 by omega),Bool.true_and,Bool.and_true]
 refine List.all_eq_true.2 fun p hp=>?_
 obtain ⟨_,h1,h2⟩:=Alm h p hp
 show (decide (p.1.size≤1073741824)&&(decide (p.2.1.size≤1073741824)&&true))=true
 rw [Ag (show p.1.size≤1073741824 by omega),Ag (show p.2.1.size≤1073741824 by omega)]
 rfl
theorem Ab2 {c w n l u o:Int} {r:Rt} {s:Ki} {ops:List D5} (hs:G9 tSt s=true) (ho:G9 (.sl tOp) ops=true):G9 Axb (c,(w,n,l,r,u,o,s,()),ops,())=true:=by
 show ((G9 tSt s&&true)&&(G9 (.sl tOp) ops&&true))=true
 rw [hs,ho]
 rfl
theorem Ay6 (s:Lp):G9 Axb (Tl s)=true:=by
 unfold Tl
 cases hv:A4 s with
 | false=>rfl
 | true=>exact Ab2 (Tm (Ab1 hv).2.2.1) rfl
abbrev ScT:=Int×Int×Ab×List Ab×Int×Int
def Ac3 (wk wl:Int) (p:Pg):Bool:=bif decide (p.2.1 < wl) then false else bif p.1==3 then wk != 1 else bif p.1==1 || p.1==2 then wk != 1 || wl==p.2.1 else false
def I0 (i:Int) (p:Pg) (s:ScT):ScT:=
 bif p.1==1 then (1,p.2.1,s.2.2.1++p.2.2.2.1,s.2.2.2.1,s.2.2.2.2.1,s.2.2.2.2.2)
 else bif p.1==2 then (2,p.2.1,z0,s.2.2.2.1++[s.2.2.1++p.2.2.2.1],i + 1,p.2.1)
 else (p.1,p.2.1,z0,s.2.2.2.1,i + 1,p.2.1)
def Su (s:ScT):Scd:=(s.2.2.2.1,s.2.2.2.2.1,s.2.2.2.2.2,())
def Nq (w first i:Int) (s:ScT) (x:Ab):Bool:=(Ch x w).2&&(((Ch x w).1.2.2.1 - i==first)&&Ac3 s.1 s.2.1 (Ch x w).1)
def Db (w first:Int):List Ab→Int→ScT→Scd
 | [],_,s=>Su s
 | x::r,i,s=>bif Nq w first i s x then Db w first r (i + 1) (I0 i (Ch x w).1 s) else Su s
def seen (d:Dk) (a:Int) (k n:Nat):List Ab:=(List.range' k n).map fun k:Nat=>Ab9 d (a + (k:Int))
def Tn (d:Dk) (from_ size first life w:Int):Scd:=
 bif As d&&(Di w 1 8&&(decide (0≤from_)&&(decide (0≤size)&&(decide (from_≤(d.1.length:Int))&&decide (size≤(d.1.length:Int) - from_))))) then Db w first (seen d from_ 0 size.toNat) 0 (0,life,z0,[],0,life) else ([],0,0,())
theorem Axc {d:Dk} (hd:Fq d) {a:Int} {j:Nat} (hj:j < d.1.length) (ha:a=(j:Int):=by omega):List.getD (Kz d.1 d.2.1) j (Ae)=Ab9 d a:=by
 subst ha
 have:=Aww d.1 j hj d.2.1 (fun w hw=>by
  obtain ⟨i,hi,rfl⟩:=u9 zW hw
  exact (hd.pen i hi).1)
 unfold Ab9
 rw [Jh]
 exact this
theorem Aux {x:Ab} {w:Int} {p:Pg} (h:Ch x w=(p,true)):(1≤p.1∧p.1≤4)∧(1≤p.2.2.1∧p.2.2.1≤1000000000)∧p.2.2.2.1.size≤64:=by
 obtain ⟨_,_,_,h4⟩:=Tk h
 obtain ⟨k1,_,k3⟩:=Agt h4
 obtain ⟨_,w1,w2,k4⟩:=Xu h4
 exact ⟨k1,k3,by omega⟩
def Ac4 (i:Nat) (s:ScT):Prop:=i≤200∧s.2.2.1.size≤64 * i∧s.2.2.2.1.length≤i
theorem Ac4.zero (a b c l:Int):Ac4 0 (a,b,z0,[],c,l):=⟨by omega,Nat.le_refl 0,Nat.le_refl 0⟩
theorem Ac4.next {i:Nat} {s:ScT} {p:Pg} (h:Ac4 i s) (hi:i < 200) (hp:p.2.2.2.1.size≤64):Ac4 (i + 1) (I0 i p s):=by
 obtain ⟨_,h2,h3⟩:=h
 unfold I0
 cases (p.1==1)
 ·cases (p.1==2)
  ·exact ⟨by omega,Nat.zero_le _,by simp only [cond_false]; omega⟩
  ·refine ⟨by omega,Nat.zero_le _,?_⟩
   simp only [cond_false,cond_true,Fg,D9]
   omega
 ·refine ⟨by omega,?_,by simp only [cond_true]; omega⟩
  simp only [cond_true,ByteArray.size_append]
  omega
abbrev tSc:Ty:=.pair (.sl .str) (.pair (.int .i64) (.pair (.int .i64) .unit))
theorem Ao3 {l:List Ab} {n:Nat} (h1:l.length≤1000000) (h2:∀ x∈l,x.size≤n) (hn:n≤1000000):G9 (.sl .str) l=true:=by
 show (decide (l.length≤1073741824)&&List.all l (fun x=>decide (ByteArray.size x≤1073741824)))=true
 rw [Ag (by omega),Bool.true_and]
 exact List.all_eq_true.2 fun x hx=>Ag (by have:=h2 x hx; omega)
theorem Ak2 (w first:Int):∀ (l:List Ab) (i:Nat) (st:ScT),i + l.length≤200→Ac4 i st→(∀ x∈st.2.2.2.1,x.size≤12864)→G9 tSc (Db w first l i st)=true
 | [],i,st,h,hI,he=>by
  show (G9 (.sl .str) st.2.2.2.1&&true)=true
  rw [Ao3 (by have:=hI.2.2; omega) he (by decide)]
  rfl
 | x::r,i,st,h,hI,he=>by
  rw [List.length_cons] at h
  unfold Db
  cases hs:Nq w first i st x with
  | false=>
   show (G9 (.sl .str) st.2.2.2.1&&true)=true
   rw [Ao3 (by have:=hI.2.2; omega) he (by decide)]
   rfl
  | true=>
   obtain ⟨hr,_⟩:=Cq hs
   obtain ⟨p,ok,hR⟩:∃ p ok,Ch x w=(p,ok):=⟨_,_,rfl⟩
   rw [hR] at hr
   have hr:ok=true:=hr
   subst hr
   obtain ⟨_,_,q3⟩:=Aux hR
   rw [hR]
   have hN:=hI.next (p:=p) (by omega) q3
   refine Ak2 w first r (i + 1) _ (by omega) hN fun y hy=>?_
   unfold I0 at hy
   cases h1:(p.1==1) with
   | true=>rw [h1] at hy; exact he y hy
   | false=>
    rw [h1] at hy
    cases h2:(p.1==2) with
    | false=>rw [h2] at hy; exact he y hy
    | true=>
     rw [h2] at hy
     simp only [cond_false,cond_true,List.mem_append,List.mem_singleton] at hy
     rcases hy with hy | rfl
     ·exact he y hy
     ·rw [ByteArray.size_append]
      have:=hI.2.1
      omega
theorem Xw (d:Dk) (a:Int) (k n:Nat):(seen d a k n).length=n:=by simp [seen]
theorem Ay7 (d:Dk) (f n first life w:Int):G9 tSc (Tn d f n first life w)=true:=by
 unfold Tn
 cases hc:(As d&&(Di w 1 8&&(decide (0≤f)&&(decide (0≤n)&&(decide (f≤(d.1.length:Int))&&decide (n≤(d.1.length:Int) - f)))))) with
 | false=>rfl
 | true=>
  obtain ⟨hv,h⟩:=Cq hc
  obtain ⟨_,h⟩:=Cq h
  obtain ⟨h1,h⟩:=Cq h
  obtain ⟨h2,h⟩:=Cq h
  obtain ⟨h3,h4⟩:=Cq h
  have h1:=Hm h1
  have h2:=Hm h2
  have h4:=Hm h4
  have:=(Ig hv).n200
  exact Ak2 w first _ 0 _ (by rw [Xw]; omega) (Ac4.zero _ _ _ _) (fun x hx=>by cases hx)
def zSs:Ki:=([],())
theorem Aev {α β:Type} {x:Option α} {y:α} {f:α→Option β} {z:Option β} (h:x=some y) (k:f y=z):x.bind f=z:=by rw [h]; exact k
def Gf:Int→List Ab→List D5
 | _,[]=>[]
 | a,x::r=>Ajd a x::Gf (a + 1) r
theorem Ath (x:Ab):∀ (L:List Ab) (a:Int),Gf a (L++[x])=Gf a L++[Ajd (a + (L.length:Int)) x]
 | [],a=>by show [Ajd a x]=[Ajd (a + (0:Int)) x]; rw [Int.add_zero]
 | y::L,a=>by
  show Ajd a y::Gf (a + 1) (L++[x])=Ajd a y::(Gf (a + 1) L++[Ajd (a + ((L.length + 1:Nat):Int)) x])
  rw [Ath x L (a + 1),show a + 1 + (L.length:Int)=a + ((L.length + 1:Nat):Int) by omega]
theorem Xx:∀ (L:List Ab) (a:Int),(Gf a L).length=L.length
 | [],_=>rfl
 | _::L,a=>by show (Gf (a + 1) L).length + 1=L.length + 1; rw [Xx L]
theorem Ati (a:Int):∀ (L:List Ab) (i:Nat) (r:List D5),F5 (fun (i:Nat) x r=>r++[Ajd (a + (i:Int)) x]) i L r=r++Gf (a + (i:Int)) L
 | [],i,r=>(List.append_nil r).symm
 | x::L,i,r=>by
  show F5 _ (i + 1) L (r++[Ajd (a + (i:Int)) x])=_
  rw [Ati a L (i + 1),List.append_assoc,show a + ((i + 1:Nat):Int)=a + (i:Int) + 1 by omega]
  rfl
theorem Ao4 {α:Type}:∀ (L:List α) (i:Nat) (r:List α),F5 (fun (_:Nat) x r=>r++[x]) i L r=r++L
 | [],i,r=>(List.append_nil r).symm
 | x::L,i,r=>by
  show F5 _ (i + 1) L (r++[x])=_
  rw [Ao4 L (i + 1),List.append_assoc]
  rfl
def Br (h n:Int):Int:=2 + h * An n
def A7n (s:Lp) (life:Int):Rt:=(s.2.2.2.1.1 + 1,1 - s.2.2.2.1.2.1,s.2.2.2.1.2.2.1 + An s.2.1,life,())
def Zx (w life first:Int) (b:List Bp) (L:List Ab):List Ab:=L++Alk (Fi b) life (first + (L.length:Int)) w
def mvL (s:Lp) (life:Int):List Ab:=F5 (fun _ b L=>Zx s.1 life (s.2.2.2.1.2.2.1 + An s.2.1) b L) 0 (K0 s.2.2.2.2.2.2.1) [C6 (3,life,s.2.2.2.1.2.2.1 + An s.2.1,z0,()) s.1]
def Axd (s:Lp) (life:Int):List D5:=Gf (Br (1 - s.2.2.2.1.2.1) s.2.1) (mvL s life)++[Axa,Ajd (Int.tmod (s.2.2.2.1.1 + 1) 2) (Xp (A7n s life) s.1),Axa]
def Ao5 (s:Lp) (life:Int):Lp×List D5×Bool:=
 bif decide (s.2.2.2.1.1 + 1 > 1000000000) then (zSt,[],false) else bif decide (s.2.2.2.1.2.2.1 + An s.2.1 > 999999000) then (zSt,[],false) else
 ((s.1,s.2.1,life,A7n s life,nI (mvL s life).length,0,s.2.2.2.2.2.2.1,()),Axd s life,true)
def Auz (s:Lp):Prop:=(0≤s.2.2.2.1.1∧s.2.2.2.1.1≤1000000000)∧(0≤s.2.2.2.1.2.1∧s.2.2.2.1.2.1≤1)∧(0≤s.2.2.2.1.2.2.1∧s.2.2.2.1.2.2.1≤1000000000)∧s.2.2.2.2.2.2.1.1.length≤1000000
instance (s:Lp):Decidable (Auz s):=by unfold Auz; infer_instance
theorem Ana (b:List Bp) (life f w:Int):(Alk (Fi b) life f w).length≤4001:=by
 unfold Alk
 cases hw:Di w 1 8 with
 | false=>simp
 | true=>
  cases hc:(true&&(Di life 1 60000&&(decide (1≤f)&&decide (f≤1000000000 - Jx (Fi b).size w + 1)))) with
  | false=>simp
  | true=>
   simp only [cond_true]
   rw [Vs,List.length_map,List.length_range']
   have h1:=Agv (Fi b) w
   rw [hw,cond_true] at h1
   have h2:=(Ajc (Fi b).size w).2
   have h3:=Np b
   omega
def MvI (i:Nat) (L:List Ab):Prop:=i≤101∧L.length≤1 + 4001 * i
theorem MvI.step {i:Nat} {L:List Ab} (h:MvI i L) (hi:i < 101) (w life first:Int) (b:List Bp):MvI (i + 1) (Zx w life first b L):=by
 obtain ⟨h1,h2⟩:=h
 refine ⟨by omega,?_⟩
 unfold Zx
 have:=Ana b life (first + (L.length:Int)) w
 rw [Fg]
 omega
theorem A0t (s:Lp) (life:Int):(mvL s life).length≤500000:=by
 have h:=Xv ([]:List Bp) MvI (fun _ b L=>Zx s.1 life (s.2.2.2.1.2.2.1 + An s.2.1) b L) (xs:=K0 s.2.2.2.2.2.2.1) (fun i L hi hI=>hI.step (Nat.lt_of_lt_of_le hi (Ab0 _)) _ _ _ _) (K0 s.2.2.2.2.2.2.1).length 0 [C6 (3,life,s.2.2.2.1.2.2.1 + An s.2.1,z0,()) s.1] (by omega) ⟨by omega,by simp⟩
 have h2:=Ab0 s.2.2.2.2.2.2.1
 have h3:=h.2
 have h4:(mvL s life).length≤1 + 4001 * (K0 s.2.2.2.2.2.2.1).length:=h3
 omega
def Vt (s:Lp):Td:=bif (Ao5 s s.2.2.1).2.2 then (0,(Ao5 s s.2.2.1).1,(Ao5 s s.2.2.1).2.1,()) else m5 4
theorem Anb {H n:Int} (hH:0≤H∧H≤1):0≤H * An n∧H * An n≤99:=by
 have hh:=S0 n
 have:H=0∨H=1:=by omega
 rcases this with rfl | rfl<;>omega
theorem A2f {s:Lp} (h:A4 s=true):Auz s:=by
 obtain ⟨_,_,h3,_,h5,h6,_⟩:=Ab1 h
 obtain ⟨r1,r2⟩:=Cq h6
 have r1:=Ec r1
 have r2:=Ec r2
 have:=Ey h3
 exact ⟨h5,r1,⟨by omega,by omega⟩,by omega⟩
def Lw (s:Lp):Td:=bif A4 s then Vt s else m5 1
theorem Aew:∀ (L:List Ab) (a:Int),(∀ x∈L,x.size≤64)→∀ o∈Gf a L,o.2.2.1.size≤64
 | [],_,_,o,ho=>by cases ho
 | x::L,a,h,o,ho=>by
  rcases List.mem_cons.1 ho with rfl | q
  ·exact h x List.mem_cons_self
  ·exact Aew L (a + 1) (fun y hy=>h y (List.mem_cons_of_mem _ hy)) o q
theorem A6j {o:D5} (h:o.2.2.1.size≤1073741824):G9 tOp o=true:=by
 show (true&&(true&&(decide (o.2.2.1.size≤1073741824)&&true)))=true
 rw [Ag h]
 rfl
theorem Ao6 {L:List D5} (h1:L.length≤1073741824) (h2:∀ o∈L,o.2.2.1.size≤64):G9 (.sl tOp) L=true:=by
 show (decide (L.length≤1073741824)&&List.all L (G9 tOp))=true
 rw [Ag h1,Bool.true_and]
 exact List.all_eq_true.2 fun o ho=>A6j (Nat.le_trans (h2 o ho) (by decide))
theorem Ay8 (r:Rt) (w:Int):(Xp r w).size≤64:=by
 unfold Xp
 cases Tg r with
 | false=>exact Nat.zero_le _
 | true=>exact Zw _ _
theorem Atj {e:Ab} {life f w:Int} {x:Ab} (h:x∈Alk e life f w):x.size≤64:=by
 unfold Alk at h
 cases hc:Di w 1 8&&(Di life 1 60000&&(decide (1≤f)&&decide (f≤1000000000 - Jx e.size w + 1))) with
 | false=>rw [hc] at h; simp at h
 | true=>rw [hc] at h; exact (Aeu _ _ _ _).2 x h
theorem A4v (s:Lp) (life:Int):∀ x∈mvL s life,x.size≤64:=by
 have h:=Xv ([]:List Bp) (fun _ (L:List Ab)=>∀ x∈L,x.size≤64) (fun _ b L=>Zx s.1 life (s.2.2.2.1.2.2.1 + An s.2.1) b L) (xs:=K0 s.2.2.2.2.2.2.1) (fun i L _ hI x hx=>by
  unfold Zx at hx
  rcases List.mem_append.1 hx with q | q
  ·exact hI x q
  ·exact Atj q) (K0 s.2.2.2.2.2.2.1).length 0 [C6 (3,life,s.2.2.2.1.2.2.1 + An s.2.1,z0,()) s.1] (by omega) (fun x hx=>by rw [List.mem_singleton.1 hx]; exact Zw _ _)
 exact h
theorem Ay9 (s:Lp) (life:Int):G9 (.sl tOp) (Axd s life)=true:=by
 have hl:=A0t s life
 have h1:(Axd s life).length=(mvL s life).length + 3:=by unfold Axd; rw [Fg,Xx]; rfl
 refine Ao6 (by omega) fun o ho=>?_
 unfold Axd at ho
 rcases List.mem_append.1 ho with q | q
 ·exact Aew _ _ (A4v s life) o q
 ·simp only [List.mem_cons,List.not_mem_nil,or_false] at q
  rcases q with rfl | rfl | rfl
  ·exact Nat.zero_le _
  ·exact Ay8 _ _
  ·exact Nat.zero_le _
theorem Ao7 {s:Lp} (h:G9 tSt s.2.2.2.2.2.2.1=true):G9 Axb (Vt s)=true:=by
 unfold Vt Ao5
 cases decide (s.2.2.2.1.1 + 1 > 1000000000) with
 | true=>rfl
 | false=>
  cases decide (s.2.2.2.1.2.2.1 + An s.2.1 > 999999000) with
  | true=>rfl
  | false=>exact Ab2 h (Ay9 s s.2.2.1)
theorem Au0 (s:Lp):G9 Axb (Lw s)=true:=by
 unfold Lw
 cases hv:A4 s with
 | false=>rfl
 | true=>exact Ao7 (Tm (Ab1 hv).2.2.1)
theorem Fq.valid {d:Dk} (h:Fq d):As d=true:=by
 unfold As Di
 have h8:=h.n8
 have h2:=h.n200
 rw [Ag (show (8:Int)≤(d.1.length:Int) by omega),Ag (show (d.1.length:Int)≤200 by omega),Ag h.p300]
 simp only [Bool.true_and,Bool.and_eq_true,List.all_eq_true,decide_eq_true_eq,List.mem_range']
 refine ⟨fun i hi=>h.sec i (by omega),fun i hi=>?_⟩
 obtain ⟨k1,k2,k3⟩:=h.pen i (by omega)
 unfold Ab8
 rw [Ag k1,Ag k2,Ag k3]
 rfl
def Am {α:Type} (o:Option α) (Q:α→Prop):Prop:=∃ a,o=some a∧Q a
theorem Am.bind {α β:Type} {o:Option α} {f:α→Option β} {Q:α→Prop} {S:β→Prop} (h:Am o Q) (k:∀ a,Q a→Am (f a) S):Am (o.bind f) S:=by
 obtain ⟨a,e,q⟩:=h
 rw [e]
 exact k a q
theorem Am.cond {α:Type} {c:Bool} {x y:Option α} {Q:α→Prop} (h1:c=true→Am x Q) (h2:c=false→Am y Q):Am (bif c then x else y) Q:=by
 cases c
 ·exact h2 rfl
 ·exact h1 rfl
theorem Am.go {α:Type} {c:Bool} {x y:Option α} {Q:α→Prop} (h:c=true) (k:Am x Q):Am (bif c then x else y) Q:=by
 rw [h]
 exact k
theorem Am.no {α:Type} {c:Bool} {x y:Option α} {Q:α→Prop} (h:c=false) (k:Am y Q):Am (bif c then x else y) Q:=by
 rw [h]
 exact k
theorem Am.some {α:Type} {a:α} {Q:α→Prop} (h:Q a):Am (Option.some a) Q:=⟨a,rfl,h⟩
theorem Am.mono {α:Type} {o:Option α} {Q S:α→Prop} (h:Am o Q) (k:∀ a,Q a→S a):Am o S:=by
 obtain ⟨a,e,q⟩:=h
 exact ⟨a,e,k a q⟩
theorem Am.sum {α β γ:Type} {f:α→Option γ} {g:β→Option γ} {o:α ⊕ β} {Q:γ→Prop} (h1:∀ a,o=.inl a→Am (f a) Q) (h2:∀ b,o=.inr b→Am (g b) Q):Am (Eb f g o) Q:=by
 cases o with
 | inl a=>exact h1 a rfl
 | inr b=>exact h2 b rfl
theorem Am.loop {σ E:Type} {g:Nat→σ→Option E} (I:Nat→σ→Prop) {Q:E→Prop} (step:∀ m k s,I k s→(∀ k' s',k' < k→I k' s'→Am (g m s') Q)→Am (g (m + 1) s) Q):
  ∀ (m k:Nat) (s:σ),k < m→I k s→Am (g m s) Q
 | 0,k,s,h,_=>by omega
 | m + 1,k,s,h,hI=>step m k s hI fun k' s' h' hI'=>Am.loop I step m k' s' (by omega) hI'
abbrev Rd:=List Int×Int×Unit
def rdB (b:List Int):Bool:=decide (b.length≤2000)&&b.all fun x=>decide (0≤x)&&decide (x < 256)
def Po (k:Nat) (r:Rd):Prop:=rdB r.1=true∧0≤r.2.1∧r.2.1≤(k:Int)
theorem Po.mono {k k':Nat} {r:Rd} (h:Po k r) (hk:k≤k'):Po k' r:=⟨h.1,h.2.1,by have:=h.2.2; omega⟩
theorem Aza {b:List Int} (h:rdB b=true) (i:Nat):0≤b.getD i 0∧b.getD i 0 < 256:=by
 unfold rdB at h
 simp only [Bool.and_eq_true,decide_eq_true_eq,List.all_eq_true] at h
 by_cases hi:i < b.length
 ·rw [List.getD_eq_getElem?_getD,List.getElem?_eq_getElem hi,Option.getD_some]
  exact h.2 _ (List.getElem_mem hi)
 ·rw [List.getD_eq_getElem?_getD,List.getElem?_eq_none (by omega)]
  exact ⟨Int.le_refl 0,by decide⟩
theorem Azb {α:Type} {l:List α} {d:α} {v:Int} {Q:α→Prop} (h:∀ x∈l,Q x) (h0:0≤v) (h1:v < nI l.length):Q (l.getD v.toNat d):=by
 simp only [nI] at h1
 have hi:v.toNat < l.length:=by omega
 rw [List.getD_eq_getElem?_getD,List.getElem?_eq_getElem hi,Option.getD_some]
 exact h _ (List.getElem_mem hi)
theorem Anc {s:Ab} {i j:Int} (h0:0≤i) (h1:i≤j) (h2:j≤(s.size:Int)):((Af s i j).size:Int)=j - i:=by
 rw [C9 h0 h1 h2]
 omega
theorem Ane {x n:Int} (h0:0≤x) (hn:1≤n):0≤x.tmod n∧x.tmod n < n:=by
 rw [Int.tmod_eq_emod_of_nonneg h0]
 exact ⟨Int.emod_nonneg _ (by omega),Int.emod_lt_of_pos _ (by omega)⟩
theorem A2g {x y:Int} (hx:0≤x) (hx':x < 4611686018427387904) (hy:0≤y) (hy':y < 4611686018427387904):
  0≤IntKind.i64.wrap (nI (BitVec.ofInt 64 x ^^^ BitVec.ofInt 64 y).toNat):=by
 obtain ⟨a,rfl⟩:∃ a:Nat,x=(a:Int):=⟨x.toNat,by omega⟩
 obtain ⟨b,rfl⟩:∃ b:Nat,y=(b:Int):=⟨y.toNat,by omega⟩
 have h:(BitVec.ofInt 64 (a:Int) ^^^ BitVec.ofInt 64 (b:Int)).toNat < 4611686018427387904:=by
  rw [BitVec.toNat_xor,BitVec.ofInt_natCast,BitVec.ofInt_natCast,BitVec.toNat_ofNat,BitVec.toNat_ofNat,Nat.mod_eq_of_lt (by omega),Nat.mod_eq_of_lt (by omega)]
  exact Nat.xor_lt_two_pow (n:=62) (by omega) (by omega)
 simp only [nI]
 rw [Al (by omega) (by omega)]
 omega
theorem Am.letter {α:Type} {A:Ab} {v:Int} {x:Option α} {S:α→Prop} (v0:0≤v) (v1:v < nI A.size) (k:(Af (Af A v (nI A.size)) 0 1).size=1→Am x S):
  Am (bif decide (0≤v) then bif decide (v≤nI A.size) then bif decide (1≤nI (Af A v (nI A.size)).size) then x else none else none else none) S:=by
 have e1:=Anc (s:=A) v0 (show v≤nI A.size by omega) (Int.le_refl _)
 have e2:=Anc (s:=Af A v (nI A.size)) (i:=0) (j:=1) (by omega) (by omega) (by simp only [nI] at *; omega)
 exact Am.go (Ag v0) (Am.go (Ag (Int.le_of_lt v1)) (Am.go (Ag (by simp only [nI] at *; omega)) (k (by omega))))
theorem Am.law {o:Option ((Bool×Unit)×Unit)} (h:Am o fun r=>r.1.1=true):o=Option.some ((true,()),()):=by
 obtain ⟨⟨⟨b,⟨⟩⟩,⟨⟩⟩,e,q⟩:=h
 simp only at q
 rw [e,q]
def Ari (c:Bp):Prop:=c.1.size≤1000∧c.2.1.size≤1000
theorem A4w {l:List Bp} {c:Bp} (h:∀ c∈l,Ari c) (hc:Ari c):∀ x∈l++[c],Ari x:=fun x hx=>by
 rcases List.mem_append.1 hx with q | q
 ·exact h x q
 ·rw [List.mem_singleton.1 q]; exact hc
theorem Ao8:∀ x:List UInt8,Op.bytesLess x x=false
 | []=>rfl
 | a::x=>by simp [Op.bytesLess,Ao8 x]
theorem Atk:∀ {x y z:List UInt8},Op.bytesLess x y=true→Op.bytesLess y z=true→Op.bytesLess x z=true
 | [],[],_,h,_=>by simp [Op.bytesLess] at h
 | [],_::_,[],_,k=>by simp [Op.bytesLess] at k
 | [],_::_,_::_,_,_=>rfl
 | _::_,[],_,h,_=>by simp [Op.bytesLess] at h
 | _::_,_::_,[],_,k=>by simp [Op.bytesLess] at k
 | a::x,b::y,c::z,h,k=>by
  simp only [Op.bytesLess,Bool.or_eq_true,decide_eq_true_eq,Bool.and_eq_true,beq_iff_eq] at h k ⊢
  rcases h with h | ⟨rfl,h⟩
  ·rcases k with k | ⟨rfl,k⟩
   ·exact .inl (UInt8.lt_trans h k)
   ·exact .inl h
  ·rcases k with k | ⟨rfl,k⟩
   ·exact .inl k
   ·exact .inr ⟨rfl,Atk h k⟩
theorem A0u:∀ {x y:List UInt8},Op.bytesLess x y=false→Op.bytesLess y x=false→x=y
 | [],[],_,_=>rfl
 | [],_::_,h,_=>by simp [Op.bytesLess] at h
 | _::_,[],_,k=>by simp [Op.bytesLess] at k
 | a::x,b::y,h,k=>by
  simp only [Op.bytesLess,Bool.or_eq_false_iff,decide_eq_false_iff_not,Bool.and_eq_false_iff] at h k
  have hab:a=b:=by
   apply UInt8.le_antisymm
   ·exact UInt8.not_lt.1 k.1
   ·exact UInt8.not_lt.1 h.1
  subst hab
  have h2:Op.bytesLess x y=false:=by rcases h.2 with q | q<;>simp_all
  have k2:Op.bytesLess y x=false:=by rcases k.2 with q | q<;>simp_all
  rw [A0u h2 k2]
theorem Ab4 (a:Ab):bl a a=false:=Ao8 _
theorem Agw {a b c:Ab} (h:bl a b=true) (k:bl b c=true):bl a c=true:=Atk h k
theorem A4x {a b:Ab} (h:bl a b=false) (k:bl b a=false):a=b:=Gd.1 (beq_iff_eq.2 (A0u h k))
theorem A89 {a b:Ab} (h:bl a b=true):a≠b:=fun q=>by rw [q,Ab4] at h; cases h
def Srt (l:List Bw):Prop:=l.Pairwise fun a b=>bl a.1 b.1=true
theorem A0v:∀ {l m:List Bw},Srt l→Srt m→(∀ x,x∈l↔x∈m)→l=m
 | [],[],_,_,_=>rfl
 | [],b::m,_,_,h=>by have:=(h b).2 List.mem_cons_self; cases this
 | a::l,[],_,_,h=>by have:=(h a).1 List.mem_cons_self; cases this
 | a::l,b::m,hl,hm,h=>by
  obtain ⟨l1,l2⟩:=List.pairwise_cons.1 hl
  obtain ⟨m1,m2⟩:=List.pairwise_cons.1 hm
  have hab:a=b:=by
   rcases List.mem_cons.1 ((h a).1 List.mem_cons_self) with q | q
   ·exact q
   ·rcases List.mem_cons.1 ((h b).2 List.mem_cons_self) with q2 | q2
    ·exact q2.symm
    ·have:=Agw (m1 a q) (l1 b q2)
     rw [Ab4] at this
     cases this
  subst hab
  rw [A0v l2 m2 fun x=>⟨fun q=>?_,fun q=>?_⟩]
  ·rcases List.mem_cons.1 ((h x).1 (List.mem_cons_of_mem _ q)) with rfl | q2
   ·have:=l1 x q; rw [Ab4] at this; cases this
   ·exact q2
  ·rcases List.mem_cons.1 ((h x).2 (List.mem_cons_of_mem _ q)) with rfl | q2
   ·have:=m1 x q; rw [Ab4] at this; cases this
   ·exact q2
theorem Ao9 (p x:Bw):∀ l:List Bw,x∈An4 p l↔x=p∨x∈l
 | []=>by simp [An4]
 | q::r=>by
  simp only [An4]
  cases ltK q p with
  | true=>simp only [cond_true,List.mem_cons,Ao9 p x r]; constructor<;>(rintro (h | h | h)<;>simp [h])
  | false=>simp only [cond_false,List.mem_cons]
theorem Aje (x:Bw):∀ l:List Bw,x∈Xl l↔x∈l
 | []=>Iff.rfl
 | p::r=>by
  show x∈An4 p (Xl r)↔_
  rw [Ao9,Aje x r,List.mem_cons]
theorem Axe {p:Bw}:∀ {l:List Bw},Srt l→(∀ q∈l,q.1≠p.1)→Srt (An4 p l)
 | [],_,_=>List.pairwise_singleton _ _
 | q::r,hl,hp=>by
  obtain ⟨l1,l2⟩:=List.pairwise_cons.1 hl
  simp only [An4]
  cases hq:ltK q p with
  | true=>
   refine List.pairwise_cons.2 ⟨fun x hx=>?_,Axe l2 fun y hy=>hp y (List.mem_cons_of_mem _ hy)⟩
   rcases (Ao9 p x r).1 hx with rfl | h
   ·exact hq
   ·exact l1 x h
  | false=>
   have hpq:bl p.1 q.1=true:=by
    cases h:bl p.1 q.1 with
    | true=>rfl
    | false=>exact absurd (A4x hq h) (hp q List.mem_cons_self)
   refine List.pairwise_cons.2 ⟨fun x hx=>?_,hl⟩
   rcases List.mem_cons.1 hx with rfl | h
   ·exact hpq
   ·exact Agw hpq (l1 x h)
theorem Kj {p:Bw} {r:List Bw}:Jk (p::r)=true↔(∀ q∈r,q.1≠p.1)∧Jk r=true:=by
 simp only [Jk,Bool.and_eq_true,Bool.not_eq_true',List.any_eq_false]
 constructor
 ·rintro ⟨h1,h2⟩
  exact ⟨fun q hq e=>h1 q hq (by rw [e]; simp),h2⟩
 ·rintro ⟨h1,h2⟩
  exact ⟨fun q hq e=>h1 q hq (Gd.1 e),h2⟩
theorem Atl:∀ {l:List Bw},Jk l=true→Srt (Xl l)
 | [],_=>List.Pairwise.nil
 | p::r,h=>by
  obtain ⟨h1,h2⟩:=Kj.1 h
  exact Axe (Atl h2) fun q hq=>h1 q ((Aje q r).1 hq)
abbrev Mp:=List (Ab×Ab)
def prs (m:Mp):List Bw:=m.map fun p=>(p.1,p.2,())
theorem Apa {k v:Ab} (x:Bw):∀ {m:Mp},Jk (prs m)=true→(x∈prs (Ab6 k v m)↔(x∈prs m∧x.1≠k)∨x=(k,v,()))
 | [],_=>by simp [Ab6,prs]
 | p::r,h=>by
  obtain ⟨h1,h2⟩:=Kj.1 (show Jk ((p.1,p.2,())::prs r)=true from h)
  simp only [Ab6]
  cases hk:o8 p.1 k with
  | true=>
   have hk:=Gd.1 hk
   simp only [cond_true]
   show x∈(k,v,())::prs r↔(x∈(p.1,p.2,())::prs r∧_)∨_
   rw [List.mem_cons,List.mem_cons]
   constructor
   ·rintro (rfl | q)
    ·exact .inr rfl
    ·exact .inl ⟨.inr q,fun e=>h1 x q (by rw [e,hk])⟩
   ·rintro (⟨q | q,e⟩ | q)
    ·subst q
     exact absurd hk e
    ·exact .inr q
    ·exact .inl q
  | false=>
   have hk:p.1≠k:=fun q=>by rw [Gd.2 q] at hk; cases hk
   simp only [cond_false]
   show x∈(p.1,p.2,())::prs (Ab6 k v r)↔(x∈(p.1,p.2,())::prs r∧_)∨_
   rw [List.mem_cons,List.mem_cons,Apa x h2]
   constructor
   ·rintro (rfl | ⟨q,e⟩ | q)
    ·exact .inl ⟨.inl rfl,hk⟩
    ·exact .inl ⟨.inr q,e⟩
    ·exact .inr q
   ·rintro (⟨q | q,e⟩ | q)
    ·exact .inl q
    ·exact .inr (.inl ⟨q,e⟩)
    ·exact .inr (.inr q)
theorem Apb {k v:Ab}:∀ {m:Mp},Jk (prs m)=true→Jk (prs (Ab6 k v m))=true
 | [],_=>rfl
 | p::r,h=>by
  obtain ⟨h1,h2⟩:=Kj.1 (show Jk ((p.1,p.2,())::prs r)=true from h)
  simp only [Ab6]
  cases hk:o8 p.1 k with
  | true=>
   have hk:=Gd.1 hk
   simp only [cond_true]
   exact Kj.2 ⟨fun q hq=>by rw [← hk]; exact h1 q hq,h2⟩
  | false=>
   have hk:p.1≠k:=fun q=>by rw [Gd.2 q] at hk; cases hk
   simp only [cond_false]
   refine Kj.2 ⟨fun q hq=>?_,Apb h2⟩
   rcases (Apa q h2).1 hq with ⟨a,_⟩ | rfl
   ·exact h1 q a
   ·exact fun e=>hk e.symm
theorem Apc {k:Ab} (x:Bw):∀ {m:Mp},Jk (prs m)=true→(x∈prs (Ab7 k m)↔x∈prs m∧x.1≠k)
 | [],_=>by simp [Ab7,prs]
 | p::r,h=>by
  obtain ⟨h1,h2⟩:=Kj.1 (show Jk ((p.1,p.2,())::prs r)=true from h)
  simp only [Ab7]
  cases hk:o8 p.1 k with
  | true=>
   have hk:=Gd.1 hk
   simp only [cond_true]
   show x∈prs r↔x∈(p.1,p.2,())::prs r∧_
   rw [List.mem_cons]
   constructor
   ·intro q
    exact ⟨.inr q,fun e=>h1 x q (by rw [e,hk])⟩
   ·rintro ⟨q | q,e⟩
    ·subst q
     exact absurd hk e
    ·exact q
  | false=>
   have hk:p.1≠k:=fun q=>by rw [Gd.2 q] at hk; cases hk
   simp only [cond_false]
   show x∈(p.1,p.2,())::prs (Ab7 k r)↔x∈(p.1,p.2,())::prs r∧_
   rw [List.mem_cons,List.mem_cons,Apc x h2]
   constructor
   ·rintro (rfl | ⟨q,e⟩)
    ·exact ⟨.inl rfl,hk⟩
    ·exact ⟨.inr q,e⟩
   ·rintro ⟨q | q,e⟩
    ·exact .inl q
    ·exact .inr ⟨q,e⟩
theorem Apd {k:Ab}:∀ {m:Mp},Jk (prs m)=true→Jk (prs (Ab7 k m))=true
 | [],_=>rfl
 | p::r,h=>by
  obtain ⟨h1,h2⟩:=Kj.1 (show Jk ((p.1,p.2,())::prs r)=true from h)
  simp only [Ab7]
  cases hk:o8 p.1 k with
  | true=>exact h2
  | false=>
   simp only [cond_false]
   exact Kj.2 ⟨fun q hq=>h1 q ((Apc q h2).1 hq).1,Apd h2⟩
def gtS (a k:Ab):Bool:=!(bl a k || a.toList==k.toList)
def N6 (k v:Ab):Bool→List Bw→List Bw
 | d,[]=>bif d then [] else [(k,v,())]
 | d,p::r=>bif !d&&gtS p.1 k then (k,v,())::p::N6 k v true r else bif p.1.toList==k.toList then N6 k v d r else p::N6 k v d r
def Arj (c:Bp) (l:List Bw):List Bw:=N6 c.1 c.2.1 c.2.2.1 l
theorem A7o {a k:Ab} (h:gtS a k=true):bl k a=true:=by
 unfold gtS at h
 rw [Bool.not_eq_true',Bool.or_eq_false_iff] at h
 cases q:bl k a with
 | true=>rfl
 | false=>exact absurd (A4x h.1 q) (fun e=>by rw [e] at h; simp at h)
theorem Vu {k v:Ab} (x:Bw):∀ (l:List Bw) (d:Bool),x∈N6 k v d l↔(x∈l∧x.1≠k)∨(d=false∧x=(k,v,()))
 | [],d=>by cases d<;>simp [N6]
 | p::r,d=>by
  simp only [N6]
  cases hg:!d&&gtS p.1 k with
  | true=>
   obtain ⟨hd,hg⟩:=Cq hg
   have hd:d=false:=by cases d<;>simp_all
   have hp:p.1≠k:=fun e=>A89 (A7o hg) e.symm
   subst hd
   simp only [cond_true,List.mem_cons,Vu x r true]
   constructor
   ·rintro (q | q | q | q)
    ·exact .inr ⟨by simp,q⟩
    ·exact .inl ⟨.inl q,by rw [q]; exact hp⟩
    ·exact .inl ⟨.inr q.1,q.2⟩
    ·cases q.1
   ·rintro (⟨q | q,e⟩ | q)
    ·exact .inr (.inl q)
    ·exact .inr (.inr (.inl ⟨q,e⟩))
    ·exact .inl q.2
  | false=>
   simp only [cond_false]
   cases he:p.1.toList==k.toList with
   | true=>
    have he:p.1=k:=Gd.1 he
    simp only [cond_true,List.mem_cons,Vu x r d]
    constructor
    ·rintro (q | q)
     ·exact .inl ⟨.inr q.1,q.2⟩
     ·exact .inr q
    ·rintro (⟨q | q,e⟩ | q)
     ·exact absurd (by rw [q]; exact he) e
     ·exact .inl ⟨q,e⟩
     ·exact .inr q
   | false=>
    have he:p.1≠k:=fun q=>by rw [show (p.1.toList==k.toList)=true from Gd.2 q] at he; cases he
    simp only [cond_false,List.mem_cons,Vu x r d]
    constructor
    ·rintro (q | q | q)
     ·exact .inl ⟨.inl q,by rw [q]; exact he⟩
     ·exact .inl ⟨.inr q.1,q.2⟩
     ·exact .inr q
    ·rintro (⟨q | q,e⟩ | q)
     ·exact .inl q
     ·exact .inr (.inl ⟨q,e⟩)
     ·exact .inr (.inr q)
theorem Ab5 {k v:Ab}:∀ (l:List Bw) (d:Bool),Srt l→Srt (N6 k v d l)
 | [],d,_=>by cases d<;>simp [N6,Srt]
 | p::r,d,h=>by
  obtain ⟨h1,h2⟩:=List.pairwise_cons.1 h
  simp only [N6]
  cases hg:!d&&gtS p.1 k with
  | true=>
   obtain ⟨hd,hg⟩:=Cq hg
   have hkp:=A7o hg
   simp only [cond_true]
   have hall:∀ x∈N6 k v true r,x∈r:=fun x hx=>by
    rcases (Vu x r true).1 hx with q | q
    ·exact q.1
    ·cases q.1
   refine List.pairwise_cons.2 ⟨fun x hx=>?_,List.pairwise_cons.2 ⟨fun x hx=>h1 x (hall x hx),Ab5 r true h2⟩⟩
   rcases List.mem_cons.1 hx with rfl | q
   ·exact hkp
   ·exact Agw hkp (h1 x (hall x q))
  | false=>
   simp only [cond_false]
   cases he:p.1.toList==k.toList with
   | true=>exact Ab5 r d h2
   | false=>
    simp only [cond_false]
    refine List.pairwise_cons.2 ⟨fun x hx=>?_,Ab5 r d h2⟩
    rcases (Vu x r d).1 hx with q | ⟨hd,rfl⟩
    ·exact h1 x q.1
    ·subst hd
     have hn:gtS p.1 k=false:=by simpa using hg
     unfold gtS at hn
     rw [he,Bool.or_false,Bool.not_eq_false'] at hn
     exact hn
def A7p (c:Bp) (m:Mp):Mp:=bif c.2.2.1 then Ab7 c.1 m else Ab6 c.1 c.2.1 m
def Azd (m:Mp) (l:List Bw):Prop:=Jk (prs m)=true∧Srt l∧∀ x,x∈prs m↔x∈l
theorem Azd.step {m:Mp} {l:List Bw} (h:Azd m l) (c:Bp):Azd (A7p c m) (Arj c l):=by
 obtain ⟨h1,h2,h3⟩:=h
 unfold A7p Arj
 cases hc:c.2.2.1 with
 | true=>
  refine ⟨Apd h1,Ab5 _ _ h2,fun x=>?_⟩
  simp only [cond_true]
  rw [Apc x h1,Vu,h3]
  simp
 | false=>
  refine ⟨Apb h1,Ab5 _ _ h2,fun x=>?_⟩
  simp only [cond_false]
  rw [Apa x h1,Vu,h3]
  simp
theorem Azd.sort {m:Mp} {l ys:List Bw} (h:Azd m l) (hn:Jk ys=true) (hy:∀ x,x∈ys↔x∈prs m):Xl ys=l:=
 A0v (Atl hn) h.2.1 fun x=>by rw [Aje,hy,h.2.2]
theorem Azd.len {m:Mp} {l:List Bw} (h:Azd m l):m.length=l.length:=by
 have:=congrArg List.length (h.sort h.1 fun _=>Iff.rfl)
 rw [Abw] at this
 simpa [prs] using this
def Vv (l:List Bw) (b:List Bp):List Bw:=F5 (fun _ c l=>Arj c l) 0 b l
def Ed (s:Ki) (b:List Bp):Ki×Int:=
 bif !Aq s then (zSs,1) else bif !Bf b then (zSs,1) else bif decide ((Vv s.1 b).length > 100) then (zSs,2) else ((Vv s.1 b,()),0)
theorem A4y:∀ {l:List Bw},(∀ i,i + 1 < l.length→bl (l.getD i zP).1 (l.getD (i + 1) zP).1=true)→Srt l
 | [],_=>List.Pairwise.nil
 | [p],_=>List.pairwise_singleton _ _
 | p::q::r,h=>by
  have hr:Srt (q::r):=A4y fun i hi=>h (i + 1) (by simp only [List.length_cons] at hi ⊢; omega)
  have h0:bl p.1 q.1=true:=h 0 (by simp)
  refine List.pairwise_cons.2 ⟨fun x hx=>?_,hr⟩
  rcases List.mem_cons.1 hx with rfl | hx
  ·exact h0
  ·exact Agw h0 ((List.pairwise_cons.1 hr).1 x hx)
theorem A2i {s:Ki} (h:Aq s=true):Srt s.1:=A4y fun i hi=>by
 have:=Xs (Cq h).2 (i + 1) hi
 unfold Oj at this
 obtain ⟨_,this⟩:=Cq this
 obtain ⟨_,this⟩:=Cq this
 simpa using this
def To (k v:Ab) (p:Bw) (s:Bool×List Bw):Bool×List Bw:=
 bif !s.1&&gtS p.1 k then (true,bif !(p.1.toList==k.toList) then s.2++[(k,v,())]++[(p.1,p.2.1,())] else s.2++[(k,v,())])
 else (s.1,bif !(p.1.toList==k.toList) then s.2++[(p.1,p.2.1,())] else s.2)
def Axf (k v:Ab) (s:Bool×List Bw):List Bw:=bif s.1 then s.2 else s.2++[(k,v,())]
theorem A0w (k v:Ab):∀ (l:List Bw) (i:Nat) (s:Bool×List Bw),Axf k v (F5 (fun _ p s=>To k v p s) i l s)=s.2++N6 k v s.1 l
 | [],i,s=>by
  show Axf k v s=_
  unfold Axf N6
  cases s.1<;>simp
 | p::r,i,s=>by
  show Axf k v (F5 (fun _ p s=>To k v p s) (i + 1) r (To k v p s))=_
  rw [A0w k v r (i + 1)]
  unfold To
  simp only [N6]
  cases hg:!s.1&&gtS p.1 k with
  | true=>
   obtain ⟨_,h2⟩:=Cq hg
   have he:(p.1.toList==k.toList)=false:=by
    unfold gtS at h2
    rw [Bool.not_eq_true',Bool.or_eq_false_iff] at h2
    exact h2.2
   rw [he]
   simp only [cond_true,Bool.not_false]
   rw [List.append_assoc,List.append_assoc]
   rfl
  | false=>
   simp only [cond_false]
   cases he:p.1.toList==k.toList with
   | true=>rfl
   | false=>
    simp only [cond_true,cond_false,Bool.not_false]
    rw [List.append_assoc]
    rfl
theorem Ape (k v:Ab) (p:Bw) (s:Bool×List Bw):(To k v p s).2.length≤s.2.length + 2:=by
 unfold To
 cases !s.1&&gtS p.1 k<;>cases !(p.1.toList==k.toList)<;>simp
theorem A6l (c:Bp) (l:List Bw):(Arj c l).length≤l.length + 1:=by
 unfold Arj
 generalize c.2.2.1=d
 induction l generalizing d with
 | nil=>cases d<;>simp [N6]
 | cons p r ih=>
  simp only [N6]
  have ht:∀ r:List Bw,(N6 c.1 c.2.1 true r).length≤r.length:=fun r=>by
   induction r with
   | nil=>simp [N6]
   | cons q r ih2=>
    simp only [N6,Bool.not_true,Bool.false_and,cond_false]
    cases q.1.toList==c.1.toList with
    | true=>simp only [cond_true,List.length_cons]; omega
    | false=>simp only [cond_false,List.length_cons]; omega
  cases !d&&gtS p.1 c.1 with
  | true=>simp only [cond_true,List.length_cons]; have:=ht r; omega
  | false=>
   simp only [cond_false]
   cases p.1.toList==c.1.toList with
   | true=>simp only [cond_true,List.length_cons]; have:=ih d; omega
   | false=>simp only [cond_false,List.length_cons]; have:=ih d; omega
theorem Ak3 {q:Bw→Prop}:∀ {b:List Bp} {i:Nat} {l:List Bw},(∀ x∈l,q x)→(∀ c∈b,q (c.1,c.2.1,()))→∀ x∈F5 (fun _ c l=>Arj c l) i b l,q x
 | [],_,_,h,_=>h
 | c::b,i,l,h,hb=>Ak3 (b:=b) (i:=i + 1) (fun x hx=>by
  rcases (Vu x l c.2.2.1).1 hx with q1 | q1
  ·exact h x q1.1
  ·rw [q1.2]; exact hb c List.mem_cons_self) (fun c' hc'=>hb c' (List.mem_cons_of_mem _ hc'))
def A8g (x:Bw):Prop:=a9 x.1=true∧x.2.1.size≤100
theorem A4z {l:List Bw} (hl:l.length≤100) (hm:∀ x∈l,A8g x) (hs:Srt l):Aq (l,())=true:=by
 unfold Aq
 rw [Ag (show (l,()).1.length≤100 from hl),Bool.true_and]
 refine List.all_eq_true.2 fun i hi=>?_
 have hi:i < l.length:=by simpa [List.mem_range'] using hi
 have hx:l.getD i zP=l[i]:=by simp [hi]
 obtain ⟨h1,h2⟩:=hm l[i] (List.getElem_mem hi)
 show Oj l i=true
 unfold Oj
 rw [hx,h1,Ag h2,Bool.true_and,Bool.true_and]
 cases i with
 | zero=>rfl
 | succ i=>
  have hx2:l.getD i zP=l[i]:=by simp [show i < l.length by omega]
  have:=(List.pairwise_iff_getElem.1 hs) i (i + 1) (by omega) hi (Nat.lt_succ_self i)
  show ((i + 1==0) || bl (l.getD (i + 1 - 1) zP).1 l[i + 1].1)=true
  rw [show i + 1 - 1=i from rfl,hx2,this,Bool.or_true]
theorem A2j {s:Ki} (h:Aq s=true):∀ x∈s.1,A8g x:=fun x hx=>by
 obtain ⟨i,hi,rfl⟩:=u9 zP hx
 have:=Xs (Cq h).2 i hi
 unfold Oj at this
 obtain ⟨h1,h2⟩:=Cq this
 exact ⟨h1,Hm (Cq h2).1⟩
theorem A6m {b:List Bp} (h:Bf b=true):∀ c∈b,A8g (c.1,c.2.1,()):=fun c hc=>by
 obtain ⟨i,hi,rfl⟩:=u9 zC hc
 have:=(W4 h).2 i hi
 unfold Te at this
 obtain ⟨h1,h2⟩:=Cq this
 exact ⟨h1,Hm (Cq h2).1⟩
theorem Axg:∀ {b:List Bp} {i:Nat} {l:List Bw},Srt l→Srt (F5 (fun _ c l=>Arj c l) i b l)
 | [],_,_,h=>h
 | c::b,i,l,h=>Axg (b:=b) (i:=i + 1) (Ab5 _ _ h)
theorem w6 (s:Ki) (b:List Bp):Aq (Ed s b).1=true:=by
 unfold Ed
 cases hv:Aq s with
 | false=>rfl
 | true=>
  cases hb:Bf b with
  | false=>rfl
  | true=>
   simp only [Bool.not_true,cond_false]
   by_cases q:(Vv s.1 b).length > 100
   ·rw [Ag q]; rfl
   ·rw [Bh q]
    exact A4z (by omega) (Ak3 (A2j hv) (A6m hb)) (Axg (A2i hv))
theorem Aze (s:Ki) (b:List Bp):G9 tSt (Ed s b).1=true:=Tm (w6 s b)
def G7 (s:Lp) (b:List Bp):List Ab:=Alk (Fi b) s.2.2.1 (s.2.2.2.1.2.2.1 + s.2.2.2.2.1) s.1
def Gg (s:Lp) (b:List Bp):Td:=
 bif !A4 s then m5 1 else bif !Bf b then m5 1 else
 bif (Ed s.2.2.2.2.2.2.1 b).2 != 0 then m5 2 else
 bif decide (Lv (Ed s.2.2.2.2.2.2.1 b).1 s.1 > An s.2.1 - 1) then m5 3 else
 bif decide (nI (G7 s b).length > An s.2.1 - s.2.2.2.2.1) then m5 4 else
 (0,(s.1,s.2.1,s.2.2.1,s.2.2.2.1,s.2.2.2.2.1 + nI (G7 s b).length,s.2.2.2.2.2.1 + nI (G7 s b).length,(Ed s.2.2.2.2.2.2.1 b).1,()),Gf (Br s.2.2.2.1.2.1 s.2.1 + s.2.2.2.2.1) (G7 s b),())
theorem Axh (s:Lp) (b:List Bp):G9 Axb (Gg s b)=true:=by
 unfold Gg
 cases A4 s with
 | false=>rfl
 | true=>
  cases Bf b with
  | false=>rfl
  | true=>
   simp only [Bool.not_true,cond_false]
   cases (Ed s.2.2.2.2.2.2.1 b).2 != 0 with
   | true=>rfl
   | false=>
    simp only [cond_false]
    cases decide (Lv (Ed s.2.2.2.2.2.2.1 b).1 s.1 > An s.2.1 - 1) with
    | true=>rfl
    | false=>
     simp only [cond_false]
     cases decide (nI (G7 s b).length > An s.2.1 - s.2.2.2.2.1) with
     | true=>rfl
     | false=>
      refine Ab2 (Aze _ _) (Ao6 ?_ (Aew _ _ fun x hx=>Atj hx))
      have:=Ana b s.2.2.1 (s.2.2.2.1.2.2.1 + s.2.2.2.2.1) s.1
      rw [Xx]
      unfold G7
      omega
theorem Azf {s:Ki} {b:List Bp} (hv:Aq s=true) (hb:Bf b=true):(Ed s b).2=0∨(Ed s b).2=2:=by
 unfold Ed
 rw [hv,hb]
 simp only [Bool.not_true,cond_false]
 cases decide ((Vv s.1 b).length > 100) with
 | true=>exact .inr rfl
 | false=>exact .inl rfl
def A8h (r:Rt):Prop:=(0≤r.1∧r.1≤1000000000)∧(0≤r.2.1∧r.2.1≤1)∧(1≤r.2.2.1∧r.2.2.1≤999999000)∧(0≤r.2.2.2.1∧r.2.2.2.1≤60000)
theorem Atm {x:Ab} {w:Int} {p:Pg} (h:Ch x w=(p,true)):1≤p.2.1∧p.2.1≤60000:=by
 obtain ⟨_,_,_,h4⟩:=Tk h
 unfold Hn at h4
 obtain ⟨_,h4⟩:=Cq h4
 obtain ⟨_,h4⟩:=Cq h4
 exact Ec (Cq h4).1
theorem Ak4 {s:Ab} {w a:Int} {best:Rt} (h:A8h best):A8h (Lu s w a best):=by
 unfold Lu
 cases hc:(Ch s w).2&&((Ch s w).1.1==4)&&decide ((Ch s w).1.2.2.2.1.size=5)&&((Ch s w).1.2.2.1 % 2==a)&&Tg (Mu (Ch s w).1)&&decide ((Ch s w).1.2.2.1 > best.1) with
 | false=>exact h
 | true=>
  simp only [Bool.and_eq_true] at hc
  obtain ⟨⟨⟨⟨⟨h1,_⟩,_⟩,_⟩,h5⟩,_⟩:=hc
  have hp:Ch s w=((Ch s w).1,true):=by rw [← h1]
  obtain ⟨_,hn,_⟩:=Aux hp
  have hl:=Atm hp
  obtain ⟨r1,r2⟩:=Cq h5
  have r1:=Ec r1
  have r2:=Ec r2
  simp only [cond_true]
  exact ⟨⟨by show 0≤(Ch s w).1.2.2.1; omega,hn.2⟩,r1,r2,⟨by show 0≤(Ch s w).1.2.1; omega,hl.2⟩⟩
theorem Axi {d:Dk} {w:Int} (h:As d=true) (hw:Di w 1 8=true):A8h (Cv d w):=by
 unfold Cv
 rw [h,hw]
 exact Ak4 (Ak4 ⟨⟨by decide,by decide⟩,⟨by decide,by decide⟩,⟨by decide,by decide⟩,by decide,by decide⟩)
theorem Atn (w first:Int):∀ (l:List Ab) (i:Int) (st:ScT),0≤i→(0≤st.2.2.2.2.1∧st.2.2.2.2.1≤i)→(0≤st.2.2.2.2.2∧st.2.2.2.2.2≤60000)→
  (0≤(Db w first l i st).2.1∧(Db w first l i st).2.1≤i + l.length)∧(0≤(Db w first l i st).2.2.1∧(Db w first l i st).2.2.1≤60000)
 | [],i,st,h0,h1,h2=>⟨⟨h1.1,by show st.2.2.2.2.1≤i + ((0:Nat):Int); omega⟩,h2⟩
 | x::l,i,st,h0,h1,h2=>by
  unfold Db
  cases hc:Nq w first i st x with
  | false=>exact ⟨⟨h1.1,by show st.2.2.2.2.1≤i + ((l.length + 1:Nat):Int); omega⟩,h2⟩
  | true=>
   simp only [cond_true]
   unfold Nq at hc
   have hp:Ch x w=((Ch x w).1,true):=by rw [← (Cq hc).1]
   have hl:=Atm hp
   have:=Atn w first l (i + 1) (I0 i (Ch x w).1 st) (by omega) (by
    unfold I0
    cases (Ch x w).1.1==1<;>cases (Ch x w).1.1==2<;>simp only [cond_true,cond_false]<;>omega) (by
    unfold I0
    cases (Ch x w).1.1==1<;>cases (Ch x w).1.1==2<;>simp only [cond_true,cond_false]<;>omega)
   refine ⟨⟨this.1.1,?_⟩,this.2⟩
   have h3:=this.1.2
   simp only [List.length_cons]
   omega
theorem A40 (d:Dk) (f n first life w:Int) (hn:0≤n) (hl:0≤life∧life≤60000):(0≤(Tn d f n first life w).2.1∧(Tn d f n first life w).2.1≤n)∧(0≤(Tn d f n first life w).2.2.1∧(Tn d f n first life w).2.2.1≤60000):=by
 unfold Tn
 cases hc:As d&&(Di w 1 8&&(decide (0≤f)&&(decide (0≤n)&&(decide (f≤(d.1.length:Int))&&decide (n≤(d.1.length:Int) - f))))) with
 | false=>exact ⟨⟨Int.le_refl 0,hn⟩,Int.le_refl 0,show (0:Int)≤60000 by omega⟩
 | true=>
  simp only [cond_true]
  have:=Atn w first (seen d f 0 n.toNat) 0 (0,life,z0,[],0,life) (by omega) ⟨by show (0:Int)≤0; omega,by show (0:Int)≤0; omega⟩ hl
  rw [Xw] at this
  exact ⟨⟨this.1.1,by have:=this.1.2; omega⟩,this.2⟩
def Mw:List Ab→Ki→Option Ki
 | [],s=>some s
 | e::r,s=>bif (Ms e).2 then (bif (Ed s (Ms e).1).2==0 then Mw r (Ed s (Ms e).1).1 else none) else none
theorem Ol:∀ {l:List Ab} {s st:Ki},Aq s=true→Mw l s=some st→Aq st=true
 | [],s,st,h,e=>by cases e; exact h
 | x::r,s,st,h,e=>by
  unfold Mw at e
  cases h1:(Ms x).2 with
  | false=>rw [h1] at e; cases e
  | true=>
   rw [h1] at e
   simp only [cond_true] at e
   cases h2:(Ed s (Ms x).1).2==0 with
   | false=>rw [h2] at e; cases e
   | true=>
    rw [h2] at e
    exact Ol (w6 s (Ms x).1) e
def Xy (d:Dk) (w:Int) (r:Rt) (x:Scd) (st:Ki):Td:=
 bif decide (x.2.2.1 + 1 > 60000) then m5 3 else bif decide (Lv st w > An d.1.length - 1) then m5 4 else
 bif decide (x.2.1 < An d.1.length) then (0,(w,nI d.1.length,x.2.2.1 + 1,r,x.2.1 + 1,0,st,()),[Ajd (Br r.2.1 d.1.length + x.2.1) (C6 (3,x.2.2.1 + 1,r.2.2.1 + x.2.1,z0,()) w),Axa],())
 else Vt (w,nI d.1.length,x.2.2.1 + 1,r,x.2.1,0,st,())
def Lc (d:Dk) (w:Int):Scd:=Tn d (Br (Cv d w).2.1 d.1.length) (An d.1.length) (Cv d w).2.2.1 (Cv d w).2.2.2.1 w
def w8 (d:Dk) (w:Int):Td:=
 bif !As d then m5 1 else bif !Di w 1 8 then m5 1 else
 match Mw (Lc d w).1 zSs with
 | none=>m5 2
 | some st=>Xy d w (Cv d w) (Lc d w) st
theorem A0x {d:Dk} {w:Int} {r:Rt} {x:Scd} {st:Ki} (h:x.2.2.1 + 1 > 60000):Xy d w r x st=m5 3:=by unfold Xy; rw [Ag h]; rfl
theorem A0y {d:Dk} {w:Int} {r:Rt} {x:Scd} {st:Ki} (h:¬ x.2.2.1 + 1 > 60000) (h2:Lv st w > An d.1.length - 1):Xy d w r x st=m5 4:=by unfold Xy; rw [Bh h,Ag h2]; rfl
theorem A0z {d:Dk} {w:Int} {r:Rt} {x:Scd} {st:Ki} (h:¬ x.2.2.1 + 1 > 60000) (h2:¬ Lv st w > An d.1.length - 1) (h3:x.2.1 < An d.1.length):Xy d w r x st=(0,(w,nI d.1.length,x.2.2.1 + 1,r,x.2.1 + 1,0,st,()),[Ajd (Br r.2.1 d.1.length + x.2.1) (C6 (3,x.2.2.1 + 1,r.2.2.1 + x.2.1,z0,()) w),Axa],()):=by unfold Xy; rw [Bh h,Bh h2,Ag h3]; rfl
theorem A00 {d:Dk} {w:Int} {r:Rt} {x:Scd} {st:Ki} (h:¬ x.2.2.1 + 1 > 60000) (h2:¬ Lv st w > An d.1.length - 1) (h3:¬ x.2.1 < An d.1.length):Xy d w r x st=Vt (w,nI d.1.length,x.2.2.1 + 1,r,x.2.1,0,st,()):=by unfold Xy; rw [Bh h,Bh h2,Bh h3]; rfl
theorem Azg {d:Dk} {w:Int} {r:Rt} {x:Scd} {st:Ki} (h:Aq st=true):G9 Axb (Xy d w r x st)=true:=by
 unfold Xy
 cases decide (x.2.2.1 + 1 > 60000) with
 | true=>rfl
 | false=>
  cases decide (Lv st w > An d.1.length - 1) with
  | true=>rfl
  | false=>
   simp only [cond_false]
   cases decide (x.2.1 < An d.1.length) with
   | true=>
    refine Ab2 (Tm h) (Ao6 (show 2≤1073741824 by omega) fun o ho=>?_)
    simp only [List.mem_cons,List.not_mem_nil,or_false] at ho
    rcases ho with rfl | rfl
    ·exact Zw _ _
    ·exact Nat.zero_le _
   | false=>exact Ao7 (Tm h)
theorem A2k (d:Dk) (w:Int):G9 Axb (w8 d w)=true:=by
 unfold w8
 cases As d with
 | false=>rfl
 | true=>
  cases Di w 1 8 with
  | false=>rfl
  | true=>
   simp only [Bool.not_true,cond_false]
   cases ho:Mw (Lc d w).1 zSs with
   | none=>rfl
   | some st=>exact Azg (Ol rfl ho)
theorem Ak5 {s:Lp} (h:Aq s.2.2.2.2.2.2.1=true):Aq (Vt s).2.1.2.2.2.2.2.2.1=true:=by
 unfold Vt Ao5
 cases decide (s.2.2.2.1.1 + 1 > 1000000000) with
 | true=>rfl
 | false=>
  cases decide (s.2.2.2.1.2.2.1 + An s.2.1 > 999999000) with
  | true=>rfl
  | false=>exact h
theorem Axj {d:Dk} {w:Int} {r:Rt} {x:Scd} {st:Ki} (h:Aq st=true):Aq (Xy d w r x st).2.1.2.2.2.2.2.2.1=true:=by
 unfold Xy
 cases decide (x.2.2.1 + 1 > 60000) with
 | true=>rfl
 | false=>
  cases decide (Lv st w > An d.1.length - 1) with
  | true=>rfl
  | false=>
   simp only [cond_false]
   cases decide (x.2.1 < An d.1.length) with
   | true=>exact h
   | false=>exact Ak5 h
theorem Azh (d:Dk) (w:Int):Aq (w8 d w).2.1.2.2.2.2.2.2.1=true:=by
 unfold w8
 cases As d with
 | false=>rfl
 | true=>
  cases Di w 1 8 with
  | false=>rfl
  | true=>
   simp only [Bool.not_true,cond_false]
   cases ho:Mw (Lc d w).1 zSs with
   | none=>rfl
   | some st=>exact Axj (Ol rfl ho)
theorem Ato {E:Type} {xs:List Ab} {g:Nat→Int→List Bw→Option E} {ok:List Bw→E} {bad:E}
  (hs:∀ m (i:Nat) r,i < xs.length→g (m + 1) i r=bif !(Ms (xs.getD i z0)).2 then some bad else bif (Ed (r,()) (Ms (xs.getD i z0)).1).2 != 0 then some bad else g m ((i + 1:Nat):Int) (Ed (r,()) (Ms (xs.getD i z0)).1).1.1)
  (he:∀ m r,g (m + 1) (xs.length:Int) r=some (ok r)):
  ∀ (m i:Nat) (r:List Bw),i≤xs.length→xs.length - i < m→g m i r=some (match Mw (xs.drop i) (r,()) with
   | some st=>ok st.1
   | none=>bad)
 | 0,i,r,_,hm=>by omega
 | m + 1,i,r,hl,hm=>by
  by_cases h:i < xs.length
  ·rw [hs m i r h,Mi xs i z0 h,Ato hs he m (i + 1) _ (by omega) (by omega)]
   simp only [Mw]
   cases (Ms (xs.getD i z0)).2 with
   | false=>rfl
   | true=>
    simp only [Bool.not_true,cond_false,cond_true]
    by_cases hc:(Ed (r,()) (Ms (xs.getD i z0)).1).2=0
    ·rw [hc]; rfl
    ·rw [show ((Ed (r,()) (Ms (xs.getD i z0)).1).2 != 0)=true from bne_iff_ne.2 hc,show ((Ed (r,()) (Ms (xs.getD i z0)).1).2==0)=false from beq_eq_false_iff_ne.2 hc]
     rfl
  ·have:i=xs.length:=by omega
   subst this
   rw [he,List.drop_length]
   rfl
def A01 (es:List Ab):Ki×Bool:=match Mw es zSs with
 | some st=>(st,true)
 | none=>(zSs,false)
section
theorem A2l {w:Int} (h:Di w 1 8=true):(Ch zS w).2=false:=by
 obtain ⟨h1,h2⟩:=Ec h
 have:w=1∨w=2∨w=3∨w=4∨w=5∨w=6∨w=7∨w=8:=by omega
 rcases this with rfl | rfl | rfl | rfl | rfl | rfl | rfl | rfl<;>decide +kernel
theorem Au1 (s:Ab):s++⟨#[]⟩=s:=Rc (by rw [Mj]; exact List.append_nil _)
def cat:List Ab→Ab
 | []=>⟨#[]⟩
 | p::r=>p++cat r
theorem Axk {s:Ab} {n:Int} (h0:0≤n) (h1:n≤(s.size:Int)):Af s 0 n++Af s n (nI s.size)=s:=by
 unfold Af
 have e1:Int.toNat 0=0:=rfl
 have e2:Int.toNat (nI s.size)=s.size:=by simp [nI]
 rw [e1,e2,ByteArray.extract_append_extract]
 rw [Nat.min_eq_left (Nat.zero_le _),Nat.max_eq_right (by omega)]
 exact ByteArray.extract_zero_size
theorem Axl (n:Nat) (hn:1≤n):∀ (f:Nat) (s:Ab),s.size≤f→(∀ p∈If n f s,p.size≤n)∧cat (If n f s)=s∧If n f s≠[]
 | 0,s,h=>by
  have e:cat [s]=s:=Au1 s
  exact ⟨fun p hp=>by rw [List.mem_singleton.1 hp]; omega,e,by simp [If]⟩
 | f + 1,s,h=>by
  unfold If
  by_cases q:s.size > n
  ·rw [if_pos q]
   have z1:=C9 (s:=s) (a:=0) (b:=(n:Int)) (by omega) (by omega) (by omega)
   have z2:=C9 (s:=s) (a:=(n:Int)) (b:=nI s.size) (by omega) (by simp only [nI]; omega) (Int.le_refl _)
   obtain ⟨k1,k2,_⟩:=Axl n hn f (Af s n (nI s.size)) (by simp only [nI] at *; omega)
   refine ⟨fun p hp=>?_,?_,by simp⟩
   ·rcases List.mem_cons.1 hp with e | e
    ·rw [e]; omega
    ·exact k1 p e
   ·show Af s 0 n++cat (If n f (Af s n (nI s.size)))=s
    rw [k2]
    exact Axk (by omega) (by omega)
  ·rw [if_neg q]
   have e:cat [s]=s:=Au1 s
   exact ⟨fun p hp=>by rw [List.mem_singleton.1 hp]; omega,e,by simp⟩
theorem Apf (e:Ab) {w:Int} (h:Di w 1 8=true):(∀ p∈A8 e w,(p.size:Int)≤56 - w)∧cat (A8 e w)=e∧A8 e w≠[]:=by
 obtain ⟨h1,h2⟩:=Ec h
 obtain ⟨k1,k2,k3⟩:=Axl (56 - w).toNat (by omega) e.size e (Nat.le_refl _)
 exact ⟨fun p hp=>by have:=k1 p hp; omega,k2,k3⟩
theorem Ajf {w first i:Int} {st:ScT} {x:Ab} {r:List Ab} (h:Nq w first i st x=true):Db w first (x::r) i st=Db w first r (i + 1) (I0 i (Ch x w).1 st):=by
 show (bif Nq w first i st x then _ else _)=_
 rw [h]
 rfl
theorem A2m {w first i:Int} {st:ScT} {x:Ab} {r:List Ab} (h:Nq w first i st x=false):Db w first (x::r) i st=Su st:=by
 show (bif Nq w first i st x then _ else _)=_
 rw [h]
 rfl
theorem Ajg {w first i:Int} {st:ScT} {p:Pg} (h:Hn p w=true):Nq w first i st (C6 p w)=(p.2.2.1 - i==first&&Ac3 st.1 st.2.1 p):=by
 unfold Nq
 rw [Sz h]
 rfl
theorem Agx {w life k n:Int} {p:Ab} (hw:Di w 1 8=true) (hl:Di life 1 60000=true) (hk:k=1∨k=2) (h1:1≤n) (h2:n≤1000000000) (hp:(p.size:Int)≤56 - w):Hn (k,life,n,p,()) w=true:=by
 unfold Hn
 simp only
 rw [hw,hl,Ag hp]
 have e1:Di k 1 4=true:=by rcases hk with rfl | rfl<;>rfl
 have e2:Di n 1 1000000000=true:=by unfold Di; rw [Ag h1,Ag h2]; rfl
 have e3:(k != 3)=true:=by rcases hk with rfl | rfl<;>rfl
 rw [e1,e2,e3]
 rfl
theorem Ajh {k life wk wl:Int} {n:Int} {p:Ab} (hk:k=1∨k=2) (h1:wl≤life) (h2:wk=1→wl=life):Ac3 wk wl (k,life,n,p,())=true:=by
 unfold Ac3
 simp only
 rw [Bh (show ¬ life < wl by omega)]
 by_cases q:wk=1
 ·have:=h2 q
  subst this
  rcases hk with rfl | rfl<;>simp
 ·have:(wk != 1)=true:=bne_iff_ne.2 q
  rcases hk with rfl | rfl<;>simp [this]
theorem Apg {w first life:Int} (hw:Di w 1 8=true) (hl:Di life 1 60000=true) (rest:List Ab):∀ (P:List Ab) (i:Int) (st:ScT),P≠[]→(∀ p∈P,(p.size:Int)≤56 - w)→1≤first + i→first + i + P.length≤1000000001→
  st.2.1≤life→(st.1=1→st.2.1=life)→Db w first (Ps life w (first + i) P++rest) i st=Db w first rest (i + P.length) (2,life,z0,st.2.2.2.1++[st.2.2.1++cat P],i + P.length,life)
 | [],_,_,h,_,_,_,_,_=>absurd rfl h
 | [p],i,st,_,hs,h1,h2,h3,h4=>by
  have ok:Hn (2,life,first + i,p,()) w=true:=Agx hw hl (.inr rfl) h1 (by simp only [D9] at h2; omega) (hs p (by simp))
  show Db w first (C6 (2,life,first + i,p,()) w::rest) i st=_
  rw [Ajf (by rw [Ajg ok,Ajh (.inr rfl) h3 h4]; simp),Sz ok]
  have e:cat [p]=p:=Au1 p
  rw [e]
  rfl
 | p::q::r,i,st,_,hs,h1,h2,h3,h4=>by
  simp only [List.length_cons] at h2
  have ok:Hn (1,life,first + i,p,()) w=true:=Agx hw hl (.inl rfl) h1 (by omega) (hs p (by simp))
  show Db w first (C6 (1,life,first + i,p,()) w::(Ps life w (first + i + 1) (q::r)++rest)) i st=_
  rw [Ajf (by rw [Ajg ok,Ajh (.inl rfl) h3 h4]; simp),Sz ok,show first + i + 1=first + (i + 1) by omega]
  rw [Apg hw hl rest (q::r) (i + 1) _ (by simp) (fun x hx=>hs x (by simp only [List.mem_cons] at hx ⊢; exact .inr hx)) (by omega) (by simp only [List.length_cons]; omega) (Int.le_refl life) (fun _=>rfl)]
  have e1:i + 1 + ((q::r).length:Int)=i + ((p::q::r).length:Int):=by simp only [List.length_cons]; omega
  have e2:(I0 i (1,life,first + i,p,()) st).2.2.2.1=st.2.2.2.1:=rfl
  have e3:(I0 i (1,life,first + i,p,()) st).2.2.1=st.2.2.1++p:=rfl
  have e4:cat (p::q::r)=p++cat (q::r):=rfl
  rw [e1,e2,e3,e4,ByteArray.append_assoc]
theorem Atp {w first life:Int} (hw:Di w 1 8=true) (hl:Di life 1 60000=true) (rest:List Ab):∀ (P:List Ab) (i:Int) (st:ScT) (m:Nat),m < P.length→(∀ p∈P,(p.size:Int)≤56 - w)→1≤first + i→first + i + P.length≤1000000001→
  st.2.1≤life→(st.1=1→st.2.1=life)→∃ st':ScT,st'.2.2.2=st.2.2.2∧(m=0→st'=st)∧(0 < m→st'.1=1∧st'.2.1=life)∧Db w first ((Ps life w (first + i) P).take m++rest) i st=Db w first rest (i + m) st'
 | P,i,st,0,_,_,_,_,_,_=>⟨st,rfl,fun _=>rfl,fun q=>absurd q (by omega),by simp⟩
 | [],_,_,m + 1,h,_,_,_,_,_=>by simp at h
 | [p],_,_,m + 1,h,_,_,_,_,_=>by simp at h
 | p::q::r,i,st,m + 1,hm,hs,h1,h2,h3,h4=>by
  simp only [List.length_cons] at h2 hm
  have ok:Hn (1,life,first + i,p,()) w=true:=Agx hw hl (.inl rfl) h1 (by omega) (hs p (by simp))
  obtain ⟨st',k1,k0,k2,k3⟩:=Atp (first:=first) hw hl rest (q::r) (i + 1) (I0 i (1,life,first + i,p,()) st) m (by simp only [List.length_cons]; omega) (fun x hx=>hs x (by simp only [List.mem_cons] at hx ⊢; exact .inr hx)) (by omega) (by simp only [List.length_cons]; omega) (Int.le_refl life) (fun _=>rfl)
  have e3:Db w first ((Ps life w (first + i) (p::q::r)).take (m + 1)++rest) i st=Db w first rest (i + ((m + 1:Nat):Int)) st':=by
   show Db w first (C6 (1,life,first + i,p,()) w::((Ps life w (first + i + 1) (q::r)).take m++rest)) i st=_
   rw [Ajf (by rw [Ajg ok,Ajh (.inl rfl) h3 h4]; simp),Sz ok,show first + i + 1=first + (i + 1) by omega,k3]
   congr 1
   omega
  refine ⟨st',k1,fun q=>absurd q (by omega),fun _=>?_,e3⟩
  by_cases q0:0 < m
  ·exact k2 q0
  ·have:m=0:=by omega
   rw [k0 this]
   exact ⟨rfl,rfl⟩
def put (d:Dk) (a:Int) (x:Ab):Dk:=(d.1,d.2.1++[(a,x,())],())
theorem A6n {d:Dk} {a b:Int} {x:Ab}:Ab9 (put d a x) b=bif a==b then x else Ab9 d b:=by
 unfold Ab9 put
 simp only [List.reverse_append,List.reverse_singleton,List.singleton_append,Tf]
structure LD (d:Dk) (L:List Ab) (k:Nat):Prop where
 ok:Fq d
 n:d.1.length=100
 p:d.2.1.length≤k
 s:seen d 2 0 90=L
theorem LD.len {d:Dk} {L:List Ab} {k:Nat} (h:LD d L k):L.length=90:=by rw [← h.s]; exact Xw _ _ _ _
theorem A41 {d:Dk} {j:Nat} {x:Ab}:seen (put d (2 + (j:Int)) x) 2 0 90=(seen d 2 0 90).set j x:=by
 apply List.ext_getElem
 ·rw [List.length_set,Xw,Xw]
 ·intro i h1 h2
  rw [List.getElem_set]
  unfold seen
  simp only [List.getElem_map,List.getElem_range',A6n]
  by_cases q:j=i
  ·subst q
   rw [if_pos rfl,show (2 + (j:Int)==2 + ((0 + 1 * j:Nat):Int))=true from beq_iff_eq.2 (by omega)]
   rfl
  ·rw [if_neg q,show (2 + (j:Int)==2 + ((0 + 1 * i:Nat):Int))=false from beq_eq_false_iff_ne.2 (by omega)]
   rfl
theorem LD.put {d:Dk} {L:List Ab} {k:Nat} (h:LD d L k) (hk:k < 300) {j:Nat} (hj:j < 90) {x:Ab} (hx:x.size=64):
  Bg d [(false,2 + (j:Int),x,())] 1=put d (2 + (j:Int)) x∧LD (put d (2 + (j:Int)) x) (L.set j x) (k + 1):=by
 have hp:=h.p
 have e1:opS d (false,2 + (j:Int),x,())=V.put d (2 + (j:Int)) x:=by
  unfold opS Ab8
  rw [h.n,Ag (show (0:Int)≤2 + (j:Int) by omega),Ag (show 2 + (j:Int) < ((100:Nat):Int) by omega),Ag (show x.size=64 from hx),Ag (show d.2.1.length < 300 by omega)]
  rfl
 have e2:Bg d [(false,2 + (j:Int),x,())] 1=opS d (false,2 + (j:Int),x,()):=by
  unfold Bg
  rw [h.ok.valid]
  rfl
 refine ⟨e2.trans e1,?_,h.n,?_,?_⟩
 ·rw [← e1]
  exact h.ok.op _
 ·show (d.2.1++[_]).length≤k + 1
  rw [Fg,D9]
  omega
 ·rw [← h.s]
  exact A41
def lay (A:List Ab):List Ab:=A++List.replicate (90 - A.length) zS
theorem A6o {A:List Ab} {x:Ab} (h:A.length < 90):(lay A).set A.length x=lay (A++[x]):=by
 unfold lay
 rw [Fg,D9,List.set_append_right (h:=Nat.le_refl _),Nat.sub_self]
 obtain ⟨m,hm⟩:∃ m,90 - A.length=m + 1:=⟨90 - A.length - 1,by omega⟩
 rw [hm,show 90 - (A.length + 1)=m by omega,List.replicate_succ,List.append_assoc]
 rfl
theorem LD.new:LD (Ok 100) (lay []) 0:=by
 have e:Ok 100=(List.replicate 100 zS,[],()):=rfl
 have hz:zS.size=64:=by decide +kernel
 have ho:Fq (Ok 100):=by
  rw [e]
  exact ⟨by simp,by simp,Nat.zero_le _,fun i hi=>by
   have hi:i < (List.replicate 100 zS).length:=hi
   show ((List.replicate 100 zS).getD i z0).size=64
   rw [List.getD_eq_getElem?_getD,List.getElem?_eq_getElem hi,Option.getD_some,List.getElem_replicate]
   exact hz,fun i hi=>absurd hi (Nat.not_lt_zero _)⟩
 refine ⟨ho,by rw [e]; simp,Nat.le_refl _,?_⟩
 show _=List.replicate 90 zS
 refine List.eq_replicate_iff.2 ⟨Xw _ _ _ _,fun b hb=>?_⟩
 obtain ⟨k,hk,rfl⟩:=List.mem_map.1 hb
 have hk:k < 90:=by simp only [List.mem_range'] at hk; omega
 rw [e]
 show (List.replicate 100 zS).getD (Int.toNat (2 + (k:Int))) z0=zS
 rw [List.getD_eq_getElem?_getD,List.getElem?_eq_getElem (by rw [List.length_replicate]; omega),Option.getD_some,List.getElem_replicate]
theorem LD.app {d:Dk} {A:List Ab} {k:Nat} (h:LD d (lay A) k) (hk:k < 300) (hA:A.length < 90) {x:Ab} (hx:x.size=64):
  Bg d [(false,2 + (A.length:Int),x,())] 1=V.put d (2 + (A.length:Int)) x∧LD (V.put d (2 + (A.length:Int)) x) (lay (A++[x])) (k + 1):=by
 have:=h.put hk (j:=A.length) hA hx
 rwa [A6o hA] at this
theorem A2n (d:Dk) (a:Int) {m:Nat} (h:m≤90):seen d a 0 m=(seen d a 0 90).take m:=by
 unfold seen
 rw [← List.map_take]
 congr 1
 apply List.ext_getElem
 ·simp
  omega
 ·intro i h1 h2
  simp
theorem LD.scan {d:Dk} {L:List Ab} {k:Nat} (h:LD d L k) {w:Int} (hw:Di w 1 8=true) (first life:Int) {m:Nat} (hm:m≤90):
  Tn d 2 (m:Int) first life w=Db w first (L.take m) 0 (0,life,z0,[],0,life):=by
 unfold Tn
 rw [h.ok.valid,hw,h.n,Ag (show (0:Int)≤(m:Int) by omega),Ag (show (m:Int)≤((100:Nat):Int) - 2 by omega),Jh,A2n _ _ hm,h.s]
 rfl
theorem A2o {w:Int} (hw:Di w 1 8=true) (first i:Int) (st:ScT) (R:List Ab):Db w first (zS::R) i st=Su st:=A2m (by
 unfold Nq
 rw [A2l hw]
 rfl)
theorem Atq {p:Pg} {w:Int} (h:Hn p w=true):(C6 p w).size=64:=(Tk (s:=C6 p w) (w:=w) (p:=p) (Sz h)).1
theorem A8i (s:Ab):z0++s=s:=Rc (by rw [Mj]; rfl)
theorem A8j {s:Ab} {life first w:Int} (hw:Di w 1 8=true) (hl:Di life 1 60000=true) (h1:1≤first) (h2:first + (A8 s w).length≤1000000001):Alk s life first w=Ps life w first (A8 s w):=by
 have hp:=Agv s w
 rw [hw,cond_true] at hp
 unfold Alk
 rw [hw,hl,← hp,Ag h1,Ag (by omega)]
 rfl
theorem Ak6 {s:Ab} {w:Int} (hw:Di w 1 8=true) (hs:s.size≤310):1≤(A8 s w).length∧(A8 s w).length≤10:=by
 have hp:=Zv (s:=s) hw
 obtain ⟨h1,h2⟩:=Ec hw
 have:w=1∨w=2∨w=3∨w=4∨w=5∨w=6∨w=7∨w=8:=by omega
 rcases this with rfl | rfl | rfl | rfl | rfl | rfl | rfl | rfl<;>(split at hp<;>omega)
theorem Azi {w:Int} (hw:Di w 1 8=true):(A8 ⟨#[]⟩ w).length=1:=by
 have hp:=Zv (s:=⟨#[]⟩) hw
 obtain ⟨h1,h2⟩:=Ec hw
 have hz:(⟨#[]⟩:Ab).size=0:=rfl
 rw [hz] at hp
 have:w=1∨w=2∨w=3∨w=4∨w=5∨w=6∨w=7∨w=8:=by omega
 rcases this with rfl | rfl | rfl | rfl | rfl | rfl | rfl | rfl<;>(split at hp<;>omega)
theorem A02 {life w:Int} (hw:Di w 1 8=true) (hl:Di life 1 60000=true):∀ (P:List Ab) (n:Int),(∀ p∈P,(p.size:Int)≤56 - w)→1≤n→n + P.length≤1000000001→∀ x∈Ps life w n P,x.size=64
 | [],_,_,_,_,x,hx=>by cases hx
 | [p],n,hs,h1,h2,x,hx=>by
  have:x=C6 (2,life,n,p,()) w:=List.mem_singleton.1 hx
  subst this
  exact Atq (Agx hw hl (.inr rfl) h1 (by simp only [D9] at h2; omega) (hs p (by simp)))
 | p::q::r,n,hs,h1,h2,x,hx=>by
  simp only [List.length_cons] at h2
  have hx:x=C6 (1,life,n,p,()) w∨x∈Ps life w (n + 1) (q::r):=List.mem_cons.1 hx
  rcases hx with rfl | hx
  ·exact Atq (Agx hw hl (.inl rfl) h1 (by omega) (hs p (by simp)))
  ·exact A02 hw hl (q::r) (n + 1) (fun y hy=>hs y (List.mem_cons_of_mem _ hy)) (by omega) (by simp only [List.length_cons]; omega) x hx
def Xz (life w first:Int) (A:List Ab) (s:Ab):List Ab:=A++Ps life w (first + (A.length:Int)) (A8 s w)
theorem X0 (life w first:Int) (A:List Ab) (s:Ab):(Xz life w first A s).length=A.length + (A8 s w).length:=by
 unfold Xz
 rw [Fg,(Aeu _ _ _ _).1]
def SA (w first:Int) (st0:ScT) (A:List Ab) (st:ScT):Prop:=∀ rest,Db w first (A++rest) 0 st0=Db w first rest (A.length:Int) st
theorem SA.nil (w first:Int) (st0:ScT):SA w first st0 [] st0:=fun _=>rfl
theorem SA.add {w first life:Int} {st0 st:ScT} {A:List Ab} (h:SA w first st0 A st) (hw:Di w 1 8=true) (hl:Di life 1 60000=true) (s:Ab) (hz:st.2.2.1=z0) (h1:1≤first) (h2:first + (Xz life w first A s).length≤1000000001) (h3:st.2.1≤life) (h4:st.1≠1):
  SA w first st0 (Xz life w first A s) (2,life,z0,st.2.2.2.1++[s],((Xz life w first A s).length:Int),life):=fun rest=>by
 obtain ⟨k1,k2,k3⟩:=Apf s hw
 rw [X0] at h2 ⊢
 unfold Xz
 rw [List.append_assoc,h,Apg hw hl rest _ _ st k3 k1 (by omega) (by omega) h3 (fun q=>absurd q h4),k2,hz,A8i,← Int.natCast_add]
theorem SA.part {w first life:Int} {st0 st:ScT} {A:List Ab} (h:SA w first st0 A st) (hw:Di w 1 8=true) (hl:Di life 1 60000=true) (s:Ab) (h1:1≤first) (h2:first + (Xz life w first A s).length≤1000000001) (h3:st.2.1≤life) (h4:st.1≠1) (rest:List Ab):
  ∃ (st':ScT) (i:Int),st'.2.2.2=st.2.2.2∧Db w first ((Xz life w first A s).take ((Xz life w first A s).length - 1)++rest) 0 st0=Db w first rest i st':=by
 obtain ⟨k1,k2,k3⟩:=Apf s hw
 have hp:0 < (A8 s w).length:=List.length_pos_iff.2 k3
 have e1:(Xz life w first A s).take ((Xz life w first A s).length - 1)=A++(Ps life w (first + (A.length:Int)) (A8 s w)).take ((A8 s w).length - 1):=by
  rw [X0,show A.length + (A8 s w).length - 1=A.length + ((A8 s w).length - 1) by omega]
  unfold Xz
  rw [List.take_length_add_append]
 rw [X0] at h2
 obtain ⟨st',q1,_,_,q2⟩:=Atp (first:=first) hw hl rest (A8 s w) (A.length:Int) st ((A8 s w).length - 1) (by omega) k1 (by omega) (by omega) h3 (fun q=>absurd q h4)
 refine ⟨st',(A.length:Int) + (((A8 s w).length - 1:Nat):Int),q1,?_⟩
 rw [e1,List.append_assoc,h,q2]
structure LG (w first life:Int) (st0:ScT) (d:Dk) (A:List Ab) (st:ScT):Prop where
 d:LD d (lay A) A.length
 s:SA w first st0 A st
theorem A42 {A:List Ab} (h:A.length < 90):∃ R,lay A=A++(zS::R):=by
 obtain ⟨m,hm⟩:∃ m,90 - A.length=m + 1:=⟨90 - A.length - 1,by omega⟩
 exact ⟨List.replicate m zS,by unfold lay; rw [hm,List.replicate_succ]⟩
theorem A43 {a b:ScT} (h:a.2.2.2=b.2.2.2):Su a=Su b:=by unfold Su; rw [h]
structure Agy (w first life:Int) (e e3:Ab):Prop where
 w:Di w 1 8=true
 l0:1≤life
 l1:life≤59998
 f0:1≤first
 f1:first≤999999900
 e:e.size≤310
 e3:e3.size≤310
def A6p (w first life:Int) (e:Ab):List Ab:=Xz (life + 1) w first [] e
def Au2 (w first life:Int) (e:Ab):List Ab:=Xz (life + 1) w first (A6p w first life e) ⟨#[]⟩
def Zy (w first life:Int) (e e3:Ab):List Ab:=Xz (life + 1) w first (Au2 w first life e) e3
abbrev lst (life:Int):ScT:=(0,life,z0,[],0,life)
section
variable {w first life:Int} {e e3:Ab} (h:Agy w first life e e3)
include h
theorem Agy.l:Di (life + 1) 1 60000=true:=by
 unfold Di
 rw [Ag (show 1≤life + 1 by have:=h.l0; omega),Ag (show life + 1≤60000 by have:=h.l1; omega)]
 rfl
theorem Agy.len:(A6p w first life e).length=(A8 e w).length∧(Au2 w first life e).length=(A8 e w).length + 1∧(Zy w first life e e3).length=(A8 e w).length + 1 + (A8 e3 w).length:=by
 have q1:(A6p w first life e).length=(A8 e w).length:=by unfold A6p; rw [X0]; simp
 have q2:(Au2 w first life e).length=(A8 e w).length + 1:=by unfold Au2; rw [X0,q1,Azi h.w]
 exact ⟨q1,q2,by unfold Zy; rw [X0,q2]⟩
theorem Agy.num:3≤(Zy w first life e e3).length∧(Zy w first life e e3).length≤21:=by
 have a:=Ak6 h.w h.e
 have b:=Ak6 h.w h.e3
 have:=h.len.2.2
 omega
theorem Agy.s2:SA w first (lst life) (Au2 w first life e) (2,life + 1,z0,[e,⟨#[]⟩],((Au2 w first life e).length:Int),life + 1):=by
 obtain ⟨k1,k2,k3⟩:=h.len
 have kn:=h.num
 have hf:=h.f1
 have a:=(SA.nil w first (lst life)).add (life:=life + 1) h.w h.l e rfl h.f0 (by have:(Xz (life + 1) w first [] e).length=(A8 e w).length:=k1; omega) (by show life≤life + 1; omega) (by decide:(0:Int)≠1)
 exact a.add h.w h.l ⟨#[]⟩ rfl h.f0 (by have:(Xz (life + 1) w first (Xz (life + 1) w first [] e) ⟨#[]⟩).length=(A8 e w).length + 1:=k2; omega) (Int.le_refl _) (by decide:(2:Int)≠1)
theorem Agy.s3:SA w first (lst life) (Zy w first life e e3) (2,life + 1,z0,[e,⟨#[]⟩,e3],((Zy w first life e e3).length:Int),life + 1):=by
 obtain ⟨k1,k2,k3⟩:=h.len
 have kn:=h.num
 have hf:=h.f1
 exact h.s2.add h.w h.l e3 rfl h.f0 (by have:(Xz (life + 1) w first (Au2 w first life e) e3).length=(A8 e w).length + 1 + (A8 e3 w).length:=k3; omega) (Int.le_refl _) (by decide:(2:Int)≠1)
theorem Agy.part (R:List Ab) (hR:∀ i st,Db w first R i st=Su st):
  Db w first ((Zy w first life e e3).take ((Zy w first life e e3).length - 1)++R) 0 (lst life)=([e,⟨#[]⟩],((A8 e w).length:Int) + 1,life + 1,()):=by
 obtain ⟨k1,k2,k3⟩:=h.len
 have kn:=h.num
 have hf:=h.f1
 obtain ⟨st',i,q1,q2⟩:=h.s2.part h.w h.l e3 h.f0 (by have:(Xz (life + 1) w first (Au2 w first life e) e3).length=(A8 e w).length + 1 + (A8 e3 w).length:=k3; omega) (Int.le_refl _) (by decide:(2:Int)≠1) R
 have q2:Db w first ((Zy w first life e e3).take ((Zy w first life e e3).length - 1)++R) 0 (lst life)=Db w first R i st':=q2
 rw [q2,hR,A43 q1]
 show ([e,⟨#[]⟩],((Au2 w first life e).length:Int),life + 1,())=_
 rw [k2]
 rfl
variable {d:Dk} (hd:LD d (lay (Zy w first life e e3)) (Zy w first life e e3).length)
include hd
theorem Agy.t0:Tn d 2 90 first life w=([e,⟨#[]⟩,e3],((Zy w first life e e3).length:Int),life + 1,()):=by
 have kn:=h.num
 obtain ⟨R,hR⟩:=A42 (A:=Zy w first life e e3) (by omega)
 have q:=hd.scan h.w first life (m:=90) (Nat.le_refl _)
 rw [List.take_of_length_le (by rw [hd.len]; omega),hR] at q
 exact q.trans ((h.s3 _).trans (A2o h.w _ _ _ _))
omit hd in
theorem Agy.t1 {R:List Ab} {d':Dk} {k:Nat} (hd':LD d' (Zy w first life e e3++R) k) (hs:∀ i,i=((Zy w first life e e3).length:Int)→Su ((2,life + 1,z0,[e,⟨#[]⟩,e3],((Zy w first life e e3).length:Int),life + 1):ScT)=Db w first R i (2,life + 1,z0,[e,⟨#[]⟩,e3],((Zy w first life e e3).length:Int),life + 1)):
  Tn d' 2 90 first life w=([e,⟨#[]⟩,e3],((Zy w first life e e3).length:Int),life + 1,()):=by
 have q:=hd'.scan h.w first life (m:=90) (Nat.le_refl _)
 rw [List.take_of_length_le (by rw [hd'.len]; omega)] at q
 exact q.trans ((h.s3 _).trans (hs _ rfl).symm)
end
end
theorem Au3 (s:Lp) (b:List Bp):Aq (Gg s b).2.1.2.2.2.2.2.2.1=true:=by
 unfold Gg
 cases A4 s with
 | false=>rfl
 | true=>
  cases Bf b with
  | false=>rfl
  | true=>
   simp only [Bool.not_true,cond_false]
   cases (Ed s.2.2.2.2.2.2.1 b).2 != 0 with
   | true=>rfl
   | false=>
    simp only [cond_false]
    cases decide (Lv (Ed s.2.2.2.2.2.2.1 b).1 s.1 > An s.2.1 - 1) with
    | true=>rfl
    | false=>
     simp only [cond_false]
     cases decide (nI (G7 s b).length > An s.2.1 - s.2.2.2.2.1) with
     | true=>rfl
     | false=>exact w6 _ _
theorem Axm {s:Lp} (h:Aq s.2.2.2.2.2.2.1=true):Aq (Tl s).2.1.2.2.2.2.2.2.1=true:=by
 unfold Tl
 cases A4 s with
 | false=>rfl
 | true=>exact h
theorem Ark {s:Lp} (h:Aq s.2.2.2.2.2.2.1=true):Aq (Lw s).2.1.2.2.2.2.2.2.1=true:=by
 unfold Lw
 cases A4 s with
 | false=>rfl
 | true=>exact Ak5 h
structure XOk (x:Td):Prop where
 g:G9 Axb x=true
 s:Aq x.2.1.2.2.2.2.2.2.1=true
theorem XOk.opens (d:Dk) (w:Int):XOk (w8 d w):=⟨A2k d w,Azh d w⟩
theorem XOk.commits (s:Lp) (b:List Bp):XOk (Gg s b):=⟨Axh s b,Au3 s b⟩
theorem XOk.flushs {s:Lp} (h:Aq s.2.2.2.2.2.2.1=true):XOk (Tl s):=⟨Ay6 s,Axm h⟩
theorem XOk.compacts {s:Lp} (h:Aq s.2.2.2.2.2.2.1=true):XOk (Lw s):=⟨Au0 s,Ark h⟩
theorem XOk.none:XOk (m5 0):=⟨rfl,rfl⟩
theorem XOk.ops {x:Td} (h:XOk x):x.2.2.1.length≤1073741824:=by
 have hg:=h.g
 simp only [G9,Bool.and_eq_true,decide_eq_true_eq] at hg
 exact hg.2.2.1.1
def Aex (ops:List D5):List Ab:=(ops.filter fun o=>!o.1).map fun o=>o.2.2.1
def Rx (w:C5) (e:m0):Td×Bool:=
 bif e.1==1 then (w8 w.2.1 w.1,!w.2.2.1) else bif e.1==2 then (Gg w.2.2.2.1 e.2.1,w.2.2.1) else bif e.1==3 then (Tl w.2.2.2.1,w.2.2.1) else bif e.1==4 then (Lw w.2.2.2.1,w.2.2.1) else (m5 0,false)
def Aln (e:m0) (x:Td):Bool:=decide (0≤e.2.2.1)&&decide (e.2.2.1≤(x.2.2.1.length:Int))
def Aji (e:m0) (x:Td):Int:=bif Aln e x then e.2.2.1 else (x.2.2.1.length:Int)
def Pt (w:C5) (e:m0) (x:Td):List Ab:=w.2.2.2.2.2.1++Aex (x.2.2.1.take (Aji e x).toNat)
def Il (w:C5) (e:m0) (x:Td):List Ki:=bif e.1==2 then w.2.2.2.2.1++[x.2.1.2.2.2.2.2.2.1] else w.2.2.2.2.1
def Ac5 (w:C5) (e:m0) (x:Td):Bool:=decide ((Pt w e x).length > 2000) || decide ((Il w e x).length > 200)
def Vw (w:C5) (e:m0) (x:Td):C5:=
 bif Ac5 w e x then w else
 bif Aln e x then (w.1,D6 (Bg w.2.1 x.2.2.1 (Aji e x)) e.2.2.2.1,false,zSt,Il w e x,Pt w e x,())
 else (w.1,Bg w.2.1 x.2.2.1 (Aji e x),true,x.2.1,(bif e.1==2 then Il w e x else [x.2.1.2.2.2.2.2.2.1]),Pt w e x,())
def A03 (w:C5) (f:List Int):C5:=(w.1,D6 w.2.1 f,false,zSt,w.2.2.2.2)
def doS (w:C5) (e:m0):C5:=bif e.1==5 then A03 w e.2.2.2.1 else bif !(Rx w e).2 || (Rx w e).1.1 != 0 then w else Vw w e (Rx w e).1
theorem A04 {ops:List D5} {i:Nat} (k:Nat) (h:i < ops.length):Aex ((ops.drop i).take (k + 1))=(bif (ops.getD i zOp).1 then [] else [(ops.getD i zOp).2.2.1])++Aex ((ops.drop (i + 1)).take k):=by
 rw [Mi ops i zOp h,List.take_succ_cons]
 unfold Aex
 rw [List.filter_cons]
 cases (ops.getD i zOp).1<;>rfl
theorem Api {w:C5} {e:m0} {x:Td} (h:Ac5 w e x=true):Vw w e x=w:=by unfold Vw; rw [h]; rfl
theorem A2p {w:C5} {e:m0} {x:Td} (h:Ac5 w e x=false) (hc:Aln e x=true):Vw w e x=(w.1,D6 (Bg w.2.1 x.2.2.1 (Aji e x)) e.2.2.2.1,false,zSt,Il w e x,Pt w e x,()):=by unfold Vw; rw [h,hc]; rfl
theorem A44 {w:C5} {e:m0} {x:Td} (h:Ac5 w e x=false) (hc:Aln e x=false):Vw w e x=(w.1,Bg w.2.1 x.2.2.1 (Aji e x),true,x.2.1,(bif e.1==2 then Il w e x else [x.2.1.2.2.2.2.2.2.1]),Pt w e x,()):=by unfold Vw; rw [h,hc]; rfl
theorem Au4 {w:C5} {e:m0} {x:Td} {a b:Bool} (h1:decide ((Pt w e x).length > 2000)=a) (h2:decide ((Il w e x).length > 200)=b):Ac5 w e x=(a || b):=by unfold Ac5; rw [h1,h2]
theorem A45 {α:Type} {l:List α} {i:Nat} {z:α} (h:i < l.length):l.take (i + 1)=l.take i++[l.getD i z]:=by
 rw [List.take_add_one]
 simp [List.getD,h]
def unW (x:Int×List Ab×List Wr×Bool×Int×Int×Int×Int×Int×Int×Int×Int×Int×List Bw×List Ki×List Ab×Unit):C5:=
 (x.1,(x.2.1,x.2.2.1,()),x.2.2.2.1,(x.2.2.2.2.1,x.2.2.2.2.2.1,x.2.2.2.2.2.2.1,(x.2.2.2.2.2.2.2.1,x.2.2.2.2.2.2.2.2.1,x.2.2.2.2.2.2.2.2.2.1,x.2.2.2.2.2.2.2.2.2.2.1,()),x.2.2.2.2.2.2.2.2.2.2.2.1,x.2.2.2.2.2.2.2.2.2.2.2.2.1,(x.2.2.2.2.2.2.2.2.2.2.2.2.2.1,()),()),x.2.2.2.2.2.2.2.2.2.2.2.2.2.2.1,x.2.2.2.2.2.2.2.2.2.2.2.2.2.2.2.1,())
theorem A05:∀ (l:List D5) (d:Dk),(l.foldl opS d).1.length=d.1.length
 | [],_=>rfl
 | o::l,d=>by
  show (l.foldl opS (opS d o)).1.length=_
  rw [A05 l]
  unfold opS
  cases o.1 with
  | true=>exact Iz _ _
  | false=>
   simp only [cond_false]
   cases Ab8 d.1.length (o.2.1,o.2.2.1,())&&decide (d.2.1.length < 300)<;>rfl
theorem Om {d:Dk} (h:As d=true) (ops:List D5) (m:Int):As (Bg d ops m)=true∧(Bg d ops m).1.length=d.1.length:=by
 unfold Bg
 rw [h]
 exact ⟨(Fq.ops _ (Ig h)).valid,A05 _ _⟩
theorem Ajj {d:Dk} (h:As d=true) (f:List Int):As (D6 d f)=true∧(D6 d f).1.length=d.1.length:=by
 have hd:=Ig h
 have ht:=A6f h f
 unfold D6
 rw [h]
 have hl:(Akx f d.1 d.2.1).length=d.1.length:=ht.1
 have n8:=hd.n8
 have n2:=hd.n200
 refine ⟨Fq.valid ⟨?_,?_,Nat.zero_le _,fun i hi=>?_,fun i hi=>by cases hi⟩,hl⟩
 ·show 8≤(Akx f d.1 d.2.1).length; omega
 ·show (Akx f d.1 d.2.1).length≤200; omega
 ·exact ht.2 i (by have hi:i < (Akx f d.1 d.2.1).length:=hi; omega)
structure w9 (w:C5):Prop where
 v:As w.2.1=true
 hw:Di w.1 1 8=true
 n40:w.2.1.1.length≤40
 s:Aq w.2.2.2.1.2.2.2.2.2.2.1=true
 n:w.2.2.2.2.1.length≤200
 p:∀ x∈w.2.2.2.2.1,Aq x=true
 l:w.2.2.2.2.2.1.length≤2000
 f:A4 w.2.2.2.1=true→w.2.2.2.1.2.1=(w.2.1.1.length:Int)
theorem Azj:A4 zSt=false:=by decide +kernel
theorem Atr (s:Lp) (h:(Vt s).1=0):(Vt s).2.1.2.1=s.2.1:=by
 unfold Vt Ao5 at *
 cases h1:decide (s.2.2.2.1.1 + 1 > 1000000000) with
 | true=>rw [h1] at h; cases h
 | false=>
  rw [h1] at h
  cases h2:decide (s.2.2.2.1.2.2.1 + An s.2.1 > 999999000) with
  | true=>rw [h2] at h; cases h
  | false=>rfl
theorem A46 (d:Dk) (w:Int) (h:(w8 d w).1=0):(w8 d w).2.1.2.1=(d.1.length:Int):=by
 unfold w8 at *
 cases h1:As d with
 | false=>rw [h1] at h; cases h
 | true=>
  rw [h1] at h
  cases h2:Di w 1 8 with
  | false=>rw [h2] at h; cases h
  | true=>
   rw [h2] at h
   simp only [Bool.not_true,cond_false] at h ⊢
   cases h3:Mw (Lc d w).1 zSs with
   | none=>rw [h3] at h; cases h
   | some st=>
    rw [h3] at h
    simp only at h ⊢
    by_cases q1:(Lc d w).2.2.1 + 1 > 60000
    ·rw [A0x q1] at h; cases h
    ·by_cases q2:Lv st w > An d.1.length - 1
     ·rw [A0y q1 q2] at h; cases h
     ·by_cases q3:(Lc d w).2.1 < An d.1.length
      ·rw [A0z q1 q2 q3]
      ·rw [A00 q1 q2 q3] at h ⊢
       rw [Atr _ h]
theorem Aey (s:Lp) (b:List Bp) (h:(Gg s b).1=0):A4 s=true∧(Gg s b).2.1.2.1=s.2.1:=by
 unfold Gg at *
 cases h1:A4 s with
 | false=>rw [h1] at h; cases h
 | true=>
  rw [h1] at h
  cases h2:Bf b with
  | false=>rw [h2] at h; cases h
  | true=>
   rw [h2] at h
   simp only [Bool.not_true,cond_false] at h ⊢
   cases h3:(Ed s.2.2.2.2.2.2.1 b).2 != 0 with
   | true=>rw [h3] at h; cases h
   | false=>
    rw [h3] at h
    cases h4:decide (Lv (Ed s.2.2.2.2.2.2.1 b).1 s.1 > An s.2.1 - 1) with
    | true=>rw [h4] at h; cases h
    | false=>
     rw [h4] at h
     simp only [cond_false] at h ⊢
     cases h5:decide (nI (G7 s b).length > An s.2.1 - s.2.2.2.2.1) with
     | true=>rw [h5] at h; cases h
     | false=>exact ⟨trivial,rfl⟩
theorem A2q (s:Lp) (h:(Tl s).1=0):A4 s=true∧(Tl s).2.1.2.1=s.2.1:=by
 unfold Tl at *
 cases h1:A4 s with
 | false=>rw [h1] at h; cases h
 | true=>exact ⟨rfl,rfl⟩
theorem Axn (s:Lp) (h:(Lw s).1=0):A4 s=true∧(Lw s).2.1.2.1=s.2.1:=by
 unfold Lw at *
 cases h1:A4 s with
 | false=>rw [h1] at h; cases h
 | true=>rw [h1] at h; exact ⟨rfl,Atr s h⟩
theorem A47 {w:C5} (hf:A4 w.2.2.2.1=true→w.2.2.2.1.2.1=(w.2.1.1.length:Int)) (e:m0) (h2:(Rx w e).2=true) (h:(Rx w e).1.1=0):(Rx w e).1.2.1.2.1=(w.2.1.1.length:Int):=by
 unfold Rx at *
 cases h1:(e.1==1) with
 | true=>rw [h1] at h; exact A46 _ _ h
 | false=>
  rw [h1] at h h2
  cases h3:(e.1==2) with
  | true=>rw [h3] at h; have:=Aey _ _ h; exact this.2.trans (hf this.1)
  | false=>
   rw [h3] at h h2
   cases h4:(e.1==3) with
   | true=>rw [h4] at h; have:=A2q _ h; exact this.2.trans (hf this.1)
   | false=>
    rw [h4] at h h2
    cases h5:(e.1==4) with
    | true=>rw [h5] at h; have:=Axn _ h; exact this.2.trans (hf this.1)
    | false=>rw [h5] at h2; cases h2
theorem w9.d {w:C5} (h:w9 w):G9 tDk w.2.1=true:=(Ig h.v).good
theorem XOk.calls {w:C5} (h:w9 w) (e:m0):XOk (Rx w e).1:=by
 unfold Rx
 cases e.1==1 with
 | true=>exact XOk.opens _ _
 | false=>
  cases e.1==2 with
  | true=>exact XOk.commits _ _
  | false=>
   cases e.1==3 with
   | true=>exact XOk.flushs h.s
   | false=>
    cases e.1==4 with
    | true=>exact XOk.compacts h.s
    | false=>exact XOk.none
theorem w9.loss {w:C5} (h:w9 w) (f:List Int):w9 (A03 w f):=
 ⟨(Ajj h.v f).1,h.hw,by show (D6 w.2.1 f).1.length≤40; rw [(Ajj h.v f).2]; exact h.n40,rfl,h.n,h.p,h.l,fun q=>by rw [show (A03 w f).2.2.2.1=zSt from rfl,Azj] at q; cases q⟩
theorem A06 {w:C5} (h:w9 w) (e:m0) {x:Td} (hx:XOk x):∀ y∈Il w e x,Aq y=true:=fun y hy=>by
 unfold Il at hy
 cases hk:(e.1==2) with
 | true=>
  rw [hk] at hy
  rcases List.mem_append.1 hy with q | q
  ·exact h.p y q
  ·rw [List.mem_singleton.1 q]; exact hx.s
 | false=>rw [hk] at hy; exact h.p y hy
theorem w9.doI {w:C5} (h:w9 w) (e:m0):w9 (doS w e):=by
 unfold doS
 cases (e.1==5) with
 | true=>exact h.loss _
 | false=>
  simp only [cond_false]
  have hx:=XOk.calls h e
  have hfit:=A47 h.f e
  generalize (Rx w e).1=x at *
  generalize (Rx w e).2=a at *
  cases ha:!a || x.1 != 0 with
  | true=>exact h
  | false=>
   simp only [cond_false]
   rw [Bool.or_eq_false_iff] at ha
   have hfit:=hfit (by simpa using ha.1) (by simpa using ha.2)
   unfold Vw
   cases hf:Ac5 w e x with
   | true=>exact h
   | false=>
    unfold Ac5 at hf
    simp only [Bool.or_eq_false_iff,decide_eq_false_iff_not] at hf
    obtain ⟨f1,f2⟩:=hf
    have k:=Om h.v x.2.2.1 (Aji e x)
    cases Aln e x with
    | true=>
     have k2:=Ajj k.1 e.2.2.2.1
     exact ⟨k2.1,h.hw,by show (D6 _ _).1.length≤40; rw [k2.2,k.2]; exact h.n40,rfl,by show (Il w e x).length≤200; omega,A06 h e hx,by show (Pt w e x).length≤2000; omega,fun q=>by have q:A4 zSt=true:=q; rw [Azj] at q; cases q⟩
    | false=>
     refine ⟨k.1,h.hw,by show (Bg _ _ _).1.length≤40; rw [k.2]; exact h.n40,hx.s,?_,?_,by show (Pt w e x).length≤2000; omega,fun _=>by show x.2.1.2.1=((Bg _ _ _).1.length:Int); rw [k.2]; exact hfit⟩
     ·show (bif e.1==2 then Il w e x else [_]).length≤200
      cases (e.1==2)
      ·show 1≤200; omega
      ·show (Il w e x).length≤200; omega
     ·intro y hy
      have hy:y∈(bif e.1==2 then Il w e x else [x.2.1.2.2.2.2.2.2.1]):=hy
      cases hk:(e.1==2) with
      | true=>rw [hk] at hy; exact A06 h e hx y hy
      | false=>rw [hk] at hy; rw [List.mem_singleton.1 hy]; exact hx.s
theorem A6q {a:Int} (h:Di a 8 200=true):Ok a=(List.replicate a.toNat zS,[],()):=by unfold Ok; rw [h]; rfl
theorem A07 {a:Int} (h:Di a 8 200=true):As (Ok a)=true∧(Ok a).1.length=a.toNat:=by
 obtain ⟨h1,h2⟩:=Ec h
 rw [A6q h]
 have hl:(List.replicate a.toNat zS).length=a.toNat:=by simp
 refine ⟨Fq.valid ⟨?_,?_,Nat.zero_le _,fun i hi=>?_,fun i hi=>by cases hi⟩,hl⟩
 ·show 8≤(List.replicate a.toNat zS).length; omega
 ·show (List.replicate a.toNat zS).length≤200; omega
 ·have hi:i < (List.replicate a.toNat zS).length:=hi
  have hi:i < a.toNat:=by rw [← hl]; exact hi
  have e:(List.replicate a.toNat zS).getD i z0=zS:=by simp [List.getD,hi]
  show ((List.replicate a.toNat zS).getD i z0).size=64
  rw [e]
  decide +kernel
def A6r (a w:Int):C5:=(w,Ok a,false,zSt,[([],())],[],())
theorem w9.new {a w:Int} (h:Di a 8 40=true) (hw:Di w 1 8=true):w9 (A6r a w):=by
 obtain ⟨h1,h2⟩:=Ec h
 have k:=A07 (a:=a) (by unfold Di; rw [Ag h1,Ag (show a≤200 by omega)]; rfl)
 exact ⟨k.1,hw,by show (Ok a).1.length≤40; rw [k.2]; omega,rfl,by show 1≤200; omega,fun x hx=>by rw [List.mem_singleton.1 hx]; rfl,Nat.zero_le _,fun q=>by have q:A4 zSt=true:=q; rw [Azj] at q; cases q⟩
theorem A2r {s:Lp} {b:List Bp} (h:(Gg s b).1=0):0 < (Gg s b).2.2.1.length∧0≤((Gg s b).2.2.1.getD 0 zOp).2.1∧((Gg s b).2.2.1.getD 0 zOp).2.1 < s.2.1∧((Gg s b).2.2.1.getD 0 zOp).2.2.1.size=64:=by
 have hv:=(Aey s b h).1
 obtain ⟨h1,h2,h3,h4,h5,h6,h7,h8,h9,h10⟩:=Ab1 hv
 obtain ⟨r1,r2⟩:=Cq h6
 have r1:=Ec r1
 have r2:=Ec r2
 have n1:=Ec h1
 have hN:An s.2.1=(s.2.1 - 2) / 2:=by unfold An; rw [h1]; rfl
 have hp:1≤(A8 (Fi b) s.1).length∧(A8 (Fi b) s.1).length≤101:=by
  have k1:=Agv (Fi b) s.1
  rw [h2,cond_true] at k1
  have k3:=Np b
  obtain ⟨w1,w2⟩:=Ec h2
  unfold Jx at k1
  rw [h2,cond_true] at k1
  have hc:s.1=1∨s.1=2∨s.1=3∨s.1=4∨s.1=5∨s.1=6∨s.1=7∨s.1=8:=by omega
  rcases hc with q | q | q | q | q | q | q | q<;>rw [q] at k1 ⊢<;>split at k1<;>omega
 have hl:Di s.2.2.1 1 60000=true:=by unfold Di; rw [Ag h4.1,Ag h4.2]; rfl
 have eP:G7 s b=Ps s.2.2.1 s.1 (s.2.2.2.1.2.2.1 + s.2.2.2.2.1) (A8 (Fi b) s.1):=A8j h2 hl (by omega) (by omega)
 unfold Gg at *
 rw [hv] at h ⊢
 cases g2:Bf b with
 | false=>rw [g2] at h; cases h
 | true=>
  rw [g2] at h
  simp only [Bool.not_true,cond_false] at h ⊢
  cases g3:(Ed s.2.2.2.2.2.2.1 b).2 != 0 with
  | true=>rw [g3] at h; cases h
  | false=>
   rw [g3] at h
   cases g4:decide (Lv (Ed s.2.2.2.2.2.2.1 b).1 s.1 > An s.2.1 - 1) with
   | true=>rw [g4] at h; cases h
   | false=>
    rw [g4] at h
    simp only [cond_false] at h ⊢
    cases g5:decide (nI (G7 s b).length > An s.2.1 - s.2.2.2.2.1) with
    | true=>rw [g5] at h; cases h
    | false=>
     have g5:=of_decide_eq_false g5
     obtain ⟨k1,k2,k3⟩:=Apf (Fi b) h2
     have hall:=A02 h2 hl (A8 (Fi b) s.1) (s.2.2.2.1.2.2.1 + s.2.2.2.2.1) k1 (by omega) (by omega)
     have hlen:=(Aeu s.2.2.1 s.1 (A8 (Fi b) s.1) (s.2.2.2.1.2.2.1 + s.2.2.2.2.1)).1
     rw [← eP] at hall hlen
     simp only [nI] at g5
     show 0 < (Gf (Br s.2.2.2.1.2.1 s.2.1 + s.2.2.2.2.1) (G7 s b)).length∧0≤((Gf (Br s.2.2.2.1.2.1 s.2.1 + s.2.2.2.2.1) (G7 s b)).getD 0 zOp).2.1∧((Gf (Br s.2.2.2.1.2.1 s.2.1 + s.2.2.2.2.1) (G7 s b)).getD 0 zOp).2.1 < s.2.1∧((Gf (Br s.2.2.2.1.2.1 s.2.1 + s.2.2.2.2.1) (G7 s b)).getD 0 zOp).2.2.1.size=64
     cases hc:G7 s b with
     | nil=>rw [hc] at hlen; simp at hlen; omega
     | cons x L=>
      rw [hc] at hall
      have hb:0≤Br s.2.2.2.1.2.1 s.2.1 + s.2.2.2.2.1∧Br s.2.2.2.1.2.1 s.2.1 + s.2.2.2.2.1 < s.2.1:=by
       unfold Br
       have:s.2.2.2.1.2.1=0∨s.2.2.2.1.2.1=1:=by omega
       rcases this with q | q<;>rw [q]<;>omega
      exact ⟨by simp [Gf],hb.1,hb.2,hall x List.mem_cons_self⟩
def A48 (L:List (List Bp)) (m:List Bw):Prop:=L.flatten=m.map A18∧∀ b∈L,1≤b.length∧b.length≤20
theorem A48.cons {b:List Bp} {L:List (List Bp)} {m:List Bw} (h:A48 (b::L) m):∃ x y,m=x++y∧b=x.map A18∧1≤x.length∧x.length≤20∧A48 L y:=by
 obtain ⟨h1,h2⟩:=h
 obtain ⟨k1,k2⟩:=h2 b (by simp)
 rw [List.flatten_cons] at h1
 have hl:b.length≤m.length:=by
  have:=congrArg List.length h1
  simp only [Fg,List.length_map] at this
  omega
 have e1:b=(m.take b.length).map A18:=by
  have:=congrArg (List.take b.length) h1
  rwa [List.take_left,← List.map_take] at this
 have e2:L.flatten=(m.drop b.length).map A18:=by
  have:=congrArg (List.drop b.length) h1
  rwa [List.drop_left,← List.map_drop] at this
 have e3:(m.take b.length).length=b.length:=by simp; omega
 exact ⟨m.take b.length,m.drop b.length,(List.take_append_drop _ _).symm,e1,by omega,by omega,e2,fun c hc=>h2 c (by simp [hc])⟩
def A7q (w first:Int):List Ab→Int→ScT→Option ScT
 | [],_,s=>some s
 | x::r,i,s=>bif Nq w first i s x then A7q w first r (i + 1) (I0 i (Ch x w).1 s) else none
structure A9b (w first i:Int) (s:ScT) (x:Ab) (p:Pg):Prop where
 r:Ch x w=(p,true)
 n:p.2.2.1=first + i
 g:Ac3 s.1 s.2.1 p=true
theorem A9b.ok {w first i:Int} {s:ScT} {x:Ab} {p:Pg} (h:A9b w first i s x p):Nq w first i s x=true:=by
 unfold Nq
 rw [h.r]
 have e:(p.2.2.1 - i==first)=true:=beq_iff_eq.2 (by have:=h.n; omega)
 simp only [e,h.g,Bool.and_self]
structure Clo (i:Int) (s:ScT):Prop where
 k:s.1≠1
 o:s.2.2.1=z0
 u:s.2.2.2.2.1=i
 l:s.2.2.2.2.2=s.2.1
def qP (L w:Int):Int→List Ab→List Ab
 | _,[]=>[]
 | k,e::E=>Ps L w k (A8 e w)++qP L w (k + (A8 e w).length) E
section
def hN (n:Nat):Nat:=(n - 2) / 2
def bN (n:Nat) (H:Int):Nat:=2 + H.toNat * hN n
def rg (D:List Ab) (b k m:Nat):List Ab:=(List.range' k m).map fun i=>D.getD (b + i) z0
theorem A49 {D D':List Ab} {b k m:Nat} (h:∀ i,k≤i→i < k + m→D.getD (b + i) z0=D'.getD (b + i) z0):rg D b k m=rg D' b k m:=by
 unfold rg
 refine List.map_congr_left fun i hi=>?_
 rw [List.mem_range'_1] at hi
 exact h i hi.1 hi.2
def sc0 (r:Rt):ScT:=(0,r.2.2.2.1,z0,[],0,r.2.2.2.1)
structure Pre (w:Int) (n:Nat) (D:List Ab) (r:Rt) (u:Nat) (L:Int) (s:Ki):Prop where
 hu:u≤hN n
 run:∃ t,A7q w r.2.2.1 (rg D (bN n r.2.1) 0 u) 0 (sc0 r)=some t∧Clo u t∧t.2.1=L∧Mw t.2.2.2.1 zSs=some s
theorem Pre.congr {w:Int} {n:Nat} {D D':List Ab} {r:Rt} {u:Nat} {L:Int} {s:Ki} (h:Pre w n D r u L s) (hd:∀ i,i < u→D'.getD (bN n r.2.1 + i) z0=D.getD (bN n r.2.1 + i) z0):Pre w n D' r u L s:=by
 obtain ⟨h1,t,h2⟩:=h
 refine ⟨h1,t,?_⟩
 rw [A49 (D:=D') (D':=D) fun i _ hi=>hd i (by omega)]
 exact h2
theorem Pre.valid {w:Int} {n:Nat} {D:List Ab} {r:Rt} {u:Nat} {L:Int} {s:Ki} (h:Pre w n D r u L s):Aq s=true:=by
 obtain ⟨_,t,_,_,_,h⟩:=h
 exact Ol (by decide) h
structure A9c (w:Int) (n:Nat) (D W:List Ab) (past:List Ki) (r:Rt) (u0:Nat) (L:Int) (s0:Ki) (E:List Ab):Prop where
 n8:8≤n
 n2:n≤200
 hw:Di w 1 8=true
 len:D.length=n
 sz:∀ i,i < n→(D.getD i z0).size=64
 nf:∀ i,i < n→(Ch (D.getD i z0) w).2=true→D.getD i z0∈W
 root:Cv (D,[],()) w=r
 fb:r.2.2.1 + 200≤999999000
 pre:Pre w n D r u0 L s0
 st:∀ j,j≤E.length→∃ s∈past,Mw (E.take j) s0=some s
 rm:∀ s∈past,Lv s w≤(hN n:Int) - 1
 lb:E≠[]→Di L 1 60000=true
 qh:u0 + (qP L w (r.2.2.1 + u0) E).length≤hN n
 q:∀ x∈W,∀ p,Ch x w=(p,true)→p.1≠4→p.2.1=L→r.2.2.1 + (u0:Int)≤p.2.2.1→p.2.2.1 < r.2.2.1 + (hN n:Int)→∃ j,j < (qP L w (r.2.2.1 + u0) E).length∧p.2.2.1=r.2.2.1 + ((u0 + j:Nat):Int)∧x=(qP L w (r.2.2.1 + u0) E).getD j z0
 e:∀ x∈W,∀ p,Ch x w=(p,true)→p.1≠4→L < p.2.1→r.2.2.1 + (u0:Int)≤p.2.2.1→p.2.2.1 < r.2.2.1 + (hN n:Int)→p.1=3
theorem A6s {n:Nat} {D:List Ab} (n8:8≤n) (n2:n≤200) (len:D.length=n) (sz:∀ i,i < n→(D.getD i z0).size=64):Fq (D,[],()) where
 n8:=by show 8≤D.length; omega
 n200:=by show D.length≤200; omega
 p300:=Nat.zero_le _
 sec:=fun i hi=>sz i (by rw [← len]; exact hi)
 pen:=fun i hi=>by cases hi
variable {w:Int} {n:Nat} {D W:List Ab} {past:List Ki} {r:Rt} {u0:Nat} {L:Int} {s0:Ki} {E:List Ab}
theorem A9c.ok (c:A9c w n D W past r u0 L s0 E):As (D,[],())=true:=(A6s c.n8 c.n2 c.len c.sz).valid
structure A9k (w:Int) (n:Nat) (D W:List Ab) (past:List Ki) (r:Rt) (u0:Nat) (L:Int) (es:List Ab) (u:Nat) (l:Int) (s:Ki):Prop where
 scan:Lc (D,[],()) w=(es,(u:Int),l,())
 op:Mw es zSs=some s
 mem:s∈past
 pre:Pre w n D r u l s
 hu:u0≤u
 hl:L≤l
 lf:l=L∨∃ x∈W,∃ p,Ch x w=(p,true)∧p.1≠4∧p.2.1=l
end
end Go.Proofs.Ytfkefgbihlfjmaa.V
end
