/- The evaluator, and that a body does what it tells. No condition. -/
import Derived.Test.YtfkefgbihlfjmaaGreatRInl
import Derived.ChangeArms
import Derived.Carry
import Derived.OpenShut
import Derived.ChangeMaps5
import Derived.SizedLaws
import Derived.ChangeOld
import Derived.Shelf.Strings.BuilderK
import Derived.Shelf.Strings.Repeat
import Derived.KernelRfl
import Derived.Test.YtfkefgbihlfjmaaGreatProg
import Derived.Shelf.SlSortFuncK.WholeK
import Derived.Shelf.GgSortFunc.Tiny
noncomputable section
set_option linter.unusedVariables false
set_option linter.unusedSimpArgs false
namespace Go.Proofs.YtfkefgbihlfjmaaGreat.R
open Go Go.RowKit
section
inductive Ex where
 | normal
 | exit (id:Nat)
 | ret
def Ex.to:Ex→Exit
 | .normal=>.normal
 | .exit id=>.exit id
 | .ret=>.ret
structure Cfg where
 sigs:Tb
 np:Nat
 n:Nat
 pat:Nat→Dq×(Nat→Dq)
def chk {R:Type}:List Bool→Option R→Option R
 | [],k=>k
 | c::r,k=>bif c then chk r k else none
def A1l {R:Type} (sg:Hh) (den:MsD sg.ps→Option (MsD sg.rs×BxD sg.ps)) (s:St) (nid:Nat) (vs:List Vl) (k:AV→St→Option R):Option R:=
 match shL sg.psh vs with
 | none=>none
 | some ls=>
  let sF:=s.frz (Px s sg.ps ls)
  let sA:=if Na sg.rs&&Tx sg.ps then s else sF
  match Vq sF sg.ps ls with
  | none=>none
  | some q=>bif d8 (B4 q.2) then (bif V3 sA nid (Qa sg.rs) then (den q.1).bind fun r=>
   match shV sg.rsh (A96 sg.rs r.1 nid) with
   | none=>none
   | some vs'=>k (Bfw vs') ⟨sA.cell,Rw sg.rs r.1 nid (Rn sg.ps r.2 q.2 sA.res)⟩
   else none) else none
def St.lit (s:St) (x:Operand) (b:Bool):St:=match x with
 | .tmp t=>s.setCell t (.vl (.lf (.c (.bool b))))
 | _=>s
def Bqp {R:Type} (s:St) (c x y:Operand) (k:AV→St→Option R):Option R:=match s.conc c with
 | some (.bool t)=>match Bah s x y with
  | some (p,q)=>k (.vl (.lf (.c (.bool (bif t then p else q))))) s
  | none=>bif t then k (s.op x) (s.lit c true) else k (s.op y) (s.lit c false)
 | _=>none
def Bil {R:Type} (P:Program) (T:Tb) (s:St) (nid:Nat) (o:Oper) (k:AV→St→Option R):Option R:=match T3 o with
 | some (f,xs)=>match Aax s xs with
  | some vs=>match T.sd f with
   | some sd=>A1l sd.sg sd.den s nid vs k
   | none=>match T.inl f with
    | some fn=>match Bon P T fn vs s nid with
     | some (cs,av,s')=>chk cs (k av s')
     | none=>none
    | none=>match Blu T s f vs with
     | some (cs,av,s')=>chk cs (k av s')
     | none=>none
  | none=>none
 | none=>match Asc s o with
  | some (f,xs,ls)=>match Aax s xs with
   | some vs=>match T.sd f with
    | some sd=>A1l sd.sg sd.den s nid (vs++Bok ls) k
    | none=>none
   | none=>none
  | none=>match o.op with
   | .pick c x y=>Bqp s c x y k
   | _=>match Adp P s nid o with
    | some (cs,av,s')=>chk cs (k av s')
    | none=>none
def Bge {R:Type} (P:Program) (sigs:Tb) (s:St) (nid:Nat) (o:Oper) (k:AV→St→Option R):Option R:=
 let sl:=Ga o
 let ids:=f9 s o
 bif V3 s nid Azi then (bif Z2 o s ids then Bil P sigs (s.view sl ids) nid o fun av v=>
  bif A6l o || Asf (T5 av) (ids++Tu nid) then (bif Z2 o v (ids++Tu nid) then k av v else none) else none
 else none) else none
def Bau {R:Type} (s:St) (ops:Array Oper) (o:Oper) (go:Bool→St→Option R):Option R:=match o.guard with
 | none=>go true s
 | some (j,want)=>match ops[j]? with
  | some oj=>match oj.dst with
   | some d=>match s.cell d with
    | .vl (.lf (.c (.bool b)))=>bif b then go want (s.lit (.tmp d) true) else go (!want) (s.lit (.tmp d) false)
    | .tp []=>go false s
    | _=>none
   | none=>none
  | none=>none
def Acy {R:Type} (P:Program) (cfg:Cfg) (ops:Array Oper):List Oper→Nat→St→(St→Option R)→Option R
 | [],_,s,k=>k s
 | o::r,nid,s,k=>Bau s ops o fun run s=>bif run then Bil P cfg.sigs s nid o (fun av s'=>Acy P cfg ops r (nid + Azi) (s'.put cfg.n o.dst av) k)
  else Acy P cfg ops r (nid + Azi) (s.put cfg.n o.dst (.tp [])) k
def Aqe {R:Type} (P:Program) (cfg:Cfg) (ops:Array Oper):List Oper→Nat→St→List Xl→(St→Option R)→Option R
 | [],_,s,tr,k=>bif Bj0 P ops 0 [] [] tr.reverse then k s else none
 | o::r,nid,s,tr,k=>Bau s ops o fun run s=>bif run then Bge P cfg.sigs s nid o (fun av v=>Aqe P cfg ops r (nid + Azi) ((Ajl cfg.sigs s nid o av v).app P cfg.n s) (Ajl cfg.sigs s nid o av v::tr) k)
  else Aqe P cfg ops r (nid + Azi) ((Asl nid o).app P cfg.n s) (Asl nid o::tr) k
def Hj:Code→Nat
 | .region id _ _=>id + 1
 | .seq a b=>if Hj a=0 then Hj b else Hj a
 | .cond _ a b=>if Hj a=0 then Hj b else Hj a
 | .block _ a=>Hj a
 | .loop a=>Hj a
 | _=>0
abbrev Kt (R:Type):=Ex→St→Nat→Option R
def Ex.no:Ex→Nat
 | .normal=>0
 | .ret=>1
 | .exit id=>id + 2
abbrev Lt (R:Type) (pat:Nat→Dq×(Nat→Dq)):=(key:Nat)→(pat key).1.D→Kt R→Option R
def Boy {R:Type} (np:Nat) (px:Nat→Dq) (k:Kt R):Kt R:=fun e s nid=>match (px e.no).mtch np s nid with
 | some d=>k e ((px e.no).st d) (px e.no).nid
 | none=>none
def Bgf {R:Type} (np:Nat) (p:Dq×(Nat→Dq)) (nx:p.1.D→Kt R→Option R) (k:Kt R):Kt R:=fun e s nid=>match e with
 | .normal=>match p.1.mtch np s nid with
  | some d=>nx d k
  | none=>none
 | .exit id=>Boy np p.2 k (.exit id) s nid
 | .ret=>Boy np p.2 k .ret s nid
def Ayc {R:Type} (np:Nat) (p:Dq×(Nat→Dq)) (bd:St→Nat→Kt R→Option R):Nat→p.1.D→Kt R→Option R
 | 0,_,_=>none
 | m + 1,d,k=>bd (p.1.st d) p.1.nid (Bgf np p (Ayc np p bd m) k)
def A29 {R:Type} (P:Program) (cfg:Cfg) (q:A8u) (nid:Nat) (s:St) (k:St→Option R):Option R:=match Bqo P cfg.sigs cfg.n s nid q with
 | some (cs,s')=>chk cs (k s')
 | none=>none
def ev {R:Type} (P:Program) (cfg:Cfg) (L:Lt R cfg.pat):Code→St→Nat→Kt R→Option R
 | .skip,s,nid,k=>k .normal s nid
 | .region _ ops draw,s,nid,k=>match b6 ops.toList with
  | some q=>bif draw then none else Acy P cfg ops q.pre nid s fun s'=>A29 P cfg q nid s' (fun s'=>k .normal s' (nid + Azi * ops.size))
  | none=>bif draw then Aqe P cfg ops ops.toList nid s [] (fun s'=>k .normal s' (nid + Azi * ops.size)) else Acy P cfg ops ops.toList nid s (fun s'=>k .normal s' (nid + Azi * ops.size))
 | .seq a b,s,nid,k=>ev P cfg L a s nid fun e s' nid'=>match e with
  | .normal=>ev P cfg L b s' nid' k
  | .exit id=>k (.exit id) s' nid'
  | .ret=>k .ret s' nid'
 | .cond c a b,s,nid,k=>match s.conc c with
  | some (.bool t)=>bif t then ev P cfg L a (s.lit c true) nid k else ev P cfg L b (s.lit c false) nid k
  | _=>none
 | .block id c,s,nid,k=>ev P cfg L c s nid fun e s' nid'=>match e with
  | .normal=>k .normal s' nid'
  | .exit id'=>if id'=id then k .normal s' nid' else k (.exit id') s' nid'
  | .ret=>k .ret s' nid'
 | .loop c,s,nid,k=>match (cfg.pat (Hj c)).1.mtch cfg.np s nid with
  | some d=>L (Hj c) d k
  | none=>none
 | .exit id,s,nid,k=>k (.exit id) s nid
 | .ret,s,nid,k=>k .ret s nid
 | _,_,_,_=>none
def Ax:Code→List Code
 | .loop c=>[c]
 | .seq a b=>Ax a++Ax b
 | .cond _ a b=>Ax a++Ax b
 | .block _ a=>Ax a
 | _=>[]
section
variable {R:Type} {P:Program} {n B:Nat} {Iq:List Nat} {s:St} {g:Gh} {a:Act} {w:World} {r:R}
theorem Ajn:∀ {cs:List Bool} {k:Option R},chk cs k=some r→Yf cs=true∧k=some r
 | [],k,h=>⟨rfl,h⟩
 | c::cs,k,h=>by
  simp only [chk] at h
  cases c with
  | false=>cases h
  | true=>
   obtain ⟨h1,h2⟩:=Ajn h
   exact ⟨by simp [Yf,h1],h2⟩
theorem Asr {sg:Hh} {den:MsD sg.ps→Option (MsD sg.rs×BxD sg.ps)} {nid:Nat} {vs:List Vl} {k:AV→St→Option R} (h:A1l sg den s nid vs k=some r):
  ∃ av s',Ap4 sg den s nid vs=some (av,s')∧k av s'=some r:=by
 unfold A1l at h
 unfold Ap4
 split at h
 ·cases h
 ·rename_i ls e1
  dsimp only at h
  split at h
  ·cases h
  ·rename_i q e2
   cases h1:d8 (B4 q.2) with
   | false=>rw [h1] at h; cases h
   | true=>
    rw [h1] at h
    simp only [cond_true] at h
    cases h2:V3 (if (Na sg.rs&&Tx sg.ps)=true then s else s.frz (Px s sg.ps ls)) nid (Qa sg.rs) with
    | false=>rw [h2] at h; cases h
    | true=>
     rw [h2] at h
     simp only [cond_true] at h
     obtain ⟨d,e3,h⟩:=Bv h
     split at h
     ·cases h
     ·rename_i vs' e4
      refine ⟨_,_,?_,h⟩
      rw [e1]
      simp only [Option.bind_some]
      rw [e2]
      simp only [Option.bind_some,h1,h2,if_true,e3,e4]
theorem Adt {x:Operand} {b:Bool} (h:s.conc x=some (.bool b)):s.lit x b=s:=by
 cases x with
 | tmp t=>
  refine St.ext' (fun i=>?_) (fun _=>rfl)
  show upd s.cell t _ i=s.cell i
  by_cases q:i=t
  ·subst q
   rw [Bt]
   unfold St.conc at h
   split at h
   ·rename_i hv
    cases h
    exact hv.symm
   ·cases h
  ·rw [Bi _ _ q]
 | const v=>rfl
 | global _=>rfl
 | func _=>rfl
theorem Aqf {T:Tb} {nid:Nat} {o:Oper} {k:AV→St→Option R} (h:Bil P T s nid o k=some r):∃ av s',f7 P T s nid o=some (av,s')∧k av s'=some r:=by
 unfold Bil at h
 unfold f7
 split at h
 ·rename_i f xs hc
  split at h
  ·rename_i vs hvs
   split at h
   ·rename_i sd hsd
    obtain ⟨av,s',e1,e2⟩:=Asr h
    exact ⟨av,s',by simp only [hc,hvs,hsd,e1],e2⟩
   ·rename_i hsd
    split at h
    ·rename_i fn hfn
     split at h
     ·rename_i cs av s' hi
      obtain ⟨h1,h2⟩:=Ajn h
      exact ⟨av,s',by simp only [hc,hvs,hsd,hfn]; rw [hi]; simp [Sn,h1],h2⟩
     ·cases h
    ·rename_i hfn
     split at h
     ·rename_i cs av s' hn
      obtain ⟨h1,h2⟩:=Ajn h
      exact ⟨av,s',by simp only [hc,hvs,hsd,hfn]; rw [hn]; simp [Sn,h1],h2⟩
     ·cases h
  ·cases h
 ·rename_i hc
  split at h
  ·rename_i f xs ls hcl
   split at h
   ·rename_i vs hvs
    split at h
    ·rename_i sd hsd
     obtain ⟨av,s',e1,e2⟩:=Asr h
     exact ⟨av,s',by simp only [hc,hcl,hvs,hsd,e1],e2⟩
    ·cases h
   ·cases h
  ·rename_i hcl
   split at h
   ·rename_i c x y hop
    have hst:Adp P s nid o=av0 s (Ajh s c x y):=by unfold Adp; rw [hop]
    unfold Bqp at h
    rw [hst]
    split at h
    ·rename_i t ht
     split at h
     ·rename_i p q hb
      refine ⟨_,_,?_,h⟩
      have:Ajh s c x y=some (.vl (.lf (.c (.bool (bif t then p else q))))):=by unfold Ajh; rw [ht]; simp only [hb]
      rw [this]
      simp [hc,hcl,av0,Sn,Yf]
     ·rename_i hb
      have:Ajh s c x y=some (bif t then s.op x else s.op y):=by unfold Ajh; rw [ht]; simp only [hb]
      cases t with
      | true=>
       rw [Adt ht] at h
       exact ⟨s.op x,s,by rw [this]; simp [hc,hcl,av0,Sn,Yf],h⟩
      | false=>
       rw [Adt ht] at h
       exact ⟨s.op y,s,by rw [this]; simp [hc,hcl,av0,Sn,Yf],h⟩
    ·cases h
   ·split at h
    ·rename_i cs av s' hst
     obtain ⟨h1,h2⟩:=Ajn h
     exact ⟨av,s',by simp only [hc,hcl]; rw [hst]; simp [Sn,h1],h2⟩
    ·cases h
theorem V7 {c:Bool} {x:Option R} (h:(bif c then x else none)=some r):c=true∧x=some r:=by
 cases c with
 | false=>cases h
 | true=>exact ⟨rfl,h⟩
theorem Bdh {sigs:Tb} {nid:Nat} {o:Oper} {k:AV→St→Option R} (h:Bge P sigs s nid o k=some r):∃ av v,Aom P sigs s nid o=some (av,v)∧k av v=some r:=by
 unfold Bge at h
 dsimp only at h
 obtain ⟨h1,h⟩:=V7 h
 obtain ⟨h2,h⟩:=V7 h
 obtain ⟨av,v,e1,h⟩:=Aqf h
 obtain ⟨h3,h⟩:=V7 h
 obtain ⟨h4,h⟩:=V7 h
 refine ⟨av,v,?_,h⟩
 unfold Aom
 dsimp only
 rw [if_pos h1,if_pos h2,e1]
 simp only [Option.bind_some,h3,h4,if_true]
theorem Ajo {ops:Array Oper} {o:Oper} {go:Bool→St→Option R} (h:Bau s ops o go=some r):∃ run,Q5 s ops o=some run∧go run s=some r:=by
 unfold Bau at h
 unfold Q5
 split at h
 ·rename_i hg
  exact ⟨true,by rw [hg],h⟩
 ·rename_i j want hg
  rw [hg]
  simp only
  unfold Bf4
  split at h
  ·rename_i oj hoj
   rw [hoj]
   simp only
   split at h
   ·rename_i d hd
    rw [hd]
    simp only
    split at h
    ·rename_i b hb
     rw [hb]
     refine ⟨bif b then want else !want,rfl,?_⟩
     have hc:s.conc (.tmp d)=some (.bool b):=by unfold St.conc; show (match s.cell d with | .vl (.lf (.c v))=>some v | _=>none)=_; rw [hb]
     cases b with
     | true=>rw [Adt hc] at h; exact h
     | false=>rw [Adt hc] at h; exact h
    ·rename_i hb
     rw [hb]
     exact ⟨false,rfl,h⟩
    ·cases h
   ·cases h
  ·cases h
structure Gx (np B:Nat) (Iq:List Nat) (s0:St) (g0:Gh) (w0:World) (s:St) (g:Gh) (w:World):Prop where
 kp:Kp B Iq w0 w
 av:g.av=g0.av
 pin:∀ id,id < np→(s0.res id).live=true→s.res id≠.unborn∧(∀ T ls,s.res id=.box T ls→(∃ T' ls',s0.res id=.box T' ls')∧g.blk id=g0.blk id)∧
  ∀ e,∀ t:Ty,∀ xs:List t.D,s.res id=.row e t xs→(∃ e',∃ xs':List t.D,s0.res id=.row e' t xs')∧g.blk id=g0.blk id∧g.hdr id=g0.hdr id
section
variable {np:Nat} {s0:St} {g0:Gh} {w0:World}
theorem Gx.step {s':St} {g':Gh} {w':World} (h:Gx np B Iq s0 g0 w0 s g w) (k:Go B Iq s g w s' g' w'):Gx np B Iq s0 g0 w0 s' g' w':=by
 refine ⟨h.kp.trans k.kp,k.av.trans h.av,fun id hid hl=>?_⟩
 obtain ⟨h1,h2,h3⟩:=h.pin id hid hl
 have r:=k.ref id
 unfold Bl at r
 rcases r with r | r
 ·exact ⟨by rw [r]; simp,fun T ls q=>(by rw [r] at q; cases q),fun e t xs q=>by rw [r] at q; cases q⟩
 ·cases hs:s.res id with
  | unborn=>exact absurd hs h1
  | dead=>rw [hs] at r; exact r.elim
  | box T ls=>
   rw [hs] at r
   obtain ⟨T',ls',e1,e2⟩:=r
   refine ⟨by rw [e1]; simp,fun _ _ _=>?_,fun e t xs q=>by rw [e1] at q; cases q⟩
   obtain ⟨q1,q2⟩:=h2 T ls hs
   exact ⟨q1,e2.trans q2⟩
  | row e t xs=>
   rw [hs] at r
   rcases r with ⟨e',xs',e1,_,e2,e3⟩ | ⟨t',xs',e1,_⟩
   ·refine ⟨by rw [e1]; simp,fun T ls q=>(by rw [e1] at q; cases q),fun e2' t2 xs2 q=>?_⟩
    rw [e1] at q
    cases q
    obtain ⟨q1,q2,q3⟩:=h3 e t xs hs
    exact ⟨q1,e3.trans q2,e2.trans q3⟩
   ·exact ⟨by rw [e1]; simp,fun T ls q=>(by rw [e1] at q; cases q),fun e t xs q=>by rw [e1] at q; cases q⟩
  | frozen t xs=>
   rw [hs] at r
   obtain ⟨t',xs',e1,_⟩:=r
   exact ⟨by rw [e1]; simp,fun T ls q=>(by rw [e1] at q; cases q),fun e t xs q=>by rw [e1] at q; cases q⟩
  | last e t xs c j=>
   rw [hs] at r
   rcases r with ⟨_,_,_,_,_,e1,_⟩ | ⟨t',xs',e1,_⟩
   ·exact ⟨by rw [e1]; simp,fun T ls q=>(by rw [e1] at q; cases q),fun e t xs q=>by rw [e1] at q; cases q⟩
   ·exact ⟨by rw [e1]; simp,fun T ls q=>(by rw [e1] at q; cases q),fun e t xs q=>by rw [e1] at q; cases q⟩
  | map t xs=>
   rw [hs] at r
   obtain ⟨_,_,e1,_⟩:=r
   exact ⟨by rw [e1]; simp,fun T ls q=>(by rw [e1] at q; cases q),fun e t xs q=>by rw [e1] at q; cases q⟩
  | iter t xs seen cur=>
   rw [hs] at r
   obtain ⟨_,_,_,_,e1,_⟩:=r
   exact ⟨by rw [e1]; simp,fun T ls q=>(by rw [e1] at q; cases q),fun e t xs q=>by rw [e1] at q; cases q⟩
theorem Gx.canon {s':St} {g':Gh} (h:Gx np B Iq s0 g0 w0 s g w) (ha:g'.av=g.av) (hp:∀ id,id < np→(s'.res id=.unborn→s.res id=.unborn)∧(∀ T ls,s'.res id=.box T ls→(∃ T' ls',s.res id=.box T' ls')∧g'.blk id=g.blk id)∧(∀ e,∀ t:Ty,∀ xs:List t.D,s'.res id=.row e t xs→(∃ e',∃ xs':List t.D,s.res id=.row e' t xs')∧g'.blk id=g.blk id∧g'.hdr id=g.hdr id)):Gx np B Iq s0 g0 w0 s' g' w:=by
 refine ⟨h.kp,ha.trans h.av,fun id hid hl=>?_⟩
 obtain ⟨h1,h2,h3⟩:=h.pin id hid hl
 obtain ⟨k1,k2,k3⟩:=hp id hid
 refine ⟨fun q=>h1 (k1 q),fun T ls q=>?_,fun e t xs q=>?_⟩
 ·obtain ⟨⟨T',ls',e1⟩,e2⟩:=k2 T ls q
  obtain ⟨e3,e4⟩:=h2 T' ls' e1
  exact ⟨e3,e2.trans e4⟩
 ·obtain ⟨⟨e',xs',e1⟩,e2,e2'⟩:=k3 e t xs q
  obtain ⟨e3,e4,e5⟩:=h3 e' t xs' e1
  exact ⟨e3,e2.trans e4,e2'.trans e5⟩
theorem Ass {nid:Nat} {p:Dq} {d:p.D} (h:Cz n B Iq s g a w) (hx:Gx np B Iq s0 g0 w0 s g w) (e:p.mtch np s nid=some d):∃ g',Cz n B Iq (p.st d) g' a w∧Gx np B Iq s0 g0 w0 (p.st d) g' w:=by
 obtain ⟨s1,g1,g',k1,k2,k3,k4⟩:=Box h e
 exact ⟨g',k2,(hx.step k1).canon k3 k4⟩
theorem Bim {np':Nat} (hnp:np'=np) {px:Nat→Dq} {k:Kt R} {Q:Exit→Act→World→Prop} (hk:∀ e s' nid' g' a' w',k e s' nid'=some r→Cz n B Iq s' g' a' w'→Gx np B Iq s0 g0 w0 s' g' w'→Q e.to a' w') {e:Ex} {nid:Nat}
  (he:Boy np' px k e s nid=some r) (h:Cz n B Iq s g a w) (hx:Gx np B Iq s0 g0 w0 s g w):Q e.to a w:=by
 subst hnp
 unfold Boy at he
 split at he
 ·rename_i d hd
  obtain ⟨g',k1,k2⟩:=Ass h hx hd
  exact hk e _ _ g' a w he k1 k2
 ·cases he
theorem Am0 {cfg:Cfg} (hs:A5 P cfg.sigs) (hn:cfg.n=n) {ops:Array Oper} {k:St→Option R} {Q:Exit→Act→World→Prop}
  (hk:∀ s' g' a' w',k s'=some r→Cz n B Iq s' g' a' w'→Gx np B Iq s0 g0 w0 s' g' w'→Q .normal a' w'):
  ∀ {l:List Oper} {nid:Nat} {s:St} {g:Gh} {a:Act} {w:World},Acy P cfg ops l nid s k=some r→Cz n B Iq s g a w→Gx np B Iq s0 g0 w0 s g w→wpList P ops Q l a w
 | [],nid,s,g,a,w,e,h,hx=>hk s g a w e h hx
 | o::l,nid,s,g,a,w,e,h,hx=>by
  simp only [Acy] at e
  obtain ⟨run,e1,e⟩:=Ajo e
  unfold wpList
  rw [Tj h e1]
  cases run with
  | true=>
   simp only [cond_true] at e
   obtain ⟨av,s',e2,e⟩:=Aqf e
   rw [if_pos rfl]
   left
   refine Ajj hs h e2 _ Q fun v g' w' k1 k2 k3=>?_
   obtain ⟨r1,r2⟩:=Sf k2 o.dst k3
   rw [hn] at e
   exact Am0 hs hn hk e r1 ((hx.step k1).step r2)
  | false=>
   simp only [cond_false] at e
   rw [if_neg (by simp)]
   obtain ⟨r1,r2⟩:=Sf (av:=.tp []) (v:=undef) h o.dst ⟨#[],rfl,rfl,fun j v hv=>by simp at hv⟩
   rw [hn] at e
   exact Am0 hs hn hk e r1 (hx.step r2)
theorem Aqg {cfg:Cfg} (hs:A5 P cfg.sigs) (hn:cfg.n=n) {ops:Array Oper} {k:St→Option R} {Q:Exit→Act→World→Prop} {rest:List Oper}
  (hk:∀ s' g' a' w',k s'=some r→Cz n B Iq s' g' a' w'→Gx np B Iq s0 g0 w0 s' g' w'→wpList P ops Q rest a' w'):
  ∀ {l:List Oper} {nid:Nat} {s:St} {g:Gh} {a:Act} {w:World},Acy P cfg ops l nid s k=some r→Cz n B Iq s g a w→Gx np B Iq s0 g0 w0 s g w→wpList P ops Q (l++rest) a w
 | [],nid,s,g,a,w,e,h,hx=>hk s g a w e h hx
 | o::l,nid,s,g,a,w,e,h,hx=>by
  simp only [Acy] at e
  obtain ⟨run,e1,e⟩:=Ajo e
  show wpList P ops Q (o::(l++rest)) a w
  unfold wpList
  rw [Tj h e1]
  cases run with
  | true=>
   simp only [cond_true] at e
   obtain ⟨av,s',e2,e⟩:=Aqf e
   rw [if_pos rfl]
   left
   refine Ajj hs h e2 _ Q fun v g' w' k1 k2 k3=>?_
   obtain ⟨r1,r2⟩:=Sf k2 o.dst k3
   rw [hn] at e
   exact Aqg hs hn hk e r1 ((hx.step k1).step r2)
  | false=>
   simp only [cond_false] at e
   rw [if_neg (by simp)]
   obtain ⟨r1,r2⟩:=Sf (av:=.tp []) (v:=undef) h o.dst ⟨#[],rfl,rfl,fun j v hv=>by simp at hv⟩
   rw [hn] at e
   exact Aqg hs hn hk e r1 (hx.step r2)
theorem A3a {l:List Oper} {q:A8u} (h:b6 l=some q):l=q.pre++[q.o2,q.o3,q.o4]:=by
 unfold b6 at h
 split at h
 ·split at h<;>cases h
  rfl
 ·cases h
theorem A6r {l:List Oper} {q:A8u} (h:b6 l=some q):A1k q.o2 q.o3 q.o4=some (q.V,q.z,q.d2,q.d3,q.fs):=by
 unfold b6 at h
 split at h
 ·split at h<;>cases h
  rename_i h
  exact h
 ·cases h
theorem Bgg {av:AV} {fc:FuncId} {b:Nat} (h:Bmh av=some (fc,b)):av=.fn fc [.ptr b 0]:=by
 unfold Bmh at h
 split at h<;>cases h
 rfl
theorem A6s {BT:TypeId} {v:Xb} {r:Nat} (h:A28 BT v=some r):v=.box BT [.row r]:=by
 unfold A28 at h
 split at h
 ·split at h<;>cases h
  rename_i hT
  rw [hT]
 ·cases h
theorem Bav {l:Option Lf} {r:Nat} (h:Bar l=some r):l=some (.row r):=by
 unfold Bar at h
 split at h<;>cases h
 rfl
theorem Boz {cfg:Cfg} (hs:A5 P cfg.sigs) (hn:cfg.n=n) {ops:Array Oper} {q:A8u} (hq:b6 ops.toList=some q) {nid:Nat} {k:St→Option R} {Q:Exit→Act→World→Prop}
  (hk:∀ s' g' a' w',k s'=some r→Cz n B Iq s' g' a' w'→Gx np B Iq s0 g0 w0 s' g' w'→Q .normal a' w') (e:A29 P cfg q nid s k=some r) (h:Cz n B Iq s g a w) (hx:Gx np B Iq s0 g0 w0 s g w):wpList P ops Q [q.o2,q.o3,q.o4] a w:=by
 obtain ⟨t1,t2,t3,t4,t5,t6,t7,t8⟩:=Bat (A6r hq)
 unfold A29 at e
 split at e
 ·rename_i cs s' es
  obtain ⟨hcs,ek⟩:=Ajn e
  clear e
  unfold Bqo at es
  split at es
  ·rename_i fs fc BT U ety hsrt
   split at es
   ·rename_i r0 hr0
    have hr0:=Bav hr0
    split at es
    ·rename_i av s3 hst
     split at es
     ·rename_i fc' b hav
      have hav:=Bgg hav
      subst hav
      split at es
      ·rename_i r' xs hbx hrw
       split at es
       rotate_left
       ·cases es
       rename_i c0
       split at es
       ·rename_i c1
        split at es
        ·rename_i c2
         split at es
         ·rename_i c3
          split at es
          ·rename_i c4
           split at es
           ·rename_i c5
            split at es
            ·rename_i c6
             cases es
             subst c1 c2 c3 c4
             rw [hn] at c5 c6 hst ek
             have hbx:=A6s hbx
             have hrw:=Bgc hrw
             obtain ⟨hcal,hok⟩:=hs.srt _ _ _ _ _ hsrt
             have hnd:Gj xs=true∧xs.length≤1000:=by simpa [Yf] using hcs
             obtain ⟨hz,_⟩:=E0 h hr0
             unfold wpList
             rw [Tj h (r:=true) (by unfold Q5; rw [t3]),if_pos rfl]
             left
             have hrun:(execOp a.eval q.o2).run P w=.ok (.value (.iface q.V (a.eval q.z))) w:=by
              unfold A8c at c0
              split at c0
              ·rename_i hU
               simp [execOp,t1,Instr.makeInterface,run_underlying hU,Result.andThen]
              ·cases c0
             unfold Oper.wp
             rw [hrun,Oper.upon_value]
             obtain ⟨a1,a2⟩:=Sf (av:=.dead) (v:=.iface q.V (a.eval q.z)) h q.o2.dst trivial
             unfold wpList
             rw [Tj a1 (r:=true) (by unfold Q5; rw [t5]),if_pos rfl]
             left
             refine Ajj hs a1 hst _ Q fun v g3 w3 k1 k2 k3=>?_
             obtain ⟨b1,b2⟩:=Sf k2 q.o3.dst k3
             unfold wpList
             rw [Tj b1 (r:=true) (by unfold Q5; rw [t7]),if_pos rfl]
             left
             obtain ⟨caps,hv,hL⟩:=k3
             obtain ⟨p0,hcaps⟩:∃ p0,caps=#[p0]:=by
              have:=hL.length
              match caps,this with
              | ⟨[x]⟩,_=>exact ⟨x,rfl⟩
             subst hcaps
             have hp:=hL.1.1
             simp only [Fq,hbx] at hp
             obtain ⟨bb,hbb,hp⟩:=hp
             have hp:p0=.pointer (some ⟨bb,0,none⟩):=hp
             subst hp
             have hbx2:(s3.put n q.o3.dst (.fn fc' [.ptr b 0])).res b=.box BT [.row r']:=by rw [A1e]; exact hbx
             have hrw2:(s3.put n q.o3.dst (.fn fc' [.ptr b 0])).res r'=.row ety prT xs:=by rw [A1e]; exact hrw
             have hcall:=Bj6 b1 hok hbb hbx2 hrw2 hnd.1 hnd.2
             have hhd:a.eval q.z=g3.hdr r':=by
              have e1:Fq s3 g3 w3 (.row r') (a.eval q.z):=by
               have:=Fq.step (a2.trans k1).S (a2.trans k1).ref hz
               exact this
              simp only [Fq,hrw] at e1
              exact e1
             have hsz:a.tmps.size=n:=h.size
             have hd2:((a.put q.o2.dst (.iface q.V (a.eval q.z))).put q.o3.dst v).eval (.tmp q.d2)=.iface q.V (a.eval q.z):=by
              show ((a.put q.o2.dst (.iface q.V (a.eval q.z))).put q.o3.dst v).tmps.getD q.d2 undef=_
              rw [t2,t4,Bgd t8,Bik (by rw [hsz]; exact c5)]
             have hd3:((a.put q.o2.dst (.iface q.V (a.eval q.z))).put q.o3.dst v).eval (.tmp q.d3)=v:=by
              show ((a.put q.o2.dst (.iface q.V (a.eval q.z))).put q.o3.dst v).tmps.getD q.d3 undef=_
              rw [t4,Bik (by rw [k2.size]; exact c6)]
             have hco:Amx P q.fs (([.tmp q.d2,.tmp q.d3]:List Operand).map ((a.put q.o2.dst (.iface q.V (a.eval q.z))).put q.o3.dst v).eval).toArray n B Iq (s3.put n q.o3.dst (.fn fc' [.ptr b 0])) g3 ((a.put q.o2.dst (.iface q.V (a.eval q.z))).put q.o3.dst v) w3 (.tp [])
              ((s3.put n q.o3.dst (.fn fc' [.ptr b 0])).setRes r' (.row ety prT (T4 xs))):=by
              have hd2':=hd2.trans (congrArg (Value.iface q.V) hhd)
              have hd3':=hd3.trans hv
              simp only [List.map_cons,List.map_nil,hd2',hd3']
              exact hcall
             refine Tz.call t6 hcal hco _ Q fun v4 g4 w4 j1 j2 j3=>?_
             obtain ⟨d1,d2⟩:=Sf j2 q.o4.dst j3
             unfold wpList
             exact hk _ _ _ _ ek d1 (((((hx.step a2).step k1).step b2).step j1).step d2)
            ·cases es
           ·cases es
          ·cases es
         ·cases es
        ·cases es
       ·cases es
      ·cases es
     ·cases es
    ·cases es
   ·cases es
  ·cases es
 ·cases e
theorem Ajp {cfg:Cfg} {ops:Array Oper} {k:St→Option R}:∀ {l:List Oper} {nid:Nat} {s:St} {acc:List Xl},Aqe P cfg ops l nid s acc k=some r→
  ∃ tr,tr.map (·.o)=l∧Aqc P cfg.sigs ops cfg.n tr s∧Bj0 P ops 0 [] [] (acc.reverse++tr)=true∧∀ i,k (mix P cfg.n (fun _=>true) i tr s)=some r
 | [],nid,s,acc,e=>by
  simp only [Aqe] at e
  obtain ⟨h1,h2⟩:=V7 e
  exact ⟨[],rfl,trivial,by simpa using h1,fun i=>h2⟩
 | o::l,nid,s,acc,e=>by
  simp only [Aqe] at e
  obtain ⟨run,e1,e⟩:=Ajo e
  cases run with
  | true=>
   simp only [cond_true] at e
   obtain ⟨av,v,e2,e⟩:=Bdh e
   obtain ⟨tr,h1,h2,h3,h4⟩:=Ajp e
   refine ⟨Ajl cfg.sigs s nid o av v::tr,by simp [h1,Ajl],⟨.inl ⟨e1,av,v,e2,rfl⟩,h2⟩,by simpa using h3,fun i=>?_⟩
   simp only [mix,if_true]
   exact h4 (i + 1)
  | false=>
   simp only [cond_false] at e
   obtain ⟨tr,h1,h2,h3,h4⟩:=Ajp e
   refine ⟨Asl nid o::tr,by simp [h1,Asl],⟨.inr ⟨e1,rfl⟩,h2⟩,by simpa using h3,fun i=>?_⟩
   simp only [mix,if_true]
   exact h4 (i + 1)
theorem Bmi (listed:Array Bool):∀ k,unl listed k≤k
 | 0=>Nat.le_refl _
 | k + 1=>by
  simp only [unl]
  have:=Bmi listed k
  split<;>omega
theorem Bdi {D:Nat→Bool}:∀ {tr:List Xl} {i:Nat} {s:St},(∀ j,D j=false)→mix P n D i tr s=s
 | [],_,_,_=>rfl
 | e::r,i,s,h=>by
  simp only [mix,h,Bool.false_eq_true,if_false]
  exact Bdi h
theorem Bdj (h:Cz n B Iq s g a w):Cz n B Iq s g a { w with drawn:=w.drawn + 1 }∧Go B Iq s g w s g { w with drawn:=w.drawn + 1 }:=by
 have hS:∀ b,G9 s g b→b < w.heap.size→G9 s g b∧({ w with drawn:=w.drawn + 1 }:World).heap[b]? = w.heap[b]? := fun b hb _=>⟨hb,rfl⟩
 have hI:∀ id,Bl s g s g id:=fun _=>Bl.same rfl rfl rfl
 exact ⟨h.step h.size h.defers (Nat.le_refl _) hS hI (fun _=>.inl ⟨rfl,rfl⟩) (fun _=>.inl ⟨rfl,rfl,rfl,fun _ _=>rfl⟩) h.inj h.lt rfl,⟨⟨rfl,rfl,rfl,Nat.le_refl _,fun _ _ _=>rfl⟩,hS,hI,rfl⟩⟩
theorem Bj7 {cfg:Cfg} (hm:P.follows .mixedOrders=true) (hs:A5 P cfg.sigs) (hn:cfg.n=n) {id:Nat} {ops:Array Oper} {draw:Bool} {nid:Nat} {k:St→Option R} {Q:Exit→Act→World→Prop}
  (hk:∀ s' g' a' w',k s'=some r→Cz n B Iq s' g' a' w'→Gx np B Iq s0 g0 w0 s' g' w'→Q .normal a' w') (h:Cz n B Iq s g a w) (hx:Gx np B Iq s0 g0 w0 s g w)
  (e:(bif draw then Aqe P cfg ops ops.toList nid s [] k else Acy P cfg ops ops.toList nid s k)=some r):(Code.region id ops draw).wp P Q a w:=by
 cases draw with
 | false=>
  simp only [cond_false] at e
  exact wp_region_list (Am0 hs hn hk e h hx)
 | true=>
  simp only [cond_true] at e
  obtain ⟨tr,h1,h2,h3,h4⟩:=Ajp e
  rw [hn] at h2 h4
  obtain ⟨d1,d2⟩:=Bdj h
  refine wp_region_any hm ?_
  have hD:∀ j,(Array.replicate ops.size false).getD j false=false:=fun j=>by
   simp [Array.getD_eq_getD_getElem?,Array.getElem?_replicate]
   split<;>rfl
  have hmix:mix P n (fun i=>(Array.replicate ops.size false).getD i false) 0 tr s=s:=Bdi hD
  refine Brc hs h1 h2 (by simpa using h3) (g0:=g) (w0:={ w with drawn:=w.drawn + 1 }) (fun a' g' w' q1 q2=>hk _ g' a' w' (h4 0) q2 ((hx.step d2).step q1)) ops.size _ a g _ (by simp) (Bmi _ _) (fun j f q1 q2=>?_) ?_ ?_
  ·have q2':(Array.replicate ops.size false).getD j false=true:=q2
   rw [hD] at q2'
   cases q2'
  ·rw [hmix]; exact Go.refl _ _ _ _ _
  ·rw [hmix]; exact d1
theorem Aha {p:Nat→Prop} (h:∃ m,p m):∃ m,p m∧∀ m',p m'→m≤m':=by
 obtain ⟨m,hm⟩:=h
 induction m using Nat.strongRecOn with
 | _ m ih=>
  by_cases q:∃ j,j < m∧p j
  ·obtain ⟨j,q1,q2⟩:=q
   exact ih j q1 q2
  ·refine ⟨m,hm,fun j hj=>?_⟩
   rcases Nat.lt_or_ge j m with q2 | q2
   ·exact absurd ⟨j,q2,hj⟩ q
   ·exact q2
theorem Bo0 {np':Nat} {p:Dq×(Nat→Dq)} {c:Code} {bd:St→Nat→Kt R→Option R} {Q:Exit→Act→World→Prop} {k:Kt R} (hnp:np'=np)
  (hbd:∀ {s:St} {g:Gh} {a:Act} {w:World} {nid:Nat} {k:Kt R} {Q:Exit→Act→World→Prop},(∀ e s' nid' g' a' w',k e s' nid'=some r→Cz n B Iq s' g' a' w'→Gx np B Iq s0 g0 w0 s' g' w'→Q e.to a' w')→
   bd s nid k=some r→Cz n B Iq s g a w→Gx np B Iq s0 g0 w0 s g w→c.wp P Q a w)
  (hk:∀ e s' nid' g' a' w',k e s' nid'=some r→Cz n B Iq s' g' a' w'→Gx np B Iq s0 g0 w0 s' g' w'→Q e.to a' w') {m:Nat} {d:p.1.D}
  (e:Ayc np' p bd m d k=some r) (h:Cz n B Iq (p.1.st d) g a w) (hx:Gx np B Iq s0 g0 w0 (p.1.st d) g w):(Code.loop c).wp P Q a w:=by
 let J:Nat→Act→World→Prop:=fun m a w=>∃ d g,Ayc np' p bd m d k=some r∧Cz n B Iq (p.1.st d) g a w∧Gx np B Iq s0 g0 w0 (p.1.st d) g w
 classical
 refine wp_loop (fun a w=>∃ m,J m a w) (fun a w=>if hj:∃ m,J m a w then Classical.choose (Aha hj) else 0) ⟨m,d,g,e,h,hx⟩ fun a w hj=>?_
 have hmu:(if hj:∃ m,J m a w then Classical.choose (Aha hj) else 0)=Classical.choose (Aha hj):=dif_pos hj
 have hspec:=(Classical.choose_spec (Aha hj)).1
 generalize hm:Classical.choose (Aha hj)=m at hspec
 obtain ⟨d,g,e,h,hx⟩:=hspec
 cases m with
 | zero=>simp [Ayc] at e
 | succ m=>
  simp only [Ayc] at e
  refine hbd (fun e s' nid' g' a' w' q h' hx'=>?_) e h hx
  unfold Bgf at q
  cases e with
  | normal=>
   simp only at q
   split at q
   ·rename_i d' hd
    subst hnp
    obtain ⟨g2,k1,k2⟩:=Ass h' hx' hd
    have hJ:J m a' w':=⟨d',g2,q,k1,k2⟩
    refine ⟨⟨m,hJ⟩,?_⟩
    rw [hmu,hm,dif_pos ⟨m,hJ⟩]
    have:=(Classical.choose_spec (Aha (⟨m,hJ⟩:∃ m,J m a' w'))).2 m hJ
    omega
   ·cases q
  | exit id=>exact Bim hnp hk q h' hx'
  | ret=>exact Bim hnp hk q h' hx'
def Ba (P:Program) (R:Type) (n np:Nat) (pat:Nat→Dq×(Nat→Dq)) (L:Lt R pat) (c:Code):Prop:=
 ∀ (r:R) (B:Nat) (Iq:List Nat) (s0:St) (g0:Gh) (w0:World) (d:(pat (Hj c)).1.D) (g:Gh) (a:Act) (w:World) (k:Kt R) (Q:Exit→Act→World→Prop),
  (∀ e s' nid' g' a' w',k e s' nid'=some r→Cz n B Iq s' g' a' w'→Gx np B Iq s0 g0 w0 s' g' w'→Q e.to a' w')→L (Hj c) d k=some r→Cz n B Iq ((pat (Hj c)).1.st d) g a w→Gx np B Iq s0 g0 w0 ((pat (Hj c)).1.st d) g w→(Code.loop c).wp P Q a w
theorem Bmj {cfg:Cfg} {L:Lt R cfg.pat} (hm:P.follows .mixedOrders=true) (hs:A5 P cfg.sigs) (hn:cfg.n=n) (hnp:cfg.np=np):∀ (c:Code),(∀ c'∈Ax c,Ba P R n np cfg.pat L c')→∀ {s:St} {g:Gh} {a:Act} {w:World} {nid:Nat} {k:Kt R} {Q:Exit→Act→World→Prop},
  (∀ e s' nid' g' a' w',k e s' nid'=some r→Cz n B Iq s' g' a' w'→Gx np B Iq s0 g0 w0 s' g' w'→Q e.to a' w')→
  ev P cfg L c s nid k=some r→Cz n B Iq s g a w→Gx np B Iq s0 g0 w0 s g w→c.wp P Q a w:=by
 intro c
 induction c with
 | skip=>intro hL s g a w nid k Q hk e h hx; exact wp_skip (hk .normal s nid g a w e h hx)
 | region id ops draw=>
  intro hL s g a w nid k Q hk e h hx
  simp only [ev] at e
  split at e
  ·rename_i q hq
   cases draw with
   | true=>cases e
   | false=>
    simp only [cond_false] at e
    refine wp_region_list ?_
    rw [A3a hq]
    exact Aqg hs hn (fun s' g' a' w' e' h' hx'=>Boz hs hn hq (fun s2 g2 a2 w2 q2 h2 hx2=>hk .normal s2 _ g2 a2 w2 q2 h2 hx2) e' h' hx') e h hx
  ·exact Bj7 hm hs hn (fun s' g' a' w' q h' hx'=>hk .normal s' _ g' a' w' q h' hx') h hx e
 | seq x y ihx ihy=>
  intro hL s g a w nid k Q hk e h hx
  simp only [ev] at e
  refine wp_seq (ihx (fun c' hc'=>hL c' (List.mem_append_left _ hc')) (fun e' s' nid' g' a' w' q h' hx'=>?_) e h hx)
  cases e' with
  | normal=>exact ihy (fun c' hc'=>hL c' (List.mem_append_right _ hc')) hk q h' hx'
  | exit id=>exact hk (.exit id) s' nid' g' a' w' q h' hx'
  | ret=>exact hk .ret s' nid' g' a' w' q h' hx'
 | cond c x y ihx ihy=>
  intro hL s g a w nid k Q hk e h hx
  simp only [ev] at e
  split at e
  ·rename_i t ht
   refine wp_cond (t:=t) (E3 h ht).1 ?_
   cases t with
   | true=>rw [Adt ht] at e; exact ihx (fun c' hc'=>hL c' (List.mem_append_left _ hc')) hk e h hx
   | false=>rw [Adt ht] at e; exact ihy (fun c' hc'=>hL c' (List.mem_append_right _ hc')) hk e h hx
  ·cases e
 | block id c ih=>
  intro hL s g a w nid k Q hk e h hx
  simp only [ev] at e
  refine wp_block (ih hL (fun e' s' nid' g' a' w' q h' hx'=>?_) e h hx)
  cases e' with
  | normal=>exact hk .normal s' nid' g' a' w' q h' hx'
  | exit id'=>
   simp only at q
   show Exit.inBlock id Q (.exit id') a' w'
   unfold Exit.inBlock
   split at q
   ·rename_i hid
    simp only [hid,if_true]
    exact hk .normal s' nid' g' a' w' q h' hx'
   ·rename_i hid
    simp only [hid,if_false]
    exact hk (.exit id') s' nid' g' a' w' q h' hx'
  | ret=>exact hk .ret s' nid' g' a' w' q h' hx'
 | loop c ih=>
  intro hL s g a w nid k Q hk e h hx
  simp only [ev] at e
  split at e
  ·rename_i d hd
   subst hnp
   obtain ⟨g2,k1,k2⟩:=Ass h hx hd
   exact hL c (by simp [Ax]) r B Iq s0 g0 w0 d g2 a w k Q hk e k1 k2
  ·cases e
 | exit id=>intro hL s g a w nid k Q hk e h hx; exact wp_exit (hk (.exit id) s nid g a w e h hx)
 | ret=>intro hL s g a w nid k Q hk e h hx; exact wp_ret (hk .ret s nid g a w e h hx)
 | rangeFunc f params x y ihx ihy=>intro hL s g a w nid k Q hk e h hx; simp [ev] at e
 | scope c ih=>intro hL s g a w nid k Q hk e h hx; simp [ev] at e
 | label l=>intro hL s g a w nid k Q hk e h hx; simp [ev] at e
 | goto l=>intro hL s g a w nid k Q hk e h hx; simp [ev] at e
 | refuse why=>intro hL s g a w nid k Q hk e h hx; simp [ev] at e
end
theorem Bj8 {np:Nat} {cfg:Cfg} {L L':Lt R cfg.pat} {c:Code} (hm:P.follows .mixedOrders=true) (hs:A5 P cfg.sigs) (hn:cfg.n=n) (hnp:cfg.np=np)
  (hL:∀ d k (r:R),L (Hj c) d k=some r→∃ m,Ayc np (cfg.pat (Hj c)) (fun s nid k=>ev P cfg L' c s nid k) m d k=some r) (hL':∀ c'∈Ax c,Ba P R n np cfg.pat L' c'):Ba P R n np cfg.pat L c:=by
 intro r B Iq s0 g0 w0 d g a w k Q hk e h hx
 obtain ⟨m,e⟩:=hL d k r e
 exact Bo0 rfl (fun hk' e' h' hx'=>Bmj hm hs hn hnp c hL' hk' e' h' hx') hk e h hx
end
end
section
def Aop (s:St):List Md→Nat→List Lf
 | [],_=>[]
 | .rd _::ps,id=>Aop s ps id
 | .own _ _::ps,id=>Aop s ps (id + 1)
 | .bx _ _::ps,id=>(match s.res id with | .box _ ls=>ls | _=>[])++Aop s ps (id + 1)
 | .mu _ _::ps,id=>Aop s ps (id + 1)
def bkD (s:St):(ps:List Md)→Nat→Option (BxD ps)
 | [],_=>some ()
 | .rd _::ps,id=>bkD s ps id
 | .own _ _::ps,id=>bkD s ps (id + 1)
 | .bx T t::ps,id=>match s.res id with
  | .box T' ls=>if T'=T then (match s.parse t ls with
   | some (z,[])=>(bkD s ps (id + 1)).bind fun q=>some (z,q)
   | _=>none) else none
  | _=>none
 | .mu e t::ps,id=>match s.res id with
  | .row e' t' xs=>if e'=e then (if h:t'=t then (bkD s ps (id + 1)).bind fun q=>some (h ▸ xs,q) else none) else none
  | _=>none
def Ni:List Md→Nat→List Nat
 | [],_=>[]
 | .rd _::ps,id=>Ni ps id
 | .own _ _::ps,id=>Ni ps (id + 1)
 | .bx _ _::ps,id=>id::Ni ps (id + 1)
 | .mu _ _::ps,id=>id::Ni ps (id + 1)
def fin (P:Program) (sg:Hh) (rv:List ResultVar):Kt (MsD sg.rs×BxD sg.ps):=fun e s nid=>match e with
 | .exit _=>none
 | _=>match Xc P s rv with
  | none=>none
  | some vs=>match shL sg.rsh vs with
   | none=>none
   | some ls=>
    let sF:=s.frz (Px s sg.rs ls++Aop s sg.ps 0)
    match Vq sF sg.rs ls with
    | none=>none
    | some q=>match bkD sF sg.ps 0 with
     | none=>none
     | some z=>bif d8 (B4 q.2++Ni sg.ps 0) then some (q.1,z) else none
def Bm (fn:Func):Code:=match fn.body with
 | some c=>c
 | none=>.skip
def Agb (sg:Hh) (x:MsD sg.ps) (vs:List Vl):St:=⟨fun i=>match vs[i]? with | some v=>.vl v | none=>.dead,Rw sg.ps x 0 (fun _=>.unborn)⟩
def Bmk (P:Program) (sigs:Tb) (pat:Nat→Dq×(Nat→Dq)) (sg:Hh) (fn:Func) (L:Lt (MsD sg.rs×BxD sg.ps) pat) (x:MsD sg.ps):Option (MsD sg.rs×BxD sg.ps):=
 match fn.body,shV sg.psh (A96 sg.ps x 0) with
 | some c,some vs=>bif Nat.ble vs.length fn.ntmps then ev P ⟨sigs,Qa sg.ps,fn.ntmps,pat⟩ L c (Agb sg x vs) (Qa sg.ps) (fin P sg fn.results.toList) else none
 | _,_=>none
section
variable {P:Program} {n B:Nat} {Iq:List Nat} {s:St} {g:Gh} {a:Act} {w:World}
theorem Ajq:∀ {ps:List Md} {id j:Nat},j∈Ni ps id→id≤j∧j < id + Qa ps
 | [],_,_,h=>by simp [Ni] at h
 | .rd _::ps,id,j,h=>Ajq (ps:=ps) h
 | .own _ _::ps,id,j,h=>by
  have:=Ajq (ps:=ps) h
  simp only [Qa]
  omega
 | .bx _ _::ps,id,j,h=>by
  simp only [Ni,List.mem_cons] at h
  simp only [Qa]
  rcases h with rfl | h
  ·omega
  ·have:=Ajq (ps:=ps) h
   omega
 | .mu _ _::ps,id,j,h=>by
  simp only [Ni,List.mem_cons] at h
  simp only [Qa]
  rcases h with rfl | h
  ·omega
  ·have:=Ajq (ps:=ps) h
   omega
theorem Bdk (hres:∀ id,Q1 s g w id (s.res id)) {g0:Gh}:∀ {ps:List Md} {id:Nat} {us:List Value} {y:BxD ps} {x:MsD ps} {w0:World} {S:Nat→Prop},bkD s ps id=some y→HR w0 S ps x us→
  (∀ j,j∈Ni ps id→(∀ T ls,s.res j=.box T ls→g.blk j=(Ol ps us id g0).blk j)∧∀ e,∀ t:Ty,∀ xs:List t.D,s.res j=.row e t xs→g.blk j=(Ol ps us id g0).blk j∧g.hdr j=(Ol ps us id g0).hdr j)→
  BkR w (G9 s g) ps y us∧bxs ps us=owB g ((Ni ps id).map some)∧∀ j∈Ni ps id,(s.res j).live=true
 | [],_,_,_,_,_,_,_,_,_=>⟨trivial,rfl,by simp [Ni]⟩
 | .rd t::ps,id,us,y,x,w0,S,e,⟨c1,c2,h1,h2,h3⟩,hp=>by
  subst h1
  have hd:(c1++c2).drop t.sz=c2:=by rw [← Ty.K_len h2]; simp
  simp only [BkR,bxs,hd]
  exact Bdk (ps:=ps) (x:=x.2) hres e h3 (fun j q1=>by have:=hp j q1; simp only [Ol,hd] at this; exact this)
 | .own e0 t::ps,id,us,y,x,w0,S,e,⟨u,c2,h1,h2,h3⟩,hp=>by
  subst h1
  simp only [BkR,bxs,List.tail_cons]
  exact Bdk (ps:=ps) (x:=x.2) hres e h3 (fun j q1=>by have:=hp j q1; simp only [Ol,List.tail_cons] at this; exact this)
 | .bx T t::ps,id,us,y,x,w0,S,e,⟨b,c2,h1,h2,h3⟩,hp=>by
  subst h1
  simp only [bkD] at e
  split at e
  ·rename_i T' ls hr
   split at e
   ·rename_i hT
    split at e
    ·rename_i z hz
     obtain ⟨q,e1,e2⟩:=Bv e
     cases e2
     subst hT
     have hb0:=(hp id (by simp [Ni])).1 T' ls hr
     simp only [Ol,List.head?_cons,List.tail_cons] at hb0
     rw [(D0 ps c2 (id + 1) _ id (by omega)).1] at hb0
     simp only [Bt] at hb0
     have hb:g.blk id=some b:=hb0
     have r:=hres id
     rw [hr] at r
     obtain ⟨b',cs,k1,k2,k3⟩:=r
     obtain rfl:b=b':=Option.some.inj (hb.symm.trans k1)
     obtain ⟨e3,k4⟩:=St.parse_K hres hz k3
     have hlen:cs.toList.take t.sz=cs.toList:=by
      apply List.take_of_length_le
      have:ls.length≤t.sz:=List.drop_eq_nil_iff.1 e3.symm
      rw [k3.length]; exact this
     rw [hlen] at k4
     obtain ⟨i1,i2,i3⟩:=Bdk (ps:=ps) (x:=x.2) (us:=c2) hres e1 h3 (fun j q1=>by
      have:=hp j (by simp [Ni,q1])
      simp only [Ol,List.tail_cons] at this
      exact this)
     refine ⟨⟨⟨b,rfl,cs,k2,k4⟩,i1⟩,?_,?_⟩
     ·simp only [bxs,Ni,List.map_cons,owB,List.head?_cons,Option.bind_some,List.tail_cons,Xk,hb,i2]
     ·intro j hj
      simp only [Ni,List.mem_cons] at hj
      rcases hj with rfl | hj
      ·rw [hr]; rfl
      ·exact i3 j hj
    ·cases e
   ·cases e
  ·cases e
 | .mu e0 t::ps,id,us,y,x,w0,S,e,⟨u,c2,h1,h2,h3⟩,hp=>by
  subst h1
  simp only [bkD] at e
  split at e
  ·rename_i e' t' xs hr
   split at e
   ·rename_i he
    split at e
    ·rename_i ht
     obtain ⟨q,e1,e2⟩:=Bv e
     cases e2
     subst he ht
     obtain ⟨hb0,hh0⟩:=(hp id (by simp [Ni])).2 e' t' xs hr
     simp only [Ol,List.head?_cons,List.tail_cons,List.headD_cons] at hb0 hh0
     rw [(D0 ps c2 (id + 1) _ id (by omega)).1] at hb0
     rw [(D0 ps c2 (id + 1) _ id (by omega)).2] at hh0
     simp only [Bt,Option.bind_some] at hb0 hh0
     have r:=hres id
     rw [hr] at r
     obtain ⟨cs,k1,k2,k3⟩:=r
     rw [hh0] at k1
     obtain ⟨i1,i2,i3⟩:=Bdk (ps:=ps) (x:=x.2) (us:=c2) hres e1 h3 (fun j q1=>by
      have:=hp j (by simp [Ni,q1])
      simp only [Ol,List.tail_cons] at this
      exact this)
     refine ⟨⟨⟨u,rfl,cs,k1,k2⟩,i1⟩,?_,?_⟩
     ·simp only [bxs,Ni,List.map_cons,owB,List.head?_cons,Option.bind_some,List.tail_cons,hb0,i2]
     ·intro j hj
      simp only [Ni,List.mem_cons] at hj
      rcases hj with rfl | hj
      ·rw [hr]; rfl
      ·exact i3 j hj
    ·cases e
   ·cases e
  ·cases e
theorem A8v (a b:List (Option Nat)):B4 (a++b)=B4 a++B4 b:=by
 induction a with
 | nil=>rfl
 | cons x r ih=>cases x<;>simp [B4,ih]
theorem A8w (l:List Nat):B4 (l.map some)=l:=by
 induction l with
 | nil=>rfl
 | cons x r ih=>simp [B4,ih]
theorem Bo1 (g:Gh) (a b:List (Option Nat)):owB g (a++b)=owB g a++owB g b:=by
 induction a with
 | nil=>rfl
 | cons x r ih=>simp [owB,ih]
theorem g7:∀ {ps:List Md} {x:MsD ps} {id j:Nat} {res:Nat→Xb},j∈Ni ps id→(Rw ps x id res j).live=true
 | [],_,_,_,_,h=>by simp [Ni] at h
 | .rd _::ps,x,id,j,res,h=>g7 (ps:=ps) h
 | .own e t::ps,x,id,j,res,h=>g7 (ps:=ps) h
 | .bx T t::ps,x,id,j,res,h=>by
  simp only [Ni,List.mem_cons] at h
  rcases h with rfl | h
  ·have:Rw (.bx T t::ps) x j res j=.box T (t.leafs x.1):=(Mq ps x.2 (j + 1) _ j (by omega)).trans (Bt _ _ _)
   rw [this]
   rfl
  ·exact g7 (ps:=ps) h
 | .mu e t::ps,x,id,j,res,h=>by
  simp only [Ni,List.mem_cons] at h
  rcases h with rfl | h
  ·have:Rw (.mu e t::ps) x j res j=.row e t x.1:=(Mq ps x.2 (j + 1) _ j (by omega)).trans (Bt _ _ _)
   rw [this]
   rfl
  ·exact g7 (ps:=ps) h
theorem Bml {sigs:Tb} {pat:Nat→Dq×(Nat→Dq)} {f:FuncId} {fn:Func} {sg:Hh} {den:MsD sg.ps→Option (MsD sg.rs×BxD sg.ps)} (hm:P.follows .mixedOrders=true) (hs:A5 P sigs)
  (hf : P.funcs[f]? = some fn) (hname : (fn.name == "runtime.NumGoroutine") = false) (hbody : fn.body.isNone = false) (hden : ∀ x r, den x = some r → ∃ L, (∀ c ∈ Ax (Bm fn), Ba P (MsD sg.rs × BxD sg.ps) fn.ntmps (Qa sg.ps) pat L c) ∧ Bmk P sigs pat sg fn L x = some r) : O9 P f ∧ Ajc P f sg den := by
 have sound:Ajc P f sg den:=by
  intro x r hx w S us args hHR hSh hOwn
  obtain ⟨L,hLo,he⟩:=hden x r hx
  unfold Bmk at he
  split at he
  ·rename_i c vs hb hvs
   have hbo:Bm fn=c:=by unfold Bm; rw [hb]
   rw [hbo] at hLo
   obtain ⟨hle,he⟩:=V7 he
   have hle:=Nat.le_of_ble_eq_true hle
   refine calls_of_wp hf hb ?_
   generalize hg0:Ol sg.ps us 0 ⟨fun _=>none,fun _=>undef,fun b=>b < w.heap.size∧¬ S b∧b ∉ H9 sg.ps us⟩=g0
   have hav:g0.av=fun b=>b < w.heap.size∧¬ S b∧b ∉ H9 sg.ps us:=by rw [← hg0]; exact Af2 _ _ _ _
   have hin:∀ j b,g0.blk j=some b→j < Qa sg.ps∧b∈H9 sg.ps us:=by
    intro j b q
    by_cases hj:j < Qa sg.ps
    ·rw [← hg0] at q
     exact ⟨hj,Q2 _ _ _ _ j b (by omega) (by omega) q⟩
    ·rw [← hg0,(D0 _ _ _ _ j (by omega)).1] at q
     cases q
   have hSof:∀ b,S b→b < w.heap.size→G9 (Agb sg x vs) g0 b:=by
    intro b hb _
    refine ⟨by rw [hav]; exact fun q=>q.2.1 hb,fun j _ q=>?_⟩
    exact (hOwn.2 b (hin j b q).2).2 hb
   obtain ⟨hL,hR⟩:=A74 (s:=Agb sg x vs) (g:=g0) hSof sg.ps x us 0 (fun _=>.unborn) ⟨fun _=>none,fun _=>undef,fun b=>b < w.heap.size∧¬ S b∧b ∉ H9 sg.ps us⟩ hHR (fun j _ _=>⟨rfl,by rw [hg0],by rw [hg0]⟩)
   have hV:=Bhx hvs hL hSh
   have hargs:args.length=vs.length:=hV.length
   have hent:Cz fn.ntmps w.heap.size (H9 sg.ps us) (Agb sg x vs) g0 { tmps:=args.toArray++Array.replicate (fn.ntmps - args.toArray.size) undef,defers:=[] } w:=by
    refine ⟨by simp; omega,rfl,Nat.le_refl _,fun i=>?_,fun j=>?_,fun i j b q1 q2=>?_,fun j b q=>?_,fun b q=>?_⟩
    ·show AVR _ _ _ (match vs[i]? with | some v=>.vl v | none=>.dead) _
     cases hi:vs[i]? with
     | none=>trivial
     | some v=>
      obtain ⟨u,e1,e2⟩:=hV.get hi
      have hlt:=(List.getElem?_eq_some_iff.1 e1).1
      have:(args.toArray++Array.replicate (fn.ntmps - args.toArray.size) undef).getD i undef=u:=by
       rw [Array.getD_eq_getD_getElem?,Array.getElem?_append_left (by simpa using hlt),List.getElem?_toArray,e1]
       rfl
      rw [this]
      exact e2
    ·by_cases hj:j < Qa sg.ps
     ·exact (hR j (by omega) (by omega)).1
     ·have h1:(Agb sg x vs).res j=.unborn:=Mq _ _ _ _ j (by omega)
      rw [h1]
      show g0.blk j=none
      cases hq:g0.blk j with
      | none=>rfl
      | some b=>exact absurd (hin j b hq).1 hj
    ·rw [← hg0] at q1 q2
     refine Adk _ _ _ _ i j b hOwn.1 (by omega) ?_ (by omega) ?_ q1 q2
     ·rw [hg0] at q1; have:=(hin i b q1).1; omega
     ·rw [hg0] at q2; have:=(hin j b q2).1; omega
    ·have:=(hin j b q).2
     exact ⟨(hOwn.2 b this).1,.inl this,by rw [hav]; exact fun q=>q.2.2 this⟩
    ·rw [hav] at q
     exact q.1
   have hgx:Gx (Qa sg.ps) w.heap.size (H9 sg.ps us) (Agb sg x vs) g0 w (Agb sg x vs) g0 w:=by
    refine ⟨Kp.refl _ _ _,rfl,fun id _ hl=>⟨fun q=>(by rw [q] at hl; cases hl),fun T ls q=>⟨⟨T,ls,q⟩,rfl⟩,fun e t xs q=>⟨⟨e,xs,q⟩,rfl,rfl⟩⟩⟩
   refine Bmj (r:=r) (Q:=bodyPost P fn _) (cfg:=⟨sigs,Qa sg.ps,fn.ntmps,pat⟩) (L:=L) hm hs rfl rfl c hLo (fun e s' nid' g' a' w' hk hR' hX'=>?_) he hent hgx
   have hfin:∀ {vs':List Vl} {ls:List Lf} {q:MsD sg.rs×List (Option Nat)} {z:BxD sg.ps},Xc P s' fn.results.toList=some vs'→shL sg.rsh vs'=some ls→
     Vq (s'.frz (Px s' sg.rs ls++Aop s' sg.ps 0)) sg.rs ls=some q→bkD (s'.frz (Px s' sg.rs ls++Aop s' sg.ps 0)) sg.ps 0=some z→d8 (B4 q.2++Ni sg.ps 0)=true→
     a'.defers=[]∧∃ v,(results fn a'.tmps).run P w'=.ok v w'∧∃ vs us',Ending.returned v=.returned (A95 vs)∧ShR sg.rsh vs us'∧Eb (H9 sg.ps us) w w'∧
      HR w' (Ax2 w S (H9 sg.ps us) (H9 sg.rs us'++bxs sg.ps us)) sg.rs q.1 us'∧BkR w' (Ax2 w S (H9 sg.ps us) (H9 sg.rs us'++bxs sg.ps us)) sg.ps z us∧
      (H9 sg.rs us'++bxs sg.ps us).Nodup∧∀ b∈H9 sg.rs us',b < w'.heap.size∧(b∈H9 sg.ps us∨w.heap.size≤b):=by
    intro vs' ls q z h1 h2 h3 h4 h5
    obtain ⟨us1,r1,r2⟩:=Ax7 hR' h1
    obtain ⟨cs,hsh,hL'⟩:=Bhw h2 r2
    obtain ⟨gF,hF,goF,hlf⟩:=Ie (ls:=Px s' sg.rs ls++Aop s' sg.ps 0) hR'
    have hXF:=hX'.step goF
    have hLF:=hL'.imp hlf
    obtain ⟨k1,k2,k3⟩:=A76 hF.res (x:=q.1) (ow:=q.2) h3 hLF
    obtain ⟨b1,b2,b3⟩:=Bdk hF.res (g0:=⟨fun _=>none,fun _=>undef,fun b=>b < w.heap.size∧¬ S b∧b ∉ H9 sg.ps us⟩) (x:=x) (us:=us) h4 hHR (fun j q1=>by
     have hj:=Ajq q1
     obtain ⟨_,p2,p3⟩:=hXF.pin j (show j < Qa sg.ps by omega) (g7 q1)
     rw [hg0]
     exact ⟨fun T bl q2=>(p2 T bl q2).2,fun e t xs q2=>(p3 e t xs q2).2⟩)
    have hnd:=Ar7 h5
    have hgone:H9 sg.rs cs++bxs sg.ps us=owB gF (q.2++(Ni sg.ps 0).map some):=by rw [k2,b2,Bo1]
    have hS2:∀ b,G9 (s'.frz (Px s' sg.rs ls++Aop s' sg.ps 0)) gF b→b < w'.heap.size→Ax2 w S (H9 sg.ps us) (H9 sg.rs cs++bxs sg.ps us) b:=by
     rintro b ⟨q1,q2⟩ _
     rw [hXF.av,hav] at q1
     refine ⟨?_,fun hq=>?_⟩
     ·by_cases c1:S b
      ·exact .inl c1
      ·by_cases c2:b∈H9 sg.ps us
       ·exact .inr (.inl c2)
       ·right; right
        rcases Nat.lt_or_ge b w.heap.size with c3 | c3
        ·exact absurd ⟨c3,c1,c2⟩ q1
        ·exact c3
     ·rw [hgone] at hq
      obtain ⟨id,p1,p2⟩:=Z1.1 hq
      rw [A8v,A8w] at p1
      rcases List.mem_append.1 p1 with p1 | p1
      ·exact q2 id (k3 id p1) p2
      ·exact q2 id (b3 id p1) p2
    refine ⟨hR'.defers,_,r1,us1,cs,rfl,hsh,⟨hX'.kp.os,hX'.kp.tape,hX'.kp.output,hX'.kp.size,fun k q1 q2=>hX'.kp.block k q1 q2⟩,Avn (.inr hS2) k1,Amr (.inr hS2) b1,?_,fun b hb=>?_⟩
    ·rw [hgone]
     exact Amq hF.inj (by rw [A8v,A8w]; exact hnd)
    ·rw [k2] at hb
     obtain ⟨id,p1,p2⟩:=Z1.1 hb
     obtain ⟨q1,q2,_⟩:=hF.lt id b p2
     exact ⟨q1,q2⟩
   have hend:∀ (e:Ex),(∀ id,e≠.exit id)→(match Xc P s' fn.results.toList with
     | none=>none
     | some vs=>match shL sg.rsh vs with
      | none=>none
      | some ls=>
       let sF:=s'.frz (Px s' sg.rs ls++Aop s' sg.ps 0)
       match Vq sF sg.rs ls with
       | none=>none
       | some q=>match bkD sF sg.ps 0 with
        | none=>none
        | some z=>bif d8 (B4 q.2++Ni sg.ps 0) then some (q.1,z) else none)=some r→bodyPost P fn (fun e w'=>∃ vs us',e=.returned (A95 vs)∧ShR sg.rsh vs us'∧Eb (H9 sg.ps us) w w'∧
       HR w' (Ax2 w S (H9 sg.ps us) (H9 sg.rs us'++bxs sg.ps us)) sg.rs r.1 us'∧BkR w' (Ax2 w S (H9 sg.ps us) (H9 sg.rs us'++bxs sg.ps us)) sg.ps r.2 us∧
       (H9 sg.rs us'++bxs sg.ps us).Nodup∧∀ b∈H9 sg.rs us',b < w'.heap.size∧(b∈H9 sg.ps us∨w.heap.size≤b)) e.to a' w':=by
    intro e hne h
    split at h
    ·cases h
    ·rename_i vs' h1
     split at h
     ·cases h
     ·rename_i ls h2
      dsimp only at h
      split at h
      ·cases h
      ·rename_i q h3
       split at h
       ·cases h
       ·rename_i z h4
        obtain ⟨h5,h6⟩:=V7 h
        cases h6
        obtain ⟨f1,v,f2,f3⟩:=hfin h1 h2 h3 h4 h5
        cases e with
        | normal=>exact ⟨f1,v,f2,f3⟩
        | ret=>exact ⟨f1,v,f2,f3⟩
        | exit id=>exact absurd rfl (hne id)
   cases e with
   | normal=>exact hend .normal (fun id q=>by cases q) hk
   | ret=>exact hend .ret (fun id q=>by cases q) hk
   | exit id=>cases hk
  ·cases he
 exact ⟨⟨fn,hf,hname,hbody⟩,sound⟩
def Ei:Nat→Dq×(Nat→Dq):=fun _=>(⟨[],[],[]⟩,fun _=>⟨[],[],[]⟩)
def Ik {R:Type} {pat:Nat→Dq×(Nat→Dq)}:Lt R pat:=fun _ _ _=>none
def Fp {R:Type} {pat:Nat→Dq×(Nat→Dq)} (key:Nat) (F:(pat key).1.D→Kt R→Option R) (L:Lt R pat):Lt R pat:=fun j d k=>if h:j=key then F (h ▸ d) k else L j d k
abbrev nI (n:Nat):Int:=(n:Int)
def Cy {α β γ:Type} (f:α→γ) (g:β→γ):α ⊕ β→γ
 | .inl a=>f a
 | .inr b=>g b
theorem Bmm {R:Type} {np n:Nat} {cfg:Cfg} {L:Lt R cfg.pat} {c:Code} {key:Nat} (hkey:Hj c=key) (hm:P.follows .mixedOrders=true) (hs:A5 P cfg.sigs) (hn:cfg.n=n) (hnp:cfg.np=np)
  (hL:∀ d k (r:R),L key d k=some r→∃ m,Ayc np (cfg.pat key) (fun s nid k=>ev P cfg L c s nid k) m d k=some r) (hL':∀ c'∈Ax c,Ba P R n np cfg.pat L c'):Ba P R n np cfg.pat L c:=by
 subst hkey
 exact Bj8 hm hs hn hnp hL hL'
theorem Bgh {α β γ δ:Type} (f:α→Option γ) (g:β→Option γ) (o:α ⊕ β) (h:γ→Option δ):(Cy f g o).bind h=Cy (fun a=>(f a).bind h) (fun b=>(g b).bind h) o:=by cases o<;>rfl
theorem Bmn {α β:Type} (c:Prop) [Decidable c] (x y:Option α) (f:α→Option β):(if c then x else y).bind f=if c then x.bind f else y.bind f:=by split<;>rfl
theorem Bj9 {α β:Type} (c:Bool) (x y:Option α) (f:α→Option β):(bif c then x else y).bind f=bif c then x.bind f else y.bind f:=by cases c<;>rfl
end
end
section
def Agc:Code→Option Oper
 | .region _ ops draw=>bif draw then none else ops.toList.head?
 | .seq a _=>Agc a
 | .block _ a=>Agc a
 | _=>none
def Ajr {R:Type} (P:Program) (cfg:Cfg) (L:Lt R cfg.pat):Code→St→Nat→Kt R→Option R
 | .region _ ops draw,s,nid,k=>bif draw then none else Acy P cfg ops ops.toList.tail nid s (fun s'=>k .normal s' (nid + Azi * ops.size))
 | .seq a b,s,nid,k=>Ajr P cfg L a s nid fun e s' nid'=>match e with
  | .normal=>ev P cfg L b s' nid' k
  | .exit id=>k (.exit id) s' nid'
  | .ret=>k .ret s' nid'
 | .block id c,s,nid,k=>Ajr P cfg L c s nid fun e s' nid'=>match e with
  | .normal=>k .normal s' nid'
  | .exit id'=>if id'=id then k .normal s' nid' else k (.exit id') s' nid'
  | .ret=>k .ret s' nid'
 | _,_,_,_=>none
def Azj {D E O:Type} (left:D→List E) (stp:D→E→List E→Option D) (fin:D→Option O):Nat→D→O→Prop
 | 0,_,_=>False
 | m + 1,d,r=>(left d=[]→fin d=some r)∧∀ (i:Nat) (e:E),(left d)[i]? = some e→∃ d',stp d e ((left d).eraseIdx i)=some d'∧Azj left stp fin m d' r
open Classical in
def Bka {D E O:Type} (left:D→List E) (stp:D→E→List E→Option D) (fin:D→Option O) (d:D):Option O:=
 if h:∃ r,∃ m,Azj left stp fin m d r then some (Classical.choose h) else none
theorem Bkb {D E O:Type} {left:D→List E} {stp:D→E→List E→Option D} {fin:D→Option O} {d:D} {r:O} (h:Bka left stp fin d=some r):∃ m,Azj left stp fin m d r:=by
 unfold Bka at h
 split at h
 ·rename_i hq
  cases h
  exact Classical.choose_spec hq
 ·cases h
theorem Azj.one {D E O:Type} {left:D→List E} {stp:D→E→List E→Option D} {fin:D→Option O}:∀ {m m':Nat} {d:D} {r r':O},Azj left stp fin m d r→Azj left stp fin m' d r'→r=r'
 | 0,_,_,_,_,h,_=>h.elim
 | _,0,_,_,_,_,h=>h.elim
 | m + 1,m' + 1,d,r,r',h,k=>by
  cases hl:left d with
  | nil=>exact Option.some.inj ((h.1 hl).symm.trans (k.1 hl))
  | cons e l=>
   obtain ⟨d1,e1,h1⟩:=h.2 0 e (by rw [hl]; rfl)
   obtain ⟨d2,e2,h2⟩:=k.2 0 e (by rw [hl]; rfl)
   obtain rfl:d1=d2:=Option.some.inj (e1.symm.trans e2)
   exact Azj.one h1 h2
theorem Bo2 {D E O:Type} {left:D→List E} {stp:D→E→List E→Option D} {fin:D→Option O} {d:D} {m:Nat} {r:O} (h:Azj left stp fin m d r):Bka left stp fin d=some r:=by
 have hq:∃ r,∃ m,Azj left stp fin m d r:=⟨r,m,h⟩
 unfold Bka
 rw [dif_pos hq]
 obtain ⟨m',h'⟩:=Classical.choose_spec hq
 rw [Azj.one h' h]
theorem Ast:∀ {L:List MapEntry} {i:Nat} {e:MapEntry},L[i]? = some e→(L.map (·.born)).Nodup→(L.filter fun x=>!(x.born==e.born))=L.eraseIdx i
 | [],i,e,h,_=>by simp at h
 | x::L,0,e,h,hn=>by
  simp at h
  subst h
  simp only [List.map_cons,List.nodup_cons] at hn
  simp only [List.filter_cons,beq_self_eq_true,Bool.not_true,Bool.false_eq_true,if_false,List.eraseIdx_cons_zero]
  exact List.filter_eq_self.2 fun y hy=>by
   have:y.born≠x.born:=fun q=>hn.1 (List.mem_map.2 ⟨y,hy,q⟩)
   simp [this]
 | x::L,i + 1,e,h,hn=>by
  simp only [List.getElem?_cons_succ] at h
  simp only [List.map_cons,List.nodup_cons] at hn
  have:x.born≠e.born:=fun q=>hn.1 (List.mem_map.2 ⟨e,List.mem_of_getElem? h,q.symm⟩)
  simp only [List.filter_cons,List.eraseIdx_cons_succ]
  rw [Ast h hn.2]
  simp [this]
theorem Bgi {es:Array MapEntry} {seen:Array Nat} {t:Ty} {left:List (Aa×t.D)} {e:MapEntry} (h:Apy es seen t left) (hn:(es.toList.map (·.born)).Nodup) (he:e∈(leftOf es seen).toList):
  ∃ (i:Nat) (p:Aa×t.D),left[i]? = some p∧e.key=.string p.1∧e.val=Tv t p.2∧Apy es (seen.push e.born) t (left.eraseIdx i):=by
 have hL:(leftOf es seen).toList=es.toList.filter fun e=>!seen.contains e.born:=by unfold leftOf; rw [Array.toList_filter]
 rw [hL] at he
 obtain ⟨i,hi⟩:=List.mem_iff_getElem?.1 he
 have h1:((es.toList.filter fun e=>!seen.contains e.born).map fun e=>(e.key,e.val))[i]? = some (e.key,e.val):=by rw [List.getElem?_map,hi]; rfl
 have hM:(es.toList.filter fun e=>!seen.contains e.born).map (fun e=>(e.key,e.val))=left.map fun p=>(Value.string p.1,Tv t p.2):=h
 rw [hM,List.getElem?_map] at h1
 obtain ⟨p,hp,hq⟩:=Option.map_eq_some_iff.1 h1
 obtain ⟨h2,h3⟩:=Prod.mk.inj hq
 refine ⟨i,p,hp,h2.symm,h3.symm,?_⟩
 unfold Apy
 have e1:(es.toList.filter fun x=>!(seen.push e.born).contains x.born)=(es.toList.filter fun x=>!seen.contains x.born).filter fun x=>!(x.born==e.born):=by
  rw [List.filter_filter]
  congr 1
  funext x
  rw [contains_push,Bool.not_or,Bool.and_comm]
 have hs:((es.toList.filter fun x=>!seen.contains x.born).map (·.born)).Nodup:=List.Nodup.sublist (List.Sublist.map _ (List.filter_sublist)) hn
 rw [e1,Ast hi hs,Adm,Adm,hM]
section
variable {P:Program} {n B:Nat} {Iq:List Nat} {s:St} {g:Gh} {a:Act} {w:World}
theorem Bkc (h:Cz n B Iq s g a w) {id r b:Nat} {t:Ty} {xs left left':List (Aa×t.D)} {cur cur':Option (Aa×t.D)} {o:Obj} {seen':Array Nat} {since c0':Nat} {es:Array MapEntry} {clock:Nat}
  (hr:s.res id=.iter t xs left cur) (hb:g.blk id=some r) (hg:g.hdr id=.pointer (some ⟨r,0,none⟩)) (hh:w.heap[r]? = some o) (hsb:G9 s g b) (hbl:b < w.heap.size) (he:w.heap[b]? = some (.map es clock)) (hs:MapKept.Stamped es clock)
  (hm:Tw es t xs) (hl:Apy es seen' t left') (ho:∀ x∈es.toList,x.born < since) (hc:since≤c0') (hc2:since≤clock)
  (hcur:∀ k v,cur'=some (k,v)→c0'=clock∧∃ e∈es.toList,∃ seen0:Array Nat,seen'=seen0.push e.born∧e.key=.string k∧e.val=Tv t v):
  Go B Iq s g w (s.setRes id (.iter t xs left' cur')) g (Go.ChangeMaps.setBlock w r (.mapIter (some b) since seen' c0'))∧Cz n B Iq (s.setRes id (.iter t xs left' cur')) g a (Go.ChangeMaps.setBlock w r (.mapIter (some b) since seen' c0')):=by
 unfold Go.ChangeMaps.setBlock
 obtain ⟨hset1,hset2⟩:=MapKept.heap_set (o':=.mapIter (some b) since seen' c0') hh
 have hlive:(s.res id).live=true:=by rw [hr]; rfl
 have hne:∀ k,k≠r→({ w with heap:=w.heap.setIfInBounds r (.mapIter (some b) since seen' c0') }:World).heap[k]? = w.heap[k]? := fun k hk=>hset2 k hk
 have hS:∀ c,G9 s g c→c < w.heap.size→G9 (s.setRes id (.iter t xs left' cur')) g c∧({ w with heap:=w.heap.setIfInBounds r (.mapIter (some b) since seen' c0') }:World).heap[c]? = w.heap[c]? := by
  intro c hc _
  refine ⟨⟨hc.1,fun j hj=>?_⟩,hne c (fun q=>hc.2 id hlive (by rw [q]; exact hb))⟩
  by_cases q:j=id
  ·rw [q]; exact hc.2 id hlive
  ·rw [Aw s _ q] at hj; exact hc.2 j hj
 have hI:∀ j,Bl s g (s.setRes id (.iter t xs left' cur')) g j:=by
  intro j
  by_cases q:j=id
  ·subst q
   unfold Bl
   rw [hr,Au]
   exact .inr ⟨_,_,_,_,rfl,rfl,rfl⟩
  ·exact Bl.same (Aw s _ q) rfl rfl
 refine ⟨⟨⟨rfl,rfl,rfl,by simp,fun k hk hn=>hne k (fun q=>?_)⟩,hS,hI,rfl⟩,h.step h.size h.defers (by simp) hS hI (fun i=>.inl ⟨rfl,rfl⟩) (fun j=>?_) h.inj (fun j c hj=>?_) rfl⟩
 ·subst q
  rcases (h.lt id k hb).2.1 with q2 | q2
  ·exact hn q2
  ·omega
 ·by_cases q:j=id
  ·subst q
   right
   rw [Au]
   obtain ⟨s1,s2⟩:=hS b hsb hbl
   exact ⟨b,r,es,clock,since,c0',seen',hb,hg,hset1,s1,by simp; exact hbl,s2.trans he,hs,hm,hl,ho,hc,hc2,hcur⟩
  ·left
   exact ⟨Aw s _ q,rfl,rfl,fun c hc=>hne c (fun q2=>q (h.inj j id c hc (by rw [q2]; exact hb)))⟩
 ·have:=h.lt j c hj
  simpa using this
theorem Bo3 (h:Cz n B Iq s g a w) {o:Oper} {it:Operand} (ho:o.op=.next it false) {id:Nat} {t:Ty} {xs left:List (Aa×t.D)} {cur:Option (Aa×t.D)} (hl:s.leaf it=some (.row id)) (hr:s.res id=.iter t xs left cur):
  (left=[]∧(execOp a.eval o).run P w=.ok (.value (.tuple #[.bool false])) w)∨
  ∃ (i:Nat) (p:Aa×t.D) (w1:World),left[i]? = some p∧(execOp a.eval o).run P w=.ok (.value (.tuple #[.bool true,.string p.1,Tv t p.2])) w1∧
   Go B Iq s g w (s.setRes id (.iter t xs (left.eraseIdx i) (some p))) g w1∧Cz n B Iq (s.setRes id (.iter t xs (left.eraseIdx i) (some p))) g a w1:=by
 obtain ⟨hlf,_⟩:=E0 h hl
 have q:=h.res id
 rw [hr] at q
 obtain ⟨b,r,es,clock,since,c0,sn,r1,r2,r3,r4,r5,r6,r7,r8,r9,r10,r11,r12,r13⟩:=q
 simp only [Fq,hr] at hlf
 have hrun:=run_next_at (P:=P) w o.type r b since c0 sn es clock r3 r6 r10 r11
 rcases hrun with ⟨h0,hn⟩ | ⟨e,he,w1,hw1,hn⟩
 ·left
  refine ⟨?_,?_⟩
  ·have:(es.toList.filter fun e=>!sn.contains e.born)=[]:=by
    have h2:leftOf es sn=#[]:=Array.eq_empty_of_size_eq_zero h0
    unfold leftOf at h2
    rw [← Array.toList_filter,h2]
   unfold Apy at r9
   rw [this] at r9
   exact List.map_eq_nil_iff.1 r9.symm
  ·simp [execOp,ho,hlf,r2,hn]
 ·right
  obtain ⟨i,p,hp,hk,hv,hle⟩:=Bgi r9 r7.2.1 he
  have hmem:=(mem_left he).1
  refine ⟨i,p,Go.ChangeMaps.setBlock w1 r (.mapIter (some b) since (sn.push e.born) clock),hp,?_,?_⟩
  ·simp only [execOp,ho,hlf,r2]
   simp [hn,hk,hv]
  ·have main:∀ w2:World,Cz n B Iq s g a w2→w2.heap=w.heap→Go B Iq s g w s g w2→
     Go B Iq s g w (s.setRes id (.iter t xs (left.eraseIdx i) (some p))) g (Go.ChangeMaps.setBlock w2 r (.mapIter (some b) since (sn.push e.born) clock))∧
     Cz n B Iq (s.setRes id (.iter t xs (left.eraseIdx i) (some p))) g a (Go.ChangeMaps.setBlock w2 r (.mapIter (some b) since (sn.push e.born) clock)):=by
    intro w2 h2 hw2 hg2
    obtain ⟨k1,k2⟩:=Bkc h2 (left':=left.eraseIdx i) (cur':=some p) (seen':=sn.push e.born) (since:=since) (c0':=clock) hr r1 r2 (by rw [hw2]; exact r3) r4 (by rw [hw2]; exact r5) (by rw [hw2]; exact r6) r7 r8 hle r10 r12 r12 (fun k v q=>by
     cases q
     exact ⟨rfl,e,hmem,sn,rfl,hk,hv⟩)
    exact ⟨hg2.trans k1,k2⟩
   rcases hw1 with rfl | rfl
   ·exact main _ h rfl (Go.refl B Iq s g w1)
   ·obtain ⟨d1,d2⟩:=Bdj h
    exact main _ d1 rfl d2
end
section
variable {R:Type} {P:Program} {n np B:Nat} {Iq:List Nat} {s0:St} {g0:Gh} {w0:World} {r:R}
theorem A8x {cfg:Cfg} {L:Lt R cfg.pat} (hm:P.follows .mixedOrders=true) (hs:A5 P cfg.sigs) (hn:cfg.n=n) (hnp:cfg.np=np) {o:Oper} (hg:o.guard=none) {s:St} {g:Gh} {a:Act} {w w1:World} (h:Cz n B Iq s g a w) {v:Value} (hr:(execOp a.eval o).run P w=.ok (.value v) w1)
  {s1:St} {g1:Gh} (h1:Cz n B Iq s1 g1 (a.put o.dst v) w1) (hx1:Gx np B Iq s0 g0 w0 s1 g1 w1):
  ∀ (c:Code),(∀ c'∈Ax c,Ba P R n np cfg.pat L c')→Agc c=some o→∀ {nid:Nat} {k:Kt R} {Q:Exit→Act→World→Prop},
  (∀ e s' nid' g' a' w',k e s' nid'=some r→Cz n B Iq s' g' a' w'→Gx np B Iq s0 g0 w0 s' g' w'→Q e.to a' w')→Ajr P cfg L c s1 nid k=some r→c.wp P Q a w:=by
 intro c
 induction c with
 | region id ops draw=>
  intro hL ho nid k Q hk e
  cases draw with
  | true=>simp [Agc] at ho
  | false=>
   simp only [Agc,cond_false] at ho
   simp only [Ajr,cond_false] at e
   refine wp_region_list ?_
   cases hl:ops.toList with
   | nil=>rw [hl] at ho; cases ho
   | cons o' l=>
    rw [hl] at ho e
    cases ho
    unfold wpList
    rw [Tj h (r:=true) (by unfold Q5; rw [hg]),if_pos rfl]
    left
    unfold Oper.wp
    rw [hr,Oper.upon_value]
    exact Am0 hs hn (fun s' g' a' w' q h' hx'=>hk .normal s' _ g' a' w' q h' hx') e h1 hx1
 | seq x y ihx ihy=>
  intro hL ho nid k Q hk e
  simp only [Ajr] at e
  refine wp_seq (ihx (fun c' hc'=>hL c' (List.mem_append_left _ hc')) ho (fun e' s' nid' g' a' w' q h' hx'=>?_) e)
  cases e' with
  | normal=>exact Bmj hm hs hn hnp y (fun c' hc'=>hL c' (List.mem_append_right _ hc')) hk q h' hx'
  | exit id=>exact hk (.exit id) s' nid' g' a' w' q h' hx'
  | ret=>exact hk .ret s' nid' g' a' w' q h' hx'
 | block id c ih=>
  intro hL ho nid k Q hk e
  simp only [Ajr] at e
  refine wp_block (ih hL ho (fun e' s' nid' g' a' w' q h' hx'=>?_) e)
  cases e' with
  | normal=>exact hk .normal s' nid' g' a' w' q h' hx'
  | exit id'=>
   simp only at q
   show Exit.inBlock id Q (.exit id') a' w'
   unfold Exit.inBlock
   split at q
   ·rename_i hid
    simp only [hid,if_true]
    exact hk .normal s' nid' g' a' w' q h' hx'
   ·rename_i hid
    simp only [hid,if_false]
    exact hk (.exit id') s' nid' g' a' w' q h' hx'
  | ret=>exact hk .ret s' nid' g' a' w' q h' hx'
 | skip=>intro _ ho; cases ho
 | cond c x y ihx ihy=>intro _ ho; cases ho
 | loop c ih=>intro _ ho; cases ho
 | exit id=>intro _ ho; cases ho
 | ret=>intro _ ho; cases ho
 | rangeFunc f params x y ihx ihy=>intro _ ho; cases ho
 | scope c ih=>intro _ ho; cases ho
 | label l=>intro _ ho; cases ho
 | goto l=>intro _ ho; cases ho
 | refuse why=>intro _ ho; cases ho
end
def Bmo (P:Program) (cfg:Cfg) (c:Code) (p:Dq×(Nat→Dq)) (ii sl:Nat) (t:Ty) (xs:p.1.D→List (Aa×t.D)) (d:p.1.D) (e:Aa×t.D) (l:List (Aa×t.D)):Option p.1.D:=
 Ajr (R:=p.1.D) P cfg Ik c (((p.1.st d).setRes ii (.iter t (xs d) l (some e))).put cfg.n (some sl) (.tp [.lf (.c (.bool true)),.lf (.c (.string e.1)),.lf (.c (Tv t e.2))])) p.1.nid fun x s nid=>match x with
  | .normal=>p.1.mtch cfg.np s nid
  | _=>none
def Bmp (P:Program) (cfg:Cfg) (c:Code) (p:Dq×(Nat→Dq)) (sl xid:Nat) (d:p.1.D):Option (p.2 (xid + 2)).D:=
 Ajr (R:=(p.2 (xid + 2)).D) P cfg Ik c ((p.1.st d).put cfg.n (some sl) (.tp [.lf (.c (.bool false))])) p.1.nid fun x s nid=>match x with
  | .exit id=>if id=xid then (p.2 (xid + 2)).mtch cfg.np s nid else none
  | _=>none
def Bin (c:Code):Option (Operand×Nat):=match Agc c with
 | some o=>match o.op,o.guard,o.dst with
  | .next it false,none,some sl=>some (it,sl)
  | _,_,_=>none
 | none=>none
theorem Bmq {R:Type} {P:Program} {n np:Nat} {cfg:Cfg} {L:Lt R cfg.pat} {c:Code} {key:Nat} (hkey:Hj c=key) (hm:P.follows .mixedOrders=true) (hs:A5 P cfg.sigs) (hn:cfg.n=n) (hnp:cfg.np=np) {it:Operand} {sl ii xid:Nat} {t:Ty}
  (hpt:Amt t=true) (hhd:Bin c=some (it,sl)) (hno:Ax c=[])
  {xs left:(cfg.pat key).1.D→List (Aa×t.D)} {cur:(cfg.pat key).1.D→Option (Aa×t.D)} (hlf:∀ d,((cfg.pat key).1.st d).leaf it=some (.row ii)) (hres:∀ d,((cfg.pat key).1.st d).res ii=.iter t (xs d) (left d) (cur d))
  {stp:(cfg.pat key).1.D→Aa×t.D→List (Aa×t.D)→Option (cfg.pat key).1.D} {fin:(cfg.pat key).1.D→Option ((cfg.pat key).2 (xid + 2)).D}
  (hstp:∀ d e l,Bmo P cfg c (cfg.pat key) ii sl t xs d e l=stp d e l) (hfin:∀ d,Bmp P cfg c (cfg.pat key) sl xid d=fin d)
  (hL:∀ d k,L key d k=Bka left stp (fun d=>(fin d).bind fun r=>k (.exit xid) (((cfg.pat key).2 (xid + 2)).st r) ((cfg.pat key).2 (xid + 2)).nid) d):Ba P R n np cfg.pat L c:=by
 obtain ⟨o,ho,hop,hg,hd⟩:∃ o:Oper,Agc c=some o∧o.op=.next it false∧o.guard=none∧o.dst=some sl:=by
  unfold Bin at hhd
  split at hhd
  ·rename_i o ho
   split at hhd
   ·rename_i h1 h2 h3
    cases hhd
    exact ⟨o,ho,h1,h2,h3⟩
   ·cases hhd
  ·cases hhd
 subst hkey
 intro r B Iq s0 g0 w0 d g a w k Q hk e h hx
 rw [hL] at e
 obtain ⟨m,hT⟩:=Bkb e
 let J:Nat→Act→World→Prop:=fun m a w=>∃ d g,Azj left stp (fun d=>(fin d).bind fun r=>k (.exit xid) (((cfg.pat (Hj c)).2 (xid + 2)).st r) ((cfg.pat (Hj c)).2 (xid + 2)).nid) m d r∧Cz n B Iq ((cfg.pat (Hj c)).1.st d) g a w∧Gx np B Iq s0 g0 w0 ((cfg.pat (Hj c)).1.st d) g w
 classical
 refine wp_loop (fun a w=>∃ m,J m a w) (fun a w=>if hj:∃ m,J m a w then Classical.choose (Aha hj) else 0) ⟨m,d,g,hT,h,hx⟩ fun a w hj=>?_
 have hmu:(if hj:∃ m,J m a w then Classical.choose (Aha hj) else 0)=Classical.choose (Aha hj):=dif_pos hj
 have hspec:=(Classical.choose_spec (Aha hj)).1
 generalize hmm:Classical.choose (Aha hj)=m at hspec
 obtain ⟨d,g,hT,h,hx⟩:=hspec
 cases m with
 | zero=>exact hT.elim
 | succ m=>
  rcases Bo3 (P:=P) h hop (hlf d) (hres d) with ⟨hl,hrun⟩ | ⟨i,p,w1,hp,hrun,k1,k2⟩
  ·obtain ⟨q,ef,e2⟩:=Bv (hT.1 hl)
   rw [← hfin] at ef
   unfold Bmp at ef
   rw [hn] at ef
   obtain ⟨r1,r2⟩:=Sf (av:=.tp [.lf (.c (.bool false))]) (v:=.tuple #[.bool false]) h o.dst ⟨_,rfl,rfl,fun j v hj=>by
    match j,hj with
    | 0,hj=>cases hj; exact ⟨.bool false,rfl,rfl,rfl⟩⟩
   rw [← hd] at ef
   refine A8x hm hs hn hnp hg h hrun r1 (hx.step r2) c (fun c' hc'=>by rw [hno] at hc'; cases hc') ho (fun e s' nid' g' a' w' qq h' hx'=>?_) ef
   cases e with
   | normal=>cases qq
   | ret=>cases qq
   | exit id=>
    simp only at qq
    split at qq
    ·rename_i hid
     subst hid
     subst hnp
     obtain ⟨g2,j1,j2⟩:=Ass h' hx' qq
     exact hk (.exit id) _ _ g2 a' w' e2 j1 j2
    ·cases qq
  ·obtain ⟨d',ed,hT'⟩:=hT.2 i p hp
   rw [← hstp] at ed
   unfold Bmo at ed
   rw [hn] at ed
   obtain ⟨r1,r2⟩:=Sf (av:=.tp [.lf (.c (.bool true)),.lf (.c (.string p.1)),.lf (.c (Tv t p.2))]) (v:=.tuple #[.bool true,.string p.1,Tv t p.2]) k2 o.dst ⟨_,rfl,rfl,fun j v hj=>by
    match j,hj with
    | 0,hj=>cases hj; exact ⟨.bool true,rfl,rfl,rfl⟩
    | 1,hj=>cases hj; exact ⟨.string p.1,rfl,rfl,rfl⟩
    | 2,hj=>cases hj; exact ⟨Tv t p.2,rfl,rfl,A8b hpt⟩⟩
   rw [← hd] at ed
   refine A8x hm hs hn hnp hg h hrun r1 ((hx.step k1).step r2) c (fun c' hc'=>by rw [hno] at hc'; cases hc') ho (fun e s' nid' g' a' w' qq h' hx'=>?_) ed
   cases e with
   | ret=>cases qq
   | exit id=>cases qq
   | normal=>
    simp only at qq
    subst hnp
    obtain ⟨g2,j1,j2⟩:=Ass h' hx' qq
    have hJ:J m a' w':=⟨d',g2,hT',j1,j2⟩
    refine ⟨⟨m,hJ⟩,?_⟩
    rw [hmu,hmm,dif_pos ⟨m,hJ⟩]
    have:=(Classical.choose_spec (Aha (⟨m,hJ⟩:∃ m,J m a' w'))).2 m hJ
    omega
end
open Go Go.RowKit Go.WideShapes
section
def Bo4 (f:TypeId→Option Ty):List Field→Nat→Option Ty
 | [],_=>some .unit
 | d::r,off=>if d.offset=off then (f d.type).bind fun a=>(Bo4 f r (off + a.sz)).bind fun b=>some (.pair a b) else none
def tyG (P:Program):Nat→TypeId→Option Ty
 | 0,_=>none
 | k + 1,t=>match P.underlying t with
  | some (.int i)=>some (.int i)
  | some .bool=>some .bool
  | some .string=>some .str
  | some (.slice e)=>(tyG P k e).bind fun a=>if 0 < a.sz then (if 0 < P.bytesOf e then some (.sl a) else none) else none
  | some (.struct fs)=>(Bo4 (tyG P k) fs.toList 0).bind fun a=>if P.cellsOf t=a.sz then some a else none
  | _=>none
def Ajs:(t:Ty)→t.D→Prop
 | .int k,n=>(Lit.int k n).wf=true
 | .bool,_=>True
 | .str,s=>ByteArray.size s≤reachBytes
 | .sl t,xs=>List.length xs≤reachBytes∧∀ (i:Nat) (x:t.D),nth (α:=t.D) xs i=some x→Ajs t x
 | .unit,_=>True
 | .pair a b,x=>Ajs a x.1∧Ajs b x.2
theorem Bdl {α:Type} {n:Nat} {f:Fin n→α} {i:Nat} {x:α} (h:nth (List.ofFn f) i=some x):∃ hi:i < n,f ⟨i,hi⟩=x:=by
 unfold nth at h
 rw [List.getElem?_ofFn] at h
 split at h
 ·rename_i hi
  exact ⟨hi,Option.some.inj h⟩
 ·cases h
section
variable {H:Type} {enc:TypeId×Value→H} {P:Program} {w:World} {spare:Nat→Bool} {held:Bool}
theorem Ajt {e:TypeId}:∀ {ds:List (DataW H)} {i:Nat} {d:DataW H},ds[i]? = some d→∀ n∈d.weights P e,n∈DataW.weightsAll P e ds
 | [],i,d,h,_,_=>by simp at h
 | d0::r,0,d,h,n,hn=>by
  simp at h
  subst h
  simp only [DataW.weightsAll,List.mem_append]
  exact .inl hn
 | d0::r,i + 1,d,h,n,hn=>by
  simp only [DataW.weightsAll,List.mem_append]
  exact .inr (Ajt (i:=i) (by simpa using h) n hn)
theorem Bo5 {a:Addr} {v:Value} (h:w.cell? a=some v):a.block < w.heap.size:=by
 unfold World.cell? at h
 cases hq:w.heap[a.block]? with
 | none=>rw [hq] at h; simp at h
 | some o=>exact (Array.getElem?_eq_some_iff.1 hq).1
theorem Brh:∀ {k:Nat} {T:TypeId} {t:Ty},tyG P k T=some t→∀ {fuel:Nat} {cs:List Value} {x:DataW H×List MemPlace},DataW.trod enc P w 0 spare held fuel T cs=some x→
  (∀ n∈x.1.weights P T,n≤reachBytes)→∃ y:t.D,t.K w (fun _=>True) y cs∧Ajs t y:=by
 intro k
 induction k with
 | zero=>intro T t h; cases h
 | succ k ih=>
  intro T t h fuel cs x hx hw
  simp only [tyG] at h
  split at h
  ·rename_i i hU
   cases h
   obtain ⟨n,rfl,rfl,h3⟩:=DataW.trod_int hU hx
   exact ⟨n,rfl,h3⟩
  ·rename_i hU
   cases h
   obtain ⟨b,rfl,rfl⟩:=DataW.trod_bool hU hx
   exact ⟨b,rfl,trivial⟩
  ·rename_i hU
   cases h
   obtain ⟨s,rfl,rfl,h3⟩:=DataW.trod_string hU hx
   refine ⟨s,rfl,?_⟩
   have:=hw s.data.toList.length (by simp [DataW.weights])
   rw [Array.length_toList] at this
   exact this
  ·rename_i e hU
   obtain ⟨a,ha,h2⟩:=Bv h
   split at h2
   ·rename_i hpos
    split at h2<;>cases h2
    rename_i hby
    rcases DataW.trod_slice hU hx with ⟨rfl,rfl⟩ | ⟨ad,len,cap,elems,rest,n,rfl,rfl,rfl,hb,hl,hc,hlen,hel,_,_⟩
    ·exact ⟨([]:List a.D),⟨none,0,rfl,Nat.le_refl _,fun i y hy=>by simp [nth] at hy⟩,by simp,fun i y hy=>by simp [nth] at hy⟩
    ·have hwl:(elems.length + rest.length) * P.bytesOf e≤reachBytes:=by
      have:=hw ((elems.length + rest.length) * P.bytesOf e) (by simp [DataW.weights,hU])
      simpa using this
     have one:∀ i:Fin len,∃ y:a.D,(∃ cs',cs'.length=a.sz∧a.K w (fun _=>True) y cs'∧ad.block < w.heap.size∧∀ (j:Nat) (u:Value),cs'[j]? = some u→w.cell? (ad.add (i.1 * a.sz + j))=some u)∧Ajs a y:=by
      intro i
      have hi:=hel i.1 i.2
      rw [List.getElem?_eq_getElem (by omega)] at hi
      obtain ⟨cs',h1,h2⟩:=Bv hi
      obtain ⟨y,k1,k2⟩:=ih ha h2 (fun m hm=>hw m (by
       simp only [DataW.weights,hU,List.mem_cons,List.mem_append]
       refine .inr (.inl (Ajt (i:=i.1) (d:=(elems[i.1]'(by omega)).1) ?_ m hm))
       rw [List.getElem?_map,List.getElem?_eq_getElem (by omega)]
       rfl))
      have hsz:=Ty.K_len k1
      obtain ⟨_,c2,c3⟩:=World.cells?_some h1
      have hcell:P.cellsOf e=a.sz:=by omega
      have hall:∀ (j:Nat) (u:Value),cs'[j]? = some u→w.cell? (ad.add (i.1 * a.sz + j))=some u:=by
       intro j u hu
       have hj:=(List.getElem?_eq_some_iff.1 hu).1
       have:=c3 j (by omega)
       rw [A04,hcell] at this
       rw [this,hu]
      refine ⟨y,⟨cs',hsz,k1,?_,hall⟩,k2⟩
      have h0:cs'[0]? = some (cs'[0]'(by omega)):=List.getElem?_eq_getElem (by omega)
      have:=Bo5 (hall 0 _ h0)
      rwa [Adh] at this
     refine ⟨(List.ofFn fun i=>Classical.choose (one i):List a.D),⟨some ad,cap,by rw [List.length_ofFn],by rw [List.length_ofFn]; exact hl,fun i y hy=>?_⟩,?_,fun i y hy=>?_⟩
     ·obtain ⟨hi,rfl⟩:=Bdl hy
      obtain ⟨⟨cs',q1,q2,q3,q4⟩,_⟩:=Classical.choose_spec (one ⟨i,hi⟩)
      exact ⟨ad,rfl,trivial,q3,cs',q1,q2,q4⟩
     ·rw [List.length_ofFn]
      have:elems.length * 1≤(elems.length + rest.length) * P.bytesOf e:=Nat.mul_le_mul (by omega) hby
      omega
     ·obtain ⟨hi,rfl⟩:=Bdl hy
      exact (Classical.choose_spec (one ⟨i,hi⟩)).2
   ·cases h2
  ·rename_i fs hU
   obtain ⟨a,ha,h2⟩:=Bv h
   split at h2<;>cases h2
   rename_i hsz
   obtain ⟨xs,n,rfl,rfl,hcl,hxl,hf⟩:=DataW.trod_struct hU hx
   have hwE:∀ m∈DataW.weightsEach P (fs.toList.map (·.type)) (xs.map (·.1)),m≤reachBytes:=fun m hm=>hw m (by simpa [DataW.weights,hU] using hm)
   have go:∀ (l:List Field) (off:Nat) (b:Ty) (ys:List (DataW H×List MemPlace)),Bo4 (tyG P k) l off=some b→ys.length=l.length→
     (∀ (i:Nat) (f:Field),l[i]? = some f→DataW.trod enc P w 0 spare held n f.type ((cs.drop f.offset).take (P.cellsOf f.type))=ys[i]?)→
     (∀ m∈DataW.weightsEach P (l.map (·.type)) (ys.map (·.1)),m≤reachBytes)→∃ y:b.D,b.K w (fun _=>True) y ((cs.drop off).take b.sz)∧Ajs b y:=by
    intro l
    induction l with
    | nil=>
     intro off b ys hb _ _ _
     cases hb
     exact ⟨(),by show _=[]; simp [Ty.sz],trivial⟩
    | cons f r ihl=>
     intro off b ys hb hlen hall hwts
     simp only [Bo4] at hb
     split at hb
     ·rename_i hoff
      obtain ⟨b1,hb1,hb⟩:=Bv hb
      obtain ⟨b2,hb2,hb⟩:=Bv hb
      cases hb
      cases ys with
      | nil=>simp at hlen
      | cons y0 ys=>
       have h0:=hall 0 f rfl
       simp only [List.getElem?_cons_zero] at h0
       obtain ⟨y1,k1,f1⟩:=ih hb1 h0 (fun m hm=>hwts m (by simp only [List.map_cons,DataW.weightsEach,List.mem_append]; exact .inl hm))
       obtain ⟨y2,k2,f2⟩:=ihl (off + b1.sz) b2 ys hb2 (by simpa using hlen) (fun i f' hi=>by have:=hall (i + 1) f' (by simpa using hi); simpa using this) (fun m hm=>hwts m (by simp only [List.map_cons,DataW.weightsEach,List.mem_append]; exact .inr hm))
       have e1:(cs.drop f.offset).take (P.cellsOf f.type)=(cs.drop off).take b1.sz:=by
        have hl1:=Ty.K_len k1
        rw [hoff] at hl1 ⊢
        rw [List.length_take] at hl1
        rcases Nat.le_total (P.cellsOf f.type) (cs.drop off).length with q | q
        ·rw [Nat.min_eq_left q] at hl1
         rw [hl1]
        ·rw [Nat.min_eq_right q] at hl1
         rw [List.take_of_length_le q,List.take_of_length_le (by omega)]
       rw [e1] at k1
       refine ⟨(y1,y2),⟨(cs.drop off).take b1.sz,(cs.drop (off + b1.sz)).take b2.sz,?_,k1,k2⟩,f1,f2⟩
       show (cs.drop off).take (b1.sz + b2.sz)=_
       rw [List.take_add,List.drop_drop]
     ·cases hb
   obtain ⟨y,k1,k2⟩:=go fs.toList 0 t xs ha (by simpa using hxl) (fun i f hi=>hf i f (by simpa using hi)) hwE
   refine ⟨y,?_,k2⟩
   rw [List.drop_zero,List.take_of_length_le (by omega)] at k1
   exact k1
  ·cases h
def Bgj (P:Program) (T:TypeId):Option Nat:=match P.underlying T with
 | some (.struct _)=>some (P.cellsOf T)
 | _=>none
def rds:List Ty→List Md
 | []=>[]
 | t::r=>.rd t::rds r
def Bms:(ts:List Ty)→MsD (rds ts)→Prop
 | [],_=>True
 | t::r,x=>Ajs t x.1∧Bms r x.2
def Bri (P:Program):List TypeId→Option (List Ty)
 | []=>some []
 | T::r=>(tyG P 12 T).bind fun t=>(Bri P r).bind fun l=>some (t::l)
theorem Asu:∀ (ts:List Ty) (us:List Value),H9 (rds ts) us=[]
 | [],_=>rfl
 | t::r,us=>Asu r _
theorem Baw {b0:Nat} {T:TypeId} {t:Ty} (h:tyG P 12 T=some t) {v:Value} (hv:Value.okWide P w .any b0 T v):∃ cs,ShR [Bgj P T] [v] cs∧cs=v.cells.toList:=by
 unfold tyG at h
 unfold Bgj
 split at h
 ·rename_i i hU
  obtain ⟨n,rfl⟩:=okWide_int hU hv
  rw [hU]
  exact ⟨_,⟨_,[],[],rfl,rfl,rfl,rfl,rfl⟩,rfl⟩
 ·rename_i hU
  obtain ⟨n,rfl⟩:=okWide_bool hU hv
  rw [hU]
  exact ⟨_,⟨_,[],[],rfl,rfl,rfl,rfl,rfl⟩,rfl⟩
 ·rename_i hU
  obtain ⟨n,rfl⟩:=okWide_string hU hv
  rw [hU]
  exact ⟨_,⟨_,[],[],rfl,rfl,rfl,rfl,rfl⟩,rfl⟩
 ·rename_i e hU
  obtain ⟨a,l,c,rfl⟩:=okWide_slice hU hv
  rw [hU]
  exact ⟨_,⟨_,[],[],rfl,rfl,rfl,rfl,rfl⟩,rfl⟩
 ·rename_i fs hU
  obtain ⟨cs,rfl,hs⟩:=okWide_struct hU hv
  rw [hU]
  exact ⟨cs.toList,⟨cs,[],[],rfl,(List.append_nil _).symm,hs,rfl,rfl⟩,rfl⟩
 ·cases h
theorem Bmt {x:Option Nat} {sh:List (Option Nat)} {v:Value} {vs c1 c2:List Value} (h1:ShR [x] [v] c1) (h2:ShR sh vs c2):ShR (x::sh) (v::vs) (c1++c2):=by
 cases x with
 | none=>
  obtain ⟨u,us',cs',e1,e2,e3,e4,e5⟩:=h1
  subst e4 e5
  cases e1
  subst e2
  exact ⟨v,vs,c2,rfl,rfl,e3,h2⟩
 | some k=>
  obtain ⟨c,us',cs',e1,e2,e3,e4,e5⟩:=h1
  subst e4 e5
  cases e1
  subst e2
  exact ⟨c,vs,c2,rfl,by rw [List.append_nil],e3,h2⟩
theorem A8y {b0:Nat}:∀ {Ts:List TypeId} {ts:List Ty},Bri P Ts=some ts→∀ {vs:List Value} {ds:List (DataW H)} {ps:List MemPlace},DataW.TrodAll enc P w 0 spare held Ts vs ds ps→
  (∀ (j:Nat) T v,Ts[j]? = some T→vs[j]? = some v→Value.okWide P w .any b0 T v)→(∀ n∈DataW.weightsEach P Ts ds,n≤reachBytes)→
  ∃ (x:MsD (rds ts)) (us:List Value),HR w (fun _=>True) (rds ts) x us∧ShR (Ts.map (Bgj P)) vs us∧Bms ts x
 | [],ts,h,vs,ds,ps,hT,_,_=>by
  cases h
  obtain ⟨rfl,rfl,rfl⟩:=Go.ChangeShapes.trodAll_nil hT
  exact ⟨(),[],rfl,⟨rfl,rfl⟩,trivial⟩
 | T::Ts,ts,h,vs,ds,ps,hT,hok,hw=>by
  simp only [Bri] at h
  obtain ⟨t,h1,h⟩:=Bv h
  obtain ⟨l,h2,h⟩:=Bv h
  cases h
  obtain ⟨v,vs',d,ds',p,q,rfl,rfl,rfl,⟨fuel,k1⟩,k2⟩:=Go.ChangeShapes.trodAll_cons hT
  obtain ⟨y,q1,q2⟩:=Brh h1 k1 (fun n hn=>hw n (by simp only [DataW.weightsEach,List.mem_append]; exact .inl hn))
  obtain ⟨x,us,r1,r2,r3⟩:=A8y h2 k2 (fun j T' v' e1 e2=>hok (j + 1) T' v' (by simpa using e1) (by simpa using e2)) (fun n hn=>hw n (by simp only [DataW.weightsEach,List.mem_append]; exact .inr hn))
  obtain ⟨cs,s1,rfl⟩:=Baw h1 (hok 0 T v rfl rfl)
  exact ⟨(y,x),v.cells.toList++us,⟨_,_,rfl,q1,r1⟩,Bmt s1 r2,q2,r3⟩
theorem Ayd {base:Nat}:∀ {Ts:List TypeId} {vs:List Value} {ds:List (DataW H)} {ps:List MemPlace},DataW.TrodAll enc P w base spare held Ts vs ds ps→ds.length=Ts.length
 | [],vs,ds,ps,h=>by obtain ⟨rfl,rfl,rfl⟩:=Go.ChangeShapes.trodAll_nil h; rfl
 | T::Ts,vs,ds,ps,h=>by
  obtain ⟨v,vs',d,ds',p,q,rfl,rfl,rfl,k1,k2⟩:=Go.ChangeShapes.trodAll_cons h
  simp [Ayd k2]
theorem Bs3 {α:Type} {l:List α} (h:l.length=1):∃ a,l=[a]:=List.length_eq_one_iff.1 h
def Hg (P:Program):List TypeId→Bool
 | []=>true
 | T::r=>P.readableRec T&&(Nat.blt T P.types.size&&Hg P r)
theorem A8z (hl:laidOutB P=true) {W W':World} (hb:Below W.heap.size W W'):∀ {Ts:List TypeId},Hg P Ts=true→∀ {vs:List Value} {ds:List (DataW H)} {ps:List MemPlace},DataW.TrodAll enc P W 0 (fun _=>true) true Ts vs ds ps→
  DataW.TrodAll enc P W' 0 (fun b=>decide (b < W.heap.size)) true Ts vs ds ps
 | [],_,vs,ds,ps,h=>by
  obtain ⟨rfl,rfl,rfl⟩:=Go.ChangeShapes.trodAll_nil h
  exact rfl
 | T::Ts,hr,vs,ds,ps,h=>by
  have hlt:=DataW.TrodAll.lt h
  obtain ⟨v,vs',d,ds',p,q,rfl,rfl,rfl,k1,k2⟩:=Go.ChangeShapes.trodAll_cons h
  simp only [Hg,Bool.and_eq_true] at hr
  exact ⟨p,q,Below.trod hl hr.1 (by simpa using hr.2.1) k1 hb (fun x hx=>hlt x (List.mem_append_left _ hx)),A8z hl hb hr.2.2 k2,rfl⟩
theorem Bkd {f:FuncId} {ts:List Ty} {psh:List (Option Nat)} {den:MsD (rds ts)→Option (MsD [.rd .bool]×BxD (rds ts))} (hs:Ajc P f ⟨rds ts,psh,[.rd .bool],[none]⟩ den)
  {x:MsD (rds ts)} {y:BxD (rds ts)} (hx:den x=some ((true,()),y)) {W:World} {vs us:List Value} (h1:HR W (fun _=>True) (rds ts) x us) (h2:ShR psh vs us):
  Calls P f vs.toArray W fun e W'=>e=.returned (.bool true)∧Below W.heap.size W W':=by
 refine Calls.mono (hs x _ hx W (fun _=>True) us vs h1 h2 ⟨by simp only [Asu]; exact List.nodup_nil,fun b hb=>by simp only [Asu] at hb; cases hb⟩) fun e W'=>?_
 rintro ⟨rs,us',rfl,k1,k2,⟨c1,c2,e1,e2,e3⟩,_⟩
 have e2':c1=[.bool true]:=e2
 have e3':c2=[]:=e3
 subst e2' e3'
 obtain ⟨u,us1,cs1,q1,q2,q3,q4,q5⟩:=k1
 subst q4 q5
 rw [e1] at q2
 have:u=.bool true:=by simpa using q2.symm
 subst this
 subst q1
 simp only [Asu] at k2
 exact ⟨rfl,k2.below⟩
end
end
open Go Go.RowKit Go.Proofs Go.Shelf
section
variable {P:Program} {ρ:Ren}
theorem Bgk {w:World} {b j:Nat} {cs:Array Value} {T:TypeId} (h:w.heap[b]? = some (.cells cs T (0,0))):w.frozen? ⟨b,j,none⟩=false:=Lib.frozen_of_heap h j
theorem Bax {w:World} {b:Nat} {v0 v1 u:Value} {T:TypeId} (h:w.heap[b]? = some (.cells #[v0,v1] T (0,0))):(w.setCell ⟨b,0,none⟩ u).heap[b]? = some (.cells #[u,v1] T (0,0))∧∀ k,k≠b→(w.setCell ⟨b,0,none⟩ u).heap[k]? = w.heap[k]? := by
 have hlt:=(Array.getElem?_eq_some_iff.1 h).1
 have h2:=(Array.getElem?_eq_some_iff.1 h).2
 constructor
 ·simp [World.setCell,Array.getElem?_modify,h]
 ·intro k hk
  simp [World.setCell,Array.getElem?_modify,Ne.symm hk]
theorem Bs4 (L:Lays.n240 P ρ) (X:Builder.X72 P ρ):Bq6 P (ρ.t 72) (ρ.f 240):=by
 intro w b v
 constructor
 ·intro h
  have c0:w.cell? ⟨b,0,none⟩=some (.pointer none):=by rw [Lib.cell_of_heap h]; rfl
  refine (Any.Builder_copyCheck_fresh L X b w c0 (by simp [World.shape?,h]) (Bgk h)).mono ?_
  rintro e w' ⟨rfl,rfl⟩
  obtain ⟨h1,h2⟩:=Bax (u:=.pointer (some ⟨b,0,none⟩)) h
  refine ⟨rfl,⟨rfl,rfl,rfl,by simp [World.setCell],fun k _ hk=>h2 k (by simpa using hk)⟩,h1⟩
 ·intro h
  have c0:w.cell? ⟨b,0,none⟩=some (.pointer (some ⟨b,0,none⟩)):=by rw [Lib.cell_of_heap h]; rfl
  refine (Any.Builder_copyCheck_used L X b w c0).mono ?_
  rintro e w' ⟨rfl,rfl⟩
  exact ⟨rfl,Eb.refl _ _⟩
theorem Agd {l:List Nat} (w:World):Eb l w w.drew:=⟨rfl,rfl,rfl,Nat.le_refl _,fun _ _ _=>rfl⟩
theorem Bay {w w':World} {g n:Nat} (h:Eb [g] w w'):Eb [g] w (w'.freeze ⟨g,0,none⟩ n):=by
 by_cases hn:n=0
 ·subst hn; exact h
 ·refine h.trans ⟨?_,?_,?_,?_,fun k _ hk=>?_⟩
  ·simp [World.freeze,hn]
  ·simp [World.freeze,hn]
  ·simp [World.freeze,hn]
  ·simp [World.freeze,hn]
  ·have:g≠k:=fun e=>hk (by simp [e])
   simp [World.freeze,hn,Array.getElem?_modify,this]
theorem Bdm {l:List Nat} {w w':World} (h:Eb l w w') (o:Obj):Eb l w (w'.alloc o):=by
 refine h.trans ⟨rfl,rfl,rfl,Nat.le_of_lt (by show w'.heap.size < (w'.heap.push o).size; simp),fun k hk _=>Lib.alloc_old w' o k hk⟩
set_option maxHeartbeats 2000000 in
set_option maxRecDepth 100000 in
theorem Bs5 (L:Lays.n169 P ρ) (X:Builder.Extra P ρ):Bq7 P (ρ.t 72) (ρ.t 5) (ρ.f 169):=by
 intro w b p v xs cs hby hbk hown hrep hne
 have hcm0:∀ (j:Nat) (x:Int),xs[j]? = some x→cs[j]? = some (.int .u8 x):=by
  intro j x hx
  have:=hrep.2 j x hx
  have h1:(cs.drop (j * 1)).take 1=[Value.int .u8 x]:=this
  rw [Nat.mul_one] at h1
  have h2:(cs.drop j)[0]? = some (.int .u8 x):=by
   have:=congrArg (fun l=>l[0]?) h1
   simpa using this
  simpa using h2
 have mixed:=L.mixed
 have t72:=L.t72; have a72:=L.a72; have z72:=L.z72; have v72:=L.v72; have u72:=run_underlying L.t72
 have t70:=L.t70; have a70:=L.a70; have z70:=L.z70; have v70:=L.v70; have u70:=run_underlying L.t70
 have t37:=L.t37; have a37:=L.a37; have z37:=L.z37; have v37:=L.v37; have u37:=run_underlying L.t37
 have t127:=L.t127; have a127:=L.a127; have z127:=L.z127; have v127:=L.v127; have u127:=run_underlying L.t127
 have t3:=L.t3; have a3:=L.a3; have z3:=L.z3; have v3:=L.v3; have u3:=run_underlying L.t3
 have t9:=L.t9; have a9:=L.a9; have z9:=L.z9; have v9:=L.v9; have u9:=run_underlying L.t9
 have t5:=X.t5; have a5:=X.a5; have z5:=X.z5; have v5:=X.v5; have u5:=run_underlying X.t5
 have hUS:=Any.unsafeString_none L X
 rcases hown.2 with ⟨rfl,hz⟩ | ⟨g,cap,cur,rfl,_,hg,hnc,hcm,hcs,htake⟩
 ·have hx0:xs=[]:=List.eq_nil_of_length_eq_zero hz
  subst hx0
  have c1:w.drew.cell? ⟨b,1,none⟩=some (.slice none 0 0):=by
   have:w.drew.heap[b]? = some (.cells #[p,.slice none 0 0] (ρ.t 72) (0,0)):=hbk
   rw [Lib.cell_of_heap this]; rfl
  have hSD:(Builtin.unsafeSliceData_ #[(ρ.t 37)] (ρ.t 127) #[.slice none 0 0]).run P w.drew=.ok (.pointer none) w.drew:=rfl
  go_enter L.f169,Body.n169_ntmps ρ
  go_wp2
  go_region_o
  all_goals (go_wp2; go_ret; exact ⟨rfl,Agd w⟩)
 ·by_cases h0:xs=[]
  ·subst h0
   by_cases hc0:cap=0
   ·subst hc0
    have hlt:b < w.heap.size:=(Array.getElem?_eq_some_iff.1 hbk).1
    have c1:w.drew.cell? ⟨b,1,none⟩=some (.slice (some ⟨g,0,none⟩) 0 0):=by
     have:w.drew.heap[b]? = some (.cells #[p,.slice (some ⟨g,0,none⟩) 0 0] (ρ.t 72) (0,0)):=hbk
     rw [Lib.cell_of_heap this]; rfl
    have hSD:(Builtin.unsafeSliceData_ #[(ρ.t 37)] (ρ.t 127) #[.slice (some ⟨g,0,none⟩) 0 0]).run P w.drew=.ok (.pointer (some ⟨w.drew.heap.size,0,none⟩)) (w.drew.alloc (.view ⟨g,0,none⟩ (ρ.t 5))):=
     Lib.run_unsafeSliceData_zero w.drew _ _ (ρ.t 5) L.t127 ⟨g,0,none⟩ 0 ((ρ.t 5),cur.size) (by have hg':w.drew.heap[g]? = some (.cells cur (ρ.t 5) (0,0)):=hg; simp [World.shape?,hg'])
    have c2:(w.drew.alloc (.view ⟨g,0,none⟩ (ρ.t 5))).cell? ⟨b,1,none⟩=some (.slice (some ⟨g,0,none⟩) 0 0):=by
     have:(w.drew.alloc (.view ⟨g,0,none⟩ (ρ.t 5))).heap[b]? = _:=(Lib.alloc_old w.drew _ b hlt).trans hbk
     rw [Lib.cell_of_heap this]; rfl
    have c3:(w.alloc (.view ⟨g,0,none⟩ (ρ.t 5))).drew.cell? ⟨b,1,none⟩=some (.slice (some ⟨g,0,none⟩) 0 0):=c2
    have c0:w.cell? ⟨b,1,none⟩=some (.slice (some ⟨g,0,none⟩) 0 0):=c1
    go_enter L.f169,Body.n169_ntmps ρ
    go_wp2
    go_region_o
    all_goals (go_wp2; go_ret; exact ⟨rfl,Bdm (Agd w) _⟩)
   ·have c1:w.drew.cell? ⟨b,1,none⟩=some (.slice (some ⟨g,0,none⟩) 0 cap):=by
     have:w.drew.heap[b]? = some (.cells #[p,.slice (some ⟨g,0,none⟩) 0 cap] (ρ.t 72) (0,0)):=hbk
     rw [Lib.cell_of_heap this]; rfl
    have hSD:(Builtin.unsafeSliceData_ #[(ρ.t 37)] (ρ.t 127) #[.slice (some ⟨g,0,none⟩) 0 cap]).run P w.drew=.ok (.pointer (some ⟨g,0,none⟩)) w.drew:=
     Lib.run_unsafeSliceData_row _ _ _ _ _ _ hc0
    clear hc0
    go_enter L.f169,Body.n169_ntmps ρ
    go_wp2
    go_region_o
    all_goals (go_wp2; go_ret; exact ⟨rfl,Agd w⟩)
  ·generalize hl:(xs.map fun n=>UInt8.ofNat n.toNat)=l
   have hlen:l.length=xs.length:=by rw [← hl]; simp
   have hl0:l≠[]:=by rw [← hl]; simpa using h0
   have hlp:0 < l.length:=List.length_pos_iff.2 hl0
   have hstr:strOfNums xs=⟨l.toArray⟩:=by unfold strOfNums; rw [hl]
   rw [hstr]
   rw [← hlen] at hown hnc htake hbk
   rw [← hlen]
   have c1:w.drew.cell? ⟨b,1,none⟩=some (.slice (some ⟨g,0,none⟩) l.length cap):=by
    have:w.drew.heap[b]? = some (.cells #[p,.slice (some ⟨g,0,none⟩) l.length cap] (ρ.t 72) (0,0)):=hbk
    rw [Lib.cell_of_heap this]; rfl
   have hSD:(Builtin.unsafeSliceData_ #[(ρ.t 37)] (ρ.t 127) #[.slice (some ⟨g,0,none⟩) l.length cap]).run P w.drew=.ok (.pointer (some ⟨g,0,none⟩)) w.drew:=
    Lib.run_unsafeSliceData_row _ _ _ _ _ _ (by omega)
   have hUS:(Builtin.unsafeString_ #[(ρ.t 127),(ρ.t 3)] (ρ.t 9) #[.pointer (some ⟨g,0,none⟩),.int .i64 l.length]).run P w.drew=.ok (.string ⟨l.toArray⟩) (w.drew.freeze ⟨g,0,none⟩ l.length):=by
    refine Lib.run_unsafeString_row w.drew (ρ.t 127) (ρ.t 3) (ρ.t 9) (ρ.t 5) L.t127 X.cellsByte g cur.size (by have hg':w.drew.heap[g]? = some (.cells cur (ρ.t 5) (0,0)):=hg; simp [World.shape?,hg']) l hl0 (by omega) (by unfold maxLen at hcm; omega) ?_
    intro j x hx
    rw [← hl,List.getElem?_map] at hx
    obtain ⟨n,hn,rfl⟩:=Option.map_eq_some_iff.1 hx
    have hb:=List.all_eq_true.1 hby n (List.mem_of_getElem? hn)
    simp only [Bool.and_eq_true,decide_eq_true_eq] at hb
    have hc:=hcm0 j n hn
    have hj:j < l.length:=by rw [hlen]; exact (List.getElem?_eq_some_iff.1 hn).1
    rw [← htake,List.getElem?_take,if_pos (by omega)] at hc
    have hg':w.drew.heap[g]? = some (.cells cur (ρ.t 5) (0,0)):=hg
    rw [A11,Lib.cell_of_heap hg']
    have hn2:((UInt8.ofNat n.toNat).toNat:Int)=n:=by
     simp
     omega
    rw [hn2]
    simpa using hc
   rw [hlen] at hSD hUS c1 hbk
   clear hlen hl htake
   go_enter L.f169,Body.n169_ntmps ρ
   go_wp2
   go_region_o
   all_goals (go_wp2; go_ret; exact ⟨rfl,Bay (Agd w)⟩)
def Acz (s:Aa) (c:Int):Option Aa:=if 0≤c∧c≤9223372036854775807∧s.size * c.toNat≤140737488355328 then some ⟨(Lib.repeatL s.data.toList c.toNat).toArray⟩ else none
theorem Below.keeps {w w':World} (h:Below w.heap.size w w'):Eb [] w w':=⟨h.os,h.tape,h.output,h.size,fun k hk _=>h.block k hk⟩
theorem Bke {f:FuncId} {s:Aa→Int→Option Aa} (H:∀ a c r,s a c=some r→∀ w,Calls P f #[.string a,.int .i64 c] w fun e w'=>e=.returned (.string r)∧Below w.heap.size w w'):
  Ajc P f ⟨[.rd .str,.rd (.int .i64)],[none,none],[.rd .str],[none]⟩ (fun x=>(s x.1 x.2.1).bind fun r=>some ((r,()),())):=by
 rintro ⟨a,c,⟨⟩⟩ r hr w S us args ⟨c1,c2,e1,h1,c3,c4,e2,h2,h3⟩ hsh hown
 obtain ⟨q,hq,hr⟩:=Bv hr
 cases hr
 have h1':c1=[.string a]:=h1
 have h2':c3=[.int .i64 c]:=h2
 have h3':c4=[]:=h3
 subst h1' h2' h3' e2 e1
 obtain ⟨u,us',cs',q1,q2,q3,u2,us2,cs2,q4,q5,q6,q7,q8⟩:=hsh
 subst q7 q8 q4 q1
 simp only [List.cons_append,List.nil_append,List.cons.injEq] at q2 q5
 obtain ⟨rfl,q2⟩:=q2
 rw [q5] at q2
 simp only [List.cons.injEq,and_true] at q2
 subst q2
 refine Calls.mono (H a c q hq w) fun e w'=>?_
 rintro ⟨rfl,hb⟩
 refine ⟨[.string q],[.string q],rfl,⟨_,_,_,rfl,rfl,rfl,rfl,rfl⟩,Below.keeps hb,⟨[.string q],[],rfl,rfl,rfl⟩,trivial,?_,?_⟩
 ·exact List.nodup_nil
 ·intro b hb
  cases hb
end
open Go Go.RowKit Go.Proofs
section
abbrev B8 (P:Program) (n:FuncId) (sd:SD):Prop:=O9 P n∧Ajc P n sd.sg sd.den
def tbF:List (FuncId×SD)→FuncId→Option SD
 | [],_=>none
 | p::r,f=>if f=p.1 then some p.2 else tbF r f
def Brj (P:Program):List (FuncId×SD)→Prop
 | []=>True
 | p::r=>B8 P p.1 p.2∧Brj P r
theorem Baz {P:Program}:∀ {l:List (FuncId×SD)},Brj P l→∀ f d,tbF l f=some d→O9 P f∧Ajc P f d.sg d.den
 | [],_,f,d,h=>by cases h
 | p::r,⟨a,b⟩,f,d,h=>by
  unfold tbF at h
  split at h
  ·rename_i e; subst e; cases h; exact a
  ·exact Baz b f d h
def tb (l:List (FuncId×SD)):Tb:=Tb.of (tbF l)
theorem Bb {P:Program} {l:List (FuncId×SD)} (h:Brj P l):A5 P (tb l):=A5.of (Baz h)
abbrev Ah {b:Type} (f:b) (_:Unit):b:=f
abbrev Ac {a g d b:Type} (h:g→d→b) (f:a→g) (x:a×d):b:=h (f x.1) x.2
abbrev u4 {a b c e g d r:Type} (h:g→d→r) (f:a→b→c→e→g) (x:a×b×c×e×d):r:=h (f x.1 x.2.1 x.2.2.1 x.2.2.2.1) x.2.2.2.2
theorem nb:(∀ {α β:Type} (c:Bool) (x y:Option α) (f:α→Option β),(bif c then x else y).bind f=bif c then x.bind f else y.bind f)∧
  (∀ {α β:Type} (c:Prop) [Decidable c] (x y:Option α) (f:α→Option β),(if c then x else y).bind f=if c then x.bind f else y.bind f)∧
  (∀ {α β γ δ:Type} (f:α→Option γ) (g:β→Option γ) (o:α ⊕ β) (h:γ→Option δ),(Cy f g o).bind h=Cy (fun a=>(f a).bind h) (fun b=>(g b).bind h) o)∧
  (∀ {α β γ:Type} (x:Option α) (f:α→Option β) (g:β→Option γ),(x.bind f).bind g=x.bind fun y=>(f y).bind g)∧
  (∀ {α β:Type} (f:α→Option β),Option.bind none f=none)∧
  (∀ {α β:Type} (a:α) (f:α→Option β),Option.bind (some a) f=f a):=
 ⟨Bj9,fun c _ x y f=>Bmn c x y f,Bgh,Option.bind_assoc,fun _=>rfl,fun _ _=>rfl⟩
abbrev p0:Dq:=⟨[],[],[]⟩
def Bsg:List (Nat×Dq)→Nat→Dq
 | [],_=>p0
 | p::r,e=>if e=p.1 then p.2 else Bsg r e
def Hk:List (Nat×Dq×List (Nat×Dq))→Nat→Dq×(Nat→Dq)
 | [],_=>(p0,fun _=>p0)
 | p::r,k=>if k=p.1 then (p.2.1,Bsg p.2.2) else Hk r k
def L7 {R:Type} (p:Dq×(Nat→Dq)) (e:Ex) (i:Nat) (k:Kt R) (d:(p.2 i).D):Option R:=k e ((p.2 i).st d) (p.2 i).nid
def Bkf (P:Program) (R:Type) (n np:Nat) (pat:Nat→Dq×(Nat→Dq)) (L:Lt R pat):List Code→Prop
 | []=>True
 | c::r=>Ba P R n np pat L c∧Bkf P R n np pat L r
section
variable {P:Program} {R:Type} {n np:Nat}
theorem Bkf.all {pat:Nat→Dq×(Nat→Dq)} {L:Lt R pat}:∀ {l:List Code},Bkf P R n np pat L l→∀ c∈l,Ba P R n np pat L c
 | [],_,c,h=>by cases h
 | d::r,⟨a,b⟩,c,h=>by
  rcases List.mem_cons.1 h with rfl | h
  ·exact a
  ·exact Bkf.all b c h
theorem Cn {cfg:Cfg} {L:Lt R cfg.pat} {c:Code} (key:Nat) (ls:List Code) {E:Type} (T:{S:Type}→((cfg.pat key).1.D→Option S)→(E→Option S)→(cfg.pat key).1.D→Option S)
  (lo:Nat→(cfg.pat key).1.D→Option E) (fu:(cfg.pat key).1.D→Nat) (ou:Kt R→E→Option R) (hs:A5 P cfg.sigs) (hls':Bkf P R n np cfg.pat L ls)
  (na:∀ (f:E→Option R) (NX:(cfg.pat key).1.D→Option E) d,T (fun d=>(NX d).bind f) f d=(T NX some d).bind f)
  (rd:∀ nx k d,ev P cfg L c ((cfg.pat key).1.st d) (cfg.pat key).1.nid (Bgf np (cfg.pat key) nx k)=T (fun d=>nx d k) (ou k) d:=by intros; kernel_rfl)
  (hL:∀ d k,L key d k=(lo (fu d) d).bind (ou k):=by exact fun _ _=>rfl)
  (l0:∀ d,lo 0 d=none:=by exact fun _=>rfl) (l1:∀ m d,lo (m + 1) d=T (lo m) some d:=by exact fun _ _=>rfl)
  (hkey:Hj c=key:=by kernel_rfl) (hm:P.follows .mixedOrders=true:=by kernel_rfl) (hn:cfg.n=n:=by rfl) (hnp:cfg.np=np:=by rfl) (hls:Ax c=ls:=by kernel_rfl):Ba P R n np cfg.pat L c:=by
 have lp:∀ (m:Nat) (d:(cfg.pat key).1.D) (k:Kt R),Ayc np (cfg.pat key) (fun s nid k=>ev P cfg L c s nid k) m d k=(lo m d).bind (ou k):=by
  intro m
  induction m with
  | zero=>intro d k; rw [l0]; rfl
  | succ m ih=>
   intro d k
   rw [l1,← na]
   refine Eq.trans ?_ (congrArg (fun F=>T F (ou k) d) (funext fun d=>ih d k))
   exact rd _ k d
 refine Bmm hkey hm hs hn hnp (fun d k r h=>⟨fu d,?_⟩) (fun c' hc'=>?_)
 ·rw [lp,← hL]; exact h
 ·rw [hls] at hc'; exact hls'.all c' hc'
theorem A7 {sigs:Tb} {f:FuncId} {fn:Func} {sd:SD} {pat:Nat→Dq×(Nat→Dq)} (ls:List Code) (L:Lt (MsD sd.sg.rs×BxD sd.sg.ps) pat) (hs:A5 P sigs)
  (hL:Bkf P (MsD sd.sg.rs×BxD sd.sg.ps) fn.ntmps (Qa sd.sg.ps) pat L ls) (hf:P.funcs[f]? = some fn) {de:MsD sd.sg.ps→Option (MsD sd.sg.rs×BxD sd.sg.ps)} (hden:∀ x r,sd.den x=some r→de x=some r)
  (he : ∀ x, Bmk P sigs pat sd.sg fn L x = de x) (hm : P.follows .mixedOrders = true := by kernel_rfl) (hname : (fn.name == "runtime.NumGoroutine") = false := by kernel_rfl) (hbody : fn.body.isNone = false := by kernel_rfl)
  (hls:Ax (Bm fn)=ls:=by kernel_rfl):B8 P f sd:=
 Bml (pat:=pat) hm hs hf hname hbody fun x r hx=>⟨L,⟨fun c hc=>hL.all c (by rw [hls] at hc; exact hc),(he x).trans (hden x r hx)⟩⟩
theorem Hf {α β:Type} {o:Option α} {g:α→β} {r:β} {d:Option β} (q:∀ y,o=some y→d=some (g y)) (h:(o.bind fun r=>some (g r))=some r):d=some r:=by
 obtain ⟨y,h1,h2⟩:=Bv h
 cases h2
 exact q y h1
end
end
end Go.Proofs.YtfkefgbihlfjmaaGreat.R
namespace Go.Proofs.YtfkefgbihlfjmaaGreat.V
open Go Go.Proofs.YtfkefgbihlfjmaaGreat.R
abbrev Pg:=Int×Int×Int×Aa×Unit
abbrev Wr:=Int×Aa×Unit
abbrev Dk:=List Aa×List Wr×Unit
abbrev Dc:=Bool×Int×Aa×Unit
abbrev Scd:=List Aa×Int×Int×Unit
abbrev A2:=Aa×Aa×Unit
abbrev Cv:=List A2×Unit
abbrev Bc:=Aa×Aa×Bool×Unit
abbrev Rt:=Int×Int×Int×Int×Unit
abbrev Ez:=Int×Int×Int×Rt×Int×Int×Cv×Unit
abbrev Pl:=Int×Ez×List Dc×Unit
abbrev Bo:=Int×Dk×Bool×Ez×List Cv×List Aa×Unit
abbrev T8:=Int×List Bc×Int×List Int×Unit
abbrev tI:Ty:=.int .i64
abbrev yPg:Ty:=.pair tI (.pair tI (.pair tI (.pair .str .unit)))
abbrev Ew:Ty:=.pair tI (.pair .str .unit)
abbrev yDk:Ty:=.pair (.sl .str) (.pair (.sl Ew) .unit)
abbrev E4:Ty:=.pair .bool (.pair tI (.pair .str .unit))
abbrev A1:Ty:=.pair .str (.pair .str .unit)
abbrev F0:Ty:=.pair (.sl A1) .unit
abbrev Dr:Ty:=.pair .str (.pair .str (.pair .bool .unit))
abbrev yRt:Ty:=.pair tI (.pair tI (.pair tI (.pair tI .unit)))
abbrev Yg:Ty:=.pair tI (.pair tI (.pair tI (.pair yRt (.pair tI (.pair tI (.pair F0 .unit))))))
abbrev Bkg:Ty:=.pair tI (.pair Yg (.pair (.sl E4) .unit))
abbrev I5:Ty:=.pair tI (.pair yDk (.pair .bool (.pair Yg (.pair (.sl F0) (.pair (.sl .str) .unit)))))
abbrev Bdn:Ty:=.pair tI (.pair (.sl Dr) (.pair tI (.pair (.sl tI) .unit)))
def eqL {α:Type} (f:α→α→Bool):List α→List α→Bool
 | [],[]=>true
 | a::r,b::q=>f a b&&eqL f r q
 | _,_=>false
def eqI (a b:Int):Bool:=decide (a=b)
def eqO (a b:Bool):Bool:=a==b
def eqS (a b:Aa):Bool:=ByteArray.toList a==ByteArray.toList b
def eqB:(t:Ty)→t.D→t.D→Bool
 | .int _,a,b=>eqI a b
 | .bool,a,b=>eqO a b
 | .str,a,b=>eqS a b
 | .sl t,xs,ys=>eqL (eqB t) xs ys
 | .unit,_,_=>true
 | .pair a b,x,y=>eqB a x.1 y.1&&eqB b x.2 y.2
def Bmu:Nat→Int→Aa→Aa
 | 0,_,out=>out
 | m + 1,k,out=>if k > 0 then Bmu m (k / 10) (strOfNums [48 + k % 10]++out) else out
def mkT (k:Int):Aa:=if k≤0 then ⟨#[109,48]⟩ else ⟨#[109]⟩++Bmu 20 k ⟨#[]⟩
def Bq (v lo hi:Int):Bool:=decide (lo≤v)&&decide (v≤hi)
def Tk (k:Aa):Bool:=Bq (k.size:Int) 1 20
def bl (a b:Aa):Bool:=Op.bytesLess (ByteArray.toList a) (ByteArray.toList b)
def z0:Aa:=⟨#[]⟩
abbrev zP:A2:=(⟨#[]⟩,⟨#[]⟩,())
def Pa (xs:List A2) (i:Nat):Bool:=Tk (xs.getD i zP).1&&(decide ((xs.getD i zP).2.1.size≤100)&&(i==0 || bl (xs.getD (i - 1) zP).1 (xs.getD i zP).1))
def Ak (s:Cv):Bool:=decide (s.1.length≤100)&&(List.range' 0 s.1.length).all (Pa s.1)
def Ro (c:Bc):Bool:=Tk c.1&&(decide (c.2.1.size≤100)&&!(c.2.2.1&&!(c.2.1.toList==[])))
abbrev zC:Bc:=(⟨#[]⟩,⟨#[]⟩,false,())
def Az (b:List Bc):Bool:=Bq (b.length:Int) 1 20&&(List.range' 0 b.length).all fun i=>Ro (b.getD i zC)
def Qc {α E:Type} (p:α→Bool) (out:α→E) (ok:E):List α→E
 | []=>ok
 | x::r=>bif p x then out x else Qc p out ok r
def zW:Wr:=(0,⟨#[]⟩,())
def Aiy (n:Nat) (w:Wr):Bool:=decide (0≤w.1)&&(decide (w.1 < (n:Int))&&decide (w.2.1.size=64))
def Ap (d:Dk):Bool:=Bq (d.1.length:Int) 8 200&&(decide (d.2.1.length≤300)&&((List.range' 0 d.1.length).all (fun i=>decide ((d.1.getD i z0).size=64))&&(List.range' 0 d.2.1.length).all fun i=>Aiy d.1.length (d.2.1.getD i zW)))
def Ds {α σ:Type} (step:Nat→α→σ→σ):Nat→List α→σ→σ
 | _,[],s=>s
 | i,x::r,s=>Ds step (i + 1) r (step i x s)
def Hb (sec:List Aa) (ws:List Wr):List Aa:=Ds (fun _ w s=>s.set w.1.toNat w.2.1) 0 ws sec
def A81 (d:Dk):Dk:=(Hb d.1 d.2.1,[],())
def V8 (d:Dk) (a:Int):Aa:=Qc (fun w=>w.1==a) (fun w=>w.2.1) (d.1.getD a.toNat z0) d.2.1.reverse
def zS:Aa:=strOfNums (List.replicate 64 0)
def Kh (n:Int):Dk:=bif Bq n 8 200 then (List.replicate n.toNat zS,[],()) else ([],[],())
def Rp (f:Int):Int:=if f < 0 then 0 else if f > 64 then 64 else f
def V9 (f:List Int) (i:Nat):Int:=if i < f.length then Rp (f.getD i 0) else 0
def Bmv (a b:Aa) (k:Int):Aa:=Ag a 0 k++Ag b k (nI b.size)
def Rx (f:List Int) (sec:List Aa) (ws:List Wr):List Aa:=Ds (fun i w s=>s.set w.1.toNat (Bmv w.2.1 (s.getD w.1.toNat z0) (V9 f i))) 0 ws sec
def Eo (d:Dk) (f:List Int):Dk:=bif Ap d then (Rx f d.1 d.2.1,[],()) else ([],[],())
def Q6 (v:Int):Nat→List Int
 | 0=>[]
 | n + 1=>Q6 (v / 256) n++[v % 256]
def Dm (v:Int) (n:Nat):Aa:=strOfNums (Q6 v n)
def Bdo (s:Aa):Nat→Nat→Int→Int
 | 0,_,v=>v
 | k + 1,i,v=>Bdo s k (i + 1) (v * 256 + Aq s i)
def Aju (s:Aa):Int:=Bdo s s.size 0 0
def Ajv (h b:Int):Int:=IntKind.wrap IntKind.u64 (IntKind.wrap IntKind.u64 (nI (BitVec.toNat (BitVec.ofInt 64 h ^^^ BitVec.ofInt 64 (IntKind.wrap IntKind.u64 b)))) * 1099511628211)
def iter {σ:Type} (f:Nat→σ→σ):Nat→Nat→σ→σ
 | 0,_,s=>s
 | k + 1,i,s=>iter f k (i + 1) (f i s)
def Av4 (s:Aa) (k i:Nat) (h:Int):Int:=iter (fun i h=>Ajv h (Aq s i)) k i h
def Asv (s:Aa) (w:Int):Aa:=bif Bq w 1 8 then Dm (Av4 s s.size 0 14695981039346656037) w.toNat else ⟨#[]⟩
def Ee (p:Pg) (w:Int):Bool:=Bq w 1 8&&(Bq p.1 1 4&&(Bq p.2.1 1 60000&&(Bq p.2.2.1 1 1000000000&&(decide ((p.2.2.2.1.size:Int)≤56 - w)&&(p.1 != 3 || (p.2.2.2.1.toList==[]))))))
def Jm (p:Pg) (w:Int):Aa:=Dm p.1 1++Dm p.2.1 2++Dm p.2.2.1 4++Dm p.2.2.2.1.size 1++p.2.2.2.1++strOfNums (List.replicate (56 - w - p.2.2.2.1.size).toNat 0)
def Ca (p:Pg) (w:Int):Aa:=bif Ee p w then Asv (Jm p w) w++Jm p w else ⟨#[]⟩
abbrev zPg:Pg:=(0,0,0,⟨#[]⟩,())
def Bgm (b:Aa):Pg:=(Aq b 0,Aju (Ag b 1 3),Aju (Ag b 3 7),Ag b 8 (8 + Aq b 7),())
def Bgn (s:Aa) (w:Int):Pg:=Bgm (Ag s w (nI s.size))
def Ay (s:Aa) (w:Int):Pg×Bool:=
 bif nI s.size != 64 then (zPg,false)
 else bif !Bq w 1 8 then (zPg,false)
 else bif decide (Aq (Ag s w (nI s.size)) 7 > 56 - w) then (zPg,false)
 else bif !((Ca (Bgn s w) w).toList==s.toList) then (zPg,false) else (Bgn s w,true)
def I6 (r:Rt):Bool:=Bq r.2.1 0 1&&Bq r.2.2.1 1 999999000
def B5 (r:Rt) (w:Int):Aa:=bif I6 r then Ca (4,r.2.2.2.1,r.1,Dm r.2.1 1++Dm r.2.2.1 4,()) w else ⟨#[]⟩
def Z3 (c:Bc):List Int:=bif c.2.2.1 then [1,nI c.1.size]++Ae c.1 else [0,nI c.1.size]++Ae c.1++[nI c.2.1.size]++Ae c.2.1
def I7 (b:List Bc):List Int:=(b.map Z3).flatten
def Be (b:List Bc):Aa:=bif Az b then strOfNums (I7 b) else ⟨#[]⟩
def Bj (s:Aa):Aa×Aa×Bool:=if (s.size:Int) < 1∨(s.size:Int) < 1 + Aq s 0 then (⟨#[]⟩,s,false) else (Ag s 1 (1 + Aq s 0),Ag s (1 + Aq s 0) (nI s.size),true)
def Aye (strict:Bool) (s:Aa):Option (Bc×Aa):=
 bif strict&&decide (Aq s 0 > 1) then none
 else bif !(Bj (Ag s 1 (nI s.size))).2.2 then none
 else bif Aq s 0==1 then some (((Bj (Ag s 1 (nI s.size))).1,⟨#[]⟩,true,()),(Bj (Ag s 1 (nI s.size))).2.1)
 else bif !(Bj (Bj (Ag s 1 (nI s.size))).2.1).2.2 then none
 else some (((Bj (Ag s 1 (nI s.size))).1,(Bj (Bj (Ag s 1 (nI s.size))).2.1).1,false,()),(Bj (Bj (Ag s 1 (nI s.size))).2.1).2.1)
def So (strict:Bool):Nat→List Bc→Aa→Option (List Bc×Aa)
 | 0,r,s=>some (r,s)
 | f + 1,r,s=>bif decide (s.size > 0)&&decide (r.length≤20) then (match Aye strict s with | none=>none | some (c,t)=>So strict f (r++[c]) t) else some (r,s)
def Hg (s:Aa):List Bc×Bool:=match So true 22 [] s with
 | none=>([],false)
 | some (b,t)=>bif decide (t.size > 0) || !Az b then ([],false) else (b,true)
def A3b (s:Aa):List Bc×Bool:=match So false 22 [] s with
 | none=>([],false)
 | some (b,_)=>bif s.size==0 || !((Be b).toList==s.toList) then ([],false) else (b,true)
def E2 (n:Nat):Nat→Aa→List Aa
 | 0,s=>[s]
 | f + 1,s=>if s.size > n then Ag s 0 n::E2 n f (Ag s n (nI s.size)) else [s]
def Ao (s:Aa) (w:Int):List Aa:=E2 (56 - w).toNat s.size s
def E5 (n:Nat) (w:Int):Int:=bif Bq w 1 8 then (if ((n:Int) + (56 - w) - 1) / (56 - w) > 1 then ((n:Int) + (56 - w) - 1) / (56 - w) else 1) else 0
def Ig (life w:Int):Int→List Aa→List Aa
 | _,[]=>[]
 | k,[p]=>[Ca (2,life,k,p,()) w]
 | k,p::q::r=>Ca (1,life,k,p,()) w::Ig life w (k + 1) (q::r)
def Xm (e:Aa) (life first w:Int):List Aa:=bif Bq w 1 8&&(Bq life 1 60000&&(decide (1≤first)&&decide (first≤1000000000 - E5 e.size w + 1))) then Ig life w first (Ao e w) else []
def opS (d:Dk) (o:Dc):Dk:=bif o.1 then A81 d else bif Aiy d.1.length (o.2.1,o.2.2.1,())&&decide (d.2.1.length < 300) then (d.1,d.2.1++[(o.2.1,o.2.2.1,())],()) else d
def B9 (d:Dk) (ops:List Dc) (n:Int):Dk:=bif Ap d then (ops.take n.toNat).foldl opS d else ([],[],())
def Fr (p:Pg):Rt:=(p.2.2.1,Aq p.2.2.2.1 0,Aju (Ag p.2.2.2.1 1 (nI p.2.2.2.1.size)),p.2.1,())
def Hl (s:Aa) (w at':Int) (best:Rt):Rt:=
 bif (Ay s w).2&&((Ay s w).1.1==4)&&decide ((Ay s w).1.2.2.2.1.size=5)&&((Ay s w).1.2.2.1 % 2==at')&&I6 (Fr (Ay s w).1)&&decide ((Ay s w).1.2.2.1 > best.1) then Fr (Ay s w).1 else best
def At (d:Dk) (w:Int):Rt:=bif Ap d&&Bq w 1 8 then Hl (V8 d 1) w 1 (Hl (V8 d 0) w 0 (0,0,1,0,())) else (0,0,0,0,())
def Z4 (p:A2):Bc:=(p.1,p.2.1,false,())
def Mr (i:Nat) (p:A2) (r:List (List Bc)×Bool×List Bc):List (List Bc)×Bool×List Bc:=bif i % 20==0 then (Z0 r.2.1 r.1 r.2.2,true,[Z4 p]) else (r.1,r.2.1,r.2.2++[Z4 p])
def A3c (i:Nat) (l:List A2) (r:List (List Bc)×Bool×List Bc):List (List Bc)×Bool×List Bc:=Ds Mr i l r
def Ed (s:Cv):List (List Bc):=bif Ak s then (let r:=A3c 0 s.1 ([],false,[]); Z0 r.2.1 r.1 r.2.2) else []
theorem Aj {n:Int} (h0:-9223372036854775808≤n) (h1:n < 9223372036854775808):IntKind.i64.wrap n=n:=by
 have e:IntKind.i64.wrap n=if n % 18446744073709551616≥9223372036854775808 then n % 18446744073709551616 - 18446744073709551616 else n % 18446744073709551616:=by
  simp [IntKind.wrap,IntKind.bits,IntKind.signed]
 rw [e]
 split<;>omega
theorem Wa {α:Type} (xs:List α) (i:Nat) (z:α) (h:i < xs.length):xs.drop i=xs.getD i z::xs.drop (i + 1):=by
 rw [List.drop_eq_getElem_cons h]
 simp [List.getD,List.getElem?_eq_getElem h]
theorem Adu {α:Type} {xs:List α} {i:Nat} (z:α) (h:i < xs.length):xs.getD i z∈xs:=by
 simp [List.getD,List.getElem?_eq_getElem h]
theorem cLt {i n:Nat} (h:i < n):decide ((i:Int) < nI n)=true:=by simp [nI]; omega
theorem Qd {n:Nat}:decide ((n:Int) < nI n)=false:=by simp [nI]
theorem J1 {i:Nat}:decide ((0:Int)≤(i:Int))=true:=by simp
theorem wI {i:Nat} (h:i < 4611686018427387904):IntKind.i64.wrap ((i:Int) + 1)=((i + 1:Nat):Int):=by rw [Aj (by omega) (by omega)]; rfl
theorem Ns {E:Type} {n:Nat} {g:Nat→Int→Option E} {ok bad:E} (p:Nat→Bool)
  (hs:∀ m (i:Nat),i < n→g (m + 1) i=bif p i then g m ((i + 1:Nat):Int) else some bad)
  (he:∀ m,g (m + 1) (n:Int)=some ok):
  ∀ (m i:Nat),i≤n→n - i < m→g m i=some (bif (List.range' i (n - i)).all p then ok else bad)
 | 0,i,hi,hm=>by omega
 | m + 1,i,hi,hm=>by
  by_cases h:i < n
  ·have e:n - i=(n - (i + 1)) + 1:=by omega
   rw [hs m i h,e,List.range'_succ,List.all_cons]
   cases p i with
   | false=>rfl
   | true=>
    rw [cond_true,Ns p hs he m (i + 1) (by omega) (by omega),Bool.true_and]
  ·have:i=n:=by omega
   subst this
   rw [he,Nat.sub_self]
   rfl
theorem B2 {a b:Bool} (h:(a&&b)=true):a=true∧b=true:=by
 cases a<;>cases b<;>first | exact ⟨rfl,rfl⟩ | cases h
theorem Bs6 (a b:Int):(a != b)=!eqI a b:=by
 unfold eqI
 by_cases h:a=b<;>simp [h,bne]
theorem J5 {α:Type} {r:List α} {i:Nat} {x z:α} (h:i < r.length):(r.set i x).getD i z=x:=by
 simp [List.getD,h]
theorem Ajw (n c:Nat):decide (nI n > (c:Int))=!decide (n≤c):=by
 by_cases q:n≤c
 ·have:¬ (nI n > (c:Int)):=by simp [nI]; omega
  rw [Af q,Bd this]; rfl
 ·have:nI n > (c:Int):=by simp [nI]; omega
  rw [Bd q,Af this]; rfl
theorem Bkh (n c:Nat):(nI n != (c:Int))=!decide (n=c):=by
 by_cases q:n=c
 ·subst q; simp [nI]
 ·have:¬ (nI n=(c:Int)):=by simp [nI]; omega
  rw [Bd q,Bs6]; unfold eqI; rw [Bd this]
theorem gt0 (i:Nat):decide ((i:Int) > 0)=!(i==0):=by
 cases i with
 | zero=>rfl
 | succ j=>
  have:((j + 1:Nat):Int) > 0:=by omega
  rw [Af this]; rfl
theorem wP (j:Nat) (h:j < 4611686018427387904):IntKind.i64.wrap (((j + 1:Nat):Int) - 1)=(j:Int):=by rw [Aj (by omega) (by omega)]; omega
theorem Aqh {α E F:Type} (f:E→F) (p:α→Bool) (out:α→E) (ok:E):∀ l,f (Qc p out ok l)=Qc p (fun x=>f (out x)) (f ok) l
 | []=>rfl
 | x::r=>by
  simp only [Qc]
  cases p x with
  | true=>rfl
  | false=>exact Aqh f p out ok r
theorem A3d {α E:Type} {xs:List α} (z:α) (p:α→Bool) (out:α→E) {g:Nat→Int→Option E} {ok:E}
  (hs:∀ m (i:Nat),i < xs.length→g (m + 1) i=bif p (xs.getD i z) then some (out (xs.getD i z)) else g m ((i:Int) - 1))
  (he:∀ m,g (m + 1) (-1)=some ok):
  ∀ (m i:Nat),i≤xs.length→i < m→g m ((i:Int) - 1)=some (Qc p out ok (xs.take i).reverse)
 | 0,i,hi,hm=>by omega
 | m + 1,0,hi,hm=>by
  rw [show ((0:Nat):Int) - 1=-1 from rfl,he]
  rfl
 | m + 1,i + 1,hi,hm=>by
  have e:(((i + 1:Nat):Int) - 1)=(i:Int):=by omega
  have h:i < xs.length:=by omega
  have e2:(xs.take (i + 1)).reverse=xs.getD i z::(xs.take i).reverse:=by
   rw [List.take_add_one,List.getElem?_eq_getElem h,Option.toList_some,List.reverse_append,List.reverse_singleton]
   simp [List.getD,List.getElem?_eq_getElem h]
  rw [e,hs m i h,e2]
  simp only [Qc]
  cases p (xs.getD i z) with
  | true=>rfl
  | false=>rw [cond_false,cond_false,A3d z p out hs he m i (by omega) (by omega)]
theorem Adv {α σ E:Type} {xs:List α} (z:α) (Inv:σ→Prop) (step:Nat→α→σ→σ) {g:Nat→Int→σ→Option E} {ok:σ→E}
  (hs:∀ m (i:Nat) s,i < xs.length→Inv s→g (m + 1) i s=g m ((i + 1:Nat):Int) (step i (xs.getD i z) s))
  (hi:∀ i s,i < xs.length→Inv s→Inv (step i (xs.getD i z) s))
  (he:∀ m s,Inv s→g (m + 1) (xs.length:Int) s=some (ok s)):
  ∀ (m i:Nat) s,i≤xs.length→xs.length - i < m→Inv s→g m i s=some (ok (Ds step i (xs.drop i) s))
 | 0,i,s,_,hm,_=>by omega
 | m + 1,i,s,hl,hm,hI=>by
  by_cases h:i < xs.length
  ·rw [hs m i s h hI,Adv z Inv step hs hi he m (i + 1) _ (by omega) (by omega) (hi i s h hI),Wa xs i z h]
   rfl
  ·have:i=xs.length:=by omega
   subst this
   rw [he _ _ hI,List.drop_length]
   rfl
theorem Am1 {α σ:Type} (Inv:σ→Prop) (step:Nat→α→σ→σ):∀ (l:List α) (i:Nat) (s:σ),(∀ i s x,x∈l→Inv s→Inv (step i x s))→Inv s→Inv (Ds step i l s)
 | [],_,_,_,h=>h
 | x::r,i,s,hs,h=>Am1 Inv step r (i + 1) _ (fun i s y hy=>hs i s y (List.mem_cons_of_mem _ hy)) (hs i s x (by simp) h)
theorem A82 {α σ:Type} (step:Nat→α→σ→σ):∀ (l:List α) (i:Nat) (s:σ) (x:α),Ds step i (l++[x]) s=step (i + l.length) x (Ds step i l s)
 | [],i,s,x=>rfl
 | y::r,i,s,x=>by
  show Ds step (i + 1) (r++[x]) _=_
  rw [A82 step r]
  show step (i + 1 + r.length) x _=step (i + (r.length + 1)) x _
  rw [show i + 1 + r.length=i + (r.length + 1) by omega]
  rfl
theorem A3e {α E:Type} {n:Nat} (f:Nat→α) {g:Nat→Int→List α→Option E} {ok:List α→E}
  (hs:∀ m (i:Nat) (r:List α),i < n→r.length=i→g (m + 1) i r=g m ((i + 1:Nat):Int) (r++[f i]))
  (he:∀ m r,g (m + 1) (n:Int) r=some (ok r)):
  ∀ (m i:Nat) (r:List α),i≤n→n - i < m→r.length=i→g m i r=some (ok (r++(List.range' i (n - i)).map f))
 | 0,i,r,_,hm,_=>by omega
 | m + 1,i,r,hl,hm,hr=>by
  by_cases h:i < n
  ·have e:n - i=(n - (i + 1)) + 1:=by omega
   rw [hs m i r h hr,A3e f hs he m (i + 1) _ (by omega) (by omega) (by simp [hr]),e,List.range'_succ,List.map_cons,List.append_assoc]
   rfl
  ·have:i=n:=by omega
   subst this
   rw [he,Nat.sub_self]
   simp
theorem Ajx {α:Type} (x:α):∀ (n s:Nat),(List.range' s n).map (fun _=>x)=List.replicate n x
 | 0,_=>rfl
 | n + 1,s=>by rw [List.range'_succ,List.map_cons,Ajx x n,List.replicate_succ]
theorem Wb {n:Nat} {p:Nat→Bool} (h:(List.range' 0 n).all p=true) (i:Nat) (hi:i < n):p i=true:=List.all_eq_true.1 h i (by simp [List.mem_range']; omega)
theorem Da {s:Aa} {a b:Int} (h0:0≤a) (h1:a≤b) (h2:b≤(s.size:Int)):(Ag s a b).size=(b - a).toNat:=by
 unfold Ag
 rw [ByteArray.size_extract]
 omega
structure If (d:Dk):Prop where
 n8:8≤d.1.length
 n200:d.1.length≤200
 p300:d.2.1.length≤300
 sec:∀ i,i < d.1.length→(d.1.getD i z0).size=64
 pen:∀ i,i < d.2.1.length→0≤(d.2.1.getD i zW).1∧(d.2.1.getD i zW).1 < (d.1.length:Int)∧(d.2.1.getD i zW).2.1.size=64
theorem Ki {d:Dk} (h:Ap d=true):If d:=by
 obtain ⟨h1,h2⟩:=B2 h
 obtain ⟨h2,h3⟩:=B2 h2
 obtain ⟨h3,h4⟩:=B2 h3
 obtain ⟨k1,k2⟩:=B2 h1
 have k1:=G8 k1
 have k2:=G8 k2
 refine ⟨by omega,by omega,G8 h2,fun i hi=>G8 (Wb h3 i hi),fun i hi=>?_⟩
 obtain ⟨q1,q2⟩:=B2 (Wb h4 i hi)
 obtain ⟨q2,q3⟩:=B2 q2
 exact ⟨G8 q1,G8 q2,G8 q3⟩
theorem Xn {α:Type} {xs:List α} {x:α} (z:α) (h:x∈xs):∃ i,i < xs.length∧xs.getD i z=x:=by
 obtain ⟨i,hi,rfl⟩:=List.mem_iff_getElem.1 h
 exact ⟨i,hi,by simp [List.getD,List.getElem?_eq_getElem hi]⟩
theorem getD_set_ne {α:Type} {r:List α} {i j:Nat} {x z:α} (h:i≠j):(r.set i x).getD j z=r.getD j z:=by
 simp [List.getD,List.getElem?_set_ne h]
theorem T9 (sec:List Aa) (ws:List Wr):(Hb sec ws).length=sec.length:=
 Am1 (fun s=>s.length=sec.length) _ ws 0 sec (fun i s w _ h=>by rw [List.length_set]; exact h) rfl
theorem Bdp (sec:List Aa) (i:Nat) (hi:i < sec.length) (ws:List Wr) (h:∀ w∈ws,0≤w.1):
  (Hb sec ws).getD i z0=Qc (fun w=>w.1==(i:Int)) (fun w=>w.2.1) (sec.getD i z0) ws.reverse:=by
 have key:∀ (rs:List Wr),(∀ w∈rs,0≤w.1)→(Hb sec rs.reverse).getD i z0=Qc (fun w=>w.1==(i:Int)) (fun w=>w.2.1) (sec.getD i z0) rs:=by
  intro rs
  induction rs with
  | nil=>intro _; rfl
  | cons w r ih=>
   intro hr
   have ih:=ih (fun v hv=>hr v (List.mem_cons_of_mem _ hv))
   have h0:=hr w (by simp)
   rw [List.reverse_cons]
   unfold Hb at ih ⊢
   rw [A82]
   simp only [Qc]
   have hlen:(Ds (fun _ (w:Wr) (s:List Aa)=>s.set w.1.toNat w.2.1) 0 r.reverse sec).length=sec.length:=T9 sec r.reverse
   by_cases q:w.1=(i:Int)
   ·have q2:w.1.toNat=i:=by omega
    rw [q2,J5 (by rw [hlen]; exact hi),q,beq_self_eq_true,cond_true]
   ·have q2:w.1.toNat≠i:=by omega
    rw [getD_set_ne q2,ih,show (w.1==(i:Int))=false from by simp [q],cond_false]
 have:=key ws.reverse (fun w hw=>h w (List.mem_reverse.1 hw))
 rwa [List.reverse_reverse] at this
theorem Brk (f:Int):(if (if f < 64 then f else 64) > 0 then (if f < 64 then f else 64) else 0)=Rp f:=by
 unfold Rp
 by_cases h1:f < 64<;>by_cases h2:f < 0<;>simp only [h1,h2,if_true,if_false]<;>(split<;>(try split)<;>omega)
theorem Asw (f:Int):0≤Rp f∧Rp f≤64:=by
 unfold Rp
 split
 ·omega
 ·split<;>omega
theorem Z5 (f:List Int) (i:Nat):0≤V9 f i∧V9 f i≤64:=by
 unfold V9
 split
 ·exact Asw _
 ·omega
theorem Av5 {a b:Aa} {k:Int} (ha:a.size=64) (hb:b.size=64) (h0:0≤k) (h1:k≤64):(Bmv a b k).size=64:=by
 unfold Bmv
 rw [ByteArray.size_append,Da (by omega) h0 (by omega),Da h0 (by simp only [nI]; omega) (by simp [nI])]
 simp only [nI]
 omega
def Asx (n:Nat) (s:List Aa):Prop:=s.length=n∧∀ i,i < n→(s.getD i z0).size=64
theorem Asx.set {n:Nat} {s:List Aa} (h:Asx n s) {j:Nat} {x:Aa} (hx:x.size=64):Asx n (s.set j x):=by
 refine ⟨by rw [List.length_set]; exact h.1,fun i hi=>?_⟩
 by_cases q:j=i
 ·subst q
  rw [J5 (by rw [h.1]; exact hi)]
  exact hx
 ·rw [getD_set_ne q]
  exact h.2 i hi
def Kl:(t:Ty)→t.D→Bool
 | .int _,_=>true
 | .bool,_=>true
 | .str,s=>decide (ByteArray.size s≤1073741824)
 | .sl t,xs=>decide (List.length xs≤1073741824)&&List.all xs (Kl t)
 | .unit,_=>true
 | .pair a b,x=>Kl a x.1&&Kl b x.2
theorem bi_ {α β:Type} {m:Option α} {f:α→Option β} {a:α} {r:Option β} (h:m=some a) (h2:f a=r):m.bind f=r:=by
 rw [h]; exact h2
theorem Adw {α:Type} {l:List α} {z:α} {P:α→Prop} (h:∀ i,i < l.length→P (l.getD i z)):∀ x∈l,P x:=by
 intro x hx
 obtain ⟨i,hi,rfl⟩:=List.mem_iff_getElem.1 hx
 have:=h i hi
 rw [List.getD_eq_getElem?_getD,List.getElem?_eq_getElem hi] at this
 exact this
theorem Bki (f:Int):0≤Rp f∧Rp f≤64:=by
 unfold Rp
 split
 ·omega
 ·split<;>omega
theorem A83 (f:List Int) (i:Nat):0≤V9 f i∧V9 f i≤64:=by
 unfold V9
 split
 ·exact Bki _
 ·omega
abbrev tDk:Ty:=.pair (.sl .str) (.pair (.sl (.pair (.int .i64) (.pair .str .unit))) .unit)
theorem Bio {d:Dk} (h:Ap d=true) (f:List Int):Asx d.1.length (Rx f d.1 d.2.1):=by
 obtain ⟨k1,k2,k3,k4,k5⟩:=Ki h
 refine Am1 (Asx d.1.length) _ d.2.1 0 d.1 (fun i s w hw hI=>?_) ⟨rfl,k4⟩
 obtain ⟨w0,w1,w2⟩:=Adw (P:=fun w:Wr=>0≤w.1∧w.1 < (d.1.length:Int)∧w.2.1.size=64) k5 w hw
 exact hI.set (Av5 w2 (hI.2 _ (by omega)) (A83 f i).1 (A83 f i).2)
theorem Aoq (a b:List Int):strOfNums (a++b)=strOfNums a++strOfNums b:=by
 unfold strOfNums
 rw [List.map_append]
 apply ByteArray.ext
 simp
theorem D3 (a:List Int):(strOfNums a).size=a.length:=by
 unfold strOfNums
 show (List.toArray _).size=_
 simp
theorem Adx (v:Int):∀ n,(Q6 v n).length=n
 | 0=>rfl
 | n + 1=>by simp only [Q6,Dn,Adx (v / 256) n,En]
theorem Bkj (n:Nat):∀ v,(Q6 v n).length=n:=fun v=>Adx v n
theorem K9 (v:Int) (n:Nat):(Dm v n).size=n:=by unfold Dm; rw [D3,Adx]
theorem Bdq (v:Int) (out:Aa):Dm v 0++out=out:=by
 apply ByteArray.ext
 simp [Dm,Q6,strOfNums]
theorem Bmw (s:Aa):s++Ad=s:=by
 apply ByteArray.ext
 simp
theorem Bdr (v:Int) (k:Nat):Dm v (k + 1)=Dm (v / 256) k++strOfNums [v % 256]:=by
 unfold Dm
 rw [← Aoq]
 rfl
theorem Jn (s:Aa) (i:Int):0≤Aq s i∧Aq s i < 256:=by
 unfold Aq
 have:=(s.data.toList.getD i.toNat 0).toNat_lt
 omega
theorem Bip:∀ i:Nat,i < 7→(256:Int) ^ i≤281474976710656:=by decide
theorem Bmx (s:Aa) (i:Nat) {k:Nat} {v:Int} (hi:i + (k + 1)=s.size) (hs:i < 7) (h0:0≤v) (h1:v < 256 ^ i):
  0≤v * 256 + Aq s i∧v * 256 + Aq s i < 256 ^ (i + 1)∧IntKind.wrap IntKind.i64 (IntKind.wrap IntKind.i64 (v * 256) + IntKind.wrap IntKind.i64 (Aq s i))=v * 256 + Aq s i:=by
 obtain ⟨b0,b1⟩:=Jn s i
 have hp:(256:Int) ^ (i + 1)=256 ^ i * 256:=Int.pow_succ _ _
 have hle:(256:Int) ^ i≤281474976710656:=Bip i hs
 refine ⟨by omega,by omega,?_⟩
 rw [Aj (n:=v * 256) (by omega) (by omega),Aj (n:=Aq s i) (by omega) (by omega),Aj (by omega) (by omega)]
theorem Bo6 (s:Aa) (i:Nat) {k:Nat} {v:Int} (hi:i + (k + 1)=s.size) (hs:i < 7) (h0:0≤v) (h1:v < 256 ^ i):
  0≤v * 256 + Aq s i∧v * 256 + Aq s i < 256 ^ (i + 1)∧IntKind.wrap IntKind.i64 (nI (BitVec.toNat (BitVec.ofInt 64 (IntKind.wrap IntKind.i64 (v * 2 ^ min (Int.toNat 8) 64)) ||| BitVec.ofInt 64 (IntKind.wrap IntKind.i64 (Aq s i)))))=v * 256 + Aq s i:=by
 obtain ⟨b0,b1⟩:=Jn s i
 have hp:(256:Int) ^ (i + 1)=256 ^ i * 256:=Int.pow_succ _ _
 have hle:(256:Int) ^ i≤281474976710656:=Bip i hs
 refine ⟨by omega,by omega,?_⟩
 have e8:(v * 2 ^ min (Int.toNat 8) 64:Int)=v * 256:=rfl
 rw [e8,Aj (n:=v * 256) (by omega) (by omega),Aj (n:=Aq s i) (by omega) (by omega)]
 obtain ⟨n,rfl⟩:∃ n:Nat,v=(n:Int):=⟨v.toNat,by omega⟩
 obtain ⟨b,hb⟩:∃ b:Nat,Aq s i=(b:Int):=⟨(Aq s i).toNat,by omega⟩
 rw [hb] at b0 b1 ⊢
 have e1:BitVec.ofInt 64 ((n:Int) * 256)=BitVec.ofNat 64 (n * 256):=by
  rw [show ((n:Int) * 256)=((n * 256:Nat):Int) by omega]; exact BitVec.ofInt_natCast _ _
 have e2:BitVec.ofInt 64 (b:Int)=BitVec.ofNat 64 b:=BitVec.ofInt_natCast _ _
 rw [e1,e2,BitVec.toNat_or,BitVec.toNat_ofNat,BitVec.toNat_ofNat,Nat.mod_eq_of_lt (by omega),Nat.mod_eq_of_lt (by omega)]
 have e3:n * 256 ||| b=n * 256 + b:=by
  have:=Nat.shiftLeft_add_eq_or_of_lt (i:=8) (b:=b) (by omega) n
  rw [Nat.shiftLeft_eq] at this
  exact this.symm
 rw [e3]
 exact Aj (by simp only [nI]; omega) (by simp only [nI]; omega)
theorem Am2 {σ ρ:Type} (n:Nat) (Inv:Nat→σ→Prop) (step:Nat→σ→σ) {g:Nat→Nat→σ→Option ρ} {ok:σ→ρ}
  (hs:∀ m i s,i < n→Inv i s→g (m + 1) i s=g m (i + 1) (step i s)) (he:∀ m s,Inv n s→g (m + 1) n s=some (ok s))
  (hI:∀ i s,i < n→Inv i s→Inv (i + 1) (step i s)):∀ k m i s,i + k=n→k < m→Inv i s→g m i s=some (ok (iter step k i s))
 | 0,m + 1,i,s,hi,_,h=>by
  obtain rfl:i=n:=by omega
  exact he m s h
 | k + 1,m + 1,i,s,hi,hm,h=>by
  rw [hs m i s (by omega) h]
  exact Am2 n Inv step hs he hI k m (i + 1) _ (by omega) (by omega) (hI i s (by omega) h)
theorem Bds {σ:Type} (Inv:σ→Prop) (f:Nat→σ→σ) (hf:∀ i s,Inv s→Inv (f i s)):∀ k i s,Inv s→Inv (iter f k i s)
 | 0,_,_,h=>h
 | k + 1,i,s,h=>Bds Inv f hf k (i + 1) _ (hf i s h)
theorem wid (w:Int):(bif decide (w≥1) then some ((decide (w≤8),()),()) else some ((false,()),()))=(some ((Bq w 1 8,()),()):Option ((Bool×Unit)×Unit)):=by
 unfold Bq
 by_cases h:1≤w
 ·rw [Af (show w≥1 from h)]; rfl
 ·rw [Bd (show ¬ w≥1 from h)]; rfl
theorem Bqs (k:Int):IntKind.wrap IntKind.u64 k=k % 18446744073709551616:=by
 simp [IntKind.wrap,IntKind.bits,IntKind.signed]
theorem Bsi (k:Int):IntKind.i64.wrap k=if k % 18446744073709551616≥9223372036854775808 then k % 18446744073709551616 - 18446744073709551616 else k % 18446744073709551616:=by
 simp [IntKind.wrap,IntKind.bits,IntKind.signed]
def U64 (h:Int):Prop:=0≤h∧h < 18446744073709551616
theorem Biq (s:Aa) (k i:Nat) {h:Int} (hh:U64 h):U64 (Av4 s k i h):=
 Bds U64 _ (fun i s _=>by unfold Ajv; rw [Bqs]; exact ⟨Int.emod_nonneg _ (by decide),Int.emod_lt_of_pos _ (by decide)⟩) k i h hh
theorem A3f:∀ (n:Nat) (v c:Int),Q6 (v + 256 ^ n * c) n=Q6 v n
 | 0,_,_=>rfl
 | n + 1,v,c=>by
  have e:v + 256 ^ (n + 1) * c=v + 256 * (256 ^ n * c):=by rw [Int.pow_succ,Int.mul_comm (256 ^ n) 256,Int.mul_assoc]
  simp only [Q6]
  rw [e]
  have e1:(v + 256 * (256 ^ n * c)) / 256=v / 256 + 256 ^ n * c:=by omega
  have e2:(v + 256 * (256 ^ n * c)) % 256=v % 256:=by omega
  rw [e1,e2,A3f n]
theorem A84 (n:Nat):∀ (w:Nat) (v:Int),(Q6 v (n + w)).drop n=Q6 v w
 | 0,v=>by rw [List.drop_eq_nil_of_le (by rw [Adx]; omega)]; rfl
 | w + 1,v=>by
  show (Q6 (v / 256) (n + w)++[v % 256]).drop n=_
  rw [List.drop_append_of_le_length (by rw [Adx]; omega),A84 n w]
  rfl
theorem Bmy (l:List Int) (a:Nat):Ag (strOfNums l) (a:Int) (nI (strOfNums l).size)=strOfNums (l.drop a):=by
 unfold Ag
 rw [D3]
 apply ByteArray.ext
 simp [strOfNums,nI,List.map_drop]
 exact List.take_of_length_le (by simp)
theorem Bo7 {h w:Int} (hh:U64 h) (h1:1≤w) (h8:w≤8):Ag (Dm (IntKind.wrap IntKind.i64 h) (Int.toNat 8)) (8 - w) (nI (ByteArray.size (Dm (IntKind.wrap IntKind.i64 h) (Int.toNat 8))))=Dm h w.toNat:=by
 obtain ⟨n,rfl⟩:∃ n:Nat,w=(n:Int):=⟨w.toNat,by omega⟩
 have e8:Int.toNat 8=(8 - n) + n:=by omega
 have e:(8 - (n:Int))=((8 - n:Nat):Int):=by omega
 rw [e]
 unfold Dm
 have hd:Q6 (IntKind.wrap IntKind.i64 h) (Int.toNat 8)=Q6 h (Int.toNat 8):=by
  by_cases q:h < 9223372036854775808
  ·rw [Aj (by have:=hh.1; omega) q]
  ·have:IntKind.wrap IntKind.i64 h=h + 256 ^ 8 * (-1):=by
    have h6:(256:Int) ^ 8=18446744073709551616:=by decide
    have:=hh.2
    rw [h6]
    rw [Bsi]
    split<;>omega
   rw [this]
   exact A3f 8 h (-1)
 rw [hd,Bmy,e8,A84]
 rfl
theorem Ady {s:Aa} {w:Int} (h:Bq w 1 8=true):(Asv s w).size=w.toNat:=by
 unfold Asv; rw [h]; exact K9 _ _
theorem Bs7:∀ n:Nat,n≤64→Acz (ByteArray.mk #[0]) (n:Int)=some (strOfNums (List.replicate n 0)):=by decide +kernel
theorem g8 {p:Pg} {w:Int} (h:Ee p w=true):Bq w 1 8=true∧1≤w∧w≤8∧(p.2.2.2.1.size:Int)≤56 - w:=by
 obtain ⟨h1,h2⟩:=B2 h
 obtain ⟨_,h2⟩:=B2 h2
 obtain ⟨_,h2⟩:=B2 h2
 obtain ⟨_,h2⟩:=B2 h2
 exact ⟨h1,G8 (B2 h1).1,G8 (B2 h1).2,G8 (B2 h2).1⟩
theorem Cw {v lo hi:Int} (h:Bq v lo hi=true):lo≤v∧v≤hi:=⟨G8 (B2 h).1,G8 (B2 h).2⟩
theorem Ajy {p:Pg} {w:Int} (h:Ee p w=true):(1≤p.1∧p.1≤4)∧(1≤p.2.1∧p.2.1≤60000)∧(1≤p.2.2.1∧p.2.2.1≤1000000000):=by
 obtain ⟨_,h2⟩:=B2 h
 obtain ⟨h3,h2⟩:=B2 h2
 obtain ⟨h4,h2⟩:=B2 h2
 obtain ⟨h5,h2⟩:=B2 h2
 exact ⟨Cw h3,Cw h4,Cw h5⟩
theorem A3g (x lo hi:Int) {ρ:Type} (f t:ρ):(bif decide (x < lo) then f else bif decide (x > hi) then f else t)=bif Bq x lo hi then t else f:=by
 unfold Bq
 by_cases h1:x < lo
 ·rw [Af h1,Bd (show ¬ lo≤x by omega)]; rfl
 ·rw [Bd h1,Af (show lo≤x by omega)]
  by_cases h2:x > hi
  ·rw [Af h2,Bd (show ¬ x≤hi by omega)]; rfl
  ·rw [Bd h2,Af (show x≤hi by omega)]; rfl
theorem Bmz (s:Aa) (a b:Int):(Ag s a b).size≤s.size:=by
 unfold Ag
 rw [ByteArray.size_extract]
 omega
theorem A3h {α β:Type} (f:α→List β) (z:α) (xs:List α):∀ k i r,i + k=xs.length→iter (fun i r=>r++f (xs.getD i z)) k i r=r++((xs.drop i).map f).flatten
 | 0,i,r,h=>by
  rw [List.drop_eq_nil_of_le (by omega)]
  simp [iter]
 | k + 1,i,r,h=>by
  rw [Wa xs i z (by omega)]
  simp only [iter,List.map_cons,List.flatten_cons]
  rw [A3h f z xs k (i + 1) _ (by omega),List.append_assoc]
theorem Nt (a b:Aa):Ae (a++b)=Ae a++Ae b:=by
 unfold Ae
 simp
theorem Ep (s:Aa):(Ae s).length=s.size:=by
 unfold Ae
 rw [List.length_map]
 rfl
theorem Qe (l:List Int) (h:Ha l=true):Ae (strOfNums l)=l:=by
 unfold Ae strOfNums
 show (List.map _ (List.map _ l))=l
 rw [List.map_map]
 conv=>rhs; rw [← List.map_id l]
 refine List.map_congr_left fun x hx=>?_
 have:=List.all_eq_true.1 h x hx
 obtain ⟨h1,h2⟩:=B2 this
 have h1:=G8 h1
 have h2:=G8 h2
 show (((UInt8.ofNat x.toNat).toNat:Nat):Int)=x
 rw [UInt8.toNat_ofNat']
 rw [Nat.mod_eq_of_lt (by omega)]
 omega
theorem b8 (s:Aa):Ha (Ae s)=true:=by
 refine List.all_eq_true.2 fun x hx=>?_
 obtain ⟨b,_,rfl⟩:=List.mem_map.1 hx
 have:=b.toNat_lt
 show (decide (0≤(b.toNat:Int))&&decide ((b.toNat:Int) < 256))=true
 rw [Af (by omega),Af (by omega)]
 rfl
theorem Kj (a b:List Int):Ha (a++b)=(Ha a&&Ha b):=List.all_append
theorem Bo8 (n:Nat) (h:n < 256):Dm (nI n) 1=strOfNums [nI n]:=by
 unfold Dm
 simp only [Q6,List.nil_append]
 rw [show nI n % 256=nI n by simp only [nI]; omega]
theorem A1m (n:Nat) (h:n < 256):Ha [nI n]=true:=by
 show ((decide (0≤nI n)&&decide (nI n < 256))&&true)=true
 rw [Af (by simp only [nI]; omega),Af (by simp only [nI]; omega)]
 rfl
theorem Bdt (n:Nat) (h:n < 256):Ae (Dm (nI n) 1)=[nI n]:=by
 rw [Bo8 n h,Qe _ (A1m n h)]
theorem Bqt (n:Nat) (h:n < 256):IntKind.wrap IntKind.u8 (nI n)=nI n:=by
 show nI n % 256=nI n
 simp only [nI]; omega
theorem Am3 {c:Bc} (h:Ro c=true):1≤c.1.size∧c.1.size≤20∧c.2.1.size≤100:=by
 obtain ⟨h1,h2⟩:=B2 h
 obtain ⟨h2,_⟩:=B2 h2
 have:=Cw h1
 have:=G8 h2
 omega
theorem Aa2 {c:Bc} (h:Ro c=true):Ha (Z3 c)=true∧(Z3 c).length≤200:=by
 obtain ⟨k1,k2,k3⟩:=Am3 h
 unfold Z3
 have a1:=A1m c.1.size (by omega)
 have a2:=A1m c.2.1.size (by omega)
 have b1:Ha [1,nI c.1.size]=true:=by
  rw [show [1,nI c.1.size]=[1]++[nI c.1.size] from rfl,Kj,a1]; rfl
 have b0:Ha [0,nI c.1.size]=true:=by
  rw [show [0,nI c.1.size]=[0]++[nI c.1.size] from rfl,Kj,a1]; rfl
 cases c.2.2.1
 ·simp only [cond_false,Kj,b0,a2,b8,Dn,Ep,List.length_cons,List.length_nil]
  exact ⟨rfl,by omega⟩
 ·simp only [cond_true,Kj,b1,b8,Dn,Ep,List.length_cons,List.length_nil]
  exact ⟨rfl,by omega⟩
theorem Xe {b:List Bc} (h:Az b=true):b.length≤20∧∀ i,i < b.length→Ro (b.getD i zC)=true:=by
 obtain ⟨h1,h2⟩:=B2 h
 refine ⟨by have:=(Cw h1).2; omega,fun i hi=>?_⟩
 exact List.all_eq_true.1 h2 i (List.mem_range'_1.2 ⟨by omega,by omega⟩)
def A3i (i:Nat) (r:List Int):Prop:=r.length≤200 * i∧Ha r=true
theorem A3i.step {i:Nat} {r:List Int} {c:Bc} (h:A3i i r) (hc:Ro c=true):A3i (i + 1) (r++Z3 c):=by
 obtain ⟨q1,q2⟩:=Aa2 hc
 exact ⟨by rw [Dn]; have:=h.1; omega,by rw [Kj,h.2,q1]; rfl⟩
theorem Bdu {b:List Bc} (h:∀ i,i < b.length→Ro (b.getD i zC)=true):∀ k i r,i + k=b.length→A3i i r→A3i b.length (iter (fun i r=>r++Z3 (b.getD i zC)) k i r)
 | 0,i,r,e,hr=>by
  obtain rfl:i=b.length:=by omega
  exact hr
 | k + 1,i,r,e,hr=>Bdu h k (i + 1) _ (by omega) (hr.step (h i (by omega)))
theorem Wc {a b:Aa} (h:Ae a=Ae b):a=b:=by
 apply ByteArray.ext
 apply Array.ext'
 unfold Ae at h
 exact (List.map_inj_right (fun x y e=>UInt8.toNat_inj.1 (by omega))).1 h
theorem Nu (s:Aa) (a b:Nat):Ae (Ag s a b)=((Ae s).drop a).take (b - a):=by
 unfold Ae Ag
 simp [List.map_drop,List.map_take]
theorem Ayf {a b:Aa} (h:(a.toList==b.toList)=true):a=b:=by
 have h:=eq_of_beq h
 rw [ByteArray.toList_eq,ByteArray.toList_eq] at h
 apply ByteArray.ext
 exact Array.ext' h
theorem Brm {s:Aa} (h:Ae s=[]):s=Ad:=Wc h
theorem Asy {s:Aa} (h:0 < s.size):Ae s=Aq s 0::Ae (Ag s 1 (nI s.size)):=by
 have hc:=Nu s 1 s.size
 have e:Ag s 1 (nI s.size)=Ag s ((1:Nat):Int) ((s.size:Nat):Int):=rfl
 rw [e,hc]
 have hl:=Ep s
 cases hb:Ae s with
 | nil=>rw [hb] at hl; simp at hl; omega
 | cons x r=>
  have hx:Aq s 0=x:=by
   unfold Aq
   unfold Ae at hb
   cases hd:s.data.toList with
   | nil=>rw [hd] at hb; simp at hb
   | cons y q=>rw [hd] at hb; simp at hb; simp [hb.1]
  rw [hx,List.drop_one,List.tail_cons,List.take_of_length_le]
  rw [hb] at hl
  simp at hl
  omega
theorem Ayg {s:Aa} (h:(Bj s).2.2=true):Ae s=nI (Bj s).1.size::(Ae (Bj s).1++Ae (Bj s).2.1):=by
 unfold Bj at h ⊢
 split at h
 ·cases h
 ·rename_i hc
  rw [if_neg hc]
  obtain ⟨b0,b1⟩:=Jn s 0
  have h0:0 < s.size:=by omega
  rw [Asy h0]
  obtain ⟨n,hn⟩:∃ n:Nat,Aq s 0=(n:Int):=⟨(Aq s 0).toNat,by omega⟩
  have e1:(Ag s 1 (1 + Aq s 0)).size=n:=by rw [Da (by omega) (by omega) (by omega)]; omega
  simp only [e1]
  rw [hn]
  congr 1
  have q1:Ag s 1 (nI s.size)=Ag s ((1:Nat):Int) ((s.size:Nat):Int):=rfl
  have q2:Ag s 1 (1 + (n:Int))=Ag s ((1:Nat):Int) ((1 + n:Nat):Int):=by rw [show (1 + (n:Int))=((1 + n:Nat):Int) by omega]<;>rfl
  have q3:Ag s (1 + (n:Int)) (nI s.size)=Ag s ((1 + n:Nat):Int) ((s.size:Nat):Int):=by rw [show (1 + (n:Int))=((1 + n:Nat):Int) by omega]<;>rfl
  rw [q1,q2,q3,Nu,Nu,Nu]
  have hl:=Ep s
  rw [List.take_of_length_le (by rw [List.length_drop]; omega),show 1 + n - 1=n by omega,List.take_of_length_le (l:=List.drop (1 + n) (Ae s)) (by rw [List.length_drop]; omega),← List.drop_drop]
  exact (List.take_append_drop n _).symm
theorem g9 {s k t:Aa} (hk:k.size < 256) (h:Ae s=nI k.size::(Ae k++Ae t)):Bj s=(k,t,true):=by
 have hl:=Ep s
 have hlk:=Ep k
 have hlt:=Ep t
 rw [h,List.length_cons,Dn,hlk,hlt] at hl
 have h0:0 < s.size:=by omega
 have hh:=Asy h0
 rw [h] at hh
 have hb:Aq s 0=nI k.size:=(List.cons.inj hh).1.symm
 have ht:=(List.cons.inj hh).2
 unfold Bj
 rw [hb,if_neg (by simp only [nI]; omega)]
 have q1:Ag s 1 (1 + nI k.size)=Ag s ((1:Nat):Int) ((1 + k.size:Nat):Int):=by rw [show (1 + nI k.size)=((1 + k.size:Nat):Int) by simp only [nI]; omega]<;>rfl
 have q2:Ag s (1 + nI k.size) (nI s.size)=Ag s ((1 + k.size:Nat):Int) ((s.size:Nat):Int):=by rw [show (1 + nI k.size)=((1 + k.size:Nat):Int) by simp only [nI]; omega]<;>rfl
 have hd:(Ae s).drop 1=Ae k++Ae t:=by rw [h]; rfl
 have e1:Ag s 1 (1 + nI k.size)=k:=by
  apply Wc
  rw [q1,Nu,hd,show 1 + k.size - 1=k.size by omega,List.take_append_of_le_length (by omega),List.take_of_length_le (by omega)]
 have e2:Ag s (1 + nI k.size) (nI s.size)=t:=by
  apply Wc
  rw [q2,Nu,← List.drop_drop,hd,List.drop_append_of_le_length (by omega),List.drop_of_length_le (by omega),List.nil_append,List.take_of_length_le (by omega)]
 rw [e1,e2]
theorem Bgo {s:Aa} (h0:0 < s.size) {c:Bc} {t:Aa} (h:Aye true s=some (c,t)):Ae s=Z3 c++Ae t:=by
 unfold Aye at h
 rw [Asy h0]
 obtain ⟨b0,b1⟩:=Jn s 0
 by_cases g1:Aq s 0 > 1
 ·rw [Af g1] at h; cases h
 ·rw [Bd g1] at h
  have hp:=@Ayg (Ag s 1 (nI s.size))
  generalize Bj (Ag s 1 (nI s.size))=p at *
  obtain ⟨k,u,o⟩:=p
  cases o
  ·cases h
  ·rw [hp rfl]
   by_cases g2:Aq s 0=1
   ·rw [g2] at h ⊢
    cases h
    simp [Z3]
   ·have g3:Aq s 0=0:=by omega
    rw [g3] at h ⊢
    have hq:=@Ayg u
    have h:(bif !(Bj u).2.2 then none else some ((k,(Bj u).1,false,()),(Bj u).2.1))=some (c,t):=h
    generalize Bj u=q at *
    obtain ⟨v,w,o⟩:=q
    cases o
    ·cases h
    ·cases h
     have:=hq rfl
     simp only at this ⊢
     rw [this]
     simp [Z3]
theorem A6u {s:Aa} {c:Bc} {t:Aa} (hc:Ro c=true) (h:Ae s=Z3 c++Ae t) (b:Bool):0 < s.size∧Aye b s=some (c,t):=by
 obtain ⟨k1,k2,k3⟩:=Am3 hc
 obtain ⟨k,v,g,u⟩:=c
 have hl:=Ep s
 have h0:0 < s.size:=by
  rw [h,Dn] at hl
  unfold Z3 at hl
  cases g<;>simp at hl<;>omega
 refine ⟨h0,?_⟩
 have hh:=Asy h0
 rw [h] at hh
 unfold Aye
 cases g
 ·have e:Z3 (k,v,false,u)++Ae t=0::(nI k.size::(Ae k++(nI v.size::(Ae v++Ae t)))):=by simp [Z3]
  rw [e] at hh
  have hb:Aq s 0=0:=(List.cons.inj hh).1.symm
  have ht:=(List.cons.inj hh).2.symm
  have a2:=A1m v.size (by have:v.size≤100:=k3; omega)
  have ev:Ae (strOfNums (nI v.size::(Ae v++Ae t)))=nI v.size::(Ae v++Ae t):=Qe _ (by
   rw [show nI v.size::(Ae v++Ae t)=[nI v.size]++(Ae v++Ae t) from rfl,Kj,Kj,a2,b8,b8]; rfl)
  have p1:=g9 (s:=Ag s 1 (nI s.size)) (k:=k) (t:=strOfNums (nI v.size::(Ae v++Ae t))) (by have:k.size≤20:=k2; omega) (by rw [ev]; exact ht)
  have p2:=g9 (s:=strOfNums (nI v.size::(Ae v++Ae t))) (k:=v) (t:=t) (by have:v.size≤100:=k3; omega) ev
  rw [p1,hb]
  show (bif b&&false then none else (bif !(Bj (strOfNums (nI v.size::(Ae v++Ae t)))).2.2 then none else some ((k,(Bj (strOfNums (nI v.size::(Ae v++Ae t)))).1,false,()),(Bj (strOfNums (nI v.size::(Ae v++Ae t)))).2.1)))=_
  rw [p2,Bool.and_false]
  rfl
 ·have hv:v=Ad:=by
   obtain ⟨_,h2⟩:=B2 hc
   obtain ⟨_,h2⟩:=B2 h2
   have h2:(!(true&&!(v.toList==[])))=true:=h2
   have h3:(v.toList==[])=true:=by cases hq:(v.toList==[])<;>rw [hq] at h2<;>first | rfl | cases h2
   have h3:=eq_of_beq h3
   rw [ByteArray.toList_eq] at h3
   apply ByteArray.ext
   exact Array.ext' h3
  subst hv
  have e:Z3 (k,Ad,true,u)++Ae t=1::(nI k.size::(Ae k++Ae t)):=by simp [Z3]
  rw [e] at hh
  have hb:Aq s 0=1:=(List.cons.inj hh).1.symm
  have ht:=(List.cons.inj hh).2.symm
  have p1:=g9 (s:=Ag s 1 (nI s.size)) (k:=k) (t:=t) (by have:k.size≤20:=k2; omega) ht
  rw [p1,hb]
  cases b<;>rfl
theorem Ayh:∀ (f:Nat) (r:List Bc) (s:Aa) {b:List Bc} {t:Aa},So true f r s=some (b,t)→∃ cs,b=r++cs∧Ae s=I7 cs++Ae t
 | 0,r,s,b,t,h=>by
  cases h
  exact ⟨[],by simp,by simp [I7]⟩
 | f + 1,r,s,b,t,h=>by
  unfold So at h
  by_cases q:(decide (s.size > 0)&&decide (r.length≤20))=true
  ·rw [q] at h
   have h0:=G8 (B2 q).1
   cases hs:Aye true s with
   | none=>rw [hs] at h; cases h
   | some ct=>
    obtain ⟨c,u⟩:=ct
    rw [hs] at h
    obtain ⟨cs,e1,e2⟩:=Ayh f (r++[c]) u h
    refine ⟨c::cs,by rw [e1,List.append_assoc]; rfl,?_⟩
    rw [Bgo h0 hs,e2]
    simp [I7]
  ·rw [Bool.eq_false_iff.2 q] at h
   cases h
   exact ⟨[],by simp,by simp [I7]⟩
theorem i6 (strict:Bool):∀ (cs:List Bc) (f:Nat) (r:List Bc) (s:Aa),cs.length < f→r.length + cs.length≤20→(∀ c∈cs,Ro c=true)→Ae s=I7 cs→So strict f r s=some (r++cs,Ad)
 | [],f + 1,r,s,_,_,_,h=>by
  have hz:=Brm (s:=s) h
  subst hz
  rw [List.append_nil]
  rfl
 | c::cs,f + 1,r,s,hf,hr,hok,h=>by
  have hb:Ae (strOfNums (I7 cs))=I7 cs:=Qe _ (List.all_eq_true.2 fun x hx=>by
   obtain ⟨l,hl,hx⟩:=List.mem_flatten.1 hx
   obtain ⟨d,hd,rfl⟩:=List.mem_map.1 hl
   exact List.all_eq_true.1 (Aa2 (hok d (List.mem_cons_of_mem _ hd))).1 x hx)
  obtain ⟨h0,hs⟩:=A6u (s:=s) (c:=c) (t:=strOfNums (I7 cs)) (hok c (by simp)) (by rw [hb,h]; rfl) strict
  unfold So
  rw [hs,Af (show s.size > 0 from h0),Af (show r.length≤20 by rw [List.length_cons] at hr; omega)]
  have ih:=i6 strict cs f (r++[c]) (strOfNums (I7 cs)) (by rw [List.length_cons] at hf; omega) (by rw [Dn,En]; rw [List.length_cons] at hr; omega) (fun d hd=>hok d (List.mem_cons_of_mem _ hd)) hb
  rw [List.append_assoc] at ih
  exact ih
theorem Bgp (s:Aa):strOfNums (Ae s)=s:=Wc (Qe _ (b8 s))
theorem A85 {b:List Bc} (h:∀ c∈b,Ro c=true):Ha (I7 b)=true:=List.all_eq_true.2 fun x hx=>by
 obtain ⟨l,hl,hx⟩:=List.mem_flatten.1 hx
 obtain ⟨d,hd,rfl⟩:=List.mem_map.1 hl
 exact List.all_eq_true.1 (Aa2 (h d hd)).1 x hx
theorem Am4 {b:List Bc} (h:Az b=true):1≤b.length∧b.length≤20∧∀ c∈b,Ro c=true:=by
 obtain ⟨h1,h2⟩:=Xe h
 refine ⟨by have:=(Cw (B2 h).1).1; omega,h1,Adw (z:=zC) (P:=fun c=>Ro c=true) h2⟩
theorem Ba0 {s:Aa} {b:List Bc} (hv:Az b=true) (hs:Ae s=I7 b):Hg s=(b,true)∧A3b s=(b,true):=by
 obtain ⟨h1,h2,h3⟩:=Am4 hv
 have p1:=i6 true b 22 [] s (by omega) (by simpa using h2) h3 hs
 have p2:=i6 false b 22 [] s (by omega) (by simpa using h2) h3 hs
 have hf:Be b=s:=by
  unfold Be
  rw [hv,← hs,cond_true,Bgp]
 have hz:(s.size==0)=false:=by
  refine beq_eq_false_iff_ne.2 fun q=>?_
  cases b with
  | nil=>simp at h1
  | cons c r=>
   have:=Ep s
   rw [q,hs] at this
   unfold I7 Z3 at this
   cases hg:c.2.2.1<;>simp [hg] at this
 unfold Hg A3b
 rw [p1,p2]
 simp only [List.nil_append]
 rw [hv,hf,hz,beq_self_eq_true]
 exact ⟨rfl,rfl⟩
theorem Bir {s:Aa} (h:∀ b,Az b=true→Ae s≠I7 b):Hg s=([],false)∧A3b s=([],false):=by
 constructor
 ·unfold Hg
  cases hp:So true 22 [] s with
  | none=>rfl
  | some bt=>
   obtain ⟨b,t⟩:=bt
   simp only
   obtain ⟨cs,e1,e2⟩:=Ayh 22 [] s hp
   rw [List.nil_append] at e1
   subst e1
   by_cases ht:t.size > 0
   ·rw [Af ht]; rfl
   ·cases hv:Az b with
    | false=>rw [Bool.not_false,Bool.or_true]; rfl
    | true=>
     have h0:Ae t=[]:=List.length_eq_zero_iff.1 (by rw [Ep]; omega)
     rw [h0,List.append_nil] at e2
     exact absurd e2 (h b hv)
 ·unfold A3b
  cases hp:So false 22 [] s with
  | none=>rfl
  | some bt=>
   obtain ⟨b,t⟩:=bt
   simp only
   by_cases hz:s.size=0
   ·rw [hz]; rfl
   ·rw [beq_eq_false_iff_ne.2 hz,Bool.false_or]
    cases he:((Be b).toList==s.toList) with
    | false=>rfl
    | true=>
     have e:=Ayf he
     cases hv:Az b with
     | false=>
      unfold Be at e
      rw [hv] at e
      subst e
      exact absurd rfl hz
     | true=>
      unfold Be at e
      rw [hv] at e
      have e:strOfNums (I7 b)=s:=e
      have:=congrArg Ae e
      rw [Qe _ (A85 (Am4 hv).2.2)] at this
      exact absurd this.symm (h b hv)
theorem Bkk (s:Aa):A3b s=Hg s:=by
 by_cases h:∃ b,Az b=true∧Ae s=I7 b
 ·obtain ⟨b,h1,h2⟩:=h
  rw [(Ba0 h1 h2).1,(Ba0 h1 h2).2]
 ·have h':∀ b,Az b=true→Ae s≠I7 b:=fun b h1 h2=>h ⟨b,h1,h2⟩
  rw [(Bir h').1,(Bir h').2]
def Azk (v b:Int):Int:=v * 256 + b
theorem i7 (s:Aa) (i:Nat):Aq s i=(Ae s).getD i 0:=by
 unfold Aq Ae
 simp only [Fz,List.getD_eq_getElem?_getD,List.getElem?_map]
 cases s.data.toList[i]? <;> rfl
theorem Bdv (s:Aa):∀ k i v,i + k=s.size→Bdo s k i v=((Ae s).drop i).foldl Azk v
 | 0,i,v,h=>by rw [List.drop_of_length_le (by rw [Ep]; omega)]; rfl
 | k + 1,i,v,h=>by
  rw [Wa (Ae s) i 0 (by rw [Ep]; omega),List.foldl_cons,← i7]
  exact Bdv s k (i + 1) _ (by omega)
theorem Bis (s:Aa):Aju s=(Ae s).foldl Azk 0:=by
 unfold Aju
 rw [Bdv s s.size 0 0 (by omega),List.drop_zero]
theorem Bdw (v:Int):∀ (n:Nat) (l:List Int),l.length=n→Ha l=true→Q6 (l.foldl Azk v) n=l
 | 0,l,h,_=>by rw [List.length_eq_zero_iff.1 h]; rfl
 | n + 1,l,h,ha=>by
  obtain ⟨q,b,rfl⟩:∃ q b,l=q++[b]:=⟨l.dropLast,l.getLast (by intro e; subst e; simp at h),(List.dropLast_concat_getLast _).symm⟩
  rw [Kj] at ha
  obtain ⟨h1,h2⟩:=B2 ha
  have hb:0≤b∧b < 256:=by
   have:=List.all_eq_true.1 h2 b (by simp)
   exact ⟨G8 (B2 this).1,G8 (B2 this).2⟩
  rw [List.foldl_append]
  simp only [List.foldl_cons,List.foldl_nil,Q6]
  have e1:Azk (q.foldl Azk v) b / 256=q.foldl Azk v:=by unfold Azk; omega
  have e2:Azk (q.foldl Azk v) b % 256=b:=by unfold Azk; omega
  rw [e1,e2,Bdw v n q (by simpa using h) h1]
theorem Bdx:∀ (n:Nat) (v:Int),0≤v→v < 256 ^ n→(Q6 v n).foldl Azk 0=v
 | 0,v,h0,h1=>by
  have:v < 1:=h1
  show (0:Int)=v
  omega
 | n + 1,v,h0,h1=>by
  have hp:(256:Int) ^ (n + 1)=256 ^ n * 256:=Int.pow_succ _ _
  simp only [Q6,List.foldl_append,List.foldl_cons,List.foldl_nil]
  rw [Bdx n (v / 256) (by omega) (by omega)]
  unfold Azk
  omega
theorem Bdy:∀ (n:Nat) (v:Int),Ha (Q6 v n)=true
 | 0,_=>rfl
 | n + 1,v=>by
  simp only [Q6,Kj,Bdy n]
  show (true&&((decide (0≤v % 256)&&decide (v % 256 < 256))&&true))=true
  rw [Af (by omega),Af (by omega)]
  rfl
theorem Mb (v:Int) (n:Nat):Ae (Dm v n)=Q6 v n:=Qe _ (Bdy n v)
theorem A3j {v:Int} {n:Nat} (h0:0≤v) (h1:v < 256 ^ n):Aju (Dm v n)=v:=by rw [Bis,Mb,Bdx n v h0 h1]
theorem Bm0 (s:Aa):Dm (Aju s) s.size=s:=by
 apply Wc
 rw [Mb,Bis]
 exact Bdw 0 s.size _ (Ep s) (b8 s)
theorem Bkl (n:Nat):Ha (List.replicate n 0)=true:=List.all_eq_true.2 fun x hx=>by
 rw [List.eq_of_mem_replicate hx]; rfl
theorem Aqi (p:Pg) (w:Int):Ae (Jm p w)=Q6 p.1 1++(Q6 p.2.1 2++(Q6 p.2.2.1 4++(Q6 p.2.2.2.1.size 1++(Ae p.2.2.2.1++List.replicate (56 - w - p.2.2.2.1.size).toNat 0)))):=by
 unfold Jm
 rw [Nt,Nt,Nt,Nt,Nt,Mb,Mb,Mb,Mb,Qe _ (Bkl _)]
 simp only [List.append_assoc]
theorem A86 {p:Pg} {w:Int} (h:Ee p w=true):(Jm p w).size=(64 - w).toNat:=by
 obtain ⟨hw,k1,k2,kp⟩:=g8 h
 rw [← Ep,Aqi]
 simp only [Dn,Adx,Ep,List.length_replicate]
 omega
theorem A3k {p:Pg} {w:Int} (h:Ee p w=true):(Ca p w).size=64∧Ag (Ca p w) w (nI (Ca p w).size)=Jm p w:=by
 obtain ⟨hw,k1,k2,kp⟩:=g8 h
 have e:Ca p w=Asv (Jm p w) w++Jm p w:=by unfold Ca; rw [h]; rfl
 have hs:(Ca p w).size=64:=by rw [e,ByteArray.size_append,Ady hw,A86 h]; omega
 refine ⟨hs,?_⟩
 obtain ⟨n,rfl⟩:∃ n:Nat,w=(n:Int):=⟨w.toNat,by omega⟩
 apply Wc
 have q:Ag (Ca p n) n (nI (Ca p n).size)=Ag (Ca p n) (n:Nat) ((64:Nat):Int):=by rw [hs]<;>rfl
 rw [q,Nu,e,Nt,List.drop_append_of_le_length (by rw [Ep,Ady hw]; omega),List.drop_of_length_le (by rw [Ep,Ady hw]; omega),List.nil_append,List.take_of_length_le (by rw [Ep,A86 h]; omega)]
theorem Bm1 {p:Pg} {w:Int} (h:Ee p w=true):Bgm (Jm p w)=p:=by
 obtain ⟨hw,k1,k2,kp⟩:=g8 h
 obtain ⟨r1,r2,r3⟩:=Ajy h
 have hb:=Aqi p w
 have d1:∀ v:Int,Q6 v 1=[v % 256]:=fun v=>rfl
 have d2:∀ v:Int,Q6 v 2=[v / 256 % 256,v % 256]:=fun v=>rfl
 have d4:∀ v:Int,Q6 v 4=[v / 256 / 256 / 256 % 256,v / 256 / 256 % 256,v / 256 % 256,v % 256]:=fun v=>rfl
 have b7:Aq (Jm p w) 7=p.2.2.2.1.size:=by
  have:=i7 (Jm p w) 7
  rw [hb,d1,d2,d4,d1] at this
  refine this.trans ?_
  show (p.2.2.2.1.size:Int) % 256=_
  omega
 have b0:Aq (Jm p w) 0=p.1:=by
  have:=i7 (Jm p w) 0
  rw [hb,d1] at this
  refine this.trans ?_
  show p.1 % 256=_
  omega
 have c1:Ag (Jm p w) 1 3=Dm p.2.1 2:=by
  apply Wc
  have:=Nu (Jm p w) 1 3
  rw [hb,d1,d2,d4,d1] at this
  exact this.trans (by rw [Mb,d2]; rfl)
 have c3:Ag (Jm p w) 3 7=Dm p.2.2.1 4:=by
  apply Wc
  have:=Nu (Jm p w) 3 7
  rw [hb,d1,d2,d4,d1] at this
  exact this.trans (by rw [Mb,d4]; rfl)
 have c8:Ag (Jm p w) 8 (8 + (p.2.2.2.1.size:Int))=p.2.2.2.1:=by
  apply Wc
  have:=Nu (Jm p w) 8 (8 + p.2.2.2.1.size)
  rw [hb,d1,d2,d4,d1] at this
  refine this.trans ?_
  show List.take (8 + p.2.2.2.1.size - 8) (Ae p.2.2.2.1++_)=_
  rw [show 8 + p.2.2.2.1.size - 8=p.2.2.2.1.size by omega,List.take_append_of_le_length (by rw [Ep]; omega),List.take_of_length_le (by rw [Ep]; omega)]
 have p2:(256:Int) ^ 2=65536:=by decide
 have p4:(256:Int) ^ 4=4294967296:=by decide
 unfold Bgm
 rw [b7,b0,c1,c3,c8,A3j (by omega) (by omega),A3j (by omega) (by omega)]
theorem In {p:Pg} {w:Int} (h:Ee p w=true):Ay (Ca p w) w=(p,true):=by
 obtain ⟨hw,k1,k2,kp⟩:=g8 h
 obtain ⟨hs,ht⟩:=A3k h
 have hr:=Bm1 h
 have b7:Aq (Jm p w) 7=p.2.2.2.1.size:=by
  have:=i7 (Jm p w) 7
  rw [Aqi] at this
  refine this.trans ?_
  show (p.2.2.2.1.size:Int) % 256=_
  omega
 unfold Ay Bgn
 rw [ht,hr,hw,hs,b7,beq_self_eq_true,Bd (by omega)]
 rfl
theorem Sp {s:Aa} {w:Int} {p:Pg} (h:Ay s w=(p,true)):s.size=64∧Bq w 1 8=true∧Ca p w=s∧Ee p w=true:=by
 unfold Ay at h
 cases h1:(nI s.size != 64) with
 | true=>rw [h1] at h; cases h
 | false=>
  cases h2:Bq w 1 8 with
  | false=>rw [h1,h2] at h; cases h
  | true=>
   cases h3:decide (Aq (Ag s w (nI s.size)) 7 > 56 - w) with
   | true=>rw [h1,h2,h3] at h; cases h
   | false=>
    cases h4:((Ca (Bgn s w) w).toList==s.toList) with
    | false=>rw [h1,h2,h3,h4] at h; cases h
    | true=>
     rw [h1,h2,h3,h4] at h
     have e:Bgn s w=p:=congrArg Prod.fst h
     rw [e] at h4
     have e2:=Ayf h4
     have hs:s.size=64:=by
      by_cases q:nI s.size=64
      ·simp only [nI] at q; omega
      ·rw [(bne_iff_ne).2 q] at h1; cases h1
     refine ⟨hs,rfl,e2,?_⟩
     cases hp:Ee p w with
     | true=>rfl
     | false=>
      unfold Ca at e2
      rw [hp] at e2
      subst e2
      cases hs
theorem Bkm {s:Aa} {w:Int} {p:Pg} (h:Ay s w=(p,true)) (h5:p.2.2.2.1.size=5):
  ((B5 (Fr p) w).toList==s.toList)=((p.1==4)&&I6 (Fr p)):=by
 obtain ⟨hs,hw,hf,hp⟩:=Sp h
 cases hr:I6 (Fr p) with
 | false=>
  rw [Bool.and_false]
  cases q:((B5 (Fr p) w).toList==s.toList) with
  | false=>rfl
  | true=>
   have e:=Ayf q
   unfold B5 at e
   rw [hr] at e
   subst e
   cases hs
 | true=>
  rw [Bool.and_true]
  have hpart:Dm (Fr p).2.1 1++Dm (Fr p).2.2.1 4=p.2.2.2.1:=by
   apply Wc
   have e4:(Ag p.2.2.2.1 1 (nI p.2.2.2.1.size)).size=4:=by rw [Da (by omega) (by simp only [nI]; omega) (by simp [nI])]; simp only [nI,h5]; decide
   have e5:Dm (Aju (Ag p.2.2.2.1 1 (nI p.2.2.2.1.size))) 4=Ag p.2.2.2.1 1 (nI p.2.2.2.1.size):=by
    have:=Bm0 (Ag p.2.2.2.1 1 (nI p.2.2.2.1.size))
    rw [e4] at this
    exact this
   show Ae (Dm (Aq p.2.2.2.1 0) 1++Dm (Aju (Ag p.2.2.2.1 1 (nI p.2.2.2.1.size))) 4)=_
   obtain ⟨b0,b1⟩:=Jn p.2.2.2.1 0
   rw [e5,Nt,Mb,Asy (s:=p.2.2.2.1) (by omega)]
   show [Aq p.2.2.2.1 0 % 256]++_=_
   rw [show Aq p.2.2.2.1 0 % 256=Aq p.2.2.2.1 0 by omega]
   rfl
  have hR:B5 (Fr p) w=Ca (4,p.2.1,p.2.2.1,p.2.2.2.1,()) w:=by
   unfold B5
   rw [hr,hpart]
   rfl
  rw [hR]
  by_cases hk:p.1=4
  ·have e:((4,p.2.1,p.2.2.1,p.2.2.2.1,()):Pg)=p:=by rw [← hk]
   rw [e,hf,hk,beq_self_eq_true]
   rfl
  ·rw [beq_eq_false_iff_ne.2 hk]
   cases q:((Ca (4,p.2.1,p.2.2.1,p.2.2.2.1,()) w).toList==s.toList) with
   | false=>rfl
   | true=>
    have e:=Ayf q
    cases ho:Ee (4,p.2.1,p.2.2.1,p.2.2.2.1,()) w with
    | false=>
     unfold Ca at e
     rw [ho] at e
     subst e
     cases hs
    | true=>
     have r:=In ho
     rw [e,h] at r
     exact absurd (congrArg (fun x:Pg×Bool=>x.1.1) r) hk
theorem Bkn {a n:Int} (hn:0 < n):(a + n - 1) / n=1 + (a - n + n - 1) / n:=by
 have:a + n - 1=(a - n + n - 1) + n * 1:=by omega
 rw [this,Int.add_mul_ediv_left _ _ (by omega)]
 omega
theorem A87 (n:Nat) (hn:1≤n):∀ (f:Nat) (s:Aa),s.size≤f→((E2 n f s).length:Int)=if ((s.size:Int) + n - 1) / n > 1 then ((s.size:Int) + n - 1) / n else 1
 | 0,s,h=>by
  have h0:s.size=0:=by omega
  simp only [E2,h0]
  have:(((0:Nat):Int) + n - 1) / n=0:=Int.ediv_eq_zero_of_lt (by omega) (by omega)
  exact (if_neg (by rw [this]; decide)).symm
 | f + 1,s,h=>by
  by_cases q:s.size > n
  ·have hc:(Ag s n (nI s.size)).size=s.size - n:=by rw [Da (by omega) (by simp only [nI]; omega) (by simp [nI])]; simp only [nI]; omega
   simp only [E2,if_pos q,List.length_cons]
   have ih:=A87 n hn f (Ag s n (nI s.size)) (by omega)
   rw [hc] at ih
   have e:=Bkn (a:=s.size) (n:=n) (by omega)
   have e2:((s.size - n:Nat):Int)=(s.size:Int) - n:=by omega
   rw [e2] at ih
   have hp:1≤((s.size:Int) - n + n - 1) / n:=by
    rw [Int.le_ediv_iff_mul_le (by omega)]
    omega
   rw [e]
   generalize ((s.size:Int) - n + n - 1) / n=y at *
   rw [if_pos (by omega)]
   split at ih<;>omega
  ·simp only [E2,if_neg q]
   have:((s.size:Int) + n - 1) / n < 2:=by
    rw [Int.ediv_lt_iff_lt_mul (by omega)]
    omega
   exact (if_neg (by omega)).symm
theorem i8 {s:Aa} {w:Int} (hw:Bq w 1 8=true):((Ao s w).length:Int)=if ((s.size:Int) + (56 - w) - 1) / (56 - w) > 1 then ((s.size:Int) + (56 - w) - 1) / (56 - w) else 1:=by
 obtain ⟨h1,h2⟩:=Cw hw
 obtain ⟨n,hn⟩:∃ n:Nat,56 - w=(n:Int):=⟨(56 - w).toNat,by omega⟩
 unfold Ao
 rw [hn,Fz]
 exact A87 n (by omega) s.size s (Nat.le_refl _)
theorem Xo (life w:Int):∀ (L:List Aa) (k:Int),Ig life w k L=(List.range' 0 L.length).map (fun i=>Ca ((if i + 1=L.length then 2 else 1),life,k + (i:Int),L.getD i z0,()) w)
 | [],k=>rfl
 | [p],k=>by
  show [Ca (2,life,k,p,()) w]=[Ca ((if 0 + 1=1 then 2 else 1),life,k + ((0:Nat):Int),p,()) w]
  rw [if_pos rfl,show k + ((0:Nat):Int)=k by omega]
 | p::q::r,k=>by
  have ih:=Xo life w (q::r) (k + 1)
  show Ca (1,life,k,p,()) w::Ig life w (k + 1) (q::r)=(List.range' 0 ((q::r).length + 1)).map (fun i=>Ca ((if i + 1=(q::r).length + 1 then 2 else 1),life,k + (i:Int),(p::q::r).getD i z0,()) w)
  rw [ih,List.range'_succ,List.map_cons]
  congr 1
  ·rw [if_neg (by rw [List.length_cons]; omega),show k + ((0:Nat):Int)=k by omega]
   rfl
  ·rw [show List.range' (0 + 1) (q::r).length=List.map (fun x=>1 + x) (List.range' 0 (q::r).length) by rw [List.map_add_range'],List.map_map]
   refine List.map_congr_left fun i _=>?_
   show _=Ca ((if 1 + i + 1=(q::r).length + 1 then 2 else 1),life,k + ((1 + i:Nat):Int),(p::q::r).getD (1 + i) z0,()) w
   rw [show k + ((1 + i:Nat):Int)=k + 1 + (i:Int) by omega,show 1 + i=i + 1 by omega]
   by_cases e:i + 1=(q::r).length
   ·rw [if_pos e,if_pos (by omega)]; rfl
   ·rw [if_neg e,if_neg (by omega)]; rfl
theorem A88 {β:Type} (g:Nat→β):∀ k i (r:List β),iter (fun i r=>r++[g i]) k i r=r++(List.range' i k).map g
 | 0,i,r=>by simp [iter]
 | k + 1,i,r=>by
  simp only [iter]
  rw [A88 g k (i + 1),List.range'_succ,List.map_cons,List.append_assoc]
  rfl
theorem Age (p:Pg) (w:Int):(Ca p w).size≤64:=by
 cases h:Ee p w with
 | true=>rw [(A3k h).1]; exact Nat.le_refl _
 | false=>unfold Ca; rw [h]; show (Ad).size≤64; decide
theorem Qf (life w:Int):∀ (L:List Aa) (k:Int),(Ig life w k L).length=L.length∧∀ x∈Ig life w k L,x.size≤64:=by
 intro L k
 rw [Xo]
 refine ⟨by simp,fun x hx=>?_⟩
 obtain ⟨i,_,rfl⟩:=List.mem_map.1 hx
 exact Age _ _
theorem If.sync {d:Dk} (h:If d):If (A81 d):=by
 have hl:=T9 d.1 d.2.1
 have hs:Asx d.1.length (Hb d.1 d.2.1):=Am1 (Asx d.1.length) _ d.2.1 0 d.1 (fun i s w hw hI=>hI.set (Adw (z:=zW) (P:=fun w:Wr=>w.2.1.size=64) (fun i hi=>(h.pen i hi).2.2) w hw)) ⟨rfl,h.sec⟩
 exact ⟨by show 8≤(Hb d.1 d.2.1).length; rw [hl]; exact h.n8,by show (Hb d.1 d.2.1).length≤200; rw [hl]; exact h.n200,by show (0:Nat)≤300; omega,fun i hi=>hs.2 i (by rw [← hl]; exact hi),fun i hi=>absurd hi (by show ¬ i < 0; omega)⟩
theorem If.op {d:Dk} (h:If d) (o:Dc):If (opS d o):=by
 unfold opS
 cases o.1 with
 | true=>exact h.sync
 | false=>
  cases hc:Aiy d.1.length (o.2.1,o.2.2.1,())&&decide (d.2.1.length < 300) with
  | false=>exact h
  | true=>
   obtain ⟨h1,h2⟩:=B2 hc
   obtain ⟨q1,q2⟩:=B2 h1
   obtain ⟨q2,q3⟩:=B2 q2
   have h2:=G8 h2
   refine ⟨h.n8,h.n200,by show (d.2.1++[(o.2.1,o.2.2.1,())]).length≤300; rw [Dn,En]; omega,h.sec,fun i hi=>?_⟩
   have hi:i < d.2.1.length + 1:=by
    have hi:i < (d.2.1++[(o.2.1,o.2.2.1,())]).length:=hi
    rw [Dn,En] at hi
    exact hi
   show 0≤((d.2.1++[(o.2.1,o.2.2.1,())]).getD i zW).1∧((d.2.1++[(o.2.1,o.2.2.1,())]).getD i zW).1 < (d.1.length:Int)∧((d.2.1++[(o.2.1,o.2.2.1,())]).getD i zW).2.1.size=64
   by_cases e:i < d.2.1.length
   ·have:(d.2.1++[(o.2.1,o.2.2.1,())]).getD i zW=d.2.1.getD i zW:=by
     rw [List.getD_eq_getElem?_getD,List.getElem?_append_left e,← List.getD_eq_getElem?_getD]
    rw [this]
    exact h.pen i e
   ·obtain rfl:i=d.2.1.length:=by omega
    have:(d.2.1++[(o.2.1,o.2.2.1,())]).getD d.2.1.length zW=(o.2.1,o.2.2.1,()):=by
     rw [List.getD_eq_getElem?_getD,List.getElem?_append_right (Nat.le_refl _),Nat.sub_self]
     rfl
    rw [this]
    exact ⟨G8 q1,G8 q2,G8 q3⟩
theorem If.ops:∀ (l:List Dc) {d:Dk},If d→If (l.foldl opS d)
 | [],_,h=>h
 | o::r,_,h=>If.ops r (h.op o)
theorem If.good {d:Dk} (h:If d):Kl tDk d=true:=by
 show ((decide (d.1.length≤1073741824)&&List.all d.1 (fun x=>decide (ByteArray.size x≤1073741824)))&&((decide (d.2.1.length≤1073741824)&&List.all d.2.1 (fun w=>true&&(decide (ByteArray.size w.2.1≤1073741824)&&true)))&&true))=true
 have h1:List.all d.1 (fun x=>decide (ByteArray.size x≤1073741824))=true:=List.all_eq_true.2 (Adw (z:=z0) fun i hi=>Af (by rw [h.sec i hi]; decide))
 have h2:List.all d.2.1 (fun w=>true&&(decide (ByteArray.size w.2.1≤1073741824)&&true))=true:=List.all_eq_true.2 (Adw (z:=zW) fun i hi=>by rw [(h.pen i hi).2.2]; rfl)
 rw [h1,h2,Af (by have:=h.n200; omega),Af (by have:=h.p300; omega)]
 rfl
theorem Ajz (n:Nat):∀ (f:Nat) (s:Aa),(E2 n f s).length≤f + 1
 | 0,s=>by simp [E2]
 | f + 1,s=>by
  unfold E2
  split
  ·rw [List.length_cons]
   have:=Ajz n f (Ag s n (nI s.size))
   omega
  ·simp
end Go.Proofs.YtfkefgbihlfjmaaGreat.V
namespace Go.Proofs
open Go.Shelf
def Tryz.lays169_ren:Go.Shelf.Ren:=⟨fun | 169=>198 | n=>n,fun | 70=>207 | 9=>9 | 0=>0 | 72=>209 | 37=>22 | 127=>252 | 3=>3 | 5=>5 | n=>n,fun | n=>n⟩
theorem Tryz.lays169:Go.Proofs.Lays.n169 Tryz.prog Tryz.lays169_ren:={
 mixed:=by kernel_rfl
 f169:=Tryz.func198.trans (congrArg some (by kernel_rfl))
 t0:=Tryz.underlying0
 a0:=Tryz.isAgg0
 z0:=Tryz.sizeOf0
 v0:=Tryz.zeroValue0
 t3:=Tryz.underlying3
 a3:=Tryz.isAgg3
 z3:=Tryz.sizeOf3
 v3:=Tryz.zeroValue3
 t9:=Tryz.underlying9
 a9:=Tryz.isAgg9
 z9:=Tryz.sizeOf9
 v9:=Tryz.zeroValue9
 t37:=Tryz.underlying22
 a37:=Tryz.isAgg22
 z37:=Tryz.sizeOf22
 v37:=Tryz.zeroValue22
 t70:=Tryz.underlying207
 a70:=Tryz.isAgg207
 z70:=Tryz.sizeOf207
 v70:=Tryz.zeroValue207
 t72:=Tryz.underlying209
 a72:=Tryz.isAgg209
 z72:=Tryz.sizeOf209
 v72:=Tryz.zeroValue209
 t127:=Tryz.underlying252
 a127:=Tryz.isAgg252
 z127:=Tryz.sizeOf252
 v127:=Tryz.zeroValue252 }
theorem Tryz.Builder_Extra_169:Builder.Extra Tryz.prog Tryz.lays169_ren:={
 sizeBuilder:=by kernel_rfl
 liesBuilder:=by kernel_rfl
 t5:=Tryz.underlying5
 a5:=Tryz.isAgg5
 z5:=Tryz.sizeOf5
 v5:=Tryz.zeroValue5
 infoByte:=by kernel_rfl
 cellsByte:=by kernel_rfl
 sizeByte:=by kernel_rfl
 neB5:=by decide }
def Tryz.lays105_ren:Go.Shelf.Ren:=⟨fun | 105=>183 | 212=>222 | 99=>223 | 165=>224 | 166=>197 | 170=>225 | 169=>198 | 263=>250 | 264=>251 | 206=>252 | 240=>227 | 241=>253 | 276=>254 | 277=>260 | n=>n,fun | 9=>9 | 3=>3 | 4=>4 | 20=>20 | 0=>0 | 46=>223 | 109=>246 | 5=>5 | 72=>209 | 76=>212 | 51=>260 | 146=>270 | 53=>226 | 148=>272 | 70=>207 | 37=>22 | 75=>211 | 127=>252 | 164=>234 | 80=>178 | n=>n,fun | n=>n⟩
theorem Tryz.lays105:Go.Proofs.Lays.n105 Tryz.prog Tryz.lays105_ren:={
 mixed:=by kernel_rfl
 f99:=Tryz.func223.trans (congrArg some (by kernel_rfl))
 f105:=Tryz.func183.trans (congrArg some (by kernel_rfl))
 f165:=Tryz.func224.trans (congrArg some (by kernel_rfl))
 f166:=Tryz.func197.trans (congrArg some (by kernel_rfl))
 f169:=Tryz.func198.trans (congrArg some (by kernel_rfl))
 f170:=Tryz.func225.trans (congrArg some (by kernel_rfl))
 f206:=Tryz.func252.trans (congrArg some (by kernel_rfl))
 f212:=Tryz.func222.trans (congrArg some (by kernel_rfl))
 f240:=Tryz.func227.trans (congrArg some (by kernel_rfl))
 f241:=Tryz.func253.trans (congrArg some (by kernel_rfl))
 f263:=Tryz.func250.trans (congrArg some (by kernel_rfl))
 f264:=Tryz.func251.trans (congrArg some (by kernel_rfl))
 f276:=Tryz.func254.trans (congrArg some (by kernel_rfl))
 f277:=Tryz.func260.trans (congrArg some (by kernel_rfl))
 t0:=Tryz.underlying0
 a0:=Tryz.isAgg0
 z0:=Tryz.sizeOf0
 v0:=Tryz.zeroValue0
 t3:=Tryz.underlying3
 a3:=Tryz.isAgg3
 z3:=Tryz.sizeOf3
 v3:=Tryz.zeroValue3
 t4:=Tryz.underlying4
 a4:=Tryz.isAgg4
 z4:=Tryz.sizeOf4
 v4:=Tryz.zeroValue4
 t5:=Tryz.underlying5
 a5:=Tryz.isAgg5
 z5:=Tryz.sizeOf5
 v5:=Tryz.zeroValue5
 t9:=Tryz.underlying9
 a9:=Tryz.isAgg9
 z9:=Tryz.sizeOf9
 v9:=Tryz.zeroValue9
 t20:=Tryz.underlying20
 a20:=Tryz.isAgg20
 z20:=Tryz.sizeOf20
 v20:=Tryz.zeroValue20
 t37:=Tryz.underlying22
 a37:=Tryz.isAgg22
 z37:=Tryz.sizeOf22
 v37:=Tryz.zeroValue22
 t46:=Tryz.underlying223
 a46:=Tryz.isAgg223
 z46:=Tryz.sizeOf223
 v46:=Tryz.zeroValue223
 t51:=Tryz.underlying260
 a51:=Tryz.isAgg260
 z51:=Tryz.sizeOf260
 v51:=Tryz.zeroValue260
 t53:=Tryz.underlying226
 a53:=Tryz.isAgg226
 z53:=Tryz.sizeOf226
 v53:=Tryz.zeroValue226
 t70:=Tryz.underlying207
 a70:=Tryz.isAgg207
 z70:=Tryz.sizeOf207
 v70:=Tryz.zeroValue207
 t72:=Tryz.underlying209
 a72:=Tryz.isAgg209
 z72:=Tryz.sizeOf209
 v72:=Tryz.zeroValue209
 t75:=Tryz.underlying211
 a75:=Tryz.isAgg211
 z75:=Tryz.sizeOf211
 v75:=Tryz.zeroValue211
 t76:=Tryz.underlying212
 a76:=Tryz.isAgg212
 z76:=Tryz.sizeOf212
 v76:=Tryz.zeroValue212
 t109:=Tryz.underlying246
 a109:=Tryz.isAgg246
 z109:=Tryz.sizeOf246
 v109:=Tryz.zeroValue246
 t127:=Tryz.underlying252
 a127:=Tryz.isAgg252
 z127:=Tryz.sizeOf252
 v127:=Tryz.zeroValue252
 t146:=Tryz.underlying270
 a146:=Tryz.isAgg270
 z146:=Tryz.sizeOf270
 v146:=Tryz.zeroValue270
 t148:=Tryz.underlying272
 a148:=Tryz.isAgg272
 z148:=Tryz.sizeOf272
 v148:=Tryz.zeroValue272
 t164:=Tryz.underlying234
 a164:=Tryz.isAgg234
 z164:=Tryz.sizeOf234
 v164:=Tryz.zeroValue234 }
theorem Tryz.Builder_Extra_105:Builder.Extra Tryz.prog Tryz.lays105_ren:={
 sizeBuilder:=by kernel_rfl
 liesBuilder:=by kernel_rfl
 t5:=Tryz.underlying5
 a5:=Tryz.isAgg5
 z5:=Tryz.sizeOf5
 v5:=Tryz.zeroValue5
 infoByte:=by kernel_rfl
 cellsByte:=by kernel_rfl
 sizeByte:=by kernel_rfl
 neB5:=by decide }
namespace YtfkefgbihlfjmaaGreat.R
open Go Go.RowKit
theorem Bo9:Bq6 Tryz.prog (Tryz.lays105_ren.t 72) (Tryz.lays105_ren.f 240):=Bs4 { Tryz.lays105 with } Tryz.Builder_Extra_105.toX72
theorem Bpa:Bq7 Tryz.prog (Tryz.lays169_ren.t 72) (Tryz.lays169_ren.t 5) (Tryz.lays169_ren.f 169):=Bs5 Tryz.lays169 Tryz.Builder_Extra_169
theorem Bm2:Ajc Tryz.prog (Tryz.lays105_ren.f 105) ⟨[.rd .str,.rd (.int .i64)],[none,none],[.rd .str],[none]⟩ (fun x=>(Acz x.1 x.2.1).bind fun r=>some ((r,()),())):=
 Bke fun a c r h w=>by
  unfold Acz at h
  split at h
  ·rename_i hc
   cases h
   have:=Any.strings_Repeat Tryz.lays105 Tryz.Builder_Extra_105 a c.toNat w (by omega) hc.2.2
   rw [Int.toNat_of_nonneg hc.1] at this
   exact this
  ·cases h
end YtfkefgbihlfjmaaGreat.R
end Go.Proofs
namespace Go.Proofs.YtfkefgbihlfjmaaGreat.V
open Go Go.Proofs.YtfkefgbihlfjmaaGreat.R
theorem E6 {α σ E:Type} {xs:List α} (z:α) (Inv:Nat→σ→Prop) (step:Nat→α→σ→σ) {g:Nat→Int→σ→Option E} {ok:σ→E}
  (hs:∀ m (i:Nat) s,i < xs.length→Inv i s→g (m + 1) i s=g m ((i + 1:Nat):Int) (step i (xs.getD i z) s))
  (hi:∀ i s,i < xs.length→Inv i s→Inv (i + 1) (step i (xs.getD i z) s))
  (he:∀ m s,Inv xs.length s→g (m + 1) (xs.length:Int) s=some (ok s)):
  ∀ (m i:Nat) s,i≤xs.length→xs.length - i < m→Inv i s→g m i s=some (ok (Ds step i (xs.drop i) s))
 | 0,i,s,_,hm,_=>by omega
 | m + 1,i,s,hl,hm,hI=>by
  by_cases h:i < xs.length
  ·rw [hs m i s h hI,E6 z Inv step hs hi he m (i + 1) _ (by omega) (by omega) (hi i s h hI),Wa xs i z h]
   rfl
  ·have:i=xs.length:=by omega
   subst this
   rw [he _ _ hI,List.drop_length]
   rfl
theorem Ba1 (n:Nat) (h:n < 1099511627776):IntKind.wrap IntKind.i64 (nI (n + 1) - 1)=(n:Int):=by
 simp only [nI]
 rw [Aj (by omega) (by omega)]
 omega
theorem Bm3 (i:Nat):(Int.tmod (i:Int) 20==0)=(i % 20==0):=by
 have:Int.tmod (i:Int) 20=((i % 20:Nat):Int):=by rw [Int.tmod_eq_emod_of_nonneg (by omega)]; omega
 rw [this]
 by_cases h:i % 20=0
 ·rw [h]; rfl
 ·rw [beq_eq_false_iff_ne.2 h]
  exact beq_eq_false_iff_ne.2 (by omega)
theorem Bdz {α:Type} (c:Bool) (xs:List α) (y:α):(Z0 c xs y).length=xs.length + c.toNat:=by cases c<;>simp [Z0]
def A89 (i:Nat) (s:List (List Bc)×Bool×List Bc):Prop:=i≤100∧s.1.length≤i∧(0 < i→s.2.1=true)∧s.2.2.length≤i
theorem A89.step {i:Nat} {s:List (List Bc)×Bool×List Bc} (h:A89 i s) (h1:i < 100) (p:A2):A89 (i + 1) (Mr i p s):=by
 obtain ⟨_,h2,h3,h4⟩:=h
 unfold Mr
 cases hc:(i % 20==0)
 ·have:0 < i:=Nat.pos_of_ne_zero fun q=>by subst q; cases hc
  refine ⟨by omega,by simp only [cond_false]; omega,fun _=>h3 this,?_⟩
  simp only [cond_false,Dn,En]
  omega
 ·refine ⟨by omega,?_,fun _=>rfl,by simp⟩
  simp only [cond_true]
  rw [Bdz]
  by_cases q:0 < i
  ·rw [h3 q]; simp; omega
  ·cases s.2.1<;>simp<;>omega
theorem Cb {s:Cv} (h:Ak s=true):s.1.length≤100:=G8 (B2 h).1
theorem Adz (s:Aa) (w:Int):(bif Bq w 1 8 then ((Ao s w).length:Int) else 0)=E5 s.size w:=by
 unfold E5
 cases hw:Bq w 1 8 with
 | false=>rfl
 | true=>exact i8 hw
theorem Av6 (n:Nat) (w:Int):0≤E5 n w∧E5 n w≤(n:Int) + 1:=by
 unfold E5
 cases hw:Bq w 1 8 with
 | false=>exact ⟨Int.le_refl _,by simp only [cond_false]; omega⟩
 | true=>
  obtain ⟨h1,h2⟩:=Cw hw
  simp only [cond_true]
  have hc:w=1∨w=2∨w=3∨w=4∨w=5∨w=6∨w=7∨w=8:=by omega
  rcases hc with rfl | rfl | rfl | rfl | rfl | rfl | rfl | rfl<;>split<;>omega
theorem Bgq {b:List Bc} (h:∀ c∈b,Ro c=true):(I7 b).length≤200 * b.length:=by
 induction b with
 | nil=>simp [I7]
 | cons c r ih=>
  have h1:=(Aa2 (h c (by simp))).2
  have h2:=ih fun c hc=>h c (by simp [hc])
  have e:I7 (c::r)=Z3 c++I7 r:=rfl
  rw [e,Dn,List.length_cons]
  omega
theorem La (b:List Bc):(Be b).size≤4000:=by
 unfold Be
 cases hv:Az b with
 | false=>exact Nat.zero_le _
 | true=>
  obtain ⟨_,h2,h3⟩:=Am4 hv
  have:=Bgq h3
  show (strOfNums (I7 b)).size≤4000
  rw [D3]
  omega
theorem b9 {α σ:Type} (z:α) (Inv:Nat→σ→Prop) (step:Nat→α→σ→σ) {xs:List α} (hi:∀ i s,i < xs.length→Inv i s→Inv (i + 1) (step i (xs.getD i z) s)):
  ∀ (k i:Nat) s,i + k=xs.length→Inv i s→Inv xs.length (Ds step i (xs.drop i) s)
 | 0,i,s,h,hI=>by
  have:i=xs.length:=by omega
  subst this
  rw [List.drop_length]
  exact hI
 | k + 1,i,s,h,hI=>by
  rw [Wa xs i z (by omega)]
  exact b9 z Inv step hi k (i + 1) _ (by omega) (hi i s (by omega) hI)
theorem Tl (s:Cv):(Ed s).length≤101:=by
 unfold Ed
 cases hv:Ak s with
 | false=>simp
 | true=>
  have hl:=Cb hv
  have:=b9 zP A89 Mr (xs:=s.1) (fun i r hi hI=>hI.step (by omega) _) s.1.length 0 ([],false,[]) (by omega) ⟨by omega,by simp,fun q=>by omega,by simp⟩
  simp only [cond_true]
  rw [Bdz]
  have h1:=this.2.1
  show (A3c 0 s.1 ([],false,[])).1.length + _≤101
  have h2:(A3c 0 s.1 ([],false,[])).2.1.toNat≤1:=by cases (A3c 0 s.1 ([],false,[])).2.1<;>decide
  have h3:(A3c 0 s.1 ([],false,[])).1.length≤s.1.length:=h1
  omega
def C5 (s:Cv) (w:Int):Int:=bif Bq w 1 8 then (((Ed s).map fun b=>E5 (Be b).size w).sum) else 0
theorem Am5 {α:Type} (f:α→Int):∀ (l:List α) (i:Nat) (a:Int),Ds (fun _ b a=>a + f b) i l a=a + (l.map f).sum
 | [],_,a=>by simp [Ds]
 | x::r,i,a=>by
  show Ds _ (i + 1) r (a + f x)=_
  rw [Am5 f r,List.map_cons,List.sum_cons]
  omega
theorem Bm4 {α:Type} (l:List α):(l.map fun _=>(0:Int)).sum=0:=by
 induction l with
 | nil=>rfl
 | cons x r ih=>rw [List.map_cons,List.sum_cons,ih]; rfl
theorem Bd0 (s:Cv) (w:Int):((Ed s).map fun b=>E5 (Be b).size w).sum=C5 s w:=by
 unfold C5
 cases hw:Bq w 1 8 with
 | true=>rfl
 | false=>
  have:(fun b:List Bc=>E5 (Be b).size w)=fun _=>0:=by funext b; unfold E5; rw [hw]; rfl
  rw [this,Bm4]
  rfl
def Bgr (i:Nat) (a:Int):Prop:=i≤101∧0≤a∧a≤5000 * (i:Int)
theorem Bgr.step {i:Nat} {a:Int} (h:Bgr i a) (hi:i < 101) (b:List Bc) (w:Int):Bgr (i + 1) (a + E5 (Be b).size w):=by
 have h1:=Av6 (Be b).size w
 have h2:=La b
 obtain ⟨_,h3,h4⟩:=h
 exact ⟨by omega,by omega,by omega⟩
theorem A3l {i:Nat} {a:Int} (h:Bgr i a) (b:List Bc) (w:Int):IntKind.wrap IntKind.i64 (a + E5 (Be b).size w)=a + E5 (Be b).size w:=by
 have h1:=Av6 (Be b).size w
 have h2:=La b
 obtain ⟨_,h3,h4⟩:=h
 exact Aj (by omega) (by omega)
def Al (n:Int):Int:=bif Bq n 8 200 then (n - 2) / 2 else 0
theorem Ayi {n:Int} (h1:8≤n) (h2:n≤200):IntKind.wrap IntKind.i64 (Int.tdiv (IntKind.wrap IntKind.i64 (n - 2)) 2)=(n - 2) / 2:=by
 rw [Aj (n:=n - 2) (by omega) (by omega),Int.tdiv_eq_ediv_of_nonneg (by omega)]
 exact Aj (by omega) (by omega)
theorem Pm (n:Int):0≤Al n∧Al n≤99:=by
 unfold Al
 cases h:Bq n 8 200 with
 | false=>simp only [cond_false]; omega
 | true=>
  obtain ⟨h1,h2⟩:=Cw h
  simp only [cond_true]
  omega
theorem Bgs (n:Int):decide (0 < Al n)=Bq n 8 200:=by
 unfold Al
 cases h:Bq n 8 200 with
 | false=>rfl
 | true=>
  obtain ⟨h1,h2⟩:=Cw h
  simp only [cond_true]
  exact Af (by omega)
def As (s:Ez):Bool:=decide (0 < Al s.2.1)&&(Bq s.1 1 8&&(Bq s.2.2.1 1 60000&&(Bq s.2.2.2.1.1 0 1000000000&&(I6 s.2.2.2.1&&(Bq s.2.2.2.1.2.2.2.1 0 60000&&(Bq s.2.2.2.2.1 0 (Al s.2.1)&&(Bq s.2.2.2.2.2.1 0 s.2.2.2.2.1&&(Ak s.2.2.2.2.2.2.1&&decide (C5 s.2.2.2.2.2.2.1 s.1≤Al s.2.1 - 1)))))))))
theorem Bpb (a b:Bool):(bif a then some ((b,()),()) else some ((false,()),()))=(some ((a&&b,()),()):Option ((Bool×Unit)×Unit)):=by cases a<;>rfl
theorem Bs8 (a b:Bool):(bif !a then some ((false,()),()) else some ((b,()),()))=(some ((a&&b,()),()):Option ((Bool×Unit)×Unit)):=by cases a<;>rfl
theorem Tm (n:Int):IntKind.wrap IntKind.i64 (Al n - 1)=Al n - 1:=by
 have:=Pm n
 exact Aj (by omega) (by omega)
theorem Bd1 (n:Int) (b:Bool):(bif Al n==0 then some ((false,()),()) else some ((b,()),()))=(some ((decide (0 < Al n)&&b,()),()):Option ((Bool×Unit)×Unit)):=by
 have:=Pm n
 by_cases h:Al n=0
 ·rw [h]; rfl
 ·rw [beq_eq_false_iff_ne.2 h,Af (by omega)]; rfl
def Vt:Ez:=(0,0,0,(0,0,0,0,()),0,0,([],()),())
def Aap (c:Int):Pl:=(c,Vt,[],())
def zOp:Dc:=(false,0,⟨#[]⟩,())
def D6:Dc:=(true,0,⟨#[]⟩,())
def Lb (at':Int) (data:Aa):Dc:=(false,at',data,())
def Kk (s:Ez):Pl:=bif As s then (0,(s.1,s.2.1,s.2.2.1,s.2.2.2.1,s.2.2.2.2.1,0,s.2.2.2.2.2.2.1,()),[D6],()) else Aap 1
theorem Xf {s:Ez} (h:As s=true):Bq s.2.1 8 200=true∧Bq s.1 1 8=true∧Ak s.2.2.2.2.2.2.1=true∧(1≤s.2.2.1∧s.2.2.1≤60000)∧(0≤s.2.2.2.1.1∧s.2.2.2.1.1≤1000000000)∧I6 s.2.2.2.1=true∧
  (0≤s.2.2.2.1.2.2.2.1∧s.2.2.2.1.2.2.2.1≤60000)∧(0≤s.2.2.2.2.1∧s.2.2.2.2.1≤Al s.2.1)∧(0≤s.2.2.2.2.2.1∧s.2.2.2.2.2.1≤s.2.2.2.2.1)∧C5 s.2.2.2.2.2.2.1 s.1≤Al s.2.1 - 1:=by
 unfold As at h
 obtain ⟨h1,h⟩:=B2 h
 obtain ⟨h2,h⟩:=B2 h
 obtain ⟨h3,h⟩:=B2 h
 obtain ⟨h4,h⟩:=B2 h
 obtain ⟨h5,h⟩:=B2 h
 obtain ⟨h6,h⟩:=B2 h
 obtain ⟨h7,h⟩:=B2 h
 obtain ⟨h8,h⟩:=B2 h
 obtain ⟨h9,h⟩:=B2 h
 rw [Bgs] at h1
 exact ⟨h1,h2,h9,Cw h3,Cw h4,h5,Cw h6,Cw h7,Cw h8,G8 h⟩
abbrev tSt:Ty:=.pair (.sl (.pair .str (.pair .str .unit))) .unit
abbrev tRt:Ty:=.pair (.int .i64) (.pair (.int .i64) (.pair (.int .i64) (.pair (.int .i64) .unit)))
abbrev Bs9:Ty:=.pair (.int .i64) (.pair (.int .i64) (.pair (.int .i64) (.pair tRt (.pair (.int .i64) (.pair (.int .i64) (.pair tSt .unit))))))
abbrev tOp:Ty:=.pair .bool (.pair (.int .i64) (.pair .str .unit))
abbrev Bd2:Ty:=.pair (.int .i64) (.pair Bs9 (.pair (.sl tOp) .unit))
theorem Azl {s:Cv} (h:Ak s=true):∀ p∈s.1,1≤p.1.size∧p.1.size≤20∧p.2.1.size≤100:=fun p hp=>by
 obtain ⟨i,hi,rfl⟩:=Xn zP hp
 have:=Wb (B2 h).2 i hi
 unfold Pa at this
 obtain ⟨h1,h2⟩:=B2 this
 obtain ⟨h2,_⟩:=B2 h2
 have h3:=Cw h1
 exact ⟨by omega,by omega,G8 h2⟩
theorem j4 {s:Cv} (h:Ak s=true):Kl tSt s=true:=by
 have hl:=Cb h
 show ((decide (s.1.length≤1073741824)&&List.all s.1 (Kl (.pair .str (.pair .str .unit))))&&true)=true
 rw [Af (show s.1.length≤1073741824 by omega),Bool.true_and,Bool.and_true]
 refine List.all_eq_true.2 fun p hp=>?_
 obtain ⟨_,h1,h2⟩:=Azl h p hp
 show (decide (p.1.size≤1073741824)&&(decide (p.2.1.size≤1073741824)&&true))=true
 rw [Af (show p.1.size≤1073741824 by omega),Af (show p.2.1.size≤1073741824 by omega)]
 rfl
theorem Am6 {c w n l u o:Int} {r:Rt} {s:Cv} {ops:List Dc} (hs:Kl tSt s=true) (ho:Kl (.sl tOp) ops=true):Kl Bd2 (c,(w,n,l,r,u,o,s,()),ops,())=true:=by
 show ((Kl tSt s&&true)&&(Kl (.sl tOp) ops&&true))=true
 rw [hs,ho]
 rfl
theorem Bgt (s:Ez):Kl Bd2 (Kk s)=true:=by
 unfold Kk
 cases hv:As s with
 | false=>rfl
 | true=>exact Am6 (j4 (Xf hv).2.2.1) rfl
abbrev Wd:=Int×Int×Aa×List Aa×Int×Int
def Xp (wk wl:Int) (p:Pg):Bool:=bif decide (p.2.1 < wl) then false else bif p.1==3 then wk != 1 else bif p.1==1 || p.1==2 then wk != 1 || wl==p.2.1 else false
def C6 (i:Int) (p:Pg) (s:Wd):Wd:=
 bif p.1==1 then (1,p.2.1,s.2.2.1++p.2.2.2.1,s.2.2.2.1,s.2.2.2.2.1,s.2.2.2.2.2)
 else bif p.1==2 then (2,p.2.1,z0,s.2.2.2.1++[s.2.2.1++p.2.2.2.1],i + 1,p.2.1)
 else (p.1,p.2.1,z0,s.2.2.2.1,i + 1,p.2.1)
def Sg (s:Wd):Scd:=(s.2.2.2.1,s.2.2.2.2.1,s.2.2.2.2.2,())
def Gk (w first i:Int) (s:Wd) (x:Aa):Bool:=(Ay x w).2&&(((Ay x w).1.2.2.1 - i==first)&&Xp s.1 s.2.1 (Ay x w).1)
def Cx (w first:Int):List Aa→Int→Wd→Scd
 | [],_,s=>Sg s
 | x::r,i,s=>bif Gk w first i s x then Cx w first r (i + 1) (C6 i (Ay x w).1 s) else Sg s
def seen (d:Dk) (a:Int) (k n:Nat):List Aa:=(List.range' k n).map fun k:Nat=>V8 d (a + (k:Int))
def Ua (d:Dk) (from_ size first life w:Int):Scd:=
 bif Ap d&&(Bq w 1 8&&(decide (0≤from_)&&(decide (0≤size)&&(decide (from_≤(d.1.length:Int))&&decide (size≤(d.1.length:Int) - from_))))) then Cx w first (seen d from_ 0 size.toNat) 0 (0,life,z0,[],0,life) else ([],0,0,())
theorem Bm5 {d:Dk} (hd:If d) {a:Int} {j:Nat} (hj:j < d.1.length) (ha:a=(j:Int):=by omega):List.getD (Hb d.1 d.2.1) j (Ad)=V8 d a:=by
 subst ha
 have:=Bdp d.1 j hj d.2.1 (fun w hw=>by
  obtain ⟨i,hi,rfl⟩:=Xn zW hw
  exact (hd.pen i hi).1)
 unfold V8
 rw [Fz]
 exact this
theorem A1n {x:Aa} {w:Int} {p:Pg} (h:Ay x w=(p,true)):(1≤p.1∧p.1≤4)∧(1≤p.2.2.1∧p.2.2.1≤1000000000)∧p.2.2.2.1.size≤64:=by
 obtain ⟨_,_,_,h4⟩:=Sp h
 obtain ⟨k1,_,k3⟩:=Ajy h4
 obtain ⟨_,w1,w2,k4⟩:=g8 h4
 exact ⟨k1,k3,by omega⟩
def Ahc (i:Nat) (s:Wd):Prop:=i≤200∧s.2.2.1.size≤64 * i∧s.2.2.2.1.length≤i
theorem Ahc.zero (a b c l:Int):Ahc 0 (a,b,z0,[],c,l):=⟨by omega,Nat.le_refl 0,Nat.le_refl 0⟩
theorem Ahc.next {i:Nat} {s:Wd} {p:Pg} (h:Ahc i s) (hi:i < 200) (hp:p.2.2.2.1.size≤64):Ahc (i + 1) (C6 i p s):=by
 obtain ⟨_,h2,h3⟩:=h
 unfold C6
 cases (p.1==1)
 ·cases (p.1==2)
  ·exact ⟨by omega,Nat.zero_le _,by simp only [cond_false]; omega⟩
  ·refine ⟨by omega,Nat.zero_le _,?_⟩
   simp only [cond_false,cond_true,Dn,En]
   omega
 ·refine ⟨by omega,?_,by simp only [cond_true]; omega⟩
  simp only [cond_true,ByteArray.size_append]
  omega
abbrev tSc:Ty:=.pair (.sl .str) (.pair (.int .i64) (.pair (.int .i64) .unit))
theorem A3m {l:List Aa} {n:Nat} (h1:l.length≤1000000) (h2:∀ x∈l,x.size≤n) (hn:n≤1000000):Kl (.sl .str) l=true:=by
 show (decide (l.length≤1073741824)&&List.all l (fun x=>decide (ByteArray.size x≤1073741824)))=true
 rw [Af (by omega),Bool.true_and]
 exact List.all_eq_true.2 fun x hx=>Af (by have:=h2 x hx; omega)
theorem Ayj (w first:Int):∀ (l:List Aa) (i:Nat) (st:Wd),i + l.length≤200→Ahc i st→(∀ x∈st.2.2.2.1,x.size≤12864)→Kl tSc (Cx w first l i st)=true
 | [],i,st,h,hI,he=>by
  show (Kl (.sl .str) st.2.2.2.1&&true)=true
  rw [A3m (by have:=hI.2.2; omega) he (by decide)]
  rfl
 | x::r,i,st,h,hI,he=>by
  rw [List.length_cons] at h
  unfold Cx
  cases hs:Gk w first i st x with
  | false=>
   show (Kl (.sl .str) st.2.2.2.1&&true)=true
   rw [A3m (by have:=hI.2.2; omega) he (by decide)]
   rfl
  | true=>
   obtain ⟨hr,_⟩:=B2 hs
   obtain ⟨p,ok,hR⟩:∃ p ok,Ay x w=(p,ok):=⟨_,_,rfl⟩
   rw [hR] at hr
   have hr:ok=true:=hr
   subst hr
   obtain ⟨_,_,q3⟩:=A1n hR
   rw [hR]
   have hN:=hI.next (p:=p) (by omega) q3
   refine Ayj w first r (i + 1) _ (by omega) hN fun y hy=>?_
   unfold C6 at hy
   cases h1:(p.1==1) with
   | true=>rw [h1] at hy; exact he y hy
   | false=>
    rw [h1] at hy
    cases h2:(p.1==2) with
    | false=>rw [h2] at hy; exact he y hy
    | true=>
     rw [h2] at hy
     simp only [cond_false,cond_true,List.mem_append,List.mem_singleton] at hy
     rcases hy with hy | rfl
     ·exact he y hy
     ·rw [ByteArray.size_append]
      have:=hI.2.1
      omega
theorem Ad0 (d:Dk) (a:Int) (k n:Nat):(seen d a k n).length=n:=by simp [seen]
theorem A3n (d:Dk) (f n first life w:Int):Kl tSc (Ua d f n first life w)=true:=by
 unfold Ua
 cases hc:(Ap d&&(Bq w 1 8&&(decide (0≤f)&&(decide (0≤n)&&(decide (f≤(d.1.length:Int))&&decide (n≤(d.1.length:Int) - f)))))) with
 | false=>rfl
 | true=>
  obtain ⟨hv,h⟩:=B2 hc
  obtain ⟨_,h⟩:=B2 h
  obtain ⟨h1,h⟩:=B2 h
  obtain ⟨h2,h⟩:=B2 h
  obtain ⟨h3,h4⟩:=B2 h
  have h1:=G8 h1
  have h2:=G8 h2
  have h4:=G8 h4
  have:=(Ki hv).n200
  exact Ayj w first _ 0 _ (by rw [Ad0]; omega) (Ahc.zero _ _ _ _) (fun x hx=>by cases hx)
def Py (s:Ez):Bool:=s.1==0&&(s.2.1==0&&(s.2.2.1==0&&((s.2.2.2.1.1==0&&(s.2.2.2.1.2.1==0&&(s.2.2.2.1.2.2.1==0&&s.2.2.2.1.2.2.2.1==0)))&&(s.2.2.2.2.1==0&&(s.2.2.2.2.2.1==0&&(nI s.2.2.2.2.2.2.1.1.length==0))))))
def Ye:Cv:=([],())
def Pn (w:Bo):Bool:=bif w.2.2.1 then As w.2.2.2.1&&(w.2.2.2.1.1==w.1&&w.2.2.2.1.2.1==nI w.2.1.1.length) else Py w.2.2.2.1
def Yh (w:Bo):Bool:=(List.range' 0 w.2.2.2.2.1.length).all fun i=>Ak (w.2.2.2.2.1.getD i Ye)
def Mc (w:Bo):Bool:=(List.range' 0 w.2.2.2.2.2.1.length).all fun i=>decide ((w.2.2.2.2.2.1.getD i z0).size=64)
def B7 (w:Bo):Bool:=Bq w.1 1 8&&(Ap w.2.1&&(Bq w.2.2.2.2.1.length 1 200&&(decide (w.2.2.2.2.2.1.length≤2000)&&(Pn w&&(Yh w&&Mc w)))))
theorem Yi {α β:Type} {x:Option α} {y:α} {f:α→Option β} {z:Option β} (h:x=some y) (k:f y=z):x.bind f=z:=by rw [h]; exact k
def C9:Int→List Aa→List Dc
 | _,[]=>[]
 | a,x::r=>Lb a x::C9 (a + 1) r
theorem A9a (x:Aa):∀ (L:List Aa) (a:Int),C9 a (L++[x])=C9 a L++[Lb (a + (L.length:Int)) x]
 | [],a=>by show [Lb a x]=[Lb (a + (0:Int)) x]; rw [Int.add_zero]
 | y::L,a=>by
  show Lb a y::C9 (a + 1) (L++[x])=Lb a y::(C9 (a + 1) L++[Lb (a + ((L.length + 1:Nat):Int)) x])
  rw [A9a x L (a + 1),show a + 1 + (L.length:Int)=a + ((L.length + 1:Nat):Int) by omega]
theorem Q7:∀ (L:List Aa) (a:Int),(C9 a L).length=L.length
 | [],_=>rfl
 | _::L,a=>by show (C9 (a + 1) L).length + 1=L.length + 1; rw [Q7 L]
theorem Am7 (a:Int):∀ (L:List Aa) (i:Nat) (r:List Dc),Ds (fun (i:Nat) x r=>r++[Lb (a + (i:Int)) x]) i L r=r++C9 (a + (i:Int)) L
 | [],i,r=>(List.append_nil r).symm
 | x::L,i,r=>by
  show Ds _ (i + 1) L (r++[Lb (a + (i:Int)) x])=_
  rw [Am7 a L (i + 1),List.append_assoc,show a + ((i + 1:Nat):Int)=a + (i:Int) + 1 by omega]
  rfl
theorem A3o {α:Type}:∀ (L:List α) (i:Nat) (r:List α),Ds (fun (_:Nat) x r=>r++[x]) i L r=r++L
 | [],i,r=>(List.append_nil r).symm
 | x::L,i,r=>by
  show Ds _ (i + 1) L (r++[x])=_
  rw [A3o L (i + 1),List.append_assoc]
  rfl
def Bk (h n:Int):Int:=2 + h * Al n
def Bit (s:Ez) (life:Int):Rt:=(s.2.2.2.1.1 + 1,1 - s.2.2.2.1.2.1,s.2.2.2.1.2.2.1 + Al s.2.1,life,())
def Sq (w life first:Int) (b:List Bc) (L:List Aa):List Aa:=L++Xm (Be b) life (first + (L.length:Int)) w
def mvL (s:Ez) (life:Int):List Aa:=Ds (fun _ b L=>Sq s.1 life (s.2.2.2.1.2.2.1 + Al s.2.1) b L) 0 (Ed s.2.2.2.2.2.2.1) [Ca (3,life,s.2.2.2.1.2.2.1 + Al s.2.1,z0,()) s.1]
def A3p (s:Ez) (life:Int):List Dc:=C9 (Bk (1 - s.2.2.2.1.2.1) s.2.1) (mvL s life)++[D6,Lb (Int.tmod (s.2.2.2.1.1 + 1) 2) (B5 (Bit s life) s.1),D6]
def j5 (s:Ez) (life:Int):Ez×List Dc×Bool:=
 bif decide (s.2.2.2.1.1 + 1 > 1000000000) then (Vt,[],false) else bif decide (s.2.2.2.1.2.2.1 + Al s.2.1 > 999999000) then (Vt,[],false) else
 ((s.1,s.2.1,life,Bit s life,nI (mvL s life).length,0,s.2.2.2.2.2.2.1,()),A3p s life,true)
def A3q (s:Ez):Prop:=(0≤s.2.2.2.1.1∧s.2.2.2.1.1≤1000000000)∧(0≤s.2.2.2.1.2.1∧s.2.2.2.1.2.1≤1)∧(0≤s.2.2.2.1.2.2.1∧s.2.2.2.1.2.2.1≤1000000000)∧s.2.2.2.2.2.2.1.1.length≤1000000
instance (s:Ez):Decidable (A3q s):=by unfold A3q; infer_instance
theorem Am8 (b:List Bc) (life f w:Int):(Xm (Be b) life f w).length≤4001:=by
 unfold Xm
 cases hw:Bq w 1 8 with
 | false=>simp
 | true=>
  cases hc:(true&&(Bq life 1 60000&&(decide (1≤f)&&decide (f≤1000000000 - E5 (Be b).size w + 1)))) with
  | false=>simp
  | true=>
   simp only [cond_true]
   rw [Xo,List.length_map,List.length_range']
   have h1:=Adz (Be b) w
   rw [hw,cond_true] at h1
   have h2:=(Av6 (Be b).size w).2
   have h3:=La b
   omega
def MvI (i:Nat) (L:List Aa):Prop:=i≤101∧L.length≤1 + 4001 * i
theorem MvI.step {i:Nat} {L:List Aa} (h:MvI i L) (hi:i < 101) (w life first:Int) (b:List Bc):MvI (i + 1) (Sq w life first b L):=by
 obtain ⟨h1,h2⟩:=h
 refine ⟨by omega,?_⟩
 unfold Sq
 have:=Am8 b life (first + (L.length:Int)) w
 rw [Dn]
 omega
theorem A1o (s:Ez) (life:Int):(mvL s life).length≤500000:=by
 have h:=b9 ([]:List Bc) MvI (fun _ b L=>Sq s.1 life (s.2.2.2.1.2.2.1 + Al s.2.1) b L) (xs:=Ed s.2.2.2.2.2.2.1) (fun i L hi hI=>hI.step (Nat.lt_of_lt_of_le hi (Tl _)) _ _ _ _) (Ed s.2.2.2.2.2.2.1).length 0 [Ca (3,life,s.2.2.2.1.2.2.1 + Al s.2.1,z0,()) s.1] (by omega) ⟨by omega,by simp⟩
 have h2:=Tl s.2.2.2.2.2.2.1
 have h3:=h.2
 have h4:(mvL s life).length≤1 + 4001 * (Ed s.2.2.2.2.2.2.1).length:=h3
 omega
def Ub (s:Ez):Pl:=bif (j5 s s.2.2.1).2.2 then (0,(j5 s s.2.2.1).1,(j5 s s.2.2.1).2.1,()) else Aap 4
theorem Am9 {H n:Int} (hH:0≤H∧H≤1):0≤H * Al n∧H * Al n≤99:=by
 have hh:=Pm n
 have:H=0∨H=1:=by omega
 rcases this with rfl | rfl<;>omega
theorem A9b {s:Ez} (h:As s=true):A3q s:=by
 obtain ⟨_,_,h3,_,h5,h6,_⟩:=Xf h
 obtain ⟨r1,r2⟩:=B2 h6
 have r1:=Cw r1
 have r2:=Cw r2
 have:=Cb h3
 exact ⟨h5,r1,⟨by omega,by omega⟩,by omega⟩
def F1 (s:Ez):Pl:=bif As s then Ub s else Aap 1
theorem Aqj:∀ (L:List Aa) (a:Int),(∀ x∈L,x.size≤64)→∀ o∈C9 a L,o.2.2.1.size≤64
 | [],_,_,o,ho=>by cases ho
 | x::L,a,h,o,ho=>by
  rcases List.mem_cons.1 ho with rfl | q
  ·exact h x List.mem_cons_self
  ·exact Aqj L (a + 1) (fun y hy=>h y (List.mem_cons_of_mem _ hy)) o q
theorem Bpc {o:Dc} (h:o.2.2.1.size≤1073741824):Kl tOp o=true:=by
 show (true&&(true&&(decide (o.2.2.1.size≤1073741824)&&true)))=true
 rw [Af h]
 rfl
theorem A3r {L:List Dc} (h1:L.length≤1073741824) (h2:∀ o∈L,o.2.2.1.size≤64):Kl (.sl tOp) L=true:=by
 show (decide (L.length≤1073741824)&&List.all L (Kl tOp))=true
 rw [Af h1,Bool.true_and]
 exact List.all_eq_true.2 fun o ho=>Bpc (Nat.le_trans (h2 o ho) (by decide))
theorem Bgu (r:Rt) (w:Int):(B5 r w).size≤64:=by
 unfold B5
 cases I6 r with
 | false=>exact Nat.zero_le _
 | true=>exact Age _ _
theorem A9c {e:Aa} {life f w:Int} {x:Aa} (h:x∈Xm e life f w):x.size≤64:=by
 unfold Xm at h
 cases hc:Bq w 1 8&&(Bq life 1 60000&&(decide (1≤f)&&decide (f≤1000000000 - E5 e.size w + 1))) with
 | false=>rw [hc] at h; simp at h
 | true=>rw [hc] at h; exact (Qf _ _ _ _).2 x h
theorem Bm6 (s:Ez) (life:Int):∀ x∈mvL s life,x.size≤64:=by
 have h:=b9 ([]:List Bc) (fun _ (L:List Aa)=>∀ x∈L,x.size≤64) (fun _ b L=>Sq s.1 life (s.2.2.2.1.2.2.1 + Al s.2.1) b L) (xs:=Ed s.2.2.2.2.2.2.1) (fun i L _ hI x hx=>by
  unfold Sq at hx
  rcases List.mem_append.1 hx with q | q
  ·exact hI x q
  ·exact A9c q) (Ed s.2.2.2.2.2.2.1).length 0 [Ca (3,life,s.2.2.2.1.2.2.1 + Al s.2.1,z0,()) s.1] (by omega) (fun x hx=>by rw [List.mem_singleton.1 hx]; exact Age _ _)
 exact h
theorem Bgv (s:Ez) (life:Int):Kl (.sl tOp) (A3p s life)=true:=by
 have hl:=A1o s life
 have h1:(A3p s life).length=(mvL s life).length + 3:=by unfold A3p; rw [Dn,Q7]; rfl
 refine A3r (by omega) fun o ho=>?_
 unfold A3p at ho
 rcases List.mem_append.1 ho with q | q
 ·exact Aqj _ _ (Bm6 s life) o q
 ·simp only [List.mem_cons,List.not_mem_nil,or_false] at q
  rcases q with rfl | rfl | rfl
  ·exact Nat.zero_le _
  ·exact Bgu _ _
  ·exact Nat.zero_le _
theorem A3s {s:Ez} (h:Kl tSt s.2.2.2.2.2.2.1=true):Kl Bd2 (Ub s)=true:=by
 unfold Ub j5
 cases decide (s.2.2.2.1.1 + 1 > 1000000000) with
 | true=>rfl
 | false=>
  cases decide (s.2.2.2.1.2.2.1 + Al s.2.1 > 999999000) with
  | true=>rfl
  | false=>exact Am6 h (Bgv s s.2.2.1)
theorem Ba2 (s:Ez):Kl Bd2 (F1 s)=true:=by
 unfold F1
 cases hv:As s with
 | false=>rfl
 | true=>exact A3s (j4 (Xf hv).2.2.1)
def inL (ws:List Aa) (x:Aa):Bool:=ws.any fun y=>Ag7 y x
def Ana (w:Bo):Aa:=bif B7 w then Qc (fun x=>(Ay x w.1).2&&!inL w.2.2.2.2.2.1 x) (fun x=>x) z0 w.2.1.1 else z0
theorem Asz {w:Bo} (h:B7 w=true):Ap w.2.1=true∧w.2.2.2.2.2.1.length≤2000∧(1≤w.2.2.2.2.1.length∧w.2.2.2.2.1.length≤200):=by
 unfold B7 at h
 obtain ⟨_,h⟩:=B2 h
 obtain ⟨h1,h⟩:=B2 h
 obtain ⟨h2,h⟩:=B2 h
 obtain ⟨h3,h⟩:=B2 h
 have h2:=Cw h2
 exact ⟨h1,G8 h3,by omega⟩
theorem If.valid {d:Dk} (h:If d):Ap d=true:=by
 unfold Ap Bq
 have h8:=h.n8
 have h2:=h.n200
 rw [Af (show (8:Int)≤(d.1.length:Int) by omega),Af (show (d.1.length:Int)≤200 by omega),Af h.p300]
 simp only [Bool.true_and,Bool.and_eq_true,List.all_eq_true,decide_eq_true_eq,List.mem_range']
 refine ⟨fun i hi=>h.sec i (by omega),fun i hi=>?_⟩
 obtain ⟨k1,k2,k3⟩:=h.pen i (by omega)
 unfold Aiy
 rw [Af k1,Af k2,Af k3]
 rfl
theorem A3t:∀ x:List UInt8,Op.bytesLess x x=false
 | []=>rfl
 | a::x=>by simp [Op.bytesLess,A3t x]
theorem A9d:∀ {x y z:List UInt8},Op.bytesLess x y=true→Op.bytesLess y z=true→Op.bytesLess x z=true
 | [],[],_,h,_=>by simp [Op.bytesLess] at h
 | [],_::_,[],_,k=>by simp [Op.bytesLess] at k
 | [],_::_,_::_,_,_=>rfl
 | _::_,[],_,h,_=>by simp [Op.bytesLess] at h
 | _::_,_::_,[],_,k=>by simp [Op.bytesLess] at k
 | a::x,b::y,c::z,h,k=>by
  simp only [Op.bytesLess,Bool.or_eq_true,decide_eq_true_eq,Bool.and_eq_true,beq_iff_eq] at h k ⊢
  rcases h with h | ⟨rfl,h⟩
  ·rcases k with k | ⟨rfl,k⟩
   ·exact .inl (UInt8.lt_trans h k)
   ·exact .inl h
  ·rcases k with k | ⟨rfl,k⟩
   ·exact .inl k
   ·exact .inr ⟨rfl,A9d h k⟩
theorem Biu:∀ {x y:List UInt8},Op.bytesLess x y=false→Op.bytesLess y x=false→x=y
 | [],[],_,_=>rfl
 | [],_::_,h,_=>by simp [Op.bytesLess] at h
 | _::_,[],_,k=>by simp [Op.bytesLess] at k
 | a::x,b::y,h,k=>by
  simp only [Op.bytesLess,Bool.or_eq_false_iff,decide_eq_false_iff_not,Bool.and_eq_false_iff] at h k
  have hab:a=b:=by
   apply UInt8.le_antisymm
   ·exact UInt8.not_lt.1 k.1
   ·exact UInt8.not_lt.1 h.1
  subst hab
  have h2:Op.bytesLess x y=false:=by rcases h.2 with q | q<;>simp_all
  have k2:Op.bytesLess y x=false:=by rcases k.2 with q | q<;>simp_all
  rw [Biu h2 k2]
theorem Ad1 (a:Aa):bl a a=false:=A3t _
theorem Ad2 {a b c:Aa} (h:bl a b=true) (k:bl b c=true):bl a c=true:=A9d h k
theorem Ba3 {a b:Aa} (h:bl a b=false) (k:bl b a=false):a=b:=H5.1 (beq_iff_eq.2 (Biu h k))
theorem Bm7 {a b:Aa} (h:bl a b=true):a≠b:=fun q=>by rw [q,Ad1] at h; cases h
def Srt (l:List A2):Prop:=l.Pairwise fun a b=>bl a.1 b.1=true
theorem A1p:∀ {l m:List A2},Srt l→Srt m→(∀ x,x∈l↔x∈m)→l=m
 | [],[],_,_,_=>rfl
 | [],b::m,_,_,h=>by have:=(h b).2 List.mem_cons_self; cases this
 | a::l,[],_,_,h=>by have:=(h a).1 List.mem_cons_self; cases this
 | a::l,b::m,hl,hm,h=>by
  obtain ⟨l1,l2⟩:=List.pairwise_cons.1 hl
  obtain ⟨m1,m2⟩:=List.pairwise_cons.1 hm
  have hab:a=b:=by
   rcases List.mem_cons.1 ((h a).1 List.mem_cons_self) with q | q
   ·exact q
   ·rcases List.mem_cons.1 ((h b).2 List.mem_cons_self) with q2 | q2
    ·exact q2.symm
    ·have:=Ad2 (m1 a q) (l1 b q2)
     rw [Ad1] at this
     cases this
  subst hab
  rw [A1p l2 m2 fun x=>⟨fun q=>?_,fun q=>?_⟩]
  ·rcases List.mem_cons.1 ((h x).1 (List.mem_cons_of_mem _ q)) with rfl | q2
   ·have:=l1 x q; rw [Ad1] at this; cases this
   ·exact q2
  ·rcases List.mem_cons.1 ((h x).2 (List.mem_cons_of_mem _ q)) with rfl | q2
   ·have:=m1 x q; rw [Ad1] at this; cases this
   ·exact q2
theorem A3v (p x:A2):∀ l:List A2,x∈Azh p l↔x=p∨x∈l
 | []=>by simp [Azh]
 | q::r=>by
  simp only [Azh]
  cases ltK q p with
  | true=>simp only [cond_true,List.mem_cons,A3v p x r]; constructor<;>(rintro (h | h | h)<;>simp [h])
  | false=>simp only [cond_false,List.mem_cons]
theorem Anb (x:A2):∀ l:List A2,x∈T4 l↔x∈l
 | []=>Iff.rfl
 | p::r=>by
  show x∈Azh p (T4 r)↔_
  rw [A3v,Anb x r,List.mem_cons]
theorem Bd3 {p:A2}:∀ {l:List A2},Srt l→(∀ q∈l,q.1≠p.1)→Srt (Azh p l)
 | [],_,_=>List.pairwise_singleton _ _
 | q::r,hl,hp=>by
  obtain ⟨l1,l2⟩:=List.pairwise_cons.1 hl
  simp only [Azh]
  cases hq:ltK q p with
  | true=>
   refine List.pairwise_cons.2 ⟨fun x hx=>?_,Bd3 l2 fun y hy=>hp y (List.mem_cons_of_mem _ hy)⟩
   rcases (A3v p x r).1 hx with rfl | h
   ·exact hq
   ·exact l1 x h
  | false=>
   have hpq:bl p.1 q.1=true:=by
    cases h:bl p.1 q.1 with
    | true=>rfl
    | false=>exact absurd (Ba3 hq h) (hp q List.mem_cons_self)
   refine List.pairwise_cons.2 ⟨fun x hx=>?_,hl⟩
   rcases List.mem_cons.1 hx with rfl | h
   ·exact hpq
   ·exact Ad2 hpq (l1 x h)
theorem Ms {p:A2} {r:List A2}:Gj (p::r)=true↔(∀ q∈r,q.1≠p.1)∧Gj r=true:=by
 simp only [Gj,Bool.and_eq_true,Bool.not_eq_true',List.any_eq_false]
 constructor
 ·rintro ⟨h1,h2⟩
  exact ⟨fun q hq e=>h1 q hq (by rw [e]; simp),h2⟩
 ·rintro ⟨h1,h2⟩
  exact ⟨fun q hq e=>h1 q hq (H5.1 e),h2⟩
theorem Av7:∀ {l:List A2},Gj l=true→Srt (T4 l)
 | [],_=>List.Pairwise.nil
 | p::r,h=>by
  obtain ⟨h1,h2⟩:=Ms.1 h
  exact Bd3 (Av7 h2) fun q hq=>h1 q ((Anb q r).1 hq)
abbrev Mp:=List (Aa×Aa)
def prs (m:Mp):List A2:=m.map fun p=>(p.1,p.2,())
theorem Aj0 {k v:Aa} (x:A2):∀ {m:Mp},Gj (prs m)=true→(x∈prs (f5 k v m)↔(x∈prs m∧x.1≠k)∨x=(k,v,()))
 | [],_=>by simp [f5,prs]
 | p::r,h=>by
  obtain ⟨h1,h2⟩:=Ms.1 (show Gj ((p.1,p.2,())::prs r)=true from h)
  simp only [f5]
  cases hk:Ag7 p.1 k with
  | true=>
   have hk:=H5.1 hk
   simp only [cond_true]
   show x∈(k,v,())::prs r↔(x∈(p.1,p.2,())::prs r∧_)∨_
   rw [List.mem_cons,List.mem_cons]
   constructor
   ·rintro (rfl | q)
    ·exact .inr rfl
    ·exact .inl ⟨.inr q,fun e=>h1 x q (by rw [e,hk])⟩
   ·rintro (⟨q | q,e⟩ | q)
    ·subst q
     exact absurd hk e
    ·exact .inr q
    ·exact .inl q
  | false=>
   have hk:p.1≠k:=fun q=>by rw [H5.2 q] at hk; cases hk
   simp only [cond_false]
   show x∈(p.1,p.2,())::prs (f5 k v r)↔(x∈(p.1,p.2,())::prs r∧_)∨_
   rw [List.mem_cons,List.mem_cons,Aj0 x h2]
   constructor
   ·rintro (rfl | ⟨q,e⟩ | q)
    ·exact .inl ⟨.inl rfl,hk⟩
    ·exact .inl ⟨.inr q,e⟩
    ·exact .inr q
   ·rintro (⟨q | q,e⟩ | q)
    ·exact .inl q
    ·exact .inr (.inl ⟨q,e⟩)
    ·exact .inr (.inr q)
theorem Aqk {k v:Aa}:∀ {m:Mp},Gj (prs m)=true→Gj (prs (f5 k v m))=true
 | [],_=>rfl
 | p::r,h=>by
  obtain ⟨h1,h2⟩:=Ms.1 (show Gj ((p.1,p.2,())::prs r)=true from h)
  simp only [f5]
  cases hk:Ag7 p.1 k with
  | true=>
   have hk:=H5.1 hk
   simp only [cond_true]
   exact Ms.2 ⟨fun q hq=>by rw [← hk]; exact h1 q hq,h2⟩
  | false=>
   have hk:p.1≠k:=fun q=>by rw [H5.2 q] at hk; cases hk
   simp only [cond_false]
   refine Ms.2 ⟨fun q hq=>?_,Aqk h2⟩
   rcases (Aj0 q h2).1 hq with ⟨a,_⟩ | rfl
   ·exact h1 q a
   ·exact fun e=>hk e.symm
theorem A3w {k:Aa} (x:A2):∀ {m:Mp},Gj (prs m)=true→(x∈prs (Aje k m)↔x∈prs m∧x.1≠k)
 | [],_=>by simp [Aje,prs]
 | p::r,h=>by
  obtain ⟨h1,h2⟩:=Ms.1 (show Gj ((p.1,p.2,())::prs r)=true from h)
  simp only [Aje]
  cases hk:Ag7 p.1 k with
  | true=>
   have hk:=H5.1 hk
   simp only [cond_true]
   show x∈prs r↔x∈(p.1,p.2,())::prs r∧_
   rw [List.mem_cons]
   constructor
   ·intro q
    exact ⟨.inr q,fun e=>h1 x q (by rw [e,hk])⟩
   ·rintro ⟨q | q,e⟩
    ·subst q
     exact absurd hk e
    ·exact q
  | false=>
   have hk:p.1≠k:=fun q=>by rw [H5.2 q] at hk; cases hk
   simp only [cond_false]
   show x∈(p.1,p.2,())::prs (Aje k r)↔x∈(p.1,p.2,())::prs r∧_
   rw [List.mem_cons,List.mem_cons,A3w x h2]
   constructor
   ·rintro (rfl | ⟨q,e⟩)
    ·exact ⟨.inl rfl,hk⟩
    ·exact ⟨.inr q,e⟩
   ·rintro ⟨q | q,e⟩
    ·exact .inl q
    ·exact .inr ⟨q,e⟩
theorem A3x {k:Aa}:∀ {m:Mp},Gj (prs m)=true→Gj (prs (Aje k m))=true
 | [],_=>rfl
 | p::r,h=>by
  obtain ⟨h1,h2⟩:=Ms.1 (show Gj ((p.1,p.2,())::prs r)=true from h)
  simp only [Aje]
  cases hk:Ag7 p.1 k with
  | true=>exact h2
  | false=>
   simp only [cond_false]
   exact Ms.2 ⟨fun q hq=>h1 q ((A3w q h2).1 hq).1,A3x h2⟩
def gtS (a k:Aa):Bool:=!(bl a k || a.toList==k.toList)
def Tn (k v:Aa):Bool→List A2→List A2
 | d,[]=>bif d then [] else [(k,v,())]
 | d,p::r=>bif !d&&gtS p.1 k then (k,v,())::p::Tn k v true r else bif p.1.toList==k.toList then Tn k v d r else p::Tn k v d r
def Ann (c:Bc) (l:List A2):List A2:=Tn c.1 c.2.1 c.2.2.1 l
theorem Bqu {a k:Aa} (h:gtS a k=true):bl k a=true:=by
 unfold gtS at h
 rw [Bool.not_eq_true',Bool.or_eq_false_iff] at h
 cases q:bl k a with
 | true=>rfl
 | false=>exact absurd (Ba3 h.1 q) (fun e=>by rw [e] at h; simp at h)
theorem Z6 {k v:Aa} (x:A2):∀ (l:List A2) (d:Bool),x∈Tn k v d l↔(x∈l∧x.1≠k)∨(d=false∧x=(k,v,()))
 | [],d=>by cases d<;>simp [Tn]
 | p::r,d=>by
  simp only [Tn]
  cases hg:!d&&gtS p.1 k with
  | true=>
   obtain ⟨hd,hg⟩:=B2 hg
   have hd:d=false:=by cases d<;>simp_all
   have hp:p.1≠k:=fun e=>Bm7 (Bqu hg) e.symm
   subst hd
   simp only [cond_true,List.mem_cons,Z6 x r true]
   constructor
   ·rintro (q | q | q | q)
    ·exact .inr ⟨by simp,q⟩
    ·exact .inl ⟨.inl q,by rw [q]; exact hp⟩
    ·exact .inl ⟨.inr q.1,q.2⟩
    ·cases q.1
   ·rintro (⟨q | q,e⟩ | q)
    ·exact .inr (.inl q)
    ·exact .inr (.inr (.inl ⟨q,e⟩))
    ·exact .inl q.2
  | false=>
   simp only [cond_false]
   cases he:p.1.toList==k.toList with
   | true=>
    have he:p.1=k:=H5.1 he
    simp only [cond_true,List.mem_cons,Z6 x r d]
    constructor
    ·rintro (q | q)
     ·exact .inl ⟨.inr q.1,q.2⟩
     ·exact .inr q
    ·rintro (⟨q | q,e⟩ | q)
     ·exact absurd (by rw [q]; exact he) e
     ·exact .inl ⟨q,e⟩
     ·exact .inr q
   | false=>
    have he:p.1≠k:=fun q=>by rw [show (p.1.toList==k.toList)=true from H5.2 q] at he; cases he
    simp only [cond_false,List.mem_cons,Z6 x r d]
    constructor
    ·rintro (q | q | q)
     ·exact .inl ⟨.inl q,by rw [q]; exact he⟩
     ·exact .inl ⟨.inr q.1,q.2⟩
     ·exact .inr q
    ·rintro (⟨q | q,e⟩ | q)
     ·exact .inl q
     ·exact .inr (.inl ⟨q,e⟩)
     ·exact .inr (.inr q)
theorem Agf {k v:Aa}:∀ (l:List A2) (d:Bool),Srt l→Srt (Tn k v d l)
 | [],d,_=>by cases d<;>simp [Tn,Srt]
 | p::r,d,h=>by
  obtain ⟨h1,h2⟩:=List.pairwise_cons.1 h
  simp only [Tn]
  cases hg:!d&&gtS p.1 k with
  | true=>
   obtain ⟨hd,hg⟩:=B2 hg
   have hkp:=Bqu hg
   simp only [cond_true]
   have hall:∀ x∈Tn k v true r,x∈r:=fun x hx=>by
    rcases (Z6 x r true).1 hx with q | q
    ·exact q.1
    ·cases q.1
   refine List.pairwise_cons.2 ⟨fun x hx=>?_,List.pairwise_cons.2 ⟨fun x hx=>h1 x (hall x hx),Agf r true h2⟩⟩
   rcases List.mem_cons.1 hx with rfl | q
   ·exact hkp
   ·exact Ad2 hkp (h1 x (hall x q))
  | false=>
   simp only [cond_false]
   cases he:p.1.toList==k.toList with
   | true=>exact Agf r d h2
   | false=>
    simp only [cond_false]
    refine List.pairwise_cons.2 ⟨fun x hx=>?_,Agf r d h2⟩
    rcases (Z6 x r d).1 hx with q | ⟨hd,rfl⟩
    ·exact h1 x q.1
    ·subst hd
     have hn:gtS p.1 k=false:=by simpa using hg
     unfold gtS at hn
     rw [he,Bool.or_false,Bool.not_eq_false'] at hn
     exact hn
def Ayk (c:Bc) (m:Mp):Mp:=bif c.2.2.1 then Aje c.1 m else f5 c.1 c.2.1 m
def Ano (m:Mp) (l:List A2):Prop:=Gj (prs m)=true∧Srt l∧∀ x,x∈prs m↔x∈l
theorem Ano.step {m:Mp} {l:List A2} (h:Ano m l) (c:Bc):Ano (Ayk c m) (Ann c l):=by
 obtain ⟨h1,h2,h3⟩:=h
 unfold Ayk Ann
 cases hc:c.2.2.1 with
 | true=>
  refine ⟨A3x h1,Agf _ _ h2,fun x=>?_⟩
  simp only [cond_true]
  rw [A3w x h1,Z6,h3]
  simp
 | false=>
  refine ⟨Aqk h1,Agf _ _ h2,fun x=>?_⟩
  simp only [cond_false]
  rw [Aj0 x h1,Z6,h3]
  simp
theorem Ano.sort {m:Mp} {l ys:List A2} (h:Ano m l) (hn:Gj ys=true) (hy:∀ x,x∈ys↔x∈prs m):T4 ys=l:=
 A1p (Av7 hn) h.2.1 fun x=>by rw [Anb,hy,h.2.2]
theorem Ano.len {m:Mp} {l:List A2} (h:Ano m l):m.length=l.length:=by
 have:=congrArg List.length (h.sort h.1 fun _=>Iff.rfl)
 rw [Ads] at this
 simpa [prs] using this
def Pz (l:List A2) (b:List Bc):List A2:=Ds (fun _ c l=>Ann c l) 0 b l
def Bx (s:Cv) (b:List Bc):Cv×Int:=
 bif !Ak s then (Ye,1) else bif !Az b then (Ye,1) else bif decide ((Pz s.1 b).length > 100) then (Ye,2) else ((Pz s.1 b,()),0)
theorem Ano.fold:∀ {b:List Bc} {i:Nat} {m:Mp} {l:List A2},Ano m l→Ano (Ds (fun _ c m=>Ayk c m) i b m) (Ds (fun _ c l=>Ann c l) i b l)
 | [],_,_,_,h=>h
 | c::b,i,m,l,h=>Ano.fold (b:=b) (i:=i + 1) (h.step c)
def A3y (l:List A2):Mp:=Ds (fun _ p m=>f5 p.1 p.2.1 m) 0 l []
theorem Biv:∀ {l:List A2} {i:Nat} {m:Mp},Gj (prs m)=true→Srt l→(∀ p∈l,∀ x∈prs m,x.1≠p.1)→
  Gj (prs (Ds (fun _ p m=>f5 p.1 p.2.1 m) i l m))=true∧∀ x,x∈prs (Ds (fun _ p m=>f5 p.1 p.2.1 m) i l m)↔x∈prs m∨x∈l
 | [],_,m,h,_,_=>⟨h,fun x=>by simp [Ds]⟩
 | p::r,i,m,h,hs,hk=>by
  obtain ⟨s1,s2⟩:=List.pairwise_cons.1 hs
  obtain ⟨k1,k2⟩:=Biv (l:=r) (i:=i + 1) (m:=f5 p.1 p.2.1 m) (Aqk h) s2 (fun q hq x hx=>by
   rcases (Aj0 x h).1 hx with ⟨a,_⟩ | rfl
   ·exact hk q (List.mem_cons_of_mem _ hq) x a
   ·exact Bm7 (s1 q hq))
  refine ⟨k1,fun x=>(k2 x).trans ?_⟩
  rw [Aj0 x h,List.mem_cons]
  constructor
  ·rintro ((⟨a,_⟩ | a) | a)
   ·exact .inl a
   ·exact .inr (.inl a)
   ·exact .inr (.inr a)
  ·rintro (a | a | a)
   ·exact .inl (.inl ⟨a,hk p List.mem_cons_self x a⟩)
   ·exact .inl (.inr a)
   ·exact .inr a
theorem Ano.init {l:List A2} (h:Srt l):Ano (A3y l) l:=by
 obtain ⟨h1,h2⟩:=Biv (l:=l) (i:=0) (m:=[]) rfl h (fun _ _ x hx=>by cases hx)
 exact ⟨h1,h,fun x=>(h2 x).trans (by simp [prs])⟩
theorem Bm8:∀ {l:List A2},(∀ i,i + 1 < l.length→bl (l.getD i zP).1 (l.getD (i + 1) zP).1=true)→Srt l
 | [],_=>List.Pairwise.nil
 | [p],_=>List.pairwise_singleton _ _
 | p::q::r,h=>by
  have hr:Srt (q::r):=Bm8 fun i hi=>h (i + 1) (by simp only [List.length_cons] at hi ⊢; omega)
  have h0:bl p.1 q.1=true:=h 0 (by simp)
  refine List.pairwise_cons.2 ⟨fun x hx=>?_,hr⟩
  rcases List.mem_cons.1 hx with rfl | hx
  ·exact h0
  ·exact Ad2 h0 ((List.pairwise_cons.1 hr).1 x hx)
theorem Anc {s:Cv} (h:Ak s=true):Srt s.1:=Bm8 fun i hi=>by
 have:=Wb (B2 h).2 (i + 1) hi
 unfold Pa at this
 obtain ⟨_,this⟩:=B2 this
 obtain ⟨_,this⟩:=B2 this
 simpa using this
theorem A3z {α:Type}:∀ {l:List α} {i:Nat} {e:α},l[i]? = some e→(e::l.eraseIdx i).Perm l
 | [],i,e,h=>by simp at h
 | a::l,0,e,h=>by simp at h; subst h; exact List.Perm.refl _
 | a::l,i + 1,e,h=>by
  simp only [List.getElem?_cons_succ] at h
  simp only [List.eraseIdx_cons_succ]
  exact (List.Perm.swap a e _).trans ((A3z h).cons a)
theorem Agg:∀ {l:List A2},Gj l=true↔(l.map (·.1)).Nodup
 | []=>by simp [Gj]
 | p::r=>by
  rw [Ms,List.map_cons,List.nodup_cons,Agg (l:=r)]
  constructor
  ·rintro ⟨h1,h2⟩
   exact ⟨fun q=>by obtain ⟨x,hx,e⟩:=List.mem_map.1 q; exact h1 x hx e,h2⟩
  ·rintro ⟨h1,h2⟩
   exact ⟨fun q hq e=>h1 (List.mem_map.2 ⟨q,hq,e⟩),h2⟩
theorem Aj1 {l m:List A2} (h:l.Perm m) (hn:Gj l=true):Gj m=true:=Agg.2 (((h.map (·.1)).nodup_iff).1 (Agg.1 hn))
theorem Bm9 {R:Type} (M:Mp) (l0:List A2) (hM:Ano M l0) (hlen:M.length≤100) {D:Type} (mk:Mp→Option (Aa×Aa)→List A2→D) {left:D→Mp} {stp:D→Aa×Aa→Mp→Option D} {fin:D→Option R} {res:R}
  (hl:∀ l c r,left (mk l c r)=l) (hs:∀ l c r e l',r.length < 1000→stp (mk l c r) e l'=some (mk l' (some e) (r++[(e.1,e.2,())])))
  (hf:∀ c r,Gj r=true→r.length≤1000→T4 r=l0→fin (mk [] c r)=some res):
  ∀ (n:Nat) (l:Mp) (c:Option (Aa×Aa)) (r:List A2),l.length=n→(r++prs l).Perm (prs M)→Azj left stp fin (n + 1) (mk l c r) res
 | 0,l,c,r,hn,hp=>by
  have:l=[]:=List.length_eq_zero_iff.1 hn
  subst this
  have hp':r.Perm (prs M):=by simpa [prs] using hp
  have hl2:=hp'.length_eq
  refine ⟨fun _=>hf c r (Aj1 hp'.symm hM.1) ?_ (hM.sort (Aj1 hp'.symm hM.1) fun x=>hp'.mem_iff),fun i e he=>?_⟩
  ·rw [hl2]; simp only [prs,List.length_map]; omega
  ·rw [hl] at he; simp at he
 | n + 1,l,c,r,hn,hp=>by
  refine ⟨fun q=>?_,fun i e he=>?_⟩
  ·rw [hl] at q; rw [q] at hn; cases hn
  ·rw [hl] at he
   have hq:=A3z he
   have hr:r.length < 1000:=by
    have:=hp.length_eq
    simp only [prs,Dn,List.length_map] at this
    omega
   refine ⟨mk (l.eraseIdx i) (some e) (r++[(e.1,e.2,())]),by rw [hs l c r e _ hr,hl],?_⟩
   refine Bm9 M l0 hM hlen mk hl hs hf n (l.eraseIdx i) (some e) (r++[(e.1,e.2,())]) ?_ ?_
   ·have:=hq.length_eq
    simp only [List.length_cons] at this
    omega
   ·refine List.Perm.trans ?_ hp
    rw [List.append_assoc]
    exact List.Perm.append_left r (hq.map fun p:Aa×Aa=>((p.1,p.2,()):A2))
def j6 (k v:Aa) (p:A2) (s:Bool×List A2):Bool×List A2:=
 bif !s.1&&gtS p.1 k then (true,bif !(p.1.toList==k.toList) then s.2++[(k,v,())]++[(p.1,p.2.1,())] else s.2++[(k,v,())])
 else (s.1,bif !(p.1.toList==k.toList) then s.2++[(p.1,p.2.1,())] else s.2)
def Bd4 (k v:Aa) (s:Bool×List A2):List A2:=bif s.1 then s.2 else s.2++[(k,v,())]
theorem Biw (k v:Aa):∀ (l:List A2) (i:Nat) (s:Bool×List A2),Bd4 k v (Ds (fun _ p s=>j6 k v p s) i l s)=s.2++Tn k v s.1 l
 | [],i,s=>by
  show Bd4 k v s=_
  unfold Bd4 Tn
  cases s.1<;>simp
 | p::r,i,s=>by
  show Bd4 k v (Ds (fun _ p s=>j6 k v p s) (i + 1) r (j6 k v p s))=_
  rw [Biw k v r (i + 1)]
  unfold j6
  simp only [Tn]
  cases hg:!s.1&&gtS p.1 k with
  | true=>
   obtain ⟨_,h2⟩:=B2 hg
   have he:(p.1.toList==k.toList)=false:=by
    unfold gtS at h2
    rw [Bool.not_eq_true',Bool.or_eq_false_iff] at h2
    exact h2.2
   rw [he]
   simp only [cond_true,Bool.not_false]
   rw [List.append_assoc,List.append_assoc]
   rfl
  | false=>
   simp only [cond_false]
   cases he:p.1.toList==k.toList with
   | true=>rfl
   | false=>
    simp only [cond_true,cond_false,Bool.not_false]
    rw [List.append_assoc]
    rfl
theorem A30 (k v:Aa) (p:A2) (s:Bool×List A2):(j6 k v p s).2.length≤s.2.length + 2:=by
 unfold j6
 cases !s.1&&gtS p.1 k<;>cases !(p.1.toList==k.toList)<;>simp
theorem Bpd (c:Bc) (l:List A2):(Ann c l).length≤l.length + 1:=by
 unfold Ann
 generalize c.2.2.1=d
 induction l generalizing d with
 | nil=>cases d<;>simp [Tn]
 | cons p r ih=>
  simp only [Tn]
  have ht:∀ r:List A2,(Tn c.1 c.2.1 true r).length≤r.length:=fun r=>by
   induction r with
   | nil=>simp [Tn]
   | cons q r ih2=>
    simp only [Tn,Bool.not_true,Bool.false_and,cond_false]
    cases q.1.toList==c.1.toList with
    | true=>simp only [cond_true,List.length_cons]; omega
    | false=>simp only [cond_false,List.length_cons]; omega
  cases !d&&gtS p.1 c.1 with
  | true=>simp only [cond_true,List.length_cons]; have:=ht r; omega
  | false=>
   simp only [cond_false]
   cases p.1.toList==c.1.toList with
   | true=>simp only [cond_true,List.length_cons]; have:=ih d; omega
   | false=>simp only [cond_false,List.length_cons]; have:=ih d; omega
theorem Ayl {q:A2→Prop}:∀ {b:List Bc} {i:Nat} {l:List A2},(∀ x∈l,q x)→(∀ c∈b,q (c.1,c.2.1,()))→∀ x∈Ds (fun _ c l=>Ann c l) i b l,q x
 | [],_,_,h,_=>h
 | c::b,i,l,h,hb=>Ayl (b:=b) (i:=i + 1) (fun x hx=>by
  rcases (Z6 x l c.2.2.1).1 hx with q1 | q1
  ·exact h x q1.1
  ·rw [q1.2]; exact hb c List.mem_cons_self) (fun c' hc'=>hb c' (List.mem_cons_of_mem _ hc'))
def Bpe (x:A2):Prop:=Tk x.1=true∧x.2.1.size≤100
theorem Bd5 {l:List A2} (hl:l.length≤100) (hm:∀ x∈l,Bpe x) (hs:Srt l):Ak (l,())=true:=by
 unfold Ak
 rw [Af (show (l,()).1.length≤100 from hl),Bool.true_and]
 refine List.all_eq_true.2 fun i hi=>?_
 have hi:i < l.length:=by simpa [List.mem_range'] using hi
 have hx:l.getD i zP=l[i]:=by simp [hi]
 obtain ⟨h1,h2⟩:=hm l[i] (List.getElem_mem hi)
 show Pa l i=true
 unfold Pa
 rw [hx,h1,Af h2,Bool.true_and,Bool.true_and]
 cases i with
 | zero=>rfl
 | succ i=>
  have hx2:l.getD i zP=l[i]:=by simp [show i < l.length by omega]
  have:=(List.pairwise_iff_getElem.1 hs) i (i + 1) (by omega) hi (Nat.lt_succ_self i)
  show ((i + 1==0) || bl (l.getD (i + 1 - 1) zP).1 l[i + 1].1)=true
  rw [show i + 1 - 1=i from rfl,hx2,this,Bool.or_true]
theorem Ane {s:Cv} (h:Ak s=true):∀ x∈s.1,Bpe x:=fun x hx=>by
 obtain ⟨i,hi,rfl⟩:=Xn zP hx
 have:=Wb (B2 h).2 i hi
 unfold Pa at this
 obtain ⟨h1,h2⟩:=B2 this
 exact ⟨h1,G8 (B2 h2).1⟩
theorem Bpf {b:List Bc} (h:Az b=true):∀ c∈b,Bpe (c.1,c.2.1,()):=fun c hc=>by
 obtain ⟨i,hi,rfl⟩:=Xn zC hc
 have:=(Xe h).2 i hi
 unfold Ro at this
 obtain ⟨h1,h2⟩:=B2 this
 exact ⟨h1,G8 (B2 h2).1⟩
theorem Bd6:∀ {b:List Bc} {i:Nat} {l:List A2},Srt l→Srt (Ds (fun _ c l=>Ann c l) i b l)
 | [],_,_,h=>h
 | c::b,i,l,h=>Bd6 (b:=b) (i:=i + 1) (Agf _ _ h)
theorem Aa3 (s:Cv) (b:List Bc):Ak (Bx s b).1=true:=by
 unfold Bx
 cases hv:Ak s with
 | false=>rfl
 | true=>
  cases hb:Az b with
  | false=>rfl
  | true=>
   simp only [Bool.not_true,cond_false]
   by_cases q:(Pz s.1 b).length > 100
   ·rw [Af q]; rfl
   ·rw [Bd q]
    exact Bd5 (by omega) (Ayl (Ane hv) (Bpf hb)) (Bd6 (Anc hv))
theorem Bgw (s:Cv) (b:List Bc):Kl tSt (Bx s b).1=true:=j4 (Aa3 s b)
def Em (s:Ez) (b:List Bc):List Aa:=Xm (Be b) s.2.2.1 (s.2.2.2.1.2.2.1 + s.2.2.2.2.1) s.1
def Bs (s:Ez) (b:List Bc):Pl:=
 bif !As s then Aap 1 else bif !Az b then Aap 1 else
 bif (Bx s.2.2.2.2.2.2.1 b).2 != 0 then Aap 2 else
 bif decide (C5 (Bx s.2.2.2.2.2.2.1 b).1 s.1 > Al s.2.1 - 1) then Aap 3 else
 bif decide (nI (Em s b).length > Al s.2.1 - s.2.2.2.2.1) then Aap 4 else
 (0,(s.1,s.2.1,s.2.2.1,s.2.2.2.1,s.2.2.2.2.1 + nI (Em s b).length,s.2.2.2.2.2.1 + nI (Em s b).length,(Bx s.2.2.2.2.2.2.1 b).1,()),C9 (Bk s.2.2.2.1.2.1 s.2.1 + s.2.2.2.2.1) (Em s b),())
theorem Bd7 (s:Ez) (b:List Bc):Kl Bd2 (Bs s b)=true:=by
 unfold Bs
 cases As s with
 | false=>rfl
 | true=>
  cases Az b with
  | false=>rfl
  | true=>
   simp only [Bool.not_true,cond_false]
   cases (Bx s.2.2.2.2.2.2.1 b).2 != 0 with
   | true=>rfl
   | false=>
    simp only [cond_false]
    cases decide (C5 (Bx s.2.2.2.2.2.2.1 b).1 s.1 > Al s.2.1 - 1) with
    | true=>rfl
    | false=>
     simp only [cond_false]
     cases decide (nI (Em s b).length > Al s.2.1 - s.2.2.2.2.1) with
     | true=>rfl
     | false=>
      refine Am6 (Bgw _ _) (A3r ?_ (Aqj _ _ fun x hx=>A9c hx))
      have:=Am8 b s.2.2.1 (s.2.2.2.1.2.2.1 + s.2.2.2.2.1) s.1
      rw [Q7]
      unfold Em
      omega
theorem A31 {s:Cv} {b:List Bc} (hv:Ak s=true) (hb:Az b=true):(Bx s b).2=0∨(Bx s b).2=2:=by
 unfold Bx
 rw [hv,hb]
 simp only [Bool.not_true,cond_false]
 cases decide ((Pz s.1 b).length > 100) with
 | true=>exact .inr rfl
 | false=>exact .inl rfl
theorem Bpg (s:Cv) (w:Int):0≤C5 s w∧C5 s w≤600000:=by
 unfold C5
 cases hw:Bq w 1 8 with
 | false=>simp
 | true=>
  have h:=b9 ([]:List Bc) Bgr (fun _ b a=>a + E5 (Be b).size w) (xs:=Ed s) (fun i a hi hI=>hI.step (Nat.lt_of_lt_of_le hi (Tl s)) _ _) (Ed s).length 0 0 (by omega) ⟨by omega,by omega,by omega⟩
  rw [List.drop_zero,Am5] at h
  obtain ⟨h1,h2,h3⟩:=h
  have:=Tl s
  simp only [cond_true]
  omega
open Go Go.RowKit Go.Shelf Go.Lib Go.Sort Go.Proofs.YtfkefgbihlfjmaaGreat.R
def Ko (x:A2):List Value:=[.string x.1,.string x.2.1]
theorem Bsj {w:World} {S:Nat→Prop} {x:A2} {l:List Value}:prT.K w S x l↔l=Ko x:=by
 constructor
 ·rintro ⟨c1,c2,rfl,h1,c3,c4,rfl,h2,h3⟩
  have h1:c1=[.string x.1]:=h1
  have h2:c3=[.string x.2.1]:=h2
  have h3:c4=[]:=h3
  subst h1 h2 h3
  rfl
 ·rintro rfl
  exact ⟨[.string x.1],[.string x.2.1],rfl,rfl,[.string x.2.1],[],rfl,rfl,rfl⟩
theorem Bix {w:World} {S:Nat→Prop}:∀ {xs:List A2} {cs:List Value},cs.length=xs.length * 2→(∀ (i:Nat) (x:A2),xs[i]? = some x→prT.K w S x ((cs.drop (i * 2)).take 2))→cs=xs.flatMap Ko
 | [],cs,h,_=>List.length_eq_zero_iff.1 (by simpa using h)
 | x::xs,[],h1,_=>by simp at h1
 | x::xs,[_],h1,_=>by simp at h1; omega
 | x::xs,u::v::cs,h1,h2=>by
  have h0:=Bsj.1 (h2 0 x rfl)
  have h0:[u,v]=Ko x:=by simpa using h0
  have ih:=Bix (w:=w) (S:=S) (xs:=xs) (cs:=cs) (by simp at h1; omega) (fun i y hy=>by
   have:=h2 (i + 1) y hy
   rw [show (i + 1) * 2=i * 2 + 2 by omega] at this
   simpa using this)
  show u::v::cs=Ko x++xs.flatMap Ko
  rw [← h0,← ih]
  rfl
theorem Bna {w:World} {S:Nat→Prop} {xs:List A2} {cs:List Value} (h:K8 w S prT xs cs):cs=xs.flatMap Ko:=Bix (w:=w) (S:=S) h.1 h.2
theorem A1q:∀ xs:List A2,(xs.flatMap Ko).length=xs.length * 2
 | []=>rfl
 | x::xs=>by
  show (Ko x++xs.flatMap Ko).length=_
  rw [Dn,A1q xs,List.length_cons]
  show 2 + xs.length * 2=_
  omega
theorem Bgx:∀ {xs:List A2} {i:Nat} {x:A2},xs[i]? = some x→((xs.flatMap Ko).drop (i * 2)).take 2=Ko x
 | [],i,x,h=>by simp at h
 | y::xs,0,x,h=>by
  simp at h
  subst h
  rfl
 | y::xs,i + 1,x,h=>by
  simp only [List.getElem?_cons_succ] at h
  have ih:=Bgx h
  rw [show (i + 1) * 2=i * 2 + 2 by omega]
  exact ih
theorem Bd8 {w:World} {S:Nat→Prop} {xs:List A2}:K8 w S prT xs (xs.flatMap Ko):=⟨A1q xs,fun i x hx=>by
 have:((xs.flatMap Ko).drop (i * 2)).take 2=Ko x:=Bgx hx
 exact Bsj.2 this⟩
instance:Inhabited A2:=⟨zP⟩
theorem Bph:SWO ltK where
 irrefl x:=Ad1 x.1
 trans x y z h k:=Ad2 (a:=x.1) (b:=y.1) (c:=z.1) h k
 ntrans x y z h k:=by
  cases q:ltK x z with
  | false=>rfl
  | true=>
   have h:bl x.1 y.1=false:=h
   have k:bl y.1 z.1=false:=k
   have q:bl x.1 z.1=true:=q
   cases hy:bl y.1 x.1 with
   | true=>rw [Ad2 hy q] at k; cases k
   | false=>rw [Ba3 h hy] at q; rw [q] at k; cases k
theorem A9e (d:Array A2):(flatK Ko 2 d).toList=d.toList.flatMap Ko:=by
 apply List.ext_getElem?
 intro t
 by_cases ht:t < d.size * 2
 ·have h1:(flatK Ko 2 d)[t]! = (Ko d[t / 2]!)[t % 2]! := get_flatK _ _ _ t ht
  have hi:t / 2 < d.size:=by omega
  have hx:d.toList[t / 2]? = some d[t / 2]! := by simp [hi]
  have h2:=Bgx hx
  have h3:(d.toList.flatMap Ko)[t]? = (Ko d[t / 2]!)[t % 2]? := by
   rw [← h2,List.getElem?_take,if_pos (by omega),List.getElem?_drop,show t / 2 * 2 + t % 2=t by omega]
  rw [h3,Array.getElem?_toList]
  have hs:t < (flatK Ko 2 d).size:=by rw [size_flatK]; exact ht
  rw [getElem!_pos _ t hs] at h1
  rw [Array.getElem?_eq_getElem hs,h1]
  have:t % 2 < (Ko d[t / 2]!).length:=by show t % 2 < 2; omega
  rw [List.getElem?_eq_getElem this,getElem!_pos (Ko d[t / 2]!) (t % 2) this]
 ·have a1:(flatK Ko 2 d).toList[t]? = none:=List.getElem?_eq_none (by rw [Array.length_toList,size_flatK]; omega)
  have a2:(d.toList.flatMap Ko)[t]? = none:=List.getElem?_eq_none (by rw [A1q,Array.length_toList]; omega)
  rw [a1,a2]
theorem Bnb (cur F:Array Value) (h:F.size≤cur.size):(putCells id 0 F cur).toList.take F.size=F.toList:=by
 apply List.ext_getElem?
 intro t
 rw [List.getElem?_take]
 split
 ·rename_i ht
  rw [Array.getElem?_toList,Array.getElem?_toList]
  simp [putCells,ht,show t < cur.size by omega]
 ·rename_i ht
  rw [List.getElem?_eq_none (by rw [Array.length_toList]; omega)]
theorem Bd9 {d':Array A2} (h:SortedIn ltK 0 d'.size d') (hn:Gj d'.toList=true):Srt d'.toList:=by
 refine List.pairwise_iff_getElem.2 fun i j hi hj hij=>?_
 have hi':i < d'.size:=by simpa using hi
 have hj':j < d'.size:=by simpa using hj
 have h1:bl d'[j]!.1 d'[i]!.1=false:=h i j (Nat.zero_le _) hij hj'
 have e1:d'.toList[i]=d'[i]! := by simp [hi']
 have e2:d'.toList[j]=d'[j]! := by simp [hj']
 rw [e1,e2]
 cases q:bl d'[i]!.1 d'[j]!.1 with
 | true=>rfl
 | false=>
  have hk:d'[i]!.1=d'[j]!.1:=Ba3 q h1
  have hnd:=Agg.1 hn
  have:=(List.pairwise_iff_getElem.1 hnd) i j (by simpa using hi') (by simpa using hj') hij
  simp only [List.getElem_map] at this
  rw [e1,e2] at this
  exact absurd hk this
def Bnc (P:Program) (fc:FuncId):Prop:=∀ (blk off c bs size:Nat) (W:World) (G:Nat→Aa),W.cell? ⟨bs,0,none⟩=some (.slice (some ⟨blk,off,none⟩) size c)→
 (∀ t,t < size→W.cell? ⟨blk,off + t * 2,none⟩=some (.string (G t)))→∀ i j:Nat,i < size→j < size→size < 4611686018427387904→
  Calls P fc #[.int .i64 i,.int .i64 j,.pointer (some ⟨bs,0,none⟩)] W fun e w'=>e=.returned (.bool (Op.bytesLess (G i).toList (G j).toList))∧∃ q,w'=W.drewN q
theorem Bnd {d d':Array A2} (h:PermIn 0 d.size d d'):d'.toList.Perm d.toList:=by
 obtain ⟨h1,_,h3⟩:=h
 rw [Array.extract_size] at h3
 rw [← h1,Array.extract_size] at h3
 exact h3
theorem Bgy {P:Program} {ρ:Ren} (L:LaysGg.n6 P ρ) {fc:FuncId} {BT U e:TypeId} {i ie:TypeInfo} (hi:P.info? U=some i) (hd:i.desc=.slice e) (hpk:P.packed U=false) (hie:P.info? e=some ie) (ke:Nat) (hke:∀ w,(Extern.Rtype.kind e).run P w=.ok ke w)
  (hs1:ie.size=2) (hagg:∀ w,(isAgg e).run P w=.ok true w) (eg:∀ args w,(callFunc fc args).run P w=.ok (.enter fc args) w) (f f0 f1:Nat)
  (hf : ∀ n, 2 ≤ n → P.funcs.findIdx? (·.name == "internal/reflectlite" ++ ".Swapper$" ++ toString (swapperK n ie ke)) = some f)
  (hf0 : P.funcs.findIdx? (·.name == "internal/reflectlite" ++ ".Swapper$" ++ toString (swapperK 0 ie ke)) = some f0)
  (hf1 : P.funcs.findIdx? (·.name == "internal/reflectlite" ++ ".Swapper$" ++ toString (swapperK 1 ie ke)) = some f1)
  (gS:Bool) (hx:∀ args W,(callFunc f args).run P W=((Extern.ReflectliteSwapper.swap gS args).run P W).andThen fun v w'=>.ok (.value v) w') (hclo:Bnc P fc):Baj P (ρ.f 6) fc BT U e:=by
 intro w b v xs cs hnd hlen hb hbox ho hrep hne
 have hcs:=Bna hrep
 subst hcs
 have grow_keep:∀ (w1:World) (os:Array Obj) (k:Nat),k < w1.heap.size→(grow w1 os).heap[k]? = w1.heap[k]? := fun w1 os k hk=>by simp [grow,Array.getElem?_append,hk]
 have tiny : ∀ (p : Option Addr) (c f' : Nat), v = .slice p xs.length c → xs.length ≤ 1 → P.funcs.findIdx? (·.name == "internal/reflectlite" ++ ".Swapper$" ++ toString (swapperK xs.length ie ke)) = some f' →
   Calls P (ρ.f 6) #[.iface U v,.func (.func fc) #[] #[.pointer (some ⟨b,0,none⟩)]] w fun en w'=>en=.returned (.tuple #[])∧Eb v.ownBlock.toList w w'∧∃ cs',w'.ownsRow 0 e 2 v xs.length cs'∧∀ S,K8 w' S prT (T4 xs) cs':=by
  intro p c f' hv h1 hf'
  subst hv
  refine (Any.sort_Slice_tiny L U e i ie hi hd hpk hie ke hke p xs.length c h1 f' hf' (.func fc) #[] #[.pointer (some ⟨b,0,none⟩)] w).mono ?_
  rintro en w' ⟨rfl,os,rfl⟩
  refine ⟨rfl,⟨rfl,rfl,rfl,by simp [grow],fun k hk _=>grow_keep w os k hk⟩,xs.flatMap Ko,?_,?_⟩
  ·obtain ⟨h2,h3⟩:=ho
   refine ⟨h2,?_⟩
   rcases h3 with h3 | ⟨g,cap,cur,q1,q2,q3,q4⟩
   ·exact .inl h3
   ·refine .inr ⟨g,cap,cur,q1,q2,?_,q4⟩
    rw [grow_keep w os g (Array.getElem?_eq_some_iff.1 q3).1]
    exact q3
  ·intro S
   have:T4 xs=xs:=by
    match xs,h1 with
    | [],_=>rfl
    | [x],_=>rfl
   rw [this]
   exact Bd8
 by_cases h2:2≤xs.length
 ·obtain ⟨hl,hv⟩:=ho
  rcases hv with ⟨_,hv⟩ | ⟨g,cap,cur,hv,_,hg,hcap,hmax,hsz,htake⟩
  ·omega
  subst hv
  have hbg:b≠g:=fun q=>hne (by rw [q]; rfl)
  have hgl:g < w.heap.size:=(Array.getElem?_eq_some_iff.1 hg).1
  let d:Array A2:=xs.toArray
  have hds:d.size=xs.length:=by simp [d]
  have hfl:(flatK Ko 2 d).toList=xs.flatMap Ko:=by rw [A9e]
  have hfs:(flatK Ko 2 d).size=xs.length * 2:=by rw [size_flatK,hds]
  have hcur:xs.length * 2≤cur.size:=by rw [hsz]; exact Nat.mul_le_mul_right 2 hcap
  have hH:HoldsK Ko 2 w g 0 d:=by
   intro j hj
   rw [hfs] at hj
   have e1:(flatK Ko 2 d).toList[j]? = cur.toList[j]? := by rw [hfl,← htake,List.getElem?_take,if_pos hj]
   rw [Array.getElem?_toList,Array.getElem?_toList] at e1
   refine ⟨?_,?_⟩
   ·unfold World.cell?
    simp only [hg,Nat.zero_add]
    rw [if_neg (by simp),← e1,Array.getElem?_eq_getElem (by rw [hfs]; exact hj)]
    rw [getElem!_pos _ j (by rw [hfs]; exact hj)]
    rfl
   ·unfold World.frozen?
    simp [hg]
  have hBs:w.cell? ⟨b,0,none⟩=some (.slice (some ⟨g,0,none⟩) d.size cap):=by
   unfold World.cell?
   simp only [hbox]
   rw [hds]
   rfl
  have hless:LessReadsK P fc #[.pointer (some ⟨b,0,none⟩)] Ko 2 ltK g 0 d.size w:=by
   intro m os dk hs i j hi hj
   have e:sortWorldK Ko 2 w g 0 m dk os=putRowK Ko 2 (grow (Sort.ahead w m) os) g 0 dk:=by
    unfold sortWorldK; rw [putRowK_grow _ _ (Sort.ahead w m) _ g 0 _ hgl]
   have hHg:HoldsK Ko 2 (grow (Sort.ahead w m) os) g 0 d:=holdsK_grow _ _ _ _ g 0 d hgl (holdsK_ahead _ _ _ _ _ _ _ hH)
   refine hclo g 0 cap b d.size _ (fun t=>dk[t]!.1) ?_ (fun t ht=>?_) i j hi hj (by omega)
   ·rw [e,cell?_putRowK_other _ _ _ g 0 dk _ (by exact hbg),cell?_grow _ _ _ (by exact hb)]; exact hBs
   ·rw [e]; exact ((holdsK_putRowK _ _ _ g 0 d dk hHg hs).cell (i:=t) (c:=0) (by omega) (by omega)).1
  rw [← hds]
  refine (Any.sort_Slice_cells_sorted L U e i ie hi hd hpk hie ke hke Ko 2 (fun _=>rfl) hs1 hagg (fun x v hv=>by simp [Ko] at hv; rcases hv with rfl | rfl<;>rfl) ltK Bph fc #[.pointer (some ⟨b,0,none⟩)] eg g 0 cap d (by omega) (by omega) f (hf _ (by omega)) gS hx w hless hH hgl).mono ?_
  rintro en w' ⟨rfl,d',n,os,hp,hsd,rfl⟩
  have hd's:d'.size=d.size:=hp.1
  have hperm:=Bnd hp
  have hnd':Gj d'.toList=true:=Aj1 hperm.symm (by simpa [d] using hnd)
  have hsrt:d'.toList=T4 xs:=A1p (Bd9 (by rw [hd's]; exact hsd) hnd') (Av7 hnd) fun x=>by
   rw [Anb,hperm.mem_iff]
  have hfs':(flatK Ko 2 d').size=xs.length * 2:=by rw [size_flatK,hd's,hds]
  have hblk:(putRowK Ko 2 (Sort.ahead w n) g 0 d').heap[g]? = some (.cells (putCells id 0 (flatK Ko 2 d') cur) e (0,0)):=by
   unfold putRowK putRow mapBlock
   show (w.heap.modify g _)[g]? = _
   rw [Array.getElem?_modify,if_pos rfl,hg]
   rfl
  have hoth:∀ k,k≠g→(putRowK Ko 2 (Sort.ahead w n) g 0 d').heap[k]? = w.heap[k]? := fun k hk=>by
   unfold putRowK putRow mapBlock
   show (w.heap.modify g _)[k]? = _
   rw [Array.getElem?_modify,if_neg (fun q=>hk q.symm)]
  have hsize:(putRowK Ko 2 (Sort.ahead w n) g 0 d').heap.size=w.heap.size:=by rw [size_putRowK]; rfl
  refine ⟨rfl,⟨rfl,rfl,rfl,by rw [show (grow (putRowK Ko 2 (Sort.ahead w n) g 0 d') os).heap=(putRowK Ko 2 (Sort.ahead w n) g 0 d').heap++os from rfl,Array.size_append,hsize]; omega,fun k hk hn=>?_⟩,(T4 xs).flatMap Ko,⟨?_,.inr ⟨g,cap,putCells id 0 (flatK Ko 2 d') cur,by rw [hds],Nat.zero_le _,?_,by rw [hds]; exact hcap,hmax,by simp [putCells,hsz],?_⟩⟩,fun S=>Bd8⟩
  ·rw [grow_keep _ os k (by rw [hsize]; exact hk)]
   exact hoth k (fun q=>hn (by rw [q]; simp [Value.ownBlock]))
  ·rw [A1q,Ads,hds]
  ·rw [grow_keep _ os g (by rw [hsize]; exact hgl)]
   exact hblk
  ·rw [hds,← hsrt,← A9e,← hfs']
   exact Bnb cur (flatK Ko 2 d') (by rw [hfs']; exact hcur)
 ·obtain ⟨hl,hv⟩:=ho
  have h1:xs.length=0∨xs.length=1:=by omega
  have ho':w.ownsRow 0 e 2 v xs.length (xs.flatMap Ko):=⟨hl,hv⟩
  have hf' : ∃ f', P.funcs.findIdx? (·.name == "internal/reflectlite" ++ ".Swapper$" ++ toString (swapperK xs.length ie ke)) = some f' := by
   rcases h1 with h1 | h1<;>rw [h1]
   ·exact ⟨f0,hf0⟩
   ·exact ⟨f1,hf1⟩
  obtain ⟨f',hf'⟩:=hf'
  rcases hv with ⟨hv,h0⟩ | ⟨g,cap,cur,hv,_⟩
  ·exact tiny none 0 f' (by rw [hv,h0]) (by omega) hf'
  ·exact tiny (some ⟨g,0,none⟩) cap f' hv (by omega) hf'
def Ba4 (r:Rt):Prop:=(0≤r.1∧r.1≤1000000000)∧(0≤r.2.1∧r.2.1≤1)∧(1≤r.2.2.1∧r.2.2.1≤999999000)∧(0≤r.2.2.2.1∧r.2.2.2.1≤60000)
theorem Av8 {x:Aa} {w:Int} {p:Pg} (h:Ay x w=(p,true)):1≤p.2.1∧p.2.1≤60000:=by
 obtain ⟨_,_,_,h4⟩:=Sp h
 unfold Ee at h4
 obtain ⟨_,h4⟩:=B2 h4
 obtain ⟨_,h4⟩:=B2 h4
 exact Cw (B2 h4).1
theorem Aym {s:Aa} {w a:Int} {best:Rt} (h:Ba4 best):Ba4 (Hl s w a best):=by
 unfold Hl
 cases hc:(Ay s w).2&&((Ay s w).1.1==4)&&decide ((Ay s w).1.2.2.2.1.size=5)&&((Ay s w).1.2.2.1 % 2==a)&&I6 (Fr (Ay s w).1)&&decide ((Ay s w).1.2.2.1 > best.1) with
 | false=>exact h
 | true=>
  simp only [Bool.and_eq_true] at hc
  obtain ⟨⟨⟨⟨⟨h1,_⟩,_⟩,_⟩,h5⟩,_⟩:=hc
  have hp:Ay s w=((Ay s w).1,true):=by rw [← h1]
  obtain ⟨_,hn,_⟩:=A1n hp
  have hl:=Av8 hp
  obtain ⟨r1,r2⟩:=B2 h5
  have r1:=Cw r1
  have r2:=Cw r2
  simp only [cond_true]
  exact ⟨⟨by show 0≤(Ay s w).1.2.2.1; omega,hn.2⟩,r1,r2,⟨by show 0≤(Ay s w).1.2.1; omega,hl.2⟩⟩
theorem To {d:Dk} {w:Int} (h:Ap d=true) (hw:Bq w 1 8=true):Ba4 (At d w):=by
 unfold At
 rw [h,hw]
 exact Aym (Aym ⟨⟨by decide,by decide⟩,⟨by decide,by decide⟩,⟨by decide,by decide⟩,by decide,by decide⟩)
theorem A9f (w first:Int):∀ (l:List Aa) (i:Int) (st:Wd),0≤i→(0≤st.2.2.2.2.1∧st.2.2.2.2.1≤i)→(0≤st.2.2.2.2.2∧st.2.2.2.2.2≤60000)→
  (0≤(Cx w first l i st).2.1∧(Cx w first l i st).2.1≤i + l.length)∧(0≤(Cx w first l i st).2.2.1∧(Cx w first l i st).2.2.1≤60000)
 | [],i,st,h0,h1,h2=>⟨⟨h1.1,by show st.2.2.2.2.1≤i + ((0:Nat):Int); omega⟩,h2⟩
 | x::l,i,st,h0,h1,h2=>by
  unfold Cx
  cases hc:Gk w first i st x with
  | false=>exact ⟨⟨h1.1,by show st.2.2.2.2.1≤i + ((l.length + 1:Nat):Int); omega⟩,h2⟩
  | true=>
   simp only [cond_true]
   unfold Gk at hc
   have hp:Ay x w=((Ay x w).1,true):=by rw [← (B2 hc).1]
   have hl:=Av8 hp
   have:=A9f w first l (i + 1) (C6 i (Ay x w).1 st) (by omega) (by
    unfold C6
    cases (Ay x w).1.1==1<;>cases (Ay x w).1.1==2<;>simp only [cond_true,cond_false]<;>omega) (by
    unfold C6
    cases (Ay x w).1.1==1<;>cases (Ay x w).1.1==2<;>simp only [cond_true,cond_false]<;>omega)
   refine ⟨⟨this.1.1,?_⟩,this.2⟩
   have h3:=this.1.2
   simp only [List.length_cons]
   omega
theorem Bea (d:Dk) (f n first life w:Int) (hn:0≤n) (hl:0≤life∧life≤60000):(0≤(Ua d f n first life w).2.1∧(Ua d f n first life w).2.1≤n)∧(0≤(Ua d f n first life w).2.2.1∧(Ua d f n first life w).2.2.1≤60000):=by
 unfold Ua
 cases hc:Ap d&&(Bq w 1 8&&(decide (0≤f)&&(decide (0≤n)&&(decide (f≤(d.1.length:Int))&&decide (n≤(d.1.length:Int) - f))))) with
 | false=>exact ⟨⟨Int.le_refl 0,hn⟩,Int.le_refl 0,show (0:Int)≤60000 by omega⟩
 | true=>
  simp only [cond_true]
  have:=A9f w first (seen d f 0 n.toNat) 0 (0,life,z0,[],0,life) (by omega) ⟨by show (0:Int)≤0; omega,by show (0:Int)≤0; omega⟩ hl
  rw [Ad0] at this
  exact ⟨⟨this.1.1,by have:=this.1.2; omega⟩,this.2⟩
def E1:List Aa→Cv→Option Cv
 | [],s=>some s
 | e::r,s=>bif (Hg e).2 then (bif (Bx s (Hg e).1).2==0 then E1 r (Bx s (Hg e).1).1 else none) else none
theorem Q8:∀ {l:List Aa} {s st:Cv},Ak s=true→E1 l s=some st→Ak st=true
 | [],s,st,h,e=>by cases e; exact h
 | x::r,s,st,h,e=>by
  unfold E1 at e
  cases h1:(Hg x).2 with
  | false=>rw [h1] at e; cases e
  | true=>
   rw [h1] at e
   simp only [cond_true] at e
   cases h2:(Bx s (Hg x).1).2==0 with
   | false=>rw [h2] at e; cases e
   | true=>
    rw [h2] at e
    exact Q8 (Aa3 s (Hg x).1) e
def Aa4 (d:Dk) (w:Int) (r:Rt) (x:Scd) (st:Cv):Pl:=
 bif decide (x.2.2.1 + 1 > 60000) then Aap 3 else bif decide (C5 st w > Al d.1.length - 1) then Aap 4 else
 bif decide (x.2.1 < Al d.1.length) then (0,(w,nI d.1.length,x.2.2.1 + 1,r,x.2.1 + 1,0,st,()),[Lb (Bk r.2.1 d.1.length + x.2.1) (Ca (3,x.2.2.1 + 1,r.2.2.1 + x.2.1,z0,()) w),D6],())
 else Ub (w,nI d.1.length,x.2.2.1 + 1,r,x.2.1,0,st,())
def Fs (d:Dk) (w:Int):Scd:=Ua d (Bk (At d w).2.1 d.1.length) (Al d.1.length) (At d w).2.2.1 (At d w).2.2.2.1 w
def L8 (d:Dk) (w:Int):Pl:=
 bif !Ap d then Aap 1 else bif !Bq w 1 8 then Aap 1 else
 match E1 (Fs d w).1 Ye with
 | none=>Aap 2
 | some st=>Aa4 d w (At d w) (Fs d w) st
theorem Ba5 {d:Dk} {w:Int} {r:Rt} {x:Scd} {st:Cv} (h:x.2.2.1 + 1 > 60000):Aa4 d w r x st=Aap 3:=by unfold Aa4; rw [Af h]; rfl
theorem Ba6 {d:Dk} {w:Int} {r:Rt} {x:Scd} {st:Cv} (h:¬ x.2.2.1 + 1 > 60000) (h2:C5 st w > Al d.1.length - 1):Aa4 d w r x st=Aap 4:=by unfold Aa4; rw [Bd h,Af h2]; rfl
theorem A1r {d:Dk} {w:Int} {r:Rt} {x:Scd} {st:Cv} (h:¬ x.2.2.1 + 1 > 60000) (h2:¬ C5 st w > Al d.1.length - 1) (h3:x.2.1 < Al d.1.length):Aa4 d w r x st=(0,(w,nI d.1.length,x.2.2.1 + 1,r,x.2.1 + 1,0,st,()),[Lb (Bk r.2.1 d.1.length + x.2.1) (Ca (3,x.2.2.1 + 1,r.2.2.1 + x.2.1,z0,()) w),D6],()):=by unfold Aa4; rw [Bd h,Bd h2,Af h3]; rfl
theorem A1s {d:Dk} {w:Int} {r:Rt} {x:Scd} {st:Cv} (h:¬ x.2.2.1 + 1 > 60000) (h2:¬ C5 st w > Al d.1.length - 1) (h3:¬ x.2.1 < Al d.1.length):Aa4 d w r x st=Ub (w,nI d.1.length,x.2.2.1 + 1,r,x.2.1,0,st,()):=by unfold Aa4; rw [Bd h,Bd h2,Bd h3]; rfl
theorem Bgz {d:Dk} {w:Int} {r:Rt} {x:Scd} {st:Cv} (h:Ak st=true):Kl Bd2 (Aa4 d w r x st)=true:=by
 unfold Aa4
 cases decide (x.2.2.1 + 1 > 60000) with
 | true=>rfl
 | false=>
  cases decide (C5 st w > Al d.1.length - 1) with
  | true=>rfl
  | false=>
   simp only [cond_false]
   cases decide (x.2.1 < Al d.1.length) with
   | true=>
    refine Am6 (j4 h) (A3r (show 2≤1073741824 by omega) fun o ho=>?_)
    simp only [List.mem_cons,List.not_mem_nil,or_false] at ho
    rcases ho with rfl | rfl
    ·exact Age _ _
    ·exact Nat.zero_le _
   | false=>exact A3s (j4 h)
theorem Bkp (d:Dk) (w:Int):Kl Bd2 (L8 d w)=true:=by
 unfold L8
 cases Ap d with
 | false=>rfl
 | true=>
  cases Bq w 1 8 with
  | false=>rfl
  | true=>
   simp only [Bool.not_true,cond_false]
   cases ho:E1 (Fs d w).1 Ye with
   | none=>rfl
   | some st=>exact Bgz (Q8 rfl ho)
theorem Ayn {s:Ez} (h:Ak s.2.2.2.2.2.2.1=true):Ak (Ub s).2.1.2.2.2.2.2.2.1=true:=by
 unfold Ub j5
 cases decide (s.2.2.2.1.1 + 1 > 1000000000) with
 | true=>rfl
 | false=>
  cases decide (s.2.2.2.1.2.2.1 + Al s.2.1 > 999999000) with
  | true=>rfl
  | false=>exact h
theorem Beb {d:Dk} {w:Int} {r:Rt} {x:Scd} {st:Cv} (h:Ak st=true):Ak (Aa4 d w r x st).2.1.2.2.2.2.2.2.1=true:=by
 unfold Aa4
 cases decide (x.2.2.1 + 1 > 60000) with
 | true=>rfl
 | false=>
  cases decide (C5 st w > Al d.1.length - 1) with
  | true=>rfl
  | false=>
   simp only [cond_false]
   cases decide (x.2.1 < Al d.1.length) with
   | true=>exact h
   | false=>exact Ayn h
theorem Bg0 (d:Dk) (w:Int):Ak (L8 d w).2.1.2.2.2.2.2.2.1=true:=by
 unfold L8
 cases Ap d with
 | false=>rfl
 | true=>
  cases Bq w 1 8 with
  | false=>rfl
  | true=>
   simp only [Bool.not_true,cond_false]
   cases ho:E1 (Fs d w).1 Ye with
   | none=>rfl
   | some st=>exact Beb (Q8 rfl ho)
def Aql (w:Bo):Cv×Int:=bif !B7 w then (Ye,1) else ((L8 (w.2.1.1,[],()) w.1).2.1.2.2.2.2.2.2.1,(L8 (w.2.1.1,[],()) w.1).1)
def Biy (a b:Cv):Bool:=eqL (fun x y:A2=>eqB A1 x y) a.1 b.1
def Bne (w:Bo):Bool:=bif (Aql w).2 != 0 then false else w.2.2.2.2.1.any fun p=>Biy p (Aql w).1
theorem Av9 {E:Type} {xs:List Aa} {g:Nat→Int→List A2→Option E} {ok:List A2→E} {bad:E}
  (hs:∀ m (i:Nat) r,i < xs.length→g (m + 1) i r=bif !(Hg (xs.getD i z0)).2 then some bad else bif (Bx (r,()) (Hg (xs.getD i z0)).1).2 != 0 then some bad else g m ((i + 1:Nat):Int) (Bx (r,()) (Hg (xs.getD i z0)).1).1.1)
  (he:∀ m r,g (m + 1) (xs.length:Int) r=some (ok r)):
  ∀ (m i:Nat) (r:List A2),i≤xs.length→xs.length - i < m→g m i r=some (match E1 (xs.drop i) (r,()) with
   | some st=>ok st.1
   | none=>bad)
 | 0,i,r,_,hm=>by omega
 | m + 1,i,r,hl,hm=>by
  by_cases h:i < xs.length
  ·rw [hs m i r h,Wa xs i z0 h,Av9 hs he m (i + 1) _ (by omega) (by omega)]
   simp only [E1]
   cases (Hg (xs.getD i z0)).2 with
   | false=>rfl
   | true=>
    simp only [Bool.not_true,cond_false,cond_true]
    by_cases hc:(Bx (r,()) (Hg (xs.getD i z0)).1).2=0
    ·rw [hc]; rfl
    ·rw [show ((Bx (r,()) (Hg (xs.getD i z0)).1).2 != 0)=true from bne_iff_ne.2 hc,show ((Bx (r,()) (Hg (xs.getD i z0)).1).2==0)=false from beq_eq_false_iff_ne.2 hc]
     rfl
  ·have:i=xs.length:=by omega
   subst this
   rw [he,List.drop_length]
   rfl
def Biz (es:List Aa):Cv×Bool:=match E1 es Ye with
 | some st=>(st,true)
 | none=>(Ye,false)
def Av {α:Type} (o:Option α) (Q:α→Prop):Prop:=∃ a,o=some a∧Q a
theorem Av.bind {α β:Type} {o:Option α} {f:α→Option β} {Q:α→Prop} {S:β→Prop} (h:Av o Q) (k:∀ a,Q a→Av (f a) S):Av (o.bind f) S:=by
 obtain ⟨a,e,q⟩:=h
 rw [e]
 exact k a q
theorem Av.cond {α:Type} {c:Bool} {x y:Option α} {Q:α→Prop} (h1:c=true→Av x Q) (h2:c=false→Av y Q):Av (bif c then x else y) Q:=by
 cases c
 ·exact h2 rfl
 ·exact h1 rfl
theorem Av.go {α:Type} {c:Bool} {x y:Option α} {Q:α→Prop} (h:c=true) (k:Av x Q):Av (bif c then x else y) Q:=by
 rw [h]
 exact k
theorem Av.no {α:Type} {c:Bool} {x y:Option α} {Q:α→Prop} (h:c=false) (k:Av y Q):Av (bif c then x else y) Q:=by
 rw [h]
 exact k
theorem Av.some {α:Type} {a:α} {Q:α→Prop} (h:Q a):Av (Option.some a) Q:=⟨a,rfl,h⟩
theorem Av.mono {α:Type} {o:Option α} {Q S:α→Prop} (h:Av o Q) (k:∀ a,Q a→S a):Av o S:=by
 obtain ⟨a,e,q⟩:=h
 exact ⟨a,e,k a q⟩
theorem Av.sum {α β γ:Type} {f:α→Option γ} {g:β→Option γ} {o:α ⊕ β} {Q:γ→Prop} (h1:∀ a,o=.inl a→Av (f a) Q) (h2:∀ b,o=.inr b→Av (g b) Q):Av (Cy f g o) Q:=by
 cases o with
 | inl a=>exact h1 a rfl
 | inr b=>exact h2 b rfl
theorem Av.loop {σ E:Type} {g:Nat→σ→Option E} (I:Nat→σ→Prop) {Q:E→Prop} (step:∀ m k s,I k s→(∀ k' s',k' < k→I k' s'→Av (g m s') Q)→Av (g (m + 1) s) Q):
  ∀ (m k:Nat) (s:σ),k < m→I k s→Av (g m s) Q
 | 0,k,s,h,_=>by omega
 | m + 1,k,s,h,hI=>step m k s hI fun k' s' h' hI'=>Av.loop I step m k' s' (by omega) hI'
abbrev Rd:=List Int×Int×Unit
def rdB (b:List Int):Bool:=decide (b.length≤2000)&&b.all fun x=>decide (0≤x)&&decide (x < 256)
def RdK (k:Nat) (r:Rd):Prop:=rdB r.1=true∧0≤r.2.1∧r.2.1≤(k:Int)
theorem RdK.mono {k k':Nat} {r:Rd} (h:RdK k r) (hk:k≤k'):RdK k' r:=⟨h.1,h.2.1,by have:=h.2.2; omega⟩
theorem Bg1 {b:List Int} (h:rdB b=true) (i:Nat):0≤b.getD i 0∧b.getD i 0 < 256:=by
 unfold rdB at h
 simp only [Bool.and_eq_true,decide_eq_true_eq,List.all_eq_true] at h
 by_cases hi:i < b.length
 ·rw [List.getD_eq_getElem?_getD,List.getElem?_eq_getElem hi,Option.getD_some]
  exact h.2 _ (List.getElem_mem hi)
 ·rw [List.getD_eq_getElem?_getD,List.getElem?_eq_none (by omega)]
  exact ⟨Int.le_refl 0,by decide⟩
theorem Bg2 {α:Type} {l:List α} {d:α} {v:Int} {Q:α→Prop} (h:∀ x∈l,Q x) (h0:0≤v) (h1:v < nI l.length):Q (l.getD v.toNat d):=by
 simp only [nI] at h1
 have hi:v.toNat < l.length:=by omega
 rw [List.getD_eq_getElem?_getD,List.getElem?_eq_getElem hi,Option.getD_some]
 exact h _ (List.getElem_mem hi)
theorem A1t {s:Aa} {i j:Int} (h0:0≤i) (h1:i≤j) (h2:j≤(s.size:Int)):((Ag s i j).size:Int)=j - i:=by
 rw [Da h0 h1 h2]
 omega
theorem A1u {x n:Int} (h0:0≤x) (hn:1≤n):0≤x.tmod n∧x.tmod n < n:=by
 rw [Int.tmod_eq_emod_of_nonneg h0]
 exact ⟨Int.emod_nonneg _ (by omega),Int.emod_lt_of_pos _ (by omega)⟩
theorem Bkq {x y:Int} (hx:0≤x) (hx':x < 4611686018427387904) (hy:0≤y) (hy':y < 4611686018427387904):
  0≤IntKind.i64.wrap (nI (BitVec.ofInt 64 x ^^^ BitVec.ofInt 64 y).toNat):=by
 obtain ⟨a,rfl⟩:∃ a:Nat,x=(a:Int):=⟨x.toNat,by omega⟩
 obtain ⟨b,rfl⟩:∃ b:Nat,y=(b:Int):=⟨y.toNat,by omega⟩
 have h:(BitVec.ofInt 64 (a:Int) ^^^ BitVec.ofInt 64 (b:Int)).toNat < 4611686018427387904:=by
  rw [BitVec.toNat_xor,BitVec.ofInt_natCast,BitVec.ofInt_natCast,BitVec.toNat_ofNat,BitVec.toNat_ofNat,Nat.mod_eq_of_lt (by omega),Nat.mod_eq_of_lt (by omega)]
  exact Nat.xor_lt_two_pow (n:=62) (by omega) (by omega)
 simp only [nI]
 rw [Aj (by omega) (by omega)]
 omega
theorem Av.letter {α:Type} {A:Aa} {v:Int} {x:Option α} {S:α→Prop} (v0:0≤v) (v1:v < nI A.size) (k:(Ag (Ag A v (nI A.size)) 0 1).size=1→Av x S):
  Av (bif decide (0≤v) then bif decide (v≤nI A.size) then bif decide (1≤nI (Ag A v (nI A.size)).size) then x else none else none else none) S:=by
 have e1:=A1t (s:=A) v0 (show v≤nI A.size by omega) (Int.le_refl _)
 have e2:=A1t (s:=Ag A v (nI A.size)) (i:=0) (j:=1) (by omega) (by omega) (by simp only [nI] at *; omega)
 exact Av.go (Af v0) (Av.go (Af (Int.le_of_lt v1)) (Av.go (Af (by simp only [nI] at *; omega)) (k (by omega))))
theorem Av.law {o:Option ((Bool×Unit)×Unit)} (h:Av o fun r=>r.1.1=true):o=Option.some ((true,()),()):=by
 obtain ⟨⟨⟨b,⟨⟩⟩,⟨⟩⟩,e,q⟩:=h
 simp only at q
 rw [e,q]
theorem Bnf {b:List Bc} (h:Az b=true):Ae (Be b)=I7 b:=by
 unfold Be
 rw [h,cond_true]
 exact Qe _ (A85 (Am4 h).2.2)
theorem A9g (b:List Bc):(Hg (Be b)).2=Az b∧(Az b=true→(Hg (Be b)).1=b):=by
 cases hv:Az b with
 | true=>
  have:=(Ba0 hv (Bnf hv)).1
  rw [this]
  exact ⟨rfl,fun _=>rfl⟩
 | false=>
  refine ⟨?_,fun q=>by cases q⟩
  have e:Be b=⟨#[]⟩:=by unfold Be; rw [hv]; rfl
  rw [e]
  decide +kernel
def A6w (c:Bc):Prop:=c.1.size≤1000∧c.2.1.size≤1000
theorem Bng {l:List Bc} {c:Bc} (h:∀ c∈l,A6w c) (hc:A6w c):∀ x∈l++[c],A6w x:=fun x hx=>by
 rcases List.mem_append.1 hx with q | q
 ·exact h x q
 ·rw [List.mem_singleton.1 q]; exact hc
section
theorem Anf {w:Int} (h:Bq w 1 8=true):(Ay zS w).2=false:=by
 obtain ⟨h1,h2⟩:=Cw h
 have:w=1∨w=2∨w=3∨w=4∨w=5∨w=6∨w=7∨w=8:=by omega
 rcases this with rfl | rfl | rfl | rfl | rfl | rfl | rfl | rfl<;>decide +kernel
theorem A1v (s:Aa):s++⟨#[]⟩=s:=Wc (by rw [Nt]; exact List.append_nil _)
def cat:List Aa→Aa
 | []=>⟨#[]⟩
 | p::r=>p++cat r
theorem Bnh {s:Aa} {n:Int} (h0:0≤n) (h1:n≤(s.size:Int)):Ag s 0 n++Ag s n (nI s.size)=s:=by
 unfold Ag
 have e1:Int.toNat 0=0:=rfl
 have e2:Int.toNat (nI s.size)=s.size:=by simp [nI]
 rw [e1,e2,ByteArray.extract_append_extract]
 rw [Nat.min_eq_left (Nat.zero_le _),Nat.max_eq_right (by omega)]
 exact ByteArray.extract_zero_size
theorem Bec (n:Nat) (hn:1≤n):∀ (f:Nat) (s:Aa),s.size≤f→(∀ p∈E2 n f s,p.size≤n)∧cat (E2 n f s)=s∧E2 n f s≠[]
 | 0,s,h=>by
  have e:cat [s]=s:=A1v s
  exact ⟨fun p hp=>by rw [List.mem_singleton.1 hp]; omega,e,by simp [E2]⟩
 | f + 1,s,h=>by
  unfold E2
  by_cases q:s.size > n
  ·rw [if_pos q]
   have z1:=Da (s:=s) (a:=0) (b:=(n:Int)) (by omega) (by omega) (by omega)
   have z2:=Da (s:=s) (a:=(n:Int)) (b:=nI s.size) (by omega) (by simp only [nI]; omega) (Int.le_refl _)
   obtain ⟨k1,k2,_⟩:=Bec n hn f (Ag s n (nI s.size)) (by simp only [nI] at *; omega)
   refine ⟨fun p hp=>?_,?_,by simp⟩
   ·rcases List.mem_cons.1 hp with e | e
    ·rw [e]; omega
    ·exact k1 p e
   ·show Ag s 0 n++cat (E2 n f (Ag s n (nI s.size)))=s
    rw [k2]
    exact Bnh (by omega) (by omega)
  ·rw [if_neg q]
   have e:cat [s]=s:=A1v s
   exact ⟨fun p hp=>by rw [List.mem_singleton.1 hp]; omega,e,by simp⟩
theorem Ad3 (e:Aa) {w:Int} (h:Bq w 1 8=true):(∀ p∈Ao e w,(p.size:Int)≤56 - w)∧cat (Ao e w)=e∧Ao e w≠[]:=by
 obtain ⟨h1,h2⟩:=Cw h
 obtain ⟨k1,k2,k3⟩:=Bec (56 - w).toNat (by omega) e.size e (Nat.le_refl _)
 exact ⟨fun p hp=>by have:=k1 p hp; omega,k2,k3⟩
theorem We {w first i:Int} {st:Wd} {x:Aa} {r:List Aa} (h:Gk w first i st x=true):Cx w first (x::r) i st=Cx w first r (i + 1) (C6 i (Ay x w).1 st):=by
 show (bif Gk w first i st x then _ else _)=_
 rw [h]
 rfl
theorem Ang {w first i:Int} {st:Wd} {x:Aa} {r:List Aa} (h:Gk w first i st x=false):Cx w first (x::r) i st=Sg st:=by
 show (bif Gk w first i st x then _ else _)=_
 rw [h]
 rfl
theorem c7 {w first i:Int} {st:Wd} {p:Pg} (h:Ee p w=true):Gk w first i st (Ca p w)=(p.2.2.1 - i==first&&Xp st.1 st.2.1 p):=by
 unfold Gk
 rw [In h]
 rfl
theorem Z7 {w life k n:Int} {p:Aa} (hw:Bq w 1 8=true) (hl:Bq life 1 60000=true) (hk:k=1∨k=2) (h1:1≤n) (h2:n≤1000000000) (hp:(p.size:Int)≤56 - w):Ee (k,life,n,p,()) w=true:=by
 unfold Ee
 simp only
 rw [hw,hl,Af hp]
 have e1:Bq k 1 4=true:=by rcases hk with rfl | rfl<;>rfl
 have e2:Bq n 1 1000000000=true:=by unfold Bq; rw [Af h1,Af h2]; rfl
 have e3:(k != 3)=true:=by rcases hk with rfl | rfl<;>rfl
 rw [e1,e2,e3]
 rfl
theorem c9 {k life wk wl:Int} {n:Int} {p:Aa} (hk:k=1∨k=2) (h1:wl≤life) (h2:wk=1→wl=life):Xp wk wl (k,life,n,p,())=true:=by
 unfold Xp
 simp only
 rw [Bd (show ¬ life < wl by omega)]
 by_cases q:wk=1
 ·have:=h2 q
  subst this
  rcases hk with rfl | rfl<;>simp
 ·have:(wk != 1)=true:=bne_iff_ne.2 q
  rcases hk with rfl | rfl<;>simp [this]
theorem A32 {w first life:Int} (hw:Bq w 1 8=true) (hl:Bq life 1 60000=true) (rest:List Aa):∀ (P:List Aa) (i:Int) (st:Wd),P≠[]→(∀ p∈P,(p.size:Int)≤56 - w)→1≤first + i→first + i + P.length≤1000000001→
  st.2.1≤life→(st.1=1→st.2.1=life)→Cx w first (Ig life w (first + i) P++rest) i st=Cx w first rest (i + P.length) (2,life,z0,st.2.2.2.1++[st.2.2.1++cat P],i + P.length,life)
 | [],_,_,h,_,_,_,_,_=>absurd rfl h
 | [p],i,st,_,hs,h1,h2,h3,h4=>by
  have ok:Ee (2,life,first + i,p,()) w=true:=Z7 hw hl (.inr rfl) h1 (by simp only [En] at h2; omega) (hs p (by simp))
  show Cx w first (Ca (2,life,first + i,p,()) w::rest) i st=_
  rw [We (by rw [c7 ok,c9 (.inr rfl) h3 h4]; simp),In ok]
  have e:cat [p]=p:=A1v p
  rw [e]
  rfl
 | p::q::r,i,st,_,hs,h1,h2,h3,h4=>by
  simp only [List.length_cons] at h2
  have ok:Ee (1,life,first + i,p,()) w=true:=Z7 hw hl (.inl rfl) h1 (by omega) (hs p (by simp))
  show Cx w first (Ca (1,life,first + i,p,()) w::(Ig life w (first + i + 1) (q::r)++rest)) i st=_
  rw [We (by rw [c7 ok,c9 (.inl rfl) h3 h4]; simp),In ok,show first + i + 1=first + (i + 1) by omega]
  rw [A32 hw hl rest (q::r) (i + 1) _ (by simp) (fun x hx=>hs x (by simp only [List.mem_cons] at hx ⊢; exact .inr hx)) (by omega) (by simp only [List.length_cons]; omega) (Int.le_refl life) (fun _=>rfl)]
  have e1:i + 1 + ((q::r).length:Int)=i + ((p::q::r).length:Int):=by simp only [List.length_cons]; omega
  have e2:(C6 i (1,life,first + i,p,()) st).2.2.2.1=st.2.2.2.1:=rfl
  have e3:(C6 i (1,life,first + i,p,()) st).2.2.1=st.2.2.1++p:=rfl
  have e4:cat (p::q::r)=p++cat (q::r):=rfl
  rw [e1,e2,e3,e4,ByteArray.append_assoc]
theorem A9h {w first life:Int} (hw:Bq w 1 8=true) (hl:Bq life 1 60000=true) (rest:List Aa):∀ (P:List Aa) (i:Int) (st:Wd) (m:Nat),m < P.length→(∀ p∈P,(p.size:Int)≤56 - w)→1≤first + i→first + i + P.length≤1000000001→
  st.2.1≤life→(st.1=1→st.2.1=life)→∃ st':Wd,st'.2.2.2=st.2.2.2∧(m=0→st'=st)∧(0 < m→st'.1=1∧st'.2.1=life)∧Cx w first ((Ig life w (first + i) P).take m++rest) i st=Cx w first rest (i + m) st'
 | P,i,st,0,_,_,_,_,_,_=>⟨st,rfl,fun _=>rfl,fun q=>absurd q (by omega),by simp⟩
 | [],_,_,m + 1,h,_,_,_,_,_=>by simp at h
 | [p],_,_,m + 1,h,_,_,_,_,_=>by simp at h
 | p::q::r,i,st,m + 1,hm,hs,h1,h2,h3,h4=>by
  simp only [List.length_cons] at h2 hm
  have ok:Ee (1,life,first + i,p,()) w=true:=Z7 hw hl (.inl rfl) h1 (by omega) (hs p (by simp))
  obtain ⟨st',k1,k0,k2,k3⟩:=A9h (first:=first) hw hl rest (q::r) (i + 1) (C6 i (1,life,first + i,p,()) st) m (by simp only [List.length_cons]; omega) (fun x hx=>hs x (by simp only [List.mem_cons] at hx ⊢; exact .inr hx)) (by omega) (by simp only [List.length_cons]; omega) (Int.le_refl life) (fun _=>rfl)
  have e3:Cx w first ((Ig life w (first + i) (p::q::r)).take (m + 1)++rest) i st=Cx w first rest (i + ((m + 1:Nat):Int)) st':=by
   show Cx w first (Ca (1,life,first + i,p,()) w::((Ig life w (first + i + 1) (q::r)).take m++rest)) i st=_
   rw [We (by rw [c7 ok,c9 (.inl rfl) h3 h4]; simp),In ok,show first + i + 1=first + (i + 1) by omega,k3]
   congr 1
   omega
  refine ⟨st',k1,fun q=>absurd q (by omega),fun _=>?_,e3⟩
  by_cases q0:0 < m
  ·exact k2 q0
  ·have:m=0:=by omega
   rw [k0 this]
   exact ⟨rfl,rfl⟩
def put (d:Dk) (a:Int) (x:Aa):Dk:=(d.1,d.2.1++[(a,x,())],())
theorem Bpj {d:Dk} {a b:Int} {x:Aa}:V8 (put d a x) b=bif a==b then x else V8 d b:=by
 unfold V8 put
 simp only [List.reverse_append,List.reverse_singleton,List.singleton_append,Qc]
structure LD (d:Dk) (L:List Aa) (k:Nat):Prop where
 ok:If d
 n:d.1.length=100
 p:d.2.1.length≤k
 s:seen d 2 0 90=L
theorem LD.len {d:Dk} {L:List Aa} {k:Nat} (h:LD d L k):L.length=90:=by rw [← h.s]; exact Ad0 _ _ _ _
theorem Bni {d:Dk} {j:Nat} {x:Aa}:seen (put d (2 + (j:Int)) x) 2 0 90=(seen d 2 0 90).set j x:=by
 apply List.ext_getElem
 ·rw [List.length_set,Ad0,Ad0]
 ·intro i h1 h2
  rw [List.getElem_set]
  unfold seen
  simp only [List.getElem_map,List.getElem_range',Bpj]
  by_cases q:j=i
  ·subst q
   rw [if_pos rfl,show (2 + (j:Int)==2 + ((0 + 1 * j:Nat):Int))=true from beq_iff_eq.2 (by omega)]
   rfl
  ·rw [if_neg q,show (2 + (j:Int)==2 + ((0 + 1 * i:Nat):Int))=false from beq_eq_false_iff_ne.2 (by omega)]
   rfl
theorem LD.put {d:Dk} {L:List Aa} {k:Nat} (h:LD d L k) (hk:k < 300) {j:Nat} (hj:j < 90) {x:Aa} (hx:x.size=64):
  B9 d [(false,2 + (j:Int),x,())] 1=put d (2 + (j:Int)) x∧LD (put d (2 + (j:Int)) x) (L.set j x) (k + 1):=by
 have hp:=h.p
 have e1:opS d (false,2 + (j:Int),x,())=V.put d (2 + (j:Int)) x:=by
  unfold opS Aiy
  rw [h.n,Af (show (0:Int)≤2 + (j:Int) by omega),Af (show 2 + (j:Int) < ((100:Nat):Int) by omega),Af (show x.size=64 from hx),Af (show d.2.1.length < 300 by omega)]
  rfl
 have e2:B9 d [(false,2 + (j:Int),x,())] 1=opS d (false,2 + (j:Int),x,()):=by
  unfold B9
  rw [h.ok.valid]
  rfl
 refine ⟨e2.trans e1,?_,h.n,?_,?_⟩
 ·rw [← e1]
  exact h.ok.op _
 ·show (d.2.1++[_]).length≤k + 1
  rw [Dn,En]
  omega
 ·rw [← h.s]
  exact Bni
def lay (A:List Aa):List Aa:=A++List.replicate (90 - A.length) zS
theorem Bpk {A:List Aa} {x:Aa} (h:A.length < 90):(lay A).set A.length x=lay (A++[x]):=by
 unfold lay
 rw [Dn,En,List.set_append_right (h:=Nat.le_refl _),Nat.sub_self]
 obtain ⟨m,hm⟩:∃ m,90 - A.length=m + 1:=⟨90 - A.length - 1,by omega⟩
 rw [hm,show 90 - (A.length + 1)=m by omega,List.replicate_succ,List.append_assoc]
 rfl
theorem LD.new:LD (Kh 100) (lay []) 0:=by
 have e:Kh 100=(List.replicate 100 zS,[],()):=rfl
 have hz:zS.size=64:=by decide +kernel
 have ho:If (Kh 100):=by
  rw [e]
  exact ⟨by simp,by simp,Nat.zero_le _,fun i hi=>by
   have hi:i < (List.replicate 100 zS).length:=hi
   show ((List.replicate 100 zS).getD i z0).size=64
   rw [List.getD_eq_getElem?_getD,List.getElem?_eq_getElem hi,Option.getD_some,List.getElem_replicate]
   exact hz,fun i hi=>absurd hi (Nat.not_lt_zero _)⟩
 refine ⟨ho,by rw [e]; simp,Nat.le_refl _,?_⟩
 show _=List.replicate 90 zS
 refine List.eq_replicate_iff.2 ⟨Ad0 _ _ _ _,fun b hb=>?_⟩
 obtain ⟨k,hk,rfl⟩:=List.mem_map.1 hb
 have hk:k < 90:=by simp only [List.mem_range'] at hk; omega
 rw [e]
 show (List.replicate 100 zS).getD (Int.toNat (2 + (k:Int))) z0=zS
 rw [List.getD_eq_getElem?_getD,List.getElem?_eq_getElem (by rw [List.length_replicate]; omega),Option.getD_some,List.getElem_replicate]
theorem LD.app {d:Dk} {A:List Aa} {k:Nat} (h:LD d (lay A) k) (hk:k < 300) (hA:A.length < 90) {x:Aa} (hx:x.size=64):
  B9 d [(false,2 + (A.length:Int),x,())] 1=V.put d (2 + (A.length:Int)) x∧LD (V.put d (2 + (A.length:Int)) x) (lay (A++[x])) (k + 1):=by
 have:=h.put hk (j:=A.length) hA hx
 rwa [Bpk hA] at this
theorem Bkr (d:Dk) (a:Int) {m:Nat} (h:m≤90):seen d a 0 m=(seen d a 0 90).take m:=by
 unfold seen
 rw [← List.map_take]
 congr 1
 apply List.ext_getElem
 ·simp
  omega
 ·intro i h1 h2
  simp
theorem LD.scan {d:Dk} {L:List Aa} {k:Nat} (h:LD d L k) {w:Int} (hw:Bq w 1 8=true) (first life:Int) {m:Nat} (hm:m≤90):
  Ua d 2 (m:Int) first life w=Cx w first (L.take m) 0 (0,life,z0,[],0,life):=by
 unfold Ua
 rw [h.ok.valid,hw,h.n,Af (show (0:Int)≤(m:Int) by omega),Af (show (m:Int)≤((100:Nat):Int) - 2 by omega),Fz,Bkr _ _ hm,h.s]
 rfl
theorem Bks {w:Int} (hw:Bq w 1 8=true) (first i:Int) (st:Wd) (R:List Aa):Cx w first (zS::R) i st=Sg st:=Ang (by
 unfold Gk
 rw [Anf hw]
 rfl)
theorem Awa {p:Pg} {w:Int} (h:Ee p w=true):(Ca p w).size=64:=(Sp (s:=Ca p w) (w:=w) (p:=p) (In h)).1
theorem Bg3 (s:Aa):z0++s=s:=Wc (by rw [Nt]; rfl)
theorem Bg4 {s:Aa} {life first w:Int} (hw:Bq w 1 8=true) (hl:Bq life 1 60000=true) (h1:1≤first) (h2:first + (Ao s w).length≤1000000001):Xm s life first w=Ig life w first (Ao s w):=by
 have hp:=Adz s w
 rw [hw,cond_true] at hp
 unfold Xm
 rw [hw,hl,← hp,Af h1,Af (by omega)]
 rfl
theorem Ayo {s:Aa} {w:Int} (hw:Bq w 1 8=true) (hs:s.size≤310):1≤(Ao s w).length∧(Ao s w).length≤10:=by
 have hp:=i8 (s:=s) hw
 obtain ⟨h1,h2⟩:=Cw hw
 have:w=1∨w=2∨w=3∨w=4∨w=5∨w=6∨w=7∨w=8:=by omega
 rcases this with rfl | rfl | rfl | rfl | rfl | rfl | rfl | rfl<;>(split at hp<;>omega)
theorem Bg5 {w:Int} (hw:Bq w 1 8=true):(Ao ⟨#[]⟩ w).length=1:=by
 have hp:=i8 (s:=⟨#[]⟩) hw
 obtain ⟨h1,h2⟩:=Cw hw
 have hz:(⟨#[]⟩:Aa).size=0:=rfl
 rw [hz] at hp
 have:w=1∨w=2∨w=3∨w=4∨w=5∨w=6∨w=7∨w=8:=by omega
 rcases this with rfl | rfl | rfl | rfl | rfl | rfl | rfl | rfl<;>(split at hp<;>omega)
theorem Bi1 {life w:Int} (hw:Bq w 1 8=true) (hl:Bq life 1 60000=true):∀ (P:List Aa) (n:Int),(∀ p∈P,(p.size:Int)≤56 - w)→1≤n→n + P.length≤1000000001→∀ x∈Ig life w n P,x.size=64
 | [],_,_,_,_,x,hx=>by cases hx
 | [p],n,hs,h1,h2,x,hx=>by
  have:x=Ca (2,life,n,p,()) w:=List.mem_singleton.1 hx
  subst this
  exact Awa (Z7 hw hl (.inr rfl) h1 (by simp only [En] at h2; omega) (hs p (by simp)))
 | p::q::r,n,hs,h1,h2,x,hx=>by
  simp only [List.length_cons] at h2
  have hx:x=Ca (1,life,n,p,()) w∨x∈Ig life w (n + 1) (q::r):=List.mem_cons.1 hx
  rcases hx with rfl | hx
  ·exact Awa (Z7 hw hl (.inl rfl) h1 (by omega) (hs p (by simp)))
  ·exact Bi1 hw hl (q::r) (n + 1) (fun y hy=>hs y (List.mem_cons_of_mem _ hy)) (by omega) (by simp only [List.length_cons]; omega) x hx
def Ad4 (life w first:Int) (A:List Aa) (s:Aa):List Aa:=A++Ig life w (first + (A.length:Int)) (Ao s w)
theorem Ad5 (life w first:Int) (A:List Aa) (s:Aa):(Ad4 life w first A s).length=A.length + (Ao s w).length:=by
 unfold Ad4
 rw [Dn,(Qf _ _ _ _).1]
def SA (w first:Int) (st0:Wd) (A:List Aa) (st:Wd):Prop:=∀ rest,Cx w first (A++rest) 0 st0=Cx w first rest (A.length:Int) st
theorem SA.nil (w first:Int) (st0:Wd):SA w first st0 [] st0:=fun _=>rfl
theorem SA.add {w first life:Int} {st0 st:Wd} {A:List Aa} (h:SA w first st0 A st) (hw:Bq w 1 8=true) (hl:Bq life 1 60000=true) (s:Aa) (hz:st.2.2.1=z0) (h1:1≤first) (h2:first + (Ad4 life w first A s).length≤1000000001) (h3:st.2.1≤life) (h4:st.1≠1):
  SA w first st0 (Ad4 life w first A s) (2,life,z0,st.2.2.2.1++[s],((Ad4 life w first A s).length:Int),life):=fun rest=>by
 obtain ⟨k1,k2,k3⟩:=Ad3 s hw
 rw [Ad5] at h2 ⊢
 unfold Ad4
 rw [List.append_assoc,h,A32 hw hl rest _ _ st k3 k1 (by omega) (by omega) h3 (fun q=>absurd q h4),k2,hz,Bg3,← Int.natCast_add]
theorem SA.part {w first life:Int} {st0 st:Wd} {A:List Aa} (h:SA w first st0 A st) (hw:Bq w 1 8=true) (hl:Bq life 1 60000=true) (s:Aa) (h1:1≤first) (h2:first + (Ad4 life w first A s).length≤1000000001) (h3:st.2.1≤life) (h4:st.1≠1) (rest:List Aa):
  ∃ (st':Wd) (i:Int),st'.2.2.2=st.2.2.2∧Cx w first ((Ad4 life w first A s).take ((Ad4 life w first A s).length - 1)++rest) 0 st0=Cx w first rest i st':=by
 obtain ⟨k1,k2,k3⟩:=Ad3 s hw
 have hp:0 < (Ao s w).length:=List.length_pos_iff.2 k3
 have e1:(Ad4 life w first A s).take ((Ad4 life w first A s).length - 1)=A++(Ig life w (first + (A.length:Int)) (Ao s w)).take ((Ao s w).length - 1):=by
  rw [Ad5,show A.length + (Ao s w).length - 1=A.length + ((Ao s w).length - 1) by omega]
  unfold Ad4
  rw [List.take_length_add_append]
 rw [Ad5] at h2
 obtain ⟨st',q1,_,_,q2⟩:=A9h (first:=first) hw hl rest (Ao s w) (A.length:Int) st ((Ao s w).length - 1) (by omega) k1 (by omega) (by omega) h3 (fun q=>absurd q h4)
 refine ⟨st',(A.length:Int) + (((Ao s w).length - 1:Nat):Int),q1,?_⟩
 rw [e1,List.append_assoc,h,q2]
structure LG (w first life:Int) (st0:Wd) (d:Dk) (A:List Aa) (st:Wd):Prop where
 d:LD d (lay A) A.length
 s:SA w first st0 A st
theorem Bnj {A:List Aa} (h:A.length < 90):∃ R,lay A=A++(zS::R):=by
 obtain ⟨m,hm⟩:∃ m,90 - A.length=m + 1:=⟨90 - A.length - 1,by omega⟩
 exact ⟨List.replicate m zS,by unfold lay; rw [hm,List.replicate_succ]⟩
theorem Bnk {a b:Wd} (h:a.2.2.2=b.2.2.2):Sg a=Sg b:=by unfold Sg; rw [h]
structure As0 (w first life:Int) (e e3:Aa):Prop where
 w:Bq w 1 8=true
 l0:1≤life
 l1:life≤59998
 f0:1≤first
 f1:first≤999999900
 e:e.size≤310
 e3:e3.size≤310
def Bpl (w first life:Int) (e:Aa):List Aa:=Ad4 (life + 1) w first [] e
def Ba7 (w first life:Int) (e:Aa):List Aa:=Ad4 (life + 1) w first (Bpl w first life e) ⟨#[]⟩
def Agh (w first life:Int) (e e3:Aa):List Aa:=Ad4 (life + 1) w first (Ba7 w first life e) e3
abbrev lst (life:Int):Wd:=(0,life,z0,[],0,life)
section
variable {w first life:Int} {e e3:Aa} (h:As0 w first life e e3)
include h
theorem As0.l:Bq (life + 1) 1 60000=true:=by
 unfold Bq
 rw [Af (show 1≤life + 1 by have:=h.l0; omega),Af (show life + 1≤60000 by have:=h.l1; omega)]
 rfl
theorem As0.len:(Bpl w first life e).length=(Ao e w).length∧(Ba7 w first life e).length=(Ao e w).length + 1∧(Agh w first life e e3).length=(Ao e w).length + 1 + (Ao e3 w).length:=by
 have q1:(Bpl w first life e).length=(Ao e w).length:=by unfold Bpl; rw [Ad5]; simp
 have q2:(Ba7 w first life e).length=(Ao e w).length + 1:=by unfold Ba7; rw [Ad5,q1,Bg5 h.w]
 exact ⟨q1,q2,by unfold Agh; rw [Ad5,q2]⟩
theorem As0.num:3≤(Agh w first life e e3).length∧(Agh w first life e e3).length≤21:=by
 have a:=Ayo h.w h.e
 have b:=Ayo h.w h.e3
 have:=h.len.2.2
 omega
theorem As0.s2:SA w first (lst life) (Ba7 w first life e) (2,life + 1,z0,[e,⟨#[]⟩],((Ba7 w first life e).length:Int),life + 1):=by
 obtain ⟨k1,k2,k3⟩:=h.len
 have kn:=h.num
 have hf:=h.f1
 have a:=(SA.nil w first (lst life)).add (life:=life + 1) h.w h.l e rfl h.f0 (by have:(Ad4 (life + 1) w first [] e).length=(Ao e w).length:=k1; omega) (by show life≤life + 1; omega) (by decide:(0:Int)≠1)
 exact a.add h.w h.l ⟨#[]⟩ rfl h.f0 (by have:(Ad4 (life + 1) w first (Ad4 (life + 1) w first [] e) ⟨#[]⟩).length=(Ao e w).length + 1:=k2; omega) (Int.le_refl _) (by decide:(2:Int)≠1)
theorem As0.s3:SA w first (lst life) (Agh w first life e e3) (2,life + 1,z0,[e,⟨#[]⟩,e3],((Agh w first life e e3).length:Int),life + 1):=by
 obtain ⟨k1,k2,k3⟩:=h.len
 have kn:=h.num
 have hf:=h.f1
 exact h.s2.add h.w h.l e3 rfl h.f0 (by have:(Ad4 (life + 1) w first (Ba7 w first life e) e3).length=(Ao e w).length + 1 + (Ao e3 w).length:=k3; omega) (Int.le_refl _) (by decide:(2:Int)≠1)
theorem As0.part (R:List Aa) (hR:∀ i st,Cx w first R i st=Sg st):
  Cx w first ((Agh w first life e e3).take ((Agh w first life e e3).length - 1)++R) 0 (lst life)=([e,⟨#[]⟩],((Ao e w).length:Int) + 1,life + 1,()):=by
 obtain ⟨k1,k2,k3⟩:=h.len
 have kn:=h.num
 have hf:=h.f1
 obtain ⟨st',i,q1,q2⟩:=h.s2.part h.w h.l e3 h.f0 (by have:(Ad4 (life + 1) w first (Ba7 w first life e) e3).length=(Ao e w).length + 1 + (Ao e3 w).length:=k3; omega) (Int.le_refl _) (by decide:(2:Int)≠1) R
 have q2:Cx w first ((Agh w first life e e3).take ((Agh w first life e e3).length - 1)++R) 0 (lst life)=Cx w first R i st':=q2
 rw [q2,hR,Bnk q1]
 show ([e,⟨#[]⟩],((Ba7 w first life e).length:Int),life + 1,())=_
 rw [k2]
 rfl
variable {d:Dk} (hd:LD d (lay (Agh w first life e e3)) (Agh w first life e e3).length)
include hd
theorem As0.t0:Ua d 2 90 first life w=([e,⟨#[]⟩,e3],((Agh w first life e e3).length:Int),life + 1,()):=by
 have kn:=h.num
 obtain ⟨R,hR⟩:=Bnj (A:=Agh w first life e e3) (by omega)
 have q:=hd.scan h.w first life (m:=90) (Nat.le_refl _)
 rw [List.take_of_length_le (by rw [hd.len]; omega),hR] at q
 exact q.trans ((h.s3 _).trans (Bks h.w _ _ _ _))
omit hd in
theorem As0.t1 {R:List Aa} {d':Dk} {k:Nat} (hd':LD d' (Agh w first life e e3++R) k) (hs:∀ i,i=((Agh w first life e e3).length:Int)→Sg ((2,life + 1,z0,[e,⟨#[]⟩,e3],((Agh w first life e e3).length:Int),life + 1):Wd)=Cx w first R i (2,life + 1,z0,[e,⟨#[]⟩,e3],((Agh w first life e e3).length:Int),life + 1)):
  Ua d' 2 90 first life w=([e,⟨#[]⟩,e3],((Agh w first life e e3).length:Int),life + 1,()):=by
 have q:=hd'.scan h.w first life (m:=90) (Nat.le_refl _)
 rw [List.take_of_length_le (by rw [hd'.len]; omega)] at q
 exact q.trans ((h.s3 _).trans (hs _ rfl).symm)
end
end
theorem Ba8 (s:Ez) (b:List Bc):Ak (Bs s b).2.1.2.2.2.2.2.2.1=true:=by
 unfold Bs
 cases As s with
 | false=>rfl
 | true=>
  cases Az b with
  | false=>rfl
  | true=>
   simp only [Bool.not_true,cond_false]
   cases (Bx s.2.2.2.2.2.2.1 b).2 != 0 with
   | true=>rfl
   | false=>
    simp only [cond_false]
    cases decide (C5 (Bx s.2.2.2.2.2.2.1 b).1 s.1 > Al s.2.1 - 1) with
    | true=>rfl
    | false=>
     simp only [cond_false]
     cases decide (nI (Em s b).length > Al s.2.1 - s.2.2.2.2.1) with
     | true=>rfl
     | false=>exact Aa3 _ _
theorem Bed {s:Ez} (h:Ak s.2.2.2.2.2.2.1=true):Ak (Kk s).2.1.2.2.2.2.2.2.1=true:=by
 unfold Kk
 cases As s with
 | false=>rfl
 | true=>exact h
theorem A6x {s:Ez} (h:Ak s.2.2.2.2.2.2.1=true):Ak (F1 s).2.1.2.2.2.2.2.2.1=true:=by
 unfold F1
 cases As s with
 | false=>rfl
 | true=>exact Ayn h
structure XOk (x:Pl):Prop where
 g:Kl Bd2 x=true
 s:Ak x.2.1.2.2.2.2.2.2.1=true
theorem XOk.opens (d:Dk) (w:Int):XOk (L8 d w):=⟨Bkp d w,Bg0 d w⟩
theorem XOk.commits (s:Ez) (b:List Bc):XOk (Bs s b):=⟨Bd7 s b,Ba8 s b⟩
theorem XOk.flushs {s:Ez} (h:Ak s.2.2.2.2.2.2.1=true):XOk (Kk s):=⟨Bgt s,Bed h⟩
theorem XOk.compacts {s:Ez} (h:Ak s.2.2.2.2.2.2.1=true):XOk (F1 s):=⟨Ba2 s,A6x h⟩
theorem XOk.none:XOk (Aap 0):=⟨rfl,rfl⟩
theorem XOk.ops {x:Pl} (h:XOk x):x.2.2.1.length≤1073741824:=by
 have hg:=h.g
 simp only [Kl,Bool.and_eq_true,decide_eq_true_eq] at hg
 exact hg.2.2.1.1
def Db (ops:List Dc):List Aa:=(ops.filter fun o=>!o.1).map fun o=>o.2.2.1
def Ih (w:Bo) (e:T8):Pl×Bool:=
 bif e.1==1 then (L8 w.2.1 w.1,!w.2.2.1) else bif e.1==2 then (Bs w.2.2.2.1 e.2.1,w.2.2.1) else bif e.1==3 then (Kk w.2.2.2.1,w.2.2.1) else bif e.1==4 then (F1 w.2.2.2.1,w.2.2.1) else (Aap 0,false)
def Wf (e:T8) (x:Pl):Bool:=decide (0≤e.2.2.1)&&decide (e.2.2.1≤(x.2.2.1.length:Int))
def Vr (e:T8) (x:Pl):Int:=bif Wf e x then e.2.2.1 else (x.2.2.1.length:Int)
def Gs (w:Bo) (e:T8) (x:Pl):List Aa:=w.2.2.2.2.2.1++Db (x.2.2.1.take (Vr e x).toNat)
def E7 (w:Bo) (e:T8) (x:Pl):List Cv:=bif e.1==2 then w.2.2.2.2.1++[x.2.1.2.2.2.2.2.2.1] else w.2.2.2.2.1
def Om (w:Bo) (e:T8) (x:Pl):Bool:=decide ((Gs w e x).length > 2000) || decide ((E7 w e x).length > 200)
def Cc (w:Bo) (e:T8) (x:Pl):Bo:=
 bif Om w e x then w else
 bif Wf e x then (w.1,Eo (B9 w.2.1 x.2.2.1 (Vr e x)) e.2.2.2.1,false,Vt,E7 w e x,Gs w e x,())
 else (w.1,B9 w.2.1 x.2.2.1 (Vr e x),true,x.2.1,(bif e.1==2 then E7 w e x else [x.2.1.2.2.2.2.2.2.1]),Gs w e x,())
def j7 (w:Bo) (f:List Int):Bo:=(w.1,Eo w.2.1 f,false,Vt,w.2.2.2.2)
def Ou (w:Bo) (e:T8):Bo:=bif e.1==5 then j7 w e.2.2.2.1 else bif !(Ih w e).2 || (Ih w e).1.1 != 0 then w else Cc w e (Ih w e).1
theorem Bi2 {ops:List Dc} {i:Nat} (k:Nat) (h:i < ops.length):Db ((ops.drop i).take (k + 1))=(bif (ops.getD i zOp).1 then [] else [(ops.getD i zOp).2.2.1])++Db ((ops.drop (i + 1)).take k):=by
 rw [Wa ops i zOp h,List.take_succ_cons]
 unfold Db
 rw [List.filter_cons]
 cases (ops.getD i zOp).1<;>rfl
theorem Agi {w:Bo} {e:T8} {x:Pl} (h:Om w e x=true):Cc w e x=w:=by unfold Cc; rw [h]; rfl
theorem Awb {w:Bo} {e:T8} {x:Pl} (h:Om w e x=false) (hc:Wf e x=true):Cc w e x=(w.1,Eo (B9 w.2.1 x.2.2.1 (Vr e x)) e.2.2.2.1,false,Vt,E7 w e x,Gs w e x,()):=by unfold Cc; rw [h,hc]; rfl
theorem A33 {w:Bo} {e:T8} {x:Pl} (h:Om w e x=false) (hc:Wf e x=false):Cc w e x=(w.1,B9 w.2.1 x.2.2.1 (Vr e x),true,x.2.1,(bif e.1==2 then E7 w e x else [x.2.1.2.2.2.2.2.2.1]),Gs w e x,()):=by unfold Cc; rw [h,hc]; rfl
theorem Agj {w:Bo} {e:T8} {x:Pl} {a b:Bool} (h1:decide ((Gs w e x).length > 2000)=a) (h2:decide ((E7 w e x).length > 200)=b):Om w e x=(a || b):=by unfold Om; rw [h1,h2]
theorem A34 {α:Type} {l:List α} {i:Nat} {z:α} (h:i < l.length):l.take (i + 1)=l.take i++[l.getD i z]:=by
 rw [List.take_add_one]
 simp [List.getD,h]
def unW (x:Int×List Aa×List Wr×Bool×Int×Int×Int×Int×Int×Int×Int×Int×Int×List A2×List Cv×List Aa×Unit):Bo:=
 (x.1,(x.2.1,x.2.2.1,()),x.2.2.2.1,(x.2.2.2.2.1,x.2.2.2.2.2.1,x.2.2.2.2.2.2.1,(x.2.2.2.2.2.2.2.1,x.2.2.2.2.2.2.2.2.1,x.2.2.2.2.2.2.2.2.2.1,x.2.2.2.2.2.2.2.2.2.2.1,()),x.2.2.2.2.2.2.2.2.2.2.2.1,x.2.2.2.2.2.2.2.2.2.2.2.2.1,(x.2.2.2.2.2.2.2.2.2.2.2.2.2.1,()),()),x.2.2.2.2.2.2.2.2.2.2.2.2.2.2.1,x.2.2.2.2.2.2.2.2.2.2.2.2.2.2.2.1,())
theorem Bi3:∀ (l:List Dc) (d:Dk),(l.foldl opS d).1.length=d.1.length
 | [],_=>rfl
 | o::l,d=>by
  show (l.foldl opS (opS d o)).1.length=_
  rw [Bi3 l]
  unfold opS
  cases o.1 with
  | true=>exact T9 _ _
  | false=>
   simp only [cond_false]
   cases Aiy d.1.length (o.2.1,o.2.2.1,())&&decide (d.2.1.length < 300)<;>rfl
theorem Ba9 {d:Dk} (h:Ap d=true) (ops:List Dc) (m:Int):Ap (B9 d ops m)=true∧(B9 d ops m).1.length=d.1.length:=by
 unfold B9
 rw [h]
 exact ⟨(If.ops _ (Ki h)).valid,Bi3 _ _⟩
theorem Awc {d:Dk} (h:Ap d=true) (f:List Int):Ap (Eo d f)=true∧(Eo d f).1.length=d.1.length:=by
 have hd:=Ki h
 have ht:=Bio h f
 unfold Eo
 rw [h]
 have hl:(Rx f d.1 d.2.1).length=d.1.length:=ht.1
 have n8:=hd.n8
 have n2:=hd.n200
 refine ⟨If.valid ⟨?_,?_,Nat.zero_le _,fun i hi=>?_,fun i hi=>by cases hi⟩,hl⟩
 ·show 8≤(Rx f d.1 d.2.1).length; omega
 ·show (Rx f d.1 d.2.1).length≤200; omega
 ·exact ht.2 i (by have hi:i < (Rx f d.1 d.2.1).length:=hi; omega)
structure WOk (w:Bo):Prop where
 v:Ap w.2.1=true
 hw:Bq w.1 1 8=true
 n40:w.2.1.1.length≤40
 s:Ak w.2.2.2.1.2.2.2.2.2.2.1=true
 n:w.2.2.2.2.1.length≤200
 p:∀ x∈w.2.2.2.2.1,Ak x=true
 l:w.2.2.2.2.2.1.length≤2000
 f:As w.2.2.2.1=true→w.2.2.2.1.2.1=(w.2.1.1.length:Int)
theorem Bg6:As Vt=false:=by decide +kernel
theorem A9i (s:Ez) (h:(Ub s).1=0):(Ub s).2.1.2.1=s.2.1:=by
 unfold Ub j5 at *
 cases h1:decide (s.2.2.2.1.1 + 1 > 1000000000) with
 | true=>rw [h1] at h; cases h
 | false=>
  rw [h1] at h
  cases h2:decide (s.2.2.2.1.2.2.1 + Al s.2.1 > 999999000) with
  | true=>rw [h2] at h; cases h
  | false=>rfl
theorem Bnl (d:Dk) (w:Int) (h:(L8 d w).1=0):(L8 d w).2.1.2.1=(d.1.length:Int):=by
 unfold L8 at *
 cases h1:Ap d with
 | false=>rw [h1] at h; cases h
 | true=>
  rw [h1] at h
  cases h2:Bq w 1 8 with
  | false=>rw [h2] at h; cases h
  | true=>
   rw [h2] at h
   simp only [Bool.not_true,cond_false] at h ⊢
   cases h3:E1 (Fs d w).1 Ye with
   | none=>rw [h3] at h; cases h
   | some st=>
    rw [h3] at h
    simp only at h ⊢
    by_cases q1:(Fs d w).2.2.1 + 1 > 60000
    ·rw [Ba5 q1] at h; cases h
    ·by_cases q2:C5 st w > Al d.1.length - 1
     ·rw [Ba6 q1 q2] at h; cases h
     ·by_cases q3:(Fs d w).2.1 < Al d.1.length
      ·rw [A1r q1 q2 q3]
      ·rw [A1s q1 q2 q3] at h ⊢
       rw [A9i _ h]
theorem Aqm (s:Ez) (b:List Bc) (h:(Bs s b).1=0):As s=true∧(Bs s b).2.1.2.1=s.2.1:=by
 unfold Bs at *
 cases h1:As s with
 | false=>rw [h1] at h; cases h
 | true=>
  rw [h1] at h
  cases h2:Az b with
  | false=>rw [h2] at h; cases h
  | true=>
   rw [h2] at h
   simp only [Bool.not_true,cond_false] at h ⊢
   cases h3:(Bx s.2.2.2.2.2.2.1 b).2 != 0 with
   | true=>rw [h3] at h; cases h
   | false=>
    rw [h3] at h
    cases h4:decide (C5 (Bx s.2.2.2.2.2.2.1 b).1 s.1 > Al s.2.1 - 1) with
    | true=>rw [h4] at h; cases h
    | false=>
     rw [h4] at h
     simp only [cond_false] at h ⊢
     cases h5:decide (nI (Em s b).length > Al s.2.1 - s.2.2.2.2.1) with
     | true=>rw [h5] at h; cases h
     | false=>exact ⟨trivial,rfl⟩
theorem Bkt (s:Ez) (h:(Kk s).1=0):As s=true∧(Kk s).2.1.2.1=s.2.1:=by
 unfold Kk at *
 cases h1:As s with
 | false=>rw [h1] at h; cases h
 | true=>exact ⟨rfl,rfl⟩
theorem Bee (s:Ez) (h:(F1 s).1=0):As s=true∧(F1 s).2.1.2.1=s.2.1:=by
 unfold F1 at *
 cases h1:As s with
 | false=>rw [h1] at h; cases h
 | true=>rw [h1] at h; exact ⟨rfl,A9i s h⟩
theorem Bnm {w:Bo} (hf:As w.2.2.2.1=true→w.2.2.2.1.2.1=(w.2.1.1.length:Int)) (e:T8) (h2:(Ih w e).2=true) (h:(Ih w e).1.1=0):(Ih w e).1.2.1.2.1=(w.2.1.1.length:Int):=by
 unfold Ih at *
 cases h1:(e.1==1) with
 | true=>rw [h1] at h; exact Bnl _ _ h
 | false=>
  rw [h1] at h h2
  cases h3:(e.1==2) with
  | true=>rw [h3] at h; have:=Aqm _ _ h; exact this.2.trans (hf this.1)
  | false=>
   rw [h3] at h h2
   cases h4:(e.1==3) with
   | true=>rw [h4] at h; have:=Bkt _ h; exact this.2.trans (hf this.1)
   | false=>
    rw [h4] at h h2
    cases h5:(e.1==4) with
    | true=>rw [h5] at h; have:=Bee _ h; exact this.2.trans (hf this.1)
    | false=>rw [h5] at h2; cases h2
theorem WOk.d {w:Bo} (h:WOk w):Kl tDk w.2.1=true:=(Ki h.v).good
theorem XOk.calls {w:Bo} (h:WOk w) (e:T8):XOk (Ih w e).1:=by
 unfold Ih
 cases e.1==1 with
 | true=>exact XOk.opens _ _
 | false=>
  cases e.1==2 with
  | true=>exact XOk.commits _ _
  | false=>
   cases e.1==3 with
   | true=>exact XOk.flushs h.s
   | false=>
    cases e.1==4 with
    | true=>exact XOk.compacts h.s
    | false=>exact XOk.none
theorem WOk.loss {w:Bo} (h:WOk w) (f:List Int):WOk (j7 w f):=
 ⟨(Awc h.v f).1,h.hw,by show (Eo w.2.1 f).1.length≤40; rw [(Awc h.v f).2]; exact h.n40,rfl,h.n,h.p,h.l,fun q=>by rw [show (j7 w f).2.2.2.1=Vt from rfl,Bg6] at q; cases q⟩
theorem Bi4 {w:Bo} (h:WOk w) (e:T8) {x:Pl} (hx:XOk x):∀ y∈E7 w e x,Ak y=true:=fun y hy=>by
 unfold E7 at hy
 cases hk:(e.1==2) with
 | true=>
  rw [hk] at hy
  rcases List.mem_append.1 hy with q | q
  ·exact h.p y q
  ·rw [List.mem_singleton.1 q]; exact hx.s
 | false=>rw [hk] at hy; exact h.p y hy
theorem WOk.doI {w:Bo} (h:WOk w) (e:T8):WOk (Ou w e):=by
 unfold Ou
 cases (e.1==5) with
 | true=>exact h.loss _
 | false=>
  simp only [cond_false]
  have hx:=XOk.calls h e
  have hfit:=Bnm h.f e
  generalize (Ih w e).1=x at *
  generalize (Ih w e).2=a at *
  cases ha:!a || x.1 != 0 with
  | true=>exact h
  | false=>
   simp only [cond_false]
   rw [Bool.or_eq_false_iff] at ha
   have hfit:=hfit (by simpa using ha.1) (by simpa using ha.2)
   unfold Cc
   cases hf:Om w e x with
   | true=>exact h
   | false=>
    unfold Om at hf
    simp only [Bool.or_eq_false_iff,decide_eq_false_iff_not] at hf
    obtain ⟨f1,f2⟩:=hf
    have k:=Ba9 h.v x.2.2.1 (Vr e x)
    cases Wf e x with
    | true=>
     have k2:=Awc k.1 e.2.2.2.1
     exact ⟨k2.1,h.hw,by show (Eo _ _).1.length≤40; rw [k2.2,k.2]; exact h.n40,rfl,by show (E7 w e x).length≤200; omega,Bi4 h e hx,by show (Gs w e x).length≤2000; omega,fun q=>by have q:As Vt=true:=q; rw [Bg6] at q; cases q⟩
    | false=>
     refine ⟨k.1,h.hw,by show (B9 _ _ _).1.length≤40; rw [k.2]; exact h.n40,hx.s,?_,?_,by show (Gs w e x).length≤2000; omega,fun _=>by show x.2.1.2.1=((B9 _ _ _).1.length:Int); rw [k.2]; exact hfit⟩
     ·show (bif e.1==2 then E7 w e x else [_]).length≤200
      cases (e.1==2)
      ·show 1≤200; omega
      ·show (E7 w e x).length≤200; omega
     ·intro y hy
      have hy:y∈(bif e.1==2 then E7 w e x else [x.2.1.2.2.2.2.2.2.1]):=hy
      cases hk:(e.1==2) with
      | true=>rw [hk] at hy; exact Bi4 h e hx y hy
      | false=>rw [hk] at hy; rw [List.mem_singleton.1 hy]; exact hx.s
theorem Bpm {a:Int} (h:Bq a 8 200=true):Kh a=(List.replicate a.toNat zS,[],()):=by unfold Kh; rw [h]; rfl
theorem A1w {a:Int} (h:Bq a 8 200=true):Ap (Kh a)=true∧(Kh a).1.length=a.toNat:=by
 obtain ⟨h1,h2⟩:=Cw h
 rw [Bpm h]
 have hl:(List.replicate a.toNat zS).length=a.toNat:=by simp
 refine ⟨If.valid ⟨?_,?_,Nat.zero_le _,fun i hi=>?_,fun i hi=>by cases hi⟩,hl⟩
 ·show 8≤(List.replicate a.toNat zS).length; omega
 ·show (List.replicate a.toNat zS).length≤200; omega
 ·have hi:i < (List.replicate a.toNat zS).length:=hi
  have hi:i < a.toNat:=by rw [← hl]; exact hi
  have e:(List.replicate a.toNat zS).getD i z0=zS:=by simp [List.getD,hi]
  show ((List.replicate a.toNat zS).getD i z0).size=64
  rw [e]
  decide +kernel
def Beg (a w:Int):Bo:=(w,Kh a,false,Vt,[([],())],[],())
theorem WOk.new {a w:Int} (h:Bq a 8 40=true) (hw:Bq w 1 8=true):WOk (Beg a w):=by
 obtain ⟨h1,h2⟩:=Cw h
 have k:=A1w (a:=a) (by unfold Bq; rw [Af h1,Af (show a≤200 by omega)]; rfl)
 exact ⟨k.1,hw,by show (Kh a).1.length≤40; rw [k.2]; omega,rfl,by show 1≤200; omega,fun x hx=>by rw [List.mem_singleton.1 hx]; rfl,Nat.zero_le _,fun q=>by have q:As Vt=true:=q; rw [Bg6] at q; cases q⟩
theorem Bku {s:Ez} {b:List Bc} (h:(Bs s b).1=0):0 < (Bs s b).2.2.1.length∧0≤((Bs s b).2.2.1.getD 0 zOp).2.1∧((Bs s b).2.2.1.getD 0 zOp).2.1 < s.2.1∧((Bs s b).2.2.1.getD 0 zOp).2.2.1.size=64:=by
 have hv:=(Aqm s b h).1
 obtain ⟨h1,h2,h3,h4,h5,h6,h7,h8,h9,h10⟩:=Xf hv
 obtain ⟨r1,r2⟩:=B2 h6
 have r1:=Cw r1
 have r2:=Cw r2
 have n1:=Cw h1
 have hN:Al s.2.1=(s.2.1 - 2) / 2:=by unfold Al; rw [h1]; rfl
 have hp:1≤(Ao (Be b) s.1).length∧(Ao (Be b) s.1).length≤101:=by
  have k1:=Adz (Be b) s.1
  rw [h2,cond_true] at k1
  have k3:=La b
  obtain ⟨w1,w2⟩:=Cw h2
  unfold E5 at k1
  rw [h2,cond_true] at k1
  have hc:s.1=1∨s.1=2∨s.1=3∨s.1=4∨s.1=5∨s.1=6∨s.1=7∨s.1=8:=by omega
  rcases hc with q | q | q | q | q | q | q | q<;>rw [q] at k1 ⊢<;>split at k1<;>omega
 have hl:Bq s.2.2.1 1 60000=true:=by unfold Bq; rw [Af h4.1,Af h4.2]; rfl
 have eP:Em s b=Ig s.2.2.1 s.1 (s.2.2.2.1.2.2.1 + s.2.2.2.2.1) (Ao (Be b) s.1):=Bg4 h2 hl (by omega) (by omega)
 unfold Bs at *
 rw [hv] at h ⊢
 cases g2:Az b with
 | false=>rw [g2] at h; cases h
 | true=>
  rw [g2] at h
  simp only [Bool.not_true,cond_false] at h ⊢
  cases g3:(Bx s.2.2.2.2.2.2.1 b).2 != 0 with
  | true=>rw [g3] at h; cases h
  | false=>
   rw [g3] at h
   cases g4:decide (C5 (Bx s.2.2.2.2.2.2.1 b).1 s.1 > Al s.2.1 - 1) with
   | true=>rw [g4] at h; cases h
   | false=>
    rw [g4] at h
    simp only [cond_false] at h ⊢
    cases g5:decide (nI (Em s b).length > Al s.2.1 - s.2.2.2.2.1) with
    | true=>rw [g5] at h; cases h
    | false=>
     have g5:=of_decide_eq_false g5
     obtain ⟨k1,k2,k3⟩:=Ad3 (Be b) h2
     have hall:=Bi1 h2 hl (Ao (Be b) s.1) (s.2.2.2.1.2.2.1 + s.2.2.2.2.1) k1 (by omega) (by omega)
     have hlen:=(Qf s.2.2.1 s.1 (Ao (Be b) s.1) (s.2.2.2.1.2.2.1 + s.2.2.2.2.1)).1
     rw [← eP] at hall hlen
     simp only [nI] at g5
     show 0 < (C9 (Bk s.2.2.2.1.2.1 s.2.1 + s.2.2.2.2.1) (Em s b)).length∧0≤((C9 (Bk s.2.2.2.1.2.1 s.2.1 + s.2.2.2.2.1) (Em s b)).getD 0 zOp).2.1∧((C9 (Bk s.2.2.2.1.2.1 s.2.1 + s.2.2.2.2.1) (Em s b)).getD 0 zOp).2.1 < s.2.1∧((C9 (Bk s.2.2.2.1.2.1 s.2.1 + s.2.2.2.2.1) (Em s b)).getD 0 zOp).2.2.1.size=64
     cases hc:Em s b with
     | nil=>rw [hc] at hlen; simp at hlen; omega
     | cons x L=>
      rw [hc] at hall
      have hb:0≤Bk s.2.2.2.1.2.1 s.2.1 + s.2.2.2.2.1∧Bk s.2.2.2.1.2.1 s.2.1 + s.2.2.2.2.1 < s.2.1:=by
       unfold Bk
       have:s.2.2.2.1.2.1=0∨s.2.2.2.1.2.1=1:=by omega
       rcases this with q | q<;>rw [q]<;>omega
      exact ⟨by simp [C9],hb.1,hb.2,hall x List.mem_cons_self⟩
def Bnn (w:Bo):Prop:=w.2.1.1.length≤1000∧w.2.1.2.1.length≤1000∧w.2.2.2.1.2.2.2.2.2.2.1.1.length≤1000∧w.2.2.2.2.1.length≤1000∧(∀ x∈w.2.2.2.2.1,x.1.length≤1000)∧w.2.2.2.2.2.1.length≤100000
theorem Bkv {w:Bo} (h:B7 w=true):Bnn w:=by
 obtain ⟨k1,k2,k3⟩:=Asz h
 have hd:=Ki k1
 have hn:=hd.n200
 have hp:=hd.p300
 unfold B7 at h
 obtain ⟨_,h⟩:=B2 h
 obtain ⟨_,h⟩:=B2 h
 obtain ⟨_,h⟩:=B2 h
 obtain ⟨_,h⟩:=B2 h
 obtain ⟨h5,h⟩:=B2 h
 obtain ⟨h6,h7⟩:=B2 h
 refine ⟨by omega,by omega,?_,by omega,fun x hx=>?_,by omega⟩
 ·unfold Pn at h5
  cases hu:w.2.2.1 with
  | true=>
   rw [hu] at h5
   have:=Cb (Xf (B2 h5).1).2.2.1
   omega
  | false=>
   rw [hu] at h5
   unfold Py at h5
   simp only [cond_false,Bool.and_eq_true,beq_iff_eq,nI] at h5
   omega
 ·obtain ⟨i,hi,rfl⟩:=Xn Ye hx
  have:=Cb (Wb h6 i hi)
  omega
theorem Ayq {s:Ez} (h:Py s=true):As s=false∧s.2.2.2.2.2.2.1.1=[]:=by
 unfold Py at h
 simp only [Bool.and_eq_true,beq_iff_eq,nI] at h
 obtain ⟨h1,h2,h3,h4,h5,h6,h7⟩:=h
 refine ⟨?_,List.length_eq_zero_iff.1 (by omega)⟩
 unfold As
 rw [h2]
 rfl
theorem Bkw {w:Bo} (h:B7 w=true) (h40:w.2.1.1.length≤40):WOk w:=by
 obtain ⟨k1,k2,k3⟩:=Asz h
 unfold B7 at h
 obtain ⟨h1,h⟩:=B2 h
 obtain ⟨_,h⟩:=B2 h
 obtain ⟨_,h⟩:=B2 h
 obtain ⟨_,h⟩:=B2 h
 obtain ⟨h5,h⟩:=B2 h
 obtain ⟨h6,h7⟩:=B2 h
 have hs:(As w.2.2.2.1=true∧w.2.2.2.1.2.1=(w.2.1.1.length:Int))∨Py w.2.2.2.1=true:=by
  unfold Pn at h5
  cases hu:w.2.2.1 with
  | true=>
   rw [hu] at h5
   obtain ⟨a,b⟩:=B2 h5
   obtain ⟨_,c⟩:=B2 b
   exact .inl ⟨a,by simpa [nI] using c⟩
  | false=>rw [hu] at h5; exact .inr h5
 refine ⟨k1,h1,h40,?_,k3.2,fun x hx=>?_,k2,fun q=>?_⟩
 ·rcases hs with ⟨a,_⟩ | a
  ·exact (Xf a).2.2.1
  ·have:=(Ayq a).2
   rw [show w.2.2.2.1.2.2.2.2.2.2.1=(w.2.2.2.1.2.2.2.2.2.2.1.1,()) from rfl,this]
   rfl
 ·obtain ⟨i,hi,rfl⟩:=Xn Ye hx
  exact Wb h6 i hi
 ·rcases hs with ⟨_,b⟩ | a
  ·exact b
  ·rw [(Ayq a).1] at q; cases q
theorem Bpn (a:List Dc) (o:Dc):Db (a++[o])=Db a++(bif o.1 then [] else [o.2.2.1]):=by
 unfold Db
 rw [List.filter_append,List.map_append]
 congr 1
 cases h:o.1<;>simp [h]
theorem Aj2 {b:List Bc} (h1:1≤b.length) (h2:b.length≤20) (h:∀ c∈b,Ro c=true):Az b=true:=by
 unfold Az Bq
 rw [Af (show (1:Int)≤(b.length:Int) by omega),Af (show (b.length:Int)≤20 by omega)]
 simp only [Bool.true_and,cond_true,Bool.and_self]
 refine List.all_eq_true.2 fun i hi=>?_
 have hi:=(List.mem_range'_1.1 hi).2
 rw [List.getD_eq_getElem?_getD,List.getElem?_eq_getElem (by omega),Option.getD_some]
 exact h _ (List.getElem_mem _)
theorem A9j {p:A2} (h:Bpe p):Ro (Z4 p)=true:=by
 obtain ⟨h1,h2⟩:=h
 unfold Ro Z4
 rw [h1,Af h2]
 rfl
theorem A1x {l m:List A2}:Srt (l++m)↔Srt l∧Srt m∧∀ x∈l,∀ y∈m,bl x.1 y.1=true:=List.pairwise_append
theorem A35:∀ {m l:List A2} {i:Nat},Srt (l++m)→Ds (fun _ c l=>Ann c l) i (m.map Z4) l=l++m
 | [],l,i,_=>by simp [Ds]
 | p::m,l,i,hs=>by
  show Ds (fun _ c l=>Ann c l) (i + 1) (m.map Z4) (Ann (Z4 p) l)=_
  have hs':Srt ((l++[p])++m):=by rw [List.append_assoc]; exact hs
  have e:Ann (Z4 p) l=l++[p]:=by
   obtain ⟨h1,h2,h3⟩:=A1x.1 (A1x.1 hs').1
   refine A1p (Agf _ _ h1) (A1x.1 hs').1 fun x=>?_
   unfold Ann
   rw [Z6]
   simp only [Z4,List.mem_append,List.mem_singleton]
   constructor
   ·rintro (⟨q,_⟩ | ⟨_,q⟩)
    ·exact .inl q
    ·exact .inr q
   ·rintro (q | q)
    ·exact .inl ⟨q,Bm7 (h3 x q p (by simp))⟩
    ·exact .inr ⟨trivial,q⟩
  rw [e,A35 hs',List.append_assoc]
  rfl
theorem A9k {l m:List A2} (h:Ak (l++m,())=true):Ak (l,())=true:=by
 have hl:=Cb h
 simp only [Dn] at hl
 exact Bd5 (by omega) (fun x hx=>Ane h x (List.mem_append_left _ hx)) (A1x.1 (Anc h)).1
theorem Bg7 {l m:List A2} (h:Ak (l++m,())=true) (h1:1≤m.length) (h2:m.length≤20):Bx (l,()) (m.map Z4)=((l++m,()),0):=by
 have hv:=A9k h
 have hb:Az (m.map Z4)=true:=Aj2 (by simpa using h1) (by simpa using h2) fun c hc=>by
  obtain ⟨p,hp,rfl⟩:=List.mem_map.1 hc
  exact A9j (Ane h p (List.mem_append_right _ hp))
 have e:Pz l (m.map Z4)=l++m:=A35 (Anc h)
 have hl:=Cb h
 unfold Bx
 rw [hv,hb]
 show (bif decide ((Pz l (m.map Z4)).length > 100) then _ else _)=_
 rw [e,Bd (show ¬ (l++m).length > 100 from Nat.not_lt.2 hl)]
 rfl
def A9l (L:List (List Bc)) (m:List A2):Prop:=L.flatten=m.map Z4∧∀ b∈L,1≤b.length∧b.length≤20
theorem A9l.cons {b:List Bc} {L:List (List Bc)} {m:List A2} (h:A9l (b::L) m):∃ x y,m=x++y∧b=x.map Z4∧1≤x.length∧x.length≤20∧A9l L y:=by
 obtain ⟨h1,h2⟩:=h
 obtain ⟨k1,k2⟩:=h2 b (by simp)
 rw [List.flatten_cons] at h1
 have hl:b.length≤m.length:=by
  have:=congrArg List.length h1
  simp only [Dn,List.length_map] at this
  omega
 have e1:b=(m.take b.length).map Z4:=by
  have:=congrArg (List.take b.length) h1
  rwa [List.take_left,← List.map_take] at this
 have e2:L.flatten=(m.drop b.length).map Z4:=by
  have:=congrArg (List.drop b.length) h1
  rwa [List.drop_left,← List.map_drop] at this
 have e3:(m.take b.length).length=b.length:=by simp; omega
 exact ⟨m.take b.length,m.drop b.length,(List.take_append_drop _ _).symm,e1,by omega,by omega,e2,fun c hc=>h2 c (by simp [hc])⟩
theorem A9m (c:Bool) (xs:List (List Bc)) (y:List Bc):(Z0 c xs y).flatten=xs.flatten++(bif c then y else []):=by
 cases c<;>simp [Z0]
theorem A9n:∀ (m:List A2) (i:Nat) (s:List (List Bc)×Bool×List Bc) (p:List A2),i=p.length→s.1.flatten++(bif s.2.1 then s.2.2 else [])=p.map Z4→(∀ b∈s.1,1≤b.length∧b.length≤20)→
  (0 < i→s.2.1=true)→(s.2.1=true→s.2.2.length=(if i % 20=0 then 20 else i % 20)∧0 < i)→A9l (let r:=Ds Mr i m s; Z0 r.2.1 r.1 r.2.2) (p++m)
 | [],i,s,p,hi,h1,h2,h3,h4=>by
  refine ⟨?_,fun b hb=>?_⟩
  ·show (Z0 s.2.1 s.1 s.2.2).flatten=_
   rw [A9m,h1,List.append_nil]
  ·have hb:b∈Z0 s.2.1 s.1 s.2.2:=hb
   cases hc:s.2.1 with
   | false=>rw [hc] at hb; exact h2 b hb
   | true=>
    rw [hc] at hb
    obtain ⟨h5,h6⟩:=h4 hc
    have hb:b∈s.1++[s.2.2]:=hb
    rcases List.mem_append.1 hb with q | q
    ·exact h2 b q
    ·rw [List.mem_singleton.1 q,h5]
     split<;>omega
 | x::m,i,s,p,hi,h1,h2,h3,h4=>by
  have key:=A9n m (i + 1) (Mr i x s) (p++[x]) (by simp [hi]) (by
   unfold Mr
   cases hq:i % 20==0 with
   | true=>
    simp only [cond_true]
    rw [A9m,h1]
    simp
   | false=>
    have hp:0 < i:=Nat.pos_of_ne_zero fun q=>by subst q; cases hq
    rw [h3 hp] at h1
    simp only [cond_false,h3 hp,cond_true] at h1 ⊢
    rw [← List.append_assoc,h1]
    simp) (by
   unfold Mr
   cases hq:i % 20==0 with
   | true=>
    simp only [cond_true]
    intro b hb
    cases hc:s.2.1 with
    | false=>rw [hc] at hb; exact h2 b hb
    | true=>
     rw [hc] at hb
     obtain ⟨h5,h6⟩:=h4 hc
     have hb:b∈s.1++[s.2.2]:=hb
     rcases List.mem_append.1 hb with q | q
     ·exact h2 b q
     ·rw [List.mem_singleton.1 q,h5]
      split<;>omega
   | false=>exact h2) (by
   intro _
   unfold Mr
   cases hq:i % 20==0 with
   | true=>rfl
   | false=>exact h3 (Nat.pos_of_ne_zero fun q=>by subst q; cases hq)) (by
   unfold Mr
   cases hq:i % 20==0 with
   | true=>
    intro _
    have hq:=beq_iff_eq.1 hq
    refine ⟨?_,by omega⟩
    show 1=_
    rw [if_neg (by omega)]
    omega
   | false=>
    intro hc
    have hq:=beq_eq_false_iff_ne.1 hq
    obtain ⟨h5,h6⟩:=h4 hc
    refine ⟨?_,by omega⟩
    show (s.2.2++[Z4 x]).length=_
    rw [Dn,En,h5,if_neg hq]
    split<;>omega)
  rw [List.append_assoc] at key
  exact key
theorem Bg8 {s:Cv} (h:Ak s=true):A9l (Ed s) s.1:=by
 unfold Ed
 rw [h,cond_true]
 exact A9n s.1 0 ([],false,[]) [] rfl rfl (fun b hb=>by cases hb) (fun q=>by omega) (fun q=>by cases q)
def Iy (w first:Int):List Aa→Int→Wd→Option Wd
 | [],_,s=>some s
 | x::r,i,s=>bif Gk w first i s x then Iy w first r (i + 1) (C6 i (Ay x w).1 s) else none
theorem Ry {w first i:Int} {s:Wd} {x:Aa} {r:List Aa} (h:Gk w first i s x=true):Iy w first (x::r) i s=Iy w first r (i + 1) (C6 i (Ay x w).1 s):=by
 show (bif Gk w first i s x then _ else _)=_
 rw [h]
 rfl
theorem Agk {w first:Int}:∀ (A:List Aa) {B:List Aa} {i:Int} {s:Wd},Iy w first (A++B) i s=(Iy w first A i s).bind (Iy w first B (i + A.length))
 | [],B,i,s=>by
  show Iy w first B i s=Iy w first B (i + ((0:Nat):Int)) s
  rw [show i + ((0:Nat):Int)=i by omega]
 | x::A,B,i,s=>by
  show (bif Gk w first i s x then Iy w first (A++B) (i + 1) _ else none)=(bif Gk w first i s x then Iy w first A (i + 1) _ else none).bind _
  cases Gk w first i s x with
  | false=>rfl
  | true=>
   simp only [cond_true]
   rw [Agk A,List.length_cons,show i + 1 + (A.length:Int)=i + ((A.length + 1:Nat):Int) by omega]
theorem A36 {w first:Int}:∀ {A:List Aa} {B:List Aa} {i:Int} {s t:Wd},Iy w first A i s=some t→Cx w first (A++B) i s=Cx w first B (i + A.length) t
 | [],B,i,s,t,h=>by
  cases h
  show Cx w first B i s=Cx w first B (i + ((0:Nat):Int)) s
  rw [show i + ((0:Nat):Int)=i by omega]
 | x::A,B,i,s,t,h=>by
  cases hx:Gk w first i s x with
  | false=>
   have:Iy w first (x::A) i s=none:=by show (bif Gk w first i s x then _ else _)=_; rw [hx]; rfl
   rw [this] at h; cases h
  | true=>
   rw [Ry hx] at h
   show Cx w first (x::(A++B)) i s=_
   rw [We hx,A36 h,List.length_cons,show i + 1 + (A.length:Int)=i + ((A.length + 1:Nat):Int) by omega]
theorem Uc {i:Int} {p:Pg} {s:Wd}:(C6 i p s).2.1=p.2.1:=by
 unfold C6
 cases (p.1==1)
 ·cases (p.1==2)<;>rfl
 ·rfl
theorem Awd {wk wl:Int} {p:Pg} (h:Xp wk wl p=true):wl≤p.2.1:=by
 unfold Xp at h
 cases hc:decide (p.2.1 < wl) with
 | true=>rw [hc] at h; cases h
 | false=>have:=of_decide_eq_false hc; omega
theorem Bkx {wk wl:Int} {p:Pg} (h:Xp wk wl p=true):p.1=1∨p.1=2∨(p.1=3∧wk≠1):=by
 unfold Xp at h
 cases hc:decide (p.2.1 < wl) with
 | true=>rw [hc] at h; cases h
 | false=>
  rw [hc] at h
  simp only [cond_false] at h
  by_cases h3:p.1=3
  ·rw [h3] at h
   exact .inr (.inr ⟨h3,bne_iff_ne.1 h⟩)
  ·rw [beq_eq_false_iff_ne.2 h3] at h
   simp only [cond_false] at h
   by_cases h1:p.1=1
   ·exact .inl h1
   ·by_cases h2:p.1=2
    ·exact .inr (.inl h2)
    ·rw [beq_eq_false_iff_ne.2 h1,beq_eq_false_iff_ne.2 h2] at h
     cases h
structure Bno (w first i:Int) (s:Wd) (x:Aa) (p:Pg):Prop where
 r:Ay x w=(p,true)
 n:p.2.2.1=first + i
 g:Xp s.1 s.2.1 p=true
theorem Anh {w first i:Int} {s:Wd} {x:Aa} (h:Gk w first i s x=true):Bno w first i s x (Ay x w).1:=by
 unfold Gk at h
 obtain ⟨h1,h2⟩:=B2 h
 obtain ⟨h2,h3⟩:=B2 h2
 have h2:(Ay x w).1.2.2.1 - i=first:=by simpa using h2
 exact ⟨Prod.ext rfl h1,by omega,h3⟩
theorem Bno.ok {w first i:Int} {s:Wd} {x:Aa} {p:Pg} (h:Bno w first i s x p):Gk w first i s x=true:=by
 unfold Gk
 rw [h.r]
 have e:(p.2.2.1 - i==first)=true:=beq_iff_eq.2 (by have:=h.n; omega)
 simp only [e,h.g,Bool.and_self]
theorem Ad6 {w first:Int}:∀ {A:List Aa} {i:Int} {s t:Wd},Iy w first A i s=some t→s.2.1≤t.2.1
 | [],i,s,t,h=>by cases h; exact Int.le_refl _
 | x::A,i,s,t,h=>by
  cases hx:Gk w first i s x with
  | false=>
   have:Iy w first (x::A) i s=none:=by show (bif Gk w first i s x then _ else _)=_; rw [hx]; rfl
   rw [this] at h; cases h
  | true=>
   rw [Ry hx] at h
   have h1:=Ad6 h
   have h2:=Awd (Anh hx).g
   rw [Uc] at h1
   omega
structure Clo (i:Int) (s:Wd):Prop where
 k:s.1≠1
 o:s.2.2.1=z0
 u:s.2.2.2.2.1=i
 l:s.2.2.2.2.2=s.2.1
theorem Beh {i:Int} {p:Pg} {s:Wd} (h:p.1≠1):Clo (i + 1) (C6 i p s):=by
 unfold C6
 rw [beq_eq_false_iff_ne.2 h]
 simp only [cond_false]
 cases hk:(p.1==2)
 ·exact ⟨h,rfl,rfl,rfl⟩
 ·exact ⟨show (2:Int)≠1 by decide,rfl,rfl,rfl⟩
theorem Bky {i:Int} {p:Pg} {s:Wd} (h:p.1=1):C6 i p s=(1,p.2.1,s.2.2.1++p.2.2.2.1,s.2.2.2):=by
 unfold C6
 rw [h]
 rfl
theorem Aqn {w first:Int}:∀ (B:List Aa) (i:Int) (s:Wd),(∃ A R t,B=A++R∧Iy w first A i s=some t∧Clo (i + A.length) t∧Cx w first B i s=Sg t)∨Cx w first B i s=Sg s
 | [],i,s=>.inr rfl
 | x::B,i,s=>by
  cases hx:Gk w first i s x with
  | false=>exact .inr (Ang hx)
  | true=>
   have hs:=We (r:=B) hx
   rcases Aqn B (i + 1) (C6 i (Ay x w).1 s) with ⟨A,R,t,h1,h2,h3,h4⟩ | h
   ·refine .inl ⟨x::A,R,t,by rw [h1]; rfl,by rw [Ry hx]; exact h2,?_,by rw [hs]; exact h4⟩
    rw [List.length_cons,show i + ((A.length + 1:Nat):Int)=i + 1 + (A.length:Int) by omega]
    exact h3
   ·by_cases h1:(Ay x w).1.1=1
    ·refine .inr ?_
     rw [hs,h,Bky h1]
     rfl
    ·refine .inl ⟨[x],B,_,rfl,by rw [Ry hx]; rfl,?_,by rw [hs]; exact h⟩
     exact Beh h1
theorem Awe {w first life:Int} (hw:Bq w 1 8=true) (hl:Bq life 1 60000=true):∀ (P:List Aa) (i:Int) (st:Wd),P≠[]→(∀ p∈P,(p.size:Int)≤56 - w)→1≤first + i→first + i + P.length≤1000000001→
  st.2.1≤life→(st.1=1→st.2.1=life)→Iy w first (Ig life w (first + i) P) i st=some (2,life,z0,st.2.2.2.1++[st.2.2.1++cat P],i + P.length,life)
 | [],_,_,h,_,_,_,_,_=>absurd rfl h
 | [p],i,st,_,hs,h1,h2,h3,h4=>by
  have ok:Ee (2,life,first + i,p,()) w=true:=Z7 hw hl (.inr rfl) h1 (by simp only [En] at h2; omega) (hs p (by simp))
  show Iy w first (Ca (2,life,first + i,p,()) w::[]) i st=_
  rw [Ry (by rw [c7 ok,c9 (.inr rfl) h3 h4]; simp),In ok]
  have e:cat [p]=p:=A1v p
  rw [e]
  rfl
 | p::q::r,i,st,_,hs,h1,h2,h3,h4=>by
  simp only [List.length_cons] at h2
  have ok:Ee (1,life,first + i,p,()) w=true:=Z7 hw hl (.inl rfl) h1 (by omega) (hs p (by simp))
  show Iy w first (Ca (1,life,first + i,p,()) w::Ig life w (first + i + 1) (q::r)) i st=_
  rw [Ry (by rw [c7 ok,c9 (.inl rfl) h3 h4]; simp),In ok,show first + i + 1=first + (i + 1) by omega]
  rw [Awe hw hl (q::r) (i + 1) _ (by simp) (fun x hx=>hs x (by simp only [List.mem_cons] at hx ⊢; exact .inr hx)) (by omega) (by simp only [List.length_cons]; omega) (Int.le_refl life) (fun _=>rfl)]
  have e1:i + 1 + ((q::r).length:Int)=i + ((p::q::r).length:Int):=by simp only [List.length_cons]; omega
  have e2:(C6 i (1,life,first + i,p,()) st).2.2.2.1=st.2.2.2.1:=rfl
  have e3:(C6 i (1,life,first + i,p,()) st).2.2.1=st.2.2.1++p:=rfl
  have e4:cat (p::q::r)=p++cat (q::r):=rfl
  rw [e1,e2,e3,e4,ByteArray.append_assoc]
theorem Bei {w first life:Int} (hw:Bq w 1 8=true) (hl:Bq life 1 60000=true):∀ (P:List Aa) (i:Int) (st:Wd) (m:Nat),m < P.length→(∀ p∈P,(p.size:Int)≤56 - w)→1≤first + i→first + i + P.length≤1000000001→
  st.2.1=life→∃ st':Wd,st'.2.2.2=st.2.2.2∧st'.2.1=life∧Iy w first ((Ig life w (first + i) P).take m) i st=some st'
 | P,i,st,0,_,_,_,_,h=>⟨st,rfl,h,by simp [Iy]⟩
 | [],_,_,m + 1,h,_,_,_,_=>by simp at h
 | [p],_,_,m + 1,h,_,_,_,_=>by simp at h
 | p::q::r,i,st,m + 1,hm,hs,h1,h2,h3=>by
  simp only [List.length_cons] at h2 hm
  have ok:Ee (1,life,first + i,p,()) w=true:=Z7 hw hl (.inl rfl) h1 (by omega) (hs p (by simp))
  obtain ⟨st',k1,k2,k3⟩:=Bei (first:=first) hw hl (q::r) (i + 1) (C6 i (1,life,first + i,p,()) st) m (by simp only [List.length_cons]; omega) (fun x hx=>hs x (by simp only [List.mem_cons] at hx ⊢; exact .inr hx)) (by omega) (by simp only [List.length_cons]; omega) rfl
  refine ⟨st',k1,k2,?_⟩
  show Iy w first (Ca (1,life,first + i,p,()) w::((Ig life w (first + i + 1) (q::r)).take m)) i st=_
  rw [Ry (by rw [c7 ok,c9 (.inl rfl) (Int.le_of_eq h3) (fun _=>h3)]; simp),In ok,show first + i + 1=first + (i + 1) by omega,k3]
def qP (L w:Int):Int→List Aa→List Aa
 | _,[]=>[]
 | k,e::E=>Ig L w k (Ao e w)++qP L w (k + (Ao e w).length) E
theorem Aa5 (L w k:Int) (e:Aa) (E:List Aa):(qP L w k (e::E)).length=(Ao e w).length + (qP L w (k + (Ao e w).length) E).length:=by
 show (Ig L w k (Ao e w)++qP L w (k + (Ao e w).length) E).length=_
 rw [Dn,(Qf _ _ _ _).1]
theorem Bba (L w:Int):∀ (E:List Aa) (k k':Int) ,(qP L w k E).length=(qP L w k' E).length
 | [],_,_=>rfl
 | e::E,k,k'=>by rw [Aa5,Aa5,Bba L w E _ (k' + (Ao e w).length)]
theorem Bg9 (L w:Int):∀ (E F:List Aa) (k:Int),qP L w k (E++F)=qP L w k E++qP L w (k + (qP L w k E).length) F
 | [],F,k=>by
  show qP L w k F=qP L w (k + ((0:Nat):Int)) F
  rw [show k + ((0:Nat):Int)=k by omega]
 | e::E,F,k=>by
  show Ig L w k (Ao e w)++qP L w (k + (Ao e w).length) (E++F)=(Ig L w k (Ao e w)++qP L w (k + (Ao e w).length) E)++_
  rw [Bg9 L w E F,List.append_assoc,Aa5,show k + ((Ao e w).length:Int) + ((qP L w (k + (Ao e w).length) E).length:Int)=k + (((Ao e w).length + (qP L w (k + (Ao e w).length) E).length:Nat):Int) by omega]
theorem Bi5 {w first L:Int} (hw:Bq w 1 8=true) (hl:Bq L 1 60000=true):∀ (E:List Aa) (i:Int) (s:Wd),Clo i s→1≤first + i→first + i + (qP L w (first + i) E).length≤1000000001→s.2.1=L→
  ∃ t,Iy w first (qP L w (first + i) E) i s=some t∧Clo (i + (qP L w (first + i) E).length) t∧t.2.1=L∧t.2.2.2.1=s.2.2.2.1++E
 | [],i,s,hc,_,_,h=>⟨s,rfl,by rw [show i + ((qP L w (first + i) []).length:Int)=i by show i + ((0:Nat):Int)=i; omega]; exact hc,h,by simp⟩
 | e::E,i,s,hc,h1,h2,h=>by
  rw [Aa5] at h2 ⊢
  obtain ⟨k1,k2,k3⟩:=Ad3 e hw
  have h2':=Bba L w E (first + i + (Ao e w).length) (first + (i + (Ao e w).length))
  have he:=Awe (first:=first) hw hl (Ao e w) i s k3 k1 h1 (by omega) (Int.le_of_eq h) (fun _=>h)
  rw [hc.o,Bg3,k2] at he
  obtain ⟨t,t1,t2,t3,t4⟩:=Bi5 (first:=first) hw hl E (i + (Ao e w).length) (2,L,z0,s.2.2.2.1++[e],i + (Ao e w).length,L) ⟨show (2:Int)≠1 by decide,rfl,rfl,rfl⟩ (by omega) (by omega) rfl
  refine ⟨t,?_,?_,t3,?_⟩
  ·show Iy w first (Ig L w (first + i) (Ao e w)++qP L w (first + i + (Ao e w).length) E) i s=_
   rw [Agk,he,Option.bind_some,(Qf _ _ _ _).1,show first + i + ((Ao e w).length:Int)=first + (i + (Ao e w).length) by omega]
   exact t1
  ·rw [h2',show i + (((Ao e w).length + (qP L w (first + (i + (Ao e w).length)) E).length:Nat):Int)=i + ((Ao e w).length:Int) + ((qP L w (first + (i + (Ao e w).length)) E).length:Int) by omega]
   exact t2
  ·rw [t4]
   simp
theorem Bej {w first L:Int} (hw:Bq w 1 8=true) (hl:Bq L 1 60000=true):∀ (E:List Aa) (i:Int) (s:Wd) (j:Nat),Clo i s→j≤(qP L w (first + i) E).length→1≤first + i→first + i + (qP L w (first + i) E).length≤1000000001→s.2.1=L→
  ∃ st n,n≤E.length∧Iy w first ((qP L w (first + i) E).take j) i s=some st∧st.2.1=L∧st.2.2.2.1=s.2.2.2.1++E.take n
 | [],i,s,j,_,_,_,_,h=>⟨s,0,Nat.le_refl 0,by simp [qP,Iy],h,by simp⟩
 | e::E,i,s,j,hc,hj,h1,h2,h=>by
  rw [Aa5] at h2 hj
  obtain ⟨k1,k2,k3⟩:=Ad3 e hw
  have hq:qP L w (first + i) (e::E)=Ig L w (first + i) (Ao e w)++qP L w (first + i + (Ao e w).length) E:=rfl
  have hlen:=(Qf L w (Ao e w) (first + i)).1
  by_cases q:j < (Ao e w).length
  ·obtain ⟨st,q1,q2,q3⟩:=Bei (first:=first) hw hl (Ao e w) i s j q k1 h1 (by omega) h
   refine ⟨st,0,Nat.zero_le _,?_,q2,by rw [q1]; simp⟩
   rw [hq,List.take_append_of_le_length (by omega)]
   exact q3
  ·have h2':=Bba L w E (first + i + (Ao e w).length) (first + (i + (Ao e w).length))
   have he:=Awe (first:=first) hw hl (Ao e w) i s k3 k1 h1 (by omega) (Int.le_of_eq h) (fun _=>h)
   rw [hc.o,Bg3,k2] at he
   obtain ⟨st,n,t0,t1,t2,t3⟩:=Bej (first:=first) hw hl E (i + (Ao e w).length) (2,L,z0,s.2.2.2.1++[e],i + (Ao e w).length,L) (j - (Ao e w).length) ⟨show (2:Int)≠1 by decide,rfl,rfl,rfl⟩ (by omega) (by omega) (by omega) rfl
   refine ⟨st,n + 1,by simp only [List.length_cons]; omega,?_,t2,?_⟩
   ·rw [hq,show j=(Ig L w (first + i) (Ao e w)).length + (j - (Ao e w).length) by omega,List.take_length_add_append,Agk,he,Option.bind_some,hlen,show first + i + ((Ao e w).length:Int)=first + (i + (Ao e w).length) by omega]
    exact t1
   ·rw [t3]
    simp
end Go.Proofs.YtfkefgbihlfjmaaGreat.V
end
