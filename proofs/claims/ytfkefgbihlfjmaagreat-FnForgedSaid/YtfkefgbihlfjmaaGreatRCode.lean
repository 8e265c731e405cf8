/- The evaluator, and that a body does what it tells. No condition. -/
import Derived.Test.YtfkefgbihlfjmaaGreatRSort
namespace Go.Proofs.YtfkefgbihlfjmaaGreat.R
open Go Go.RowKit
set_option linter.unusedVariables false
set_option linter.unusedSimpArgs false
inductive Ex where
 | normal
 | exit (id:Nat)
 | ret
def Ex.to:Ex→Exit
 | .normal=>.normal
 | .exit id=>.exit id
 | .ret=>.ret
structure Cfg where
 sigs:Tb
 np:Nat
 n:Nat
 pat:Nat→Pat×(Nat→Pat)
def chk {R:Type}:List Bool→Option R→Option R
 | [],k=>k
 | c::r,k=>bif c then chk r k else none
def Ajq {R:Type} (sg:Sig) (den:Tf sg.ps→Option (Tf sg.rs×BxD sg.ps)) (s:St) (nid:Nat) (vs:List Vl) (k:AV→St→Option R):Option R:=
 match shL sg.psh vs with
 | none=>none
 | some ls=>
  let sF:=s.frz (Kh s sg.ps ls)
  let sA:=if In sg.rs&&Nd sg.ps then s else sF
  match Of sF sg.ps ls with
  | none=>none
  | some q=>bif Rb (Bh q.2) then (bif Oo sA nid (Ks sg.rs) then (den q.1).bind fun r=>
   match shV sg.rsh (Aqs sg.rs r.1 nid) with
   | none=>none
   | some vs'=>k (Avh vs') ⟨sA.cell,Ls sg.rs r.1 nid (Ln sg.ps r.2 q.2 sA.res)⟩
   else none) else none
def St.lit (s:St) (x:Operand) (b:Bool):St:=match x with
 | .tmp t=>s.setCell t (.vl (.lf (.c (.bool b))))
 | _=>s
def A4d {R:Type} (s:St) (c x y:Operand) (k:AV→St→Option R):Option R:=match s.conc c with
 | some (.bool t)=>match Aq3 s x y with
  | some (p,q)=>k (.vl (.lf (.c (.bool (bif t then p else q))))) s
  | none=>bif t then k (s.op x) (s.lit c true) else k (s.op y) (s.lit c false)
 | _=>none
def Axp {R:Type} (P:Program) (T:Tb) (s:St) (nid:Nat) (o:Oper) (k:AV→St→Option R):Option R:=match Nh o with
 | some (f,xs)=>match Th s xs with
  | some vs=>match T.sd f with
   | some sd=>Ajq sd.sg sd.den s nid vs k
   | none=>match T.inl f with
    | some fn=>match A2s P T fn vs s nid with
     | some (cs,av,s')=>chk cs (k av s')
     | none=>none
    | none=>match A0j T s f vs with
     | some (cs,av,s')=>chk cs (k av s')
     | none=>none
  | none=>none
 | none=>match Ack s o with
  | some (f,xs,ls)=>match Th s xs with
   | some vs=>match T.sd f with
    | some sd=>Ajq sd.sg sd.den s nid (vs++A2q ls) k
    | none=>none
   | none=>none
  | none=>match o.op with
   | .pick c x y=>A4d s c x y k
   | _=>match U7 P s nid o with
    | some (cs,av,s')=>chk cs (k av s')
    | none=>none
def Avy {R:Type} (P:Program) (sigs:Tb) (s:St) (nid:Nat) (o:Oper) (k:AV→St→Option R):Option R:=
 let sl:=D2 o
 let ids:=Ri s o
 bif Oo s nid Akp then (bif Qx o s ids then Axp P sigs (s.view sl ids) nid o fun av v=>
  bif Anq o || Acn (Ni av) (ids++Nb nid) then (bif Qx o v (ids++Nb nid) then k av v else none) else none
 else none) else none
def Are {R:Type} (s:St) (ops:Array Oper) (o:Oper) (go:Bool→St→Option R):Option R:=match o.guard with
 | none=>go true s
 | some (j,want)=>match ops[j]? with
  | some oj=>match oj.dst with
   | some d=>match s.cell d with
    | .vl (.lf (.c (.bool b)))=>bif b then go want (s.lit (.tmp d) true) else go (!want) (s.lit (.tmp d) false)
    | .tp []=>go false s
    | _=>none
   | none=>none
  | none=>none
def Wy {R:Type} (P:Program) (cfg:Cfg) (ops:Array Oper):List Oper→Nat→St→(St→Option R)→Option R
 | [],_,s,k=>k s
 | o::r,nid,s,k=>Are s ops o fun run s=>bif run then Axp P cfg.sigs s nid o (fun av s'=>Wy P cfg ops r (nid + Akp) (s'.put cfg.n o.dst av) k)
  else Wy P cfg ops r (nid + Akp) (s.put cfg.n o.dst (.tp [])) k
def Aap {R:Type} (P:Program) (cfg:Cfg) (ops:Array Oper):List Oper→Nat→St→List Ent→(St→Option R)→Option R
 | [],_,s,tr,k=>bif Ayx P ops 0 [] [] tr.reverse then k s else none
 | o::r,nid,s,tr,k=>Are s ops o fun run s=>bif run then Avy P cfg.sigs s nid o (fun av v=>Aap P cfg ops r (nid + Akp) ((Y7 cfg.sigs s nid o av v).app P cfg.n s) (Y7 cfg.sigs s nid o av v::tr) k)
  else Aap P cfg ops r (nid + Akp) ((Acs nid o).app P cfg.n s) (Acs nid o::tr) k
def Ht:Code→Nat
 | .region id _ _=>id + 1
 | .seq a b=>if Ht a=0 then Ht b else Ht a
 | .cond _ a b=>if Ht a=0 then Ht b else Ht a
 | .block _ a=>Ht a
 | .loop a=>Ht a
 | _=>0
abbrev Kt (R:Type):=Ex→St→Nat→Option R
def Ex.no:Ex→Nat
 | .normal=>0
 | .ret=>1
 | .exit id=>id + 2
abbrev Lt (R:Type) (pat:Nat→Pat×(Nat→Pat)):=(key:Nat)→(pat key).1.D→Kt R→Option R
def A23 {R:Type} (np:Nat) (px:Nat→Pat) (k:Kt R):Kt R:=fun e s nid=>match (px e.no).mtch np s nid with
 | some d=>k e ((px e.no).st d) (px e.no).nid
 | none=>none
def Avz {R:Type} (np:Nat) (p:Pat×(Nat→Pat)) (nx:p.1.D→Kt R→Option R) (k:Kt R):Kt R:=fun e s nid=>match e with
 | .normal=>match p.1.mtch np s nid with
  | some d=>nx d k
  | none=>none
 | .exit id=>A23 np p.2 k (.exit id) s nid
 | .ret=>A23 np p.2 k .ret s nid
def Ag9 {R:Type} (np:Nat) (p:Pat×(Nat→Pat)) (bd:St→Nat→Kt R→Option R):Nat→p.1.D→Kt R→Option R
 | 0,_,_=>none
 | m + 1,d,k=>bd (p.1.st d) p.1.nid (Avz np p (Ag9 np p bd m) k)
def Ak8 {R:Type} (P:Program) (cfg:Cfg) (q:Apm) (nid:Nat) (s:St) (k:St→Option R):Option R:=match A4c P cfg.sigs cfg.n s nid q with
 | some (cs,s')=>chk cs (k s')
 | none=>none
def ev {R:Type} (P:Program) (cfg:Cfg) (L:Lt R cfg.pat):Code→St→Nat→Kt R→Option R
 | .skip,s,nid,k=>k .normal s nid
 | .region _ ops draw,s,nid,k=>match Q4 ops.toList with
  | some q=>bif draw then none else Wy P cfg ops q.pre nid s fun s'=>Ak8 P cfg q nid s' (fun s'=>k .normal s' (nid + Akp * ops.size))
  | none=>bif draw then Aap P cfg ops ops.toList nid s [] (fun s'=>k .normal s' (nid + Akp * ops.size)) else Wy P cfg ops ops.toList nid s (fun s'=>k .normal s' (nid + Akp * ops.size))
 | .seq a b,s,nid,k=>ev P cfg L a s nid fun e s' nid'=>match e with
  | .normal=>ev P cfg L b s' nid' k
  | .exit id=>k (.exit id) s' nid'
  | .ret=>k .ret s' nid'
 | .cond c a b,s,nid,k=>match s.conc c with
  | some (.bool t)=>bif t then ev P cfg L a (s.lit c true) nid k else ev P cfg L b (s.lit c false) nid k
  | _=>none
 | .block id c,s,nid,k=>ev P cfg L c s nid fun e s' nid'=>match e with
  | .normal=>k .normal s' nid'
  | .exit id'=>if id'=id then k .normal s' nid' else k (.exit id') s' nid'
  | .ret=>k .ret s' nid'
 | .loop c,s,nid,k=>match (cfg.pat (Ht c)).1.mtch cfg.np s nid with
  | some d=>L (Ht c) d k
  | none=>none
 | .exit id,s,nid,k=>k (.exit id) s nid
 | .ret,s,nid,k=>k .ret s nid
 | _,_,_,_=>none
def As:Code→List Code
 | .loop c=>[c]
 | .seq a b=>As a++As b
 | .cond _ a b=>As a++As b
 | .block _ a=>As a
 | _=>[]
section
variable {R:Type} {P:Program} {n B:Nat} {Iq:List Nat} {s:St} {g:Gh} {a:Act} {w:World} {r:R}
theorem Y9:∀ {cs:List Bool} {k:Option R},chk cs k=some r→P1 cs=true∧k=some r
 | [],k,h=>⟨rfl,h⟩
 | c::cs,k,h=>by
  simp only [chk] at h
  cases c with
  | false=>cases h
  | true=>
   obtain ⟨h1,h2⟩:=Y9 h
   exact ⟨by simp [P1,h1],h2⟩
theorem Acz {sg:Sig} {den:Tf sg.ps→Option (Tf sg.rs×BxD sg.ps)} {nid:Nat} {vs:List Vl} {k:AV→St→Option R} (h:Ajq sg den s nid vs k=some r):
  ∃ av s',Aaf sg den s nid vs=some (av,s')∧k av s'=some r:=by
 unfold Ajq at h
 unfold Aaf
 split at h
 ·cases h
 ·rename_i ls e1
  dsimp only at h
  split at h
  ·cases h
  ·rename_i q e2
   cases h1:Rb (Bh q.2) with
   | false=>rw [h1] at h; cases h
   | true=>
    rw [h1] at h
    simp only [cond_true] at h
    cases h2:Oo (if (In sg.rs&&Nd sg.ps)=true then s else s.frz (Kh s sg.ps ls)) nid (Ks sg.rs) with
    | false=>rw [h2] at h; cases h
    | true=>
     rw [h2] at h
     simp only [cond_true] at h
     obtain ⟨d,e3,h⟩:=Option.bind_eq_some_iff.1 h
     split at h
     ·cases h
     ·rename_i vs' e4
      refine ⟨_,_,?_,h⟩
      rw [e1]
      simp only [Option.bind_some]
      rw [e2]
      simp only [Option.bind_some,h1,h2,if_true,e3,e4]
theorem Vb {x:Operand} {b:Bool} (h:s.conc x=some (.bool b)):s.lit x b=s:=by
 cases x with
 | tmp t=>
  refine St.ext' (fun i=>?_) (fun _=>rfl)
  show S9 s.cell t _ i=s.cell i
  by_cases q:i=t
  ·subst q
   rw [A9]
   unfold St.conc at h
   split at h
   ·rename_i hv
    cases h
    exact hv.symm
   ·cases h
  ·rw [A1 _ _ q]
 | const v=>rfl
 | global _=>rfl
 | func _=>rfl
theorem Aaq {T:Tb} {nid:Nat} {o:Oper} {k:AV→St→Option R} (h:Axp P T s nid o k=some r):∃ av s',Rg P T s nid o=some (av,s')∧k av s'=some r:=by
 unfold Axp at h
 unfold Rg
 split at h
 ·rename_i f xs hc
  split at h
  ·rename_i vs hvs
   split at h
   ·rename_i sd hsd
    obtain ⟨av,s',e1,e2⟩:=Acz h
    exact ⟨av,s',by simp only [hc,hvs,hsd,e1],e2⟩
   ·rename_i hsd
    split at h
    ·rename_i fn hfn
     split at h
     ·rename_i cs av s' hi
      obtain ⟨h1,h2⟩:=Y9 h
      exact ⟨av,s',by simp only [hc,hvs,hsd,hfn]; rw [hi]; simp [Ml,h1],h2⟩
     ·cases h
    ·rename_i hfn
     split at h
     ·rename_i cs av s' hn
      obtain ⟨h1,h2⟩:=Y9 h
      exact ⟨av,s',by simp only [hc,hvs,hsd,hfn]; rw [hn]; simp [Ml,h1],h2⟩
     ·cases h
  ·cases h
 ·rename_i hc
  split at h
  ·rename_i f xs ls hcl
   split at h
   ·rename_i vs hvs
    split at h
    ·rename_i sd hsd
     obtain ⟨av,s',e1,e2⟩:=Acz h
     exact ⟨av,s',by simp only [hc,hcl,hvs,hsd,e1],e2⟩
    ·cases h
   ·cases h
  ·rename_i hcl
   split at h
   ·rename_i c x y hop
    have hst:U7 P s nid o=av0 s (Y3 s c x y):=by unfold U7; rw [hop]
    unfold A4d at h
    rw [hst]
    split at h
    ·rename_i t ht
     split at h
     ·rename_i p q hb
      refine ⟨_,_,?_,h⟩
      have:Y3 s c x y=some (.vl (.lf (.c (.bool (bif t then p else q))))):=by unfold Y3; rw [ht]; simp only [hb]
      rw [this]
      simp [hc,hcl,av0,Ml,P1]
     ·rename_i hb
      have:Y3 s c x y=some (bif t then s.op x else s.op y):=by unfold Y3; rw [ht]; simp only [hb]
      cases t with
      | true=>
       rw [Vb ht] at h
       exact ⟨s.op x,s,by rw [this]; simp [hc,hcl,av0,Ml,P1],h⟩
      | false=>
       rw [Vb ht] at h
       exact ⟨s.op y,s,by rw [this]; simp [hc,hcl,av0,Ml,P1],h⟩
    ·cases h
   ·split at h
    ·rename_i cs av s' hst
     obtain ⟨h1,h2⟩:=Y9 h
     exact ⟨av,s',by simp only [hc,hcl]; rw [hst]; simp [Ml,h1],h2⟩
    ·cases h
theorem Ow {c:Bool} {x:Option R} (h:(bif c then x else none)=some r):c=true∧x=some r:=by
 cases c with
 | false=>cases h
 | true=>exact ⟨rfl,h⟩
theorem Atm {sigs:Tb} {nid:Nat} {o:Oper} {k:AV→St→Option R} (h:Avy P sigs s nid o k=some r):∃ av v,o5 P sigs s nid o=some (av,v)∧k av v=some r:=by
 unfold Avy at h
 dsimp only at h
 obtain ⟨h1,h⟩:=Ow h
 obtain ⟨h2,h⟩:=Ow h
 obtain ⟨av,v,e1,h⟩:=Aaq h
 obtain ⟨h3,h⟩:=Ow h
 obtain ⟨h4,h⟩:=Ow h
 refine ⟨av,v,?_,h⟩
 unfold o5
 dsimp only
 rw [if_pos h1,if_pos h2,e1]
 simp only [Option.bind_some,h3,h4,if_true]
theorem Za {ops:Array Oper} {o:Oper} {go:Bool→St→Option R} (h:Are s ops o go=some r):∃ run,L7 s ops o=some run∧go run s=some r:=by
 unfold Are at h
 unfold L7
 split at h
 ·rename_i hg
  exact ⟨true,by rw [hg],h⟩
 ·rename_i j want hg
  rw [hg]
  simp only
  unfold Avo
  split at h
  ·rename_i oj hoj
   rw [hoj]
   simp only
   split at h
   ·rename_i d hd
    rw [hd]
    simp only
    split at h
    ·rename_i b hb
     rw [hb]
     refine ⟨bif b then want else !want,rfl,?_⟩
     have hc:s.conc (.tmp d)=some (.bool b):=by unfold St.conc; show (match s.cell d with | .vl (.lf (.c v))=>some v | _=>none)=_; rw [hb]
     cases b with
     | true=>rw [Vb hc] at h; exact h
     | false=>rw [Vb hc] at h; exact h
    ·rename_i hb
     rw [hb]
     exact ⟨false,rfl,h⟩
    ·cases h
   ·cases h
  ·cases h
structure Gx (np B:Nat) (Iq:List Nat) (s0:St) (g0:Gh) (w0:World) (s:St) (g:Gh) (w:World):Prop where
 kp:Kp B Iq w0 w
 av:g.av=g0.av
 pin:∀ id,id < np→(s0.res id).live=true→s.res id≠.unborn∧(∀ T ls,s.res id=.box T ls→(∃ T' ls',s0.res id=.box T' ls')∧g.blk id=g0.blk id)∧
  ∀ e,∀ t:Ty,∀ xs:List t.D,s.res id=.row e t xs→(∃ e',∃ xs':List t.D,s0.res id=.row e' t xs')∧g.blk id=g0.blk id∧g.hdr id=g0.hdr id
section
variable {np:Nat} {s0:St} {g0:Gh} {w0:World}
theorem Gx.step {s':St} {g':Gh} {w':World} (h:Gx np B Iq s0 g0 w0 s g w) (k:Go B Iq s g w s' g' w'):Gx np B Iq s0 g0 w0 s' g' w':=by
 refine ⟨h.kp.trans k.kp,k.av.trans h.av,fun id hid hl=>?_⟩
 obtain ⟨h1,h2,h3⟩:=h.pin id hid hl
 have r:=k.ref id
 unfold A4 at r
 rcases r with r | r
 ·exact ⟨by rw [r]; simp,fun T ls q=>(by rw [r] at q; cases q),fun e t xs q=>by rw [r] at q; cases q⟩
 ·cases hs:s.res id with
  | unborn=>exact absurd hs h1
  | dead=>rw [hs] at r; exact r.elim
  | box T ls=>
   rw [hs] at r
   obtain ⟨T',ls',e1,e2⟩:=r
   refine ⟨by rw [e1]; simp,fun _ _ _=>?_,fun e t xs q=>by rw [e1] at q; cases q⟩
   obtain ⟨q1,q2⟩:=h2 T ls hs
   exact ⟨q1,e2.trans q2⟩
  | row e t xs=>
   rw [hs] at r
   rcases r with ⟨e',xs',e1,_,e2,e3⟩ | ⟨t',xs',e1,_⟩
   ·refine ⟨by rw [e1]; simp,fun T ls q=>(by rw [e1] at q; cases q),fun e2' t2 xs2 q=>?_⟩
    rw [e1] at q
    cases q
    obtain ⟨q1,q2,q3⟩:=h3 e t xs hs
    exact ⟨q1,e3.trans q2,e2.trans q3⟩
   ·exact ⟨by rw [e1]; simp,fun T ls q=>(by rw [e1] at q; cases q),fun e t xs q=>by rw [e1] at q; cases q⟩
  | frozen t xs=>
   rw [hs] at r
   obtain ⟨t',xs',e1,_⟩:=r
   exact ⟨by rw [e1]; simp,fun T ls q=>(by rw [e1] at q; cases q),fun e t xs q=>by rw [e1] at q; cases q⟩
  | last e t xs c j=>
   rw [hs] at r
   rcases r with ⟨_,_,_,_,_,e1,_⟩ | ⟨t',xs',e1,_⟩
   ·exact ⟨by rw [e1]; simp,fun T ls q=>(by rw [e1] at q; cases q),fun e t xs q=>by rw [e1] at q; cases q⟩
   ·exact ⟨by rw [e1]; simp,fun T ls q=>(by rw [e1] at q; cases q),fun e t xs q=>by rw [e1] at q; cases q⟩
  | map t xs=>
   rw [hs] at r
   obtain ⟨_,_,e1,_⟩:=r
   exact ⟨by rw [e1]; simp,fun T ls q=>(by rw [e1] at q; cases q),fun e t xs q=>by rw [e1] at q; cases q⟩
  | iter t xs seen cur=>
   rw [hs] at r
   obtain ⟨_,_,_,_,e1,_⟩:=r
   exact ⟨by rw [e1]; simp,fun T ls q=>(by rw [e1] at q; cases q),fun e t xs q=>by rw [e1] at q; cases q⟩
theorem Gx.canon {s':St} {g':Gh} (h:Gx np B Iq s0 g0 w0 s g w) (ha:g'.av=g.av) (hp:∀ id,id < np→(s'.res id=.unborn→s.res id=.unborn)∧(∀ T ls,s'.res id=.box T ls→(∃ T' ls',s.res id=.box T' ls')∧g'.blk id=g.blk id)∧(∀ e,∀ t:Ty,∀ xs:List t.D,s'.res id=.row e t xs→(∃ e',∃ xs':List t.D,s.res id=.row e' t xs')∧g'.blk id=g.blk id∧g'.hdr id=g.hdr id)):Gx np B Iq s0 g0 w0 s' g' w:=by
 refine ⟨h.kp,ha.trans h.av,fun id hid hl=>?_⟩
 obtain ⟨h1,h2,h3⟩:=h.pin id hid hl
 obtain ⟨k1,k2,k3⟩:=hp id hid
 refine ⟨fun q=>h1 (k1 q),fun T ls q=>?_,fun e t xs q=>?_⟩
 ·obtain ⟨⟨T',ls',e1⟩,e2⟩:=k2 T ls q
  obtain ⟨e3,e4⟩:=h2 T' ls' e1
  exact ⟨e3,e2.trans e4⟩
 ·obtain ⟨⟨e',xs',e1⟩,e2,e2'⟩:=k3 e t xs q
  obtain ⟨e3,e4,e5⟩:=h3 e' t xs' e1
  exact ⟨e3,e2.trans e4,e2'.trans e5⟩
theorem Arf {nid:Nat} {p:Pat} {d:p.D} (h:B8 n B Iq s g a w) (hx:Gx np B Iq s0 g0 w0 s g w) (e:p.mtch np s nid=some d):∃ g',B8 n B Iq (p.st d) g' a w∧Gx np B Iq s0 g0 w0 (p.st d) g' w:=by
 obtain ⟨s1,g1,g',k1,k2,k3,k4⟩:=A22 h e
 exact ⟨g',k2,(hx.step k1).canon k3 k4⟩
theorem Axq {np':Nat} (hnp:np'=np) {px:Nat→Pat} {k:Kt R} {Q:Exit→Act→World→Prop} (hk:∀ e s' nid' g' a' w',k e s' nid'=some r→B8 n B Iq s' g' a' w'→Gx np B Iq s0 g0 w0 s' g' w'→Q e.to a' w') {e:Ex} {nid:Nat}
  (he:A23 np' px k e s nid=some r) (h:B8 n B Iq s g a w) (hx:Gx np B Iq s0 g0 w0 s g w):Q e.to a w:=by
 subst hnp
 unfold A23 at he
 split at he
 ·rename_i d hd
  obtain ⟨g',k1,k2⟩:=Arf h hx hd
  exact hk e _ _ g' a w he k1 k2
 ·cases he
theorem Afe {cfg:Cfg} (hs:A2 P cfg.sigs) (hn:cfg.n=n) {ops:Array Oper} {k:St→Option R} {Q:Exit→Act→World→Prop}
  (hk:∀ s' g' a' w',k s'=some r→B8 n B Iq s' g' a' w'→Gx np B Iq s0 g0 w0 s' g' w'→Q .normal a' w'):
  ∀ {l:List Oper} {nid:Nat} {s:St} {g:Gh} {a:Act} {w:World},Wy P cfg ops l nid s k=some r→B8 n B Iq s g a w→Gx np B Iq s0 g0 w0 s g w→wpList P ops Q l a w
 | [],nid,s,g,a,w,e,h,hx=>hk s g a w e h hx
 | o::l,nid,s,g,a,w,e,h,hx=>by
  simp only [Wy] at e
  obtain ⟨run,e1,e⟩:=Za e
  unfold wpList
  rw [Ot h e1]
  cases run with
  | true=>
   simp only [cond_true] at e
   obtain ⟨av,s',e2,e⟩:=Aaq e
   rw [if_pos rfl]
   left
   refine Y5 hs h e2 _ Q fun v g' w' k1 k2 k3=>?_
   obtain ⟨r1,r2⟩:=Pd k2 o.dst k3
   rw [hn] at e
   exact Afe hs hn hk e r1 ((hx.step k1).step r2)
  | false=>
   simp only [cond_false] at e
   rw [if_neg (by simp)]
   obtain ⟨r1,r2⟩:=Pd (av:=.tp []) (v:=undef) h o.dst ⟨#[],rfl,rfl,fun j v hv=>by simp at hv⟩
   rw [hn] at e
   exact Afe hs hn hk e r1 (hx.step r2)
theorem Aar {cfg:Cfg} (hs:A2 P cfg.sigs) (hn:cfg.n=n) {ops:Array Oper} {k:St→Option R} {Q:Exit→Act→World→Prop} {rest:List Oper}
  (hk:∀ s' g' a' w',k s'=some r→B8 n B Iq s' g' a' w'→Gx np B Iq s0 g0 w0 s' g' w'→wpList P ops Q rest a' w'):
  ∀ {l:List Oper} {nid:Nat} {s:St} {g:Gh} {a:Act} {w:World},Wy P cfg ops l nid s k=some r→B8 n B Iq s g a w→Gx np B Iq s0 g0 w0 s g w→wpList P ops Q (l++rest) a w
 | [],nid,s,g,a,w,e,h,hx=>hk s g a w e h hx
 | o::l,nid,s,g,a,w,e,h,hx=>by
  simp only [Wy] at e
  obtain ⟨run,e1,e⟩:=Za e
  show wpList P ops Q (o::(l++rest)) a w
  unfold wpList
  rw [Ot h e1]
  cases run with
  | true=>
   simp only [cond_true] at e
   obtain ⟨av,s',e2,e⟩:=Aaq e
   rw [if_pos rfl]
   left
   refine Y5 hs h e2 _ Q fun v g' w' k1 k2 k3=>?_
   obtain ⟨r1,r2⟩:=Pd k2 o.dst k3
   rw [hn] at e
   exact Aar hs hn hk e r1 ((hx.step k1).step r2)
  | false=>
   simp only [cond_false] at e
   rw [if_neg (by simp)]
   obtain ⟨r1,r2⟩:=Pd (av:=.tp []) (v:=undef) h o.dst ⟨#[],rfl,rfl,fun j v hv=>by simp at hv⟩
   rw [hn] at e
   exact Aar hs hn hk e r1 (hx.step r2)
theorem Ak9 {l:List Oper} {q:Apm} (h:Q4 l=some q):l=q.pre++[q.o2,q.o3,q.o4]:=by
 unfold Q4 at h
 split at h
 ·split at h<;>cases h
  rfl
 ·cases h
theorem Anw {l:List Oper} {q:Apm} (h:Q4 l=some q):Ajp q.o2 q.o3 q.o4=some (q.V,q.z,q.d2,q.d3,q.fs):=by
 unfold Q4 at h
 split at h
 ·split at h<;>cases h
  rename_i h
  exact h
 ·cases h
theorem Av0 {av:AV} {fc:FuncId} {b:Nat} (h:A06 av=some (fc,b)):av=.fn fc [.ptr b 0]:=by
 unfold A06 at h
 split at h<;>cases h
 rfl
theorem Anx {BT:TypeId} {v:Res} {r:Nat} (h:Ak7 BT v=some r):v=.box BT [.row r]:=by
 unfold Ak7 at h
 split at h
 ·split at h<;>cases h
  rename_i hT
  rw [hT]
 ·cases h
theorem Arg {l:Option Lf} {r:Nat} (h:Arc l=some r):l=some (.row r):=by
 unfold Arc at h
 split at h<;>cases h
 rfl
theorem A24 {cfg:Cfg} (hs:A2 P cfg.sigs) (hn:cfg.n=n) {ops:Array Oper} {q:Apm} (hq:Q4 ops.toList=some q) {nid:Nat} {k:St→Option R} {Q:Exit→Act→World→Prop}
  (hk:∀ s' g' a' w',k s'=some r→B8 n B Iq s' g' a' w'→Gx np B Iq s0 g0 w0 s' g' w'→Q .normal a' w') (e:Ak8 P cfg q nid s k=some r) (h:B8 n B Iq s g a w) (hx:Gx np B Iq s0 g0 w0 s g w):wpList P ops Q [q.o2,q.o3,q.o4] a w:=by
 obtain ⟨t1,t2,t3,t4,t5,t6,t7,t8⟩:=Ard (Anw hq)
 unfold Ak8 at e
 split at e
 ·rename_i cs s' es
  obtain ⟨hcs,ek⟩:=Y9 e
  clear e
  unfold A4c at es
  split at es
  ·rename_i fs fc BT U ety hsrt
   split at es
   ·rename_i r0 hr0
    have hr0:=Arg hr0
    split at es
    ·rename_i av s3 hst
     split at es
     ·rename_i fc' b hav
      have hav:=Av0 hav
      subst hav
      split at es
      ·rename_i r' xs hbx hrw
       split at es
       rotate_left
       ·cases es
       rename_i c0
       split at es
       ·rename_i c1
        split at es
        ·rename_i c2
         split at es
         ·rename_i c3
          split at es
          ·rename_i c4
           split at es
           ·rename_i c5
            split at es
            ·rename_i c6
             cases es
             subst c1 c2 c3 c4
             rw [hn] at c5 c6 hst ek
             have hbx:=Anx hbx
             have hrw:=Avw hrw
             obtain ⟨hcal,hok⟩:=hs.srt _ _ _ _ _ hsrt
             have hnd:Io xs=true∧xs.length≤1000:=by simpa [P1] using hcs
             obtain ⟨hz,_⟩:=Dc h hr0
             unfold wpList
             rw [Ot h (r:=true) (by unfold L7; rw [t3]),if_pos rfl]
             left
             have hrun:(execOp a.eval q.o2).run P w=.ok (.value (.iface q.V (a.eval q.z))) w:=by
              unfold Ao4 at c0
              split at c0
              ·rename_i hU
               simp [execOp,t1,Instr.makeInterface,run_underlying hU,Result.andThen]
              ·cases c0
             unfold Oper.wp
             rw [hrun,Oper.upon_value]
             obtain ⟨a1,a2⟩:=Pd (av:=.dead) (v:=.iface q.V (a.eval q.z)) h q.o2.dst trivial
             unfold wpList
             rw [Ot a1 (r:=true) (by unfold L7; rw [t5]),if_pos rfl]
             left
             refine Y5 hs a1 hst _ Q fun v g3 w3 k1 k2 k3=>?_
             obtain ⟨b1,b2⟩:=Pd k2 q.o3.dst k3
             unfold wpList
             rw [Ot b1 (r:=true) (by unfold L7; rw [t7]),if_pos rfl]
             left
             obtain ⟨caps,hv,hL⟩:=k3
             obtain ⟨p0,hcaps⟩:∃ p0,caps=#[p0]:=by
              have:=hL.length
              match caps,this with
              | ⟨[x]⟩,_=>exact ⟨x,rfl⟩
             subst hcaps
             have hp:=hL.1.1
             simp only [Dq,hbx] at hp
             obtain ⟨bb,hbb,hp⟩:=hp
             have hp:p0=.pointer (some ⟨bb,0,none⟩):=hp
             subst hp
             have hbx2:(s3.put n q.o3.dst (.fn fc' [.ptr b 0])).res b=.box BT [.row r']:=by rw [Ajj]; exact hbx
             have hrw2:(s3.put n q.o3.dst (.fn fc' [.ptr b 0])).res r'=.row ety prT xs:=by rw [Ajj]; exact hrw
             have hcall:=Ay3 b1 hok hbb hbx2 hrw2 hnd.1 hnd.2
             have hhd:a.eval q.z=g3.hdr r':=by
              have e1:Dq s3 g3 w3 (.row r') (a.eval q.z):=by
               have:=Dq.step (a2.trans k1).S (a2.trans k1).ref hz
               exact this
              simp only [Dq,hrw] at e1
              exact e1
             have hsz:a.tmps.size=n:=h.size
             have hd2:((a.put q.o2.dst (.iface q.V (a.eval q.z))).put q.o3.dst v).eval (.tmp q.d2)=.iface q.V (a.eval q.z):=by
              show ((a.put q.o2.dst (.iface q.V (a.eval q.z))).put q.o3.dst v).tmps.getD q.d2 undef=_
              rw [t2,t4,Avx t8,Axo (by rw [hsz]; exact c5)]
             have hd3:((a.put q.o2.dst (.iface q.V (a.eval q.z))).put q.o3.dst v).eval (.tmp q.d3)=v:=by
              show ((a.put q.o2.dst (.iface q.V (a.eval q.z))).put q.o3.dst v).tmps.getD q.d3 undef=_
              rw [t4,Axo (by rw [k2.size]; exact c6)]
             have hco:i9 P q.fs (([.tmp q.d2,.tmp q.d3]:List Operand).map ((a.put q.o2.dst (.iface q.V (a.eval q.z))).put q.o3.dst v).eval).toArray n B Iq (s3.put n q.o3.dst (.fn fc' [.ptr b 0])) g3 ((a.put q.o2.dst (.iface q.V (a.eval q.z))).put q.o3.dst v) w3 (.tp [])
              ((s3.put n q.o3.dst (.fn fc' [.ptr b 0])).setRes r' (.row ety prT (U8 xs))):=by
              have hd2':=hd2.trans (congrArg (Value.iface q.V) hhd)
              have hd3':=hd3.trans hv
              simp only [List.map_cons,List.map_nil,hd2',hd3']
              exact hcall
             refine Nf.call t6 hcal hco _ Q fun v4 g4 w4 j1 j2 j3=>?_
             obtain ⟨d1,d2⟩:=Pd j2 q.o4.dst j3
             unfold wpList
             exact hk _ _ _ _ ek d1 (((((hx.step a2).step k1).step b2).step j1).step d2)
            ·cases es
           ·cases es
          ·cases es
         ·cases es
        ·cases es
       ·cases es
      ·cases es
     ·cases es
    ·cases es
   ·cases es
  ·cases es
 ·cases e
theorem Zb {cfg:Cfg} {ops:Array Oper} {k:St→Option R}:∀ {l:List Oper} {nid:Nat} {s:St} {acc:List Ent},Aap P cfg ops l nid s acc k=some r→
  ∃ tr,tr.map (·.o)=l∧Aan P cfg.sigs ops cfg.n tr s∧Ayx P ops 0 [] [] (acc.reverse++tr)=true∧∀ i,k (Wv P cfg.n (fun _=>true) i tr s)=some r
 | [],nid,s,acc,e=>by
  simp only [Aap] at e
  obtain ⟨h1,h2⟩:=Ow e
  exact ⟨[],rfl,trivial,by simpa using h1,fun i=>h2⟩
 | o::l,nid,s,acc,e=>by
  simp only [Aap] at e
  obtain ⟨run,e1,e⟩:=Za e
  cases run with
  | true=>
   simp only [cond_true] at e
   obtain ⟨av,v,e2,e⟩:=Atm e
   obtain ⟨tr,h1,h2,h3,h4⟩:=Zb e
   refine ⟨Y7 cfg.sigs s nid o av v::tr,by simp [h1,Y7],⟨.inl ⟨e1,av,v,e2,rfl⟩,h2⟩,by simpa using h3,fun i=>?_⟩
   simp only [Wv,if_true]
   exact h4 (i + 1)
  | false=>
   simp only [cond_false] at e
   obtain ⟨tr,h1,h2,h3,h4⟩:=Zb e
   refine ⟨Acs nid o::tr,by simp [h1,Acs],⟨.inr ⟨e1,rfl⟩,h2⟩,by simpa using h3,fun i=>?_⟩
   simp only [Wv,if_true]
   exact h4 (i + 1)
theorem A07 (listed:Array Bool):∀ k,unl listed k≤k
 | 0=>Nat.le_refl _
 | k + 1=>by
  simp only [unl]
  have:=A07 listed k
  split<;>omega
theorem Atn {D:Nat→Bool}:∀ {tr:List Ent} {i:Nat} {s:St},(∀ j,D j=false)→Wv P n D i tr s=s
 | [],_,_,_=>rfl
 | e::r,i,s,h=>by
  simp only [Wv,h,Bool.false_eq_true,if_false]
  exact Atn h
theorem A08 (h:B8 n B Iq s g a w):B8 n B Iq s g a { w with drawn:=w.drawn + 1 }∧Go B Iq s g w s g { w with drawn:=w.drawn + 1 }:=by
 have hS:∀ b,Eu s g b→b < w.heap.size→Eu s g b∧({ w with drawn:=w.drawn + 1 }:World).heap[b]?=w.heap[b]?:=fun b hb _=>⟨hb,rfl⟩
 have hI:∀ id,A4 s g s g id:=fun _=>A4.same rfl rfl rfl
 exact ⟨h.step h.size h.defers (Nat.le_refl _) hS hI (fun _=>.inl ⟨rfl,rfl⟩) (fun _=>.inl ⟨rfl,rfl,rfl,fun _ _=>rfl⟩) h.inj h.lt rfl,⟨⟨rfl,rfl,rfl,Nat.le_refl _,fun _ _ _=>rfl⟩,hS,hI,rfl⟩⟩
theorem Ay5 {cfg:Cfg} (hm:P.follows .mixedOrders=true) (hs:A2 P cfg.sigs) (hn:cfg.n=n) {id:Nat} {ops:Array Oper} {draw:Bool} {nid:Nat} {k:St→Option R} {Q:Exit→Act→World→Prop}
  (hk:∀ s' g' a' w',k s'=some r→B8 n B Iq s' g' a' w'→Gx np B Iq s0 g0 w0 s' g' w'→Q .normal a' w') (h:B8 n B Iq s g a w) (hx:Gx np B Iq s0 g0 w0 s g w)
  (e:(bif draw then Aap P cfg ops ops.toList nid s [] k else Wy P cfg ops ops.toList nid s k)=some r):(Code.region id ops draw).wp P Q a w:=by
 cases draw with
 | false=>
  simp only [cond_false] at e
  exact wp_region_list (Afe hs hn hk e h hx)
 | true=>
  simp only [cond_true] at e
  obtain ⟨tr,h1,h2,h3,h4⟩:=Zb e
  rw [hn] at h2 h4
  obtain ⟨d1,d2⟩:=A08 h
  refine wp_region_any hm ?_
  have hD:∀ j,(Array.replicate ops.size false).getD j false=false:=fun j=>by
   simp [Array.getD_eq_getD_getElem?,Array.getElem?_replicate]
   split<;>rfl
  have hmix:Wv P n (fun i=>(Array.replicate ops.size false).getD i false) 0 tr s=s:=Atn hD
  refine A41 hs h1 h2 (by simpa using h3) (g0:=g) (w0:={ w with drawn:=w.drawn + 1 }) (fun a' g' w' q1 q2=>hk _ g' a' w' (h4 0) q2 ((hx.step d2).step q1)) ops.size _ a g _ (by simp) (A07 _ _) (fun j f q1 q2=>?_) ?_ ?_
  ·have q2':(Array.replicate ops.size false).getD j false=true:=q2
   rw [hD] at q2'
   cases q2'
  ·rw [hmix]; exact Go.refl _ _ _ _ _
  ·rw [hmix]; exact d1
theorem Apn {p:Nat→Prop} (h:∃ m,p m):∃ m,p m∧∀ m',p m'→m≤m':=by
 obtain ⟨m,hm⟩:=h
 induction m using Nat.strongRecOn with
 | _ m ih=>
  by_cases q:∃ j,j < m∧p j
  ·obtain ⟨j,q1,q2⟩:=q
   exact ih j q1 q2
  ·refine ⟨m,hm,fun j hj=>?_⟩
   rcases Nat.lt_or_ge j m with q2 | q2
   ·exact absurd ⟨j,q2,hj⟩ q
   ·exact q2
theorem A25 {np':Nat} {p:Pat×(Nat→Pat)} {c:Code} {bd:St→Nat→Kt R→Option R} {Q:Exit→Act→World→Prop} {k:Kt R} (hnp:np'=np)
  (hbd:∀ {s:St} {g:Gh} {a:Act} {w:World} {nid:Nat} {k:Kt R} {Q:Exit→Act→World→Prop},(∀ e s' nid' g' a' w',k e s' nid'=some r→B8 n B Iq s' g' a' w'→Gx np B Iq s0 g0 w0 s' g' w'→Q e.to a' w')→
   bd s nid k=some r→B8 n B Iq s g a w→Gx np B Iq s0 g0 w0 s g w→c.wp P Q a w)
  (hk:∀ e s' nid' g' a' w',k e s' nid'=some r→B8 n B Iq s' g' a' w'→Gx np B Iq s0 g0 w0 s' g' w'→Q e.to a' w') {m:Nat} {d:p.1.D}
  (e:Ag9 np' p bd m d k=some r) (h:B8 n B Iq (p.1.st d) g a w) (hx:Gx np B Iq s0 g0 w0 (p.1.st d) g w):(Code.loop c).wp P Q a w:=by
 let J:Nat→Act→World→Prop:=fun m a w=>∃ d g,Ag9 np' p bd m d k=some r∧B8 n B Iq (p.1.st d) g a w∧Gx np B Iq s0 g0 w0 (p.1.st d) g w
 classical
 refine wp_loop (fun a w=>∃ m,J m a w) (fun a w=>if hj:∃ m,J m a w then Classical.choose (Apn hj) else 0) ⟨m,d,g,e,h,hx⟩ fun a w hj=>?_
 have hmu:(if hj:∃ m,J m a w then Classical.choose (Apn hj) else 0)=Classical.choose (Apn hj):=dif_pos hj
 have hspec:=(Classical.choose_spec (Apn hj)).1
 generalize hm:Classical.choose (Apn hj)=m at hspec
 obtain ⟨d,g,e,h,hx⟩:=hspec
 cases m with
 | zero=>simp [Ag9] at e
 | succ m=>
  simp only [Ag9] at e
  refine hbd (fun e s' nid' g' a' w' q h' hx'=>?_) e h hx
  unfold Avz at q
  cases e with
  | normal=>
   simp only at q
   split at q
   ·rename_i d' hd
    subst hnp
    obtain ⟨g2,k1,k2⟩:=Arf h' hx' hd
    have hJ:J m a' w':=⟨d',g2,q,k1,k2⟩
    refine ⟨⟨m,hJ⟩,?_⟩
    rw [hmu,hm,dif_pos ⟨m,hJ⟩]
    have:=(Classical.choose_spec (Apn (⟨m,hJ⟩:∃ m,J m a' w'))).2 m hJ
    omega
   ·cases q
  | exit id=>exact Axq hnp hk q h' hx'
  | ret=>exact Axq hnp hk q h' hx'
def A3 (P:Program) (R:Type) (n np:Nat) (pat:Nat→Pat×(Nat→Pat)) (L:Lt R pat) (c:Code):Prop:=
 ∀ (r:R) (B:Nat) (Iq:List Nat) (s0:St) (g0:Gh) (w0:World) (d:(pat (Ht c)).1.D) (g:Gh) (a:Act) (w:World) (k:Kt R) (Q:Exit→Act→World→Prop),
  (∀ e s' nid' g' a' w',k e s' nid'=some r→B8 n B Iq s' g' a' w'→Gx np B Iq s0 g0 w0 s' g' w'→Q e.to a' w')→L (Ht c) d k=some r→B8 n B Iq ((pat (Ht c)).1.st d) g a w→Gx np B Iq s0 g0 w0 ((pat (Ht c)).1.st d) g w→(Code.loop c).wp P Q a w
theorem A4e {cfg:Cfg} {L:Lt R cfg.pat} (hm:P.follows .mixedOrders=true) (hs:A2 P cfg.sigs) (hn:cfg.n=n) (hnp:cfg.np=np):∀ (c:Code),(∀ c'∈As c,A3 P R n np cfg.pat L c')→∀ {s:St} {g:Gh} {a:Act} {w:World} {nid:Nat} {k:Kt R} {Q:Exit→Act→World→Prop},
  (∀ e s' nid' g' a' w',k e s' nid'=some r→B8 n B Iq s' g' a' w'→Gx np B Iq s0 g0 w0 s' g' w'→Q e.to a' w')→
  ev P cfg L c s nid k=some r→B8 n B Iq s g a w→Gx np B Iq s0 g0 w0 s g w→c.wp P Q a w:=by
 intro c
 induction c with
 | skip=>intro hL s g a w nid k Q hk e h hx; exact wp_skip (hk .normal s nid g a w e h hx)
 | region id ops draw=>
  intro hL s g a w nid k Q hk e h hx
  simp only [ev] at e
  split at e
  ·rename_i q hq
   cases draw with
   | true=>cases e
   | false=>
    simp only [cond_false] at e
    refine wp_region_list ?_
    rw [Ak9 hq]
    exact Aar hs hn (fun s' g' a' w' e' h' hx'=>A24 hs hn hq (fun s2 g2 a2 w2 q2 h2 hx2=>hk .normal s2 _ g2 a2 w2 q2 h2 hx2) e' h' hx') e h hx
  ·exact Ay5 hm hs hn (fun s' g' a' w' q h' hx'=>hk .normal s' _ g' a' w' q h' hx') h hx e
 | seq x y ihx ihy=>
  intro hL s g a w nid k Q hk e h hx
  simp only [ev] at e
  refine wp_seq (ihx (fun c' hc'=>hL c' (List.mem_append_left _ hc')) (fun e' s' nid' g' a' w' q h' hx'=>?_) e h hx)
  cases e' with
  | normal=>exact ihy (fun c' hc'=>hL c' (List.mem_append_right _ hc')) hk q h' hx'
  | exit id=>exact hk (.exit id) s' nid' g' a' w' q h' hx'
  | ret=>exact hk .ret s' nid' g' a' w' q h' hx'
 | cond c x y ihx ihy=>
  intro hL s g a w nid k Q hk e h hx
  simp only [ev] at e
  split at e
  ·rename_i t ht
   refine wp_cond (t:=t) (Db h ht).1 ?_
   cases t with
   | true=>rw [Vb ht] at e; exact ihx (fun c' hc'=>hL c' (List.mem_append_left _ hc')) hk e h hx
   | false=>rw [Vb ht] at e; exact ihy (fun c' hc'=>hL c' (List.mem_append_right _ hc')) hk e h hx
  ·cases e
 | block id c ih=>
  intro hL s g a w nid k Q hk e h hx
  simp only [ev] at e
  refine wp_block (ih hL (fun e' s' nid' g' a' w' q h' hx'=>?_) e h hx)
  cases e' with
  | normal=>exact hk .normal s' nid' g' a' w' q h' hx'
  | exit id'=>
   simp only at q
   show Exit.inBlock id Q (.exit id') a' w'
   unfold Exit.inBlock
   split at q
   ·rename_i hid
    simp only [hid,if_true]
    exact hk .normal s' nid' g' a' w' q h' hx'
   ·rename_i hid
    simp only [hid,if_false]
    exact hk (.exit id') s' nid' g' a' w' q h' hx'
  | ret=>exact hk .ret s' nid' g' a' w' q h' hx'
 | loop c ih=>
  intro hL s g a w nid k Q hk e h hx
  simp only [ev] at e
  split at e
  ·rename_i d hd
   subst hnp
   obtain ⟨g2,k1,k2⟩:=Arf h hx hd
   exact hL c (by simp [As]) r B Iq s0 g0 w0 d g2 a w k Q hk e k1 k2
  ·cases e
 | exit id=>intro hL s g a w nid k Q hk e h hx; exact wp_exit (hk (.exit id) s nid g a w e h hx)
 | ret=>intro hL s g a w nid k Q hk e h hx; exact wp_ret (hk .ret s nid g a w e h hx)
 | rangeFunc f params x y ihx ihy=>intro hL s g a w nid k Q hk e h hx; simp [ev] at e
 | scope c ih=>intro hL s g a w nid k Q hk e h hx; simp [ev] at e
 | label l=>intro hL s g a w nid k Q hk e h hx; simp [ev] at e
 | goto l=>intro hL s g a w nid k Q hk e h hx; simp [ev] at e
 | refuse why=>intro hL s g a w nid k Q hk e h hx; simp [ev] at e
end
theorem Ay6 {np:Nat} {cfg:Cfg} {L L':Lt R cfg.pat} {c:Code} (hm:P.follows .mixedOrders=true) (hs:A2 P cfg.sigs) (hn:cfg.n=n) (hnp:cfg.np=np)
  (hL:∀ d k (r:R),L (Ht c) d k=some r→∃ m,Ag9 np (cfg.pat (Ht c)) (fun s nid k=>ev P cfg L' c s nid k) m d k=some r) (hL':∀ c'∈As c,A3 P R n np cfg.pat L' c'):A3 P R n np cfg.pat L c:=by
 intro r B Iq s0 g0 w0 d g a w k Q hk e h hx
 obtain ⟨m,e⟩:=hL d k r e
 exact A25 rfl (fun hk' e' h' hx'=>A4e hm hs hn hnp c hL' hk' e' h' hx') hk e h hx
end
end Go.Proofs.YtfkefgbihlfjmaaGreat.R

