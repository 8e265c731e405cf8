/- The evaluator, and that a body does what it tells. No condition. -/
import Derived.Test.YtfkefgbihlfjmaaGreatRInl
import Derived.ChangeArms
import Derived.Carry
import Derived.OpenShut
import Derived.ChangeMaps5
import Derived.SizedLaws
import Derived.ChangeOld
import Derived.Shelf.Strings.BuilderK
import Derived.Shelf.Strings.Repeat
import Derived.KernelRfl
import Derived.Test.YtfkefgbihlfjmaaGreatProg
import Derived.Shelf.SlSortFuncK.WholeK
import Derived.Shelf.GgSortFunc.Tiny
noncomputable section
set_option linter.unusedVariables false
set_option linter.unusedSimpArgs false
namespace Go.Proofs.YtfkefgbihlfjmaaGreat.R
open Go Go.RowKit
section
inductive Ex where
 | normal
 | exit (id:Nat)
 | ret
def Ex.to:Ex→Exit
 | .normal=>.normal
 | .exit id=>.exit id
 | .ret=>.ret
structure Cfg where
 sigs:Tb
 np:Nat
 n:Nat
 pat:Nat→C2×(Nat→C2)
def chk {R:Type}:List Bool→Option R→Option R
 | [],k=>k
 | c::r,k=>bif c then chk r k else none
def A6s {R:Type} (sg:Gc) (den:MsD sg.ps→Option (MsD sg.rs×BxD sg.ps)) (s:St) (nid:Nat) (vs:List Vl) (k:AV→St→Option R):Option R:=
 match shL sg.psh vs with
 | none=>none
 | some ls=>
  let sF:=s.frz (Rk s sg.ps ls)
  let sA:=if Oc sg.rs&&V0 sg.ps then s else sF
  match Xu sF sg.ps ls with
  | none=>none
  | some q=>bif Aak (B4 q.2) then (bif Ya sA nid (Rz sg.rs) then (den q.1).bind fun r=>
   match shV sg.rsh (Bge sg.rs r.1 nid) with
   | none=>none
   | some vs'=>k (Bl5 vs') ⟨sA.cell,Tq sg.rs r.1 nid (Ti sg.ps r.2 q.2 sA.res)⟩
   else none) else none
def St.lit (s:St) (x:Operand) (b:Bool):St:=match x with
 | .tmp t=>s.setCell t (.vl (.lf (.c (.bool b))))
 | _=>s
def Bww {R:Type} (s:St) (c x y:Operand) (k:AV→St→Option R):Option R:=match s.conc c with
 | some (.bool t)=>match Bgp s x y with
  | some (p,q)=>k (.vl (.lf (.c (.bool (bif t then p else q))))) s
  | none=>bif t then k (s.op x) (s.lit c true) else k (s.op y) (s.lit c false)
 | _=>none
def Boy {R:Type} (P:Program) (T:Tb) (s:St) (nid:Nat) (o:Oper) (k:AV→St→Option R):Option R:=match V3 o with
 | some (f,xs)=>match Adi s xs with
  | some vs=>match T.sd f with
   | some sd=>A6s sd.sg sd.den s nid vs k
   | none=>match T.inl f with
    | some fn=>match Buv P T fn vs s nid with
     | some (cs,av,s')=>chk cs (k av s')
     | none=>none
    | none=>match Br5 T s f vs with
     | some (cs,av,s')=>chk cs (k av s')
     | none=>none
  | none=>none
 | none=>match Awt s o with
  | some (f,xs,ls)=>match Adi s xs with
   | some vs=>match T.sd f with
    | some sd=>A6s sd.sg sd.den s nid (vs++Bus ls) k
    | none=>none
   | none=>none
  | none=>match o.op with
   | .pick c x y=>Bww s c x y k
   | _=>match Agk P s nid o with
    | some (cs,av,s')=>chk cs (k av s')
    | none=>none
def Bmn {R:Type} (P:Program) (sigs:Tb) (s:St) (nid:Nat) (o:Oper) (k:AV→St→Option R):Option R:=
 let sl:=Gm o
 let ids:=Aaq s o
 bif Ya s nid A4l then (bif x5 o s ids then Boy P sigs (s.view sl ids) nid o fun av v=>
  bif Bcf o || Aww (V5 av) (ids++Vx nid) then (bif x5 o v (ids++Vx nid) then k av v else none) else none
 else none) else none
def Bg1 {R:Type} (s:St) (ops:Array Oper) (o:Oper) (go:Bool→St→Option R):Option R:=match o.guard with
 | none=>go true s
 | some (j,want)=>match ops[j]? with
  | some oj=>match oj.dst with
   | some d=>match s.cell d with
    | .vl (.lf (.c (.bool b)))=>bif b then go want (s.lit (.tmp d) true) else go (!want) (s.lit (.tmp d) false)
    | .tp []=>go false s
    | _=>none
   | none=>none
  | none=>none
def Afp {R:Type} (P:Program) (cfg:Cfg) (ops:Array Oper):List Oper→Nat→St→(St→Option R)→Option R
 | [],_,s,k=>k s
 | o::r,nid,s,k=>Bg1 s ops o fun run s=>bif run then Boy P cfg.sigs s nid o (fun av s'=>Afp P cfg ops r (nid + A4l) (s'.put cfg.n o.dst av) k)
  else Afp P cfg ops r (nid + A4l) (s.put cfg.n o.dst (.tp [])) k
def Aux {R:Type} (P:Program) (cfg:Cfg) (ops:Array Oper):List Oper→Nat→St→List Zq→(St→Option R)→Option R
 | [],_,s,tr,k=>bif Bqa P ops 0 [] [] tr.reverse then k s else none
 | o::r,nid,s,tr,k=>Bg1 s ops o fun run s=>bif run then Bmn P cfg.sigs s nid o (fun av v=>Aux P cfg ops r (nid + A4l) ((Am6 cfg.sigs s nid o av v).app P cfg.n s) (Am6 cfg.sigs s nid o av v::tr) k)
  else Aux P cfg ops r (nid + A4l) ((Aw1 nid o).app P cfg.n s) (Aw1 nid o::tr) k
def Hx:Code→Nat
 | .region id _ _=>id + 1
 | .seq a b=>if Hx a=0 then Hx b else Hx a
 | .cond _ a b=>if Hx a=0 then Hx b else Hx a
 | .block _ a=>Hx a
 | .loop a=>Hx a
 | _=>0
abbrev Kt (R:Type):=Ex→St→Nat→Option R
def Ex.no:Ex→Nat
 | .normal=>0
 | .ret=>1
 | .exit id=>id + 2
abbrev Lt (R:Type) (pat:Nat→C2×(Nat→C2)):=(key:Nat)→(pat key).1.D→Kt R→Option R
def Bu6 {R:Type} (np:Nat) (px:Nat→C2) (k:Kt R):Kt R:=fun e s nid=>match (px e.no).mtch np s nid with
 | some d=>k e ((px e.no).st d) (px e.no).nid
 | none=>none
def Bmo {R:Type} (np:Nat) (p:C2×(Nat→C2)) (nx:p.1.D→Kt R→Option R) (k:Kt R):Kt R:=fun e s nid=>match e with
 | .normal=>match p.1.mtch np s nid with
  | some d=>nx d k
  | none=>none
 | .exit id=>Bu6 np p.2 k (.exit id) s nid
 | .ret=>Bu6 np p.2 k .ret s nid
def A3d {R:Type} (np:Nat) (p:C2×(Nat→C2)) (bd:St→Nat→Kt R→Option R):Nat→p.1.D→Kt R→Option R
 | 0,_,_=>none
 | m + 1,d,k=>bd (p.1.st d) p.1.nid (Bmo np p (A3d np p bd m) k)
def A8j {R:Type} (P:Program) (cfg:Cfg) (q:Bey) (nid:Nat) (s:St) (k:St→Option R):Option R:=match Bwv P cfg.sigs cfg.n s nid q with
 | some (cs,s')=>chk cs (k s')
 | none=>none
def ev {R:Type} (P:Program) (cfg:Cfg) (L:Lt R cfg.pat):Code→St→Nat→Kt R→Option R
 | .skip,s,nid,k=>k .normal s nid
 | .region _ ops draw,s,nid,k=>match Aac ops.toList with
  | some q=>bif draw then none else Afp P cfg ops q.pre nid s fun s'=>A8j P cfg q nid s' (fun s'=>k .normal s' (nid + A4l * ops.size))
  | none=>bif draw then Aux P cfg ops ops.toList nid s [] (fun s'=>k .normal s' (nid + A4l * ops.size)) else Afp P cfg ops ops.toList nid s (fun s'=>k .normal s' (nid + A4l * ops.size))
 | .seq a b,s,nid,k=>ev P cfg L a s nid fun e s' nid'=>match e with
  | .normal=>ev P cfg L b s' nid' k
  | .exit id=>k (.exit id) s' nid'
  | .ret=>k .ret s' nid'
 | .cond c a b,s,nid,k=>match s.conc c with
  | some (.bool t)=>bif t then ev P cfg L a (s.lit c true) nid k else ev P cfg L b (s.lit c false) nid k
  | _=>none
 | .block id c,s,nid,k=>ev P cfg L c s nid fun e s' nid'=>match e with
  | .normal=>k .normal s' nid'
  | .exit id'=>if id'=id then k .normal s' nid' else k (.exit id') s' nid'
  | .ret=>k .ret s' nid'
 | .loop c,s,nid,k=>match (cfg.pat (Hx c)).1.mtch cfg.np s nid with
  | some d=>L (Hx c) d k
  | none=>none
 | .exit id,s,nid,k=>k (.exit id) s nid
 | .ret,s,nid,k=>k .ret s nid
 | _,_,_,_=>none
def At:Code→List Code
 | .loop c=>[c]
 | .seq a b=>At a++At b
 | .cond _ a b=>At a++At b
 | .block _ a=>At a
 | _=>[]
section
variable {R:Type} {P:Program} {n B:Nat} {Iq:List Nat} {s:St} {g:Gh} {a:Act} {w:World} {r:R}
theorem Am8:∀ {cs:List Bool} {k:Option R},chk cs k=some r→b9 cs=true∧k=some r
 | [],k,h=>⟨rfl,h⟩
 | c::cs,k,h=>by
  simp only [chk] at h
  cases c with
  | false=>cases h
  | true=>
   obtain ⟨h1,h2⟩:=Am8 h
   exact ⟨by simp [b9,h1],h2⟩
theorem Aw7 {sg:Gc} {den:MsD sg.ps→Option (MsD sg.rs×BxD sg.ps)} {nid:Nat} {vs:List Vl} {k:AV→St→Option R} (h:A6s sg den s nid vs k=some r):
  ∃ av s',Aun sg den s nid vs=some (av,s')∧k av s'=some r:=by
 unfold A6s at h
 unfold Aun
 split at h
 ·cases h
 ·rename_i ls e1
  dsimp only at h
  split at h
  ·cases h
  ·rename_i q e2
   cases h1:Aak (B4 q.2) with
   | false=>rw [h1] at h; cases h
   | true=>
    rw [h1] at h
    simp only [cond_true] at h
    cases h2:Ya (if (Oc sg.rs&&V0 sg.ps)=true then s else s.frz (Rk s sg.ps ls)) nid (Rz sg.rs) with
    | false=>rw [h2] at h; cases h
    | true=>
     rw [h2] at h
     simp only [cond_true] at h
     obtain ⟨d,e3,h⟩:=By h
     split at h
     ·cases h
     ·rename_i vs' e4
      refine ⟨_,_,?_,h⟩
      rw [e1]
      simp only [Option.bind_some]
      rw [e2]
      simp only [Option.bind_some,h1,h2,if_true,e3,e4]
theorem Ago {x:Operand} {b:Bool} (h:s.conc x=some (.bool b)):s.lit x b=s:=by
 cases x with
 | tmp t=>
  refine St.ext' (fun i=>?_) (fun _=>rfl)
  show upd s.cell t _ i=s.cell i
  by_cases q:i=t
  ·subst q
   rw [Bu]
   unfold St.conc at h
   split at h
   ·rename_i hv
    cases h
    exact hv.symm
   ·cases h
  ·rw [Bl _ _ q]
 | const v=>rfl
 | global _=>rfl
 | func _=>rfl
theorem Auy {T:Tb} {nid:Nat} {o:Oper} {k:AV→St→Option R} (h:Boy P T s nid o k=some r):∃ av s',Aao P T s nid o=some (av,s')∧k av s'=some r:=by
 unfold Boy at h
 unfold Aao
 split at h
 ·rename_i f xs hc
  split at h
  ·rename_i vs hvs
   split at h
   ·rename_i sd hsd
    obtain ⟨av,s',e1,e2⟩:=Aw7 h
    exact ⟨av,s',by simp only [hc,hvs,hsd,e1],e2⟩
   ·rename_i hsd
    split at h
    ·rename_i fn hfn
     split at h
     ·rename_i cs av s' hi
      obtain ⟨h1,h2⟩:=Am8 h
      exact ⟨av,s',by simp only [hc,hvs,hsd,hfn]; rw [hi]; simp [Up,h1],h2⟩
     ·cases h
    ·rename_i hfn
     split at h
     ·rename_i cs av s' hn
      obtain ⟨h1,h2⟩:=Am8 h
      exact ⟨av,s',by simp only [hc,hvs,hsd,hfn]; rw [hn]; simp [Up,h1],h2⟩
     ·cases h
  ·cases h
 ·rename_i hc
  split at h
  ·rename_i f xs ls hcl
   split at h
   ·rename_i vs hvs
    split at h
    ·rename_i sd hsd
     obtain ⟨av,s',e1,e2⟩:=Aw7 h
     exact ⟨av,s',by simp only [hc,hcl,hvs,hsd,e1],e2⟩
    ·cases h
   ·cases h
  ·rename_i hcl
   split at h
   ·rename_i c x y hop
    have hst:Agk P s nid o=av0 s (Am2 s c x y):=by unfold Agk; rw [hop]
    unfold Bww at h
    rw [hst]
    split at h
    ·rename_i t ht
     split at h
     ·rename_i p q hb
      refine ⟨_,_,?_,h⟩
      have:Am2 s c x y=some (.vl (.lf (.c (.bool (bif t then p else q))))):=by unfold Am2; rw [ht]; simp only [hb]
      rw [this]
      simp [hc,hcl,av0,Up,b9]
     ·rename_i hb
      have:Am2 s c x y=some (bif t then s.op x else s.op y):=by unfold Am2; rw [ht]; simp only [hb]
      cases t with
      | true=>
       rw [Ago ht] at h
       exact ⟨s.op x,s,by rw [this]; simp [hc,hcl,av0,Up,b9],h⟩
      | false=>
       rw [Ago ht] at h
       exact ⟨s.op y,s,by rw [this]; simp [hc,hcl,av0,Up,b9],h⟩
    ·cases h
   ·split at h
    ·rename_i cs av s' hst
     obtain ⟨h1,h2⟩:=Am8 h
     exact ⟨av,s',by simp only [hc,hcl]; rw [hst]; simp [Up,h1],h2⟩
    ·cases h
theorem Ye {c:Bool} {x:Option R} (h:(bif c then x else none)=some r):c=true∧x=some r:=by
 cases c with
 | false=>cases h
 | true=>exact ⟨rfl,h⟩
theorem Bjo {sigs:Tb} {nid:Nat} {o:Oper} {k:AV→St→Option R} (h:Bmn P sigs s nid o k=some r):∃ av v,Asq P sigs s nid o=some (av,v)∧k av v=some r:=by
 unfold Bmn at h
 dsimp only at h
 obtain ⟨h1,h⟩:=Ye h
 obtain ⟨h2,h⟩:=Ye h
 obtain ⟨av,v,e1,h⟩:=Auy h
 obtain ⟨h3,h⟩:=Ye h
 obtain ⟨h4,h⟩:=Ye h
 refine ⟨av,v,?_,h⟩
 unfold Asq
 dsimp only
 rw [if_pos h1,if_pos h2,e1]
 simp only [Option.bind_some,h3,h4,if_true]
theorem Am9 {ops:Array Oper} {o:Oper} {go:Bool→St→Option R} (h:Bg1 s ops o go=some r):∃ run,Sw s ops o=some run∧go run s=some r:=by
 unfold Bg1 at h
 unfold Sw
 split at h
 ·rename_i hg
  exact ⟨true,by rw [hg],h⟩
 ·rename_i j want hg
  rw [hg]
  simp only
  unfold Bmd
  split at h
  ·rename_i oj hoj
   rw [hoj]
   simp only
   split at h
   ·rename_i d hd
    rw [hd]
    simp only
    split at h
    ·rename_i b hb
     rw [hb]
     refine ⟨bif b then want else !want,rfl,?_⟩
     have hc:s.conc (.tmp d)=some (.bool b):=by unfold St.conc; show (match s.cell d with | .vl (.lf (.c v))=>some v | _=>none)=_; rw [hb]
     cases b with
     | true=>rw [Ago hc] at h; exact h
     | false=>rw [Ago hc] at h; exact h
    ·rename_i hb
     rw [hb]
     exact ⟨false,rfl,h⟩
    ·cases h
   ·cases h
  ·cases h
structure Gx (np B:Nat) (Iq:List Nat) (s0:St) (g0:Gh) (w0:World) (s:St) (g:Gh) (w:World):Prop where
 kp:Kp B Iq w0 w
 av:g.av=g0.av
 pin:∀ id,id < np→(s0.res id).live=true→s.res id≠.unborn∧(∀ T ls,s.res id=.box T ls→(∃ T' ls',s0.res id=.box T' ls')∧g.blk id=g0.blk id)∧
  ∀ e,∀ t:Ty,∀ xs:List t.D,s.res id=.row e t xs→(∃ e',∃ xs':List t.D,s0.res id=.row e' t xs')∧g.blk id=g0.blk id∧g.hdr id=g0.hdr id
section
variable {np:Nat} {s0:St} {g0:Gh} {w0:World}
theorem Gx.step {s':St} {g':Gh} {w':World} (h:Gx np B Iq s0 g0 w0 s g w) (k:Go B Iq s g w s' g' w'):Gx np B Iq s0 g0 w0 s' g' w':=by
 refine ⟨h.kp.trans k.kp,k.av.trans h.av,fun id hid hl=>?_⟩
 obtain ⟨h1,h2,h3⟩:=h.pin id hid hl
 have r:=k.ref id
 unfold Bo at r
 rcases r with r | r
 ·exact ⟨by rw [r]; simp,fun T ls q=>(by rw [r] at q; cases q),fun e t xs q=>by rw [r] at q; cases q⟩
 ·cases hs:s.res id with
  | unborn=>exact absurd hs h1
  | dead=>rw [hs] at r; exact r.elim
  | box T ls=>
   rw [hs] at r
   obtain ⟨T',ls',e1,e2⟩:=r
   refine ⟨by rw [e1]; simp,fun _ _ _=>?_,fun e t xs q=>by rw [e1] at q; cases q⟩
   obtain ⟨q1,q2⟩:=h2 T ls hs
   exact ⟨q1,e2.trans q2⟩
  | row e t xs=>
   rw [hs] at r
   rcases r with ⟨e',xs',e1,_,e2,e3⟩ | ⟨t',xs',e1,_⟩
   ·refine ⟨by rw [e1]; simp,fun T ls q=>(by rw [e1] at q; cases q),fun e2' t2 xs2 q=>?_⟩
    rw [e1] at q
    cases q
    obtain ⟨q1,q2,q3⟩:=h3 e t xs hs
    exact ⟨q1,e3.trans q2,e2.trans q3⟩
   ·exact ⟨by rw [e1]; simp,fun T ls q=>(by rw [e1] at q; cases q),fun e t xs q=>by rw [e1] at q; cases q⟩
  | frozen t xs=>
   rw [hs] at r
   obtain ⟨t',xs',e1,_⟩:=r
   exact ⟨by rw [e1]; simp,fun T ls q=>(by rw [e1] at q; cases q),fun e t xs q=>by rw [e1] at q; cases q⟩
  | last e t xs c j=>
   rw [hs] at r
   rcases r with ⟨_,_,_,_,_,e1,_⟩ | ⟨t',xs',e1,_⟩
   ·exact ⟨by rw [e1]; simp,fun T ls q=>(by rw [e1] at q; cases q),fun e t xs q=>by rw [e1] at q; cases q⟩
   ·exact ⟨by rw [e1]; simp,fun T ls q=>(by rw [e1] at q; cases q),fun e t xs q=>by rw [e1] at q; cases q⟩
  | map t xs=>
   rw [hs] at r
   obtain ⟨_,_,e1,_⟩:=r
   exact ⟨by rw [e1]; simp,fun T ls q=>(by rw [e1] at q; cases q),fun e t xs q=>by rw [e1] at q; cases q⟩
  | iter t xs seen cur=>
   rw [hs] at r
   obtain ⟨_,_,_,_,e1,_⟩:=r
   exact ⟨by rw [e1]; simp,fun T ls q=>(by rw [e1] at q; cases q),fun e t xs q=>by rw [e1] at q; cases q⟩
theorem Gx.canon {s':St} {g':Gh} (h:Gx np B Iq s0 g0 w0 s g w) (ha:g'.av=g.av) (hp:∀ id,id < np→(s'.res id=.unborn→s.res id=.unborn)∧(∀ T ls,s'.res id=.box T ls→(∃ T' ls',s.res id=.box T' ls')∧g'.blk id=g.blk id)∧(∀ e,∀ t:Ty,∀ xs:List t.D,s'.res id=.row e t xs→(∃ e',∃ xs':List t.D,s.res id=.row e' t xs')∧g'.blk id=g.blk id∧g'.hdr id=g.hdr id)):Gx np B Iq s0 g0 w0 s' g' w:=by
 refine ⟨h.kp,ha.trans h.av,fun id hid hl=>?_⟩
 obtain ⟨h1,h2,h3⟩:=h.pin id hid hl
 obtain ⟨k1,k2,k3⟩:=hp id hid
 refine ⟨fun q=>h1 (k1 q),fun T ls q=>?_,fun e t xs q=>?_⟩
 ·obtain ⟨⟨T',ls',e1⟩,e2⟩:=k2 T ls q
  obtain ⟨e3,e4⟩:=h2 T' ls' e1
  exact ⟨e3,e2.trans e4⟩
 ·obtain ⟨⟨e',xs',e1⟩,e2,e2'⟩:=k3 e t xs q
  obtain ⟨e3,e4,e5⟩:=h3 e' t xs' e1
  exact ⟨e3,e2.trans e4,e2'.trans e5⟩
theorem Aw8 {nid:Nat} {p:C2} {d:p.D} (h:Cx n B Iq s g a w) (hx:Gx np B Iq s0 g0 w0 s g w) (e:p.mtch np s nid=some d):∃ g',Cx n B Iq (p.st d) g' a w∧Gx np B Iq s0 g0 w0 (p.st d) g' w:=by
 obtain ⟨s1,g1,g',k1,k2,k3,k4⟩:=Bu5 h e
 exact ⟨g',k2,(hx.step k1).canon k3 k4⟩
theorem Boz {np':Nat} (hnp:np'=np) {px:Nat→C2} {k:Kt R} {Q:Exit→Act→World→Prop} (hk:∀ e s' nid' g' a' w',k e s' nid'=some r→Cx n B Iq s' g' a' w'→Gx np B Iq s0 g0 w0 s' g' w'→Q e.to a' w') {e:Ex} {nid:Nat}
  (he:Bu6 np' px k e s nid=some r) (h:Cx n B Iq s g a w) (hx:Gx np B Iq s0 g0 w0 s g w):Q e.to a w:=by
 subst hnp
 unfold Bu6 at he
 split at he
 ·rename_i d hd
  obtain ⟨g',k1,k2⟩:=Aw8 h hx hd
  exact hk e _ _ g' a w he k1 k2
 ·cases he
theorem Aq7 {cfg:Cfg} (hs:A2 P cfg.sigs) (hn:cfg.n=n) {ops:Array Oper} {k:St→Option R} {Q:Exit→Act→World→Prop}
  (hk:∀ s' g' a' w',k s'=some r→Cx n B Iq s' g' a' w'→Gx np B Iq s0 g0 w0 s' g' w'→Q .normal a' w'):
  ∀ {l:List Oper} {nid:Nat} {s:St} {g:Gh} {a:Act} {w:World},Afp P cfg ops l nid s k=some r→Cx n B Iq s g a w→Gx np B Iq s0 g0 w0 s g w→wpList P ops Q l a w
 | [],nid,s,g,a,w,e,h,hx=>hk s g a w e h hx
 | o::l,nid,s,g,a,w,e,h,hx=>by
  simp only [Afp] at e
  obtain ⟨run,e1,e⟩:=Am9 e
  unfold wpList
  rw [Vm h e1]
  cases run with
  | true=>
   simp only [cond_true] at e
   obtain ⟨av,s',e2,e⟩:=Auy e
   rw [if_pos rfl]
   left
   refine Am4 hs h e2 _ Q fun v g' w' k1 k2 k3=>?_
   obtain ⟨r1,r2⟩:=Ug k2 o.dst k3
   rw [hn] at e
   exact Aq7 hs hn hk e r1 ((hx.step k1).step r2)
  | false=>
   simp only [cond_false] at e
   rw [if_neg (by simp)]
   obtain ⟨r1,r2⟩:=Ug (av:=.tp []) (v:=undef) h o.dst ⟨#[],rfl,rfl,fun j v hv=>by simp at hv⟩
   rw [hn] at e
   exact Aq7 hs hn hk e r1 (hx.step r2)
theorem Auz {cfg:Cfg} (hs:A2 P cfg.sigs) (hn:cfg.n=n) {ops:Array Oper} {k:St→Option R} {Q:Exit→Act→World→Prop} {rest:List Oper}
  (hk:∀ s' g' a' w',k s'=some r→Cx n B Iq s' g' a' w'→Gx np B Iq s0 g0 w0 s' g' w'→wpList P ops Q rest a' w'):
  ∀ {l:List Oper} {nid:Nat} {s:St} {g:Gh} {a:Act} {w:World},Afp P cfg ops l nid s k=some r→Cx n B Iq s g a w→Gx np B Iq s0 g0 w0 s g w→wpList P ops Q (l++rest) a w
 | [],nid,s,g,a,w,e,h,hx=>hk s g a w e h hx
 | o::l,nid,s,g,a,w,e,h,hx=>by
  simp only [Afp] at e
  obtain ⟨run,e1,e⟩:=Am9 e
  show wpList P ops Q (o::(l++rest)) a w
  unfold wpList
  rw [Vm h e1]
  cases run with
  | true=>
   simp only [cond_true] at e
   obtain ⟨av,s',e2,e⟩:=Auy e
   rw [if_pos rfl]
   left
   refine Am4 hs h e2 _ Q fun v g' w' k1 k2 k3=>?_
   obtain ⟨r1,r2⟩:=Ug k2 o.dst k3
   rw [hn] at e
   exact Auz hs hn hk e r1 ((hx.step k1).step r2)
  | false=>
   simp only [cond_false] at e
   rw [if_neg (by simp)]
   obtain ⟨r1,r2⟩:=Ug (av:=.tp []) (v:=undef) h o.dst ⟨#[],rfl,rfl,fun j v hv=>by simp at hv⟩
   rw [hn] at e
   exact Auz hs hn hk e r1 (hx.step r2)
theorem A8k {l:List Oper} {q:Bey} (h:Aac l=some q):l=q.pre++[q.o2,q.o3,q.o4]:=by
 unfold Aac at h
 split at h
 ·split at h<;>cases h
  rfl
 ·cases h
theorem Bcl {l:List Oper} {q:Bey} (h:Aac l=some q):A6r q.o2 q.o3 q.o4=some (q.V,q.z,q.d2,q.d3,q.fs):=by
 unfold Aac at h
 split at h
 ·split at h<;>cases h
  rename_i h
  exact h
 ·cases h
theorem Bmp {av:AV} {fc:FuncId} {b:Nat} (h:Bss av=some (fc,b)):av=.fn fc [.ptr b 0]:=by
 unfold Bss at h
 split at h<;>cases h
 rfl
theorem Bcm {BT:TypeId} {v:Ze} {r:Nat} (h:A8i BT v=some r):v=.box BT [.row r]:=by
 unfold A8i at h
 split at h
 ·split at h<;>cases h
  rename_i hT
  rw [hT]
 ·cases h
theorem Bg2 {l:Option Lf} {r:Nat} (h:Bgz l=some r):l=some (.row r):=by
 unfold Bgz at h
 split at h<;>cases h
 rfl
theorem Bu7 {cfg:Cfg} (hs:A2 P cfg.sigs) (hn:cfg.n=n) {ops:Array Oper} {q:Bey} (hq:Aac ops.toList=some q) {nid:Nat} {k:St→Option R} {Q:Exit→Act→World→Prop}
  (hk:∀ s' g' a' w',k s'=some r→Cx n B Iq s' g' a' w'→Gx np B Iq s0 g0 w0 s' g' w'→Q .normal a' w') (e:A8j P cfg q nid s k=some r) (h:Cx n B Iq s g a w) (hx:Gx np B Iq s0 g0 w0 s g w):wpList P ops Q [q.o2,q.o3,q.o4] a w:=by
 obtain ⟨t1,t2,t3,t4,t5,t6,t7,t8⟩:=Bg0 (Bcl hq)
 unfold A8j at e
 split at e
 ·rename_i cs s' es
  obtain ⟨hcs,ek⟩:=Am8 e
  clear e
  unfold Bwv at es
  split at es
  ·rename_i fs fc BT U ety hsrt
   split at es
   ·rename_i r0 hr0
    have hr0:=Bg2 hr0
    split at es
    ·rename_i av s3 hst
     split at es
     ·rename_i fc' b hav
      have hav:=Bmp hav
      subst hav
      split at es
      ·rename_i r' xs hbx hrw
       split at es
       rotate_left
       ·cases es
       rename_i c0
       split at es
       ·rename_i c1
        split at es
        ·rename_i c2
         split at es
         ·rename_i c3
          split at es
          ·rename_i c4
           split at es
           ·rename_i c5
            split at es
            ·rename_i c6
             cases es
             subst c1 c2 c3 c4
             rw [hn] at c5 c6 hst ek
             have hbx:=Bcm hbx
             have hrw:=Bml hrw
             obtain ⟨hcal,hok⟩:=hs.srt _ _ _ _ _ hsrt
             have hnd:G0 xs=true∧xs.length≤1000:=by simpa [b9] using hcs
             obtain ⟨hz,_⟩:=E7 h hr0
             unfold wpList
             rw [Vm h (r:=true) (by unfold Sw; rw [t3]),if_pos rfl]
             left
             have hrun:(execOp a.eval q.o2).run P w=.ok (.value (.iface q.V (a.eval q.z))) w:=by
              unfold Beg at c0
              split at c0
              ·rename_i hU
               simp [execOp,t1,Instr.makeInterface,run_underlying hU,Result.andThen]
              ·cases c0
             unfold Oper.wp
             rw [hrun,Oper.upon_value]
             obtain ⟨a1,a2⟩:=Ug (av:=.dead) (v:=.iface q.V (a.eval q.z)) h q.o2.dst trivial
             unfold wpList
             rw [Vm a1 (r:=true) (by unfold Sw; rw [t5]),if_pos rfl]
             left
             refine Am4 hs a1 hst _ Q fun v g3 w3 k1 k2 k3=>?_
             obtain ⟨b1,b2⟩:=Ug k2 q.o3.dst k3
             unfold wpList
             rw [Vm b1 (r:=true) (by unfold Sw; rw [t7]),if_pos rfl]
             left
             obtain ⟨caps,hv,hL⟩:=k3
             obtain ⟨p0,hcaps⟩:∃ p0,caps=#[p0]:=by
              have:=hL.length
              match caps,this with
              | ⟨[x]⟩,_=>exact ⟨x,rfl⟩
             subst hcaps
             have hp:=hL.1.1
             simp only [Fy,hbx] at hp
             obtain ⟨bb,hbb,hp⟩:=hp
             have hp:p0=.pointer (some ⟨bb,0,none⟩):=hp
             subst hp
             have hbx2:(s3.put n q.o3.dst (.fn fc' [.ptr b 0])).res b=.box BT [.row r']:=by rw [A6l]; exact hbx
             have hrw2:(s3.put n q.o3.dst (.fn fc' [.ptr b 0])).res r'=.row ety prT xs:=by rw [A6l]; exact hrw
             have hcall:=Bqg b1 hok hbb hbx2 hrw2 hnd.1 hnd.2
             have hhd:a.eval q.z=g3.hdr r':=by
              have e1:Fy s3 g3 w3 (.row r') (a.eval q.z):=by
               have:=Fy.step (a2.trans k1).S (a2.trans k1).ref hz
               exact this
              simp only [Fy,hrw] at e1
              exact e1
             have hsz:a.tmps.size=n:=h.size
             have hd2:((a.put q.o2.dst (.iface q.V (a.eval q.z))).put q.o3.dst v).eval (.tmp q.d2)=.iface q.V (a.eval q.z):=by
              show ((a.put q.o2.dst (.iface q.V (a.eval q.z))).put q.o3.dst v).tmps.getD q.d2 undef=_
              rw [t2,t4,Bmm t8,Box (by rw [hsz]; exact c5)]
             have hd3:((a.put q.o2.dst (.iface q.V (a.eval q.z))).put q.o3.dst v).eval (.tmp q.d3)=v:=by
              show ((a.put q.o2.dst (.iface q.V (a.eval q.z))).put q.o3.dst v).tmps.getD q.d3 undef=_
              rw [t4,Box (by rw [k2.size]; exact c6)]
             have hco:Aq4 P q.fs (([.tmp q.d2,.tmp q.d3]:List Operand).map ((a.put q.o2.dst (.iface q.V (a.eval q.z))).put q.o3.dst v).eval).toArray n B Iq (s3.put n q.o3.dst (.fn fc' [.ptr b 0])) g3 ((a.put q.o2.dst (.iface q.V (a.eval q.z))).put q.o3.dst v) w3 (.tp [])
              ((s3.put n q.o3.dst (.fn fc' [.ptr b 0])).setRes r' (.row ety prT (V4 xs))):=by
              have hd2':=hd2.trans (congrArg (Value.iface q.V) hhd)
              have hd3':=hd3.trans hv
              simp only [List.map_cons,List.map_nil,hd2',hd3']
              exact hcall
             refine V1.call t6 hcal hco _ Q fun v4 g4 w4 j1 j2 j3=>?_
             obtain ⟨d1,d2⟩:=Ug j2 q.o4.dst j3
             unfold wpList
             exact hk _ _ _ _ ek d1 (((((hx.step a2).step k1).step b2).step j1).step d2)
            ·cases es
           ·cases es
          ·cases es
         ·cases es
        ·cases es
       ·cases es
      ·cases es
     ·cases es
    ·cases es
   ·cases es
  ·cases es
 ·cases e
theorem Ana {cfg:Cfg} {ops:Array Oper} {k:St→Option R}:∀ {l:List Oper} {nid:Nat} {s:St} {acc:List Zq},Aux P cfg ops l nid s acc k=some r→
  ∃ tr,tr.map (·.o)=l∧Auv P cfg.sigs ops cfg.n tr s∧Bqa P ops 0 [] [] (acc.reverse++tr)=true∧∀ i,k (mix P cfg.n (fun _=>true) i tr s)=some r
 | [],nid,s,acc,e=>by
  simp only [Aux] at e
  obtain ⟨h1,h2⟩:=Ye e
  exact ⟨[],rfl,trivial,by simpa using h1,fun i=>h2⟩
 | o::l,nid,s,acc,e=>by
  simp only [Aux] at e
  obtain ⟨run,e1,e⟩:=Am9 e
  cases run with
  | true=>
   simp only [cond_true] at e
   obtain ⟨av,v,e2,e⟩:=Bjo e
   obtain ⟨tr,h1,h2,h3,h4⟩:=Ana e
   refine ⟨Am6 cfg.sigs s nid o av v::tr,by simp [h1,Am6],⟨.inl ⟨e1,av,v,e2,rfl⟩,h2⟩,by simpa using h3,fun i=>?_⟩
   simp only [mix,if_true]
   exact h4 (i + 1)
  | false=>
   simp only [cond_false] at e
   obtain ⟨tr,h1,h2,h3,h4⟩:=Ana e
   refine ⟨Aw1 nid o::tr,by simp [h1,Aw1],⟨.inr ⟨e1,rfl⟩,h2⟩,by simpa using h3,fun i=>?_⟩
   simp only [mix,if_true]
   exact h4 (i + 1)
theorem Bst (listed:Array Bool):∀ k,unl listed k≤k
 | 0=>Nat.le_refl _
 | k + 1=>by
  simp only [unl]
  have:=Bst listed k
  split<;>omega
theorem Bjp {D:Nat→Bool}:∀ {tr:List Zq} {i:Nat} {s:St},(∀ j,D j=false)→mix P n D i tr s=s
 | [],_,_,_=>rfl
 | e::r,i,s,h=>by
  simp only [mix,h,Bool.false_eq_true,if_false]
  exact Bjp h
theorem Bjq (h:Cx n B Iq s g a w):Cx n B Iq s g a { w with drawn:=w.drawn + 1 }∧Go B Iq s g w s g { w with drawn:=w.drawn + 1 }:=by
 have hS:∀ b,Ho s g b→b < w.heap.size→Ho s g b∧({ w with drawn:=w.drawn + 1 }:World).heap[b]? = w.heap[b]? := fun b hb _=>⟨hb,rfl⟩
 have hI:∀ id,Bo s g s g id:=fun _=>Bo.same rfl rfl rfl
 exact ⟨h.step h.size h.defers (Nat.le_refl _) hS hI (fun _=>.inl ⟨rfl,rfl⟩) (fun _=>.inl ⟨rfl,rfl,rfl,fun _ _=>rfl⟩) h.inj h.lt rfl,⟨⟨rfl,rfl,rfl,Nat.le_refl _,fun _ _ _=>rfl⟩,hS,hI,rfl⟩⟩
theorem Bqh {cfg:Cfg} (hm:P.follows .mixedOrders=true) (hs:A2 P cfg.sigs) (hn:cfg.n=n) {id:Nat} {ops:Array Oper} {draw:Bool} {nid:Nat} {k:St→Option R} {Q:Exit→Act→World→Prop}
  (hk:∀ s' g' a' w',k s'=some r→Cx n B Iq s' g' a' w'→Gx np B Iq s0 g0 w0 s' g' w'→Q .normal a' w') (h:Cx n B Iq s g a w) (hx:Gx np B Iq s0 g0 w0 s g w)
  (e:(bif draw then Aux P cfg ops ops.toList nid s [] k else Afp P cfg ops ops.toList nid s k)=some r):(Code.region id ops draw).wp P Q a w:=by
 cases draw with
 | false=>
  simp only [cond_false] at e
  exact wp_region_list (Aq7 hs hn hk e h hx)
 | true=>
  simp only [cond_true] at e
  obtain ⟨tr,h1,h2,h3,h4⟩:=Ana e
  rw [hn] at h2 h4
  obtain ⟨d1,d2⟩:=Bjq h
  refine wp_region_any hm ?_
  have hD:∀ j,(Array.replicate ops.size false).getD j false=false:=fun j=>by
   simp [Array.getD_eq_getD_getElem?,Array.getElem?_replicate]
   split<;>rfl
  have hmix:mix P n (fun i=>(Array.replicate ops.size false).getD i false) 0 tr s=s:=Bjp hD
  refine Bxi hs h1 h2 (by simpa using h3) (g0:=g) (w0:={ w with drawn:=w.drawn + 1 }) (fun a' g' w' q1 q2=>hk _ g' a' w' (h4 0) q2 ((hx.step d2).step q1)) ops.size _ a g _ (by simp) (Bst _ _) (fun j f q1 q2=>?_) ?_ ?_
  ·have q2':(Array.replicate ops.size false).getD j false=true:=q2
   rw [hD] at q2'
   cases q2'
  ·rw [hmix]; exact Go.refl _ _ _ _ _
  ·rw [hmix]; exact d1
theorem Akm {p:Nat→Prop} (h:∃ m,p m):∃ m,p m∧∀ m',p m'→m≤m':=by
 obtain ⟨m,hm⟩:=h
 induction m using Nat.strongRecOn with
 | _ m ih=>
  by_cases q:∃ j,j < m∧p j
  ·obtain ⟨j,q1,q2⟩:=q
   exact ih j q1 q2
  ·refine ⟨m,hm,fun j hj=>?_⟩
   rcases Nat.lt_or_ge j m with q2 | q2
   ·exact absurd ⟨j,q2,hj⟩ q
   ·exact q2
theorem Bu8 {np':Nat} {p:C2×(Nat→C2)} {c:Code} {bd:St→Nat→Kt R→Option R} {Q:Exit→Act→World→Prop} {k:Kt R} (hnp:np'=np)
  (hbd:∀ {s:St} {g:Gh} {a:Act} {w:World} {nid:Nat} {k:Kt R} {Q:Exit→Act→World→Prop},(∀ e s' nid' g' a' w',k e s' nid'=some r→Cx n B Iq s' g' a' w'→Gx np B Iq s0 g0 w0 s' g' w'→Q e.to a' w')→
   bd s nid k=some r→Cx n B Iq s g a w→Gx np B Iq s0 g0 w0 s g w→c.wp P Q a w)
  (hk:∀ e s' nid' g' a' w',k e s' nid'=some r→Cx n B Iq s' g' a' w'→Gx np B Iq s0 g0 w0 s' g' w'→Q e.to a' w') {m:Nat} {d:p.1.D}
  (e:A3d np' p bd m d k=some r) (h:Cx n B Iq (p.1.st d) g a w) (hx:Gx np B Iq s0 g0 w0 (p.1.st d) g w):(Code.loop c).wp P Q a w:=by
 let J:Nat→Act→World→Prop:=fun m a w=>∃ d g,A3d np' p bd m d k=some r∧Cx n B Iq (p.1.st d) g a w∧Gx np B Iq s0 g0 w0 (p.1.st d) g w
 classical
 refine wp_loop (fun a w=>∃ m,J m a w) (fun a w=>if hj:∃ m,J m a w then Classical.choose (Akm hj) else 0) ⟨m,d,g,e,h,hx⟩ fun a w hj=>?_
 have hmu:(if hj:∃ m,J m a w then Classical.choose (Akm hj) else 0)=Classical.choose (Akm hj):=dif_pos hj
 have hspec:=(Classical.choose_spec (Akm hj)).1
 generalize hm:Classical.choose (Akm hj)=m at hspec
 obtain ⟨d,g,e,h,hx⟩:=hspec
 cases m with
 | zero=>simp [A3d] at e
 | succ m=>
  simp only [A3d] at e
  refine hbd (fun e s' nid' g' a' w' q h' hx'=>?_) e h hx
  unfold Bmo at q
  cases e with
  | normal=>
   simp only at q
   split at q
   ·rename_i d' hd
    subst hnp
    obtain ⟨g2,k1,k2⟩:=Aw8 h' hx' hd
    have hJ:J m a' w':=⟨d',g2,q,k1,k2⟩
    refine ⟨⟨m,hJ⟩,?_⟩
    rw [hmu,hm,dif_pos ⟨m,hJ⟩]
    have:=(Classical.choose_spec (Akm (⟨m,hJ⟩:∃ m,J m a' w'))).2 m hJ
    omega
   ·cases q
  | exit id=>exact Boz hnp hk q h' hx'
  | ret=>exact Boz hnp hk q h' hx'
def A4 (P:Program) (R:Type) (n np:Nat) (pat:Nat→C2×(Nat→C2)) (L:Lt R pat) (c:Code):Prop:=
 ∀ (r:R) (B:Nat) (Iq:List Nat) (s0:St) (g0:Gh) (w0:World) (d:(pat (Hx c)).1.D) (g:Gh) (a:Act) (w:World) (k:Kt R) (Q:Exit→Act→World→Prop),
  (∀ e s' nid' g' a' w',k e s' nid'=some r→Cx n B Iq s' g' a' w'→Gx np B Iq s0 g0 w0 s' g' w'→Q e.to a' w')→L (Hx c) d k=some r→Cx n B Iq ((pat (Hx c)).1.st d) g a w→Gx np B Iq s0 g0 w0 ((pat (Hx c)).1.st d) g w→(Code.loop c).wp P Q a w
theorem Bsu {cfg:Cfg} {L:Lt R cfg.pat} (hm:P.follows .mixedOrders=true) (hs:A2 P cfg.sigs) (hn:cfg.n=n) (hnp:cfg.np=np):∀ (c:Code),(∀ c'∈At c,A4 P R n np cfg.pat L c')→∀ {s:St} {g:Gh} {a:Act} {w:World} {nid:Nat} {k:Kt R} {Q:Exit→Act→World→Prop},
  (∀ e s' nid' g' a' w',k e s' nid'=some r→Cx n B Iq s' g' a' w'→Gx np B Iq s0 g0 w0 s' g' w'→Q e.to a' w')→
  ev P cfg L c s nid k=some r→Cx n B Iq s g a w→Gx np B Iq s0 g0 w0 s g w→c.wp P Q a w:=by
 intro c
 induction c with
 | skip=>intro hL s g a w nid k Q hk e h hx; exact wp_skip (hk .normal s nid g a w e h hx)
 | region id ops draw=>
  intro hL s g a w nid k Q hk e h hx
  simp only [ev] at e
  split at e
  ·rename_i q hq
   cases draw with
   | true=>cases e
   | false=>
    simp only [cond_false] at e
    refine wp_region_list ?_
    rw [A8k hq]
    exact Auz hs hn (fun s' g' a' w' e' h' hx'=>Bu7 hs hn hq (fun s2 g2 a2 w2 q2 h2 hx2=>hk .normal s2 _ g2 a2 w2 q2 h2 hx2) e' h' hx') e h hx
  ·exact Bqh hm hs hn (fun s' g' a' w' q h' hx'=>hk .normal s' _ g' a' w' q h' hx') h hx e
 | seq x y ihx ihy=>
  intro hL s g a w nid k Q hk e h hx
  simp only [ev] at e
  refine wp_seq (ihx (fun c' hc'=>hL c' (List.mem_append_left _ hc')) (fun e' s' nid' g' a' w' q h' hx'=>?_) e h hx)
  cases e' with
  | normal=>exact ihy (fun c' hc'=>hL c' (List.mem_append_right _ hc')) hk q h' hx'
  | exit id=>exact hk (.exit id) s' nid' g' a' w' q h' hx'
  | ret=>exact hk .ret s' nid' g' a' w' q h' hx'
 | cond c x y ihx ihy=>
  intro hL s g a w nid k Q hk e h hx
  simp only [ev] at e
  split at e
  ·rename_i t ht
   refine wp_cond (t:=t) (Fc h ht).1 ?_
   cases t with
   | true=>rw [Ago ht] at e; exact ihx (fun c' hc'=>hL c' (List.mem_append_left _ hc')) hk e h hx
   | false=>rw [Ago ht] at e; exact ihy (fun c' hc'=>hL c' (List.mem_append_right _ hc')) hk e h hx
  ·cases e
 | block id c ih=>
  intro hL s g a w nid k Q hk e h hx
  simp only [ev] at e
  refine wp_block (ih hL (fun e' s' nid' g' a' w' q h' hx'=>?_) e h hx)
  cases e' with
  | normal=>exact hk .normal s' nid' g' a' w' q h' hx'
  | exit id'=>
   simp only at q
   show Exit.inBlock id Q (.exit id') a' w'
   unfold Exit.inBlock
   split at q
   ·rename_i hid
    simp only [hid,if_true]
    exact hk .normal s' nid' g' a' w' q h' hx'
   ·rename_i hid
    simp only [hid,if_false]
    exact hk (.exit id') s' nid' g' a' w' q h' hx'
  | ret=>exact hk .ret s' nid' g' a' w' q h' hx'
 | loop c ih=>
  intro hL s g a w nid k Q hk e h hx
  simp only [ev] at e
  split at e
  ·rename_i d hd
   subst hnp
   obtain ⟨g2,k1,k2⟩:=Aw8 h hx hd
   exact hL c (by simp [At]) r B Iq s0 g0 w0 d g2 a w k Q hk e k1 k2
  ·cases e
 | exit id=>intro hL s g a w nid k Q hk e h hx; exact wp_exit (hk (.exit id) s nid g a w e h hx)
 | ret=>intro hL s g a w nid k Q hk e h hx; exact wp_ret (hk .ret s nid g a w e h hx)
 | rangeFunc f params x y ihx ihy=>intro hL s g a w nid k Q hk e h hx; simp [ev] at e
 | scope c ih=>intro hL s g a w nid k Q hk e h hx; simp [ev] at e
 | label l=>intro hL s g a w nid k Q hk e h hx; simp [ev] at e
 | goto l=>intro hL s g a w nid k Q hk e h hx; simp [ev] at e
 | refuse why=>intro hL s g a w nid k Q hk e h hx; simp [ev] at e
end
theorem Bqi {np:Nat} {cfg:Cfg} {L L':Lt R cfg.pat} {c:Code} (hm:P.follows .mixedOrders=true) (hs:A2 P cfg.sigs) (hn:cfg.n=n) (hnp:cfg.np=np)
  (hL:∀ d k (r:R),L (Hx c) d k=some r→∃ m,A3d np (cfg.pat (Hx c)) (fun s nid k=>ev P cfg L' c s nid k) m d k=some r) (hL':∀ c'∈At c,A4 P R n np cfg.pat L' c'):A4 P R n np cfg.pat L c:=by
 intro r B Iq s0 g0 w0 d g a w k Q hk e h hx
 obtain ⟨m,e⟩:=hL d k r e
 exact Bu8 rfl (fun hk' e' h' hx'=>Bsu hm hs hn hnp c hL' hk' e' h' hx') hk e h hx
end
end
section
def Ast (s:St):List Md→Nat→List Lf
 | [],_=>[]
 | .rd _::ps,id=>Ast s ps id
 | .own _ _::ps,id=>Ast s ps (id + 1)
 | .bx _ _::ps,id=>(match s.res id with | .box _ ls=>ls | _=>[])++Ast s ps (id + 1)
 | .mu _ _::ps,id=>Ast s ps (id + 1)
def bkD (s:St):(ps:List Md)→Nat→Option (BxD ps)
 | [],_=>some ()
 | .rd _::ps,id=>bkD s ps id
 | .own _ _::ps,id=>bkD s ps (id + 1)
 | .bx T t::ps,id=>match s.res id with
  | .box T' ls=>if T'=T then (match s.parse t ls with
   | some (z,[])=>(bkD s ps (id + 1)).bind fun q=>some (z,q)
   | _=>none) else none
  | _=>none
 | .mu e t::ps,id=>match s.res id with
  | .row e' t' xs=>if e'=e then (if h:t'=t then (bkD s ps (id + 1)).bind fun q=>some (h ▸ xs,q) else none) else none
  | _=>none
def On:List Md→Nat→List Nat
 | [],_=>[]
 | .rd _::ps,id=>On ps id
 | .own _ _::ps,id=>On ps (id + 1)
 | .bx _ _::ps,id=>id::On ps (id + 1)
 | .mu _ _::ps,id=>id::On ps (id + 1)
def fin (P:Program) (sg:Gc) (rv:List ResultVar):Kt (MsD sg.rs×BxD sg.ps):=fun e s nid=>match e with
 | .exit _=>none
 | _=>match Zf P s rv with
  | none=>none
  | some vs=>match shL sg.rsh vs with
   | none=>none
   | some ls=>
    let sF:=s.frz (Rk s sg.rs ls++Ast s sg.ps 0)
    match Xu sF sg.rs ls with
    | none=>none
    | some q=>match bkD sF sg.ps 0 with
     | none=>none
     | some z=>bif Aak (B4 q.2++On sg.ps 0) then some (q.1,z) else none
def Bb (fn:Func):Code:=match fn.body with
 | some c=>c
 | none=>.skip
def Ajm (sg:Gc) (x:MsD sg.ps) (vs:List Vl):St:=⟨fun i=>match vs[i]? with | some v=>.vl v | none=>.dead,Tq sg.ps x 0 (fun _=>.unborn)⟩
def Bsv (P:Program) (sigs:Tb) (pat:Nat→C2×(Nat→C2)) (sg:Gc) (fn:Func) (L:Lt (MsD sg.rs×BxD sg.ps) pat) (x:MsD sg.ps):Option (MsD sg.rs×BxD sg.ps):=
 match fn.body,shV sg.psh (Bge sg.ps x 0) with
 | some c,some vs=>bif Nat.ble vs.length fn.ntmps then ev P ⟨sigs,Rz sg.ps,fn.ntmps,pat⟩ L c (Ajm sg x vs) (Rz sg.ps) (fin P sg fn.results.toList) else none
 | _,_=>none
section
variable {P:Program} {n B:Nat} {Iq:List Nat} {s:St} {g:Gh} {a:Act} {w:World}
theorem Anb:∀ {ps:List Md} {id j:Nat},j∈On ps id→id≤j∧j < id + Rz ps
 | [],_,_,h=>by simp [On] at h
 | .rd _::ps,id,j,h=>Anb (ps:=ps) h
 | .own _ _::ps,id,j,h=>by
  have:=Anb (ps:=ps) h
  simp only [Rz]
  omega
 | .bx _ _::ps,id,j,h=>by
  simp only [On,List.mem_cons] at h
  simp only [Rz]
  rcases h with rfl | h
  ·omega
  ·have:=Anb (ps:=ps) h
   omega
 | .mu _ _::ps,id,j,h=>by
  simp only [On,List.mem_cons] at h
  simp only [Rz]
  rcases h with rfl | h
  ·omega
  ·have:=Anb (ps:=ps) h
   omega
theorem Bjr (hres:∀ id,Sr s g w id (s.res id)) {g0:Gh}:∀ {ps:List Md} {id:Nat} {us:List Value} {y:BxD ps} {x:MsD ps} {w0:World} {S:Nat→Prop},bkD s ps id=some y→HR w0 S ps x us→
  (∀ j,j∈On ps id→(∀ T ls,s.res j=.box T ls→g.blk j=(Qa ps us id g0).blk j)∧∀ e,∀ t:Ty,∀ xs:List t.D,s.res j=.row e t xs→g.blk j=(Qa ps us id g0).blk j∧g.hdr j=(Qa ps us id g0).hdr j)→
  BkR w (Ho s g) ps y us∧bxs ps us=owB g ((On ps id).map some)∧∀ j∈On ps id,(s.res j).live=true
 | [],_,_,_,_,_,_,_,_,_=>⟨trivial,rfl,by simp [On]⟩
 | .rd t::ps,id,us,y,x,w0,S,e,⟨c1,c2,h1,h2,h3⟩,hp=>by
  subst h1
  have hd:(c1++c2).drop t.sz=c2:=by rw [← Ty.K_len h2]; simp
  simp only [BkR,bxs,hd]
  exact Bjr (ps:=ps) (x:=x.2) hres e h3 (fun j q1=>by have:=hp j q1; simp only [Qa,hd] at this; exact this)
 | .own e0 t::ps,id,us,y,x,w0,S,e,⟨u,c2,h1,h2,h3⟩,hp=>by
  subst h1
  simp only [BkR,bxs,List.tail_cons]
  exact Bjr (ps:=ps) (x:=x.2) hres e h3 (fun j q1=>by have:=hp j q1; simp only [Qa,List.tail_cons] at this; exact this)
 | .bx T t::ps,id,us,y,x,w0,S,e,⟨b,c2,h1,h2,h3⟩,hp=>by
  subst h1
  simp only [bkD] at e
  split at e
  ·rename_i T' ls hr
   split at e
   ·rename_i hT
    split at e
    ·rename_i z hz
     obtain ⟨q,e1,e2⟩:=By e
     cases e2
     subst hT
     have hb0:=(hp id (by simp [On])).1 T' ls hr
     simp only [Qa,List.head?_cons,List.tail_cons] at hb0
     rw [(Dy ps c2 (id + 1) _ id (by omega)).1] at hb0
     simp only [Bu] at hb0
     have hb:g.blk id=some b:=hb0
     have r:=hres id
     rw [hr] at r
     obtain ⟨b',cs,k1,k2,k3⟩:=r
     obtain rfl:b=b':=Option.some.inj (hb.symm.trans k1)
     obtain ⟨e3,k4⟩:=St.parse_K hres hz k3
     have hlen:cs.toList.take t.sz=cs.toList:=by
      apply List.take_of_length_le
      have:ls.length≤t.sz:=List.drop_eq_nil_iff.1 e3.symm
      rw [k3.length]; exact this
     rw [hlen] at k4
     obtain ⟨i1,i2,i3⟩:=Bjr (ps:=ps) (x:=x.2) (us:=c2) hres e1 h3 (fun j q1=>by
      have:=hp j (by simp [On,q1])
      simp only [Qa,List.tail_cons] at this
      exact this)
     refine ⟨⟨⟨b,rfl,cs,k2,k4⟩,i1⟩,?_,?_⟩
     ·simp only [bxs,On,List.map_cons,owB,List.head?_cons,Option.bind_some,List.tail_cons,Zp,hb,i2]
     ·intro j hj
      simp only [On,List.mem_cons] at hj
      rcases hj with rfl | hj
      ·rw [hr]; rfl
      ·exact i3 j hj
    ·cases e
   ·cases e
  ·cases e
 | .mu e0 t::ps,id,us,y,x,w0,S,e,⟨u,c2,h1,h2,h3⟩,hp=>by
  subst h1
  simp only [bkD] at e
  split at e
  ·rename_i e' t' xs hr
   split at e
   ·rename_i he
    split at e
    ·rename_i ht
     obtain ⟨q,e1,e2⟩:=By e
     cases e2
     subst he ht
     obtain ⟨hb0,hh0⟩:=(hp id (by simp [On])).2 e' t' xs hr
     simp only [Qa,List.head?_cons,List.tail_cons,List.headD_cons] at hb0 hh0
     rw [(Dy ps c2 (id + 1) _ id (by omega)).1] at hb0
     rw [(Dy ps c2 (id + 1) _ id (by omega)).2] at hh0
     simp only [Bu,Option.bind_some] at hb0 hh0
     have r:=hres id
     rw [hr] at r
     obtain ⟨cs,k1,k2,k3⟩:=r
     rw [hh0] at k1
     obtain ⟨i1,i2,i3⟩:=Bjr (ps:=ps) (x:=x.2) (us:=c2) hres e1 h3 (fun j q1=>by
      have:=hp j (by simp [On,q1])
      simp only [Qa,List.tail_cons] at this
      exact this)
     refine ⟨⟨⟨u,rfl,cs,k1,k2⟩,i1⟩,?_,?_⟩
     ·simp only [bxs,On,List.map_cons,owB,List.head?_cons,Option.bind_some,List.tail_cons,hb0,i2]
     ·intro j hj
      simp only [On,List.mem_cons] at hj
      rcases hj with rfl | hj
      ·rw [hr]; rfl
      ·exact i3 j hj
    ·cases e
   ·cases e
  ·cases e
theorem Bez (a b:List (Option Nat)):B4 (a++b)=B4 a++B4 b:=by
 induction a with
 | nil=>rfl
 | cons x r ih=>cases x<;>simp [B4,ih]
theorem Be0 (l:List Nat):B4 (l.map some)=l:=by
 induction l with
 | nil=>rfl
 | cons x r ih=>simp [B4,ih]
theorem Bu9 (g:Gh) (a b:List (Option Nat)):owB g (a++b)=owB g a++owB g b:=by
 induction a with
 | nil=>rfl
 | cons x r ih=>simp [owB,ih]
theorem Aas:∀ {ps:List Md} {x:MsD ps} {id j:Nat} {res:Nat→Ze},j∈On ps id→(Tq ps x id res j).live=true
 | [],_,_,_,_,h=>by simp [On] at h
 | .rd _::ps,x,id,j,res,h=>Aas (ps:=ps) h
 | .own e t::ps,x,id,j,res,h=>Aas (ps:=ps) h
 | .bx T t::ps,x,id,j,res,h=>by
  simp only [On,List.mem_cons] at h
  rcases h with rfl | h
  ·have:Tq (.bx T t::ps) x j res j=.box T (t.leafs x.1):=(Nm ps x.2 (j + 1) _ j (by omega)).trans (Bu _ _ _)
   rw [this]
   rfl
  ·exact Aas (ps:=ps) h
 | .mu e t::ps,x,id,j,res,h=>by
  simp only [On,List.mem_cons] at h
  rcases h with rfl | h
  ·have:Tq (.mu e t::ps) x j res j=.row e t x.1:=(Nm ps x.2 (j + 1) _ j (by omega)).trans (Bu _ _ _)
   rw [this]
   rfl
  ·exact Aas (ps:=ps) h
theorem Bsw {sigs:Tb} {pat:Nat→C2×(Nat→C2)} {f:FuncId} {fn:Func} {sg:Gc} {den:MsD sg.ps→Option (MsD sg.rs×BxD sg.ps)} (hm:P.follows .mixedOrders=true) (hs:A2 P sigs)
  (hf : P.funcs[f]? = some fn) (hname : (fn.name == "runtime.NumGoroutine") = false) (hbody : fn.body.isNone = false) (hden : ∀ x r, den x = some r → ∃ L, (∀ c ∈ At (Bb fn), A4 P (MsD sg.rs × BxD sg.ps) fn.ntmps (Rz sg.ps) pat L c) ∧ Bsv P sigs pat sg fn L x = some r) : Qx P f ∧ Amx P f sg den := by
 have sound:Amx P f sg den:=by
  intro x r hx w S us args hHR hSh hOwn
  obtain ⟨L,hLo,he⟩:=hden x r hx
  unfold Bsv at he
  split at he
  ·rename_i c vs hb hvs
   have hbo:Bb fn=c:=by unfold Bb; rw [hb]
   rw [hbo] at hLo
   obtain ⟨hle,he⟩:=Ye he
   have hle:=Nat.le_of_ble_eq_true hle
   refine calls_of_wp hf hb ?_
   generalize hg0:Qa sg.ps us 0 ⟨fun _=>none,fun _=>undef,fun b=>b < w.heap.size∧¬ S b∧b ∉ Ip sg.ps us⟩=g0
   have hav:g0.av=fun b=>b < w.heap.size∧¬ S b∧b ∉ Ip sg.ps us:=by rw [← hg0]; exact Ajd _ _ _ _
   have hin:∀ j b,g0.blk j=some b→j < Rz sg.ps∧b∈Ip sg.ps us:=by
    intro j b q
    by_cases hj:j < Rz sg.ps
    ·rw [← hg0] at q
     exact ⟨hj,Ss _ _ _ _ j b (by omega) (by omega) q⟩
    ·rw [← hg0,(Dy _ _ _ _ j (by omega)).1] at q
     cases q
   have hSof:∀ b,S b→b < w.heap.size→Ho (Ajm sg x vs) g0 b:=by
    intro b hb _
    refine ⟨by rw [hav]; exact fun q=>q.2.1 hb,fun j _ q=>?_⟩
    exact (hOwn.2 b (hin j b q).2).2 hb
   obtain ⟨hL,hR⟩:=Bd7 (s:=Ajm sg x vs) (g:=g0) hSof sg.ps x us 0 (fun _=>.unborn) ⟨fun _=>none,fun _=>undef,fun b=>b < w.heap.size∧¬ S b∧b ∉ Ip sg.ps us⟩ hHR (fun j _ _=>⟨rfl,by rw [hg0],by rw [hg0]⟩)
   have hV:=Boa hvs hL hSh
   have hargs:args.length=vs.length:=hV.length
   have hent:Cx fn.ntmps w.heap.size (Ip sg.ps us) (Ajm sg x vs) g0 { tmps:=args.toArray++Array.replicate (fn.ntmps - args.toArray.size) undef,defers:=[] } w:=by
    refine ⟨by simp; omega,rfl,Nat.le_refl _,fun i=>?_,fun j=>?_,fun i j b q1 q2=>?_,fun j b q=>?_,fun b q=>?_⟩
    ·show AVR _ _ _ (match vs[i]? with | some v=>.vl v | none=>.dead) _
     cases hi:vs[i]? with
     | none=>trivial
     | some v=>
      obtain ⟨u,e1,e2⟩:=hV.get hi
      have hlt:=(List.getElem?_eq_some_iff.1 e1).1
      have:(args.toArray++Array.replicate (fn.ntmps - args.toArray.size) undef).getD i undef=u:=by
       rw [Array.getD_eq_getD_getElem?,Array.getElem?_append_left (by simpa using hlt),List.getElem?_toArray,e1]
       rfl
      rw [this]
      exact e2
    ·by_cases hj:j < Rz sg.ps
     ·exact (hR j (by omega) (by omega)).1
     ·have h1:(Ajm sg x vs).res j=.unborn:=Nm _ _ _ _ j (by omega)
      rw [h1]
      show g0.blk j=none
      cases hq:g0.blk j with
      | none=>rfl
      | some b=>exact absurd (hin j b hq).1 hj
    ·rw [← hg0] at q1 q2
     refine Agf _ _ _ _ i j b hOwn.1 (by omega) ?_ (by omega) ?_ q1 q2
     ·rw [hg0] at q1; have:=(hin i b q1).1; omega
     ·rw [hg0] at q2; have:=(hin j b q2).1; omega
    ·have:=(hin j b q).2
     exact ⟨(hOwn.2 b this).1,.inl this,by rw [hav]; exact fun q=>q.2.2 this⟩
    ·rw [hav] at q
     exact q.1
   have hgx:Gx (Rz sg.ps) w.heap.size (Ip sg.ps us) (Ajm sg x vs) g0 w (Ajm sg x vs) g0 w:=by
    refine ⟨Kp.refl _ _ _,rfl,fun id _ hl=>⟨fun q=>(by rw [q] at hl; cases hl),fun T ls q=>⟨⟨T,ls,q⟩,rfl⟩,fun e t xs q=>⟨⟨e,xs,q⟩,rfl,rfl⟩⟩⟩
   refine Bsu (r:=r) (Q:=bodyPost P fn _) (cfg:=⟨sigs,Rz sg.ps,fn.ntmps,pat⟩) (L:=L) hm hs rfl rfl c hLo (fun e s' nid' g' a' w' hk hR' hX'=>?_) he hent hgx
   have hfin:∀ {vs':List Vl} {ls:List Lf} {q:MsD sg.rs×List (Option Nat)} {z:BxD sg.ps},Zf P s' fn.results.toList=some vs'→shL sg.rsh vs'=some ls→
     Xu (s'.frz (Rk s' sg.rs ls++Ast s' sg.ps 0)) sg.rs ls=some q→bkD (s'.frz (Rk s' sg.rs ls++Ast s' sg.ps 0)) sg.ps 0=some z→Aak (B4 q.2++On sg.ps 0)=true→
     a'.defers=[]∧∃ v,(results fn a'.tmps).run P w'=.ok v w'∧∃ vs us',Ending.returned v=.returned (Bgd vs)∧ShR sg.rsh vs us'∧Fb (Ip sg.ps us) w w'∧
      HR w' (A24 w S (Ip sg.ps us) (Ip sg.rs us'++bxs sg.ps us)) sg.rs q.1 us'∧BkR w' (A24 w S (Ip sg.ps us) (Ip sg.rs us'++bxs sg.ps us)) sg.ps z us∧
      (Ip sg.rs us'++bxs sg.ps us).Nodup∧∀ b∈Ip sg.rs us',b < w'.heap.size∧(b∈Ip sg.ps us∨w.heap.size≤b):=by
    intro vs' ls q z h1 h2 h3 h4 h5
    obtain ⟨us1,r1,r2⟩:=A28 hR' h1
    obtain ⟨cs,hsh,hL'⟩:=Bn9 h2 r2
    obtain ⟨gF,hF,goF,hlf⟩:=Iv (ls:=Rk s' sg.rs ls++Ast s' sg.ps 0) hR'
    have hXF:=hX'.step goF
    have hLF:=hL'.imp hlf
    obtain ⟨k1,k2,k3⟩:=Bd9 hF.res (x:=q.1) (ow:=q.2) h3 hLF
    obtain ⟨b1,b2,b3⟩:=Bjr hF.res (g0:=⟨fun _=>none,fun _=>undef,fun b=>b < w.heap.size∧¬ S b∧b ∉ Ip sg.ps us⟩) (x:=x) (us:=us) h4 hHR (fun j q1=>by
     have hj:=Anb q1
     obtain ⟨_,p2,p3⟩:=hXF.pin j (show j < Rz sg.ps by omega) (Aas q1)
     rw [hg0]
     exact ⟨fun T bl q2=>(p2 T bl q2).2,fun e t xs q2=>(p3 e t xs q2).2⟩)
    have hnd:=Awo h5
    have hgone:Ip sg.rs cs++bxs sg.ps us=owB gF (q.2++(On sg.ps 0).map some):=by rw [k2,b2,Bu9]
    have hS2:∀ b,Ho (s'.frz (Rk s' sg.rs ls++Ast s' sg.ps 0)) gF b→b < w'.heap.size→A24 w S (Ip sg.ps us) (Ip sg.rs cs++bxs sg.ps us) b:=by
     rintro b ⟨q1,q2⟩ _
     rw [hXF.av,hav] at q1
     refine ⟨?_,fun hq=>?_⟩
     ·by_cases c1:S b
      ·exact .inl c1
      ·by_cases c2:b∈Ip sg.ps us
       ·exact .inr (.inl c2)
       ·right; right
        rcases Nat.lt_or_ge b w.heap.size with c3 | c3
        ·exact absurd ⟨c3,c1,c2⟩ q1
        ·exact c3
     ·rw [hgone] at hq
      obtain ⟨id,p1,p2⟩:=w9.1 hq
      rw [Bez,Be0] at p1
      rcases List.mem_append.1 p1 with p1 | p1
      ·exact q2 id (k3 id p1) p2
      ·exact q2 id (b3 id p1) p2
    refine ⟨hR'.defers,_,r1,us1,cs,rfl,hsh,⟨hX'.kp.os,hX'.kp.tape,hX'.kp.output,hX'.kp.size,fun k q1 q2=>hX'.kp.block k q1 q2⟩,A0b (.inr hS2) k1,Aqy (.inr hS2) b1,?_,fun b hb=>?_⟩
    ·rw [hgone]
     exact Aqx hF.inj (by rw [Bez,Be0]; exact hnd)
    ·rw [k2] at hb
     obtain ⟨id,p1,p2⟩:=w9.1 hb
     obtain ⟨q1,q2,_⟩:=hF.lt id b p2
     exact ⟨q1,q2⟩
   have hend:∀ (e:Ex),(∀ id,e≠.exit id)→(match Zf P s' fn.results.toList with
     | none=>none
     | some vs=>match shL sg.rsh vs with
      | none=>none
      | some ls=>
       let sF:=s'.frz (Rk s' sg.rs ls++Ast s' sg.ps 0)
       match Xu sF sg.rs ls with
       | none=>none
       | some q=>match bkD sF sg.ps 0 with
        | none=>none
        | some z=>bif Aak (B4 q.2++On sg.ps 0) then some (q.1,z) else none)=some r→bodyPost P fn (fun e w'=>∃ vs us',e=.returned (Bgd vs)∧ShR sg.rsh vs us'∧Fb (Ip sg.ps us) w w'∧
       HR w' (A24 w S (Ip sg.ps us) (Ip sg.rs us'++bxs sg.ps us)) sg.rs r.1 us'∧BkR w' (A24 w S (Ip sg.ps us) (Ip sg.rs us'++bxs sg.ps us)) sg.ps r.2 us∧
       (Ip sg.rs us'++bxs sg.ps us).Nodup∧∀ b∈Ip sg.rs us',b < w'.heap.size∧(b∈Ip sg.ps us∨w.heap.size≤b)) e.to a' w':=by
    intro e hne h
    split at h
    ·cases h
    ·rename_i vs' h1
     split at h
     ·cases h
     ·rename_i ls h2
      dsimp only at h
      split at h
      ·cases h
      ·rename_i q h3
       split at h
       ·cases h
       ·rename_i z h4
        obtain ⟨h5,h6⟩:=Ye h
        cases h6
        obtain ⟨f1,v,f2,f3⟩:=hfin h1 h2 h3 h4 h5
        cases e with
        | normal=>exact ⟨f1,v,f2,f3⟩
        | ret=>exact ⟨f1,v,f2,f3⟩
        | exit id=>exact absurd rfl (hne id)
   cases e with
   | normal=>exact hend .normal (fun id q=>by cases q) hk
   | ret=>exact hend .ret (fun id q=>by cases q) hk
   | exit id=>cases hk
  ·cases he
 exact ⟨⟨fn,hf,hname,hbody⟩,sound⟩
def Dp:Nat→C2×(Nat→C2):=fun _=>(⟨[],[],[]⟩,fun _=>⟨[],[],[]⟩)
def Hn {R:Type} {pat:Nat→C2×(Nat→C2)}:Lt R pat:=fun _ _ _=>none
def Ea {R:Type} {pat:Nat→C2×(Nat→C2)} (key:Nat) (F:(pat key).1.D→Kt R→Option R) (L:Lt R pat):Lt R pat:=fun j d k=>if h:j=key then F (h ▸ d) k else L j d k
abbrev nI (n:Nat):Int:=(n:Int)
def Bx {α β γ:Type} (f:α→γ) (g:β→γ):α ⊕ β→γ
 | .inl a=>f a
 | .inr b=>g b
theorem Bsx {R:Type} {np n:Nat} {cfg:Cfg} {L:Lt R cfg.pat} {c:Code} {key:Nat} (hkey:Hx c=key) (hm:P.follows .mixedOrders=true) (hs:A2 P cfg.sigs) (hn:cfg.n=n) (hnp:cfg.np=np)
  (hL:∀ d k (r:R),L key d k=some r→∃ m,A3d np (cfg.pat key) (fun s nid k=>ev P cfg L c s nid k) m d k=some r) (hL':∀ c'∈At c,A4 P R n np cfg.pat L c'):A4 P R n np cfg.pat L c:=by
 subst hkey
 exact Bqi hm hs hn hnp hL hL'
theorem Bmq {α β γ δ:Type} (f:α→Option γ) (g:β→Option γ) (o:α ⊕ β) (h:γ→Option δ):(Bx f g o).bind h=Bx (fun a=>(f a).bind h) (fun b=>(g b).bind h) o:=by cases o<;>rfl
theorem Bsy {α β:Type} (c:Prop) [Decidable c] (x y:Option α) (f:α→Option β):(if c then x else y).bind f=if c then x.bind f else y.bind f:=by split<;>rfl
theorem Bqj {α β:Type} (c:Bool) (x y:Option α) (f:α→Option β):(bif c then x else y).bind f=bif c then x.bind f else y.bind f:=by cases c<;>rfl
end
end
section
def Ajn:Code→Option Oper
 | .region _ ops draw=>bif draw then none else ops.toList.head?
 | .seq a _=>Ajn a
 | .block _ a=>Ajn a
 | _=>none
def Anc {R:Type} (P:Program) (cfg:Cfg) (L:Lt R cfg.pat):Code→St→Nat→Kt R→Option R
 | .region _ ops draw,s,nid,k=>bif draw then none else Afp P cfg ops ops.toList.tail nid s (fun s'=>k .normal s' (nid + A4l * ops.size))
 | .seq a b,s,nid,k=>Anc P cfg L a s nid fun e s' nid'=>match e with
  | .normal=>ev P cfg L b s' nid' k
  | .exit id=>k (.exit id) s' nid'
  | .ret=>k .ret s' nid'
 | .block id c,s,nid,k=>Anc P cfg L c s nid fun e s' nid'=>match e with
  | .normal=>k .normal s' nid'
  | .exit id'=>if id'=id then k .normal s' nid' else k (.exit id') s' nid'
  | .ret=>k .ret s' nid'
 | _,_,_,_=>none
def A4m {D E O:Type} (left:D→List E) (stp:D→E→List E→Option D) (fin:D→Option O):Nat→D→O→Prop
 | 0,_,_=>False
 | m + 1,d,r=>(left d=[]→fin d=some r)∧∀ (i:Nat) (e:E),(left d)[i]? = some e→∃ d',stp d e ((left d).eraseIdx i)=some d'∧A4m left stp fin m d' r
open Classical in
def Bqk {D E O:Type} (left:D→List E) (stp:D→E→List E→Option D) (fin:D→Option O) (d:D):Option O:=
 if h:∃ r,∃ m,A4m left stp fin m d r then some (Classical.choose h) else none
theorem Bql {D E O:Type} {left:D→List E} {stp:D→E→List E→Option D} {fin:D→Option O} {d:D} {r:O} (h:Bqk left stp fin d=some r):∃ m,A4m left stp fin m d r:=by
 unfold Bqk at h
 split at h
 ·rename_i hq
  cases h
  exact Classical.choose_spec hq
 ·cases h
theorem A4m.one {D E O:Type} {left:D→List E} {stp:D→E→List E→Option D} {fin:D→Option O}:∀ {m m':Nat} {d:D} {r r':O},A4m left stp fin m d r→A4m left stp fin m' d r'→r=r'
 | 0,_,_,_,_,h,_=>h.elim
 | _,0,_,_,_,_,h=>h.elim
 | m + 1,m' + 1,d,r,r',h,k=>by
  cases hl:left d with
  | nil=>exact Option.some.inj ((h.1 hl).symm.trans (k.1 hl))
  | cons e l=>
   obtain ⟨d1,e1,h1⟩:=h.2 0 e (by rw [hl]; rfl)
   obtain ⟨d2,e2,h2⟩:=k.2 0 e (by rw [hl]; rfl)
   obtain rfl:d1=d2:=Option.some.inj (e1.symm.trans e2)
   exact A4m.one h1 h2
theorem Bva {D E O:Type} {left:D→List E} {stp:D→E→List E→Option D} {fin:D→Option O} {d:D} {m:Nat} {r:O} (h:A4m left stp fin m d r):Bqk left stp fin d=some r:=by
 have hq:∃ r,∃ m,A4m left stp fin m d r:=⟨r,m,h⟩
 unfold Bqk
 rw [dif_pos hq]
 obtain ⟨m',h'⟩:=Classical.choose_spec hq
 rw [A4m.one h' h]
theorem Aw9:∀ {L:List MapEntry} {i:Nat} {e:MapEntry},L[i]? = some e→(L.map (·.born)).Nodup→(L.filter fun x=>!(x.born==e.born))=L.eraseIdx i
 | [],i,e,h,_=>by simp at h
 | x::L,0,e,h,hn=>by
  simp at h
  subst h
  simp only [List.map_cons,List.nodup_cons] at hn
  simp only [List.filter_cons,beq_self_eq_true,Bool.not_true,Bool.false_eq_true,if_false,List.eraseIdx_cons_zero]
  exact List.filter_eq_self.2 fun y hy=>by
   have:y.born≠x.born:=fun q=>hn.1 (List.mem_map.2 ⟨y,hy,q⟩)
   simp [this]
 | x::L,i + 1,e,h,hn=>by
  simp only [List.getElem?_cons_succ] at h
  simp only [List.map_cons,List.nodup_cons] at hn
  have:x.born≠e.born:=fun q=>hn.1 (List.mem_map.2 ⟨e,List.mem_of_getElem? h,q.symm⟩)
  simp only [List.filter_cons,List.eraseIdx_cons_succ]
  rw [Aw9 h hn.2]
  simp [this]
theorem Bmr {es:Array MapEntry} {seen:Array Nat} {t:Ty} {left:List (Aa×t.D)} {e:MapEntry} (h:Auh es seen t left) (hn:(es.toList.map (·.born)).Nodup) (he:e∈(leftOf es seen).toList):
  ∃ (i:Nat) (p:Aa×t.D),left[i]? = some p∧e.key=.string p.1∧e.val=Vy t p.2∧Auh es (seen.push e.born) t (left.eraseIdx i):=by
 have hL:(leftOf es seen).toList=es.toList.filter fun e=>!seen.contains e.born:=by unfold leftOf; rw [Array.toList_filter]
 rw [hL] at he
 obtain ⟨i,hi⟩:=List.mem_iff_getElem?.1 he
 have h1:((es.toList.filter fun e=>!seen.contains e.born).map fun e=>(e.key,e.val))[i]? = some (e.key,e.val):=by rw [List.getElem?_map,hi]; rfl
 have hM:(es.toList.filter fun e=>!seen.contains e.born).map (fun e=>(e.key,e.val))=left.map fun p=>(Value.string p.1,Vy t p.2):=h
 rw [hM,List.getElem?_map] at h1
 obtain ⟨p,hp,hq⟩:=Option.map_eq_some_iff.1 h1
 obtain ⟨h2,h3⟩:=Prod.mk.inj hq
 refine ⟨i,p,hp,h2.symm,h3.symm,?_⟩
 unfold Auh
 have e1:(es.toList.filter fun x=>!(seen.push e.born).contains x.born)=(es.toList.filter fun x=>!seen.contains x.born).filter fun x=>!(x.born==e.born):=by
  rw [List.filter_filter]
  congr 1
  funext x
  rw [contains_push,Bool.not_or,Bool.and_comm]
 have hs:((es.toList.filter fun x=>!seen.contains x.born).map (·.born)).Nodup:=List.Nodup.sublist (List.Sublist.map _ (List.filter_sublist)) hn
 rw [e1,Aw9 hi hs,Agh,Agh,hM]
section
variable {P:Program} {n B:Nat} {Iq:List Nat} {s:St} {g:Gh} {a:Act} {w:World}
theorem Bqm (h:Cx n B Iq s g a w) {id r b:Nat} {t:Ty} {xs left left':List (Aa×t.D)} {cur cur':Option (Aa×t.D)} {o:Obj} {seen':Array Nat} {since c0':Nat} {es:Array MapEntry} {clock:Nat}
  (hr:s.res id=.iter t xs left cur) (hb:g.blk id=some r) (hg:g.hdr id=.pointer (some ⟨r,0,none⟩)) (hh:w.heap[r]? = some o) (hsb:Ho s g b) (hbl:b < w.heap.size) (he:w.heap[b]? = some (.map es clock)) (hs:MapKept.Stamped es clock)
  (hm:Vz es t xs) (hl:Auh es seen' t left') (ho:∀ x∈es.toList,x.born < since) (hc:since≤c0') (hc2:since≤clock)
  (hcur:∀ k v,cur'=some (k,v)→c0'=clock∧∃ e∈es.toList,∃ seen0:Array Nat,seen'=seen0.push e.born∧e.key=.string k∧e.val=Vy t v):
  Go B Iq s g w (s.setRes id (.iter t xs left' cur')) g (Go.ChangeMaps.setBlock w r (.mapIter (some b) since seen' c0'))∧Cx n B Iq (s.setRes id (.iter t xs left' cur')) g a (Go.ChangeMaps.setBlock w r (.mapIter (some b) since seen' c0')):=by
 unfold Go.ChangeMaps.setBlock
 obtain ⟨hset1,hset2⟩:=MapKept.heap_set (o':=.mapIter (some b) since seen' c0') hh
 have hlive:(s.res id).live=true:=by rw [hr]; rfl
 have hne:∀ k,k≠r→({ w with heap:=w.heap.setIfInBounds r (.mapIter (some b) since seen' c0') }:World).heap[k]? = w.heap[k]? := fun k hk=>hset2 k hk
 have hS:∀ c,Ho s g c→c < w.heap.size→Ho (s.setRes id (.iter t xs left' cur')) g c∧({ w with heap:=w.heap.setIfInBounds r (.mapIter (some b) since seen' c0') }:World).heap[c]? = w.heap[c]? := by
  intro c hc _
  refine ⟨⟨hc.1,fun j hj=>?_⟩,hne c (fun q=>hc.2 id hlive (by rw [q]; exact hb))⟩
  by_cases q:j=id
  ·rw [q]; exact hc.2 id hlive
  ·rw [Az s _ q] at hj; exact hc.2 j hj
 have hI:∀ j,Bo s g (s.setRes id (.iter t xs left' cur')) g j:=by
  intro j
  by_cases q:j=id
  ·subst q
   unfold Bo
   rw [hr,Ay]
   exact .inr ⟨_,_,_,_,rfl,rfl,rfl⟩
  ·exact Bo.same (Az s _ q) rfl rfl
 refine ⟨⟨⟨rfl,rfl,rfl,by simp,fun k hk hn=>hne k (fun q=>?_)⟩,hS,hI,rfl⟩,h.step h.size h.defers (by simp) hS hI (fun i=>.inl ⟨rfl,rfl⟩) (fun j=>?_) h.inj (fun j c hj=>?_) rfl⟩
 ·subst q
  rcases (h.lt id k hb).2.1 with q2 | q2
  ·exact hn q2
  ·omega
 ·by_cases q:j=id
  ·subst q
   right
   rw [Ay]
   obtain ⟨s1,s2⟩:=hS b hsb hbl
   exact ⟨b,r,es,clock,since,c0',seen',hb,hg,hset1,s1,by simp; exact hbl,s2.trans he,hs,hm,hl,ho,hc,hc2,hcur⟩
  ·left
   exact ⟨Az s _ q,rfl,rfl,fun c hc=>hne c (fun q2=>q (h.inj j id c hc (by rw [q2]; exact hb)))⟩
 ·have:=h.lt j c hj
  simpa using this
theorem Bvb (h:Cx n B Iq s g a w) {o:Oper} {it:Operand} (ho:o.op=.next it false) {id:Nat} {t:Ty} {xs left:List (Aa×t.D)} {cur:Option (Aa×t.D)} (hl:s.leaf it=some (.row id)) (hr:s.res id=.iter t xs left cur):
  (left=[]∧(execOp a.eval o).run P w=.ok (.value (.tuple #[.bool false])) w)∨
  ∃ (i:Nat) (p:Aa×t.D) (w1:World),left[i]? = some p∧(execOp a.eval o).run P w=.ok (.value (.tuple #[.bool true,.string p.1,Vy t p.2])) w1∧
   Go B Iq s g w (s.setRes id (.iter t xs (left.eraseIdx i) (some p))) g w1∧Cx n B Iq (s.setRes id (.iter t xs (left.eraseIdx i) (some p))) g a w1:=by
 obtain ⟨hlf,_⟩:=E7 h hl
 have q:=h.res id
 rw [hr] at q
 obtain ⟨b,r,es,clock,since,c0,sn,r1,r2,r3,r4,r5,r6,r7,r8,r9,r10,r11,r12,r13⟩:=q
 simp only [Fy,hr] at hlf
 have hrun:=run_next_at (P:=P) w o.type r b since c0 sn es clock r3 r6 r10 r11
 rcases hrun with ⟨h0,hn⟩ | ⟨e,he,w1,hw1,hn⟩
 ·left
  refine ⟨?_,?_⟩
  ·have:(es.toList.filter fun e=>!sn.contains e.born)=[]:=by
    have h2:leftOf es sn=#[]:=Array.eq_empty_of_size_eq_zero h0
    unfold leftOf at h2
    rw [← Array.toList_filter,h2]
   unfold Auh at r9
   rw [this] at r9
   exact List.map_eq_nil_iff.1 r9.symm
  ·simp [execOp,ho,hlf,r2,hn]
 ·right
  obtain ⟨i,p,hp,hk,hv,hle⟩:=Bmr r9 r7.2.1 he
  have hmem:=(mem_left he).1
  refine ⟨i,p,Go.ChangeMaps.setBlock w1 r (.mapIter (some b) since (sn.push e.born) clock),hp,?_,?_⟩
  ·simp only [execOp,ho,hlf,r2]
   simp [hn,hk,hv]
  ·have main:∀ w2:World,Cx n B Iq s g a w2→w2.heap=w.heap→Go B Iq s g w s g w2→
     Go B Iq s g w (s.setRes id (.iter t xs (left.eraseIdx i) (some p))) g (Go.ChangeMaps.setBlock w2 r (.mapIter (some b) since (sn.push e.born) clock))∧
     Cx n B Iq (s.setRes id (.iter t xs (left.eraseIdx i) (some p))) g a (Go.ChangeMaps.setBlock w2 r (.mapIter (some b) since (sn.push e.born) clock)):=by
    intro w2 h2 hw2 hg2
    obtain ⟨k1,k2⟩:=Bqm h2 (left':=left.eraseIdx i) (cur':=some p) (seen':=sn.push e.born) (since:=since) (c0':=clock) hr r1 r2 (by rw [hw2]; exact r3) r4 (by rw [hw2]; exact r5) (by rw [hw2]; exact r6) r7 r8 hle r10 r12 r12 (fun k v q=>by
     cases q
     exact ⟨rfl,e,hmem,sn,rfl,hk,hv⟩)
    exact ⟨hg2.trans k1,k2⟩
   rcases hw1 with rfl | rfl
   ·exact main _ h rfl (Go.refl B Iq s g w1)
   ·obtain ⟨d1,d2⟩:=Bjq h
    exact main _ d1 rfl d2
end
section
variable {R:Type} {P:Program} {n np B:Nat} {Iq:List Nat} {s0:St} {g0:Gh} {w0:World} {r:R}
theorem Be1 {cfg:Cfg} {L:Lt R cfg.pat} (hm:P.follows .mixedOrders=true) (hs:A2 P cfg.sigs) (hn:cfg.n=n) (hnp:cfg.np=np) {o:Oper} (hg:o.guard=none) {s:St} {g:Gh} {a:Act} {w w1:World} (h:Cx n B Iq s g a w) {v:Value} (hr:(execOp a.eval o).run P w=.ok (.value v) w1)
  {s1:St} {g1:Gh} (h1:Cx n B Iq s1 g1 (a.put o.dst v) w1) (hx1:Gx np B Iq s0 g0 w0 s1 g1 w1):
  ∀ (c:Code),(∀ c'∈At c,A4 P R n np cfg.pat L c')→Ajn c=some o→∀ {nid:Nat} {k:Kt R} {Q:Exit→Act→World→Prop},
  (∀ e s' nid' g' a' w',k e s' nid'=some r→Cx n B Iq s' g' a' w'→Gx np B Iq s0 g0 w0 s' g' w'→Q e.to a' w')→Anc P cfg L c s1 nid k=some r→c.wp P Q a w:=by
 intro c
 induction c with
 | region id ops draw=>
  intro hL ho nid k Q hk e
  cases draw with
  | true=>simp [Ajn] at ho
  | false=>
   simp only [Ajn,cond_false] at ho
   simp only [Anc,cond_false] at e
   refine wp_region_list ?_
   cases hl:ops.toList with
   | nil=>rw [hl] at ho; cases ho
   | cons o' l=>
    rw [hl] at ho e
    cases ho
    unfold wpList
    rw [Vm h (r:=true) (by unfold Sw; rw [hg]),if_pos rfl]
    left
    unfold Oper.wp
    rw [hr,Oper.upon_value]
    exact Aq7 hs hn (fun s' g' a' w' q h' hx'=>hk .normal s' _ g' a' w' q h' hx') e h1 hx1
 | seq x y ihx ihy=>
  intro hL ho nid k Q hk e
  simp only [Anc] at e
  refine wp_seq (ihx (fun c' hc'=>hL c' (List.mem_append_left _ hc')) ho (fun e' s' nid' g' a' w' q h' hx'=>?_) e)
  cases e' with
  | normal=>exact Bsu hm hs hn hnp y (fun c' hc'=>hL c' (List.mem_append_right _ hc')) hk q h' hx'
  | exit id=>exact hk (.exit id) s' nid' g' a' w' q h' hx'
  | ret=>exact hk .ret s' nid' g' a' w' q h' hx'
 | block id c ih=>
  intro hL ho nid k Q hk e
  simp only [Anc] at e
  refine wp_block (ih hL ho (fun e' s' nid' g' a' w' q h' hx'=>?_) e)
  cases e' with
  | normal=>exact hk .normal s' nid' g' a' w' q h' hx'
  | exit id'=>
   simp only at q
   show Exit.inBlock id Q (.exit id') a' w'
   unfold Exit.inBlock
   split at q
   ·rename_i hid
    simp only [hid,if_true]
    exact hk .normal s' nid' g' a' w' q h' hx'
   ·rename_i hid
    simp only [hid,if_false]
    exact hk (.exit id') s' nid' g' a' w' q h' hx'
  | ret=>exact hk .ret s' nid' g' a' w' q h' hx'
 | skip=>intro _ ho; cases ho
 | cond c x y ihx ihy=>intro _ ho; cases ho
 | loop c ih=>intro _ ho; cases ho
 | exit id=>intro _ ho; cases ho
 | ret=>intro _ ho; cases ho
 | rangeFunc f params x y ihx ihy=>intro _ ho; cases ho
 | scope c ih=>intro _ ho; cases ho
 | label l=>intro _ ho; cases ho
 | goto l=>intro _ ho; cases ho
 | refuse why=>intro _ ho; cases ho
end
def Bsz (P:Program) (cfg:Cfg) (c:Code) (p:C2×(Nat→C2)) (ii sl:Nat) (t:Ty) (xs:p.1.D→List (Aa×t.D)) (d:p.1.D) (e:Aa×t.D) (l:List (Aa×t.D)):Option p.1.D:=
 Anc (R:=p.1.D) P cfg Hn c (((p.1.st d).setRes ii (.iter t (xs d) l (some e))).put cfg.n (some sl) (.tp [.lf (.c (.bool true)),.lf (.c (.string e.1)),.lf (.c (Vy t e.2))])) p.1.nid fun x s nid=>match x with
  | .normal=>p.1.mtch cfg.np s nid
  | _=>none
def Bs0 (P:Program) (cfg:Cfg) (c:Code) (p:C2×(Nat→C2)) (sl xid:Nat) (d:p.1.D):Option (p.2 (xid + 2)).D:=
 Anc (R:=(p.2 (xid + 2)).D) P cfg Hn c ((p.1.st d).put cfg.n (some sl) (.tp [.lf (.c (.bool false))])) p.1.nid fun x s nid=>match x with
  | .exit id=>if id=xid then (p.2 (xid + 2)).mtch cfg.np s nid else none
  | _=>none
def Bo0 (c:Code):Option (Operand×Nat):=match Ajn c with
 | some o=>match o.op,o.guard,o.dst with
  | .next it false,none,some sl=>some (it,sl)
  | _,_,_=>none
 | none=>none
theorem Bs1 {R:Type} {P:Program} {n np:Nat} {cfg:Cfg} {L:Lt R cfg.pat} {c:Code} {key:Nat} (hkey:Hx c=key) (hm:P.follows .mixedOrders=true) (hs:A2 P cfg.sigs) (hn:cfg.n=n) (hnp:cfg.np=np) {it:Operand} {sl ii xid:Nat} {t:Ty}
  (hpt:Aq0 t=true) (hhd:Bo0 c=some (it,sl)) (hno:At c=[])
  {xs left:(cfg.pat key).1.D→List (Aa×t.D)} {cur:(cfg.pat key).1.D→Option (Aa×t.D)} (hlf:∀ d,((cfg.pat key).1.st d).leaf it=some (.row ii)) (hres:∀ d,((cfg.pat key).1.st d).res ii=.iter t (xs d) (left d) (cur d))
  {stp:(cfg.pat key).1.D→Aa×t.D→List (Aa×t.D)→Option (cfg.pat key).1.D} {fin:(cfg.pat key).1.D→Option ((cfg.pat key).2 (xid + 2)).D}
  (hstp:∀ d e l,Bsz P cfg c (cfg.pat key) ii sl t xs d e l=stp d e l) (hfin:∀ d,Bs0 P cfg c (cfg.pat key) sl xid d=fin d)
  (hL:∀ d k,L key d k=Bqk left stp (fun d=>(fin d).bind fun r=>k (.exit xid) (((cfg.pat key).2 (xid + 2)).st r) ((cfg.pat key).2 (xid + 2)).nid) d):A4 P R n np cfg.pat L c:=by
 obtain ⟨o,ho,hop,hg,hd⟩:∃ o:Oper,Ajn c=some o∧o.op=.next it false∧o.guard=none∧o.dst=some sl:=by
  unfold Bo0 at hhd
  split at hhd
  ·rename_i o ho
   split at hhd
   ·rename_i h1 h2 h3
    cases hhd
    exact ⟨o,ho,h1,h2,h3⟩
   ·cases hhd
  ·cases hhd
 subst hkey
 intro r B Iq s0 g0 w0 d g a w k Q hk e h hx
 rw [hL] at e
 obtain ⟨m,hT⟩:=Bql e
 let J:Nat→Act→World→Prop:=fun m a w=>∃ d g,A4m left stp (fun d=>(fin d).bind fun r=>k (.exit xid) (((cfg.pat (Hx c)).2 (xid + 2)).st r) ((cfg.pat (Hx c)).2 (xid + 2)).nid) m d r∧Cx n B Iq ((cfg.pat (Hx c)).1.st d) g a w∧Gx np B Iq s0 g0 w0 ((cfg.pat (Hx c)).1.st d) g w
 classical
 refine wp_loop (fun a w=>∃ m,J m a w) (fun a w=>if hj:∃ m,J m a w then Classical.choose (Akm hj) else 0) ⟨m,d,g,hT,h,hx⟩ fun a w hj=>?_
 have hmu:(if hj:∃ m,J m a w then Classical.choose (Akm hj) else 0)=Classical.choose (Akm hj):=dif_pos hj
 have hspec:=(Classical.choose_spec (Akm hj)).1
 generalize hmm:Classical.choose (Akm hj)=m at hspec
 obtain ⟨d,g,hT,h,hx⟩:=hspec
 cases m with
 | zero=>exact hT.elim
 | succ m=>
  rcases Bvb (P:=P) h hop (hlf d) (hres d) with ⟨hl,hrun⟩ | ⟨i,p,w1,hp,hrun,k1,k2⟩
  ·obtain ⟨q,ef,e2⟩:=By (hT.1 hl)
   rw [← hfin] at ef
   unfold Bs0 at ef
   rw [hn] at ef
   obtain ⟨r1,r2⟩:=Ug (av:=.tp [.lf (.c (.bool false))]) (v:=.tuple #[.bool false]) h o.dst ⟨_,rfl,rfl,fun j v hj=>by
    match j,hj with
    | 0,hj=>cases hj; exact ⟨.bool false,rfl,rfl,rfl⟩⟩
   rw [← hd] at ef
   refine Be1 hm hs hn hnp hg h hrun r1 (hx.step r2) c (fun c' hc'=>by rw [hno] at hc'; cases hc') ho (fun e s' nid' g' a' w' qq h' hx'=>?_) ef
   cases e with
   | normal=>cases qq
   | ret=>cases qq
   | exit id=>
    simp only at qq
    split at qq
    ·rename_i hid
     subst hid
     subst hnp
     obtain ⟨g2,j1,j2⟩:=Aw8 h' hx' qq
     exact hk (.exit id) _ _ g2 a' w' e2 j1 j2
    ·cases qq
  ·obtain ⟨d',ed,hT'⟩:=hT.2 i p hp
   rw [← hstp] at ed
   unfold Bsz at ed
   rw [hn] at ed
   obtain ⟨r1,r2⟩:=Ug (av:=.tp [.lf (.c (.bool true)),.lf (.c (.string p.1)),.lf (.c (Vy t p.2))]) (v:=.tuple #[.bool true,.string p.1,Vy t p.2]) k2 o.dst ⟨_,rfl,rfl,fun j v hj=>by
    match j,hj with
    | 0,hj=>cases hj; exact ⟨.bool true,rfl,rfl,rfl⟩
    | 1,hj=>cases hj; exact ⟨.string p.1,rfl,rfl,rfl⟩
    | 2,hj=>cases hj; exact ⟨Vy t p.2,rfl,rfl,Bee hpt⟩⟩
   rw [← hd] at ed
   refine Be1 hm hs hn hnp hg h hrun r1 ((hx.step k1).step r2) c (fun c' hc'=>by rw [hno] at hc'; cases hc') ho (fun e s' nid' g' a' w' qq h' hx'=>?_) ed
   cases e with
   | ret=>cases qq
   | exit id=>cases qq
   | normal=>
    simp only at qq
    subst hnp
    obtain ⟨g2,j1,j2⟩:=Aw8 h' hx' qq
    have hJ:J m a' w':=⟨d',g2,hT',j1,j2⟩
    refine ⟨⟨m,hJ⟩,?_⟩
    rw [hmu,hmm,dif_pos ⟨m,hJ⟩]
    have:=(Classical.choose_spec (Akm (⟨m,hJ⟩:∃ m,J m a' w'))).2 m hJ
    omega
end
open Go Go.RowKit Go.WideShapes
section
def Bvc (f:TypeId→Option Ty):List Field→Nat→Option Ty
 | [],_=>some .unit
 | d::r,off=>if d.offset=off then (f d.type).bind fun a=>(Bvc f r (off + a.sz)).bind fun b=>some (.pair a b) else none
def tyG (P:Program):Nat→TypeId→Option Ty
 | 0,_=>none
 | k + 1,t=>match P.underlying t with
  | some (.int i)=>some (.int i)
  | some .bool=>some .bool
  | some .string=>some .str
  | some (.slice e)=>(tyG P k e).bind fun a=>if 0 < a.sz then (if 0 < P.bytesOf e then some (.sl a) else none) else none
  | some (.struct fs)=>(Bvc (tyG P k) fs.toList 0).bind fun a=>if P.cellsOf t=a.sz then some a else none
  | _=>none
def Agp:(t:Ty)→t.D→Prop
 | .int k,n=>(Lit.int k n).wf=true
 | .bool,_=>True
 | .str,s=>ByteArray.size s≤reachBytes
 | .sl t,xs=>List.length xs≤reachBytes∧∀ (i:Nat) (x:t.D),nth (α:=t.D) xs i=some x→Agp t x
 | .unit,_=>True
 | .pair a b,x=>Agp a x.1∧Agp b x.2
theorem Bjs {α:Type} {n:Nat} {f:Fin n→α} {i:Nat} {x:α} (h:nth (List.ofFn f) i=some x):∃ hi:i < n,f ⟨i,hi⟩=x:=by
 unfold nth at h
 rw [List.getElem?_ofFn] at h
 split at h
 ·rename_i hi
  exact ⟨hi,Option.some.inj h⟩
 ·cases h
section
variable {H:Type} {enc:TypeId×Value→H} {P:Program} {w:World} {spare:Nat→Bool} {held:Bool}
theorem Ane {e:TypeId}:∀ {ds:List (DataW H)} {i:Nat} {d:DataW H},ds[i]? = some d→∀ n∈d.weights P e,n∈DataW.weightsAll P e ds
 | [],i,d,h,_,_=>by simp at h
 | d0::r,0,d,h,n,hn=>by
  simp at h
  subst h
  simp only [DataW.weightsAll,List.mem_append]
  exact .inl hn
 | d0::r,i + 1,d,h,n,hn=>by
  simp only [DataW.weightsAll,List.mem_append]
  exact .inr (Ane (i:=i) (by simpa using h) n hn)
theorem Bvd {a:Addr} {v:Value} (h:w.cell? a=some v):a.block < w.heap.size:=by
 unfold World.cell? at h
 cases hq:w.heap[a.block]? with
 | none=>rw [hq] at h; simp at h
 | some o=>exact (Array.getElem?_eq_some_iff.1 hq).1
theorem Bxn:∀ {k:Nat} {T:TypeId} {t:Ty},tyG P k T=some t→∀ {fuel:Nat} {cs:List Value} {x:DataW H×List MemPlace},DataW.trod enc P w 0 spare held fuel T cs=some x→
  (∀ n∈x.1.weights P T,n≤reachBytes)→∃ y:t.D,t.K w (fun _=>True) y cs∧Agp t y:=by
 intro k
 induction k with
 | zero=>intro T t h; cases h
 | succ k ih=>
  intro T t h fuel cs x hx hw
  simp only [tyG] at h
  split at h
  ·rename_i i hU
   cases h
   obtain ⟨n,rfl,rfl,h3⟩:=DataW.trod_int hU hx
   exact ⟨n,rfl,h3⟩
  ·rename_i hU
   cases h
   obtain ⟨b,rfl,rfl⟩:=DataW.trod_bool hU hx
   exact ⟨b,rfl,trivial⟩
  ·rename_i hU
   cases h
   obtain ⟨s,rfl,rfl,h3⟩:=DataW.trod_string hU hx
   refine ⟨s,rfl,?_⟩
   have:=hw s.data.toList.length (by simp [DataW.weights])
   rw [Array.length_toList] at this
   exact this
  ·rename_i e hU
   obtain ⟨a,ha,h2⟩:=By h
   split at h2
   ·rename_i hpos
    split at h2<;>cases h2
    rename_i hby
    rcases DataW.trod_slice hU hx with ⟨rfl,rfl⟩ | ⟨ad,len,cap,elems,rest,n,rfl,rfl,rfl,hb,hl,hc,hlen,hel,_,_⟩
    ·exact ⟨([]:List a.D),⟨none,0,rfl,Nat.le_refl _,fun i y hy=>by simp [nth] at hy⟩,by simp,fun i y hy=>by simp [nth] at hy⟩
    ·have hwl:(elems.length + rest.length) * P.bytesOf e≤reachBytes:=by
      have:=hw ((elems.length + rest.length) * P.bytesOf e) (by simp [DataW.weights,hU])
      simpa using this
     have one:∀ i:Fin len,∃ y:a.D,(∃ cs',cs'.length=a.sz∧a.K w (fun _=>True) y cs'∧ad.block < w.heap.size∧∀ (j:Nat) (u:Value),cs'[j]? = some u→w.cell? (ad.add (i.1 * a.sz + j))=some u)∧Agp a y:=by
      intro i
      have hi:=hel i.1 i.2
      rw [List.getElem?_eq_getElem (by omega)] at hi
      obtain ⟨cs',h1,h2⟩:=By hi
      obtain ⟨y,k1,k2⟩:=ih ha h2 (fun m hm=>hw m (by
       simp only [DataW.weights,hU,List.mem_cons,List.mem_append]
       refine .inr (.inl (Ane (i:=i.1) (d:=(elems[i.1]'(by omega)).1) ?_ m hm))
       rw [List.getElem?_map,List.getElem?_eq_getElem (by omega)]
       rfl))
      have hsz:=Ty.K_len k1
      obtain ⟨_,c2,c3⟩:=World.cells?_some h1
      have hcell:P.cellsOf e=a.sz:=by omega
      have hall:∀ (j:Nat) (u:Value),cs'[j]? = some u→w.cell? (ad.add (i.1 * a.sz + j))=some u:=by
       intro j u hu
       have hj:=(List.getElem?_eq_some_iff.1 hu).1
       have:=c3 j (by omega)
       rw [A6b,hcell] at this
       rw [this,hu]
      refine ⟨y,⟨cs',hsz,k1,?_,hall⟩,k2⟩
      have h0:cs'[0]? = some (cs'[0]'(by omega)):=List.getElem?_eq_getElem (by omega)
      have:=Bvd (hall 0 _ h0)
      rwa [Agc] at this
     refine ⟨(List.ofFn fun i=>Classical.choose (one i):List a.D),⟨some ad,cap,by rw [List.length_ofFn],by rw [List.length_ofFn]; exact hl,fun i y hy=>?_⟩,?_,fun i y hy=>?_⟩
     ·obtain ⟨hi,rfl⟩:=Bjs hy
      obtain ⟨⟨cs',q1,q2,q3,q4⟩,_⟩:=Classical.choose_spec (one ⟨i,hi⟩)
      exact ⟨ad,rfl,trivial,q3,cs',q1,q2,q4⟩
     ·rw [List.length_ofFn]
      have:elems.length * 1≤(elems.length + rest.length) * P.bytesOf e:=Nat.mul_le_mul (by omega) hby
      omega
     ·obtain ⟨hi,rfl⟩:=Bjs hy
      exact (Classical.choose_spec (one ⟨i,hi⟩)).2
   ·cases h2
  ·rename_i fs hU
   obtain ⟨a,ha,h2⟩:=By h
   split at h2<;>cases h2
   rename_i hsz
   obtain ⟨xs,n,rfl,rfl,hcl,hxl,hf⟩:=DataW.trod_struct hU hx
   have hwE:∀ m∈DataW.weightsEach P (fs.toList.map (·.type)) (xs.map (·.1)),m≤reachBytes:=fun m hm=>hw m (by simpa [DataW.weights,hU] using hm)
   have go:∀ (l:List Field) (off:Nat) (b:Ty) (ys:List (DataW H×List MemPlace)),Bvc (tyG P k) l off=some b→ys.length=l.length→
     (∀ (i:Nat) (f:Field),l[i]? = some f→DataW.trod enc P w 0 spare held n f.type ((cs.drop f.offset).take (P.cellsOf f.type))=ys[i]?)→
     (∀ m∈DataW.weightsEach P (l.map (·.type)) (ys.map (·.1)),m≤reachBytes)→∃ y:b.D,b.K w (fun _=>True) y ((cs.drop off).take b.sz)∧Agp b y:=by
    intro l
    induction l with
    | nil=>
     intro off b ys hb _ _ _
     cases hb
     exact ⟨(),by show _=[]; simp [Ty.sz],trivial⟩
    | cons f r ihl=>
     intro off b ys hb hlen hall hwts
     simp only [Bvc] at hb
     split at hb
     ·rename_i hoff
      obtain ⟨b1,hb1,hb⟩:=By hb
      obtain ⟨b2,hb2,hb⟩:=By hb
      cases hb
      cases ys with
      | nil=>simp at hlen
      | cons y0 ys=>
       have h0:=hall 0 f rfl
       simp only [List.getElem?_cons_zero] at h0
       obtain ⟨y1,k1,f1⟩:=ih hb1 h0 (fun m hm=>hwts m (by simp only [List.map_cons,DataW.weightsEach,List.mem_append]; exact .inl hm))
       obtain ⟨y2,k2,f2⟩:=ihl (off + b1.sz) b2 ys hb2 (by simpa using hlen) (fun i f' hi=>by have:=hall (i + 1) f' (by simpa using hi); simpa using this) (fun m hm=>hwts m (by simp only [List.map_cons,DataW.weightsEach,List.mem_append]; exact .inr hm))
       have e1:(cs.drop f.offset).take (P.cellsOf f.type)=(cs.drop off).take b1.sz:=by
        have hl1:=Ty.K_len k1
        rw [hoff] at hl1 ⊢
        rw [List.length_take] at hl1
        rcases Nat.le_total (P.cellsOf f.type) (cs.drop off).length with q | q
        ·rw [Nat.min_eq_left q] at hl1
         rw [hl1]
        ·rw [Nat.min_eq_right q] at hl1
         rw [List.take_of_length_le q,List.take_of_length_le (by omega)]
       rw [e1] at k1
       refine ⟨(y1,y2),⟨(cs.drop off).take b1.sz,(cs.drop (off + b1.sz)).take b2.sz,?_,k1,k2⟩,f1,f2⟩
       show (cs.drop off).take (b1.sz + b2.sz)=_
       rw [List.take_add,List.drop_drop]
     ·cases hb
   obtain ⟨y,k1,k2⟩:=go fs.toList 0 t xs ha (by simpa using hxl) (fun i f hi=>hf i f (by simpa using hi)) hwE
   refine ⟨y,?_,k2⟩
   rw [List.drop_zero,List.take_of_length_le (by omega)] at k1
   exact k1
  ·cases h
def Bms (P:Program) (T:TypeId):Option Nat:=match P.underlying T with
 | some (.struct _)=>some (P.cellsOf T)
 | _=>none
def rds:List Ty→List Md
 | []=>[]
 | t::r=>.rd t::rds r
def Bs3:(ts:List Ty)→MsD (rds ts)→Prop
 | [],_=>True
 | t::r,x=>Agp t x.1∧Bs3 r x.2
def Bxo (P:Program):List TypeId→Option (List Ty)
 | []=>some []
 | T::r=>(tyG P 12 T).bind fun t=>(Bxo P r).bind fun l=>some (t::l)
theorem Axa:∀ (ts:List Ty) (us:List Value),Ip (rds ts) us=[]
 | [],_=>rfl
 | t::r,us=>Axa r _
theorem Bg3 {b0:Nat} {T:TypeId} {t:Ty} (h:tyG P 12 T=some t) {v:Value} (hv:Value.okWide P w .any b0 T v):∃ cs,ShR [Bms P T] [v] cs∧cs=v.cells.toList:=by
 unfold tyG at h
 unfold Bms
 split at h
 ·rename_i i hU
  obtain ⟨n,rfl⟩:=okWide_int hU hv
  rw [hU]
  exact ⟨_,⟨_,[],[],rfl,rfl,rfl,rfl,rfl⟩,rfl⟩
 ·rename_i hU
  obtain ⟨n,rfl⟩:=okWide_bool hU hv
  rw [hU]
  exact ⟨_,⟨_,[],[],rfl,rfl,rfl,rfl,rfl⟩,rfl⟩
 ·rename_i hU
  obtain ⟨n,rfl⟩:=okWide_string hU hv
  rw [hU]
  exact ⟨_,⟨_,[],[],rfl,rfl,rfl,rfl,rfl⟩,rfl⟩
 ·rename_i e hU
  obtain ⟨a,l,c,rfl⟩:=okWide_slice hU hv
  rw [hU]
  exact ⟨_,⟨_,[],[],rfl,rfl,rfl,rfl,rfl⟩,rfl⟩
 ·rename_i fs hU
  obtain ⟨cs,rfl,hs⟩:=okWide_struct hU hv
  rw [hU]
  exact ⟨cs.toList,⟨cs,[],[],rfl,(List.append_nil _).symm,hs,rfl,rfl⟩,rfl⟩
 ·cases h
theorem Bs4 {x:Option Nat} {sh:List (Option Nat)} {v:Value} {vs c1 c2:List Value} (h1:ShR [x] [v] c1) (h2:ShR sh vs c2):ShR (x::sh) (v::vs) (c1++c2):=by
 cases x with
 | none=>
  obtain ⟨u,us',cs',e1,e2,e3,e4,e5⟩:=h1
  subst e4 e5
  cases e1
  subst e2
  exact ⟨v,vs,c2,rfl,rfl,e3,h2⟩
 | some k=>
  obtain ⟨c,us',cs',e1,e2,e3,e4,e5⟩:=h1
  subst e4 e5
  cases e1
  subst e2
  exact ⟨c,vs,c2,rfl,by rw [List.append_nil],e3,h2⟩
theorem Be2 {b0:Nat}:∀ {Ts:List TypeId} {ts:List Ty},Bxo P Ts=some ts→∀ {vs:List Value} {ds:List (DataW H)} {ps:List MemPlace},DataW.TrodAll enc P w 0 spare held Ts vs ds ps→
  (∀ (j:Nat) T v,Ts[j]? = some T→vs[j]? = some v→Value.okWide P w .any b0 T v)→(∀ n∈DataW.weightsEach P Ts ds,n≤reachBytes)→
  ∃ (x:MsD (rds ts)) (us:List Value),HR w (fun _=>True) (rds ts) x us∧ShR (Ts.map (Bms P)) vs us∧Bs3 ts x
 | [],ts,h,vs,ds,ps,hT,_,_=>by
  cases h
  obtain ⟨rfl,rfl,rfl⟩:=Go.ChangeShapes.trodAll_nil hT
  exact ⟨(),[],rfl,⟨rfl,rfl⟩,trivial⟩
 | T::Ts,ts,h,vs,ds,ps,hT,hok,hw=>by
  simp only [Bxo] at h
  obtain ⟨t,h1,h⟩:=By h
  obtain ⟨l,h2,h⟩:=By h
  cases h
  obtain ⟨v,vs',d,ds',p,q,rfl,rfl,rfl,⟨fuel,k1⟩,k2⟩:=Go.ChangeShapes.trodAll_cons hT
  obtain ⟨y,q1,q2⟩:=Bxn h1 k1 (fun n hn=>hw n (by simp only [DataW.weightsEach,List.mem_append]; exact .inl hn))
  obtain ⟨x,us,r1,r2,r3⟩:=Be2 h2 k2 (fun j T' v' e1 e2=>hok (j + 1) T' v' (by simpa using e1) (by simpa using e2)) (fun n hn=>hw n (by simp only [DataW.weightsEach,List.mem_append]; exact .inr hn))
  obtain ⟨cs,s1,rfl⟩:=Bg3 h1 (hok 0 T v rfl rfl)
  exact ⟨(y,x),v.cells.toList++us,⟨_,_,rfl,q1,r1⟩,Bs4 s1 r2,q2,r3⟩
theorem A3e {base:Nat}:∀ {Ts:List TypeId} {vs:List Value} {ds:List (DataW H)} {ps:List MemPlace},DataW.TrodAll enc P w base spare held Ts vs ds ps→ds.length=Ts.length
 | [],vs,ds,ps,h=>by obtain ⟨rfl,rfl,rfl⟩:=Go.ChangeShapes.trodAll_nil h; rfl
 | T::Ts,vs,ds,ps,h=>by
  obtain ⟨v,vs',d,ds',p,q,rfl,rfl,rfl,k1,k2⟩:=Go.ChangeShapes.trodAll_cons h
  simp [A3e k2]
theorem By2 {α:Type} {l:List α} (h:l.length=2):∃ a b,l=[a,b]:=by
 match l,h with
 | [a,b],_=>exact ⟨a,b,rfl⟩
def Hv (P:Program):List TypeId→Bool
 | []=>true
 | T::r=>P.readableRec T&&(Nat.blt T P.types.size&&Hv P r)
theorem Be3 (hl:laidOutB P=true) {W W':World} (hb:Below W.heap.size W W'):∀ {Ts:List TypeId},Hv P Ts=true→∀ {vs:List Value} {ds:List (DataW H)} {ps:List MemPlace},DataW.TrodAll enc P W 0 (fun _=>true) true Ts vs ds ps→
  DataW.TrodAll enc P W' 0 (fun b=>decide (b < W.heap.size)) true Ts vs ds ps
 | [],_,vs,ds,ps,h=>by
  obtain ⟨rfl,rfl,rfl⟩:=Go.ChangeShapes.trodAll_nil h
  exact rfl
 | T::Ts,hr,vs,ds,ps,h=>by
  have hlt:=DataW.TrodAll.lt h
  obtain ⟨v,vs',d,ds',p,q,rfl,rfl,rfl,k1,k2⟩:=Go.ChangeShapes.trodAll_cons h
  simp only [Hv,Bool.and_eq_true] at hr
  exact ⟨p,q,Below.trod hl hr.1 (by simpa using hr.2.1) k1 hb (fun x hx=>hlt x (List.mem_append_left _ hx)),Be3 hl hb hr.2.2 k2,rfl⟩
theorem Bqn {f:FuncId} {ts:List Ty} {psh:List (Option Nat)} {den:MsD (rds ts)→Option (MsD [.rd .bool]×BxD (rds ts))} (hs:Amx P f ⟨rds ts,psh,[.rd .bool],[none]⟩ den)
  {x:MsD (rds ts)} {y:BxD (rds ts)} (hx:den x=some ((true,()),y)) {W:World} {vs us:List Value} (h1:HR W (fun _=>True) (rds ts) x us) (h2:ShR psh vs us):
  Calls P f vs.toArray W fun e W'=>e=.returned (.bool true)∧Below W.heap.size W W':=by
 refine Calls.mono (hs x _ hx W (fun _=>True) us vs h1 h2 ⟨by simp only [Axa]; exact List.nodup_nil,fun b hb=>by simp only [Axa] at hb; cases hb⟩) fun e W'=>?_
 rintro ⟨rs,us',rfl,k1,k2,⟨c1,c2,e1,e2,e3⟩,_⟩
 have e2':c1=[.bool true]:=e2
 have e3':c2=[]:=e3
 subst e2' e3'
 obtain ⟨u,us1,cs1,q1,q2,q3,q4,q5⟩:=k1
 subst q4 q5
 rw [e1] at q2
 have:u=.bool true:=by simpa using q2.symm
 subst this
 subst q1
 simp only [Axa] at k2
 exact ⟨rfl,k2.below⟩
end
end
open Go Go.RowKit Go.Proofs Go.Shelf
section
variable {P:Program} {ρ:Ren}
theorem Bmt {w:World} {b j:Nat} {cs:Array Value} {T:TypeId} (h:w.heap[b]? = some (.cells cs T (0,0))):w.frozen? ⟨b,j,none⟩=false:=Lib.frozen_of_heap h j
theorem Bg4 {w:World} {b:Nat} {v0 v1 u:Value} {T:TypeId} (h:w.heap[b]? = some (.cells #[v0,v1] T (0,0))):(w.setCell ⟨b,0,none⟩ u).heap[b]? = some (.cells #[u,v1] T (0,0))∧∀ k,k≠b→(w.setCell ⟨b,0,none⟩ u).heap[k]? = w.heap[k]? := by
 have hlt:=(Array.getElem?_eq_some_iff.1 h).1
 have h2:=(Array.getElem?_eq_some_iff.1 h).2
 constructor
 ·simp [World.setCell,Array.getElem?_modify,h]
 ·intro k hk
  simp [World.setCell,Array.getElem?_modify,Ne.symm hk]
theorem By3 (L:Lays.n240 P ρ) (X:Builder.X72 P ρ):Bxc P (ρ.t 72) (ρ.f 240):=by
 intro w b v
 constructor
 ·intro h
  have c0:w.cell? ⟨b,0,none⟩=some (.pointer none):=by rw [Lib.cell_of_heap h]; rfl
  refine (Any.Builder_copyCheck_fresh L X b w c0 (by simp [World.shape?,h]) (Bmt h)).mono ?_
  rintro e w' ⟨rfl,rfl⟩
  obtain ⟨h1,h2⟩:=Bg4 (u:=.pointer (some ⟨b,0,none⟩)) h
  refine ⟨rfl,⟨rfl,rfl,rfl,by simp [World.setCell],fun k _ hk=>h2 k (by simpa using hk)⟩,h1⟩
 ·intro h
  have c0:w.cell? ⟨b,0,none⟩=some (.pointer (some ⟨b,0,none⟩)):=by rw [Lib.cell_of_heap h]; rfl
  refine (Any.Builder_copyCheck_used L X b w c0).mono ?_
  rintro e w' ⟨rfl,rfl⟩
  exact ⟨rfl,Fb.refl _ _⟩
theorem Ajo {l:List Nat} (w:World):Fb l w w.drew:=⟨rfl,rfl,rfl,Nat.le_refl _,fun _ _ _=>rfl⟩
theorem Bg5 {w w':World} {g n:Nat} (h:Fb [g] w w'):Fb [g] w (w'.freeze ⟨g,0,none⟩ n):=by
 by_cases hn:n=0
 ·subst hn; exact h
 ·refine h.trans ⟨?_,?_,?_,?_,fun k _ hk=>?_⟩
  ·simp [World.freeze,hn]
  ·simp [World.freeze,hn]
  ·simp [World.freeze,hn]
  ·simp [World.freeze,hn]
  ·have:g≠k:=fun e=>hk (by simp [e])
   simp [World.freeze,hn,Array.getElem?_modify,this]
theorem Bjt {l:List Nat} {w w':World} (h:Fb l w w') (o:Obj):Fb l w (w'.alloc o):=by
 refine h.trans ⟨rfl,rfl,rfl,Nat.le_of_lt (by show w'.heap.size < (w'.heap.push o).size; simp),fun k hk _=>Lib.alloc_old w' o k hk⟩
set_option maxHeartbeats 2000000 in
set_option maxRecDepth 100000 in
theorem By4 (L:Lays.n169 P ρ) (X:Builder.Extra P ρ):Bxd P (ρ.t 72) (ρ.t 5) (ρ.f 169):=by
 intro w b p v xs cs hby hbk hown hrep hne
 have hcm0:∀ (j:Nat) (x:Int),xs[j]? = some x→cs[j]? = some (.int .u8 x):=by
  intro j x hx
  have:=hrep.2 j x hx
  have h1:(cs.drop (j * 1)).take 1=[Value.int .u8 x]:=this
  rw [Nat.mul_one] at h1
  have h2:(cs.drop j)[0]? = some (.int .u8 x):=by
   have:=congrArg (fun l=>l[0]?) h1
   simpa using this
  simpa using h2
 have mixed:=L.mixed
 have t72:=L.t72; have a72:=L.a72; have z72:=L.z72; have v72:=L.v72; have u72:=run_underlying L.t72
 have t70:=L.t70; have a70:=L.a70; have z70:=L.z70; have v70:=L.v70; have u70:=run_underlying L.t70
 have t37:=L.t37; have a37:=L.a37; have z37:=L.z37; have v37:=L.v37; have u37:=run_underlying L.t37
 have t127:=L.t127; have a127:=L.a127; have z127:=L.z127; have v127:=L.v127; have u127:=run_underlying L.t127
 have t3:=L.t3; have a3:=L.a3; have z3:=L.z3; have v3:=L.v3; have u3:=run_underlying L.t3
 have t9:=L.t9; have a9:=L.a9; have z9:=L.z9; have v9:=L.v9; have u9:=run_underlying L.t9
 have t5:=X.t5; have a5:=X.a5; have z5:=X.z5; have v5:=X.v5; have u5:=run_underlying X.t5
 have hUS:=Any.unsafeString_none L X
 rcases hown.2 with ⟨rfl,hz⟩ | ⟨g,cap,cur,rfl,_,hg,hnc,hcm,hcs,htake⟩
 ·have hx0:xs=[]:=List.eq_nil_of_length_eq_zero hz
  subst hx0
  have c1:w.drew.cell? ⟨b,1,none⟩=some (.slice none 0 0):=by
   have:w.drew.heap[b]? = some (.cells #[p,.slice none 0 0] (ρ.t 72) (0,0)):=hbk
   rw [Lib.cell_of_heap this]; rfl
  have hSD:(Builtin.unsafeSliceData_ #[(ρ.t 37)] (ρ.t 127) #[.slice none 0 0]).run P w.drew=.ok (.pointer none) w.drew:=rfl
  go_enter L.f169,Body.n169_ntmps ρ
  go_wp2
  go_region_o
  all_goals (go_wp2; go_ret; exact ⟨rfl,Ajo w⟩)
 ·by_cases h0:xs=[]
  ·subst h0
   by_cases hc0:cap=0
   ·subst hc0
    have hlt:b < w.heap.size:=(Array.getElem?_eq_some_iff.1 hbk).1
    have c1:w.drew.cell? ⟨b,1,none⟩=some (.slice (some ⟨g,0,none⟩) 0 0):=by
     have:w.drew.heap[b]? = some (.cells #[p,.slice (some ⟨g,0,none⟩) 0 0] (ρ.t 72) (0,0)):=hbk
     rw [Lib.cell_of_heap this]; rfl
    have hSD:(Builtin.unsafeSliceData_ #[(ρ.t 37)] (ρ.t 127) #[.slice (some ⟨g,0,none⟩) 0 0]).run P w.drew=.ok (.pointer (some ⟨w.drew.heap.size,0,none⟩)) (w.drew.alloc (.view ⟨g,0,none⟩ (ρ.t 5))):=
     Lib.run_unsafeSliceData_zero w.drew _ _ (ρ.t 5) L.t127 ⟨g,0,none⟩ 0 ((ρ.t 5),cur.size) (by have hg':w.drew.heap[g]? = some (.cells cur (ρ.t 5) (0,0)):=hg; simp [World.shape?,hg'])
    have c2:(w.drew.alloc (.view ⟨g,0,none⟩ (ρ.t 5))).cell? ⟨b,1,none⟩=some (.slice (some ⟨g,0,none⟩) 0 0):=by
     have:(w.drew.alloc (.view ⟨g,0,none⟩ (ρ.t 5))).heap[b]? = _:=(Lib.alloc_old w.drew _ b hlt).trans hbk
     rw [Lib.cell_of_heap this]; rfl
    have c3:(w.alloc (.view ⟨g,0,none⟩ (ρ.t 5))).drew.cell? ⟨b,1,none⟩=some (.slice (some ⟨g,0,none⟩) 0 0):=c2
    have c0:w.cell? ⟨b,1,none⟩=some (.slice (some ⟨g,0,none⟩) 0 0):=c1
    go_enter L.f169,Body.n169_ntmps ρ
    go_wp2
    go_region_o
    all_goals (go_wp2; go_ret; exact ⟨rfl,Bjt (Ajo w) _⟩)
   ·have c1:w.drew.cell? ⟨b,1,none⟩=some (.slice (some ⟨g,0,none⟩) 0 cap):=by
     have:w.drew.heap[b]? = some (.cells #[p,.slice (some ⟨g,0,none⟩) 0 cap] (ρ.t 72) (0,0)):=hbk
     rw [Lib.cell_of_heap this]; rfl
    have hSD:(Builtin.unsafeSliceData_ #[(ρ.t 37)] (ρ.t 127) #[.slice (some ⟨g,0,none⟩) 0 cap]).run P w.drew=.ok (.pointer (some ⟨g,0,none⟩)) w.drew:=
     Lib.run_unsafeSliceData_row _ _ _ _ _ _ hc0
    clear hc0
    go_enter L.f169,Body.n169_ntmps ρ
    go_wp2
    go_region_o
    all_goals (go_wp2; go_ret; exact ⟨rfl,Ajo w⟩)
  ·generalize hl:(xs.map fun n=>UInt8.ofNat n.toNat)=l
   have hlen:l.length=xs.length:=by rw [← hl]; simp
   have hl0:l≠[]:=by rw [← hl]; simpa using h0
   have hlp:0 < l.length:=List.length_pos_iff.2 hl0
   have hstr:strOfNums xs=⟨l.toArray⟩:=by unfold strOfNums; rw [hl]
   rw [hstr]
   rw [← hlen] at hown hnc htake hbk
   rw [← hlen]
   have c1:w.drew.cell? ⟨b,1,none⟩=some (.slice (some ⟨g,0,none⟩) l.length cap):=by
    have:w.drew.heap[b]? = some (.cells #[p,.slice (some ⟨g,0,none⟩) l.length cap] (ρ.t 72) (0,0)):=hbk
    rw [Lib.cell_of_heap this]; rfl
   have hSD:(Builtin.unsafeSliceData_ #[(ρ.t 37)] (ρ.t 127) #[.slice (some ⟨g,0,none⟩) l.length cap]).run P w.drew=.ok (.pointer (some ⟨g,0,none⟩)) w.drew:=
    Lib.run_unsafeSliceData_row _ _ _ _ _ _ (by omega)
   have hUS:(Builtin.unsafeString_ #[(ρ.t 127),(ρ.t 3)] (ρ.t 9) #[.pointer (some ⟨g,0,none⟩),.int .i64 l.length]).run P w.drew=.ok (.string ⟨l.toArray⟩) (w.drew.freeze ⟨g,0,none⟩ l.length):=by
    refine Lib.run_unsafeString_row w.drew (ρ.t 127) (ρ.t 3) (ρ.t 9) (ρ.t 5) L.t127 X.cellsByte g cur.size (by have hg':w.drew.heap[g]? = some (.cells cur (ρ.t 5) (0,0)):=hg; simp [World.shape?,hg']) l hl0 (by omega) (by unfold maxLen at hcm; omega) ?_
    intro j x hx
    rw [← hl,List.getElem?_map] at hx
    obtain ⟨n,hn,rfl⟩:=Option.map_eq_some_iff.1 hx
    have hb:=List.all_eq_true.1 hby n (List.mem_of_getElem? hn)
    simp only [Bool.and_eq_true,decide_eq_true_eq] at hb
    have hc:=hcm0 j n hn
    have hj:j < l.length:=by rw [hlen]; exact (List.getElem?_eq_some_iff.1 hn).1
    rw [← htake,List.getElem?_take,if_pos (by omega)] at hc
    have hg':w.drew.heap[g]? = some (.cells cur (ρ.t 5) (0,0)):=hg
    rw [A7b,Lib.cell_of_heap hg']
    have hn2:((UInt8.ofNat n.toNat).toNat:Int)=n:=by
     simp
     omega
    rw [hn2]
    simpa using hc
   rw [hlen] at hSD hUS c1 hbk
   clear hlen hl htake
   go_enter L.f169,Body.n169_ntmps ρ
   go_wp2
   go_region_o
   all_goals (go_wp2; go_ret; exact ⟨rfl,Bg5 (Ajo w)⟩)
def Afq (s:Aa) (c:Int):Option Aa:=if 0≤c∧c≤9223372036854775807∧s.size * c.toNat≤140737488355328 then some ⟨(Lib.repeatL s.data.toList c.toNat).toArray⟩ else none
theorem Below.keeps {w w':World} (h:Below w.heap.size w w'):Fb [] w w':=⟨h.os,h.tape,h.output,h.size,fun k hk _=>h.block k hk⟩
theorem Bqo {f:FuncId} {s:Aa→Int→Option Aa} (H:∀ a c r,s a c=some r→∀ w,Calls P f #[.string a,.int .i64 c] w fun e w'=>e=.returned (.string r)∧Below w.heap.size w w'):
  Amx P f ⟨[.rd .str,.rd (.int .i64)],[none,none],[.rd .str],[none]⟩ (fun x=>(s x.1 x.2.1).bind fun r=>some ((r,()),())):=by
 rintro ⟨a,c,⟨⟩⟩ r hr w S us args ⟨c1,c2,e1,h1,c3,c4,e2,h2,h3⟩ hsh hown
 obtain ⟨q,hq,hr⟩:=By hr
 cases hr
 have h1':c1=[.string a]:=h1
 have h2':c3=[.int .i64 c]:=h2
 have h3':c4=[]:=h3
 subst h1' h2' h3' e2 e1
 obtain ⟨u,us',cs',q1,q2,q3,u2,us2,cs2,q4,q5,q6,q7,q8⟩:=hsh
 subst q7 q8 q4 q1
 simp only [List.cons_append,List.nil_append,List.cons.injEq] at q2 q5
 obtain ⟨rfl,q2⟩:=q2
 rw [q5] at q2
 simp only [List.cons.injEq,and_true] at q2
 subst q2
 refine Calls.mono (H a c q hq w) fun e w'=>?_
 rintro ⟨rfl,hb⟩
 refine ⟨[.string q],[.string q],rfl,⟨_,_,_,rfl,rfl,rfl,rfl,rfl⟩,Below.keeps hb,⟨[.string q],[],rfl,rfl,rfl⟩,trivial,?_,?_⟩
 ·exact List.nodup_nil
 ·intro b hb
  cases hb
end
open Go Go.RowKit Go.Proofs
section
abbrev Bs (P:Program) (n:FuncId) (sd:SD):Prop:=Qx P n∧Amx P n sd.sg sd.den
def tbF:List (FuncId×SD)→FuncId→Option SD
 | [],_=>none
 | p::r,f=>if f=p.1 then some p.2 else tbF r f
def Bxp (P:Program):List (FuncId×SD)→Prop
 | []=>True
 | p::r=>Bs P p.1 p.2∧Bxp P r
theorem Bg6 {P:Program}:∀ {l:List (FuncId×SD)},Bxp P l→∀ f d,tbF l f=some d→Qx P f∧Amx P f d.sg d.den
 | [],_,f,d,h=>by cases h
 | p::r,⟨a,b⟩,f,d,h=>by
  unfold tbF at h
  split at h
  ·rename_i e; subst e; cases h; exact a
  ·exact Bg6 b f d h
def tb (l:List (FuncId×SD)):Tb:=Tb.of (tbF l)
theorem A5 {P:Program} {l:List (FuncId×SD)} (h:Bxp P l):A2 P (tb l):=A2.of (Bg6 h)
abbrev Ae {b:Type} (f:b) (_:Unit):b:=f
abbrev Ac {a g d b:Type} (h:g→d→b) (f:a→g) (x:a×d):b:=h (f x.1) x.2
abbrev u4 {a b c e g d r:Type} (h:g→d→r) (f:a→b→c→e→g) (x:a×b×c×e×d):r:=h (f x.1 x.2.1 x.2.2.1 x.2.2.2.1) x.2.2.2.2
theorem nb:(∀ {α β:Type} (c:Bool) (x y:Option α) (f:α→Option β),(bif c then x else y).bind f=bif c then x.bind f else y.bind f)∧
  (∀ {α β:Type} (c:Prop) [Decidable c] (x y:Option α) (f:α→Option β),(if c then x else y).bind f=if c then x.bind f else y.bind f)∧
  (∀ {α β γ δ:Type} (f:α→Option γ) (g:β→Option γ) (o:α ⊕ β) (h:γ→Option δ),(Bx f g o).bind h=Bx (fun a=>(f a).bind h) (fun b=>(g b).bind h) o)∧
  (∀ {α β γ:Type} (x:Option α) (f:α→Option β) (g:β→Option γ),(x.bind f).bind g=x.bind fun y=>(f y).bind g)∧
  (∀ {α β:Type} (f:α→Option β),Option.bind none f=none)∧
  (∀ {α β:Type} (a:α) (f:α→Option β),Option.bind (some a) f=f a):=
 ⟨Bqj,fun c _ x y f=>Bsy c x y f,Bmq,Option.bind_assoc,fun _=>rfl,fun _ _=>rfl⟩
abbrev p0:C2:=⟨[],[],[]⟩
def Byk:List (Nat×C2)→Nat→C2
 | [],_=>p0
 | p::r,e=>if e=p.1 then p.2 else Byk r e
def F0:List (Nat×C2×List (Nat×C2))→Nat→C2×(Nat→C2)
 | [],_=>(p0,fun _=>p0)
 | p::r,k=>if k=p.1 then (p.2.1,Byk p.2.2) else F0 r k
def I3 {R:Type} (p:C2×(Nat→C2)) (e:Ex) (i:Nat) (k:Kt R) (d:(p.2 i).D):Option R:=k e ((p.2 i).st d) (p.2 i).nid
def Bqp (P:Program) (R:Type) (n np:Nat) (pat:Nat→C2×(Nat→C2)) (L:Lt R pat):List Code→Prop
 | []=>True
 | c::r=>A4 P R n np pat L c∧Bqp P R n np pat L r
section
variable {P:Program} {R:Type} {n np:Nat}
theorem Bqp.all {pat:Nat→C2×(Nat→C2)} {L:Lt R pat}:∀ {l:List Code},Bqp P R n np pat L l→∀ c∈l,A4 P R n np pat L c
 | [],_,c,h=>by cases h
 | d::r,⟨a,b⟩,c,h=>by
  rcases List.mem_cons.1 h with rfl | h
  ·exact a
  ·exact Bqp.all b c h
theorem B8 {cfg:Cfg} {L:Lt R cfg.pat} {c:Code} (key:Nat) (ls:List Code) {E:Type} (T:{S:Type}→((cfg.pat key).1.D→Option S)→(E→Option S)→(cfg.pat key).1.D→Option S)
  (lo:Nat→(cfg.pat key).1.D→Option E) (fu:(cfg.pat key).1.D→Nat) (ou:Kt R→E→Option R) (hs:A2 P cfg.sigs) (hls':Bqp P R n np cfg.pat L ls)
  (na:∀ (f:E→Option R) (NX:(cfg.pat key).1.D→Option E) d,T (fun d=>(NX d).bind f) f d=(T NX some d).bind f)
  (rd:∀ nx k d,ev P cfg L c ((cfg.pat key).1.st d) (cfg.pat key).1.nid (Bmo np (cfg.pat key) nx k)=T (fun d=>nx d k) (ou k) d:=by intros; kernel_rfl)
  (hL:∀ d k,L key d k=(lo (fu d) d).bind (ou k):=by exact fun _ _=>rfl)
  (l0:∀ d,lo 0 d=none:=by exact fun _=>rfl) (l1:∀ m d,lo (m + 1) d=T (lo m) some d:=by exact fun _ _=>rfl)
  (hkey:Hx c=key:=by kernel_rfl) (hm:P.follows .mixedOrders=true:=by kernel_rfl) (hn:cfg.n=n:=by rfl) (hnp:cfg.np=np:=by rfl) (hls:At c=ls:=by kernel_rfl):A4 P R n np cfg.pat L c:=by
 have lp:∀ (m:Nat) (d:(cfg.pat key).1.D) (k:Kt R),A3d np (cfg.pat key) (fun s nid k=>ev P cfg L c s nid k) m d k=(lo m d).bind (ou k):=by
  intro m
  induction m with
  | zero=>intro d k; rw [l0]; rfl
  | succ m ih=>
   intro d k
   rw [l1,← na]
   refine Eq.trans ?_ (congrArg (fun F=>T F (ou k) d) (funext fun d=>ih d k))
   exact rd _ k d
 refine Bsx hkey hm hs hn hnp (fun d k r h=>⟨fu d,?_⟩) (fun c' hc'=>?_)
 ·rw [lp,← hL]; exact h
 ·rw [hls] at hc'; exact hls'.all c' hc'
theorem A3 {sigs:Tb} {f:FuncId} {fn:Func} {sd:SD} {pat:Nat→C2×(Nat→C2)} (ls:List Code) (L:Lt (MsD sd.sg.rs×BxD sd.sg.ps) pat) (hs:A2 P sigs)
  (hL:Bqp P (MsD sd.sg.rs×BxD sd.sg.ps) fn.ntmps (Rz sd.sg.ps) pat L ls) (hf:P.funcs[f]? = some fn) {de:MsD sd.sg.ps→Option (MsD sd.sg.rs×BxD sd.sg.ps)} (hden:∀ x r,sd.den x=some r→de x=some r)
  (he : ∀ x, Bsv P sigs pat sd.sg fn L x = de x) (hm : P.follows .mixedOrders = true := by kernel_rfl) (hname : (fn.name == "runtime.NumGoroutine") = false := by kernel_rfl) (hbody : fn.body.isNone = false := by kernel_rfl)
  (hls:At (Bb fn)=ls:=by kernel_rfl):Bs P f sd:=
 Bsw (pat:=pat) hm hs hf hname hbody fun x r hx=>⟨L,⟨fun c hc=>hL.all c (by rw [hls] at hc; exact hc),(he x).trans (hden x r hx)⟩⟩
theorem F1 {α β:Type} {o:Option α} {g:α→β} {r:β} {d:Option β} (q:∀ y,o=some y→d=some (g y)) (h:(o.bind fun r=>some (g r))=some r):d=some r:=by
 obtain ⟨y,h1,h2⟩:=By h
 cases h2
 exact q y h1
end
end
end Go.Proofs.YtfkefgbihlfjmaaGreat.R
namespace Go.Proofs.YtfkefgbihlfjmaaGreat.V
open Go Go.Proofs.YtfkefgbihlfjmaaGreat.R
abbrev Pg:=Int×Int×Int×Aa×Unit
abbrev Wr:=Int×Aa×Unit
abbrev Dk:=List Aa×List Wr×Unit
abbrev Dl:=Bool×Int×Aa×Unit
abbrev Scd:=List Aa×Int×Int×Unit
abbrev A1:=Aa×Aa×Unit
abbrev B5:=List A1×Unit
abbrev Be:=Aa×Aa×Bool×Unit
abbrev Rt:=Int×Int×Int×Int×Unit
abbrev E5:=Int×Int×Int×Rt×Int×Int×B5×Unit
abbrev R0:=Int×E5×List Dl×Unit
abbrev Bg:=Int×Dk×Bool×E5×List B5×List Aa×Unit
abbrev Qw:=Int×List Be×Int×List Int×Unit
abbrev tI:Ty:=.int .i64
abbrev yPg:Ty:=.pair tI (.pair tI (.pair tI (.pair .str .unit)))
abbrev Em:Ty:=.pair tI (.pair .str .unit)
abbrev yDk:Ty:=.pair (.sl .str) (.pair (.sl Em) .unit)
abbrev Fe:Ty:=.pair .bool (.pair tI (.pair .str .unit))
abbrev Ax:Ty:=.pair .str (.pair .str .unit)
abbrev C8:Ty:=.pair (.sl Ax) .unit
abbrev Do:Ty:=.pair .str (.pair .str (.pair .bool .unit))
abbrev yRt:Ty:=.pair tI (.pair tI (.pair tI (.pair tI .unit)))
abbrev Yf:Ty:=.pair tI (.pair tI (.pair tI (.pair yRt (.pair tI (.pair tI (.pair C8 .unit))))))
abbrev Bqq:Ty:=.pair tI (.pair Yf (.pair (.sl Fe) .unit))
abbrev Gv:Ty:=.pair tI (.pair yDk (.pair .bool (.pair Yf (.pair (.sl C8) (.pair (.sl .str) .unit)))))
abbrev Arq:Ty:=.pair tI (.pair (.sl Do) (.pair tI (.pair (.sl tI) .unit)))
def eqL {α:Type} (f:α→α→Bool):List α→List α→Bool
 | [],[]=>true
 | a::r,b::q=>f a b&&eqL f r q
 | _,_=>false
def eqI (a b:Int):Bool:=decide (a=b)
def eqO (a b:Bool):Bool:=a==b
def eqS (a b:Aa):Bool:=ByteArray.toList a==ByteArray.toList b
def eqB:(t:Ty)→t.D→t.D→Bool
 | .int _,a,b=>eqI a b
 | .bool,a,b=>eqO a b
 | .str,a,b=>eqS a b
 | .sl t,xs,ys=>eqL (eqB t) xs ys
 | .unit,_,_=>true
 | .pair a b,x,y=>eqB a x.1 y.1&&eqB b x.2 y.2
def Bs5:Nat→Int→Aa→Aa
 | 0,_,out=>out
 | m + 1,k,out=>if k > 0 then Bs5 m (k / 10) (strOfNums [48 + k % 10]++out) else out
def mkT (k:Int):Aa:=if k≤0 then ⟨#[109,48]⟩ else ⟨#[109]⟩++Bs5 20 k ⟨#[]⟩
def Bw (v lo hi:Int):Bool:=decide (lo≤v)&&decide (v≤hi)
def Vn (k:Aa):Bool:=Bw (k.size:Int) 1 20
def bl (a b:Aa):Bool:=Op.bytesLess (ByteArray.toList a) (ByteArray.toList b)
def z0:Aa:=⟨#[]⟩
abbrev zP:A1:=(⟨#[]⟩,⟨#[]⟩,())
def Qy (xs:List A1) (i:Nat):Bool:=Vn (xs.getD i zP).1&&(decide ((xs.getD i zP).2.1.size≤100)&&(i==0 || bl (xs.getD (i - 1) zP).1 (xs.getD i zP).1))
def Ak (s:B5):Bool:=decide (s.1.length≤100)&&(List.range' 0 s.1.length).all (Qy s.1)
def Tj (c:Be):Bool:=Vn c.1&&(decide (c.2.1.size≤100)&&!(c.2.2.1&&!(c.2.1.toList==[])))
abbrev zC:Be:=(⟨#[]⟩,⟨#[]⟩,false,())
def A0 (b:List Be):Bool:=Bw (b.length:Int) 1 20&&(List.range' 0 b.length).all fun i=>Tj (b.getD i zC)
def M6 {α E:Type} (p:α→Bool) (out:α→E) (ok:E):List α→E
 | []=>ok
 | x::r=>bif p x then out x else M6 p out ok r
def zW:Wr:=(0,⟨#[]⟩,())
def Anf (n:Nat) (w:Wr):Bool:=decide (0≤w.1)&&(decide (w.1 < (n:Int))&&decide (w.2.1.size=64))
def Ar (d:Dk):Bool:=Bw (d.1.length:Int) 8 200&&(decide (d.2.1.length≤300)&&((List.range' 0 d.1.length).all (fun i=>decide ((d.1.getD i z0).size=64))&&(List.range' 0 d.2.1.length).all fun i=>Anf d.1.length (d.2.1.getD i zW)))
def C9 {α σ:Type} (step:Nat→α→σ→σ):Nat→List α→σ→σ
 | _,[],s=>s
 | i,x::r,s=>C9 step (i + 1) r (step i x s)
def Hq (sec:List Aa) (ws:List Wr):List Aa:=C9 (fun _ w s=>s.set w.1.toNat w.2.1) 0 ws sec
def Be4 (d:Dk):Dk:=(Hq d.1 d.2.1,[],())
def Yg (d:Dk) (a:Int):Aa:=M6 (fun w=>w.1==a) (fun w=>w.2.1) (d.1.getD a.toNat z0) d.2.1.reverse
def zS:Aa:=strOfNums (List.replicate 64 0)
def Ot (n:Int):Dk:=bif Bw n 8 200 then (List.replicate n.toNat zS,[],()) else ([],[],())
def Tl (f:Int):Int:=if f < 0 then 0 else if f > 64 then 64 else f
def Yh (f:List Int) (i:Nat):Int:=if i < f.length then Tl (f.getD i 0) else 0
def Bs6 (a b:Aa) (k:Int):Aa:=Ah a 0 k++Ah b k (nI b.size)
def Tr (f:List Int) (sec:List Aa) (ws:List Wr):List Aa:=C9 (fun i w s=>s.set w.1.toNat (Bs6 w.2.1 (s.getD w.1.toNat z0) (Yh f i))) 0 ws sec
def E9 (d:Dk) (f:List Int):Dk:=bif Ar d then (Tr f d.1 d.2.1,[],()) else ([],[],())
def Sx (v:Int):Nat→List Int
 | 0=>[]
 | n + 1=>Sx (v / 256) n++[v % 256]
def Dj (v:Int) (n:Nat):Aa:=strOfNums (Sx v n)
def Bju (s:Aa):Nat→Nat→Int→Int
 | 0,_,v=>v
 | k + 1,i,v=>Bju s k (i + 1) (v * 256 + Ap s i)
def Ang (s:Aa):Int:=Bju s s.size 0 0
def Anh (h b:Int):Int:=IntKind.wrap IntKind.u64 (IntKind.wrap IntKind.u64 (nI (BitVec.toNat (BitVec.ofInt 64 h ^^^ BitVec.ofInt 64 (IntKind.wrap IntKind.u64 b)))) * 1099511628211)
def iter {σ:Type} (f:Nat→σ→σ):Nat→Nat→σ→σ
 | 0,_,s=>s
 | k + 1,i,s=>iter f k (i + 1) (f i s)
def A0t (s:Aa) (k i:Nat) (h:Int):Int:=iter (fun i h=>Anh h (Ap s i)) k i h
def Axb (s:Aa) (w:Int):Aa:=bif Bw w 1 8 then Dj (A0t s s.size 0 14695981039346656037) w.toNat else ⟨#[]⟩
def Eg (p:Pg) (w:Int):Bool:=Bw w 1 8&&(Bw p.1 1 4&&(Bw p.2.1 1 60000&&(Bw p.2.2.1 1 1000000000&&(decide ((p.2.2.2.1.size:Int)≤56 - w)&&(p.1 != 3 || (p.2.2.2.1.toList==[]))))))
def J5 (p:Pg) (w:Int):Aa:=Dj p.1 1++Dj p.2.1 2++Dj p.2.2.1 4++Dj p.2.2.2.1.size 1++p.2.2.2.1++strOfNums (List.replicate (56 - w - p.2.2.2.1.size).toNat 0)
def Cc (p:Pg) (w:Int):Aa:=bif Eg p w then Axb (J5 p w) w++J5 p w else ⟨#[]⟩
abbrev zPg:Pg:=(0,0,0,⟨#[]⟩,())
def Bmv (b:Aa):Pg:=(Ap b 0,Ang (Ah b 1 3),Ang (Ah b 3 7),Ah b 8 (8 + Ap b 7),())
def Bmw (s:Aa) (w:Int):Pg:=Bmv (Ah s w (nI s.size))
def Av (s:Aa) (w:Int):Pg×Bool:=
 bif nI s.size != 64 then (zPg,false)
 else bif !Bw w 1 8 then (zPg,false)
 else bif decide (Ap (Ah s w (nI s.size)) 7 > 56 - w) then (zPg,false)
 else bif !((Cc (Bmw s w) w).toList==s.toList) then (zPg,false) else (Bmw s w,true)
def Jo (r:Rt):Bool:=Bw r.2.1 0 1&&Bw r.2.2.1 1 999999000
def Cb (r:Rt) (w:Int):Aa:=bif Jo r then Cc (4,r.2.2.2.1,r.1,Dj r.2.1 1++Dj r.2.2.1 4,()) w else ⟨#[]⟩
def x6 (c:Be):List Int:=bif c.2.2.1 then [1,nI c.1.size]++Af c.1 else [0,nI c.1.size]++Af c.1++[nI c.2.1.size]++Af c.2.1
def Jp (b:List Be):List Int:=(b.map x6).flatten
def Bh (b:List Be):Aa:=bif A0 b then strOfNums (Jp b) else ⟨#[]⟩
def Bm (s:Aa):Aa×Aa×Bool:=if (s.size:Int) < 1∨(s.size:Int) < 1 + Ap s 0 then (⟨#[]⟩,s,false) else (Ah s 1 (1 + Ap s 0),Ah s (1 + Ap s 0) (nI s.size),true)
def A3g (strict:Bool) (s:Aa):Option (Be×Aa):=
 bif strict&&decide (Ap s 0 > 1) then none
 else bif !(Bm (Ah s 1 (nI s.size))).2.2 then none
 else bif Ap s 0==1 then some (((Bm (Ah s 1 (nI s.size))).1,⟨#[]⟩,true,()),(Bm (Ah s 1 (nI s.size))).2.1)
 else bif !(Bm (Bm (Ah s 1 (nI s.size))).2.1).2.2 then none
 else some (((Bm (Ah s 1 (nI s.size))).1,(Bm (Bm (Ah s 1 (nI s.size))).2.1).1,false,()),(Bm (Bm (Ah s 1 (nI s.size))).2.1).2.1)
def Uq (strict:Bool):Nat→List Be→Aa→Option (List Be×Aa)
 | 0,r,s=>some (r,s)
 | f + 1,r,s=>bif decide (s.size > 0)&&decide (r.length≤20) then (match A3g strict s with | none=>none | some (c,t)=>Uq strict f (r++[c]) t) else some (r,s)
def Hv (s:Aa):List Be×Bool:=match Uq true 22 [] s with
 | none=>([],false)
 | some (b,t)=>bif decide (t.size > 0) || !A0 b then ([],false) else (b,true)
def A8l (s:Aa):List Be×Bool:=match Uq false 22 [] s with
 | none=>([],false)
 | some (b,_)=>bif s.size==0 || !((Bh b).toList==s.toList) then ([],false) else (b,true)
def Fa (n:Nat):Nat→Aa→List Aa
 | 0,s=>[s]
 | f + 1,s=>if s.size > n then Ah s 0 n::Fa n f (Ah s n (nI s.size)) else [s]
def Ao (s:Aa) (w:Int):List Aa:=Fa (56 - w).toNat s.size s
def Ge (n:Nat) (w:Int):Int:=bif Bw w 1 8 then (if ((n:Int) + (56 - w) - 1) / (56 - w) > 1 then ((n:Int) + (56 - w) - 1) / (56 - w) else 1) else 0
def J6 (life w:Int):Int→List Aa→List Aa
 | _,[]=>[]
 | k,[p]=>[Cc (2,life,k,p,()) w]
 | k,p::q::r=>Cc (1,life,k,p,()) w::J6 life w (k + 1) (q::r)
def c7 (e:Aa) (life first w:Int):List Aa:=bif Bw w 1 8&&(Bw life 1 60000&&(decide (1≤first)&&decide (first≤1000000000 - Ge e.size w + 1))) then J6 life w first (Ao e w) else []
def opS (d:Dk) (o:Dl):Dk:=bif o.1 then Be4 d else bif Anf d.1.length (o.2.1,o.2.2.1,())&&decide (d.2.1.length < 300) then (d.1,d.2.1++[(o.2.1,o.2.2.1,())],()) else d
def Cn (d:Dk) (ops:List Dl) (n:Int):Dk:=bif Ar d then (ops.take n.toNat).foldl opS d else ([],[],())
def F2 (p:Pg):Rt:=(p.2.2.1,Ap p.2.2.2.1 0,Ang (Ah p.2.2.2.1 1 (nI p.2.2.2.1.size)),p.2.1,())
def Hy (s:Aa) (w at':Int) (best:Rt):Rt:=
 bif (Av s w).2&&((Av s w).1.1==4)&&decide ((Av s w).1.2.2.2.1.size=5)&&((Av s w).1.2.2.1 % 2==at')&&Jo (F2 (Av s w).1)&&decide ((Av s w).1.2.2.1 > best.1) then F2 (Av s w).1 else best
def Aw (d:Dk) (w:Int):Rt:=bif Ar d&&Bw w 1 8 then Hy (Yg d 1) w 1 (Hy (Yg d 0) w 0 (0,0,1,0,())) else (0,0,0,0,())
def x7 (p:A1):Be:=(p.1,p.2.1,false,())
def Nn (i:Nat) (p:A1) (r:List (List Be)×Bool×List Be):List (List Be)×Bool×List Be:=bif i % 20==0 then (w8 r.2.1 r.1 r.2.2,true,[x7 p]) else (r.1,r.2.1,r.2.2++[x7 p])
def A8m (i:Nat) (l:List A1) (r:List (List Be)×Bool×List Be):List (List Be)×Bool×List Be:=C9 Nn i l r
def Ec (s:B5):List (List Be):=bif Ak s then (let r:=A8m 0 s.1 ([],false,[]); w8 r.2.1 r.1 r.2.2) else []
theorem Aj {n:Int} (h0:-9223372036854775808≤n) (h1:n < 9223372036854775808):IntKind.i64.wrap n=n:=by
 have e:IntKind.i64.wrap n=if n % 18446744073709551616≥9223372036854775808 then n % 18446744073709551616 - 18446744073709551616 else n % 18446744073709551616:=by
  simp [IntKind.wrap,IntKind.bits,IntKind.signed]
 rw [e]
 split<;>omega
theorem Ld {α:Type} (xs:List α) (i:Nat) (z:α) (h:i < xs.length):xs.drop i=xs.getD i z::xs.drop (i + 1):=by
 rw [List.drop_eq_getElem_cons h]
 simp [List.getD,List.getElem?_eq_getElem h]
theorem Zr {α:Type} {xs:List α} {i:Nat} (z:α) (h:i < xs.length):xs.getD i z∈xs:=by
 simp [List.getD,List.getElem?_eq_getElem h]
theorem Xv {i n:Nat} (h:i < n):decide ((i:Int) < nI n)=true:=by simp [nI]; omega
theorem Od {n:Nat}:decide ((n:Int) < nI n)=false:=by simp [nI]
theorem G9 {i:Nat}:decide ((0:Int)≤(i:Int))=true:=by simp
theorem wI {i:Nat} (h:i < 4611686018427387904):IntKind.i64.wrap ((i:Int) + 1)=((i + 1:Nat):Int):=by rw [Aj (by omega) (by omega)]; rfl
theorem A6u {α:Type} {f:α→α→Bool}:∀ {xs ys:List α},xs.length≠ys.length→eqL f xs ys=false
 | [],[],h=>absurd rfl h
 | [],_::_,_=>rfl
 | _::_,[],_=>rfl
 | x::xs,y::ys,h=>by
  simp only [eqL]
  rw [A6u (by simpa using h),Bool.and_false]
theorem A6v {α E:Type} {xs ys:List α} (z:α) (f:α→α→Bool) {g:Nat→Int→Option E} {ok bad:E} (hl:ys.length=xs.length)
  (hs:∀ m (i:Nat),i < xs.length→g (m + 1) i=bif f (xs.getD i z) (ys.getD i z) then g m ((i + 1:Nat):Int) else some bad)
  (he:∀ m,g (m + 1) (xs.length:Int)=some ok):
  ∀ (m i:Nat),i≤xs.length→xs.length - i < m→g m i=some (bif eqL f (xs.drop i) (ys.drop i) then ok else bad)
 | 0,i,hi,hm=>by omega
 | m + 1,i,hi,hm=>by
  by_cases h:i < xs.length
  ·rw [hs m i h,Ld xs i z h,Ld ys i z (by omega)]
   simp only [eqL]
   cases f (xs.getD i z) (ys.getD i z) with
   | false=>rfl
   | true=>
    rw [cond_true,A6v z f hl hs he m (i + 1) (by omega) (by omega),Bool.true_and]
  ·have:i=xs.length:=by omega
   subst this
   have hy:ys.drop xs.length=[]:=List.drop_eq_nil_of_le (by omega)
   rw [he,List.drop_length,hy]
   rfl
theorem O1 {E:Type} {n:Nat} {g:Nat→Int→Option E} {ok bad:E} (p:Nat→Bool)
  (hs:∀ m (i:Nat),i < n→g (m + 1) i=bif p i then g m ((i + 1:Nat):Int) else some bad)
  (he:∀ m,g (m + 1) (n:Int)=some ok):
  ∀ (m i:Nat),i≤n→n - i < m→g m i=some (bif (List.range' i (n - i)).all p then ok else bad)
 | 0,i,hi,hm=>by omega
 | m + 1,i,hi,hm=>by
  by_cases h:i < n
  ·have e:n - i=(n - (i + 1)) + 1:=by omega
   rw [hs m i h,e,List.range'_succ,List.all_cons]
   cases p i with
   | false=>rfl
   | true=>
    rw [cond_true,O1 p hs he m (i + 1) (by omega) (by omega),Bool.true_and]
  ·have:i=n:=by omega
   subst this
   rw [he,Nat.sub_self]
   rfl
theorem B6 {a b:Bool} (h:(a&&b)=true):a=true∧b=true:=by
 cases a<;>cases b<;>first | exact ⟨rfl,rfl⟩ | cases h
theorem By5 (a b:Int):(a != b)=!eqI a b:=by
 unfold eqI
 by_cases h:a=b<;>simp [h,bne]
theorem Ku {α:Type} {r:List α} {i:Nat} {x z:α} (h:i < r.length):(r.set i x).getD i z=x:=by
 simp [List.getD,h]
theorem Ani (n c:Nat):decide (nI n > (c:Int))=!decide (n≤c):=by
 by_cases q:n≤c
 ·have:¬ (nI n > (c:Int)):=by simp [nI]; omega
  rw [Ag q,Bd this]; rfl
 ·have:nI n > (c:Int):=by simp [nI]; omega
  rw [Bd q,Ag this]; rfl
theorem Bqs (n c:Nat):(nI n != (c:Int))=!decide (n=c):=by
 by_cases q:n=c
 ·subst q; simp [nI]
 ·have:¬ (nI n=(c:Int)):=by simp [nI]; omega
  rw [Bd q,By5]; unfold eqI; rw [Bd this]
theorem gt0 (i:Nat):decide ((i:Int) > 0)=!(i==0):=by
 cases i with
 | zero=>rfl
 | succ j=>
  have:((j + 1:Nat):Int) > 0:=by omega
  rw [Ag this]; rfl
theorem wP (j:Nat) (h:j < 4611686018427387904):IntKind.i64.wrap (((j + 1:Nat):Int) - 1)=(j:Int):=by rw [Aj (by omega) (by omega)]; omega
theorem Agq {α:Type} {f:α→α→Bool} (h:∀ x,f x x=true):∀ xs,eqL f xs xs=true
 | []=>rfl
 | x::r=>by simp only [eqL,h,Agq h r,Bool.and_self]
theorem Bs7 (x:Int):eqI x x=true:=Ag rfl
theorem Bs8 (x:Bool):eqO x x=true:=by cases x<;>rfl
theorem Bs9 (x:Aa):eqS x x=true:=by unfold eqS; simp
theorem Aat:∀ (t:Ty) (x:t.D),eqB t x x=true
 | .int _,x=>Bs7 x
 | .bool,x=>Bs8 x
 | .str,x=>Bs9 x
 | .sl t,xs=>Agq (Aat t) xs
 | .unit,_=>rfl
 | .pair a b,x=>by
  show (eqB a x.1 x.1&&eqB b x.2 x.2)=true
  rw [Aat,Aat]
  rfl
theorem A0u {α E:Type} {xs:List α} (z:α) (p:α→Bool) (out:α→E) {g:Nat→Int→Option E} {ok:E}
  (hs:∀ m (i:Nat),i < xs.length→g (m + 1) i=bif p (xs.getD i z) then some (out (xs.getD i z)) else g m ((i + 1:Nat):Int))
  (he:∀ m,g (m + 1) (xs.length:Int)=some ok):
  ∀ (m i:Nat),i≤xs.length→xs.length - i < m→g m i=some (M6 p out ok (xs.drop i))
 | 0,i,hi,hm=>by omega
 | m + 1,i,hi,hm=>by
  by_cases h:i < xs.length
  ·rw [hs m i h,Ld xs i z h]
   simp only [M6]
   cases p (xs.getD i z) with
   | true=>rfl
   | false=>rw [cond_false,cond_false,A0u z p out hs he m (i + 1) (by omega) (by omega)]
  ·have:i=xs.length:=by omega
   subst this
   rw [he,List.drop_length]
   rfl
theorem Ur {α E F:Type} (f:E→F) (p:α→Bool) (out:α→E) (ok:E):∀ l,f (M6 p out ok l)=M6 p (fun x=>f (out x)) (f ok) l
 | []=>rfl
 | x::r=>by
  simp only [M6]
  cases p x with
  | true=>rfl
  | false=>exact Ur f p out ok r
theorem A8n {α E:Type} {xs:List α} (z:α) (p:α→Bool) (out:α→E) {g:Nat→Int→Option E} {ok:E}
  (hs:∀ m (i:Nat),i < xs.length→g (m + 1) i=bif p (xs.getD i z) then some (out (xs.getD i z)) else g m ((i:Int) - 1))
  (he:∀ m,g (m + 1) (-1)=some ok):
  ∀ (m i:Nat),i≤xs.length→i < m→g m ((i:Int) - 1)=some (M6 p out ok (xs.take i).reverse)
 | 0,i,hi,hm=>by omega
 | m + 1,0,hi,hm=>by
  rw [show ((0:Nat):Int) - 1=-1 from rfl,he]
  rfl
 | m + 1,i + 1,hi,hm=>by
  have e:(((i + 1:Nat):Int) - 1)=(i:Int):=by omega
  have h:i < xs.length:=by omega
  have e2:(xs.take (i + 1)).reverse=xs.getD i z::(xs.take i).reverse:=by
   rw [List.take_add_one,List.getElem?_eq_getElem h,Option.toList_some,List.reverse_append,List.reverse_singleton]
   simp [List.getD,List.getElem?_eq_getElem h]
  rw [e,hs m i h,e2]
  simp only [M6]
  cases p (xs.getD i z) with
  | true=>rfl
  | false=>rw [cond_false,cond_false,A8n z p out hs he m i (by omega) (by omega)]
theorem Agr {α σ E:Type} {xs:List α} (z:α) (Inv:σ→Prop) (step:Nat→α→σ→σ) {g:Nat→Int→σ→Option E} {ok:σ→E}
  (hs:∀ m (i:Nat) s,i < xs.length→Inv s→g (m + 1) i s=g m ((i + 1:Nat):Int) (step i (xs.getD i z) s))
  (hi:∀ i s,i < xs.length→Inv s→Inv (step i (xs.getD i z) s))
  (he:∀ m s,Inv s→g (m + 1) (xs.length:Int) s=some (ok s)):
  ∀ (m i:Nat) s,i≤xs.length→xs.length - i < m→Inv s→g m i s=some (ok (C9 step i (xs.drop i) s))
 | 0,i,s,_,hm,_=>by omega
 | m + 1,i,s,hl,hm,hI=>by
  by_cases h:i < xs.length
  ·rw [hs m i s h hI,Agr z Inv step hs hi he m (i + 1) _ (by omega) (by omega) (hi i s h hI),Ld xs i z h]
   rfl
  ·have:i=xs.length:=by omega
   subst this
   rw [he _ _ hI,List.drop_length]
   rfl
theorem Aq8 {α σ:Type} (Inv:σ→Prop) (step:Nat→α→σ→σ):∀ (l:List α) (i:Nat) (s:σ),(∀ i s x,x∈l→Inv s→Inv (step i x s))→Inv s→Inv (C9 step i l s)
 | [],_,_,_,h=>h
 | x::r,i,s,hs,h=>Aq8 Inv step r (i + 1) _ (fun i s y hy=>hs i s y (List.mem_cons_of_mem _ hy)) (hs i s x (by simp) h)
theorem Be5 {α σ:Type} (step:Nat→α→σ→σ):∀ (l:List α) (i:Nat) (s:σ) (x:α),C9 step i (l++[x]) s=step (i + l.length) x (C9 step i l s)
 | [],i,s,x=>rfl
 | y::r,i,s,x=>by
  show C9 step (i + 1) (r++[x]) _=_
  rw [Be5 step r]
  show step (i + 1 + r.length) x _=step (i + (r.length + 1)) x _
  rw [show i + 1 + r.length=i + (r.length + 1) by omega]
  rfl
theorem A8o {α E:Type} {n:Nat} (f:Nat→α) {g:Nat→Int→List α→Option E} {ok:List α→E}
  (hs:∀ m (i:Nat) (r:List α),i < n→r.length=i→g (m + 1) i r=g m ((i + 1:Nat):Int) (r++[f i]))
  (he:∀ m r,g (m + 1) (n:Int) r=some (ok r)):
  ∀ (m i:Nat) (r:List α),i≤n→n - i < m→r.length=i→g m i r=some (ok (r++(List.range' i (n - i)).map f))
 | 0,i,r,_,hm,_=>by omega
 | m + 1,i,r,hl,hm,hr=>by
  by_cases h:i < n
  ·have e:n - i=(n - (i + 1)) + 1:=by omega
   rw [hs m i r h hr,A8o f hs he m (i + 1) _ (by omega) (by omega) (by simp [hr]),e,List.range'_succ,List.map_cons,List.append_assoc]
   rfl
  ·have:i=n:=by omega
   subst this
   rw [he,Nat.sub_self]
   simp
theorem Anj {α:Type} (x:α):∀ (n s:Nat),(List.range' s n).map (fun _=>x)=List.replicate n x
 | 0,_=>rfl
 | n + 1,s=>by rw [List.range'_succ,List.map_cons,Anj x n,List.replicate_succ]
theorem Yi {n:Nat} {p:Nat→Bool} (h:(List.range' 0 n).all p=true) (i:Nat) (hi:i < n):p i=true:=List.all_eq_true.1 h i (by simp [List.mem_range']; omega)
theorem C6 {s:Aa} {a b:Int} (h0:0≤a) (h1:a≤b) (h2:b≤(s.size:Int)):(Ah s a b).size=(b - a).toNat:=by
 unfold Ah
 rw [ByteArray.size_extract]
 omega
structure Iw (d:Dk):Prop where
 n8:8≤d.1.length
 n200:d.1.length≤200
 p300:d.2.1.length≤300
 sec:∀ i,i < d.1.length→(d.1.getD i z0).size=64
 pen:∀ i,i < d.2.1.length→0≤(d.2.1.getD i zW).1∧(d.2.1.getD i zW).1 < (d.1.length:Int)∧(d.2.1.getD i zW).2.1.size=64
theorem Ix {d:Dk} (h:Ar d=true):Iw d:=by
 obtain ⟨h1,h2⟩:=B6 h
 obtain ⟨h2,h3⟩:=B6 h2
 obtain ⟨h3,h4⟩:=B6 h3
 obtain ⟨k1,k2⟩:=B6 h1
 have k1:=Io k1
 have k2:=Io k2
 refine ⟨by omega,by omega,Io h2,fun i hi=>Io (Yi h3 i hi),fun i hi=>?_⟩
 obtain ⟨q1,q2⟩:=B6 (Yi h4 i hi)
 obtain ⟨q2,q3⟩:=B6 q2
 exact ⟨Io q1,Io q2,Io q3⟩
theorem Zs {α:Type} {xs:List α} {x:α} (z:α) (h:x∈xs):∃ i,i < xs.length∧xs.getD i z=x:=by
 obtain ⟨i,hi,rfl⟩:=List.mem_iff_getElem.1 h
 exact ⟨i,hi,by simp [List.getD,List.getElem?_eq_getElem hi]⟩
theorem getD_set_ne {α:Type} {r:List α} {i j:Nat} {x z:α} (h:i≠j):(r.set i x).getD j z=r.getD j z:=by
 simp [List.getD,List.getElem?_set_ne h]
theorem V8 (sec:List Aa) (ws:List Wr):(Hq sec ws).length=sec.length:=
 Aq8 (fun s=>s.length=sec.length) _ ws 0 sec (fun i s w _ h=>by rw [List.length_set]; exact h) rfl
theorem Bjv (sec:List Aa) (i:Nat) (hi:i < sec.length) (ws:List Wr) (h:∀ w∈ws,0≤w.1):
  (Hq sec ws).getD i z0=M6 (fun w=>w.1==(i:Int)) (fun w=>w.2.1) (sec.getD i z0) ws.reverse:=by
 have key:∀ (rs:List Wr),(∀ w∈rs,0≤w.1)→(Hq sec rs.reverse).getD i z0=M6 (fun w=>w.1==(i:Int)) (fun w=>w.2.1) (sec.getD i z0) rs:=by
  intro rs
  induction rs with
  | nil=>intro _; rfl
  | cons w r ih=>
   intro hr
   have ih:=ih (fun v hv=>hr v (List.mem_cons_of_mem _ hv))
   have h0:=hr w (by simp)
   rw [List.reverse_cons]
   unfold Hq at ih ⊢
   rw [Be5]
   simp only [M6]
   have hlen:(C9 (fun _ (w:Wr) (s:List Aa)=>s.set w.1.toNat w.2.1) 0 r.reverse sec).length=sec.length:=V8 sec r.reverse
   by_cases q:w.1=(i:Int)
   ·have q2:w.1.toNat=i:=by omega
    rw [q2,Ku (by rw [hlen]; exact hi),q,beq_self_eq_true,cond_true]
   ·have q2:w.1.toNat≠i:=by omega
    rw [getD_set_ne q2,ih,show (w.1==(i:Int))=false from by simp [q],cond_false]
 have:=key ws.reverse (fun w hw=>h w (List.mem_reverse.1 hw))
 rwa [List.reverse_reverse] at this
theorem Bxq (f:Int):(if (if f < 64 then f else 64) > 0 then (if f < 64 then f else 64) else 0)=Tl f:=by
 unfold Tl
 by_cases h1:f < 64<;>by_cases h2:f < 0<;>simp only [h1,h2,if_true,if_false]<;>(split<;>(try split)<;>omega)
theorem Axc (f:Int):0≤Tl f∧Tl f≤64:=by
 unfold Tl
 split
 ·omega
 ·split<;>omega
theorem x8 (f:List Int) (i:Nat):0≤Yh f i∧Yh f i≤64:=by
 unfold Yh
 split
 ·exact Axc _
 ·omega
theorem A0v {a b:Aa} {k:Int} (ha:a.size=64) (hb:b.size=64) (h0:0≤k) (h1:k≤64):(Bs6 a b k).size=64:=by
 unfold Bs6
 rw [ByteArray.size_append,C6 (by omega) h0 (by omega),C6 h0 (by simp only [nI]; omega) (by simp [nI])]
 simp only [nI]
 omega
def Axd (n:Nat) (s:List Aa):Prop:=s.length=n∧∀ i,i < n→(s.getD i z0).size=64
theorem Axd.set {n:Nat} {s:List Aa} (h:Axd n s) {j:Nat} {x:Aa} (hx:x.size=64):Axd n (s.set j x):=by
 refine ⟨by rw [List.length_set]; exact h.1,fun i hi=>?_⟩
 by_cases q:j=i
 ·subst q
  rw [Ku (by rw [h.1]; exact hi)]
  exact hx
 ·rw [getD_set_ne q]
  exact h.2 i hi
def K8:(t:Ty)→t.D→Bool
 | .int _,_=>true
 | .bool,_=>true
 | .str,s=>decide (ByteArray.size s≤1073741824)
 | .sl t,xs=>decide (List.length xs≤1073741824)&&List.all xs (K8 t)
 | .unit,_=>true
 | .pair a b,x=>K8 a x.1&&K8 b x.2
theorem bi_ {α β:Type} {m:Option α} {f:α→Option β} {a:α} {r:Option β} (h:m=some a) (h2:f a=r):m.bind f=r:=by
 rw [h]; exact h2
theorem Ags {α:Type} {l:List α} {z:α} {P:α→Prop} (h:∀ i,i < l.length→P (l.getD i z)):∀ x∈l,P x:=by
 intro x hx
 obtain ⟨i,hi,rfl⟩:=List.mem_iff_getElem.1 hx
 have:=h i hi
 rw [List.getD_eq_getElem?_getD,List.getElem?_eq_getElem hi] at this
 exact this
theorem Bqt (f:Int):0≤Tl f∧Tl f≤64:=by
 unfold Tl
 split
 ·omega
 ·split<;>omega
theorem Be6 (f:List Int) (i:Nat):0≤Yh f i∧Yh f i≤64:=by
 unfold Yh
 split
 ·exact Bqt _
 ·omega
abbrev tDk:Ty:=.pair (.sl .str) (.pair (.sl (.pair (.int .i64) (.pair .str .unit))) .unit)
theorem Bo1 {d:Dk} (h:Ar d=true) (f:List Int):Axd d.1.length (Tr f d.1 d.2.1):=by
 obtain ⟨k1,k2,k3,k4,k5⟩:=Ix h
 refine Aq8 (Axd d.1.length) _ d.2.1 0 d.1 (fun i s w hw hI=>?_) ⟨rfl,k4⟩
 obtain ⟨w0,w1,w2⟩:=Ags (P:=fun w:Wr=>0≤w.1∧w.1 < (d.1.length:Int)∧w.2.1.size=64) k5 w hw
 exact hI.set (A0v w2 (hI.2 _ (by omega)) (Be6 f i).1 (Be6 f i).2)
theorem Asu (a b:List Int):strOfNums (a++b)=strOfNums a++strOfNums b:=by
 unfold strOfNums
 rw [List.map_append]
 apply ByteArray.ext
 simp
theorem D0 (a:List Int):(strOfNums a).size=a.length:=by
 unfold strOfNums
 show (List.toArray _).size=_
 simp
theorem Agt (v:Int):∀ n,(Sx v n).length=n
 | 0=>rfl
 | n + 1=>by simp only [Sx,Ef,Agt (v / 256) n,Et]
theorem Bqu (n:Nat):∀ v,(Sx v n).length=n:=fun v=>Agt v n
theorem L4 (v:Int) (n:Nat):(Dj v n).size=n:=by unfold Dj; rw [D0,Agt]
theorem Bjw (v:Int) (out:Aa):Dj v 0++out=out:=by
 apply ByteArray.ext
 simp [Dj,Sx,strOfNums]
theorem Bta (s:Aa):s++Ad=s:=by
 apply ByteArray.ext
 simp
theorem Bjx (v:Int) (k:Nat):Dj v (k + 1)=Dj (v / 256) k++strOfNums [v % 256]:=by
 unfold Dj
 rw [← Asu]
 rfl
theorem J7 (s:Aa) (i:Int):0≤Ap s i∧Ap s i < 256:=by
 unfold Ap
 have:=(s.data.toList.getD i.toNat 0).toNat_lt
 omega
theorem Bo2:∀ i:Nat,i < 7→(256:Int) ^ i≤281474976710656:=by decide
theorem Btb (s:Aa) (i:Nat) {k:Nat} {v:Int} (hi:i + (k + 1)=s.size) (hs:i < 7) (h0:0≤v) (h1:v < 256 ^ i):
  0≤v * 256 + Ap s i∧v * 256 + Ap s i < 256 ^ (i + 1)∧IntKind.wrap IntKind.i64 (IntKind.wrap IntKind.i64 (v * 256) + IntKind.wrap IntKind.i64 (Ap s i))=v * 256 + Ap s i:=by
 obtain ⟨b0,b1⟩:=J7 s i
 have hp:(256:Int) ^ (i + 1)=256 ^ i * 256:=Int.pow_succ _ _
 have hle:(256:Int) ^ i≤281474976710656:=Bo2 i hs
 refine ⟨by omega,by omega,?_⟩
 rw [Aj (n:=v * 256) (by omega) (by omega),Aj (n:=Ap s i) (by omega) (by omega),Aj (by omega) (by omega)]
theorem Bve (s:Aa) (i:Nat) {k:Nat} {v:Int} (hi:i + (k + 1)=s.size) (hs:i < 7) (h0:0≤v) (h1:v < 256 ^ i):
  0≤v * 256 + Ap s i∧v * 256 + Ap s i < 256 ^ (i + 1)∧IntKind.wrap IntKind.i64 (nI (BitVec.toNat (BitVec.ofInt 64 (IntKind.wrap IntKind.i64 (v * 2 ^ min (Int.toNat 8) 64)) ||| BitVec.ofInt 64 (IntKind.wrap IntKind.i64 (Ap s i)))))=v * 256 + Ap s i:=by
 obtain ⟨b0,b1⟩:=J7 s i
 have hp:(256:Int) ^ (i + 1)=256 ^ i * 256:=Int.pow_succ _ _
 have hle:(256:Int) ^ i≤281474976710656:=Bo2 i hs
 refine ⟨by omega,by omega,?_⟩
 have e8:(v * 2 ^ min (Int.toNat 8) 64:Int)=v * 256:=rfl
 rw [e8,Aj (n:=v * 256) (by omega) (by omega),Aj (n:=Ap s i) (by omega) (by omega)]
 obtain ⟨n,rfl⟩:∃ n:Nat,v=(n:Int):=⟨v.toNat,by omega⟩
 obtain ⟨b,hb⟩:∃ b:Nat,Ap s i=(b:Int):=⟨(Ap s i).toNat,by omega⟩
 rw [hb] at b0 b1 ⊢
 have e1:BitVec.ofInt 64 ((n:Int) * 256)=BitVec.ofNat 64 (n * 256):=by
  rw [show ((n:Int) * 256)=((n * 256:Nat):Int) by omega]; exact BitVec.ofInt_natCast _ _
 have e2:BitVec.ofInt 64 (b:Int)=BitVec.ofNat 64 b:=BitVec.ofInt_natCast _ _
 rw [e1,e2,BitVec.toNat_or,BitVec.toNat_ofNat,BitVec.toNat_ofNat,Nat.mod_eq_of_lt (by omega),Nat.mod_eq_of_lt (by omega)]
 have e3:n * 256 ||| b=n * 256 + b:=by
  have:=Nat.shiftLeft_add_eq_or_of_lt (i:=8) (b:=b) (by omega) n
  rw [Nat.shiftLeft_eq] at this
  exact this.symm
 rw [e3]
 exact Aj (by simp only [nI]; omega) (by simp only [nI]; omega)
theorem Aq9 {σ ρ:Type} (n:Nat) (Inv:Nat→σ→Prop) (step:Nat→σ→σ) {g:Nat→Nat→σ→Option ρ} {ok:σ→ρ}
  (hs:∀ m i s,i < n→Inv i s→g (m + 1) i s=g m (i + 1) (step i s)) (he:∀ m s,Inv n s→g (m + 1) n s=some (ok s))
  (hI:∀ i s,i < n→Inv i s→Inv (i + 1) (step i s)):∀ k m i s,i + k=n→k < m→Inv i s→g m i s=some (ok (iter step k i s))
 | 0,m + 1,i,s,hi,_,h=>by
  obtain rfl:i=n:=by omega
  exact he m s h
 | k + 1,m + 1,i,s,hi,hm,h=>by
  rw [hs m i s (by omega) h]
  exact Aq9 n Inv step hs he hI k m (i + 1) _ (by omega) (by omega) (hI i s (by omega) h)
theorem Bjy {σ:Type} (Inv:σ→Prop) (f:Nat→σ→σ) (hf:∀ i s,Inv s→Inv (f i s)):∀ k i s,Inv s→Inv (iter f k i s)
 | 0,_,_,h=>h
 | k + 1,i,s,h=>Bjy Inv f hf k (i + 1) _ (hf i s h)
theorem wid (w:Int):(bif decide (w≥1) then some ((decide (w≤8),()),()) else some ((false,()),()))=(some ((Bw w 1 8,()),()):Option ((Bool×Unit)×Unit)):=by
 unfold Bw
 by_cases h:1≤w
 ·rw [Ag (show w≥1 from h)]; rfl
 ·rw [Bd (show ¬ w≥1 from h)]; rfl
theorem Bwz (k:Int):IntKind.wrap IntKind.u64 k=k % 18446744073709551616:=by
 simp [IntKind.wrap,IntKind.bits,IntKind.signed]
theorem Bym (k:Int):IntKind.i64.wrap k=if k % 18446744073709551616≥9223372036854775808 then k % 18446744073709551616 - 18446744073709551616 else k % 18446744073709551616:=by
 simp [IntKind.wrap,IntKind.bits,IntKind.signed]
def U64 (h:Int):Prop:=0≤h∧h < 18446744073709551616
theorem Bo3 (s:Aa) (k i:Nat) {h:Int} (hh:U64 h):U64 (A0t s k i h):=
 Bjy U64 _ (fun i s _=>by unfold Anh; rw [Bwz]; exact ⟨Int.emod_nonneg _ (by decide),Int.emod_lt_of_pos _ (by decide)⟩) k i h hh
theorem A8p:∀ (n:Nat) (v c:Int),Sx (v + 256 ^ n * c) n=Sx v n
 | 0,_,_=>rfl
 | n + 1,v,c=>by
  have e:v + 256 ^ (n + 1) * c=v + 256 * (256 ^ n * c):=by rw [Int.pow_succ,Int.mul_comm (256 ^ n) 256,Int.mul_assoc]
  simp only [Sx]
  rw [e]
  have e1:(v + 256 * (256 ^ n * c)) / 256=v / 256 + 256 ^ n * c:=by omega
  have e2:(v + 256 * (256 ^ n * c)) % 256=v % 256:=by omega
  rw [e1,e2,A8p n]
theorem Be7 (n:Nat):∀ (w:Nat) (v:Int),(Sx v (n + w)).drop n=Sx v w
 | 0,v=>by rw [List.drop_eq_nil_of_le (by rw [Agt]; omega)]; rfl
 | w + 1,v=>by
  show (Sx (v / 256) (n + w)++[v % 256]).drop n=_
  rw [List.drop_append_of_le_length (by rw [Agt]; omega),Be7 n w]
  rfl
theorem Btc (l:List Int) (a:Nat):Ah (strOfNums l) (a:Int) (nI (strOfNums l).size)=strOfNums (l.drop a):=by
 unfold Ah
 rw [D0]
 apply ByteArray.ext
 simp [strOfNums,nI,List.map_drop]
 exact List.take_of_length_le (by simp)
theorem Bvf {h w:Int} (hh:U64 h) (h1:1≤w) (h8:w≤8):Ah (Dj (IntKind.wrap IntKind.i64 h) (Int.toNat 8)) (8 - w) (nI (ByteArray.size (Dj (IntKind.wrap IntKind.i64 h) (Int.toNat 8))))=Dj h w.toNat:=by
 obtain ⟨n,rfl⟩:∃ n:Nat,w=(n:Int):=⟨w.toNat,by omega⟩
 have e8:Int.toNat 8=(8 - n) + n:=by omega
 have e:(8 - (n:Int))=((8 - n:Nat):Int):=by omega
 rw [e]
 unfold Dj
 have hd:Sx (IntKind.wrap IntKind.i64 h) (Int.toNat 8)=Sx h (Int.toNat 8):=by
  by_cases q:h < 9223372036854775808
  ·rw [Aj (by have:=hh.1; omega) q]
  ·have:IntKind.wrap IntKind.i64 h=h + 256 ^ 8 * (-1):=by
    have h6:(256:Int) ^ 8=18446744073709551616:=by decide
    have:=hh.2
    rw [h6]
    rw [Bym]
    split<;>omega
   rw [this]
   exact A8p 8 h (-1)
 rw [hd,Btc,e8,Be7]
 rfl
theorem Agu {s:Aa} {w:Int} (h:Bw w 1 8=true):(Axb s w).size=w.toNat:=by
 unfold Axb; rw [h]; exact L4 _ _
theorem By6:∀ n:Nat,n≤64→Afq (ByteArray.mk #[0]) (n:Int)=some (strOfNums (List.replicate n 0)):=by decide +kernel
theorem Aau {p:Pg} {w:Int} (h:Eg p w=true):Bw w 1 8=true∧1≤w∧w≤8∧(p.2.2.2.1.size:Int)≤56 - w:=by
 obtain ⟨h1,h2⟩:=B6 h
 obtain ⟨_,h2⟩:=B6 h2
 obtain ⟨_,h2⟩:=B6 h2
 obtain ⟨_,h2⟩:=B6 h2
 exact ⟨h1,Io (B6 h1).1,Io (B6 h1).2,Io (B6 h2).1⟩
theorem Cv {v lo hi:Int} (h:Bw v lo hi=true):lo≤v∧v≤hi:=⟨Io (B6 h).1,Io (B6 h).2⟩
theorem Ank {p:Pg} {w:Int} (h:Eg p w=true):(1≤p.1∧p.1≤4)∧(1≤p.2.1∧p.2.1≤60000)∧(1≤p.2.2.1∧p.2.2.1≤1000000000):=by
 obtain ⟨_,h2⟩:=B6 h
 obtain ⟨h3,h2⟩:=B6 h2
 obtain ⟨h4,h2⟩:=B6 h2
 obtain ⟨h5,h2⟩:=B6 h2
 exact ⟨Cv h3,Cv h4,Cv h5⟩
theorem A8q (x lo hi:Int) {ρ:Type} (f t:ρ):(bif decide (x < lo) then f else bif decide (x > hi) then f else t)=bif Bw x lo hi then t else f:=by
 unfold Bw
 by_cases h1:x < lo
 ·rw [Ag h1,Bd (show ¬ lo≤x by omega)]; rfl
 ·rw [Bd h1,Ag (show lo≤x by omega)]
  by_cases h2:x > hi
  ·rw [Ag h2,Bd (show ¬ x≤hi by omega)]; rfl
  ·rw [Bd h2,Ag (show x≤hi by omega)]; rfl
theorem Btd (s:Aa) (a b:Int):(Ah s a b).size≤s.size:=by
 unfold Ah
 rw [ByteArray.size_extract]
 omega
theorem A8r {α β:Type} (f:α→List β) (z:α) (xs:List α):∀ k i r,i + k=xs.length→iter (fun i r=>r++f (xs.getD i z)) k i r=r++((xs.drop i).map f).flatten
 | 0,i,r,h=>by
  rw [List.drop_eq_nil_of_le (by omega)]
  simp [iter]
 | k + 1,i,r,h=>by
  rw [Ld xs i z (by omega)]
  simp only [iter,List.map_cons,List.flatten_cons]
  rw [A8r f z xs k (i + 1) _ (by omega),List.append_assoc]
theorem O2 (a b:Aa):Af (a++b)=Af a++Af b:=by
 unfold Af
 simp
theorem Eu (s:Aa):(Af s).length=s.size:=by
 unfold Af
 rw [List.length_map]
 rfl
theorem R3 (l:List Int) (h:Hp l=true):Af (strOfNums l)=l:=by
 unfold Af strOfNums
 show (List.map _ (List.map _ l))=l
 rw [List.map_map]
 conv=>rhs; rw [← List.map_id l]
 refine List.map_congr_left fun x hx=>?_
 have:=List.all_eq_true.1 h x hx
 obtain ⟨h1,h2⟩:=B6 this
 have h1:=Io h1
 have h2:=Io h2
 show (((UInt8.ofNat x.toNat).toNat:Nat):Int)=x
 rw [UInt8.toNat_ofNat']
 rw [Nat.mod_eq_of_lt (by omega)]
 omega
theorem Aad (s:Aa):Hp (Af s)=true:=by
 refine List.all_eq_true.2 fun x hx=>?_
 obtain ⟨b,_,rfl⟩:=List.mem_map.1 hx
 have:=b.toNat_lt
 show (decide (0≤(b.toNat:Int))&&decide ((b.toNat:Int) < 256))=true
 rw [Ag (by omega),Ag (by omega)]
 rfl
theorem K7 (a b:List Int):Hp (a++b)=(Hp a&&Hp b):=List.all_append
theorem Bvg (n:Nat) (h:n < 256):Dj (nI n) 1=strOfNums [nI n]:=by
 unfold Dj
 simp only [Sx,List.nil_append]
 rw [show nI n % 256=nI n by simp only [nI]; omega]
theorem A6w (n:Nat) (h:n < 256):Hp [nI n]=true:=by
 show ((decide (0≤nI n)&&decide (nI n < 256))&&true)=true
 rw [Ag (by simp only [nI]; omega),Ag (by simp only [nI]; omega)]
 rfl
theorem Bjz (n:Nat) (h:n < 256):Af (Dj (nI n) 1)=[nI n]:=by
 rw [Bvg n h,R3 _ (A6w n h)]
theorem Bw0 (n:Nat) (h:n < 256):IntKind.wrap IntKind.u8 (nI n)=nI n:=by
 show nI n % 256=nI n
 simp only [nI]; omega
theorem Ara {c:Be} (h:Tj c=true):1≤c.1.size∧c.1.size≤20∧c.2.1.size≤100:=by
 obtain ⟨h1,h2⟩:=B6 h
 obtain ⟨h2,_⟩:=B6 h2
 have:=Cv h1
 have:=Io h2
 omega
theorem Adm {c:Be} (h:Tj c=true):Hp (x6 c)=true∧(x6 c).length≤200:=by
 obtain ⟨k1,k2,k3⟩:=Ara h
 unfold x6
 have a1:=A6w c.1.size (by omega)
 have a2:=A6w c.2.1.size (by omega)
 have b1:Hp [1,nI c.1.size]=true:=by
  rw [show [1,nI c.1.size]=[1]++[nI c.1.size] from rfl,K7,a1]; rfl
 have b0:Hp [0,nI c.1.size]=true:=by
  rw [show [0,nI c.1.size]=[0]++[nI c.1.size] from rfl,K7,a1]; rfl
 cases c.2.2.1
 ·simp only [cond_false,K7,b0,a2,Aad,Ef,Eu,List.length_cons,List.length_nil]
  exact ⟨rfl,by omega⟩
 ·simp only [cond_true,K7,b1,Aad,Ef,Eu,List.length_cons,List.length_nil]
  exact ⟨rfl,by omega⟩
theorem Zh {b:List Be} (h:A0 b=true):b.length≤20∧∀ i,i < b.length→Tj (b.getD i zC)=true:=by
 obtain ⟨h1,h2⟩:=B6 h
 refine ⟨by have:=(Cv h1).2; omega,fun i hi=>?_⟩
 exact List.all_eq_true.1 h2 i (List.mem_range'_1.2 ⟨by omega,by omega⟩)
def A8s (i:Nat) (r:List Int):Prop:=r.length≤200 * i∧Hp r=true
theorem A8s.step {i:Nat} {r:List Int} {c:Be} (h:A8s i r) (hc:Tj c=true):A8s (i + 1) (r++x6 c):=by
 obtain ⟨q1,q2⟩:=Adm hc
 exact ⟨by rw [Ef]; have:=h.1; omega,by rw [K7,h.2,q1]; rfl⟩
theorem Bj0 {b:List Be} (h:∀ i,i < b.length→Tj (b.getD i zC)=true):∀ k i r,i + k=b.length→A8s i r→A8s b.length (iter (fun i r=>r++x6 (b.getD i zC)) k i r)
 | 0,i,r,e,hr=>by
  obtain rfl:i=b.length:=by omega
  exact hr
 | k + 1,i,r,e,hr=>Bj0 h k (i + 1) _ (by omega) (hr.step (h i (by omega)))
theorem Yj {a b:Aa} (h:Af a=Af b):a=b:=by
 apply ByteArray.ext
 apply Array.ext'
 unfold Af at h
 exact (List.map_inj_right (fun x y e=>UInt8.toNat_inj.1 (by omega))).1 h
theorem O3 (s:Aa) (a b:Nat):Af (Ah s a b)=((Af s).drop a).take (b - a):=by
 unfold Af Ah
 simp [List.map_drop,List.map_take]
theorem Bj1 {a b:Aa} (h:(a.toList==b.toList)=true):a=b:=by
 have h:=eq_of_beq h
 rw [ByteArray.toList_eq,ByteArray.toList_eq] at h
 apply ByteArray.ext
 exact Array.ext' h
theorem Bxs {s:Aa} (h:Af s=[]):s=Ad:=Yj h
theorem Axe {s:Aa} (h:0 < s.size):Af s=Ap s 0::Af (Ah s 1 (nI s.size)):=by
 have hc:=O3 s 1 s.size
 have e:Ah s 1 (nI s.size)=Ah s ((1:Nat):Int) ((s.size:Nat):Int):=rfl
 rw [e,hc]
 have hl:=Eu s
 cases hb:Af s with
 | nil=>rw [hb] at hl; simp at hl; omega
 | cons x r=>
  have hx:Ap s 0=x:=by
   unfold Ap
   unfold Af at hb
   cases hd:s.data.toList with
   | nil=>rw [hd] at hb; simp at hb
   | cons y q=>rw [hd] at hb; simp at hb; simp [hb.1]
  rw [hx,List.drop_one,List.tail_cons,List.take_of_length_le]
  rw [hb] at hl
  simp at hl
  omega
theorem A3h {s:Aa} (h:(Bm s).2.2=true):Af s=nI (Bm s).1.size::(Af (Bm s).1++Af (Bm s).2.1):=by
 unfold Bm at h ⊢
 split at h
 ·cases h
 ·rename_i hc
  rw [if_neg hc]
  obtain ⟨b0,b1⟩:=J7 s 0
  have h0:0 < s.size:=by omega
  rw [Axe h0]
  obtain ⟨n,hn⟩:∃ n:Nat,Ap s 0=(n:Int):=⟨(Ap s 0).toNat,by omega⟩
  have e1:(Ah s 1 (1 + Ap s 0)).size=n:=by rw [C6 (by omega) (by omega) (by omega)]; omega
  simp only [e1]
  rw [hn]
  congr 1
  have q1:Ah s 1 (nI s.size)=Ah s ((1:Nat):Int) ((s.size:Nat):Int):=rfl
  have q2:Ah s 1 (1 + (n:Int))=Ah s ((1:Nat):Int) ((1 + n:Nat):Int):=by rw [show (1 + (n:Int))=((1 + n:Nat):Int) by omega]<;>rfl
  have q3:Ah s (1 + (n:Int)) (nI s.size)=Ah s ((1 + n:Nat):Int) ((s.size:Nat):Int):=by rw [show (1 + (n:Int))=((1 + n:Nat):Int) by omega]<;>rfl
  rw [q1,q2,q3,O3,O3,O3]
  have hl:=Eu s
  rw [List.take_of_length_le (by rw [List.length_drop]; omega),show 1 + n - 1=n by omega,List.take_of_length_le (l:=List.drop (1 + n) (Af s)) (by rw [List.length_drop]; omega),← List.drop_drop]
  exact (List.take_append_drop n _).symm
theorem Aav {s k t:Aa} (hk:k.size < 256) (h:Af s=nI k.size::(Af k++Af t)):Bm s=(k,t,true):=by
 have hl:=Eu s
 have hlk:=Eu k
 have hlt:=Eu t
 rw [h,List.length_cons,Ef,hlk,hlt] at hl
 have h0:0 < s.size:=by omega
 have hh:=Axe h0
 rw [h] at hh
 have hb:Ap s 0=nI k.size:=(List.cons.inj hh).1.symm
 have ht:=(List.cons.inj hh).2
 unfold Bm
 rw [hb,if_neg (by simp only [nI]; omega)]
 have q1:Ah s 1 (1 + nI k.size)=Ah s ((1:Nat):Int) ((1 + k.size:Nat):Int):=by rw [show (1 + nI k.size)=((1 + k.size:Nat):Int) by simp only [nI]; omega]<;>rfl
 have q2:Ah s (1 + nI k.size) (nI s.size)=Ah s ((1 + k.size:Nat):Int) ((s.size:Nat):Int):=by rw [show (1 + nI k.size)=((1 + k.size:Nat):Int) by simp only [nI]; omega]<;>rfl
 have hd:(Af s).drop 1=Af k++Af t:=by rw [h]; rfl
 have e1:Ah s 1 (1 + nI k.size)=k:=by
  apply Yj
  rw [q1,O3,hd,show 1 + k.size - 1=k.size by omega,List.take_append_of_le_length (by omega),List.take_of_length_le (by omega)]
 have e2:Ah s (1 + nI k.size) (nI s.size)=t:=by
  apply Yj
  rw [q2,O3,← List.drop_drop,hd,List.drop_append_of_le_length (by omega),List.drop_of_length_le (by omega),List.nil_append,List.take_of_length_le (by omega)]
 rw [e1,e2]
theorem Bmx {s:Aa} (h0:0 < s.size) {c:Be} {t:Aa} (h:A3g true s=some (c,t)):Af s=x6 c++Af t:=by
 unfold A3g at h
 rw [Axe h0]
 obtain ⟨b0,b1⟩:=J7 s 0
 by_cases g1:Ap s 0 > 1
 ·rw [Ag g1] at h; cases h
 ·rw [Bd g1] at h
  have hp:=@A3h (Ah s 1 (nI s.size))
  generalize Bm (Ah s 1 (nI s.size))=p at *
  obtain ⟨k,u,o⟩:=p
  cases o
  ·cases h
  ·rw [hp rfl]
   by_cases g2:Ap s 0=1
   ·rw [g2] at h ⊢
    cases h
    simp [x6]
   ·have g3:Ap s 0=0:=by omega
    rw [g3] at h ⊢
    have hq:=@A3h u
    have h:(bif !(Bm u).2.2 then none else some ((k,(Bm u).1,false,()),(Bm u).2.1))=some (c,t):=h
    generalize Bm u=q at *
    obtain ⟨v,w,o⟩:=q
    cases o
    ·cases h
    ·cases h
     have:=hq rfl
     simp only at this ⊢
     rw [this]
     simp [x6]
theorem Bco {s:Aa} {c:Be} {t:Aa} (hc:Tj c=true) (h:Af s=x6 c++Af t) (b:Bool):0 < s.size∧A3g b s=some (c,t):=by
 obtain ⟨k1,k2,k3⟩:=Ara hc
 obtain ⟨k,v,g,u⟩:=c
 have hl:=Eu s
 have h0:0 < s.size:=by
  rw [h,Ef] at hl
  unfold x6 at hl
  cases g<;>simp at hl<;>omega
 refine ⟨h0,?_⟩
 have hh:=Axe h0
 rw [h] at hh
 unfold A3g
 cases g
 ·have e:x6 (k,v,false,u)++Af t=0::(nI k.size::(Af k++(nI v.size::(Af v++Af t)))):=by simp [x6]
  rw [e] at hh
  have hb:Ap s 0=0:=(List.cons.inj hh).1.symm
  have ht:=(List.cons.inj hh).2.symm
  have a2:=A6w v.size (by have:v.size≤100:=k3; omega)
  have ev:Af (strOfNums (nI v.size::(Af v++Af t)))=nI v.size::(Af v++Af t):=R3 _ (by
   rw [show nI v.size::(Af v++Af t)=[nI v.size]++(Af v++Af t) from rfl,K7,K7,a2,Aad,Aad]; rfl)
  have p1:=Aav (s:=Ah s 1 (nI s.size)) (k:=k) (t:=strOfNums (nI v.size::(Af v++Af t))) (by have:k.size≤20:=k2; omega) (by rw [ev]; exact ht)
  have p2:=Aav (s:=strOfNums (nI v.size::(Af v++Af t))) (k:=v) (t:=t) (by have:v.size≤100:=k3; omega) ev
  rw [p1,hb]
  show (bif b&&false then none else (bif !(Bm (strOfNums (nI v.size::(Af v++Af t)))).2.2 then none else some ((k,(Bm (strOfNums (nI v.size::(Af v++Af t)))).1,false,()),(Bm (strOfNums (nI v.size::(Af v++Af t)))).2.1)))=_
  rw [p2,Bool.and_false]
  rfl
 ·have hv:v=Ad:=by
   obtain ⟨_,h2⟩:=B6 hc
   obtain ⟨_,h2⟩:=B6 h2
   have h2:(!(true&&!(v.toList==[])))=true:=h2
   have h3:(v.toList==[])=true:=by cases hq:(v.toList==[])<;>rw [hq] at h2<;>first | rfl | cases h2
   have h3:=eq_of_beq h3
   rw [ByteArray.toList_eq] at h3
   apply ByteArray.ext
   exact Array.ext' h3
  subst hv
  have e:x6 (k,Ad,true,u)++Af t=1::(nI k.size::(Af k++Af t)):=by simp [x6]
  rw [e] at hh
  have hb:Ap s 0=1:=(List.cons.inj hh).1.symm
  have ht:=(List.cons.inj hh).2.symm
  have p1:=Aav (s:=Ah s 1 (nI s.size)) (k:=k) (t:=t) (by have:k.size≤20:=k2; omega) ht
  rw [p1,hb]
  cases b<;>rfl
theorem A3i:∀ (f:Nat) (r:List Be) (s:Aa) {b:List Be} {t:Aa},Uq true f r s=some (b,t)→∃ cs,b=r++cs∧Af s=Jp cs++Af t
 | 0,r,s,b,t,h=>by
  cases h
  exact ⟨[],by simp,by simp [Jp]⟩
 | f + 1,r,s,b,t,h=>by
  unfold Uq at h
  by_cases q:(decide (s.size > 0)&&decide (r.length≤20))=true
  ·rw [q] at h
   have h0:=Io (B6 q).1
   cases hs:A3g true s with
   | none=>rw [hs] at h; cases h
   | some ct=>
    obtain ⟨c,u⟩:=ct
    rw [hs] at h
    obtain ⟨cs,e1,e2⟩:=A3i f (r++[c]) u h
    refine ⟨c::cs,by rw [e1,List.append_assoc]; rfl,?_⟩
    rw [Bmx h0 hs,e2]
    simp [Jp]
  ·rw [Bool.eq_false_iff.2 q] at h
   cases h
   exact ⟨[],by simp,by simp [Jp]⟩
theorem Aaw (strict:Bool):∀ (cs:List Be) (f:Nat) (r:List Be) (s:Aa),cs.length < f→r.length + cs.length≤20→(∀ c∈cs,Tj c=true)→Af s=Jp cs→Uq strict f r s=some (r++cs,Ad)
 | [],f + 1,r,s,_,_,_,h=>by
  have hz:=Bxs (s:=s) h
  subst hz
  rw [List.append_nil]
  rfl
 | c::cs,f + 1,r,s,hf,hr,hok,h=>by
  have hb:Af (strOfNums (Jp cs))=Jp cs:=R3 _ (List.all_eq_true.2 fun x hx=>by
   obtain ⟨l,hl,hx⟩:=List.mem_flatten.1 hx
   obtain ⟨d,hd,rfl⟩:=List.mem_map.1 hl
   exact List.all_eq_true.1 (Adm (hok d (List.mem_cons_of_mem _ hd))).1 x hx)
  obtain ⟨h0,hs⟩:=Bco (s:=s) (c:=c) (t:=strOfNums (Jp cs)) (hok c (by simp)) (by rw [hb,h]; rfl) strict
  unfold Uq
  rw [hs,Ag (show s.size > 0 from h0),Ag (show r.length≤20 by rw [List.length_cons] at hr; omega)]
  have ih:=Aaw strict cs f (r++[c]) (strOfNums (Jp cs)) (by rw [List.length_cons] at hf; omega) (by rw [Ef,Et]; rw [List.length_cons] at hr; omega) (fun d hd=>hok d (List.mem_cons_of_mem _ hd)) hb
  rw [List.append_assoc] at ih
  exact ih
theorem Bmy (s:Aa):strOfNums (Af s)=s:=Yj (R3 _ (Aad s))
theorem Be8 {b:List Be} (h:∀ c∈b,Tj c=true):Hp (Jp b)=true:=List.all_eq_true.2 fun x hx=>by
 obtain ⟨l,hl,hx⟩:=List.mem_flatten.1 hx
 obtain ⟨d,hd,rfl⟩:=List.mem_map.1 hl
 exact List.all_eq_true.1 (Adm (h d hd)).1 x hx
theorem Arb {b:List Be} (h:A0 b=true):1≤b.length∧b.length≤20∧∀ c∈b,Tj c=true:=by
 obtain ⟨h1,h2⟩:=Zh h
 refine ⟨by have:=(Cv (B6 h).1).1; omega,h1,Ags (z:=zC) (P:=fun c=>Tj c=true) h2⟩
theorem Bg7 {s:Aa} {b:List Be} (hv:A0 b=true) (hs:Af s=Jp b):Hv s=(b,true)∧A8l s=(b,true):=by
 obtain ⟨h1,h2,h3⟩:=Arb hv
 have p1:=Aaw true b 22 [] s (by omega) (by simpa using h2) h3 hs
 have p2:=Aaw false b 22 [] s (by omega) (by simpa using h2) h3 hs
 have hf:Bh b=s:=by
  unfold Bh
  rw [hv,← hs,cond_true,Bmy]
 have hz:(s.size==0)=false:=by
  refine beq_eq_false_iff_ne.2 fun q=>?_
  cases b with
  | nil=>simp at h1
  | cons c r=>
   have:=Eu s
   rw [q,hs] at this
   unfold Jp x6 at this
   cases hg:c.2.2.1<;>simp [hg] at this
 unfold Hv A8l
 rw [p1,p2]
 simp only [List.nil_append]
 rw [hv,hf,hz,beq_self_eq_true]
 exact ⟨rfl,rfl⟩
theorem Bo4 {s:Aa} (h:∀ b,A0 b=true→Af s≠Jp b):Hv s=([],false)∧A8l s=([],false):=by
 constructor
 ·unfold Hv
  cases hp:Uq true 22 [] s with
  | none=>rfl
  | some bt=>
   obtain ⟨b,t⟩:=bt
   simp only
   obtain ⟨cs,e1,e2⟩:=A3i 22 [] s hp
   rw [List.nil_append] at e1
   subst e1
   by_cases ht:t.size > 0
   ·rw [Ag ht]; rfl
   ·cases hv:A0 b with
    | false=>rw [Bool.not_false,Bool.or_true]; rfl
    | true=>
     have h0:Af t=[]:=List.length_eq_zero_iff.1 (by rw [Eu]; omega)
     rw [h0,List.append_nil] at e2
     exact absurd e2 (h b hv)
 ·unfold A8l
  cases hp:Uq false 22 [] s with
  | none=>rfl
  | some bt=>
   obtain ⟨b,t⟩:=bt
   simp only
   by_cases hz:s.size=0
   ·rw [hz]; rfl
   ·rw [beq_eq_false_iff_ne.2 hz,Bool.false_or]
    cases he:((Bh b).toList==s.toList) with
    | false=>rfl
    | true=>
     have e:=Bj1 he
     cases hv:A0 b with
     | false=>
      unfold Bh at e
      rw [hv] at e
      subst e
      exact absurd rfl hz
     | true=>
      unfold Bh at e
      rw [hv] at e
      have e:strOfNums (Jp b)=s:=e
      have:=congrArg Af e
      rw [R3 _ (Be8 (Arb hv).2.2)] at this
      exact absurd this.symm (h b hv)
theorem Bqv (s:Aa):A8l s=Hv s:=by
 by_cases h:∃ b,A0 b=true∧Af s=Jp b
 ·obtain ⟨b,h1,h2⟩:=h
  rw [(Bg7 h1 h2).1,(Bg7 h1 h2).2]
 ·have h':∀ b,A0 b=true→Af s≠Jp b:=fun b h1 h2=>h ⟨b,h1,h2⟩
  rw [(Bo4 h').1,(Bo4 h').2]
def A4n (v b:Int):Int:=v * 256 + b
theorem Aax (s:Aa) (i:Nat):Ap s i=(Af s).getD i 0:=by
 unfold Ap Af
 simp only [En,List.getD_eq_getElem?_getD,List.getElem?_map]
 cases s.data.toList[i]? <;> rfl
theorem Bj2 (s:Aa):∀ k i v,i + k=s.size→Bju s k i v=((Af s).drop i).foldl A4n v
 | 0,i,v,h=>by rw [List.drop_of_length_le (by rw [Eu]; omega)]; rfl
 | k + 1,i,v,h=>by
  rw [Ld (Af s) i 0 (by rw [Eu]; omega),List.foldl_cons,← Aax]
  exact Bj2 s k (i + 1) _ (by omega)
theorem Bo5 (s:Aa):Ang s=(Af s).foldl A4n 0:=by
 unfold Ang
 rw [Bj2 s s.size 0 0 (by omega),List.drop_zero]
theorem Bj3 (v:Int):∀ (n:Nat) (l:List Int),l.length=n→Hp l=true→Sx (l.foldl A4n v) n=l
 | 0,l,h,_=>by rw [List.length_eq_zero_iff.1 h]; rfl
 | n + 1,l,h,ha=>by
  obtain ⟨q,b,rfl⟩:∃ q b,l=q++[b]:=⟨l.dropLast,l.getLast (by intro e; subst e; simp at h),(List.dropLast_concat_getLast _).symm⟩
  rw [K7] at ha
  obtain ⟨h1,h2⟩:=B6 ha
  have hb:0≤b∧b < 256:=by
   have:=List.all_eq_true.1 h2 b (by simp)
   exact ⟨Io (B6 this).1,Io (B6 this).2⟩
  rw [List.foldl_append]
  simp only [List.foldl_cons,List.foldl_nil,Sx]
  have e1:A4n (q.foldl A4n v) b / 256=q.foldl A4n v:=by unfold A4n; omega
  have e2:A4n (q.foldl A4n v) b % 256=b:=by unfold A4n; omega
  rw [e1,e2,Bj3 v n q (by simpa using h) h1]
theorem Bj4:∀ (n:Nat) (v:Int),0≤v→v < 256 ^ n→(Sx v n).foldl A4n 0=v
 | 0,v,h0,h1=>by
  have:v < 1:=h1
  show (0:Int)=v
  omega
 | n + 1,v,h0,h1=>by
  have hp:(256:Int) ^ (n + 1)=256 ^ n * 256:=Int.pow_succ _ _
  simp only [Sx,List.foldl_append,List.foldl_cons,List.foldl_nil]
  rw [Bj4 n (v / 256) (by omega) (by omega)]
  unfold A4n
  omega
theorem Bj5:∀ (n:Nat) (v:Int),Hp (Sx v n)=true
 | 0,_=>rfl
 | n + 1,v=>by
  simp only [Sx,K7,Bj5 n]
  show (true&&((decide (0≤v % 256)&&decide (v % 256 < 256))&&true))=true
  rw [Ag (by omega),Ag (by omega)]
  rfl
theorem M8 (v:Int) (n:Nat):Af (Dj v n)=Sx v n:=R3 _ (Bj5 n v)
theorem A8t {v:Int} {n:Nat} (h0:0≤v) (h1:v < 256 ^ n):Ang (Dj v n)=v:=by rw [Bo5,M8,Bj4 n v h0 h1]
theorem Bte (s:Aa):Dj (Ang s) s.size=s:=by
 apply Yj
 rw [M8,Bo5]
 exact Bj3 0 s.size _ (Eu s) (Aad s)
theorem Bqw (n:Nat):Hp (List.replicate n 0)=true:=List.all_eq_true.2 fun x hx=>by
 rw [List.eq_of_mem_replicate hx]; rfl
theorem Au0 (p:Pg) (w:Int):Af (J5 p w)=Sx p.1 1++(Sx p.2.1 2++(Sx p.2.2.1 4++(Sx p.2.2.2.1.size 1++(Af p.2.2.2.1++List.replicate (56 - w - p.2.2.2.1.size).toNat 0)))):=by
 unfold J5
 rw [O2,O2,O2,O2,O2,M8,M8,M8,M8,R3 _ (Bqw _)]
 simp only [List.append_assoc]
theorem Be9 {p:Pg} {w:Int} (h:Eg p w=true):(J5 p w).size=(64 - w).toNat:=by
 obtain ⟨hw,k1,k2,kp⟩:=Aau h
 rw [← Eu,Au0]
 simp only [Ef,Agt,Eu,List.length_replicate]
 omega
theorem A8u {p:Pg} {w:Int} (h:Eg p w=true):(Cc p w).size=64∧Ah (Cc p w) w (nI (Cc p w).size)=J5 p w:=by
 obtain ⟨hw,k1,k2,kp⟩:=Aau h
 have e:Cc p w=Axb (J5 p w) w++J5 p w:=by unfold Cc; rw [h]; rfl
 have hs:(Cc p w).size=64:=by rw [e,ByteArray.size_append,Agu hw,Be9 h]; omega
 refine ⟨hs,?_⟩
 obtain ⟨n,rfl⟩:∃ n:Nat,w=(n:Int):=⟨w.toNat,by omega⟩
 apply Yj
 have q:Ah (Cc p n) n (nI (Cc p n).size)=Ah (Cc p n) (n:Nat) ((64:Nat):Int):=by rw [hs]<;>rfl
 rw [q,O3,e,O2,List.drop_append_of_le_length (by rw [Eu,Agu hw]; omega),List.drop_of_length_le (by rw [Eu,Agu hw]; omega),List.nil_append,List.take_of_length_le (by rw [Eu,Be9 h]; omega)]
theorem Btf {p:Pg} {w:Int} (h:Eg p w=true):Bmv (J5 p w)=p:=by
 obtain ⟨hw,k1,k2,kp⟩:=Aau h
 obtain ⟨r1,r2,r3⟩:=Ank h
 have hb:=Au0 p w
 have d1:∀ v:Int,Sx v 1=[v % 256]:=fun v=>rfl
 have d2:∀ v:Int,Sx v 2=[v / 256 % 256,v % 256]:=fun v=>rfl
 have d4:∀ v:Int,Sx v 4=[v / 256 / 256 / 256 % 256,v / 256 / 256 % 256,v / 256 % 256,v % 256]:=fun v=>rfl
 have b7:Ap (J5 p w) 7=p.2.2.2.1.size:=by
  have:=Aax (J5 p w) 7
  rw [hb,d1,d2,d4,d1] at this
  refine this.trans ?_
  show (p.2.2.2.1.size:Int) % 256=_
  omega
 have b0:Ap (J5 p w) 0=p.1:=by
  have:=Aax (J5 p w) 0
  rw [hb,d1] at this
  refine this.trans ?_
  show p.1 % 256=_
  omega
 have c1:Ah (J5 p w) 1 3=Dj p.2.1 2:=by
  apply Yj
  have:=O3 (J5 p w) 1 3
  rw [hb,d1,d2,d4,d1] at this
  exact this.trans (by rw [M8,d2]; rfl)
 have c3:Ah (J5 p w) 3 7=Dj p.2.2.1 4:=by
  apply Yj
  have:=O3 (J5 p w) 3 7
  rw [hb,d1,d2,d4,d1] at this
  exact this.trans (by rw [M8,d4]; rfl)
 have c8:Ah (J5 p w) 8 (8 + (p.2.2.2.1.size:Int))=p.2.2.2.1:=by
  apply Yj
  have:=O3 (J5 p w) 8 (8 + p.2.2.2.1.size)
  rw [hb,d1,d2,d4,d1] at this
  refine this.trans ?_
  show List.take (8 + p.2.2.2.1.size - 8) (Af p.2.2.2.1++_)=_
  rw [show 8 + p.2.2.2.1.size - 8=p.2.2.2.1.size by omega,List.take_append_of_le_length (by rw [Eu]; omega),List.take_of_length_le (by rw [Eu]; omega)]
 have p2:(256:Int) ^ 2=65536:=by decide
 have p4:(256:Int) ^ 4=4294967296:=by decide
 unfold Bmv
 rw [b7,b0,c1,c3,c8,A8t (by omega) (by omega),A8t (by omega) (by omega)]
theorem I4 {p:Pg} {w:Int} (h:Eg p w=true):Av (Cc p w) w=(p,true):=by
 obtain ⟨hw,k1,k2,kp⟩:=Aau h
 obtain ⟨hs,ht⟩:=A8u h
 have hr:=Btf h
 have b7:Ap (J5 p w) 7=p.2.2.2.1.size:=by
  have:=Aax (J5 p w) 7
  rw [Au0] at this
  refine this.trans ?_
  show (p.2.2.2.1.size:Int) % 256=_
  omega
 unfold Av Bmw
 rw [ht,hr,hw,hs,b7,beq_self_eq_true,Bd (by omega)]
 rfl
theorem Us {s:Aa} {w:Int} {p:Pg} (h:Av s w=(p,true)):s.size=64∧Bw w 1 8=true∧Cc p w=s∧Eg p w=true:=by
 unfold Av at h
 cases h1:(nI s.size != 64) with
 | true=>rw [h1] at h; cases h
 | false=>
  cases h2:Bw w 1 8 with
  | false=>rw [h1,h2] at h; cases h
  | true=>
   cases h3:decide (Ap (Ah s w (nI s.size)) 7 > 56 - w) with
   | true=>rw [h1,h2,h3] at h; cases h
   | false=>
    cases h4:((Cc (Bmw s w) w).toList==s.toList) with
    | false=>rw [h1,h2,h3,h4] at h; cases h
    | true=>
     rw [h1,h2,h3,h4] at h
     have e:Bmw s w=p:=congrArg Prod.fst h
     rw [e] at h4
     have e2:=Bj1 h4
     have hs:s.size=64:=by
      by_cases q:nI s.size=64
      ·simp only [nI] at q; omega
      ·rw [(bne_iff_ne).2 q] at h1; cases h1
     refine ⟨hs,rfl,e2,?_⟩
     cases hp:Eg p w with
     | true=>rfl
     | false=>
      unfold Cc at e2
      rw [hp] at e2
      subst e2
      cases hs
theorem Bqx {s:Aa} {w:Int} {p:Pg} (h:Av s w=(p,true)) (h5:p.2.2.2.1.size=5):
  ((Cb (F2 p) w).toList==s.toList)=((p.1==4)&&Jo (F2 p)):=by
 obtain ⟨hs,hw,hf,hp⟩:=Us h
 cases hr:Jo (F2 p) with
 | false=>
  rw [Bool.and_false]
  cases q:((Cb (F2 p) w).toList==s.toList) with
  | false=>rfl
  | true=>
   have e:=Bj1 q
   unfold Cb at e
   rw [hr] at e
   subst e
   cases hs
 | true=>
  rw [Bool.and_true]
  have hpart:Dj (F2 p).2.1 1++Dj (F2 p).2.2.1 4=p.2.2.2.1:=by
   apply Yj
   have e4:(Ah p.2.2.2.1 1 (nI p.2.2.2.1.size)).size=4:=by rw [C6 (by omega) (by simp only [nI]; omega) (by simp [nI])]; simp only [nI,h5]; decide
   have e5:Dj (Ang (Ah p.2.2.2.1 1 (nI p.2.2.2.1.size))) 4=Ah p.2.2.2.1 1 (nI p.2.2.2.1.size):=by
    have:=Bte (Ah p.2.2.2.1 1 (nI p.2.2.2.1.size))
    rw [e4] at this
    exact this
   show Af (Dj (Ap p.2.2.2.1 0) 1++Dj (Ang (Ah p.2.2.2.1 1 (nI p.2.2.2.1.size))) 4)=_
   obtain ⟨b0,b1⟩:=J7 p.2.2.2.1 0
   rw [e5,O2,M8,Axe (s:=p.2.2.2.1) (by omega)]
   show [Ap p.2.2.2.1 0 % 256]++_=_
   rw [show Ap p.2.2.2.1 0 % 256=Ap p.2.2.2.1 0 by omega]
   rfl
  have hR:Cb (F2 p) w=Cc (4,p.2.1,p.2.2.1,p.2.2.2.1,()) w:=by
   unfold Cb
   rw [hr,hpart]
   rfl
  rw [hR]
  by_cases hk:p.1=4
  ·have e:((4,p.2.1,p.2.2.1,p.2.2.2.1,()):Pg)=p:=by rw [← hk]
   rw [e,hf,hk,beq_self_eq_true]
   rfl
  ·rw [beq_eq_false_iff_ne.2 hk]
   cases q:((Cc (4,p.2.1,p.2.2.1,p.2.2.2.1,()) w).toList==s.toList) with
   | false=>rfl
   | true=>
    have e:=Bj1 q
    cases ho:Eg (4,p.2.1,p.2.2.1,p.2.2.2.1,()) w with
    | false=>
     unfold Cc at e
     rw [ho] at e
     subst e
     cases hs
    | true=>
     have r:=I4 ho
     rw [e,h] at r
     exact absurd (congrArg (fun x:Pg×Bool=>x.1.1) r) hk
theorem Bqy {a n:Int} (hn:0 < n):(a + n - 1) / n=1 + (a - n + n - 1) / n:=by
 have:a + n - 1=(a - n + n - 1) + n * 1:=by omega
 rw [this,Int.add_mul_ediv_left _ _ (by omega)]
 omega
theorem Bfa (n:Nat) (hn:1≤n):∀ (f:Nat) (s:Aa),s.size≤f→((Fa n f s).length:Int)=if ((s.size:Int) + n - 1) / n > 1 then ((s.size:Int) + n - 1) / n else 1
 | 0,s,h=>by
  have h0:s.size=0:=by omega
  simp only [Fa,h0]
  have:(((0:Nat):Int) + n - 1) / n=0:=Int.ediv_eq_zero_of_lt (by omega) (by omega)
  exact (if_neg (by rw [this]; decide)).symm
 | f + 1,s,h=>by
  by_cases q:s.size > n
  ·have hc:(Ah s n (nI s.size)).size=s.size - n:=by rw [C6 (by omega) (by simp only [nI]; omega) (by simp [nI])]; simp only [nI]; omega
   simp only [Fa,if_pos q,List.length_cons]
   have ih:=Bfa n hn f (Ah s n (nI s.size)) (by omega)
   rw [hc] at ih
   have e:=Bqy (a:=s.size) (n:=n) (by omega)
   have e2:((s.size - n:Nat):Int)=(s.size:Int) - n:=by omega
   rw [e2] at ih
   have hp:1≤((s.size:Int) - n + n - 1) / n:=by
    rw [Int.le_ediv_iff_mul_le (by omega)]
    omega
   rw [e]
   generalize ((s.size:Int) - n + n - 1) / n=y at *
   rw [if_pos (by omega)]
   split at ih<;>omega
  ·simp only [Fa,if_neg q]
   have:((s.size:Int) + n - 1) / n < 2:=by
    rw [Int.ediv_lt_iff_lt_mul (by omega)]
    omega
   exact (if_neg (by omega)).symm
theorem Aay {s:Aa} {w:Int} (hw:Bw w 1 8=true):((Ao s w).length:Int)=if ((s.size:Int) + (56 - w) - 1) / (56 - w) > 1 then ((s.size:Int) + (56 - w) - 1) / (56 - w) else 1:=by
 obtain ⟨h1,h2⟩:=Cv hw
 obtain ⟨n,hn⟩:∃ n:Nat,56 - w=(n:Int):=⟨(56 - w).toNat,by omega⟩
 unfold Ao
 rw [hn,En]
 exact Bfa n (by omega) s.size s (Nat.le_refl _)
theorem Zt (life w:Int):∀ (L:List Aa) (k:Int),J6 life w k L=(List.range' 0 L.length).map (fun i=>Cc ((if i + 1=L.length then 2 else 1),life,k + (i:Int),L.getD i z0,()) w)
 | [],k=>rfl
 | [p],k=>by
  show [Cc (2,life,k,p,()) w]=[Cc ((if 0 + 1=1 then 2 else 1),life,k + ((0:Nat):Int),p,()) w]
  rw [if_pos rfl,show k + ((0:Nat):Int)=k by omega]
 | p::q::r,k=>by
  have ih:=Zt life w (q::r) (k + 1)
  show Cc (1,life,k,p,()) w::J6 life w (k + 1) (q::r)=(List.range' 0 ((q::r).length + 1)).map (fun i=>Cc ((if i + 1=(q::r).length + 1 then 2 else 1),life,k + (i:Int),(p::q::r).getD i z0,()) w)
  rw [ih,List.range'_succ,List.map_cons]
  congr 1
  ·rw [if_neg (by rw [List.length_cons]; omega),show k + ((0:Nat):Int)=k by omega]
   rfl
  ·rw [show List.range' (0 + 1) (q::r).length=List.map (fun x=>1 + x) (List.range' 0 (q::r).length) by rw [List.map_add_range'],List.map_map]
   refine List.map_congr_left fun i _=>?_
   show _=Cc ((if 1 + i + 1=(q::r).length + 1 then 2 else 1),life,k + ((1 + i:Nat):Int),(p::q::r).getD (1 + i) z0,()) w
   rw [show k + ((1 + i:Nat):Int)=k + 1 + (i:Int) by omega,show 1 + i=i + 1 by omega]
   by_cases e:i + 1=(q::r).length
   ·rw [if_pos e,if_pos (by omega)]; rfl
   ·rw [if_neg e,if_neg (by omega)]; rfl
theorem Bfb {β:Type} (g:Nat→β):∀ k i (r:List β),iter (fun i r=>r++[g i]) k i r=r++(List.range' i k).map g
 | 0,i,r=>by simp [iter]
 | k + 1,i,r=>by
  simp only [iter]
  rw [Bfb g k (i + 1),List.range'_succ,List.map_cons,List.append_assoc]
  rfl
theorem Ajp (p:Pg) (w:Int):(Cc p w).size≤64:=by
 cases h:Eg p w with
 | true=>rw [(A8u h).1]; exact Nat.le_refl _
 | false=>unfold Cc; rw [h]; show (Ad).size≤64; decide
theorem R4 (life w:Int):∀ (L:List Aa) (k:Int),(J6 life w k L).length=L.length∧∀ x∈J6 life w k L,x.size≤64:=by
 intro L k
 rw [Zt]
 refine ⟨by simp,fun x hx=>?_⟩
 obtain ⟨i,_,rfl⟩:=List.mem_map.1 hx
 exact Ajp _ _
theorem Iw.sync {d:Dk} (h:Iw d):Iw (Be4 d):=by
 have hl:=V8 d.1 d.2.1
 have hs:Axd d.1.length (Hq d.1 d.2.1):=Aq8 (Axd d.1.length) _ d.2.1 0 d.1 (fun i s w hw hI=>hI.set (Ags (z:=zW) (P:=fun w:Wr=>w.2.1.size=64) (fun i hi=>(h.pen i hi).2.2) w hw)) ⟨rfl,h.sec⟩
 exact ⟨by show 8≤(Hq d.1 d.2.1).length; rw [hl]; exact h.n8,by show (Hq d.1 d.2.1).length≤200; rw [hl]; exact h.n200,by show (0:Nat)≤300; omega,fun i hi=>hs.2 i (by rw [← hl]; exact hi),fun i hi=>absurd hi (by show ¬ i < 0; omega)⟩
theorem Iw.op {d:Dk} (h:Iw d) (o:Dl):Iw (opS d o):=by
 unfold opS
 cases o.1 with
 | true=>exact h.sync
 | false=>
  cases hc:Anf d.1.length (o.2.1,o.2.2.1,())&&decide (d.2.1.length < 300) with
  | false=>exact h
  | true=>
   obtain ⟨h1,h2⟩:=B6 hc
   obtain ⟨q1,q2⟩:=B6 h1
   obtain ⟨q2,q3⟩:=B6 q2
   have h2:=Io h2
   refine ⟨h.n8,h.n200,by show (d.2.1++[(o.2.1,o.2.2.1,())]).length≤300; rw [Ef,Et]; omega,h.sec,fun i hi=>?_⟩
   have hi:i < d.2.1.length + 1:=by
    have hi:i < (d.2.1++[(o.2.1,o.2.2.1,())]).length:=hi
    rw [Ef,Et] at hi
    exact hi
   show 0≤((d.2.1++[(o.2.1,o.2.2.1,())]).getD i zW).1∧((d.2.1++[(o.2.1,o.2.2.1,())]).getD i zW).1 < (d.1.length:Int)∧((d.2.1++[(o.2.1,o.2.2.1,())]).getD i zW).2.1.size=64
   by_cases e:i < d.2.1.length
   ·have:(d.2.1++[(o.2.1,o.2.2.1,())]).getD i zW=d.2.1.getD i zW:=by
     rw [List.getD_eq_getElem?_getD,List.getElem?_append_left e,← List.getD_eq_getElem?_getD]
    rw [this]
    exact h.pen i e
   ·obtain rfl:i=d.2.1.length:=by omega
    have:(d.2.1++[(o.2.1,o.2.2.1,())]).getD d.2.1.length zW=(o.2.1,o.2.2.1,()):=by
     rw [List.getD_eq_getElem?_getD,List.getElem?_append_right (Nat.le_refl _),Nat.sub_self]
     rfl
    rw [this]
    exact ⟨Io q1,Io q2,Io q3⟩
theorem Iw.ops:∀ (l:List Dl) {d:Dk},Iw d→Iw (l.foldl opS d)
 | [],_,h=>h
 | o::r,_,h=>Iw.ops r (h.op o)
theorem Iw.good {d:Dk} (h:Iw d):K8 tDk d=true:=by
 show ((decide (d.1.length≤1073741824)&&List.all d.1 (fun x=>decide (ByteArray.size x≤1073741824)))&&((decide (d.2.1.length≤1073741824)&&List.all d.2.1 (fun w=>true&&(decide (ByteArray.size w.2.1≤1073741824)&&true)))&&true))=true
 have h1:List.all d.1 (fun x=>decide (ByteArray.size x≤1073741824))=true:=List.all_eq_true.2 (Ags (z:=z0) fun i hi=>Ag (by rw [h.sec i hi]; decide))
 have h2:List.all d.2.1 (fun w=>true&&(decide (ByteArray.size w.2.1≤1073741824)&&true))=true:=List.all_eq_true.2 (Ags (z:=zW) fun i hi=>by rw [(h.pen i hi).2.2]; rfl)
 rw [h1,h2,Ag (by have:=h.n200; omega),Ag (by have:=h.p300; omega)]
 rfl
theorem Anl (n:Nat):∀ (f:Nat) (s:Aa),(Fa n f s).length≤f + 1
 | 0,s=>by simp [Fa]
 | f + 1,s=>by
  unfold Fa
  split
  ·rw [List.length_cons]
   have:=Anl n f (Ah s n (nI s.size))
   omega
  ·simp
end Go.Proofs.YtfkefgbihlfjmaaGreat.V
namespace Go.Proofs
open Go.Shelf
def Tryz.lays169_ren:Go.Shelf.Ren:=⟨fun | 169=>198 | n=>n,fun | 70=>207 | 9=>9 | 0=>0 | 72=>209 | 37=>22 | 127=>252 | 3=>3 | 5=>5 | n=>n,fun | n=>n⟩
theorem Tryz.lays169:Go.Proofs.Lays.n169 Tryz.prog Tryz.lays169_ren:={
 mixed:=by kernel_rfl
 f169:=Tryz.func198.trans (congrArg some (by kernel_rfl))
 t0:=Tryz.underlying0
 a0:=Tryz.isAgg0
 z0:=Tryz.sizeOf0
 v0:=Tryz.zeroValue0
 t3:=Tryz.underlying3
 a3:=Tryz.isAgg3
 z3:=Tryz.sizeOf3
 v3:=Tryz.zeroValue3
 t9:=Tryz.underlying9
 a9:=Tryz.isAgg9
 z9:=Tryz.sizeOf9
 v9:=Tryz.zeroValue9
 t37:=Tryz.underlying22
 a37:=Tryz.isAgg22
 z37:=Tryz.sizeOf22
 v37:=Tryz.zeroValue22
 t70:=Tryz.underlying207
 a70:=Tryz.isAgg207
 z70:=Tryz.sizeOf207
 v70:=Tryz.zeroValue207
 t72:=Tryz.underlying209
 a72:=Tryz.isAgg209
 z72:=Tryz.sizeOf209
 v72:=Tryz.zeroValue209
 t127:=Tryz.underlying252
 a127:=Tryz.isAgg252
 z127:=Tryz.sizeOf252
 v127:=Tryz.zeroValue252 }
theorem Tryz.Builder_Extra_169:Builder.Extra Tryz.prog Tryz.lays169_ren:={
 sizeBuilder:=by kernel_rfl
 liesBuilder:=by kernel_rfl
 t5:=Tryz.underlying5
 a5:=Tryz.isAgg5
 z5:=Tryz.sizeOf5
 v5:=Tryz.zeroValue5
 infoByte:=by kernel_rfl
 cellsByte:=by kernel_rfl
 sizeByte:=by kernel_rfl
 neB5:=by decide }
def Tryz.lays105_ren:Go.Shelf.Ren:=⟨fun | 105=>183 | 212=>222 | 99=>223 | 165=>224 | 166=>197 | 170=>225 | 169=>198 | 263=>250 | 264=>251 | 206=>252 | 240=>227 | 241=>253 | 276=>254 | 277=>260 | n=>n,fun | 9=>9 | 3=>3 | 4=>4 | 20=>20 | 0=>0 | 46=>223 | 109=>246 | 5=>5 | 72=>209 | 76=>212 | 51=>260 | 146=>270 | 53=>226 | 148=>272 | 70=>207 | 37=>22 | 75=>211 | 127=>252 | 164=>234 | 80=>178 | n=>n,fun | n=>n⟩
theorem Tryz.lays105:Go.Proofs.Lays.n105 Tryz.prog Tryz.lays105_ren:={
 mixed:=by kernel_rfl
 f99:=Tryz.func223.trans (congrArg some (by kernel_rfl))
 f105:=Tryz.func183.trans (congrArg some (by kernel_rfl))
 f165:=Tryz.func224.trans (congrArg some (by kernel_rfl))
 f166:=Tryz.func197.trans (congrArg some (by kernel_rfl))
 f169:=Tryz.func198.trans (congrArg some (by kernel_rfl))
 f170:=Tryz.func225.trans (congrArg some (by kernel_rfl))
 f206:=Tryz.func252.trans (congrArg some (by kernel_rfl))
 f212:=Tryz.func222.trans (congrArg some (by kernel_rfl))
 f240:=Tryz.func227.trans (congrArg some (by kernel_rfl))
 f241:=Tryz.func253.trans (congrArg some (by kernel_rfl))
 f263:=Tryz.func250.trans (congrArg some (by kernel_rfl))
 f264:=Tryz.func251.trans (congrArg some (by kernel_rfl))
 f276:=Tryz.func254.trans (congrArg some (by kernel_rfl))
 f277:=Tryz.func260.trans (congrArg some (by kernel_rfl))
 t0:=Tryz.underlying0
 a0:=Tryz.isAgg0
 z0:=Tryz.sizeOf0
 v0:=Tryz.zeroValue0
 t3:=Tryz.underlying3
 a3:=Tryz.isAgg3
 z3:=Tryz.sizeOf3
 v3:=Tryz.zeroValue3
 t4:=Tryz.underlying4
 a4:=Tryz.isAgg4
 z4:=Tryz.sizeOf4
 v4:=Tryz.zeroValue4
 t5:=Tryz.underlying5
 a5:=Tryz.isAgg5
 z5:=Tryz.sizeOf5
 v5:=Tryz.zeroValue5
 t9:=Tryz.underlying9
 a9:=Tryz.isAgg9
 z9:=Tryz.sizeOf9
 v9:=Tryz.zeroValue9
 t20:=Tryz.underlying20
 a20:=Tryz.isAgg20
 z20:=Tryz.sizeOf20
 v20:=Tryz.zeroValue20
 t37:=Tryz.underlying22
 a37:=Tryz.isAgg22
 z37:=Tryz.sizeOf22
 v37:=Tryz.zeroValue22
 t46:=Tryz.underlying223
 a46:=Tryz.isAgg223
 z46:=Tryz.sizeOf223
 v46:=Tryz.zeroValue223
 t51:=Tryz.underlying260
 a51:=Tryz.isAgg260
 z51:=Tryz.sizeOf260
 v51:=Tryz.zeroValue260
 t53:=Tryz.underlying226
 a53:=Tryz.isAgg226
 z53:=Tryz.sizeOf226
 v53:=Tryz.zeroValue226
 t70:=Tryz.underlying207
 a70:=Tryz.isAgg207
 z70:=Tryz.sizeOf207
 v70:=Tryz.zeroValue207
 t72:=Tryz.underlying209
 a72:=Tryz.isAgg209
 z72:=Tryz.sizeOf209
 v72:=Tryz.zeroValue209
 t75:=Tryz.underlying211
 a75:=Tryz.isAgg211
 z75:=Tryz.sizeOf211
 v75:=Tryz.zeroValue211
 t76:=Tryz.underlying212
 a76:=Tryz.isAgg212
 z76:=Tryz.sizeOf212
 v76:=Tryz.zeroValue212
 t109:=Tryz.underlying246
 a109:=Tryz.isAgg246
 z109:=Tryz.sizeOf246
 v109:=Tryz.zeroValue246
 t127:=Tryz.underlying252
 a127:=Tryz.isAgg252
 z127:=Tryz.sizeOf252
 v127:=Tryz.zeroValue252
 t146:=Tryz.underlying270
 a146:=Tryz.isAgg270
 z146:=Tryz.sizeOf270
 v146:=Tryz.zeroValue270
 t148:=Tryz.underlying272
 a148:=Tryz.isAgg272
 z148:=Tryz.sizeOf272
 v148:=Tryz.zeroValue272
 t164:=Tryz.underlying234
 a164:=Tryz.isAgg234
 z164:=Tryz.sizeOf234
 v164:=Tryz.zeroValue234 }
theorem Tryz.Builder_Extra_105:Builder.Extra Tryz.prog Tryz.lays105_ren:={
 sizeBuilder:=by kernel_rfl
 liesBuilder:=by kernel_rfl
 t5:=Tryz.underlying5
 a5:=Tryz.isAgg5
 z5:=Tryz.sizeOf5
 v5:=Tryz.zeroValue5
 infoByte:=by kernel_rfl
 cellsByte:=by kernel_rfl
 sizeByte:=by kernel_rfl
 neB5:=by decide }
namespace YtfkefgbihlfjmaaGreat.R
open Go Go.RowKit
theorem Bvh:Bxc Tryz.prog (Tryz.lays105_ren.t 72) (Tryz.lays105_ren.f 240):=By3 { Tryz.lays105 with } Tryz.Builder_Extra_105.toX72
theorem Bvi:Bxd Tryz.prog (Tryz.lays169_ren.t 72) (Tryz.lays169_ren.t 5) (Tryz.lays169_ren.f 169):=By4 Tryz.lays169 Tryz.Builder_Extra_169
theorem Btg:Amx Tryz.prog (Tryz.lays105_ren.f 105) ⟨[.rd .str,.rd (.int .i64)],[none,none],[.rd .str],[none]⟩ (fun x=>(Afq x.1 x.2.1).bind fun r=>some ((r,()),())):=
 Bqo fun a c r h w=>by
  unfold Afq at h
  split at h
  ·rename_i hc
   cases h
   have:=Any.strings_Repeat Tryz.lays105 Tryz.Builder_Extra_105 a c.toNat w (by omega) hc.2.2
   rw [Int.toNat_of_nonneg hc.1] at this
   exact this
  ·cases h
end YtfkefgbihlfjmaaGreat.R
end Go.Proofs
namespace Go.Proofs.YtfkefgbihlfjmaaGreat.V
open Go Go.Proofs.YtfkefgbihlfjmaaGreat.R
theorem E4 {α σ E:Type} {xs:List α} (z:α) (Inv:Nat→σ→Prop) (step:Nat→α→σ→σ) {g:Nat→Int→σ→Option E} {ok:σ→E}
  (hs:∀ m (i:Nat) s,i < xs.length→Inv i s→g (m + 1) i s=g m ((i + 1:Nat):Int) (step i (xs.getD i z) s))
  (hi:∀ i s,i < xs.length→Inv i s→Inv (i + 1) (step i (xs.getD i z) s))
  (he:∀ m s,Inv xs.length s→g (m + 1) (xs.length:Int) s=some (ok s)):
  ∀ (m i:Nat) s,i≤xs.length→xs.length - i < m→Inv i s→g m i s=some (ok (C9 step i (xs.drop i) s))
 | 0,i,s,_,hm,_=>by omega
 | m + 1,i,s,hl,hm,hI=>by
  by_cases h:i < xs.length
  ·rw [hs m i s h hI,E4 z Inv step hs hi he m (i + 1) _ (by omega) (by omega) (hi i s h hI),Ld xs i z h]
   rfl
  ·have:i=xs.length:=by omega
   subst this
   rw [he _ _ hI,List.drop_length]
   rfl
theorem Bg8 (n:Nat) (h:n < 1099511627776):IntKind.wrap IntKind.i64 (nI (n + 1) - 1)=(n:Int):=by
 simp only [nI]
 rw [Aj (by omega) (by omega)]
 omega
theorem Bth (i:Nat):(Int.tmod (i:Int) 20==0)=(i % 20==0):=by
 have:Int.tmod (i:Int) 20=((i % 20:Nat):Int):=by rw [Int.tmod_eq_emod_of_nonneg (by omega)]; omega
 rw [this]
 by_cases h:i % 20=0
 ·rw [h]; rfl
 ·rw [beq_eq_false_iff_ne.2 h]
  exact beq_eq_false_iff_ne.2 (by omega)
theorem Bj6 {α:Type} (c:Bool) (xs:List α) (y:α):(w8 c xs y).length=xs.length + c.toNat:=by cases c<;>simp [w8]
def Bfc (i:Nat) (s:List (List Be)×Bool×List Be):Prop:=i≤100∧s.1.length≤i∧(0 < i→s.2.1=true)∧s.2.2.length≤i
theorem Bfc.step {i:Nat} {s:List (List Be)×Bool×List Be} (h:Bfc i s) (h1:i < 100) (p:A1):Bfc (i + 1) (Nn i p s):=by
 obtain ⟨_,h2,h3,h4⟩:=h
 unfold Nn
 cases hc:(i % 20==0)
 ·have:0 < i:=Nat.pos_of_ne_zero fun q=>by subst q; cases hc
  refine ⟨by omega,by simp only [cond_false]; omega,fun _=>h3 this,?_⟩
  simp only [cond_false,Ef,Et]
  omega
 ·refine ⟨by omega,?_,fun _=>rfl,by simp⟩
  simp only [cond_true]
  rw [Bj6]
  by_cases q:0 < i
  ·rw [h3 q]; simp; omega
  ·cases s.2.1<;>simp<;>omega
theorem Ca {s:B5} (h:Ak s=true):s.1.length≤100:=Io (B6 h).1
theorem Agv (s:Aa) (w:Int):(bif Bw w 1 8 then ((Ao s w).length:Int) else 0)=Ge s.size w:=by
 unfold Ge
 cases hw:Bw w 1 8 with
 | false=>rfl
 | true=>exact Aay hw
theorem A0w (n:Nat) (w:Int):0≤Ge n w∧Ge n w≤(n:Int) + 1:=by
 unfold Ge
 cases hw:Bw w 1 8 with
 | false=>exact ⟨Int.le_refl _,by simp only [cond_false]; omega⟩
 | true=>
  obtain ⟨h1,h2⟩:=Cv hw
  simp only [cond_true]
  have hc:w=1∨w=2∨w=3∨w=4∨w=5∨w=6∨w=7∨w=8:=by omega
  rcases hc with rfl | rfl | rfl | rfl | rfl | rfl | rfl | rfl<;>split<;>omega
theorem Bmz {b:List Be} (h:∀ c∈b,Tj c=true):(Jp b).length≤200 * b.length:=by
 induction b with
 | nil=>simp [Jp]
 | cons c r ih=>
  have h1:=(Adm (h c (by simp))).2
  have h2:=ih fun c hc=>h c (by simp [hc])
  have e:Jp (c::r)=x6 c++Jp r:=rfl
  rw [e,Ef,List.length_cons]
  omega
theorem L5 (b:List Be):(Bh b).size≤4000:=by
 unfold Bh
 cases hv:A0 b with
 | false=>exact Nat.zero_le _
 | true=>
  obtain ⟨_,h2,h3⟩:=Arb hv
  have:=Bmz h3
  show (strOfNums (Jp b)).size≤4000
  rw [D0]
  omega
theorem Aae {α σ:Type} (z:α) (Inv:Nat→σ→Prop) (step:Nat→α→σ→σ) {xs:List α} (hi:∀ i s,i < xs.length→Inv i s→Inv (i + 1) (step i (xs.getD i z) s)):
  ∀ (k i:Nat) s,i + k=xs.length→Inv i s→Inv xs.length (C9 step i (xs.drop i) s)
 | 0,i,s,h,hI=>by
  have:i=xs.length:=by omega
  subst this
  rw [List.drop_length]
  exact hI
 | k + 1,i,s,h,hI=>by
  rw [Ld xs i z (by omega)]
  exact Aae z Inv step hi k (i + 1) _ (by omega) (hi i s (by omega) hI)
theorem Vo (s:B5):(Ec s).length≤101:=by
 unfold Ec
 cases hv:Ak s with
 | false=>simp
 | true=>
  have hl:=Ca hv
  have:=Aae zP Bfc Nn (xs:=s.1) (fun i r hi hI=>hI.step (by omega) _) s.1.length 0 ([],false,[]) (by omega) ⟨by omega,by simp,fun q=>by omega,by simp⟩
  simp only [cond_true]
  rw [Bj6]
  have h1:=this.2.1
  show (A8m 0 s.1 ([],false,[])).1.length + _≤101
  have h2:(A8m 0 s.1 ([],false,[])).2.1.toNat≤1:=by cases (A8m 0 s.1 ([],false,[])).2.1<;>decide
  have h3:(A8m 0 s.1 ([],false,[])).1.length≤s.1.length:=h1
  omega
def D4 (s:B5) (w:Int):Int:=bif Bw w 1 8 then (((Ec s).map fun b=>Ge (Bh b).size w).sum) else 0
theorem Arc {α:Type} (f:α→Int):∀ (l:List α) (i:Nat) (a:Int),C9 (fun _ b a=>a + f b) i l a=a + (l.map f).sum
 | [],_,a=>by simp [C9]
 | x::r,i,a=>by
  show C9 _ (i + 1) r (a + f x)=_
  rw [Arc f r,List.map_cons,List.sum_cons]
  omega
theorem Bti {α:Type} (l:List α):(l.map fun _=>(0:Int)).sum=0:=by
 induction l with
 | nil=>rfl
 | cons x r ih=>rw [List.map_cons,List.sum_cons,ih]; rfl
theorem Bj7 (s:B5) (w:Int):((Ec s).map fun b=>Ge (Bh b).size w).sum=D4 s w:=by
 unfold D4
 cases hw:Bw w 1 8 with
 | true=>rfl
 | false=>
  have:(fun b:List Be=>Ge (Bh b).size w)=fun _=>0:=by funext b; unfold Ge; rw [hw]; rfl
  rw [this,Bti]
  rfl
def Bm0 (i:Nat) (a:Int):Prop:=i≤101∧0≤a∧a≤5000 * (i:Int)
theorem Bm0.step {i:Nat} {a:Int} (h:Bm0 i a) (hi:i < 101) (b:List Be) (w:Int):Bm0 (i + 1) (a + Ge (Bh b).size w):=by
 have h1:=A0w (Bh b).size w
 have h2:=L5 b
 obtain ⟨_,h3,h4⟩:=h
 exact ⟨by omega,by omega,by omega⟩
theorem A8v {i:Nat} {a:Int} (h:Bm0 i a) (b:List Be) (w:Int):IntKind.wrap IntKind.i64 (a + Ge (Bh b).size w)=a + Ge (Bh b).size w:=by
 have h1:=A0w (Bh b).size w
 have h2:=L5 b
 obtain ⟨_,h3,h4⟩:=h
 exact Aj (by omega) (by omega)
def Al (n:Int):Int:=bif Bw n 8 200 then (n - 2) / 2 else 0
theorem A3j {n:Int} (h1:8≤n) (h2:n≤200):IntKind.wrap IntKind.i64 (Int.tdiv (IntKind.wrap IntKind.i64 (n - 2)) 2)=(n - 2) / 2:=by
 rw [Aj (n:=n - 2) (by omega) (by omega),Int.tdiv_eq_ediv_of_nonneg (by omega)]
 exact Aj (by omega) (by omega)
theorem Ra (n:Int):0≤Al n∧Al n≤99:=by
 unfold Al
 cases h:Bw n 8 200 with
 | false=>simp only [cond_false]; omega
 | true=>
  obtain ⟨h1,h2⟩:=Cv h
  simp only [cond_true]
  omega
theorem Bm1 (n:Int):decide (0 < Al n)=Bw n 8 200:=by
 unfold Al
 cases h:Bw n 8 200 with
 | false=>rfl
 | true=>
  obtain ⟨h1,h2⟩:=Cv h
  simp only [cond_true]
  exact Ag (by omega)
def Au (s:E5):Bool:=decide (0 < Al s.2.1)&&(Bw s.1 1 8&&(Bw s.2.2.1 1 60000&&(Bw s.2.2.2.1.1 0 1000000000&&(Jo s.2.2.2.1&&(Bw s.2.2.2.1.2.2.2.1 0 60000&&(Bw s.2.2.2.2.1 0 (Al s.2.1)&&(Bw s.2.2.2.2.2.1 0 s.2.2.2.2.1&&(Ak s.2.2.2.2.2.2.1&&decide (D4 s.2.2.2.2.2.2.1 s.1≤Al s.2.1 - 1)))))))))
theorem Bvj (a b:Bool):(bif a then some ((b,()),()) else some ((false,()),()))=(some ((a&&b,()),()):Option ((Bool×Unit)×Unit)):=by cases a<;>rfl
theorem By7 (a b:Bool):(bif !a then some ((false,()),()) else some ((b,()),()))=(some ((a&&b,()),()):Option ((Bool×Unit)×Unit)):=by cases a<;>rfl
theorem Vp (n:Int):IntKind.wrap IntKind.i64 (Al n - 1)=Al n - 1:=by
 have:=Ra n
 exact Aj (by omega) (by omega)
theorem Bj8 (n:Int) (b:Bool):(bif Al n==0 then some ((false,()),()) else some ((b,()),()))=(some ((decide (0 < Al n)&&b,()),()):Option ((Bool×Unit)×Unit)):=by
 have:=Ra n
 by_cases h:Al n=0
 ·rw [h]; rfl
 ·rw [beq_eq_false_iff_ne.2 h,Ag (by omega)]; rfl
def b8:E5:=(0,0,0,(0,0,0,0,()),0,0,([],()),())
def Ada (c:Int):R0:=(c,b8,[],())
def zOp:Dl:=(false,0,⟨#[]⟩,())
def Eo:Dl:=(true,0,⟨#[]⟩,())
def L6 (at':Int) (data:Aa):Dl:=(false,at',data,())
def O4 (s:E5):R0:=bif Au s then (0,(s.1,s.2.1,s.2.2.1,s.2.2.2.1,s.2.2.2.2.1,0,s.2.2.2.2.2.2.1,()),[Eo],()) else Ada 1
theorem Zi {s:E5} (h:Au s=true):Bw s.2.1 8 200=true∧Bw s.1 1 8=true∧Ak s.2.2.2.2.2.2.1=true∧(1≤s.2.2.1∧s.2.2.1≤60000)∧(0≤s.2.2.2.1.1∧s.2.2.2.1.1≤1000000000)∧Jo s.2.2.2.1=true∧
  (0≤s.2.2.2.1.2.2.2.1∧s.2.2.2.1.2.2.2.1≤60000)∧(0≤s.2.2.2.2.1∧s.2.2.2.2.1≤Al s.2.1)∧(0≤s.2.2.2.2.2.1∧s.2.2.2.2.2.1≤s.2.2.2.2.1)∧D4 s.2.2.2.2.2.2.1 s.1≤Al s.2.1 - 1:=by
 unfold Au at h
 obtain ⟨h1,h⟩:=B6 h
 obtain ⟨h2,h⟩:=B6 h
 obtain ⟨h3,h⟩:=B6 h
 obtain ⟨h4,h⟩:=B6 h
 obtain ⟨h5,h⟩:=B6 h
 obtain ⟨h6,h⟩:=B6 h
 obtain ⟨h7,h⟩:=B6 h
 obtain ⟨h8,h⟩:=B6 h
 obtain ⟨h9,h⟩:=B6 h
 rw [Bm1] at h1
 exact ⟨h1,h2,h9,Cv h3,Cv h4,h5,Cv h6,Cv h7,Cv h8,Io h⟩
abbrev tSt:Ty:=.pair (.sl (.pair .str (.pair .str .unit))) .unit
abbrev tRt:Ty:=.pair (.int .i64) (.pair (.int .i64) (.pair (.int .i64) (.pair (.int .i64) .unit)))
abbrev By8:Ty:=.pair (.int .i64) (.pair (.int .i64) (.pair (.int .i64) (.pair tRt (.pair (.int .i64) (.pair (.int .i64) (.pair tSt .unit))))))
abbrev tOp:Ty:=.pair .bool (.pair (.int .i64) (.pair .str .unit))
abbrev Bj9:Ty:=.pair (.int .i64) (.pair By8 (.pair (.sl tOp) .unit))
theorem A4o {s:B5} (h:Ak s=true):∀ p∈s.1,1≤p.1.size∧p.1.size≤20∧p.2.1.size≤100:=fun p hp=>by
 obtain ⟨i,hi,rfl⟩:=Zs zP hp
 have:=Yi (B6 h).2 i hi
 unfold Qy at this
 obtain ⟨h1,h2⟩:=B6 this
 obtain ⟨h2,_⟩:=B6 h2
 have h3:=Cv h1
 exact ⟨by omega,by omega,Io h2⟩
theorem Aaz {s:B5} (h:Ak s=true):K8 tSt s=true:=by
 have hl:=Ca h
 show ((decide (s.1.length≤1073741824)&&List.all s.1 (K8 (.pair .str (.pair .str .unit))))&&true)=true
 rw [Ag (show s.1.length≤1073741824 by omega),Bool.true_and,Bool.and_true]
 refine List.all_eq_true.2 fun p hp=>?_
 obtain ⟨_,h1,h2⟩:=A4o h p hp
 show (decide (p.1.size≤1073741824)&&(decide (p.2.1.size≤1073741824)&&true))=true
 rw [Ag (show p.1.size≤1073741824 by omega),Ag (show p.2.1.size≤1073741824 by omega)]
 rfl
theorem Ard {c w n l u o:Int} {r:Rt} {s:B5} {ops:List Dl} (hs:K8 tSt s=true) (ho:K8 (.sl tOp) ops=true):K8 Bj9 (c,(w,n,l,r,u,o,s,()),ops,())=true:=by
 show ((K8 tSt s&&true)&&(K8 (.sl tOp) ops&&true))=true
 rw [hs,ho]
 rfl
theorem Bm2 (s:E5):K8 Bj9 (O4 s)=true:=by
 unfold O4
 cases hv:Au s with
 | false=>rfl
 | true=>exact Ard (Aaz (Zi hv).2.2.1) rfl
abbrev Yk:=Int×Int×Aa×List Aa×Int×Int
def Zu (wk wl:Int) (p:Pg):Bool:=bif decide (p.2.1 < wl) then false else bif p.1==3 then wk != 1 else bif p.1==1 || p.1==2 then wk != 1 || wl==p.2.1 else false
def C3 (i:Int) (p:Pg) (s:Yk):Yk:=
 bif p.1==1 then (1,p.2.1,s.2.2.1++p.2.2.2.1,s.2.2.2.1,s.2.2.2.2.1,s.2.2.2.2.2)
 else bif p.1==2 then (2,p.2.1,z0,s.2.2.2.1++[s.2.2.1++p.2.2.2.1],i + 1,p.2.1)
 else (p.1,p.2.1,z0,s.2.2.2.1,i + 1,p.2.1)
def Uh (s:Yk):Scd:=(s.2.2.2.1,s.2.2.2.2.1,s.2.2.2.2.2,())
def G1 (w first i:Int) (s:Yk) (x:Aa):Bool:=(Av x w).2&&(((Av x w).1.2.2.1 - i==first)&&Zu s.1 s.2.1 (Av x w).1)
def Cw (w first:Int):List Aa→Int→Yk→Scd
 | [],_,s=>Uh s
 | x::r,i,s=>bif G1 w first i s x then Cw w first r (i + 1) (C3 i (Av x w).1 s) else Uh s
def seen (d:Dk) (a:Int) (k n:Nat):List Aa:=(List.range' k n).map fun k:Nat=>Yg d (a + (k:Int))
def V9 (d:Dk) (from_ size first life w:Int):Scd:=
 bif Ar d&&(Bw w 1 8&&(decide (0≤from_)&&(decide (0≤size)&&(decide (from_≤(d.1.length:Int))&&decide (size≤(d.1.length:Int) - from_))))) then Cw w first (seen d from_ 0 size.toNat) 0 (0,life,z0,[],0,life) else ([],0,0,())
theorem Btj {d:Dk} (hd:Iw d) {a:Int} {j:Nat} (hj:j < d.1.length) (ha:a=(j:Int):=by omega):List.getD (Hq d.1 d.2.1) j (Ad)=Yg d a:=by
 subst ha
 have:=Bjv d.1 j hj d.2.1 (fun w hw=>by
  obtain ⟨i,hi,rfl⟩:=Zs zW hw
  exact (hd.pen i hi).1)
 unfold Yg
 rw [En]
 exact this
theorem A6x {x:Aa} {w:Int} {p:Pg} (h:Av x w=(p,true)):(1≤p.1∧p.1≤4)∧(1≤p.2.2.1∧p.2.2.1≤1000000000)∧p.2.2.2.1.size≤64:=by
 obtain ⟨_,_,_,h4⟩:=Us h
 obtain ⟨k1,_,k3⟩:=Ank h4
 obtain ⟨_,w1,w2,k4⟩:=Aau h4
 exact ⟨k1,k3,by omega⟩
def Ako (i:Nat) (s:Yk):Prop:=i≤200∧s.2.2.1.size≤64 * i∧s.2.2.2.1.length≤i
theorem Ako.zero (a b c l:Int):Ako 0 (a,b,z0,[],c,l):=⟨by omega,Nat.le_refl 0,Nat.le_refl 0⟩
theorem Ako.next {i:Nat} {s:Yk} {p:Pg} (h:Ako i s) (hi:i < 200) (hp:p.2.2.2.1.size≤64):Ako (i + 1) (C3 i p s):=by
 obtain ⟨_,h2,h3⟩:=h
 unfold C3
 cases (p.1==1)
 ·cases (p.1==2)
  ·exact ⟨by omega,Nat.zero_le _,by simp only [cond_false]; omega⟩
  ·refine ⟨by omega,Nat.zero_le _,?_⟩
   simp only [cond_false,cond_true,Ef,Et]
   omega
 ·refine ⟨by omega,?_,by simp only [cond_true]; omega⟩
  simp only [cond_true,ByteArray.size_append]
  omega
abbrev tSc:Ty:=.pair (.sl .str) (.pair (.int .i64) (.pair (.int .i64) .unit))
theorem A8w {l:List Aa} {n:Nat} (h1:l.length≤1000000) (h2:∀ x∈l,x.size≤n) (hn:n≤1000000):K8 (.sl .str) l=true:=by
 show (decide (l.length≤1073741824)&&List.all l (fun x=>decide (ByteArray.size x≤1073741824)))=true
 rw [Ag (by omega),Bool.true_and]
 exact List.all_eq_true.2 fun x hx=>Ag (by have:=h2 x hx; omega)
theorem A3k (w first:Int):∀ (l:List Aa) (i:Nat) (st:Yk),i + l.length≤200→Ako i st→(∀ x∈st.2.2.2.1,x.size≤12864)→K8 tSc (Cw w first l i st)=true
 | [],i,st,h,hI,he=>by
  show (K8 (.sl .str) st.2.2.2.1&&true)=true
  rw [A8w (by have:=hI.2.2; omega) he (by decide)]
  rfl
 | x::r,i,st,h,hI,he=>by
  rw [List.length_cons] at h
  unfold Cw
  cases hs:G1 w first i st x with
  | false=>
   show (K8 (.sl .str) st.2.2.2.1&&true)=true
   rw [A8w (by have:=hI.2.2; omega) he (by decide)]
   rfl
  | true=>
   obtain ⟨hr,_⟩:=B6 hs
   obtain ⟨p,ok,hR⟩:∃ p ok,Av x w=(p,ok):=⟨_,_,rfl⟩
   rw [hR] at hr
   have hr:ok=true:=hr
   subst hr
   obtain ⟨_,_,q3⟩:=A6x hR
   rw [hR]
   have hN:=hI.next (p:=p) (by omega) q3
   refine A3k w first r (i + 1) _ (by omega) hN fun y hy=>?_
   unfold C3 at hy
   cases h1:(p.1==1) with
   | true=>rw [h1] at hy; exact he y hy
   | false=>
    rw [h1] at hy
    cases h2:(p.1==2) with
    | false=>rw [h2] at hy; exact he y hy
    | true=>
     rw [h2] at hy
     simp only [cond_false,cond_true,List.mem_append,List.mem_singleton] at hy
     rcases hy with hy | rfl
     ·exact he y hy
     ·rw [ByteArray.size_append]
      have:=hI.2.1
      omega
theorem Agw (d:Dk) (a:Int) (k n:Nat):(seen d a k n).length=n:=by simp [seen]
theorem A8x (d:Dk) (f n first life w:Int):K8 tSc (V9 d f n first life w)=true:=by
 unfold V9
 cases hc:(Ar d&&(Bw w 1 8&&(decide (0≤f)&&(decide (0≤n)&&(decide (f≤(d.1.length:Int))&&decide (n≤(d.1.length:Int) - f)))))) with
 | false=>rfl
 | true=>
  obtain ⟨hv,h⟩:=B6 hc
  obtain ⟨_,h⟩:=B6 h
  obtain ⟨h1,h⟩:=B6 h
  obtain ⟨h2,h⟩:=B6 h
  obtain ⟨h3,h4⟩:=B6 h
  have h1:=Io h1
  have h2:=Io h2
  have h4:=Io h4
  have:=(Ix hv).n200
  exact A3k w first _ 0 _ (by rw [Agw]; omega) (Ako.zero _ _ _ _) (fun x hx=>by cases hx)
def Rm (s:E5):Bool:=s.1==0&&(s.2.1==0&&(s.2.2.1==0&&((s.2.2.2.1.1==0&&(s.2.2.2.1.2.1==0&&(s.2.2.2.1.2.2.1==0&&s.2.2.2.1.2.2.2.1==0)))&&(s.2.2.2.2.1==0&&(s.2.2.2.2.2.1==0&&(nI s.2.2.2.2.2.2.1.1.length==0))))))
def Ut:B5:=([],())
def Rb (w:Bg):Bool:=bif w.2.2.1 then Au w.2.2.2.1&&(w.2.2.2.1.1==w.1&&w.2.2.2.1.2.1==nI w.2.1.1.length) else Rm w.2.2.2.1
def c9 (w:Bg):Bool:=(List.range' 0 w.2.2.2.2.1.length).all fun i=>Ak (w.2.2.2.2.1.getD i Ut)
def M9 (w:Bg):Bool:=(List.range' 0 w.2.2.2.2.2.1.length).all fun i=>decide ((w.2.2.2.2.2.1.getD i z0).size=64)
def Bf (w:Bg):Bool:=Bw w.1 1 8&&(Ar w.2.1&&(Bw w.2.2.2.2.1.length 1 200&&(decide (w.2.2.2.2.2.1.length≤2000)&&(Rb w&&(c9 w&&M9 w)))))
theorem Qe {α β:Type} {x:Option α} {y:α} {f:α→Option β} {z:Option β} (h:x=some y) (k:f y=z):x.bind f=z:=by rw [h]; exact k
def C7:Int→List Aa→List Dl
 | _,[]=>[]
 | a,x::r=>L6 a x::C7 (a + 1) r
theorem Bfd (x:Aa):∀ (L:List Aa) (a:Int),C7 a (L++[x])=C7 a L++[L6 (a + (L.length:Int)) x]
 | [],a=>by show [L6 a x]=[L6 (a + (0:Int)) x]; rw [Int.add_zero]
 | y::L,a=>by
  show L6 a y::C7 (a + 1) (L++[x])=L6 a y::(C7 (a + 1) L++[L6 (a + ((L.length + 1:Nat):Int)) x])
  rw [Bfd x L (a + 1),show a + 1 + (L.length:Int)=a + ((L.length + 1:Nat):Int) by omega]
theorem Sy:∀ (L:List Aa) (a:Int),(C7 a L).length=L.length
 | [],_=>rfl
 | _::L,a=>by show (C7 (a + 1) L).length + 1=L.length + 1; rw [Sy L]
theorem Are (a:Int):∀ (L:List Aa) (i:Nat) (r:List Dl),C9 (fun (i:Nat) x r=>r++[L6 (a + (i:Int)) x]) i L r=r++C7 (a + (i:Int)) L
 | [],i,r=>(List.append_nil r).symm
 | x::L,i,r=>by
  show C9 _ (i + 1) L (r++[L6 (a + (i:Int)) x])=_
  rw [Are a L (i + 1),List.append_assoc,show a + ((i + 1:Nat):Int)=a + (i:Int) + 1 by omega]
  rfl
theorem A8y {α:Type}:∀ (L:List α) (i:Nat) (r:List α),C9 (fun (_:Nat) x r=>r++[x]) i L r=r++L
 | [],i,r=>(List.append_nil r).symm
 | x::L,i,r=>by
  show C9 _ (i + 1) L (r++[x])=_
  rw [A8y L (i + 1),List.append_assoc]
  rfl
def Bn (h n:Int):Int:=2 + h * Al n
def Bo6 (s:E5) (life:Int):Rt:=(s.2.2.2.1.1 + 1,1 - s.2.2.2.1.2.1,s.2.2.2.1.2.2.1 + Al s.2.1,life,())
def Uu (w life first:Int) (b:List Be) (L:List Aa):List Aa:=L++c7 (Bh b) life (first + (L.length:Int)) w
def mvL (s:E5) (life:Int):List Aa:=C9 (fun _ b L=>Uu s.1 life (s.2.2.2.1.2.2.1 + Al s.2.1) b L) 0 (Ec s.2.2.2.2.2.2.1) [Cc (3,life,s.2.2.2.1.2.2.1 + Al s.2.1,z0,()) s.1]
def A8z (s:E5) (life:Int):List Dl:=C7 (Bn (1 - s.2.2.2.1.2.1) s.2.1) (mvL s life)++[Eo,L6 (Int.tmod (s.2.2.2.1.1 + 1) 2) (Cb (Bo6 s life) s.1),Eo]
def Aa0 (s:E5) (life:Int):E5×List Dl×Bool:=
 bif decide (s.2.2.2.1.1 + 1 > 1000000000) then (b8,[],false) else bif decide (s.2.2.2.1.2.2.1 + Al s.2.1 > 999999000) then (b8,[],false) else
 ((s.1,s.2.1,life,Bo6 s life,nI (mvL s life).length,0,s.2.2.2.2.2.2.1,()),A8z s life,true)
def A80 (s:E5):Prop:=(0≤s.2.2.2.1.1∧s.2.2.2.1.1≤1000000000)∧(0≤s.2.2.2.1.2.1∧s.2.2.2.1.2.1≤1)∧(0≤s.2.2.2.1.2.2.1∧s.2.2.2.1.2.2.1≤1000000000)∧s.2.2.2.2.2.2.1.1.length≤1000000
instance (s:E5):Decidable (A80 s):=by unfold A80; infer_instance
theorem Arf (b:List Be) (life f w:Int):(c7 (Bh b) life f w).length≤4001:=by
 unfold c7
 cases hw:Bw w 1 8 with
 | false=>simp
 | true=>
  cases hc:(true&&(Bw life 1 60000&&(decide (1≤f)&&decide (f≤1000000000 - Ge (Bh b).size w + 1)))) with
  | false=>simp
  | true=>
   simp only [cond_true]
   rw [Zt,List.length_map,List.length_range']
   have h1:=Agv (Bh b) w
   rw [hw,cond_true] at h1
   have h2:=(A0w (Bh b).size w).2
   have h3:=L5 b
   omega
def MvI (i:Nat) (L:List Aa):Prop:=i≤101∧L.length≤1 + 4001 * i
theorem MvI.step {i:Nat} {L:List Aa} (h:MvI i L) (hi:i < 101) (w life first:Int) (b:List Be):MvI (i + 1) (Uu w life first b L):=by
 obtain ⟨h1,h2⟩:=h
 refine ⟨by omega,?_⟩
 unfold Uu
 have:=Arf b life (first + (L.length:Int)) w
 rw [Ef]
 omega
theorem A6y (s:E5) (life:Int):(mvL s life).length≤500000:=by
 have h:=Aae ([]:List Be) MvI (fun _ b L=>Uu s.1 life (s.2.2.2.1.2.2.1 + Al s.2.1) b L) (xs:=Ec s.2.2.2.2.2.2.1) (fun i L hi hI=>hI.step (Nat.lt_of_lt_of_le hi (Vo _)) _ _ _ _) (Ec s.2.2.2.2.2.2.1).length 0 [Cc (3,life,s.2.2.2.1.2.2.1 + Al s.2.1,z0,()) s.1] (by omega) ⟨by omega,by simp⟩
 have h2:=Vo s.2.2.2.2.2.2.1
 have h3:=h.2
 have h4:(mvL s life).length≤1 + 4001 * (Ec s.2.2.2.2.2.2.1).length:=h3
 omega
def Wa (s:E5):R0:=bif (Aa0 s s.2.2.1).2.2 then (0,(Aa0 s s.2.2.1).1,(Aa0 s s.2.2.1).2.1,()) else Ada 4
theorem Arg {H n:Int} (hH:0≤H∧H≤1):0≤H * Al n∧H * Al n≤99:=by
 have hh:=Ra n
 have:H=0∨H=1:=by omega
 rcases this with rfl | rfl<;>omega
theorem Bfe {s:E5} (h:Au s=true):A80 s:=by
 obtain ⟨_,_,h3,_,h5,h6,_⟩:=Zi h
 obtain ⟨r1,r2⟩:=B6 h6
 have r1:=Cv r1
 have r2:=Cv r2
 have:=Ca h3
 exact ⟨h5,r1,⟨by omega,by omega⟩,by omega⟩
def Hr (s:E5):R0:=bif Au s then Wa s else Ada 1
theorem Au1:∀ (L:List Aa) (a:Int),(∀ x∈L,x.size≤64)→∀ o∈C7 a L,o.2.2.1.size≤64
 | [],_,_,o,ho=>by cases ho
 | x::L,a,h,o,ho=>by
  rcases List.mem_cons.1 ho with rfl | q
  ·exact h x List.mem_cons_self
  ·exact Au1 L (a + 1) (fun y hy=>h y (List.mem_cons_of_mem _ hy)) o q
theorem Bvk {o:Dl} (h:o.2.2.1.size≤1073741824):K8 tOp o=true:=by
 show (true&&(true&&(decide (o.2.2.1.size≤1073741824)&&true)))=true
 rw [Ag h]
 rfl
theorem A81 {L:List Dl} (h1:L.length≤1073741824) (h2:∀ o∈L,o.2.2.1.size≤64):K8 (.sl tOp) L=true:=by
 show (decide (L.length≤1073741824)&&List.all L (K8 tOp))=true
 rw [Ag h1,Bool.true_and]
 exact List.all_eq_true.2 fun o ho=>Bvk (Nat.le_trans (h2 o ho) (by decide))
theorem Bm3 (r:Rt) (w:Int):(Cb r w).size≤64:=by
 unfold Cb
 cases Jo r with
 | false=>exact Nat.zero_le _
 | true=>exact Ajp _ _
theorem Bff {e:Aa} {life f w:Int} {x:Aa} (h:x∈c7 e life f w):x.size≤64:=by
 unfold c7 at h
 cases hc:Bw w 1 8&&(Bw life 1 60000&&(decide (1≤f)&&decide (f≤1000000000 - Ge e.size w + 1))) with
 | false=>rw [hc] at h; simp at h
 | true=>rw [hc] at h; exact (R4 _ _ _ _).2 x h
theorem Btk (s:E5) (life:Int):∀ x∈mvL s life,x.size≤64:=by
 have h:=Aae ([]:List Be) (fun _ (L:List Aa)=>∀ x∈L,x.size≤64) (fun _ b L=>Uu s.1 life (s.2.2.2.1.2.2.1 + Al s.2.1) b L) (xs:=Ec s.2.2.2.2.2.2.1) (fun i L _ hI x hx=>by
  unfold Uu at hx
  rcases List.mem_append.1 hx with q | q
  ·exact hI x q
  ·exact Bff q) (Ec s.2.2.2.2.2.2.1).length 0 [Cc (3,life,s.2.2.2.1.2.2.1 + Al s.2.1,z0,()) s.1] (by omega) (fun x hx=>by rw [List.mem_singleton.1 hx]; exact Ajp _ _)
 exact h
theorem Bm4 (s:E5) (life:Int):K8 (.sl tOp) (A8z s life)=true:=by
 have hl:=A6y s life
 have h1:(A8z s life).length=(mvL s life).length + 3:=by unfold A8z; rw [Ef,Sy]; rfl
 refine A81 (by omega) fun o ho=>?_
 unfold A8z at ho
 rcases List.mem_append.1 ho with q | q
 ·exact Au1 _ _ (Btk s life) o q
 ·simp only [List.mem_cons,List.not_mem_nil,or_false] at q
  rcases q with rfl | rfl | rfl
  ·exact Nat.zero_le _
  ·exact Bm3 _ _
  ·exact Nat.zero_le _
theorem A82 {s:E5} (h:K8 tSt s.2.2.2.2.2.2.1=true):K8 Bj9 (Wa s)=true:=by
 unfold Wa Aa0
 cases decide (s.2.2.2.1.1 + 1 > 1000000000) with
 | true=>rfl
 | false=>
  cases decide (s.2.2.2.1.2.2.1 + Al s.2.1 > 999999000) with
  | true=>rfl
  | false=>exact Ard h (Bm4 s s.2.2.1)
theorem Bg9 (s:E5):K8 Bj9 (Hr s)=true:=by
 unfold Hr
 cases hv:Au s with
 | false=>rfl
 | true=>exact A82 (Aaz (Zi hv).2.2.1)
theorem Bfg {α E:Type} {xs:List α} (z:α) (p:α→Bool) {g:Nat→Bool→Int→Option E} {ok:Bool→E}
  (hs:∀ m (i:Nat),i < xs.length→g (m + 1) true i=g m (p (xs.getD i z)) ((i + 1:Nat):Int)) (hf:∀ m (i:Nat),i≤xs.length→g (m + 1) false i=some (ok false)) (he:∀ m b,g (m + 1) b (xs.length:Int)=some (ok b)):
  ∀ (m i:Nat) (b:Bool),i≤xs.length→xs.length - i < m→g m b i=some (ok (b&&(xs.drop i).all p))
 | 0,i,b,_,hm=>by omega
 | m + 1,i,false,hl,hm=>by rw [hf m i hl]; rfl
 | m + 1,i,true,hl,hm=>by
  by_cases h:i < xs.length
  ·rw [hs m i h,Bfg z p hs hf he m (i + 1) _ (by omega) (by omega),Ld xs i z h,List.all_cons,Bool.true_and]
  ·have:i=xs.length:=by omega
   subst this
   rw [he,List.drop_length]
   rfl
def inL (ws:List Aa) (x:Aa):Bool:=ws.any fun y=>Rl y x
theorem Bo7 (x:Aa):∀ ws:List Aa,(ws.all fun y=>!Rl y x)=!inL ws x
 | []=>rfl
 | y::ws=>by
  show ((!Rl y x)&&ws.all fun y=>!Rl y x)=!(Rl y x || inL ws x)
  rw [Bo7 x ws,Bool.not_or]
theorem Bfh (x k:Aa) (v:Bool):∀ m:List (Aa×Bool),R1 x (Tk k v m)=bif Rl k x then v else R1 x m
 | []=>by simp only [Tk,R1]
 | p::m=>by
  simp only [Tk]
  cases hp:Rl p.1 k with
  | true=>
   simp only [cond_true,R1]
   rw [Fz.1 hp]
   cases Rl k x<;>rfl
  | false=>
   simp only [cond_false,R1]
   rw [Bfh x k v m]
   cases hx:Rl p.1 x with
   | false=>rfl
   | true=>
    cases hk:Rl k x with
    | false=>rfl
    | true=>rw [Fz.1 hx,Fz.1 hk,Fz.2 rfl] at hp; cases hp
theorem Bfi (x:Aa):∀ (ws:List Aa) (i:Nat) (m:List (Aa×Bool)),R1 x (C9 (fun _ y m=>Tk y true m) i ws m)=(inL ws x || R1 x m)
 | [],_,_=>rfl
 | y::ws,i,m=>by
  show R1 x (C9 (fun _ y m=>Tk y true m) (i + 1) ws (Tk y true m))=((Rl y x || inL ws x) || R1 x m)
  rw [Bfi x ws,Bfh]
  cases Rl y x<;>cases inL ws x<;>rfl
def M2 (w:Bg):Aa:=bif Bf w then M6 (fun x=>(Av x w.1).2&&!inL w.2.2.2.2.2.1 x) (fun x=>x) z0 w.2.1.1 else z0
theorem x9 {w:Bg} (h:Bf w=true):Ar w.2.1=true∧w.2.2.2.2.2.1.length≤2000∧(1≤w.2.2.2.2.1.length∧w.2.2.2.2.1.length≤200):=by
 unfold Bf at h
 obtain ⟨_,h⟩:=B6 h
 obtain ⟨h1,h⟩:=B6 h
 obtain ⟨h2,h⟩:=B6 h
 obtain ⟨h3,h⟩:=B6 h
 have h2:=Cv h2
 exact ⟨h1,Io h3,by omega⟩
theorem Iw.valid {d:Dk} (h:Iw d):Ar d=true:=by
 unfold Ar Bw
 have h8:=h.n8
 have h2:=h.n200
 rw [Ag (show (8:Int)≤(d.1.length:Int) by omega),Ag (show (d.1.length:Int)≤200 by omega),Ag h.p300]
 simp only [Bool.true_and,Bool.and_eq_true,List.all_eq_true,decide_eq_true_eq,List.mem_range']
 refine ⟨fun i hi=>h.sec i (by omega),fun i hi=>?_⟩
 obtain ⟨k1,k2,k3⟩:=h.pen i (by omega)
 unfold Anf
 rw [Ag k1,Ag k2,Ag k3]
 rfl
theorem A83:∀ x:List UInt8,Op.bytesLess x x=false
 | []=>rfl
 | a::x=>by simp [Op.bytesLess,A83 x]
theorem Bfj:∀ {x y z:List UInt8},Op.bytesLess x y=true→Op.bytesLess y z=true→Op.bytesLess x z=true
 | [],[],_,h,_=>by simp [Op.bytesLess] at h
 | [],_::_,[],_,k=>by simp [Op.bytesLess] at k
 | [],_::_,_::_,_,_=>rfl
 | _::_,[],_,h,_=>by simp [Op.bytesLess] at h
 | _::_,_::_,[],_,k=>by simp [Op.bytesLess] at k
 | a::x,b::y,c::z,h,k=>by
  simp only [Op.bytesLess,Bool.or_eq_true,decide_eq_true_eq,Bool.and_eq_true,beq_iff_eq] at h k ⊢
  rcases h with h | ⟨rfl,h⟩
  ·rcases k with k | ⟨rfl,k⟩
   ·exact .inl (UInt8.lt_trans h k)
   ·exact .inl h
  ·rcases k with k | ⟨rfl,k⟩
   ·exact .inl k
   ·exact .inr ⟨rfl,Bfj h k⟩
theorem Bo8:∀ {x y:List UInt8},Op.bytesLess x y=false→Op.bytesLess y x=false→x=y
 | [],[],_,_=>rfl
 | [],_::_,h,_=>by simp [Op.bytesLess] at h
 | _::_,[],_,k=>by simp [Op.bytesLess] at k
 | a::x,b::y,h,k=>by
  simp only [Op.bytesLess,Bool.or_eq_false_iff,decide_eq_false_iff_not,Bool.and_eq_false_iff] at h k
  have hab:a=b:=by
   apply UInt8.le_antisymm
   ·exact UInt8.not_lt.1 k.1
   ·exact UInt8.not_lt.1 h.1
  subst hab
  have h2:Op.bytesLess x y=false:=by rcases h.2 with q | q<;>simp_all
  have k2:Op.bytesLess y x=false:=by rcases k.2 with q | q<;>simp_all
  rw [Bo8 h2 k2]
theorem Agx (a:Aa):bl a a=false:=A83 _
theorem Agy {a b c:Aa} (h:bl a b=true) (k:bl b c=true):bl a c=true:=Bfj h k
theorem Bhb {a b:Aa} (h:bl a b=false) (k:bl b a=false):a=b:=Fz.1 (beq_iff_eq.2 (Bo8 h k))
theorem Btl {a b:Aa} (h:bl a b=true):a≠b:=fun q=>by rw [q,Agx] at h; cases h
def Srt (l:List A1):Prop:=l.Pairwise fun a b=>bl a.1 b.1=true
theorem A6z:∀ {l m:List A1},Srt l→Srt m→(∀ x,x∈l↔x∈m)→l=m
 | [],[],_,_,_=>rfl
 | [],b::m,_,_,h=>by have:=(h b).2 List.mem_cons_self; cases this
 | a::l,[],_,_,h=>by have:=(h a).1 List.mem_cons_self; cases this
 | a::l,b::m,hl,hm,h=>by
  obtain ⟨l1,l2⟩:=List.pairwise_cons.1 hl
  obtain ⟨m1,m2⟩:=List.pairwise_cons.1 hm
  have hab:a=b:=by
   rcases List.mem_cons.1 ((h a).1 List.mem_cons_self) with q | q
   ·exact q
   ·rcases List.mem_cons.1 ((h b).2 List.mem_cons_self) with q2 | q2
    ·exact q2.symm
    ·have:=Agy (m1 a q) (l1 b q2)
     rw [Agx] at this
     cases this
  subst hab
  rw [A6z l2 m2 fun x=>⟨fun q=>?_,fun q=>?_⟩]
  ·rcases List.mem_cons.1 ((h x).1 (List.mem_cons_of_mem _ q)) with rfl | q2
   ·have:=l1 x q; rw [Agx] at this; cases this
   ·exact q2
  ·rcases List.mem_cons.1 ((h x).2 (List.mem_cons_of_mem _ q)) with rfl | q2
   ·have:=m1 x q; rw [Agx] at this; cases this
   ·exact q2
theorem A85 (p x:A1):∀ l:List A1,x∈A4k p l↔x=p∨x∈l
 | []=>by simp [A4k]
 | q::r=>by
  simp only [A4k]
  cases ltK q p with
  | true=>simp only [cond_true,List.mem_cons,A85 p x r]; constructor<;>(rintro (h | h | h)<;>simp [h])
  | false=>simp only [cond_false,List.mem_cons]
theorem Arh (x:A1):∀ l:List A1,x∈V4 l↔x∈l
 | []=>Iff.rfl
 | p::r=>by
  show x∈A4k p (V4 r)↔_
  rw [A85,Arh x r,List.mem_cons]
theorem Bka {p:A1}:∀ {l:List A1},Srt l→(∀ q∈l,q.1≠p.1)→Srt (A4k p l)
 | [],_,_=>List.pairwise_singleton _ _
 | q::r,hl,hp=>by
  obtain ⟨l1,l2⟩:=List.pairwise_cons.1 hl
  simp only [A4k]
  cases hq:ltK q p with
  | true=>
   refine List.pairwise_cons.2 ⟨fun x hx=>?_,Bka l2 fun y hy=>hp y (List.mem_cons_of_mem _ hy)⟩
   rcases (A85 p x r).1 hx with rfl | h
   ·exact hq
   ·exact l1 x h
  | false=>
   have hpq:bl p.1 q.1=true:=by
    cases h:bl p.1 q.1 with
    | true=>rfl
    | false=>exact absurd (Bhb hq h) (hp q List.mem_cons_self)
   refine List.pairwise_cons.2 ⟨fun x hx=>?_,hl⟩
   rcases List.mem_cons.1 hx with rfl | h
   ·exact hpq
   ·exact Agy hpq (l1 x h)
theorem Np {p:A1} {r:List A1}:G0 (p::r)=true↔(∀ q∈r,q.1≠p.1)∧G0 r=true:=by
 simp only [G0,Bool.and_eq_true,Bool.not_eq_true',List.any_eq_false]
 constructor
 ·rintro ⟨h1,h2⟩
  exact ⟨fun q hq e=>h1 q hq (by rw [e]; simp),h2⟩
 ·rintro ⟨h1,h2⟩
  exact ⟨fun q hq e=>h1 q hq (Fz.1 e),h2⟩
theorem A0x:∀ {l:List A1},G0 l=true→Srt (V4 l)
 | [],_=>List.Pairwise.nil
 | p::r,h=>by
  obtain ⟨h1,h2⟩:=Np.1 h
  exact Bka (A0x h2) fun q hq=>h1 q ((Arh q r).1 hq)
abbrev Mp:=List (Aa×Aa)
def prs (m:Mp):List A1:=m.map fun p=>(p.1,p.2,())
theorem Anm {k v:Aa} (x:A1):∀ {m:Mp},G0 (prs m)=true→(x∈prs (Tk k v m)↔(x∈prs m∧x.1≠k)∨x=(k,v,()))
 | [],_=>by simp [Tk,prs]
 | p::r,h=>by
  obtain ⟨h1,h2⟩:=Np.1 (show G0 ((p.1,p.2,())::prs r)=true from h)
  simp only [Tk]
  cases hk:Rl p.1 k with
  | true=>
   have hk:=Fz.1 hk
   simp only [cond_true]
   show x∈(k,v,())::prs r↔(x∈(p.1,p.2,())::prs r∧_)∨_
   rw [List.mem_cons,List.mem_cons]
   constructor
   ·rintro (rfl | q)
    ·exact .inr rfl
    ·exact .inl ⟨.inr q,fun e=>h1 x q (by rw [e,hk])⟩
   ·rintro (⟨q | q,e⟩ | q)
    ·subst q
     exact absurd hk e
    ·exact .inr q
    ·exact .inl q
  | false=>
   have hk:p.1≠k:=fun q=>by rw [Fz.2 q] at hk; cases hk
   simp only [cond_false]
   show x∈(p.1,p.2,())::prs (Tk k v r)↔(x∈(p.1,p.2,())::prs r∧_)∨_
   rw [List.mem_cons,List.mem_cons,Anm x h2]
   constructor
   ·rintro (rfl | ⟨q,e⟩ | q)
    ·exact .inl ⟨.inl rfl,hk⟩
    ·exact .inl ⟨.inr q,e⟩
    ·exact .inr q
   ·rintro (⟨q | q,e⟩ | q)
    ·exact .inl q
    ·exact .inr (.inl ⟨q,e⟩)
    ·exact .inr (.inr q)
theorem Au2 {k v:Aa}:∀ {m:Mp},G0 (prs m)=true→G0 (prs (Tk k v m))=true
 | [],_=>rfl
 | p::r,h=>by
  obtain ⟨h1,h2⟩:=Np.1 (show G0 ((p.1,p.2,())::prs r)=true from h)
  simp only [Tk]
  cases hk:Rl p.1 k with
  | true=>
   have hk:=Fz.1 hk
   simp only [cond_true]
   exact Np.2 ⟨fun q hq=>by rw [← hk]; exact h1 q hq,h2⟩
  | false=>
   have hk:p.1≠k:=fun q=>by rw [Fz.2 q] at hk; cases hk
   simp only [cond_false]
   refine Np.2 ⟨fun q hq=>?_,Au2 h2⟩
   rcases (Anm q h2).1 hq with ⟨a,_⟩ | rfl
   ·exact h1 q a
   ·exact fun e=>hk e.symm
theorem A86 {k:Aa} (x:A1):∀ {m:Mp},G0 (prs m)=true→(x∈prs (Amz k m)↔x∈prs m∧x.1≠k)
 | [],_=>by simp [Amz,prs]
 | p::r,h=>by
  obtain ⟨h1,h2⟩:=Np.1 (show G0 ((p.1,p.2,())::prs r)=true from h)
  simp only [Amz]
  cases hk:Rl p.1 k with
  | true=>
   have hk:=Fz.1 hk
   simp only [cond_true]
   show x∈prs r↔x∈(p.1,p.2,())::prs r∧_
   rw [List.mem_cons]
   constructor
   ·intro q
    exact ⟨.inr q,fun e=>h1 x q (by rw [e,hk])⟩
   ·rintro ⟨q | q,e⟩
    ·subst q
     exact absurd hk e
    ·exact q
  | false=>
   have hk:p.1≠k:=fun q=>by rw [Fz.2 q] at hk; cases hk
   simp only [cond_false]
   show x∈(p.1,p.2,())::prs (Amz k r)↔x∈(p.1,p.2,())::prs r∧_
   rw [List.mem_cons,List.mem_cons,A86 x h2]
   constructor
   ·rintro (rfl | ⟨q,e⟩)
    ·exact ⟨.inl rfl,hk⟩
    ·exact ⟨.inr q,e⟩
   ·rintro ⟨q | q,e⟩
    ·exact .inl q
    ·exact .inr ⟨q,e⟩
theorem A87 {k:Aa}:∀ {m:Mp},G0 (prs m)=true→G0 (prs (Amz k m))=true
 | [],_=>rfl
 | p::r,h=>by
  obtain ⟨h1,h2⟩:=Np.1 (show G0 ((p.1,p.2,())::prs r)=true from h)
  simp only [Amz]
  cases hk:Rl p.1 k with
  | true=>exact h2
  | false=>
   simp only [cond_false]
   exact Np.2 ⟨fun q hq=>h1 q ((A86 q h2).1 hq).1,A87 h2⟩
def gtS (a k:Aa):Bool:=!(bl a k || a.toList==k.toList)
def Vq (k v:Aa):Bool→List A1→List A1
 | d,[]=>bif d then [] else [(k,v,())]
 | d,p::r=>bif !d&&gtS p.1 k then (k,v,())::p::Vq k v true r else bif p.1.toList==k.toList then Vq k v d r else p::Vq k v d r
def Arr (c:Be) (l:List A1):List A1:=Vq c.1 c.2.1 c.2.2.1 l
theorem Bw1 {a k:Aa} (h:gtS a k=true):bl k a=true:=by
 unfold gtS at h
 rw [Bool.not_eq_true',Bool.or_eq_false_iff] at h
 cases q:bl k a with
 | true=>rfl
 | false=>exact absurd (Bhb h.1 q) (fun e=>by rw [e] at h; simp at h)
theorem y5 {k v:Aa} (x:A1):∀ (l:List A1) (d:Bool),x∈Vq k v d l↔(x∈l∧x.1≠k)∨(d=false∧x=(k,v,()))
 | [],d=>by cases d<;>simp [Vq]
 | p::r,d=>by
  simp only [Vq]
  cases hg:!d&&gtS p.1 k with
  | true=>
   obtain ⟨hd,hg⟩:=B6 hg
   have hd:d=false:=by cases d<;>simp_all
   have hp:p.1≠k:=fun e=>Btl (Bw1 hg) e.symm
   subst hd
   simp only [cond_true,List.mem_cons,y5 x r true]
   constructor
   ·rintro (q | q | q | q)
    ·exact .inr ⟨by simp,q⟩
    ·exact .inl ⟨.inl q,by rw [q]; exact hp⟩
    ·exact .inl ⟨.inr q.1,q.2⟩
    ·cases q.1
   ·rintro (⟨q | q,e⟩ | q)
    ·exact .inr (.inl q)
    ·exact .inr (.inr (.inl ⟨q,e⟩))
    ·exact .inl q.2
  | false=>
   simp only [cond_false]
   cases he:p.1.toList==k.toList with
   | true=>
    have he:p.1=k:=Fz.1 he
    simp only [cond_true,List.mem_cons,y5 x r d]
    constructor
    ·rintro (q | q)
     ·exact .inl ⟨.inr q.1,q.2⟩
     ·exact .inr q
    ·rintro (⟨q | q,e⟩ | q)
     ·exact absurd (by rw [q]; exact he) e
     ·exact .inl ⟨q,e⟩
     ·exact .inr q
   | false=>
    have he:p.1≠k:=fun q=>by rw [show (p.1.toList==k.toList)=true from Fz.2 q] at he; cases he
    simp only [cond_false,List.mem_cons,y5 x r d]
    constructor
    ·rintro (q | q | q)
     ·exact .inl ⟨.inl q,by rw [q]; exact he⟩
     ·exact .inl ⟨.inr q.1,q.2⟩
     ·exact .inr q
    ·rintro (⟨q | q,e⟩ | q)
     ·exact .inl q
     ·exact .inr (.inl ⟨q,e⟩)
     ·exact .inr (.inr q)
theorem Ajq {k v:Aa}:∀ (l:List A1) (d:Bool),Srt l→Srt (Vq k v d l)
 | [],d,_=>by cases d<;>simp [Vq,Srt]
 | p::r,d,h=>by
  obtain ⟨h1,h2⟩:=List.pairwise_cons.1 h
  simp only [Vq]
  cases hg:!d&&gtS p.1 k with
  | true=>
   obtain ⟨hd,hg⟩:=B6 hg
   have hkp:=Bw1 hg
   simp only [cond_true]
   have hall:∀ x∈Vq k v true r,x∈r:=fun x hx=>by
    rcases (y5 x r true).1 hx with q | q
    ·exact q.1
    ·cases q.1
   refine List.pairwise_cons.2 ⟨fun x hx=>?_,List.pairwise_cons.2 ⟨fun x hx=>h1 x (hall x hx),Ajq r true h2⟩⟩
   rcases List.mem_cons.1 hx with rfl | q
   ·exact hkp
   ·exact Agy hkp (h1 x (hall x q))
  | false=>
   simp only [cond_false]
   cases he:p.1.toList==k.toList with
   | true=>exact Ajq r d h2
   | false=>
    simp only [cond_false]
    refine List.pairwise_cons.2 ⟨fun x hx=>?_,Ajq r d h2⟩
    rcases (y5 x r d).1 hx with q | ⟨hd,rfl⟩
    ·exact h1 x q.1
    ·subst hd
     have hn:gtS p.1 k=false:=by simpa using hg
     unfold gtS at hn
     rw [he,Bool.or_false,Bool.not_eq_false'] at hn
     exact hn
def A3l (c:Be) (m:Mp):Mp:=bif c.2.2.1 then Amz c.1 m else Tk c.1 c.2.1 m
def Ars (m:Mp) (l:List A1):Prop:=G0 (prs m)=true∧Srt l∧∀ x,x∈prs m↔x∈l
theorem Ars.step {m:Mp} {l:List A1} (h:Ars m l) (c:Be):Ars (A3l c m) (Arr c l):=by
 obtain ⟨h1,h2,h3⟩:=h
 unfold A3l Arr
 cases hc:c.2.2.1 with
 | true=>
  refine ⟨A87 h1,Ajq _ _ h2,fun x=>?_⟩
  simp only [cond_true]
  rw [A86 x h1,y5,h3]
  simp
 | false=>
  refine ⟨Au2 h1,Ajq _ _ h2,fun x=>?_⟩
  simp only [cond_false]
  rw [Anm x h1,y5,h3]
  simp
theorem Ars.sort {m:Mp} {l ys:List A1} (h:Ars m l) (hn:G0 ys=true) (hy:∀ x,x∈ys↔x∈prs m):V4 ys=l:=
 A6z (A0x hn) h.2.1 fun x=>by rw [Arh,hy,h.2.2]
theorem Ars.len {m:Mp} {l:List A1} (h:Ars m l):m.length=l.length:=by
 have:=congrArg List.length (h.sort h.1 fun _=>Iff.rfl)
 rw [Agn] at this
 simpa [prs] using this
def Rn (l:List A1) (b:List Be):List A1:=C9 (fun _ c l=>Arr c l) 0 b l
def B7 (s:B5) (b:List Be):B5×Int:=
 bif !Ak s then (Ut,1) else bif !A0 b then (Ut,1) else bif decide ((Rn s.1 b).length > 100) then (Ut,2) else ((Rn s.1 b,()),0)
theorem Ars.fold:∀ {b:List Be} {i:Nat} {m:Mp} {l:List A1},Ars m l→Ars (C9 (fun _ c m=>A3l c m) i b m) (C9 (fun _ c l=>Arr c l) i b l)
 | [],_,_,_,h=>h
 | c::b,i,m,l,h=>Ars.fold (b:=b) (i:=i + 1) (h.step c)
def A88 (l:List A1):Mp:=C9 (fun _ p m=>Tk p.1 p.2.1 m) 0 l []
theorem Bo9:∀ {l:List A1} {i:Nat} {m:Mp},G0 (prs m)=true→Srt l→(∀ p∈l,∀ x∈prs m,x.1≠p.1)→
  G0 (prs (C9 (fun _ p m=>Tk p.1 p.2.1 m) i l m))=true∧∀ x,x∈prs (C9 (fun _ p m=>Tk p.1 p.2.1 m) i l m)↔x∈prs m∨x∈l
 | [],_,m,h,_,_=>⟨h,fun x=>by simp [C9]⟩
 | p::r,i,m,h,hs,hk=>by
  obtain ⟨s1,s2⟩:=List.pairwise_cons.1 hs
  obtain ⟨k1,k2⟩:=Bo9 (l:=r) (i:=i + 1) (m:=Tk p.1 p.2.1 m) (Au2 h) s2 (fun q hq x hx=>by
   rcases (Anm x h).1 hx with ⟨a,_⟩ | rfl
   ·exact hk q (List.mem_cons_of_mem _ hq) x a
   ·exact Btl (s1 q hq))
  refine ⟨k1,fun x=>(k2 x).trans ?_⟩
  rw [Anm x h,List.mem_cons]
  constructor
  ·rintro ((⟨a,_⟩ | a) | a)
   ·exact .inl a
   ·exact .inr (.inl a)
   ·exact .inr (.inr a)
  ·rintro (a | a | a)
   ·exact .inl (.inl ⟨a,hk p List.mem_cons_self x a⟩)
   ·exact .inl (.inr a)
   ·exact .inr a
theorem Ars.init {l:List A1} (h:Srt l):Ars (A88 l) l:=by
 obtain ⟨h1,h2⟩:=Bo9 (l:=l) (i:=0) (m:=[]) rfl h (fun _ _ x hx=>by cases hx)
 exact ⟨h1,h,fun x=>(h2 x).trans (by simp [prs])⟩
theorem Btm:∀ {l:List A1},(∀ i,i + 1 < l.length→bl (l.getD i zP).1 (l.getD (i + 1) zP).1=true)→Srt l
 | [],_=>List.Pairwise.nil
 | [p],_=>List.pairwise_singleton _ _
 | p::q::r,h=>by
  have hr:Srt (q::r):=Btm fun i hi=>h (i + 1) (by simp only [List.length_cons] at hi ⊢; omega)
  have h0:bl p.1 q.1=true:=h 0 (by simp)
  refine List.pairwise_cons.2 ⟨fun x hx=>?_,hr⟩
  rcases List.mem_cons.1 hx with rfl | hx
  ·exact h0
  ·exact Agy h0 ((List.pairwise_cons.1 hr).1 x hx)
theorem Ari {s:B5} (h:Ak s=true):Srt s.1:=Btm fun i hi=>by
 have:=Yi (B6 h).2 (i + 1) hi
 unfold Qy at this
 obtain ⟨_,this⟩:=B6 this
 obtain ⟨_,this⟩:=B6 this
 simpa using this
theorem A89 {α:Type}:∀ {l:List α} {i:Nat} {e:α},l[i]? = some e→(e::l.eraseIdx i).Perm l
 | [],i,e,h=>by simp at h
 | a::l,0,e,h=>by simp at h; subst h; exact List.Perm.refl _
 | a::l,i + 1,e,h=>by
  simp only [List.getElem?_cons_succ] at h
  simp only [List.eraseIdx_cons_succ]
  exact (List.Perm.swap a e _).trans ((A89 h).cons a)
theorem Ajr:∀ {l:List A1},G0 l=true↔(l.map (·.1)).Nodup
 | []=>by simp [G0]
 | p::r=>by
  rw [Np,List.map_cons,List.nodup_cons,Ajr (l:=r)]
  constructor
  ·rintro ⟨h1,h2⟩
   exact ⟨fun q=>by obtain ⟨x,hx,e⟩:=List.mem_map.1 q; exact h1 x hx e,h2⟩
  ·rintro ⟨h1,h2⟩
   exact ⟨fun q hq e=>h1 (List.mem_map.2 ⟨q,hq,e⟩),h2⟩
theorem Ann {l m:List A1} (h:l.Perm m) (hn:G0 l=true):G0 m=true:=Ajr.2 (((h.map (·.1)).nodup_iff).1 (Ajr.1 hn))
theorem Btn {R:Type} (M:Mp) (l0:List A1) (hM:Ars M l0) (hlen:M.length≤100) {D:Type} (mk:Mp→Option (Aa×Aa)→List A1→D) {left:D→Mp} {stp:D→Aa×Aa→Mp→Option D} {fin:D→Option R} {res:R}
  (hl:∀ l c r,left (mk l c r)=l) (hs:∀ l c r e l',r.length < 1000→stp (mk l c r) e l'=some (mk l' (some e) (r++[(e.1,e.2,())])))
  (hf:∀ c r,G0 r=true→r.length≤1000→V4 r=l0→fin (mk [] c r)=some res):
  ∀ (n:Nat) (l:Mp) (c:Option (Aa×Aa)) (r:List A1),l.length=n→(r++prs l).Perm (prs M)→A4m left stp fin (n + 1) (mk l c r) res
 | 0,l,c,r,hn,hp=>by
  have:l=[]:=List.length_eq_zero_iff.1 hn
  subst this
  have hp':r.Perm (prs M):=by simpa [prs] using hp
  have hl2:=hp'.length_eq
  refine ⟨fun _=>hf c r (Ann hp'.symm hM.1) ?_ (hM.sort (Ann hp'.symm hM.1) fun x=>hp'.mem_iff),fun i e he=>?_⟩
  ·rw [hl2]; simp only [prs,List.length_map]; omega
  ·rw [hl] at he; simp at he
 | n + 1,l,c,r,hn,hp=>by
  refine ⟨fun q=>?_,fun i e he=>?_⟩
  ·rw [hl] at q; rw [q] at hn; cases hn
  ·rw [hl] at he
   have hq:=A89 he
   have hr:r.length < 1000:=by
    have:=hp.length_eq
    simp only [prs,Ef,List.length_map] at this
    omega
   refine ⟨mk (l.eraseIdx i) (some e) (r++[(e.1,e.2,())]),by rw [hs l c r e _ hr,hl],?_⟩
   refine Btn M l0 hM hlen mk hl hs hf n (l.eraseIdx i) (some e) (r++[(e.1,e.2,())]) ?_ ?_
   ·have:=hq.length_eq
    simp only [List.length_cons] at this
    omega
   ·refine List.Perm.trans ?_ hp
    rw [List.append_assoc]
    exact List.Perm.append_left r (hq.map fun p:Aa×Aa=>((p.1,p.2,()):A1))
def Aa1 (k v:Aa) (p:A1) (s:Bool×List A1):Bool×List A1:=
 bif !s.1&&gtS p.1 k then (true,bif !(p.1.toList==k.toList) then s.2++[(k,v,())]++[(p.1,p.2.1,())] else s.2++[(k,v,())])
 else (s.1,bif !(p.1.toList==k.toList) then s.2++[(p.1,p.2.1,())] else s.2)
def Bkb (k v:Aa) (s:Bool×List A1):List A1:=bif s.1 then s.2 else s.2++[(k,v,())]
theorem Bpa (k v:Aa):∀ (l:List A1) (i:Nat) (s:Bool×List A1),Bkb k v (C9 (fun _ p s=>Aa1 k v p s) i l s)=s.2++Vq k v s.1 l
 | [],i,s=>by
  show Bkb k v s=_
  unfold Bkb Vq
  cases s.1<;>simp
 | p::r,i,s=>by
  show Bkb k v (C9 (fun _ p s=>Aa1 k v p s) (i + 1) r (Aa1 k v p s))=_
  rw [Bpa k v r (i + 1)]
  unfold Aa1
  simp only [Vq]
  cases hg:!s.1&&gtS p.1 k with
  | true=>
   obtain ⟨_,h2⟩:=B6 hg
   have he:(p.1.toList==k.toList)=false:=by
    unfold gtS at h2
    rw [Bool.not_eq_true',Bool.or_eq_false_iff] at h2
    exact h2.2
   rw [he]
   simp only [cond_true,Bool.not_false]
   rw [List.append_assoc,List.append_assoc]
   rfl
  | false=>
   simp only [cond_false]
   cases he:p.1.toList==k.toList with
   | true=>rfl
   | false=>
    simp only [cond_true,cond_false,Bool.not_false]
    rw [List.append_assoc]
    rfl
theorem A9a (k v:Aa) (p:A1) (s:Bool×List A1):(Aa1 k v p s).2.length≤s.2.length + 2:=by
 unfold Aa1
 cases !s.1&&gtS p.1 k<;>cases !(p.1.toList==k.toList)<;>simp
theorem Bvl (c:Be) (l:List A1):(Arr c l).length≤l.length + 1:=by
 unfold Arr
 generalize c.2.2.1=d
 induction l generalizing d with
 | nil=>cases d<;>simp [Vq]
 | cons p r ih=>
  simp only [Vq]
  have ht:∀ r:List A1,(Vq c.1 c.2.1 true r).length≤r.length:=fun r=>by
   induction r with
   | nil=>simp [Vq]
   | cons q r ih2=>
    simp only [Vq,Bool.not_true,Bool.false_and,cond_false]
    cases q.1.toList==c.1.toList with
    | true=>simp only [cond_true,List.length_cons]; omega
    | false=>simp only [cond_false,List.length_cons]; omega
  cases !d&&gtS p.1 c.1 with
  | true=>simp only [cond_true,List.length_cons]; have:=ht r; omega
  | false=>
   simp only [cond_false]
   cases p.1.toList==c.1.toList with
   | true=>simp only [cond_true,List.length_cons]; have:=ih d; omega
   | false=>simp only [cond_false,List.length_cons]; have:=ih d; omega
theorem A3m {q:A1→Prop}:∀ {b:List Be} {i:Nat} {l:List A1},(∀ x∈l,q x)→(∀ c∈b,q (c.1,c.2.1,()))→∀ x∈C9 (fun _ c l=>Arr c l) i b l,q x
 | [],_,_,h,_=>h
 | c::b,i,l,h,hb=>A3m (b:=b) (i:=i + 1) (fun x hx=>by
  rcases (y5 x l c.2.2.1).1 hx with q1 | q1
  ·exact h x q1.1
  ·rw [q1.2]; exact hb c List.mem_cons_self) (fun c' hc'=>hb c' (List.mem_cons_of_mem _ hc'))
def Bvm (x:A1):Prop:=Vn x.1=true∧x.2.1.size≤100
theorem Bkc {l:List A1} (hl:l.length≤100) (hm:∀ x∈l,Bvm x) (hs:Srt l):Ak (l,())=true:=by
 unfold Ak
 rw [Ag (show (l,()).1.length≤100 from hl),Bool.true_and]
 refine List.all_eq_true.2 fun i hi=>?_
 have hi:i < l.length:=by simpa [List.mem_range'] using hi
 have hx:l.getD i zP=l[i]:=by simp [hi]
 obtain ⟨h1,h2⟩:=hm l[i] (List.getElem_mem hi)
 show Qy l i=true
 unfold Qy
 rw [hx,h1,Ag h2,Bool.true_and,Bool.true_and]
 cases i with
 | zero=>rfl
 | succ i=>
  have hx2:l.getD i zP=l[i]:=by simp [show i < l.length by omega]
  have:=(List.pairwise_iff_getElem.1 hs) i (i + 1) (by omega) hi (Nat.lt_succ_self i)
  show ((i + 1==0) || bl (l.getD (i + 1 - 1) zP).1 l[i + 1].1)=true
  rw [show i + 1 - 1=i from rfl,hx2,this,Bool.or_true]
theorem Arj {s:B5} (h:Ak s=true):∀ x∈s.1,Bvm x:=fun x hx=>by
 obtain ⟨i,hi,rfl⟩:=Zs zP hx
 have:=Yi (B6 h).2 i hi
 unfold Qy at this
 obtain ⟨h1,h2⟩:=B6 this
 exact ⟨h1,Io (B6 h2).1⟩
theorem Bvn {b:List Be} (h:A0 b=true):∀ c∈b,Bvm (c.1,c.2.1,()):=fun c hc=>by
 obtain ⟨i,hi,rfl⟩:=Zs zC hc
 have:=(Zh h).2 i hi
 unfold Tj at this
 obtain ⟨h1,h2⟩:=B6 this
 exact ⟨h1,Io (B6 h2).1⟩
theorem Bkd:∀ {b:List Be} {i:Nat} {l:List A1},Srt l→Srt (C9 (fun _ c l=>Arr c l) i b l)
 | [],_,_,h=>h
 | c::b,i,l,h=>Bkd (b:=b) (i:=i + 1) (Ajq _ _ h)
theorem Adn (s:B5) (b:List Be):Ak (B7 s b).1=true:=by
 unfold B7
 cases hv:Ak s with
 | false=>rfl
 | true=>
  cases hb:A0 b with
  | false=>rfl
  | true=>
   simp only [Bool.not_true,cond_false]
   by_cases q:(Rn s.1 b).length > 100
   ·rw [Ag q]; rfl
   ·rw [Bd q]
    exact Bkc (by omega) (A3m (Arj hv) (Bvn hb)) (Bkd (Ari hv))
theorem Bm5 (s:B5) (b:List Be):K8 tSt (B7 s b).1=true:=Aaz (Adn s b)
def Gn (s:E5) (b:List Be):List Aa:=c7 (Bh b) s.2.2.1 (s.2.2.2.1.2.2.1 + s.2.2.2.2.1) s.1
def Es (s:E5) (b:List Be):R0:=
 bif !Au s then Ada 1 else bif !A0 b then Ada 1 else
 bif (B7 s.2.2.2.2.2.2.1 b).2 != 0 then Ada 2 else
 bif decide (D4 (B7 s.2.2.2.2.2.2.1 b).1 s.1 > Al s.2.1 - 1) then Ada 3 else
 bif decide (nI (Gn s b).length > Al s.2.1 - s.2.2.2.2.1) then Ada 4 else
 (0,(s.1,s.2.1,s.2.2.1,s.2.2.2.1,s.2.2.2.2.1 + nI (Gn s b).length,s.2.2.2.2.2.1 + nI (Gn s b).length,(B7 s.2.2.2.2.2.2.1 b).1,()),C7 (Bn s.2.2.2.1.2.1 s.2.1 + s.2.2.2.2.1) (Gn s b),())
theorem Bke (s:E5) (b:List Be):K8 Bj9 (Es s b)=true:=by
 unfold Es
 cases Au s with
 | false=>rfl
 | true=>
  cases A0 b with
  | false=>rfl
  | true=>
   simp only [Bool.not_true,cond_false]
   cases (B7 s.2.2.2.2.2.2.1 b).2 != 0 with
   | true=>rfl
   | false=>
    simp only [cond_false]
    cases decide (D4 (B7 s.2.2.2.2.2.2.1 b).1 s.1 > Al s.2.1 - 1) with
    | true=>rfl
    | false=>
     simp only [cond_false]
     cases decide (nI (Gn s b).length > Al s.2.1 - s.2.2.2.2.1) with
     | true=>rfl
     | false=>
      refine Ard (Bm5 _ _) (A81 ?_ (Au1 _ _ fun x hx=>Bff hx))
      have:=Arf b s.2.2.1 (s.2.2.2.1.2.2.1 + s.2.2.2.2.1) s.1
      rw [Sy]
      unfold Gn
      omega
theorem A9b {s:B5} {b:List Be} (hv:Ak s=true) (hb:A0 b=true):(B7 s b).2=0∨(B7 s b).2=2:=by
 unfold B7
 rw [hv,hb]
 simp only [Bool.not_true,cond_false]
 cases decide ((Rn s.1 b).length > 100) with
 | true=>exact .inr rfl
 | false=>exact .inl rfl
theorem Bvo (s:B5) (w:Int):0≤D4 s w∧D4 s w≤600000:=by
 unfold D4
 cases hw:Bw w 1 8 with
 | false=>simp
 | true=>
  have h:=Aae ([]:List Be) Bm0 (fun _ b a=>a + Ge (Bh b).size w) (xs:=Ec s) (fun i a hi hI=>hI.step (Nat.lt_of_lt_of_le hi (Vo s)) _ _) (Ec s).length 0 0 (by omega) ⟨by omega,by omega,by omega⟩
  rw [List.drop_zero,Arc] at h
  obtain ⟨h1,h2,h3⟩:=h
  have:=Vo s
  simp only [cond_true]
  omega
open Go Go.RowKit Go.Shelf Go.Lib Go.Sort Go.Proofs.YtfkefgbihlfjmaaGreat.R
def Le (x:A1):List Value:=[.string x.1,.string x.2.1]
theorem Byn {w:World} {S:Nat→Prop} {x:A1} {l:List Value}:prT.K w S x l↔l=Le x:=by
 constructor
 ·rintro ⟨c1,c2,rfl,h1,c3,c4,rfl,h2,h3⟩
  have h1:c1=[.string x.1]:=h1
  have h2:c3=[.string x.2.1]:=h2
  have h3:c4=[]:=h3
  subst h1 h2 h3
  rfl
 ·rintro rfl
  exact ⟨[.string x.1],[.string x.2.1],rfl,rfl,[.string x.2.1],[],rfl,rfl,rfl⟩
theorem Bpb {w:World} {S:Nat→Prop}:∀ {xs:List A1} {cs:List Value},cs.length=xs.length * 2→(∀ (i:Nat) (x:A1),xs[i]? = some x→prT.K w S x ((cs.drop (i * 2)).take 2))→cs=xs.flatMap Le
 | [],cs,h,_=>List.length_eq_zero_iff.1 (by simpa using h)
 | x::xs,[],h1,_=>by simp at h1
 | x::xs,[_],h1,_=>by simp at h1; omega
 | x::xs,u::v::cs,h1,h2=>by
  have h0:=Byn.1 (h2 0 x rfl)
  have h0:[u,v]=Le x:=by simpa using h0
  have ih:=Bpb (w:=w) (S:=S) (xs:=xs) (cs:=cs) (by simp at h1; omega) (fun i y hy=>by
   have:=h2 (i + 1) y hy
   rw [show (i + 1) * 2=i * 2 + 2 by omega] at this
   simpa using this)
  show u::v::cs=Le x++xs.flatMap Le
  rw [← h0,← ih]
  rfl
theorem Bto {w:World} {S:Nat→Prop} {xs:List A1} {cs:List Value} (h:L3 w S prT xs cs):cs=xs.flatMap Le:=Bpb (w:=w) (S:=S) h.1 h.2
theorem A60:∀ xs:List A1,(xs.flatMap Le).length=xs.length * 2
 | []=>rfl
 | x::xs=>by
  show (Le x++xs.flatMap Le).length=_
  rw [Ef,A60 xs,List.length_cons]
  show 2 + xs.length * 2=_
  omega
theorem Bm6:∀ {xs:List A1} {i:Nat} {x:A1},xs[i]? = some x→((xs.flatMap Le).drop (i * 2)).take 2=Le x
 | [],i,x,h=>by simp at h
 | y::xs,0,x,h=>by
  simp at h
  subst h
  rfl
 | y::xs,i + 1,x,h=>by
  simp only [List.getElem?_cons_succ] at h
  have ih:=Bm6 h
  rw [show (i + 1) * 2=i * 2 + 2 by omega]
  exact ih
theorem Bkf {w:World} {S:Nat→Prop} {xs:List A1}:L3 w S prT xs (xs.flatMap Le):=⟨A60 xs,fun i x hx=>by
 have:((xs.flatMap Le).drop (i * 2)).take 2=Le x:=Bm6 hx
 exact Byn.2 this⟩
instance:Inhabited A1:=⟨zP⟩
theorem Bvp:SWO ltK where
 irrefl x:=Agx x.1
 trans x y z h k:=Agy (a:=x.1) (b:=y.1) (c:=z.1) h k
 ntrans x y z h k:=by
  cases q:ltK x z with
  | false=>rfl
  | true=>
   have h:bl x.1 y.1=false:=h
   have k:bl y.1 z.1=false:=k
   have q:bl x.1 z.1=true:=q
   cases hy:bl y.1 x.1 with
   | true=>rw [Agy hy q] at k; cases k
   | false=>rw [Bhb h hy] at q; rw [q] at k; cases k
theorem Bfk (d:Array A1):(flatK Le 2 d).toList=d.toList.flatMap Le:=by
 apply List.ext_getElem?
 intro t
 by_cases ht:t < d.size * 2
 ·have h1:(flatK Le 2 d)[t]! = (Le d[t / 2]!)[t % 2]! := get_flatK _ _ _ t ht
  have hi:t / 2 < d.size:=by omega
  have hx:d.toList[t / 2]? = some d[t / 2]! := by simp [hi]
  have h2:=Bm6 hx
  have h3:(d.toList.flatMap Le)[t]? = (Le d[t / 2]!)[t % 2]? := by
   rw [← h2,List.getElem?_take,if_pos (by omega),List.getElem?_drop,show t / 2 * 2 + t % 2=t by omega]
  rw [h3,Array.getElem?_toList]
  have hs:t < (flatK Le 2 d).size:=by rw [size_flatK]; exact ht
  rw [getElem!_pos _ t hs] at h1
  rw [Array.getElem?_eq_getElem hs,h1]
  have:t % 2 < (Le d[t / 2]!).length:=by show t % 2 < 2; omega
  rw [List.getElem?_eq_getElem this,getElem!_pos (Le d[t / 2]!) (t % 2) this]
 ·have a1:(flatK Le 2 d).toList[t]? = none:=List.getElem?_eq_none (by rw [Array.length_toList,size_flatK]; omega)
  have a2:(d.toList.flatMap Le)[t]? = none:=List.getElem?_eq_none (by rw [A60,Array.length_toList]; omega)
  rw [a1,a2]
theorem Btp (cur F:Array Value) (h:F.size≤cur.size):(putCells id 0 F cur).toList.take F.size=F.toList:=by
 apply List.ext_getElem?
 intro t
 rw [List.getElem?_take]
 split
 ·rename_i ht
  rw [Array.getElem?_toList,Array.getElem?_toList]
  simp [putCells,ht,show t < cur.size by omega]
 ·rename_i ht
  rw [List.getElem?_eq_none (by rw [Array.length_toList]; omega)]
theorem Bkg {d':Array A1} (h:SortedIn ltK 0 d'.size d') (hn:G0 d'.toList=true):Srt d'.toList:=by
 refine List.pairwise_iff_getElem.2 fun i j hi hj hij=>?_
 have hi':i < d'.size:=by simpa using hi
 have hj':j < d'.size:=by simpa using hj
 have h1:bl d'[j]!.1 d'[i]!.1=false:=h i j (Nat.zero_le _) hij hj'
 have e1:d'.toList[i]=d'[i]! := by simp [hi']
 have e2:d'.toList[j]=d'[j]! := by simp [hj']
 rw [e1,e2]
 cases q:bl d'[i]!.1 d'[j]!.1 with
 | true=>rfl
 | false=>
  have hk:d'[i]!.1=d'[j]!.1:=Bhb q h1
  have hnd:=Ajr.1 hn
  have:=(List.pairwise_iff_getElem.1 hnd) i j (by simpa using hi') (by simpa using hj') hij
  simp only [List.getElem_map] at this
  rw [e1,e2] at this
  exact absurd hk this
def Btq (P:Program) (fc:FuncId):Prop:=∀ (blk off c bs size:Nat) (W:World) (G:Nat→Aa),W.cell? ⟨bs,0,none⟩=some (.slice (some ⟨blk,off,none⟩) size c)→
 (∀ t,t < size→W.cell? ⟨blk,off + t * 2,none⟩=some (.string (G t)))→∀ i j:Nat,i < size→j < size→size < 4611686018427387904→
  Calls P fc #[.int .i64 i,.int .i64 j,.pointer (some ⟨bs,0,none⟩)] W fun e w'=>e=.returned (.bool (Op.bytesLess (G i).toList (G j).toList))∧∃ q,w'=W.drewN q
theorem Btr {d d':Array A1} (h:PermIn 0 d.size d d'):d'.toList.Perm d.toList:=by
 obtain ⟨h1,_,h3⟩:=h
 rw [Array.extract_size] at h3
 rw [← h1,Array.extract_size] at h3
 exact h3
theorem Bm7 {P:Program} {ρ:Ren} (L:LaysGg.n6 P ρ) {fc:FuncId} {BT U e:TypeId} {i ie:TypeInfo} (hi:P.info? U=some i) (hd:i.desc=.slice e) (hpk:P.packed U=false) (hie:P.info? e=some ie) (ke:Nat) (hke:∀ w,(Extern.Rtype.kind e).run P w=.ok ke w)
  (hs1:ie.size=2) (hagg:∀ w,(isAgg e).run P w=.ok true w) (eg:∀ args w,(callFunc fc args).run P w=.ok (.enter fc args) w) (f f0 f1:Nat)
  (hf : ∀ n, 2 ≤ n → P.funcs.findIdx? (·.name == "internal/reflectlite" ++ ".Swapper$" ++ toString (swapperK n ie ke)) = some f)
  (hf0 : P.funcs.findIdx? (·.name == "internal/reflectlite" ++ ".Swapper$" ++ toString (swapperK 0 ie ke)) = some f0)
  (hf1 : P.funcs.findIdx? (·.name == "internal/reflectlite" ++ ".Swapper$" ++ toString (swapperK 1 ie ke)) = some f1)
  (gS:Bool) (hx:∀ args W,(callFunc f args).run P W=((Extern.ReflectliteSwapper.swap gS args).run P W).andThen fun v w'=>.ok (.value v) w') (hclo:Btq P fc):Bgr P (ρ.f 6) fc BT U e:=by
 intro w b v xs cs hnd hlen hb hbox ho hrep hne
 have hcs:=Bto hrep
 subst hcs
 have grow_keep:∀ (w1:World) (os:Array Obj) (k:Nat),k < w1.heap.size→(grow w1 os).heap[k]? = w1.heap[k]? := fun w1 os k hk=>by simp [grow,Array.getElem?_append,hk]
 have tiny : ∀ (p : Option Addr) (c f' : Nat), v = .slice p xs.length c → xs.length ≤ 1 → P.funcs.findIdx? (·.name == "internal/reflectlite" ++ ".Swapper$" ++ toString (swapperK xs.length ie ke)) = some f' →
   Calls P (ρ.f 6) #[.iface U v,.func (.func fc) #[] #[.pointer (some ⟨b,0,none⟩)]] w fun en w'=>en=.returned (.tuple #[])∧Fb v.ownBlock.toList w w'∧∃ cs',w'.ownsRow 0 e 2 v xs.length cs'∧∀ S,L3 w' S prT (V4 xs) cs':=by
  intro p c f' hv h1 hf'
  subst hv
  refine (Any.sort_Slice_tiny L U e i ie hi hd hpk hie ke hke p xs.length c h1 f' hf' (.func fc) #[] #[.pointer (some ⟨b,0,none⟩)] w).mono ?_
  rintro en w' ⟨rfl,os,rfl⟩
  refine ⟨rfl,⟨rfl,rfl,rfl,by simp [grow],fun k hk _=>grow_keep w os k hk⟩,xs.flatMap Le,?_,?_⟩
  ·obtain ⟨h2,h3⟩:=ho
   refine ⟨h2,?_⟩
   rcases h3 with h3 | ⟨g,cap,cur,q1,q2,q3,q4⟩
   ·exact .inl h3
   ·refine .inr ⟨g,cap,cur,q1,q2,?_,q4⟩
    rw [grow_keep w os g (Array.getElem?_eq_some_iff.1 q3).1]
    exact q3
  ·intro S
   have:V4 xs=xs:=by
    match xs,h1 with
    | [],_=>rfl
    | [x],_=>rfl
   rw [this]
   exact Bkf
 by_cases h2:2≤xs.length
 ·obtain ⟨hl,hv⟩:=ho
  rcases hv with ⟨_,hv⟩ | ⟨g,cap,cur,hv,_,hg,hcap,hmax,hsz,htake⟩
  ·omega
  subst hv
  have hbg:b≠g:=fun q=>hne (by rw [q]; rfl)
  have hgl:g < w.heap.size:=(Array.getElem?_eq_some_iff.1 hg).1
  let d:Array A1:=xs.toArray
  have hds:d.size=xs.length:=by simp [d]
  have hfl:(flatK Le 2 d).toList=xs.flatMap Le:=by rw [Bfk]
  have hfs:(flatK Le 2 d).size=xs.length * 2:=by rw [size_flatK,hds]
  have hcur:xs.length * 2≤cur.size:=by rw [hsz]; exact Nat.mul_le_mul_right 2 hcap
  have hH:HoldsK Le 2 w g 0 d:=by
   intro j hj
   rw [hfs] at hj
   have e1:(flatK Le 2 d).toList[j]? = cur.toList[j]? := by rw [hfl,← htake,List.getElem?_take,if_pos hj]
   rw [Array.getElem?_toList,Array.getElem?_toList] at e1
   refine ⟨?_,?_⟩
   ·unfold World.cell?
    simp only [hg,Nat.zero_add]
    rw [if_neg (by simp),← e1,Array.getElem?_eq_getElem (by rw [hfs]; exact hj)]
    rw [getElem!_pos _ j (by rw [hfs]; exact hj)]
    rfl
   ·unfold World.frozen?
    simp [hg]
  have hBs:w.cell? ⟨b,0,none⟩=some (.slice (some ⟨g,0,none⟩) d.size cap):=by
   unfold World.cell?
   simp only [hbox]
   rw [hds]
   rfl
  have hless:LessReadsK P fc #[.pointer (some ⟨b,0,none⟩)] Le 2 ltK g 0 d.size w:=by
   intro m os dk hs i j hi hj
   have e:sortWorldK Le 2 w g 0 m dk os=putRowK Le 2 (grow (Sort.ahead w m) os) g 0 dk:=by
    unfold sortWorldK; rw [putRowK_grow _ _ (Sort.ahead w m) _ g 0 _ hgl]
   have hHg:HoldsK Le 2 (grow (Sort.ahead w m) os) g 0 d:=holdsK_grow _ _ _ _ g 0 d hgl (holdsK_ahead _ _ _ _ _ _ _ hH)
   refine hclo g 0 cap b d.size _ (fun t=>dk[t]!.1) ?_ (fun t ht=>?_) i j hi hj (by omega)
   ·rw [e,cell?_putRowK_other _ _ _ g 0 dk _ (by exact hbg),cell?_grow _ _ _ (by exact hb)]; exact hBs
   ·rw [e]; exact ((holdsK_putRowK _ _ _ g 0 d dk hHg hs).cell (i:=t) (c:=0) (by omega) (by omega)).1
  rw [← hds]
  refine (Any.sort_Slice_cells_sorted L U e i ie hi hd hpk hie ke hke Le 2 (fun _=>rfl) hs1 hagg (fun x v hv=>by simp [Le] at hv; rcases hv with rfl | rfl<;>rfl) ltK Bvp fc #[.pointer (some ⟨b,0,none⟩)] eg g 0 cap d (by omega) (by omega) f (hf _ (by omega)) gS hx w hless hH hgl).mono ?_
  rintro en w' ⟨rfl,d',n,os,hp,hsd,rfl⟩
  have hd's:d'.size=d.size:=hp.1
  have hperm:=Btr hp
  have hnd':G0 d'.toList=true:=Ann hperm.symm (by simpa [d] using hnd)
  have hsrt:d'.toList=V4 xs:=A6z (Bkg (by rw [hd's]; exact hsd) hnd') (A0x hnd) fun x=>by
   rw [Arh,hperm.mem_iff]
  have hfs':(flatK Le 2 d').size=xs.length * 2:=by rw [size_flatK,hd's,hds]
  have hblk:(putRowK Le 2 (Sort.ahead w n) g 0 d').heap[g]? = some (.cells (putCells id 0 (flatK Le 2 d') cur) e (0,0)):=by
   unfold putRowK putRow mapBlock
   show (w.heap.modify g _)[g]? = _
   rw [Array.getElem?_modify,if_pos rfl,hg]
   rfl
  have hoth:∀ k,k≠g→(putRowK Le 2 (Sort.ahead w n) g 0 d').heap[k]? = w.heap[k]? := fun k hk=>by
   unfold putRowK putRow mapBlock
   show (w.heap.modify g _)[k]? = _
   rw [Array.getElem?_modify,if_neg (fun q=>hk q.symm)]
  have hsize:(putRowK Le 2 (Sort.ahead w n) g 0 d').heap.size=w.heap.size:=by rw [size_putRowK]; rfl
  refine ⟨rfl,⟨rfl,rfl,rfl,by rw [show (grow (putRowK Le 2 (Sort.ahead w n) g 0 d') os).heap=(putRowK Le 2 (Sort.ahead w n) g 0 d').heap++os from rfl,Array.size_append,hsize]; omega,fun k hk hn=>?_⟩,(V4 xs).flatMap Le,⟨?_,.inr ⟨g,cap,putCells id 0 (flatK Le 2 d') cur,by rw [hds],Nat.zero_le _,?_,by rw [hds]; exact hcap,hmax,by simp [putCells,hsz],?_⟩⟩,fun S=>Bkf⟩
  ·rw [grow_keep _ os k (by rw [hsize]; exact hk)]
   exact hoth k (fun q=>hn (by rw [q]; simp [Value.ownBlock]))
  ·rw [A60,Agn,hds]
  ·rw [grow_keep _ os g (by rw [hsize]; exact hgl)]
   exact hblk
  ·rw [hds,← hsrt,← Bfk,← hfs']
   exact Btp cur (flatK Le 2 d') (by rw [hfs']; exact hcur)
 ·obtain ⟨hl,hv⟩:=ho
  have h1:xs.length=0∨xs.length=1:=by omega
  have ho':w.ownsRow 0 e 2 v xs.length (xs.flatMap Le):=⟨hl,hv⟩
  have hf' : ∃ f', P.funcs.findIdx? (·.name == "internal/reflectlite" ++ ".Swapper$" ++ toString (swapperK xs.length ie ke)) = some f' := by
   rcases h1 with h1 | h1<;>rw [h1]
   ·exact ⟨f0,hf0⟩
   ·exact ⟨f1,hf1⟩
  obtain ⟨f',hf'⟩:=hf'
  rcases hv with ⟨hv,h0⟩ | ⟨g,cap,cur,hv,_⟩
  ·exact tiny none 0 f' (by rw [hv,h0]) (by omega) hf'
  ·exact tiny (some ⟨g,0,none⟩) cap f' hv (by omega) hf'
def Bhc (r:Rt):Prop:=(0≤r.1∧r.1≤1000000000)∧(0≤r.2.1∧r.2.1≤1)∧(1≤r.2.2.1∧r.2.2.1≤999999000)∧(0≤r.2.2.2.1∧r.2.2.2.1≤60000)
theorem A0y {x:Aa} {w:Int} {p:Pg} (h:Av x w=(p,true)):1≤p.2.1∧p.2.1≤60000:=by
 obtain ⟨_,_,_,h4⟩:=Us h
 unfold Eg at h4
 obtain ⟨_,h4⟩:=B6 h4
 obtain ⟨_,h4⟩:=B6 h4
 exact Cv (B6 h4).1
theorem A3n {s:Aa} {w a:Int} {best:Rt} (h:Bhc best):Bhc (Hy s w a best):=by
 unfold Hy
 cases hc:(Av s w).2&&((Av s w).1.1==4)&&decide ((Av s w).1.2.2.2.1.size=5)&&((Av s w).1.2.2.1 % 2==a)&&Jo (F2 (Av s w).1)&&decide ((Av s w).1.2.2.1 > best.1) with
 | false=>exact h
 | true=>
  simp only [Bool.and_eq_true] at hc
  obtain ⟨⟨⟨⟨⟨h1,_⟩,_⟩,_⟩,h5⟩,_⟩:=hc
  have hp:Av s w=((Av s w).1,true):=by rw [← h1]
  obtain ⟨_,hn,_⟩:=A6x hp
  have hl:=A0y hp
  obtain ⟨r1,r2⟩:=B6 h5
  have r1:=Cv r1
  have r2:=Cv r2
  simp only [cond_true]
  exact ⟨⟨by show 0≤(Av s w).1.2.2.1; omega,hn.2⟩,r1,r2,⟨by show 0≤(Av s w).1.2.1; omega,hl.2⟩⟩
theorem Vr {d:Dk} {w:Int} (h:Ar d=true) (hw:Bw w 1 8=true):Bhc (Aw d w):=by
 unfold Aw
 rw [h,hw]
 exact A3n (A3n ⟨⟨by decide,by decide⟩,⟨by decide,by decide⟩,⟨by decide,by decide⟩,by decide,by decide⟩)
theorem Bfl (w first:Int):∀ (l:List Aa) (i:Int) (st:Yk),0≤i→(0≤st.2.2.2.2.1∧st.2.2.2.2.1≤i)→(0≤st.2.2.2.2.2∧st.2.2.2.2.2≤60000)→
  (0≤(Cw w first l i st).2.1∧(Cw w first l i st).2.1≤i + l.length)∧(0≤(Cw w first l i st).2.2.1∧(Cw w first l i st).2.2.1≤60000)
 | [],i,st,h0,h1,h2=>⟨⟨h1.1,by show st.2.2.2.2.1≤i + ((0:Nat):Int); omega⟩,h2⟩
 | x::l,i,st,h0,h1,h2=>by
  unfold Cw
  cases hc:G1 w first i st x with
  | false=>exact ⟨⟨h1.1,by show st.2.2.2.2.1≤i + ((l.length + 1:Nat):Int); omega⟩,h2⟩
  | true=>
   simp only [cond_true]
   unfold G1 at hc
   have hp:Av x w=((Av x w).1,true):=by rw [← (B6 hc).1]
   have hl:=A0y hp
   have:=Bfl w first l (i + 1) (C3 i (Av x w).1 st) (by omega) (by
    unfold C3
    cases (Av x w).1.1==1<;>cases (Av x w).1.1==2<;>simp only [cond_true,cond_false]<;>omega) (by
    unfold C3
    cases (Av x w).1.1==1<;>cases (Av x w).1.1==2<;>simp only [cond_true,cond_false]<;>omega)
   refine ⟨⟨this.1.1,?_⟩,this.2⟩
   have h3:=this.1.2
   simp only [List.length_cons]
   omega
theorem Bkh (d:Dk) (f n first life w:Int) (hn:0≤n) (hl:0≤life∧life≤60000):(0≤(V9 d f n first life w).2.1∧(V9 d f n first life w).2.1≤n)∧(0≤(V9 d f n first life w).2.2.1∧(V9 d f n first life w).2.2.1≤60000):=by
 unfold V9
 cases hc:Ar d&&(Bw w 1 8&&(decide (0≤f)&&(decide (0≤n)&&(decide (f≤(d.1.length:Int))&&decide (n≤(d.1.length:Int) - f))))) with
 | false=>exact ⟨⟨Int.le_refl 0,hn⟩,Int.le_refl 0,show (0:Int)≤60000 by omega⟩
 | true=>
  simp only [cond_true]
  have:=Bfl w first (seen d f 0 n.toNat) 0 (0,life,z0,[],0,life) (by omega) ⟨by show (0:Int)≤0; omega,by show (0:Int)≤0; omega⟩ hl
  rw [Agw] at this
  exact ⟨⟨this.1.1,by have:=this.1.2; omega⟩,this.2⟩
def E8:List Aa→B5→Option B5
 | [],s=>some s
 | e::r,s=>bif (Hv e).2 then (bif (B7 s (Hv e).1).2==0 then E8 r (B7 s (Hv e).1).1 else none) else none
theorem Sz:∀ {l:List Aa} {s st:B5},Ak s=true→E8 l s=some st→Ak st=true
 | [],s,st,h,e=>by cases e; exact h
 | x::r,s,st,h,e=>by
  unfold E8 at e
  cases h1:(Hv x).2 with
  | false=>rw [h1] at e; cases e
  | true=>
   rw [h1] at e
   simp only [cond_true] at e
   cases h2:(B7 s (Hv x).1).2==0 with
   | false=>rw [h2] at e; cases e
   | true=>
    rw [h2] at e
    exact Sz (Adn s (Hv x).1) e
def Ado (d:Dk) (w:Int) (r:Rt) (x:Scd) (st:B5):R0:=
 bif decide (x.2.2.1 + 1 > 60000) then Ada 3 else bif decide (D4 st w > Al d.1.length - 1) then Ada 4 else
 bif decide (x.2.1 < Al d.1.length) then (0,(w,nI d.1.length,x.2.2.1 + 1,r,x.2.1 + 1,0,st,()),[L6 (Bn r.2.1 d.1.length + x.2.1) (Cc (3,x.2.2.1 + 1,r.2.2.1 + x.2.1,z0,()) w),Eo],())
 else Wa (w,nI d.1.length,x.2.2.1 + 1,r,x.2.1,0,st,())
def F3 (d:Dk) (w:Int):Scd:=V9 d (Bn (Aw d w).2.1 d.1.length) (Al d.1.length) (Aw d w).2.2.1 (Aw d w).2.2.2.1 w
def Oo (d:Dk) (w:Int):R0:=
 bif !Ar d then Ada 1 else bif !Bw w 1 8 then Ada 1 else
 match E8 (F3 d w).1 Ut with
 | none=>Ada 2
 | some st=>Ado d w (Aw d w) (F3 d w) st
theorem Bhd {d:Dk} {w:Int} {r:Rt} {x:Scd} {st:B5} (h:x.2.2.1 + 1 > 60000):Ado d w r x st=Ada 3:=by unfold Ado; rw [Ag h]; rfl
theorem Bhe {d:Dk} {w:Int} {r:Rt} {x:Scd} {st:B5} (h:¬ x.2.2.1 + 1 > 60000) (h2:D4 st w > Al d.1.length - 1):Ado d w r x st=Ada 4:=by unfold Ado; rw [Bd h,Ag h2]; rfl
theorem A61 {d:Dk} {w:Int} {r:Rt} {x:Scd} {st:B5} (h:¬ x.2.2.1 + 1 > 60000) (h2:¬ D4 st w > Al d.1.length - 1) (h3:x.2.1 < Al d.1.length):Ado d w r x st=(0,(w,nI d.1.length,x.2.2.1 + 1,r,x.2.1 + 1,0,st,()),[L6 (Bn r.2.1 d.1.length + x.2.1) (Cc (3,x.2.2.1 + 1,r.2.2.1 + x.2.1,z0,()) w),Eo],()):=by unfold Ado; rw [Bd h,Bd h2,Ag h3]; rfl
theorem A62 {d:Dk} {w:Int} {r:Rt} {x:Scd} {st:B5} (h:¬ x.2.2.1 + 1 > 60000) (h2:¬ D4 st w > Al d.1.length - 1) (h3:¬ x.2.1 < Al d.1.length):Ado d w r x st=Wa (w,nI d.1.length,x.2.2.1 + 1,r,x.2.1,0,st,()):=by unfold Ado; rw [Bd h,Bd h2,Bd h3]; rfl
theorem Bm8 {d:Dk} {w:Int} {r:Rt} {x:Scd} {st:B5} (h:Ak st=true):K8 Bj9 (Ado d w r x st)=true:=by
 unfold Ado
 cases decide (x.2.2.1 + 1 > 60000) with
 | true=>rfl
 | false=>
  cases decide (D4 st w > Al d.1.length - 1) with
  | true=>rfl
  | false=>
   simp only [cond_false]
   cases decide (x.2.1 < Al d.1.length) with
   | true=>
    refine Ard (Aaz h) (A81 (show 2≤1073741824 by omega) fun o ho=>?_)
    simp only [List.mem_cons,List.not_mem_nil,or_false] at ho
    rcases ho with rfl | rfl
    ·exact Ajp _ _
    ·exact Nat.zero_le _
   | false=>exact A82 (Aaz h)
theorem Bq0 (d:Dk) (w:Int):K8 Bj9 (Oo d w)=true:=by
 unfold Oo
 cases Ar d with
 | false=>rfl
 | true=>
  cases Bw w 1 8 with
  | false=>rfl
  | true=>
   simp only [Bool.not_true,cond_false]
   cases ho:E8 (F3 d w).1 Ut with
   | none=>rfl
   | some st=>exact Bm8 (Sz rfl ho)
theorem A3o {s:E5} (h:Ak s.2.2.2.2.2.2.1=true):Ak (Wa s).2.1.2.2.2.2.2.2.1=true:=by
 unfold Wa Aa0
 cases decide (s.2.2.2.1.1 + 1 > 1000000000) with
 | true=>rfl
 | false=>
  cases decide (s.2.2.2.1.2.2.1 + Al s.2.1 > 999999000) with
  | true=>rfl
  | false=>exact h
theorem Bki {d:Dk} {w:Int} {r:Rt} {x:Scd} {st:B5} (h:Ak st=true):Ak (Ado d w r x st).2.1.2.2.2.2.2.2.1=true:=by
 unfold Ado
 cases decide (x.2.2.1 + 1 > 60000) with
 | true=>rfl
 | false=>
  cases decide (D4 st w > Al d.1.length - 1) with
  | true=>rfl
  | false=>
   simp only [cond_false]
   cases decide (x.2.1 < Al d.1.length) with
   | true=>exact h
   | false=>exact A3o h
theorem Bm9 (d:Dk) (w:Int):Ak (Oo d w).2.1.2.2.2.2.2.2.1=true:=by
 unfold Oo
 cases Ar d with
 | false=>rfl
 | true=>
  cases Bw w 1 8 with
  | false=>rfl
  | true=>
   simp only [Bool.not_true,cond_false]
   cases ho:E8 (F3 d w).1 Ut with
   | none=>rfl
   | some st=>exact Bki (Sz rfl ho)
def L7 (w:Bg):B5×Int:=bif !Bf w then (Ut,1) else ((Oo (w.2.1.1,[],()) w.1).2.1.2.2.2.2.2.2.1,(Oo (w.2.1.1,[],()) w.1).1)
def Akp (a b:B5):Bool:=eqL (fun x y:A1=>eqB Ax x y) a.1 b.1
def A9c (w:Bg):Bool:=bif (L7 w).2 != 0 then false else w.2.2.2.2.1.any fun p=>Akp p (L7 w).1
theorem Bkj {w:Bg} (h:((L7 w).2 != 0)=false):Bf w=true:=by
 cases hv:Bf w with
 | true=>rfl
 | false=>
  unfold L7 at h
  rw [hv] at h
  cases h
theorem Bna {w:Bg} (h:Bf w=true) {i:Nat} (hi:i < w.2.2.2.2.1.length):Ak (w.2.2.2.2.1.getD i Ut)=true:=by
 unfold Bf at h
 obtain ⟨_,h⟩:=B6 h
 obtain ⟨_,h⟩:=B6 h
 obtain ⟨_,h⟩:=B6 h
 obtain ⟨_,h⟩:=B6 h
 obtain ⟨_,h⟩:=B6 h
 exact List.all_eq_true.1 (B6 h).1 i (List.mem_range'_1.2 ⟨Nat.zero_le _,by omega⟩)
theorem Bkk {α E:Type} {xs:List α} (z:α) (p:α→Bool) {g:Nat→Int→Option E} {ok bad:E}
  (hs:∀ m (i:Nat),i < xs.length→g (m + 1) i=bif p (xs.getD i z) then some bad else g m ((i + 1:Nat):Int)) (he:∀ m,g (m + 1) (xs.length:Int)=some ok):
  ∀ (m i:Nat),i≤xs.length→xs.length - i < m→g m i=some (bif (xs.drop i).any p then bad else ok)
 | 0,i,hi,hm=>by omega
 | m + 1,i,hi,hm=>by
  by_cases h:i < xs.length
  ·rw [hs m i h,Ld xs i z h,List.any_cons]
   cases p (xs.getD i z) with
   | true=>rfl
   | false=>rw [cond_false,Bool.false_or,Bkk z p hs he m (i + 1) (by omega) (by omega)]
  ·have:i=xs.length:=by omega
   subst this
   rw [he,List.drop_length]
   rfl
theorem A0z {E:Type} {xs:List Aa} {g:Nat→Int→List A1→Option E} {ok:List A1→E} {bad:E}
  (hs:∀ m (i:Nat) r,i < xs.length→g (m + 1) i r=bif !(Hv (xs.getD i z0)).2 then some bad else bif (B7 (r,()) (Hv (xs.getD i z0)).1).2 != 0 then some bad else g m ((i + 1:Nat):Int) (B7 (r,()) (Hv (xs.getD i z0)).1).1.1)
  (he:∀ m r,g (m + 1) (xs.length:Int) r=some (ok r)):
  ∀ (m i:Nat) (r:List A1),i≤xs.length→xs.length - i < m→g m i r=some (match E8 (xs.drop i) (r,()) with
   | some st=>ok st.1
   | none=>bad)
 | 0,i,r,_,hm=>by omega
 | m + 1,i,r,hl,hm=>by
  by_cases h:i < xs.length
  ·rw [hs m i r h,Ld xs i z0 h,A0z hs he m (i + 1) _ (by omega) (by omega)]
   simp only [E8]
   cases (Hv (xs.getD i z0)).2 with
   | false=>rfl
   | true=>
    simp only [Bool.not_true,cond_false,cond_true]
    by_cases hc:(B7 (r,()) (Hv (xs.getD i z0)).1).2=0
    ·rw [hc]; rfl
    ·rw [show ((B7 (r,()) (Hv (xs.getD i z0)).1).2 != 0)=true from bne_iff_ne.2 hc,show ((B7 (r,()) (Hv (xs.getD i z0)).1).2==0)=false from beq_eq_false_iff_ne.2 hc]
     rfl
  ·have:i=xs.length:=by omega
   subst this
   rw [he,List.drop_length]
   rfl
def Bpc (es:List Aa):B5×Bool:=match E8 es Ut with
 | some st=>(st,true)
 | none=>(Ut,false)
def As {α:Type} (o:Option α) (Q:α→Prop):Prop:=∃ a,o=some a∧Q a
theorem As.bind {α β:Type} {o:Option α} {f:α→Option β} {Q:α→Prop} {S:β→Prop} (h:As o Q) (k:∀ a,Q a→As (f a) S):As (o.bind f) S:=by
 obtain ⟨a,e,q⟩:=h
 rw [e]
 exact k a q
theorem As.cond {α:Type} {c:Bool} {x y:Option α} {Q:α→Prop} (h1:c=true→As x Q) (h2:c=false→As y Q):As (bif c then x else y) Q:=by
 cases c
 ·exact h2 rfl
 ·exact h1 rfl
theorem As.go {α:Type} {c:Bool} {x y:Option α} {Q:α→Prop} (h:c=true) (k:As x Q):As (bif c then x else y) Q:=by
 rw [h]
 exact k
theorem As.no {α:Type} {c:Bool} {x y:Option α} {Q:α→Prop} (h:c=false) (k:As y Q):As (bif c then x else y) Q:=by
 rw [h]
 exact k
theorem As.some {α:Type} {a:α} {Q:α→Prop} (h:Q a):As (Option.some a) Q:=⟨a,rfl,h⟩
theorem As.mono {α:Type} {o:Option α} {Q S:α→Prop} (h:As o Q) (k:∀ a,Q a→S a):As o S:=by
 obtain ⟨a,e,q⟩:=h
 exact ⟨a,e,k a q⟩
theorem As.sum {α β γ:Type} {f:α→Option γ} {g:β→Option γ} {o:α ⊕ β} {Q:γ→Prop} (h1:∀ a,o=.inl a→As (f a) Q) (h2:∀ b,o=.inr b→As (g b) Q):As (Bx f g o) Q:=by
 cases o with
 | inl a=>exact h1 a rfl
 | inr b=>exact h2 b rfl
theorem As.loop {σ E:Type} {g:Nat→σ→Option E} (I:Nat→σ→Prop) {Q:E→Prop} (step:∀ m k s,I k s→(∀ k' s',k' < k→I k' s'→As (g m s') Q)→As (g (m + 1) s) Q):
  ∀ (m k:Nat) (s:σ),k < m→I k s→As (g m s) Q
 | 0,k,s,h,_=>by omega
 | m + 1,k,s,h,hI=>step m k s hI fun k' s' h' hI'=>As.loop I step m k' s' (by omega) hI'
abbrev Rd:=List Int×Int×Unit
def rdB (b:List Int):Bool:=decide (b.length≤2000)&&b.all fun x=>decide (0≤x)&&decide (x < 256)
def RdK (k:Nat) (r:Rd):Prop:=rdB r.1=true∧0≤r.2.1∧r.2.1≤(k:Int)
theorem RdK.mono {k k':Nat} {r:Rd} (h:RdK k r) (hk:k≤k'):RdK k' r:=⟨h.1,h.2.1,by have:=h.2.2; omega⟩
theorem Bnb {b:List Int} (h:rdB b=true) (i:Nat):0≤b.getD i 0∧b.getD i 0 < 256:=by
 unfold rdB at h
 simp only [Bool.and_eq_true,decide_eq_true_eq,List.all_eq_true] at h
 by_cases hi:i < b.length
 ·rw [List.getD_eq_getElem?_getD,List.getElem?_eq_getElem hi,Option.getD_some]
  exact h.2 _ (List.getElem_mem hi)
 ·rw [List.getD_eq_getElem?_getD,List.getElem?_eq_none (by omega)]
  exact ⟨Int.le_refl 0,by decide⟩
theorem Bnc {α:Type} {l:List α} {d:α} {v:Int} {Q:α→Prop} (h:∀ x∈l,Q x) (h0:0≤v) (h1:v < nI l.length):Q (l.getD v.toNat d):=by
 simp only [nI] at h1
 have hi:v.toNat < l.length:=by omega
 rw [List.getD_eq_getElem?_getD,List.getElem?_eq_getElem hi,Option.getD_some]
 exact h _ (List.getElem_mem hi)
theorem A63 {s:Aa} {i j:Int} (h0:0≤i) (h1:i≤j) (h2:j≤(s.size:Int)):((Ah s i j).size:Int)=j - i:=by
 rw [C6 h0 h1 h2]
 omega
theorem A64 {x n:Int} (h0:0≤x) (hn:1≤n):0≤x.tmod n∧x.tmod n < n:=by
 rw [Int.tmod_eq_emod_of_nonneg h0]
 exact ⟨Int.emod_nonneg _ (by omega),Int.emod_lt_of_pos _ (by omega)⟩
theorem Bq1 {x y:Int} (hx:0≤x) (hx':x < 4611686018427387904) (hy:0≤y) (hy':y < 4611686018427387904):
  0≤IntKind.i64.wrap (nI (BitVec.ofInt 64 x ^^^ BitVec.ofInt 64 y).toNat):=by
 obtain ⟨a,rfl⟩:∃ a:Nat,x=(a:Int):=⟨x.toNat,by omega⟩
 obtain ⟨b,rfl⟩:∃ b:Nat,y=(b:Int):=⟨y.toNat,by omega⟩
 have h:(BitVec.ofInt 64 (a:Int) ^^^ BitVec.ofInt 64 (b:Int)).toNat < 4611686018427387904:=by
  rw [BitVec.toNat_xor,BitVec.ofInt_natCast,BitVec.ofInt_natCast,BitVec.toNat_ofNat,BitVec.toNat_ofNat,Nat.mod_eq_of_lt (by omega),Nat.mod_eq_of_lt (by omega)]
  exact Nat.xor_lt_two_pow (n:=62) (by omega) (by omega)
 simp only [nI]
 rw [Aj (by omega) (by omega)]
 omega
theorem As.letter {α:Type} {A:Aa} {v:Int} {x:Option α} {S:α→Prop} (v0:0≤v) (v1:v < nI A.size) (k:(Ah (Ah A v (nI A.size)) 0 1).size=1→As x S):
  As (bif decide (0≤v) then bif decide (v≤nI A.size) then bif decide (1≤nI (Ah A v (nI A.size)).size) then x else none else none else none) S:=by
 have e1:=A63 (s:=A) v0 (show v≤nI A.size by omega) (Int.le_refl _)
 have e2:=A63 (s:=Ah A v (nI A.size)) (i:=0) (j:=1) (by omega) (by omega) (by simp only [nI] at *; omega)
 exact As.go (Ag v0) (As.go (Ag (Int.le_of_lt v1)) (As.go (Ag (by simp only [nI] at *; omega)) (k (by omega))))
theorem As.law {o:Option ((Bool×Unit)×Unit)} (h:As o fun r=>r.1.1=true):o=Option.some ((true,()),()):=by
 obtain ⟨⟨⟨b,⟨⟩⟩,⟨⟩⟩,e,q⟩:=h
 simp only at q
 rw [e,q]
theorem Bts {b:List Be} (h:A0 b=true):Af (Bh b)=Jp b:=by
 unfold Bh
 rw [h,cond_true]
 exact R3 _ (Be8 (Arb h).2.2)
theorem Bfm (b:List Be):(Hv (Bh b)).2=A0 b∧(A0 b=true→(Hv (Bh b)).1=b):=by
 cases hv:A0 b with
 | true=>
  have:=(Bg7 hv (Bts hv)).1
  rw [this]
  exact ⟨rfl,fun _=>rfl⟩
 | false=>
  refine ⟨?_,fun q=>by cases q⟩
  have e:Bh b=⟨#[]⟩:=by unfold Bh; rw [hv]; rfl
  rw [e]
  decide +kernel
def Bcq (c:Be):Prop:=c.1.size≤1000∧c.2.1.size≤1000
theorem Btt {l:List Be} {c:Be} (h:∀ c∈l,Bcq c) (hc:Bcq c):∀ x∈l++[c],Bcq x:=fun x hx=>by
 rcases List.mem_append.1 hx with q | q
 ·exact h x q
 ·rw [List.mem_singleton.1 q]; exact hc
section
theorem A00 {w:Int} (h:Bw w 1 8=true):(Av zS w).2=false:=by
 obtain ⟨h1,h2⟩:=Cv h
 have:w=1∨w=2∨w=3∨w=4∨w=5∨w=6∨w=7∨w=8:=by omega
 rcases this with rfl | rfl | rfl | rfl | rfl | rfl | rfl | rfl<;>decide +kernel
theorem A65 (s:Aa):s++⟨#[]⟩=s:=Yj (by rw [O2]; exact List.append_nil _)
def cat:List Aa→Aa
 | []=>⟨#[]⟩
 | p::r=>p++cat r
theorem Btu {s:Aa} {n:Int} (h0:0≤n) (h1:n≤(s.size:Int)):Ah s 0 n++Ah s n (nI s.size)=s:=by
 unfold Ah
 have e1:Int.toNat 0=0:=rfl
 have e2:Int.toNat (nI s.size)=s.size:=by simp [nI]
 rw [e1,e2,ByteArray.extract_append_extract]
 rw [Nat.min_eq_left (Nat.zero_le _),Nat.max_eq_right (by omega)]
 exact ByteArray.extract_zero_size
theorem Bkl (n:Nat) (hn:1≤n):∀ (f:Nat) (s:Aa),s.size≤f→(∀ p∈Fa n f s,p.size≤n)∧cat (Fa n f s)=s∧Fa n f s≠[]
 | 0,s,h=>by
  have e:cat [s]=s:=A65 s
  exact ⟨fun p hp=>by rw [List.mem_singleton.1 hp]; omega,e,by simp [Fa]⟩
 | f + 1,s,h=>by
  unfold Fa
  by_cases q:s.size > n
  ·rw [if_pos q]
   have z1:=C6 (s:=s) (a:=0) (b:=(n:Int)) (by omega) (by omega) (by omega)
   have z2:=C6 (s:=s) (a:=(n:Int)) (b:=nI s.size) (by omega) (by simp only [nI]; omega) (Int.le_refl _)
   obtain ⟨k1,k2,_⟩:=Bkl n hn f (Ah s n (nI s.size)) (by simp only [nI] at *; omega)
   refine ⟨fun p hp=>?_,?_,by simp⟩
   ·rcases List.mem_cons.1 hp with e | e
    ·rw [e]; omega
    ·exact k1 p e
   ·show Ah s 0 n++cat (Fa n f (Ah s n (nI s.size)))=s
    rw [k2]
    exact Btu (by omega) (by omega)
  ·rw [if_neg q]
   have e:cat [s]=s:=A65 s
   exact ⟨fun p hp=>by rw [List.mem_singleton.1 hp]; omega,e,by simp⟩
theorem Agz (e:Aa) {w:Int} (h:Bw w 1 8=true):(∀ p∈Ao e w,(p.size:Int)≤56 - w)∧cat (Ao e w)=e∧Ao e w≠[]:=by
 obtain ⟨h1,h2⟩:=Cv h
 obtain ⟨k1,k2,k3⟩:=Bkl (56 - w).toNat (by omega) e.size e (Nat.le_refl _)
 exact ⟨fun p hp=>by have:=k1 p hp; omega,k2,k3⟩
theorem Yl {w first i:Int} {st:Yk} {x:Aa} {r:List Aa} (h:G1 w first i st x=true):Cw w first (x::r) i st=Cw w first r (i + 1) (C3 i (Av x w).1 st):=by
 show (bif G1 w first i st x then _ else _)=_
 rw [h]
 rfl
theorem Ark {w first i:Int} {st:Yk} {x:Aa} {r:List Aa} (h:G1 w first i st x=false):Cw w first (x::r) i st=Uh st:=by
 show (bif G1 w first i st x then _ else _)=_
 rw [h]
 rfl
theorem Aaf {w first i:Int} {st:Yk} {p:Pg} (h:Eg p w=true):G1 w first i st (Cc p w)=(p.2.2.1 - i==first&&Zu st.1 st.2.1 p):=by
 unfold G1
 rw [I4 h]
 rfl
theorem y6 {w life k n:Int} {p:Aa} (hw:Bw w 1 8=true) (hl:Bw life 1 60000=true) (hk:k=1∨k=2) (h1:1≤n) (h2:n≤1000000000) (hp:(p.size:Int)≤56 - w):Eg (k,life,n,p,()) w=true:=by
 unfold Eg
 simp only
 rw [hw,hl,Ag hp]
 have e1:Bw k 1 4=true:=by rcases hk with rfl | rfl<;>rfl
 have e2:Bw n 1 1000000000=true:=by unfold Bw; rw [Ag h1,Ag h2]; rfl
 have e3:(k != 3)=true:=by rcases hk with rfl | rfl<;>rfl
 rw [e1,e2,e3]
 rfl
theorem Aag {k life wk wl:Int} {n:Int} {p:Aa} (hk:k=1∨k=2) (h1:wl≤life) (h2:wk=1→wl=life):Zu wk wl (k,life,n,p,())=true:=by
 unfold Zu
 simp only
 rw [Bd (show ¬ life < wl by omega)]
 by_cases q:wk=1
 ·have:=h2 q
  subst this
  rcases hk with rfl | rfl<;>simp
 ·have:(wk != 1)=true:=bne_iff_ne.2 q
  rcases hk with rfl | rfl<;>simp [this]
theorem A9d {w first life:Int} (hw:Bw w 1 8=true) (hl:Bw life 1 60000=true) (rest:List Aa):∀ (P:List Aa) (i:Int) (st:Yk),P≠[]→(∀ p∈P,(p.size:Int)≤56 - w)→1≤first + i→first + i + P.length≤1000000001→
  st.2.1≤life→(st.1=1→st.2.1=life)→Cw w first (J6 life w (first + i) P++rest) i st=Cw w first rest (i + P.length) (2,life,z0,st.2.2.2.1++[st.2.2.1++cat P],i + P.length,life)
 | [],_,_,h,_,_,_,_,_=>absurd rfl h
 | [p],i,st,_,hs,h1,h2,h3,h4=>by
  have ok:Eg (2,life,first + i,p,()) w=true:=y6 hw hl (.inr rfl) h1 (by simp only [Et] at h2; omega) (hs p (by simp))
  show Cw w first (Cc (2,life,first + i,p,()) w::rest) i st=_
  rw [Yl (by rw [Aaf ok,Aag (.inr rfl) h3 h4]; simp),I4 ok]
  have e:cat [p]=p:=A65 p
  rw [e]
  rfl
 | p::q::r,i,st,_,hs,h1,h2,h3,h4=>by
  simp only [List.length_cons] at h2
  have ok:Eg (1,life,first + i,p,()) w=true:=y6 hw hl (.inl rfl) h1 (by omega) (hs p (by simp))
  show Cw w first (Cc (1,life,first + i,p,()) w::(J6 life w (first + i + 1) (q::r)++rest)) i st=_
  rw [Yl (by rw [Aaf ok,Aag (.inl rfl) h3 h4]; simp),I4 ok,show first + i + 1=first + (i + 1) by omega]
  rw [A9d hw hl rest (q::r) (i + 1) _ (by simp) (fun x hx=>hs x (by simp only [List.mem_cons] at hx ⊢; exact .inr hx)) (by omega) (by simp only [List.length_cons]; omega) (Int.le_refl life) (fun _=>rfl)]
  have e1:i + 1 + ((q::r).length:Int)=i + ((p::q::r).length:Int):=by simp only [List.length_cons]; omega
  have e2:(C3 i (1,life,first + i,p,()) st).2.2.2.1=st.2.2.2.1:=rfl
  have e3:(C3 i (1,life,first + i,p,()) st).2.2.1=st.2.2.1++p:=rfl
  have e4:cat (p::q::r)=p++cat (q::r):=rfl
  rw [e1,e2,e3,e4,ByteArray.append_assoc]
theorem Bfn {w first life:Int} (hw:Bw w 1 8=true) (hl:Bw life 1 60000=true) (rest:List Aa):∀ (P:List Aa) (i:Int) (st:Yk) (m:Nat),m < P.length→(∀ p∈P,(p.size:Int)≤56 - w)→1≤first + i→first + i + P.length≤1000000001→
  st.2.1≤life→(st.1=1→st.2.1=life)→∃ st':Yk,st'.2.2.2=st.2.2.2∧(m=0→st'=st)∧(0 < m→st'.1=1∧st'.2.1=life)∧Cw w first ((J6 life w (first + i) P).take m++rest) i st=Cw w first rest (i + m) st'
 | P,i,st,0,_,_,_,_,_,_=>⟨st,rfl,fun _=>rfl,fun q=>absurd q (by omega),by simp⟩
 | [],_,_,m + 1,h,_,_,_,_,_=>by simp at h
 | [p],_,_,m + 1,h,_,_,_,_,_=>by simp at h
 | p::q::r,i,st,m + 1,hm,hs,h1,h2,h3,h4=>by
  simp only [List.length_cons] at h2 hm
  have ok:Eg (1,life,first + i,p,()) w=true:=y6 hw hl (.inl rfl) h1 (by omega) (hs p (by simp))
  obtain ⟨st',k1,k0,k2,k3⟩:=Bfn (first:=first) hw hl rest (q::r) (i + 1) (C3 i (1,life,first + i,p,()) st) m (by simp only [List.length_cons]; omega) (fun x hx=>hs x (by simp only [List.mem_cons] at hx ⊢; exact .inr hx)) (by omega) (by simp only [List.length_cons]; omega) (Int.le_refl life) (fun _=>rfl)
  have e3:Cw w first ((J6 life w (first + i) (p::q::r)).take (m + 1)++rest) i st=Cw w first rest (i + ((m + 1:Nat):Int)) st':=by
   show Cw w first (Cc (1,life,first + i,p,()) w::((J6 life w (first + i + 1) (q::r)).take m++rest)) i st=_
   rw [Yl (by rw [Aaf ok,Aag (.inl rfl) h3 h4]; simp),I4 ok,show first + i + 1=first + (i + 1) by omega,k3]
   congr 1
   omega
  refine ⟨st',k1,fun q=>absurd q (by omega),fun _=>?_,e3⟩
  by_cases q0:0 < m
  ·exact k2 q0
  ·have:m=0:=by omega
   rw [k0 this]
   exact ⟨rfl,rfl⟩
def put (d:Dk) (a:Int) (x:Aa):Dk:=(d.1,d.2.1++[(a,x,())],())
theorem Bvr {d:Dk} {a b:Int} {x:Aa}:Yg (put d a x) b=bif a==b then x else Yg d b:=by
 unfold Yg put
 simp only [List.reverse_append,List.reverse_singleton,List.singleton_append,M6]
structure LD (d:Dk) (L:List Aa) (k:Nat):Prop where
 ok:Iw d
 n:d.1.length=100
 p:d.2.1.length≤k
 s:seen d 2 0 90=L
theorem LD.len {d:Dk} {L:List Aa} {k:Nat} (h:LD d L k):L.length=90:=by rw [← h.s]; exact Agw _ _ _ _
theorem Btv {d:Dk} {j:Nat} {x:Aa}:seen (put d (2 + (j:Int)) x) 2 0 90=(seen d 2 0 90).set j x:=by
 apply List.ext_getElem
 ·rw [List.length_set,Agw,Agw]
 ·intro i h1 h2
  rw [List.getElem_set]
  unfold seen
  simp only [List.getElem_map,List.getElem_range',Bvr]
  by_cases q:j=i
  ·subst q
   rw [if_pos rfl,show (2 + (j:Int)==2 + ((0 + 1 * j:Nat):Int))=true from beq_iff_eq.2 (by omega)]
   rfl
  ·rw [if_neg q,show (2 + (j:Int)==2 + ((0 + 1 * i:Nat):Int))=false from beq_eq_false_iff_ne.2 (by omega)]
   rfl
theorem LD.put {d:Dk} {L:List Aa} {k:Nat} (h:LD d L k) (hk:k < 300) {j:Nat} (hj:j < 90) {x:Aa} (hx:x.size=64):
  Cn d [(false,2 + (j:Int),x,())] 1=put d (2 + (j:Int)) x∧LD (put d (2 + (j:Int)) x) (L.set j x) (k + 1):=by
 have hp:=h.p
 have e1:opS d (false,2 + (j:Int),x,())=V.put d (2 + (j:Int)) x:=by
  unfold opS Anf
  rw [h.n,Ag (show (0:Int)≤2 + (j:Int) by omega),Ag (show 2 + (j:Int) < ((100:Nat):Int) by omega),Ag (show x.size=64 from hx),Ag (show d.2.1.length < 300 by omega)]
  rfl
 have e2:Cn d [(false,2 + (j:Int),x,())] 1=opS d (false,2 + (j:Int),x,()):=by
  unfold Cn
  rw [h.ok.valid]
  rfl
 refine ⟨e2.trans e1,?_,h.n,?_,?_⟩
 ·rw [← e1]
  exact h.ok.op _
 ·show (d.2.1++[_]).length≤k + 1
  rw [Ef,Et]
  omega
 ·rw [← h.s]
  exact Btv
def lay (A:List Aa):List Aa:=A++List.replicate (90 - A.length) zS
theorem Bvs {A:List Aa} {x:Aa} (h:A.length < 90):(lay A).set A.length x=lay (A++[x]):=by
 unfold lay
 rw [Ef,Et,List.set_append_right (h:=Nat.le_refl _),Nat.sub_self]
 obtain ⟨m,hm⟩:∃ m,90 - A.length=m + 1:=⟨90 - A.length - 1,by omega⟩
 rw [hm,show 90 - (A.length + 1)=m by omega,List.replicate_succ,List.append_assoc]
 rfl
theorem LD.new:LD (Ot 100) (lay []) 0:=by
 have e:Ot 100=(List.replicate 100 zS,[],()):=rfl
 have hz:zS.size=64:=by decide +kernel
 have ho:Iw (Ot 100):=by
  rw [e]
  exact ⟨by simp,by simp,Nat.zero_le _,fun i hi=>by
   have hi:i < (List.replicate 100 zS).length:=hi
   show ((List.replicate 100 zS).getD i z0).size=64
   rw [List.getD_eq_getElem?_getD,List.getElem?_eq_getElem hi,Option.getD_some,List.getElem_replicate]
   exact hz,fun i hi=>absurd hi (Nat.not_lt_zero _)⟩
 refine ⟨ho,by rw [e]; simp,Nat.le_refl _,?_⟩
 show _=List.replicate 90 zS
 refine List.eq_replicate_iff.2 ⟨Agw _ _ _ _,fun b hb=>?_⟩
 obtain ⟨k,hk,rfl⟩:=List.mem_map.1 hb
 have hk:k < 90:=by simp only [List.mem_range'] at hk; omega
 rw [e]
 show (List.replicate 100 zS).getD (Int.toNat (2 + (k:Int))) z0=zS
 rw [List.getD_eq_getElem?_getD,List.getElem?_eq_getElem (by rw [List.length_replicate]; omega),Option.getD_some,List.getElem_replicate]
theorem LD.app {d:Dk} {A:List Aa} {k:Nat} (h:LD d (lay A) k) (hk:k < 300) (hA:A.length < 90) {x:Aa} (hx:x.size=64):
  Cn d [(false,2 + (A.length:Int),x,())] 1=V.put d (2 + (A.length:Int)) x∧LD (V.put d (2 + (A.length:Int)) x) (lay (A++[x])) (k + 1):=by
 have:=h.put hk (j:=A.length) hA hx
 rwa [Bvs hA] at this
theorem Bq2 (d:Dk) (a:Int) {m:Nat} (h:m≤90):seen d a 0 m=(seen d a 0 90).take m:=by
 unfold seen
 rw [← List.map_take]
 congr 1
 apply List.ext_getElem
 ·simp
  omega
 ·intro i h1 h2
  simp
theorem LD.scan {d:Dk} {L:List Aa} {k:Nat} (h:LD d L k) {w:Int} (hw:Bw w 1 8=true) (first life:Int) {m:Nat} (hm:m≤90):
  V9 d 2 (m:Int) first life w=Cw w first (L.take m) 0 (0,life,z0,[],0,life):=by
 unfold V9
 rw [h.ok.valid,hw,h.n,Ag (show (0:Int)≤(m:Int) by omega),Ag (show (m:Int)≤((100:Nat):Int) - 2 by omega),En,Bq2 _ _ hm,h.s]
 rfl
theorem Bq3 {w:Int} (hw:Bw w 1 8=true) (first i:Int) (st:Yk) (R:List Aa):Cw w first (zS::R) i st=Uh st:=Ark (by
 unfold G1
 rw [A00 hw]
 rfl)
theorem A01 {p:Pg} {w:Int} (h:Eg p w=true):(Cc p w).size=64:=(Us (s:=Cc p w) (w:=w) (p:=p) (I4 h)).1
theorem Bnd (s:Aa):z0++s=s:=Yj (by rw [O2]; rfl)
theorem Bne {s:Aa} {life first w:Int} (hw:Bw w 1 8=true) (hl:Bw life 1 60000=true) (h1:1≤first) (h2:first + (Ao s w).length≤1000000001):c7 s life first w=J6 life w first (Ao s w):=by
 have hp:=Agv s w
 rw [hw,cond_true] at hp
 unfold c7
 rw [hw,hl,← hp,Ag h1,Ag (by omega)]
 rfl
theorem A3p {s:Aa} {w:Int} (hw:Bw w 1 8=true) (hs:s.size≤310):1≤(Ao s w).length∧(Ao s w).length≤10:=by
 have hp:=Aay (s:=s) hw
 obtain ⟨h1,h2⟩:=Cv hw
 have:w=1∨w=2∨w=3∨w=4∨w=5∨w=6∨w=7∨w=8:=by omega
 rcases this with rfl | rfl | rfl | rfl | rfl | rfl | rfl | rfl<;>(split at hp<;>omega)
theorem Bnf {w:Int} (hw:Bw w 1 8=true):(Ao ⟨#[]⟩ w).length=1:=by
 have hp:=Aay (s:=⟨#[]⟩) hw
 obtain ⟨h1,h2⟩:=Cv hw
 have hz:(⟨#[]⟩:Aa).size=0:=rfl
 rw [hz] at hp
 have:w=1∨w=2∨w=3∨w=4∨w=5∨w=6∨w=7∨w=8:=by omega
 rcases this with rfl | rfl | rfl | rfl | rfl | rfl | rfl | rfl<;>(split at hp<;>omega)
theorem Bpe {life w:Int} (hw:Bw w 1 8=true) (hl:Bw life 1 60000=true):∀ (P:List Aa) (n:Int),(∀ p∈P,(p.size:Int)≤56 - w)→1≤n→n + P.length≤1000000001→∀ x∈J6 life w n P,x.size=64
 | [],_,_,_,_,x,hx=>by cases hx
 | [p],n,hs,h1,h2,x,hx=>by
  have:x=Cc (2,life,n,p,()) w:=List.mem_singleton.1 hx
  subst this
  exact A01 (y6 hw hl (.inr rfl) h1 (by simp only [Et] at h2; omega) (hs p (by simp)))
 | p::q::r,n,hs,h1,h2,x,hx=>by
  simp only [List.length_cons] at h2
  have hx:x=Cc (1,life,n,p,()) w∨x∈J6 life w (n + 1) (q::r):=List.mem_cons.1 hx
  rcases hx with rfl | hx
  ·exact A01 (y6 hw hl (.inl rfl) h1 (by omega) (hs p (by simp)))
  ·exact Bpe hw hl (q::r) (n + 1) (fun y hy=>hs y (List.mem_cons_of_mem _ hy)) (by omega) (by simp only [List.length_cons]; omega) x hx
def Ag0 (life w first:Int) (A:List Aa) (s:Aa):List Aa:=A++J6 life w (first + (A.length:Int)) (Ao s w)
theorem Ag1 (life w first:Int) (A:List Aa) (s:Aa):(Ag0 life w first A s).length=A.length + (Ao s w).length:=by
 unfold Ag0
 rw [Ef,(R4 _ _ _ _).1]
def SA (w first:Int) (st0:Yk) (A:List Aa) (st:Yk):Prop:=∀ rest,Cw w first (A++rest) 0 st0=Cw w first rest (A.length:Int) st
theorem SA.nil (w first:Int) (st0:Yk):SA w first st0 [] st0:=fun _=>rfl
theorem SA.add {w first life:Int} {st0 st:Yk} {A:List Aa} (h:SA w first st0 A st) (hw:Bw w 1 8=true) (hl:Bw life 1 60000=true) (s:Aa) (hz:st.2.2.1=z0) (h1:1≤first) (h2:first + (Ag0 life w first A s).length≤1000000001) (h3:st.2.1≤life) (h4:st.1≠1):
  SA w first st0 (Ag0 life w first A s) (2,life,z0,st.2.2.2.1++[s],((Ag0 life w first A s).length:Int),life):=fun rest=>by
 obtain ⟨k1,k2,k3⟩:=Agz s hw
 rw [Ag1] at h2 ⊢
 unfold Ag0
 rw [List.append_assoc,h,A9d hw hl rest _ _ st k3 k1 (by omega) (by omega) h3 (fun q=>absurd q h4),k2,hz,Bnd,← Int.natCast_add]
theorem SA.part {w first life:Int} {st0 st:Yk} {A:List Aa} (h:SA w first st0 A st) (hw:Bw w 1 8=true) (hl:Bw life 1 60000=true) (s:Aa) (h1:1≤first) (h2:first + (Ag0 life w first A s).length≤1000000001) (h3:st.2.1≤life) (h4:st.1≠1) (rest:List Aa):
  ∃ (st':Yk) (i:Int),st'.2.2.2=st.2.2.2∧Cw w first ((Ag0 life w first A s).take ((Ag0 life w first A s).length - 1)++rest) 0 st0=Cw w first rest i st':=by
 obtain ⟨k1,k2,k3⟩:=Agz s hw
 have hp:0 < (Ao s w).length:=List.length_pos_iff.2 k3
 have e1:(Ag0 life w first A s).take ((Ag0 life w first A s).length - 1)=A++(J6 life w (first + (A.length:Int)) (Ao s w)).take ((Ao s w).length - 1):=by
  rw [Ag1,show A.length + (Ao s w).length - 1=A.length + ((Ao s w).length - 1) by omega]
  unfold Ag0
  rw [List.take_length_add_append]
 rw [Ag1] at h2
 obtain ⟨st',q1,_,_,q2⟩:=Bfn (first:=first) hw hl rest (Ao s w) (A.length:Int) st ((Ao s w).length - 1) (by omega) k1 (by omega) (by omega) h3 (fun q=>absurd q h4)
 refine ⟨st',(A.length:Int) + (((Ao s w).length - 1:Nat):Int),q1,?_⟩
 rw [e1,List.append_assoc,h,q2]
structure LG (w first life:Int) (st0:Yk) (d:Dk) (A:List Aa) (st:Yk):Prop where
 d:LD d (lay A) A.length
 s:SA w first st0 A st
theorem Btw {A:List Aa} (h:A.length < 90):∃ R,lay A=A++(zS::R):=by
 obtain ⟨m,hm⟩:∃ m,90 - A.length=m + 1:=⟨90 - A.length - 1,by omega⟩
 exact ⟨List.replicate m zS,by unfold lay; rw [hm,List.replicate_succ]⟩
theorem Btx {a b:Yk} (h:a.2.2.2=b.2.2.2):Uh a=Uh b:=by unfold Uh; rw [h]
structure Axf (w first life:Int) (e e3:Aa):Prop where
 w:Bw w 1 8=true
 l0:1≤life
 l1:life≤59998
 f0:1≤first
 f1:first≤999999900
 e:e.size≤310
 e3:e3.size≤310
def Bvt (w first life:Int) (e:Aa):List Aa:=Ag0 (life + 1) w first [] e
def Bhf (w first life:Int) (e:Aa):List Aa:=Ag0 (life + 1) w first (Bvt w first life e) ⟨#[]⟩
def Ajs (w first life:Int) (e e3:Aa):List Aa:=Ag0 (life + 1) w first (Bhf w first life e) e3
abbrev lst (life:Int):Yk:=(0,life,z0,[],0,life)
section
variable {w first life:Int} {e e3:Aa} (h:Axf w first life e e3)
include h
theorem Axf.l:Bw (life + 1) 1 60000=true:=by
 unfold Bw
 rw [Ag (show 1≤life + 1 by have:=h.l0; omega),Ag (show life + 1≤60000 by have:=h.l1; omega)]
 rfl
theorem Axf.len:(Bvt w first life e).length=(Ao e w).length∧(Bhf w first life e).length=(Ao e w).length + 1∧(Ajs w first life e e3).length=(Ao e w).length + 1 + (Ao e3 w).length:=by
 have q1:(Bvt w first life e).length=(Ao e w).length:=by unfold Bvt; rw [Ag1]; simp
 have q2:(Bhf w first life e).length=(Ao e w).length + 1:=by unfold Bhf; rw [Ag1,q1,Bnf h.w]
 exact ⟨q1,q2,by unfold Ajs; rw [Ag1,q2]⟩
theorem Axf.num:3≤(Ajs w first life e e3).length∧(Ajs w first life e e3).length≤21:=by
 have a:=A3p h.w h.e
 have b:=A3p h.w h.e3
 have:=h.len.2.2
 omega
theorem Axf.s2:SA w first (lst life) (Bhf w first life e) (2,life + 1,z0,[e,⟨#[]⟩],((Bhf w first life e).length:Int),life + 1):=by
 obtain ⟨k1,k2,k3⟩:=h.len
 have kn:=h.num
 have hf:=h.f1
 have a:=(SA.nil w first (lst life)).add (life:=life + 1) h.w h.l e rfl h.f0 (by have:(Ag0 (life + 1) w first [] e).length=(Ao e w).length:=k1; omega) (by show life≤life + 1; omega) (by decide:(0:Int)≠1)
 exact a.add h.w h.l ⟨#[]⟩ rfl h.f0 (by have:(Ag0 (life + 1) w first (Ag0 (life + 1) w first [] e) ⟨#[]⟩).length=(Ao e w).length + 1:=k2; omega) (Int.le_refl _) (by decide:(2:Int)≠1)
theorem Axf.s3:SA w first (lst life) (Ajs w first life e e3) (2,life + 1,z0,[e,⟨#[]⟩,e3],((Ajs w first life e e3).length:Int),life + 1):=by
 obtain ⟨k1,k2,k3⟩:=h.len
 have kn:=h.num
 have hf:=h.f1
 exact h.s2.add h.w h.l e3 rfl h.f0 (by have:(Ag0 (life + 1) w first (Bhf w first life e) e3).length=(Ao e w).length + 1 + (Ao e3 w).length:=k3; omega) (Int.le_refl _) (by decide:(2:Int)≠1)
theorem Axf.part (R:List Aa) (hR:∀ i st,Cw w first R i st=Uh st):
  Cw w first ((Ajs w first life e e3).take ((Ajs w first life e e3).length - 1)++R) 0 (lst life)=([e,⟨#[]⟩],((Ao e w).length:Int) + 1,life + 1,()):=by
 obtain ⟨k1,k2,k3⟩:=h.len
 have kn:=h.num
 have hf:=h.f1
 obtain ⟨st',i,q1,q2⟩:=h.s2.part h.w h.l e3 h.f0 (by have:(Ag0 (life + 1) w first (Bhf w first life e) e3).length=(Ao e w).length + 1 + (Ao e3 w).length:=k3; omega) (Int.le_refl _) (by decide:(2:Int)≠1) R
 have q2:Cw w first ((Ajs w first life e e3).take ((Ajs w first life e e3).length - 1)++R) 0 (lst life)=Cw w first R i st':=q2
 rw [q2,hR,Btx q1]
 show ([e,⟨#[]⟩],((Bhf w first life e).length:Int),life + 1,())=_
 rw [k2]
 rfl
variable {d:Dk} (hd:LD d (lay (Ajs w first life e e3)) (Ajs w first life e e3).length)
include hd
theorem Axf.t0:V9 d 2 90 first life w=([e,⟨#[]⟩,e3],((Ajs w first life e e3).length:Int),life + 1,()):=by
 have kn:=h.num
 obtain ⟨R,hR⟩:=Btw (A:=Ajs w first life e e3) (by omega)
 have q:=hd.scan h.w first life (m:=90) (Nat.le_refl _)
 rw [List.take_of_length_le (by rw [hd.len]; omega),hR] at q
 exact q.trans ((h.s3 _).trans (Bq3 h.w _ _ _ _))
omit hd in
theorem Axf.t1 {R:List Aa} {d':Dk} {k:Nat} (hd':LD d' (Ajs w first life e e3++R) k) (hs:∀ i,i=((Ajs w first life e e3).length:Int)→Uh ((2,life + 1,z0,[e,⟨#[]⟩,e3],((Ajs w first life e e3).length:Int),life + 1):Yk)=Cw w first R i (2,life + 1,z0,[e,⟨#[]⟩,e3],((Ajs w first life e e3).length:Int),life + 1)):
  V9 d' 2 90 first life w=([e,⟨#[]⟩,e3],((Ajs w first life e e3).length:Int),life + 1,()):=by
 have q:=hd'.scan h.w first life (m:=90) (Nat.le_refl _)
 rw [List.take_of_length_le (by rw [hd'.len]; omega)] at q
 exact q.trans ((h.s3 _).trans (hs _ rfl).symm)
end
end
theorem Bhg (s:E5) (b:List Be):Ak (Es s b).2.1.2.2.2.2.2.2.1=true:=by
 unfold Es
 cases Au s with
 | false=>rfl
 | true=>
  cases A0 b with
  | false=>rfl
  | true=>
   simp only [Bool.not_true,cond_false]
   cases (B7 s.2.2.2.2.2.2.1 b).2 != 0 with
   | true=>rfl
   | false=>
    simp only [cond_false]
    cases decide (D4 (B7 s.2.2.2.2.2.2.1 b).1 s.1 > Al s.2.1 - 1) with
    | true=>rfl
    | false=>
     simp only [cond_false]
     cases decide (nI (Gn s b).length > Al s.2.1 - s.2.2.2.2.1) with
     | true=>rfl
     | false=>exact Adn _ _
theorem Bkm {s:E5} (h:Ak s.2.2.2.2.2.2.1=true):Ak (O4 s).2.1.2.2.2.2.2.2.1=true:=by
 unfold O4
 cases Au s with
 | false=>rfl
 | true=>exact h
theorem Bcr {s:E5} (h:Ak s.2.2.2.2.2.2.1=true):Ak (Hr s).2.1.2.2.2.2.2.2.1=true:=by
 unfold Hr
 cases Au s with
 | false=>rfl
 | true=>exact A3o h
structure XOk (x:R0):Prop where
 g:K8 Bj9 x=true
 s:Ak x.2.1.2.2.2.2.2.2.1=true
theorem XOk.opens (d:Dk) (w:Int):XOk (Oo d w):=⟨Bq0 d w,Bm9 d w⟩
theorem XOk.commits (s:E5) (b:List Be):XOk (Es s b):=⟨Bke s b,Bhg s b⟩
theorem XOk.flushs {s:E5} (h:Ak s.2.2.2.2.2.2.1=true):XOk (O4 s):=⟨Bm2 s,Bkm h⟩
theorem XOk.compacts {s:E5} (h:Ak s.2.2.2.2.2.2.1=true):XOk (Hr s):=⟨Bg9 s,Bcr h⟩
theorem XOk.none:XOk (Ada 0):=⟨rfl,rfl⟩
theorem XOk.ops {x:R0} (h:XOk x):x.2.2.1.length≤1073741824:=by
 have hg:=h.g
 simp only [K8,Bool.and_eq_true,decide_eq_true_eq] at hg
 exact hg.2.2.1.1
def Ep (ops:List Dl):List Aa:=(ops.filter fun o=>!o.1).map fun o=>o.2.2.1
def Jq (w:Bg) (e:Qw):R0×Bool:=
 bif e.1==1 then (Oo w.2.1 w.1,!w.2.2.1) else bif e.1==2 then (Es w.2.2.2.1 e.2.1,w.2.2.1) else bif e.1==3 then (O4 w.2.2.2.1,w.2.2.1) else bif e.1==4 then (Hr w.2.2.2.1,w.2.2.1) else (Ada 0,false)
def d5 (e:Qw) (x:R0):Bool:=decide (0≤e.2.2.1)&&decide (e.2.2.1≤(x.2.2.1.length:Int))
def y7 (e:Qw) (x:R0):Int:=bif d5 e x then e.2.2.1 else (x.2.2.1.length:Int)
def K9 (w:Bg) (e:Qw) (x:R0):List Aa:=w.2.2.2.2.2.1++Ep (x.2.2.1.take (y7 e x).toNat)
def Gp (w:Bg) (e:Qw) (x:R0):List B5:=bif e.1==2 then w.2.2.2.2.1++[x.2.1.2.2.2.2.2.2.1] else w.2.2.2.2.1
def Tt (w:Bg) (e:Qw) (x:R0):Bool:=decide ((K9 w e x).length > 2000) || decide ((Gp w e x).length > 200)
def Ff (w:Bg) (e:Qw) (x:R0):Bg:=
 bif Tt w e x then w else
 bif d5 e x then (w.1,E9 (Cn w.2.1 x.2.2.1 (y7 e x)) e.2.2.2.1,false,b8,Gp w e x,K9 w e x,())
 else (w.1,Cn w.2.1 x.2.2.1 (y7 e x),true,x.2.1,(bif e.1==2 then Gp w e x else [x.2.1.2.2.2.2.2.2.1]),K9 w e x,())
def Ag2 (w:Bg) (f:List Int):Bg:=(w.1,E9 w.2.1 f,false,b8,w.2.2.2.2)
def doS (w:Bg) (e:Qw):Bg:=bif e.1==5 then Ag2 w e.2.2.2.1 else bif !(Jq w e).2 || (Jq w e).1.1 != 0 then w else Ff w e (Jq w e).1
theorem Bpf {ops:List Dl} {i:Nat} (k:Nat) (h:i < ops.length):Ep ((ops.drop i).take (k + 1))=(bif (ops.getD i zOp).1 then [] else [(ops.getD i zOp).2.2.1])++Ep ((ops.drop (i + 1)).take k):=by
 rw [Ld ops i zOp h,List.take_succ_cons]
 unfold Ep
 rw [List.filter_cons]
 cases (ops.getD i zOp).1<;>rfl
theorem Ajt {w:Bg} {e:Qw} {x:R0} (h:Tt w e x=true):Ff w e x=w:=by unfold Ff; rw [h]; rfl
theorem A02 {w:Bg} {e:Qw} {x:R0} (h:Tt w e x=false) (hc:d5 e x=true):Ff w e x=(w.1,E9 (Cn w.2.1 x.2.2.1 (y7 e x)) e.2.2.2.1,false,b8,Gp w e x,K9 w e x,()):=by unfold Ff; rw [h,hc]; rfl
theorem A9e {w:Bg} {e:Qw} {x:R0} (h:Tt w e x=false) (hc:d5 e x=false):Ff w e x=(w.1,Cn w.2.1 x.2.2.1 (y7 e x),true,x.2.1,(bif e.1==2 then Gp w e x else [x.2.1.2.2.2.2.2.2.1]),K9 w e x,()):=by unfold Ff; rw [h,hc]; rfl
theorem Aju {w:Bg} {e:Qw} {x:R0} {a b:Bool} (h1:decide ((K9 w e x).length > 2000)=a) (h2:decide ((Gp w e x).length > 200)=b):Tt w e x=(a || b):=by unfold Tt; rw [h1,h2]
theorem A9f {α:Type} {l:List α} {i:Nat} {z:α} (h:i < l.length):l.take (i + 1)=l.take i++[l.getD i z]:=by
 rw [List.take_add_one]
 simp [List.getD,h]
def unW (x:Int×List Aa×List Wr×Bool×Int×Int×Int×Int×Int×Int×Int×Int×Int×List A1×List B5×List Aa×Unit):Bg:=
 (x.1,(x.2.1,x.2.2.1,()),x.2.2.2.1,(x.2.2.2.2.1,x.2.2.2.2.2.1,x.2.2.2.2.2.2.1,(x.2.2.2.2.2.2.2.1,x.2.2.2.2.2.2.2.2.1,x.2.2.2.2.2.2.2.2.2.1,x.2.2.2.2.2.2.2.2.2.2.1,()),x.2.2.2.2.2.2.2.2.2.2.2.1,x.2.2.2.2.2.2.2.2.2.2.2.2.1,(x.2.2.2.2.2.2.2.2.2.2.2.2.2.1,()),()),x.2.2.2.2.2.2.2.2.2.2.2.2.2.2.1,x.2.2.2.2.2.2.2.2.2.2.2.2.2.2.2.1,())
theorem Bpg:∀ (l:List Dl) (d:Dk),(l.foldl opS d).1.length=d.1.length
 | [],_=>rfl
 | o::l,d=>by
  show (l.foldl opS (opS d o)).1.length=_
  rw [Bpg l]
  unfold opS
  cases o.1 with
  | true=>exact V8 _ _
  | false=>
   simp only [cond_false]
   cases Anf d.1.length (o.2.1,o.2.2.1,())&&decide (d.2.1.length < 300)<;>rfl
theorem Bhh {d:Dk} (h:Ar d=true) (ops:List Dl) (m:Int):Ar (Cn d ops m)=true∧(Cn d ops m).1.length=d.1.length:=by
 unfold Cn
 rw [h]
 exact ⟨(Iw.ops _ (Ix h)).valid,Bpg _ _⟩
theorem A03 {d:Dk} (h:Ar d=true) (f:List Int):Ar (E9 d f)=true∧(E9 d f).1.length=d.1.length:=by
 have hd:=Ix h
 have ht:=Bo1 h f
 unfold E9
 rw [h]
 have hl:(Tr f d.1 d.2.1).length=d.1.length:=ht.1
 have n8:=hd.n8
 have n2:=hd.n200
 refine ⟨Iw.valid ⟨?_,?_,Nat.zero_le _,fun i hi=>?_,fun i hi=>by cases hi⟩,hl⟩
 ·show 8≤(Tr f d.1 d.2.1).length; omega
 ·show (Tr f d.1 d.2.1).length≤200; omega
 ·exact ht.2 i (by have hi:i < (Tr f d.1 d.2.1).length:=hi; omega)
structure WOk (w:Bg):Prop where
 v:Ar w.2.1=true
 hw:Bw w.1 1 8=true
 n40:w.2.1.1.length≤40
 s:Ak w.2.2.2.1.2.2.2.2.2.2.1=true
 n:w.2.2.2.2.1.length≤200
 p:∀ x∈w.2.2.2.2.1,Ak x=true
 l:w.2.2.2.2.2.1.length≤2000
 f:Au w.2.2.2.1=true→w.2.2.2.1.2.1=(w.2.1.1.length:Int)
theorem Bng:Au b8=false:=by decide +kernel
theorem Bfo (s:E5) (h:(Wa s).1=0):(Wa s).2.1.2.1=s.2.1:=by
 unfold Wa Aa0 at *
 cases h1:decide (s.2.2.2.1.1 + 1 > 1000000000) with
 | true=>rw [h1] at h; cases h
 | false=>
  rw [h1] at h
  cases h2:decide (s.2.2.2.1.2.2.1 + Al s.2.1 > 999999000) with
  | true=>rw [h2] at h; cases h
  | false=>rfl
theorem Bty (d:Dk) (w:Int) (h:(Oo d w).1=0):(Oo d w).2.1.2.1=(d.1.length:Int):=by
 unfold Oo at *
 cases h1:Ar d with
 | false=>rw [h1] at h; cases h
 | true=>
  rw [h1] at h
  cases h2:Bw w 1 8 with
  | false=>rw [h2] at h; cases h
  | true=>
   rw [h2] at h
   simp only [Bool.not_true,cond_false] at h ⊢
   cases h3:E8 (F3 d w).1 Ut with
   | none=>rw [h3] at h; cases h
   | some st=>
    rw [h3] at h
    simp only at h ⊢
    by_cases q1:(F3 d w).2.2.1 + 1 > 60000
    ·rw [Bhd q1] at h; cases h
    ·by_cases q2:D4 st w > Al d.1.length - 1
     ·rw [Bhe q1 q2] at h; cases h
     ·by_cases q3:(F3 d w).2.1 < Al d.1.length
      ·rw [A61 q1 q2 q3]
      ·rw [A62 q1 q2 q3] at h ⊢
       rw [Bfo _ h]
theorem Au3 (s:E5) (b:List Be) (h:(Es s b).1=0):Au s=true∧(Es s b).2.1.2.1=s.2.1:=by
 unfold Es at *
 cases h1:Au s with
 | false=>rw [h1] at h; cases h
 | true=>
  rw [h1] at h
  cases h2:A0 b with
  | false=>rw [h2] at h; cases h
  | true=>
   rw [h2] at h
   simp only [Bool.not_true,cond_false] at h ⊢
   cases h3:(B7 s.2.2.2.2.2.2.1 b).2 != 0 with
   | true=>rw [h3] at h; cases h
   | false=>
    rw [h3] at h
    cases h4:decide (D4 (B7 s.2.2.2.2.2.2.1 b).1 s.1 > Al s.2.1 - 1) with
    | true=>rw [h4] at h; cases h
    | false=>
     rw [h4] at h
     simp only [cond_false] at h ⊢
     cases h5:decide (nI (Gn s b).length > Al s.2.1 - s.2.2.2.2.1) with
     | true=>rw [h5] at h; cases h
     | false=>exact ⟨trivial,rfl⟩
theorem Bq4 (s:E5) (h:(O4 s).1=0):Au s=true∧(O4 s).2.1.2.1=s.2.1:=by
 unfold O4 at *
 cases h1:Au s with
 | false=>rw [h1] at h; cases h
 | true=>exact ⟨rfl,rfl⟩
theorem Bkn (s:E5) (h:(Hr s).1=0):Au s=true∧(Hr s).2.1.2.1=s.2.1:=by
 unfold Hr at *
 cases h1:Au s with
 | false=>rw [h1] at h; cases h
 | true=>rw [h1] at h; exact ⟨rfl,Bfo s h⟩
theorem Btz {w:Bg} (hf:Au w.2.2.2.1=true→w.2.2.2.1.2.1=(w.2.1.1.length:Int)) (e:Qw) (h2:(Jq w e).2=true) (h:(Jq w e).1.1=0):(Jq w e).1.2.1.2.1=(w.2.1.1.length:Int):=by
 unfold Jq at *
 cases h1:(e.1==1) with
 | true=>rw [h1] at h; exact Bty _ _ h
 | false=>
  rw [h1] at h h2
  cases h3:(e.1==2) with
  | true=>rw [h3] at h; have:=Au3 _ _ h; exact this.2.trans (hf this.1)
  | false=>
   rw [h3] at h h2
   cases h4:(e.1==3) with
   | true=>rw [h4] at h; have:=Bq4 _ h; exact this.2.trans (hf this.1)
   | false=>
    rw [h4] at h h2
    cases h5:(e.1==4) with
    | true=>rw [h5] at h; have:=Bkn _ h; exact this.2.trans (hf this.1)
    | false=>rw [h5] at h2; cases h2
theorem WOk.d {w:Bg} (h:WOk w):K8 tDk w.2.1=true:=(Ix h.v).good
theorem XOk.calls {w:Bg} (h:WOk w) (e:Qw):XOk (Jq w e).1:=by
 unfold Jq
 cases e.1==1 with
 | true=>exact XOk.opens _ _
 | false=>
  cases e.1==2 with
  | true=>exact XOk.commits _ _
  | false=>
   cases e.1==3 with
   | true=>exact XOk.flushs h.s
   | false=>
    cases e.1==4 with
    | true=>exact XOk.compacts h.s
    | false=>exact XOk.none
theorem WOk.loss {w:Bg} (h:WOk w) (f:List Int):WOk (Ag2 w f):=
 ⟨(A03 h.v f).1,h.hw,by show (E9 w.2.1 f).1.length≤40; rw [(A03 h.v f).2]; exact h.n40,rfl,h.n,h.p,h.l,fun q=>by rw [show (Ag2 w f).2.2.2.1=b8 from rfl,Bng] at q; cases q⟩
theorem Bph {w:Bg} (h:WOk w) (e:Qw) {x:R0} (hx:XOk x):∀ y∈Gp w e x,Ak y=true:=fun y hy=>by
 unfold Gp at hy
 cases hk:(e.1==2) with
 | true=>
  rw [hk] at hy
  rcases List.mem_append.1 hy with q | q
  ·exact h.p y q
  ·rw [List.mem_singleton.1 q]; exact hx.s
 | false=>rw [hk] at hy; exact h.p y hy
theorem WOk.doI {w:Bg} (h:WOk w) (e:Qw):WOk (doS w e):=by
 unfold doS
 cases (e.1==5) with
 | true=>exact h.loss _
 | false=>
  simp only [cond_false]
  have hx:=XOk.calls h e
  have hfit:=Btz h.f e
  generalize (Jq w e).1=x at *
  generalize (Jq w e).2=a at *
  cases ha:!a || x.1 != 0 with
  | true=>exact h
  | false=>
   simp only [cond_false]
   rw [Bool.or_eq_false_iff] at ha
   have hfit:=hfit (by simpa using ha.1) (by simpa using ha.2)
   unfold Ff
   cases hf:Tt w e x with
   | true=>exact h
   | false=>
    unfold Tt at hf
    simp only [Bool.or_eq_false_iff,decide_eq_false_iff_not] at hf
    obtain ⟨f1,f2⟩:=hf
    have k:=Bhh h.v x.2.2.1 (y7 e x)
    cases d5 e x with
    | true=>
     have k2:=A03 k.1 e.2.2.2.1
     exact ⟨k2.1,h.hw,by show (E9 _ _).1.length≤40; rw [k2.2,k.2]; exact h.n40,rfl,by show (Gp w e x).length≤200; omega,Bph h e hx,by show (K9 w e x).length≤2000; omega,fun q=>by have q:Au b8=true:=q; rw [Bng] at q; cases q⟩
    | false=>
     refine ⟨k.1,h.hw,by show (Cn _ _ _).1.length≤40; rw [k.2]; exact h.n40,hx.s,?_,?_,by show (K9 w e x).length≤2000; omega,fun _=>by show x.2.1.2.1=((Cn _ _ _).1.length:Int); rw [k.2]; exact hfit⟩
     ·show (bif e.1==2 then Gp w e x else [_]).length≤200
      cases (e.1==2)
      ·show 1≤200; omega
      ·show (Gp w e x).length≤200; omega
     ·intro y hy
      have hy:y∈(bif e.1==2 then Gp w e x else [x.2.1.2.2.2.2.2.2.1]):=hy
      cases hk:(e.1==2) with
      | true=>rw [hk] at hy; exact Bph h e hx y hy
      | false=>rw [hk] at hy; rw [List.mem_singleton.1 hy]; exact hx.s
theorem Bvv {a:Int} (h:Bw a 8 200=true):Ot a=(List.replicate a.toNat zS,[],()):=by unfold Ot; rw [h]; rfl
theorem A66 {a:Int} (h:Bw a 8 200=true):Ar (Ot a)=true∧(Ot a).1.length=a.toNat:=by
 obtain ⟨h1,h2⟩:=Cv h
 rw [Bvv h]
 have hl:(List.replicate a.toNat zS).length=a.toNat:=by simp
 refine ⟨Iw.valid ⟨?_,?_,Nat.zero_le _,fun i hi=>?_,fun i hi=>by cases hi⟩,hl⟩
 ·show 8≤(List.replicate a.toNat zS).length; omega
 ·show (List.replicate a.toNat zS).length≤200; omega
 ·have hi:i < (List.replicate a.toNat zS).length:=hi
  have hi:i < a.toNat:=by rw [← hl]; exact hi
  have e:(List.replicate a.toNat zS).getD i z0=zS:=by simp [List.getD,hi]
  show ((List.replicate a.toNat zS).getD i z0).size=64
  rw [e]
  decide +kernel
def A9g (a w:Int):Bg:=(w,Ot a,false,b8,[([],())],[],())
theorem WOk.new {a w:Int} (h:Bw a 8 40=true) (hw:Bw w 1 8=true):WOk (A9g a w):=by
 obtain ⟨h1,h2⟩:=Cv h
 have k:=A66 (a:=a) (by unfold Bw; rw [Ag h1,Ag (show a≤200 by omega)]; rfl)
 exact ⟨k.1,hw,by show (Ot a).1.length≤40; rw [k.2]; omega,rfl,by show 1≤200; omega,fun x hx=>by rw [List.mem_singleton.1 hx]; rfl,Nat.zero_le _,fun q=>by have q:Au b8=true:=q; rw [Bng] at q; cases q⟩
theorem Bq5 {s:E5} {b:List Be} (h:(Es s b).1=0):0 < (Es s b).2.2.1.length∧0≤((Es s b).2.2.1.getD 0 zOp).2.1∧((Es s b).2.2.1.getD 0 zOp).2.1 < s.2.1∧((Es s b).2.2.1.getD 0 zOp).2.2.1.size=64:=by
 have hv:=(Au3 s b h).1
 obtain ⟨h1,h2,h3,h4,h5,h6,h7,h8,h9,h10⟩:=Zi hv
 obtain ⟨r1,r2⟩:=B6 h6
 have r1:=Cv r1
 have r2:=Cv r2
 have n1:=Cv h1
 have hN:Al s.2.1=(s.2.1 - 2) / 2:=by unfold Al; rw [h1]; rfl
 have hp:1≤(Ao (Bh b) s.1).length∧(Ao (Bh b) s.1).length≤101:=by
  have k1:=Agv (Bh b) s.1
  rw [h2,cond_true] at k1
  have k3:=L5 b
  obtain ⟨w1,w2⟩:=Cv h2
  unfold Ge at k1
  rw [h2,cond_true] at k1
  have hc:s.1=1∨s.1=2∨s.1=3∨s.1=4∨s.1=5∨s.1=6∨s.1=7∨s.1=8:=by omega
  rcases hc with q | q | q | q | q | q | q | q<;>rw [q] at k1 ⊢<;>split at k1<;>omega
 have hl:Bw s.2.2.1 1 60000=true:=by unfold Bw; rw [Ag h4.1,Ag h4.2]; rfl
 have eP:Gn s b=J6 s.2.2.1 s.1 (s.2.2.2.1.2.2.1 + s.2.2.2.2.1) (Ao (Bh b) s.1):=Bne h2 hl (by omega) (by omega)
 unfold Es at *
 rw [hv] at h ⊢
 cases g2:A0 b with
 | false=>rw [g2] at h; cases h
 | true=>
  rw [g2] at h
  simp only [Bool.not_true,cond_false] at h ⊢
  cases g3:(B7 s.2.2.2.2.2.2.1 b).2 != 0 with
  | true=>rw [g3] at h; cases h
  | false=>
   rw [g3] at h
   cases g4:decide (D4 (B7 s.2.2.2.2.2.2.1 b).1 s.1 > Al s.2.1 - 1) with
   | true=>rw [g4] at h; cases h
   | false=>
    rw [g4] at h
    simp only [cond_false] at h ⊢
    cases g5:decide (nI (Gn s b).length > Al s.2.1 - s.2.2.2.2.1) with
    | true=>rw [g5] at h; cases h
    | false=>
     have g5:=of_decide_eq_false g5
     obtain ⟨k1,k2,k3⟩:=Agz (Bh b) h2
     have hall:=Bpe h2 hl (Ao (Bh b) s.1) (s.2.2.2.1.2.2.1 + s.2.2.2.2.1) k1 (by omega) (by omega)
     have hlen:=(R4 s.2.2.1 s.1 (Ao (Bh b) s.1) (s.2.2.2.1.2.2.1 + s.2.2.2.2.1)).1
     rw [← eP] at hall hlen
     simp only [nI] at g5
     show 0 < (C7 (Bn s.2.2.2.1.2.1 s.2.1 + s.2.2.2.2.1) (Gn s b)).length∧0≤((C7 (Bn s.2.2.2.1.2.1 s.2.1 + s.2.2.2.2.1) (Gn s b)).getD 0 zOp).2.1∧((C7 (Bn s.2.2.2.1.2.1 s.2.1 + s.2.2.2.2.1) (Gn s b)).getD 0 zOp).2.1 < s.2.1∧((C7 (Bn s.2.2.2.1.2.1 s.2.1 + s.2.2.2.2.1) (Gn s b)).getD 0 zOp).2.2.1.size=64
     cases hc:Gn s b with
     | nil=>rw [hc] at hlen; simp at hlen; omega
     | cons x L=>
      rw [hc] at hall
      have hb:0≤Bn s.2.2.2.1.2.1 s.2.1 + s.2.2.2.2.1∧Bn s.2.2.2.1.2.1 s.2.1 + s.2.2.2.2.1 < s.2.1:=by
       unfold Bn
       have:s.2.2.2.1.2.1=0∨s.2.2.2.1.2.1=1:=by omega
       rcases this with q | q<;>rw [q]<;>omega
      exact ⟨by simp [C7],hb.1,hb.2,hall x List.mem_cons_self⟩
def Bnh (w:Bg):Prop:=w.2.1.1.length≤1000∧w.2.1.2.1.length≤1000∧w.2.2.2.1.2.2.2.2.2.2.1.1.length≤1000∧w.2.2.2.2.1.length≤1000∧(∀ x∈w.2.2.2.2.1,x.1.length≤1000)∧w.2.2.2.2.2.1.length≤100000
theorem A04 {w:Bg} (h:Bf w=true):Bnh w:=by
 obtain ⟨k1,k2,k3⟩:=x9 h
 have hd:=Ix k1
 have hn:=hd.n200
 have hp:=hd.p300
 unfold Bf at h
 obtain ⟨_,h⟩:=B6 h
 obtain ⟨_,h⟩:=B6 h
 obtain ⟨_,h⟩:=B6 h
 obtain ⟨_,h⟩:=B6 h
 obtain ⟨h5,h⟩:=B6 h
 obtain ⟨h6,h7⟩:=B6 h
 refine ⟨by omega,by omega,?_,by omega,fun x hx=>?_,by omega⟩
 ·unfold Rb at h5
  cases hu:w.2.2.1 with
  | true=>
   rw [hu] at h5
   have:=Ca (Zi (B6 h5).1).2.2.1
   omega
  | false=>
   rw [hu] at h5
   unfold Rm at h5
   simp only [cond_false,Bool.and_eq_true,beq_iff_eq,nI] at h5
   omega
 ·obtain ⟨i,hi,rfl⟩:=Zs Ut hx
  have:=Ca (Yi h6 i hi)
  omega
theorem A3r {s:E5} (h:Rm s=true):Au s=false∧s.2.2.2.2.2.2.1.1=[]:=by
 unfold Rm at h
 simp only [Bool.and_eq_true,beq_iff_eq,nI] at h
 obtain ⟨h1,h2,h3,h4,h5,h6,h7⟩:=h
 refine ⟨?_,List.length_eq_zero_iff.1 (by omega)⟩
 unfold Au
 rw [h2]
 rfl
theorem Bfp {w:Bg} (h:Bf w=true) (h40:w.2.1.1.length≤40):WOk w:=by
 obtain ⟨k1,k2,k3⟩:=x9 h
 unfold Bf at h
 obtain ⟨h1,h⟩:=B6 h
 obtain ⟨_,h⟩:=B6 h
 obtain ⟨_,h⟩:=B6 h
 obtain ⟨_,h⟩:=B6 h
 obtain ⟨h5,h⟩:=B6 h
 obtain ⟨h6,h7⟩:=B6 h
 have hs:(Au w.2.2.2.1=true∧w.2.2.2.1.2.1=(w.2.1.1.length:Int))∨Rm w.2.2.2.1=true:=by
  unfold Rb at h5
  cases hu:w.2.2.1 with
  | true=>
   rw [hu] at h5
   obtain ⟨a,b⟩:=B6 h5
   obtain ⟨_,c⟩:=B6 b
   exact .inl ⟨a,by simpa [nI] using c⟩
  | false=>rw [hu] at h5; exact .inr h5
 refine ⟨k1,h1,h40,?_,k3.2,fun x hx=>?_,k2,fun q=>?_⟩
 ·rcases hs with ⟨a,_⟩ | a
  ·exact (Zi a).2.2.1
  ·have:=(A3r a).2
   rw [show w.2.2.2.1.2.2.2.2.2.2.1=(w.2.2.2.1.2.2.2.2.2.2.1.1,()) from rfl,this]
   rfl
 ·obtain ⟨i,hi,rfl⟩:=Zs Ut hx
  exact Yi h6 i hi
 ·rcases hs with ⟨_,b⟩ | a
  ·exact b
  ·rw [(A3r a).1] at q; cases q
theorem Bvw (a:List Dl) (o:Dl):Ep (a++[o])=Ep a++(bif o.1 then [] else [o.2.2.1]):=by
 unfold Ep
 rw [List.filter_append,List.map_append]
 congr 1
 cases h:o.1<;>simp [h]
theorem Ano {b:List Be} (h1:1≤b.length) (h2:b.length≤20) (h:∀ c∈b,Tj c=true):A0 b=true:=by
 unfold A0 Bw
 rw [Ag (show (1:Int)≤(b.length:Int) by omega),Ag (show (b.length:Int)≤20 by omega)]
 simp only [Bool.true_and,cond_true,Bool.and_self]
 refine List.all_eq_true.2 fun i hi=>?_
 have hi:=(List.mem_range'_1.1 hi).2
 rw [List.getD_eq_getElem?_getD,List.getElem?_eq_getElem (by omega),Option.getD_some]
 exact h _ (List.getElem_mem _)
theorem Bfq {p:A1} (h:Bvm p):Tj (x7 p)=true:=by
 obtain ⟨h1,h2⟩:=h
 unfold Tj x7
 rw [h1,Ag h2]
 rfl
theorem A67 {l m:List A1}:Srt (l++m)↔Srt l∧Srt m∧∀ x∈l,∀ y∈m,bl x.1 y.1=true:=List.pairwise_append
theorem A9h:∀ {m l:List A1} {i:Nat},Srt (l++m)→C9 (fun _ c l=>Arr c l) i (m.map x7) l=l++m
 | [],l,i,_=>by simp [C9]
 | p::m,l,i,hs=>by
  show C9 (fun _ c l=>Arr c l) (i + 1) (m.map x7) (Arr (x7 p) l)=_
  have hs':Srt ((l++[p])++m):=by rw [List.append_assoc]; exact hs
  have e:Arr (x7 p) l=l++[p]:=by
   obtain ⟨h1,h2,h3⟩:=A67.1 (A67.1 hs').1
   refine A6z (Ajq _ _ h1) (A67.1 hs').1 fun x=>?_
   unfold Arr
   rw [y5]
   simp only [x7,List.mem_append,List.mem_singleton]
   constructor
   ·rintro (⟨q,_⟩ | ⟨_,q⟩)
    ·exact .inl q
    ·exact .inr q
   ·rintro (q | q)
    ·exact .inl ⟨q,Btl (h3 x q p (by simp))⟩
    ·exact .inr ⟨trivial,q⟩
  rw [e,A9h hs',List.append_assoc]
  rfl
theorem Bfr {l m:List A1} (h:Ak (l++m,())=true):Ak (l,())=true:=by
 have hl:=Ca h
 simp only [Ef] at hl
 exact Bkc (by omega) (fun x hx=>Arj h x (List.mem_append_left _ hx)) (A67.1 (Ari h)).1
theorem Bni {l m:List A1} (h:Ak (l++m,())=true) (h1:1≤m.length) (h2:m.length≤20):B7 (l,()) (m.map x7)=((l++m,()),0):=by
 have hv:=Bfr h
 have hb:A0 (m.map x7)=true:=Ano (by simpa using h1) (by simpa using h2) fun c hc=>by
  obtain ⟨p,hp,rfl⟩:=List.mem_map.1 hc
  exact Bfq (Arj h p (List.mem_append_right _ hp))
 have e:Rn l (m.map x7)=l++m:=A9h (Ari h)
 have hl:=Ca h
 unfold B7
 rw [hv,hb]
 show (bif decide ((Rn l (m.map x7)).length > 100) then _ else _)=_
 rw [e,Bd (show ¬ (l++m).length > 100 from Nat.not_lt.2 hl)]
 rfl
def Bfs (L:List (List Be)) (m:List A1):Prop:=L.flatten=m.map x7∧∀ b∈L,1≤b.length∧b.length≤20
theorem Bfs.cons {b:List Be} {L:List (List Be)} {m:List A1} (h:Bfs (b::L) m):∃ x y,m=x++y∧b=x.map x7∧1≤x.length∧x.length≤20∧Bfs L y:=by
 obtain ⟨h1,h2⟩:=h
 obtain ⟨k1,k2⟩:=h2 b (by simp)
 rw [List.flatten_cons] at h1
 have hl:b.length≤m.length:=by
  have:=congrArg List.length h1
  simp only [Ef,List.length_map] at this
  omega
 have e1:b=(m.take b.length).map x7:=by
  have:=congrArg (List.take b.length) h1
  rwa [List.take_left,← List.map_take] at this
 have e2:L.flatten=(m.drop b.length).map x7:=by
  have:=congrArg (List.drop b.length) h1
  rwa [List.drop_left,← List.map_drop] at this
 have e3:(m.take b.length).length=b.length:=by simp; omega
 exact ⟨m.take b.length,m.drop b.length,(List.take_append_drop _ _).symm,e1,by omega,by omega,e2,fun c hc=>h2 c (by simp [hc])⟩
theorem Bft (c:Bool) (xs:List (List Be)) (y:List Be):(w8 c xs y).flatten=xs.flatten++(bif c then y else []):=by
 cases c<;>simp [w8]
theorem Bfu:∀ (m:List A1) (i:Nat) (s:List (List Be)×Bool×List Be) (p:List A1),i=p.length→s.1.flatten++(bif s.2.1 then s.2.2 else [])=p.map x7→(∀ b∈s.1,1≤b.length∧b.length≤20)→
  (0 < i→s.2.1=true)→(s.2.1=true→s.2.2.length=(if i % 20=0 then 20 else i % 20)∧0 < i)→Bfs (let r:=C9 Nn i m s; w8 r.2.1 r.1 r.2.2) (p++m)
 | [],i,s,p,hi,h1,h2,h3,h4=>by
  refine ⟨?_,fun b hb=>?_⟩
  ·show (w8 s.2.1 s.1 s.2.2).flatten=_
   rw [Bft,h1,List.append_nil]
  ·have hb:b∈w8 s.2.1 s.1 s.2.2:=hb
   cases hc:s.2.1 with
   | false=>rw [hc] at hb; exact h2 b hb
   | true=>
    rw [hc] at hb
    obtain ⟨h5,h6⟩:=h4 hc
    have hb:b∈s.1++[s.2.2]:=hb
    rcases List.mem_append.1 hb with q | q
    ·exact h2 b q
    ·rw [List.mem_singleton.1 q,h5]
     split<;>omega
 | x::m,i,s,p,hi,h1,h2,h3,h4=>by
  have key:=Bfu m (i + 1) (Nn i x s) (p++[x]) (by simp [hi]) (by
   unfold Nn
   cases hq:i % 20==0 with
   | true=>
    simp only [cond_true]
    rw [Bft,h1]
    simp
   | false=>
    have hp:0 < i:=Nat.pos_of_ne_zero fun q=>by subst q; cases hq
    rw [h3 hp] at h1
    simp only [cond_false,h3 hp,cond_true] at h1 ⊢
    rw [← List.append_assoc,h1]
    simp) (by
   unfold Nn
   cases hq:i % 20==0 with
   | true=>
    simp only [cond_true]
    intro b hb
    cases hc:s.2.1 with
    | false=>rw [hc] at hb; exact h2 b hb
    | true=>
     rw [hc] at hb
     obtain ⟨h5,h6⟩:=h4 hc
     have hb:b∈s.1++[s.2.2]:=hb
     rcases List.mem_append.1 hb with q | q
     ·exact h2 b q
     ·rw [List.mem_singleton.1 q,h5]
      split<;>omega
   | false=>exact h2) (by
   intro _
   unfold Nn
   cases hq:i % 20==0 with
   | true=>rfl
   | false=>exact h3 (Nat.pos_of_ne_zero fun q=>by subst q; cases hq)) (by
   unfold Nn
   cases hq:i % 20==0 with
   | true=>
    intro _
    have hq:=beq_iff_eq.1 hq
    refine ⟨?_,by omega⟩
    show 1=_
    rw [if_neg (by omega)]
    omega
   | false=>
    intro hc
    have hq:=beq_eq_false_iff_ne.1 hq
    obtain ⟨h5,h6⟩:=h4 hc
    refine ⟨?_,by omega⟩
    show (s.2.2++[x7 x]).length=_
    rw [Ef,Et,h5,if_neg hq]
    split<;>omega)
  rw [List.append_assoc] at key
  exact key
theorem Bnj {s:B5} (h:Ak s=true):Bfs (Ec s) s.1:=by
 unfold Ec
 rw [h,cond_true]
 exact Bfu s.1 0 ([],false,[]) [] rfl rfl (fun b hb=>by cases hb) (fun q=>by omega) (fun q=>by cases q)
def Jf (w first:Int):List Aa→Int→Yk→Option Yk
 | [],_,s=>some s
 | x::r,i,s=>bif G1 w first i s x then Jf w first r (i + 1) (C3 i (Av x w).1 s) else none
theorem Tu {w first i:Int} {s:Yk} {x:Aa} {r:List Aa} (h:G1 w first i s x=true):Jf w first (x::r) i s=Jf w first r (i + 1) (C3 i (Av x w).1 s):=by
 show (bif G1 w first i s x then _ else _)=_
 rw [h]
 rfl
theorem Ajv {w first:Int}:∀ (A:List Aa) {B:List Aa} {i:Int} {s:Yk},Jf w first (A++B) i s=(Jf w first A i s).bind (Jf w first B (i + A.length))
 | [],B,i,s=>by
  show Jf w first B i s=Jf w first B (i + ((0:Nat):Int)) s
  rw [show i + ((0:Nat):Int)=i by omega]
 | x::A,B,i,s=>by
  show (bif G1 w first i s x then Jf w first (A++B) (i + 1) _ else none)=(bif G1 w first i s x then Jf w first A (i + 1) _ else none).bind _
  cases G1 w first i s x with
  | false=>rfl
  | true=>
   simp only [cond_true]
   rw [Ajv A,List.length_cons,show i + 1 + (A.length:Int)=i + ((A.length + 1:Nat):Int) by omega]
theorem A9i {w first:Int}:∀ {A:List Aa} {B:List Aa} {i:Int} {s t:Yk},Jf w first A i s=some t→Cw w first (A++B) i s=Cw w first B (i + A.length) t
 | [],B,i,s,t,h=>by
  cases h
  show Cw w first B i s=Cw w first B (i + ((0:Nat):Int)) s
  rw [show i + ((0:Nat):Int)=i by omega]
 | x::A,B,i,s,t,h=>by
  cases hx:G1 w first i s x with
  | false=>
   have:Jf w first (x::A) i s=none:=by show (bif G1 w first i s x then _ else _)=_; rw [hx]; rfl
   rw [this] at h; cases h
  | true=>
   rw [Tu hx] at h
   show Cw w first (x::(A++B)) i s=_
   rw [Yl hx,A9i h,List.length_cons,show i + 1 + (A.length:Int)=i + ((A.length + 1:Nat):Int) by omega]
theorem Wb {i:Int} {p:Pg} {s:Yk}:(C3 i p s).2.1=p.2.1:=by
 unfold C3
 cases (p.1==1)
 ·cases (p.1==2)<;>rfl
 ·rfl
theorem A05 {wk wl:Int} {p:Pg} (h:Zu wk wl p=true):wl≤p.2.1:=by
 unfold Zu at h
 cases hc:decide (p.2.1 < wl) with
 | true=>rw [hc] at h; cases h
 | false=>have:=of_decide_eq_false hc; omega
theorem Bq6 {wk wl:Int} {p:Pg} (h:Zu wk wl p=true):p.1=1∨p.1=2∨(p.1=3∧wk≠1):=by
 unfold Zu at h
 cases hc:decide (p.2.1 < wl) with
 | true=>rw [hc] at h; cases h
 | false=>
  rw [hc] at h
  simp only [cond_false] at h
  by_cases h3:p.1=3
  ·rw [h3] at h
   exact .inr (.inr ⟨h3,bne_iff_ne.1 h⟩)
  ·rw [beq_eq_false_iff_ne.2 h3] at h
   simp only [cond_false] at h
   by_cases h1:p.1=1
   ·exact .inl h1
   ·by_cases h2:p.1=2
    ·exact .inr (.inl h2)
    ·rw [beq_eq_false_iff_ne.2 h1,beq_eq_false_iff_ne.2 h2] at h
     cases h
structure Bt0 (w first i:Int) (s:Yk) (x:Aa) (p:Pg):Prop where
 r:Av x w=(p,true)
 n:p.2.2.1=first + i
 g:Zu s.1 s.2.1 p=true
theorem Arl {w first i:Int} {s:Yk} {x:Aa} (h:G1 w first i s x=true):Bt0 w first i s x (Av x w).1:=by
 unfold G1 at h
 obtain ⟨h1,h2⟩:=B6 h
 obtain ⟨h2,h3⟩:=B6 h2
 have h2:(Av x w).1.2.2.1 - i=first:=by simpa using h2
 exact ⟨Prod.ext rfl h1,by omega,h3⟩
theorem Bt0.ok {w first i:Int} {s:Yk} {x:Aa} {p:Pg} (h:Bt0 w first i s x p):G1 w first i s x=true:=by
 unfold G1
 rw [h.r]
 have e:(p.2.2.1 - i==first)=true:=beq_iff_eq.2 (by have:=h.n; omega)
 simp only [e,h.g,Bool.and_self]
theorem Ag3 {w first:Int}:∀ {A:List Aa} {i:Int} {s t:Yk},Jf w first A i s=some t→s.2.1≤t.2.1
 | [],i,s,t,h=>by cases h; exact Int.le_refl _
 | x::A,i,s,t,h=>by
  cases hx:G1 w first i s x with
  | false=>
   have:Jf w first (x::A) i s=none:=by show (bif G1 w first i s x then _ else _)=_; rw [hx]; rfl
   rw [this] at h; cases h
  | true=>
   rw [Tu hx] at h
   have h1:=Ag3 h
   have h2:=A05 (Arl hx).g
   rw [Wb] at h1
   omega
structure Clo (i:Int) (s:Yk):Prop where
 k:s.1≠1
 o:s.2.2.1=z0
 u:s.2.2.2.2.1=i
 l:s.2.2.2.2.2=s.2.1
theorem Bko {i:Int} {p:Pg} {s:Yk} (h:p.1≠1):Clo (i + 1) (C3 i p s):=by
 unfold C3
 rw [beq_eq_false_iff_ne.2 h]
 simp only [cond_false]
 cases hk:(p.1==2)
 ·exact ⟨h,rfl,rfl,rfl⟩
 ·exact ⟨show (2:Int)≠1 by decide,rfl,rfl,rfl⟩
theorem Bq7 {i:Int} {p:Pg} {s:Yk} (h:p.1=1):C3 i p s=(1,p.2.1,s.2.2.1++p.2.2.2.1,s.2.2.2):=by
 unfold C3
 rw [h]
 rfl
theorem Au4 {w first:Int}:∀ (B:List Aa) (i:Int) (s:Yk),(∃ A R t,B=A++R∧Jf w first A i s=some t∧Clo (i + A.length) t∧Cw w first B i s=Uh t)∨Cw w first B i s=Uh s
 | [],i,s=>.inr rfl
 | x::B,i,s=>by
  cases hx:G1 w first i s x with
  | false=>exact .inr (Ark hx)
  | true=>
   have hs:=Yl (r:=B) hx
   rcases Au4 B (i + 1) (C3 i (Av x w).1 s) with ⟨A,R,t,h1,h2,h3,h4⟩ | h
   ·refine .inl ⟨x::A,R,t,by rw [h1]; rfl,by rw [Tu hx]; exact h2,?_,by rw [hs]; exact h4⟩
    rw [List.length_cons,show i + ((A.length + 1:Nat):Int)=i + 1 + (A.length:Int) by omega]
    exact h3
   ·by_cases h1:(Av x w).1.1=1
    ·refine .inr ?_
     rw [hs,h,Bq7 h1]
     rfl
    ·refine .inl ⟨[x],B,_,rfl,by rw [Tu hx]; rfl,?_,by rw [hs]; exact h⟩
     exact Bko h1
theorem A06 {w first life:Int} (hw:Bw w 1 8=true) (hl:Bw life 1 60000=true):∀ (P:List Aa) (i:Int) (st:Yk),P≠[]→(∀ p∈P,(p.size:Int)≤56 - w)→1≤first + i→first + i + P.length≤1000000001→
  st.2.1≤life→(st.1=1→st.2.1=life)→Jf w first (J6 life w (first + i) P) i st=some (2,life,z0,st.2.2.2.1++[st.2.2.1++cat P],i + P.length,life)
 | [],_,_,h,_,_,_,_,_=>absurd rfl h
 | [p],i,st,_,hs,h1,h2,h3,h4=>by
  have ok:Eg (2,life,first + i,p,()) w=true:=y6 hw hl (.inr rfl) h1 (by simp only [Et] at h2; omega) (hs p (by simp))
  show Jf w first (Cc (2,life,first + i,p,()) w::[]) i st=_
  rw [Tu (by rw [Aaf ok,Aag (.inr rfl) h3 h4]; simp),I4 ok]
  have e:cat [p]=p:=A65 p
  rw [e]
  rfl
 | p::q::r,i,st,_,hs,h1,h2,h3,h4=>by
  simp only [List.length_cons] at h2
  have ok:Eg (1,life,first + i,p,()) w=true:=y6 hw hl (.inl rfl) h1 (by omega) (hs p (by simp))
  show Jf w first (Cc (1,life,first + i,p,()) w::J6 life w (first + i + 1) (q::r)) i st=_
  rw [Tu (by rw [Aaf ok,Aag (.inl rfl) h3 h4]; simp),I4 ok,show first + i + 1=first + (i + 1) by omega]
  rw [A06 hw hl (q::r) (i + 1) _ (by simp) (fun x hx=>hs x (by simp only [List.mem_cons] at hx ⊢; exact .inr hx)) (by omega) (by simp only [List.length_cons]; omega) (Int.le_refl life) (fun _=>rfl)]
  have e1:i + 1 + ((q::r).length:Int)=i + ((p::q::r).length:Int):=by simp only [List.length_cons]; omega
  have e2:(C3 i (1,life,first + i,p,()) st).2.2.2.1=st.2.2.2.1:=rfl
  have e3:(C3 i (1,life,first + i,p,()) st).2.2.1=st.2.2.1++p:=rfl
  have e4:cat (p::q::r)=p++cat (q::r):=rfl
  rw [e1,e2,e3,e4,ByteArray.append_assoc]
theorem Bkp {w first life:Int} (hw:Bw w 1 8=true) (hl:Bw life 1 60000=true):∀ (P:List Aa) (i:Int) (st:Yk) (m:Nat),m < P.length→(∀ p∈P,(p.size:Int)≤56 - w)→1≤first + i→first + i + P.length≤1000000001→
  st.2.1=life→∃ st':Yk,st'.2.2.2=st.2.2.2∧st'.2.1=life∧Jf w first ((J6 life w (first + i) P).take m) i st=some st'
 | P,i,st,0,_,_,_,_,h=>⟨st,rfl,h,by simp [Jf]⟩
 | [],_,_,m + 1,h,_,_,_,_=>by simp at h
 | [p],_,_,m + 1,h,_,_,_,_=>by simp at h
 | p::q::r,i,st,m + 1,hm,hs,h1,h2,h3=>by
  simp only [List.length_cons] at h2 hm
  have ok:Eg (1,life,first + i,p,()) w=true:=y6 hw hl (.inl rfl) h1 (by omega) (hs p (by simp))
  obtain ⟨st',k1,k2,k3⟩:=Bkp (first:=first) hw hl (q::r) (i + 1) (C3 i (1,life,first + i,p,()) st) m (by simp only [List.length_cons]; omega) (fun x hx=>hs x (by simp only [List.mem_cons] at hx ⊢; exact .inr hx)) (by omega) (by simp only [List.length_cons]; omega) rfl
  refine ⟨st',k1,k2,?_⟩
  show Jf w first (Cc (1,life,first + i,p,()) w::((J6 life w (first + i + 1) (q::r)).take m)) i st=_
  rw [Tu (by rw [Aaf ok,Aag (.inl rfl) (Int.le_of_eq h3) (fun _=>h3)]; simp),I4 ok,show first + i + 1=first + (i + 1) by omega,k3]
def qP (L w:Int):Int→List Aa→List Aa
 | _,[]=>[]
 | k,e::E=>J6 L w k (Ao e w)++qP L w (k + (Ao e w).length) E
theorem Adq (L w k:Int) (e:Aa) (E:List Aa):(qP L w k (e::E)).length=(Ao e w).length + (qP L w (k + (Ao e w).length) E).length:=by
 show (J6 L w k (Ao e w)++qP L w (k + (Ao e w).length) E).length=_
 rw [Ef,(R4 _ _ _ _).1]
theorem Bhi (L w:Int):∀ (E:List Aa) (k k':Int) ,(qP L w k E).length=(qP L w k' E).length
 | [],_,_=>rfl
 | e::E,k,k'=>by rw [Adq,Adq,Bhi L w E _ (k' + (Ao e w).length)]
theorem Bnk (L w:Int):∀ (E F:List Aa) (k:Int),qP L w k (E++F)=qP L w k E++qP L w (k + (qP L w k E).length) F
 | [],F,k=>by
  show qP L w k F=qP L w (k + ((0:Nat):Int)) F
  rw [show k + ((0:Nat):Int)=k by omega]
 | e::E,F,k=>by
  show J6 L w k (Ao e w)++qP L w (k + (Ao e w).length) (E++F)=(J6 L w k (Ao e w)++qP L w (k + (Ao e w).length) E)++_
  rw [Bnk L w E F,List.append_assoc,Adq,show k + ((Ao e w).length:Int) + ((qP L w (k + (Ao e w).length) E).length:Int)=k + (((Ao e w).length + (qP L w (k + (Ao e w).length) E).length:Nat):Int) by omega]
theorem Bpi {w first L:Int} (hw:Bw w 1 8=true) (hl:Bw L 1 60000=true):∀ (E:List Aa) (i:Int) (s:Yk),Clo i s→1≤first + i→first + i + (qP L w (first + i) E).length≤1000000001→s.2.1=L→
  ∃ t,Jf w first (qP L w (first + i) E) i s=some t∧Clo (i + (qP L w (first + i) E).length) t∧t.2.1=L∧t.2.2.2.1=s.2.2.2.1++E
 | [],i,s,hc,_,_,h=>⟨s,rfl,by rw [show i + ((qP L w (first + i) []).length:Int)=i by show i + ((0:Nat):Int)=i; omega]; exact hc,h,by simp⟩
 | e::E,i,s,hc,h1,h2,h=>by
  rw [Adq] at h2 ⊢
  obtain ⟨k1,k2,k3⟩:=Agz e hw
  have h2':=Bhi L w E (first + i + (Ao e w).length) (first + (i + (Ao e w).length))
  have he:=A06 (first:=first) hw hl (Ao e w) i s k3 k1 h1 (by omega) (Int.le_of_eq h) (fun _=>h)
  rw [hc.o,Bnd,k2] at he
  obtain ⟨t,t1,t2,t3,t4⟩:=Bpi (first:=first) hw hl E (i + (Ao e w).length) (2,L,z0,s.2.2.2.1++[e],i + (Ao e w).length,L) ⟨show (2:Int)≠1 by decide,rfl,rfl,rfl⟩ (by omega) (by omega) rfl
  refine ⟨t,?_,?_,t3,?_⟩
  ·show Jf w first (J6 L w (first + i) (Ao e w)++qP L w (first + i + (Ao e w).length) E) i s=_
   rw [Ajv,he,Option.bind_some,(R4 _ _ _ _).1,show first + i + ((Ao e w).length:Int)=first + (i + (Ao e w).length) by omega]
   exact t1
  ·rw [h2',show i + (((Ao e w).length + (qP L w (first + (i + (Ao e w).length)) E).length:Nat):Int)=i + ((Ao e w).length:Int) + ((qP L w (first + (i + (Ao e w).length)) E).length:Int) by omega]
   exact t2
  ·rw [t4]
   simp
theorem Bkq {w first L:Int} (hw:Bw w 1 8=true) (hl:Bw L 1 60000=true):∀ (E:List Aa) (i:Int) (s:Yk) (j:Nat),Clo i s→j≤(qP L w (first + i) E).length→1≤first + i→first + i + (qP L w (first + i) E).length≤1000000001→s.2.1=L→
  ∃ st n,n≤E.length∧Jf w first ((qP L w (first + i) E).take j) i s=some st∧st.2.1=L∧st.2.2.2.1=s.2.2.2.1++E.take n
 | [],i,s,j,_,_,_,_,h=>⟨s,0,Nat.le_refl 0,by simp [qP,Jf],h,by simp⟩
 | e::E,i,s,j,hc,hj,h1,h2,h=>by
  rw [Adq] at h2 hj
  obtain ⟨k1,k2,k3⟩:=Agz e hw
  have hq:qP L w (first + i) (e::E)=J6 L w (first + i) (Ao e w)++qP L w (first + i + (Ao e w).length) E:=rfl
  have hlen:=(R4 L w (Ao e w) (first + i)).1
  by_cases q:j < (Ao e w).length
  ·obtain ⟨st,q1,q2,q3⟩:=Bkp (first:=first) hw hl (Ao e w) i s j q k1 h1 (by omega) h
   refine ⟨st,0,Nat.zero_le _,?_,q2,by rw [q1]; simp⟩
   rw [hq,List.take_append_of_le_length (by omega)]
   exact q3
  ·have h2':=Bhi L w E (first + i + (Ao e w).length) (first + (i + (Ao e w).length))
   have he:=A06 (first:=first) hw hl (Ao e w) i s k3 k1 h1 (by omega) (Int.le_of_eq h) (fun _=>h)
   rw [hc.o,Bnd,k2] at he
   obtain ⟨st,n,t0,t1,t2,t3⟩:=Bkq (first:=first) hw hl E (i + (Ao e w).length) (2,L,z0,s.2.2.2.1++[e],i + (Ao e w).length,L) (j - (Ao e w).length) ⟨show (2:Int)≠1 by decide,rfl,rfl,rfl⟩ (by omega) (by omega) (by omega) rfl
   refine ⟨st,n + 1,by simp only [List.length_cons]; omega,?_,t2,?_⟩
   ·rw [hq,show j=(J6 L w (first + i) (Ao e w)).length + (j - (Ao e w).length) by omega,List.take_length_add_append,Ajv,he,Option.bind_some,hlen,show first + i + ((Ao e w).length:Int)=first + (i + (Ao e w).length) by omega]
    exact t1
   ·rw [t3]
    simp
end Go.Proofs.YtfkefgbihlfjmaaGreat.V
end
